/- Texts of this claim, joined: an abstract machine over the model, proved sound; contracts of functions. -/
import Derived.Test.YtligakiolapkkaaDoorV31
import Derived.Test.YtligakiolapkkaaDoorChecked
import Derived.KernelRfl
import Derived.Test.YtligakiolapkkaaDoorV32
import Derived.Test.YtligakiolapkkaaDoorM1
set_option linter.unusedSimpArgs false
set_option linter.unusedVariables false

namespace Go.Proofs.YtligakiolapkkaaDoor
open Go GoV
set_option maxRecDepth 100000
def c23A0 : AC := AC.reg false [{ dst := some 6, ins := GoV.Instr.mov (Opd.t 17), guard := none }]
set_option maxRecDepth 100000 in
theorem h23A0 : cCode Tryd.prog 39 k23a0 = some c23A0 := by kernel_rfl
def c23B0L0 : AC := (AC.reg false [{ dst := some 24, ins := GoV.Instr.bin BinOp.lss (Opd.t 23) (Opd.t 22), guard := none }]).seq ((AC.cond (Opd.t 24) AC.skip (AC.exit 2)).seq ((AC.block 3 ((AC.reg false [{ dst := some 25, ins := GoV.Instr.mov (Opd.t 23), guard := none }, { dst := some 26, ins := GoV.Instr.idxA 1 (Opd.t 21) (Opd.t 23), guard := none }, { dst := some 27, ins := GoV.Instr.load 1 false (Opd.t 26), guard := none }, { dst := some 8, ins := GoV.Instr.mov (Opd.t 25), guard := none }, { dst := some 9, ins := GoV.Instr.mov (Opd.t 27), guard := none }]).seq (AC.reg false [{ dst := some 28, ins := GoV.Instr.mov (Opd.t 7), guard := none }, { dst := some 29, ins := GoV.Instr.mov (Opd.t 8), guard := none }, { dst := some 30, ins := GoV.Instr.mov (Opd.t 9), guard := none }, { dst := some 31, ins := GoV.Instr.call (Opd.c (AV.fn 39 [] [])) [Opd.t 30], guard := none }, { dst := some 32, ins := GoV.Instr.idxA 1 (Opd.t 28) (Opd.t 29), guard := none }, { dst := none, ins := GoV.Instr.store 1 (Opd.t 32) (Opd.t 31), guard := none }]))).seq (AC.reg false [{ dst := some 33, ins := GoV.Instr.bin BinOp.add (Opd.t 23) (Opd.c (AV.dat (Ty.int IntKind.i64) (1 : Int))), guard := none }, { dst := some 23, ins := GoV.Instr.mov (Opd.t 33), guard := none }])))
def c23B0 : AC := AC.block 1 ((AC.reg false [{ dst := some 18, ins := GoV.Instr.mov (Opd.t 6), guard := none }, { dst := some 19, ins := GoV.Instr.len (Opd.t 18), guard := none }, { dst := some 20, ins := GoV.Instr.mkB [AV.nils] 1 24 (Opd.t 19) (Opd.t 19), guard := none }, { dst := some 7, ins := GoV.Instr.mov (Opd.t 20), guard := none }]).seq (((AC.reg false [{ dst := some 21, ins := GoV.Instr.mov (Opd.t 6), guard := none }, { dst := some 22, ins := GoV.Instr.len (Opd.t 21), guard := none }, { dst := some 23, ins := GoV.Instr.mov (Opd.c (AV.dat (Ty.int IntKind.i64) (0 : Int))), guard := none }]).seq (AC.block 2 (AC.loop c23B0L0))).seq (AC.reg false [{ dst := some 34, ins := GoV.Instr.load 1 false (Opd.t 5), guard := none }, { dst := some 35, ins := GoV.Instr.mov (Opd.t 7), guard := none }, { dst := some 36, ins := GoV.Instr.bsliceB (Ty.int IntKind.i64).list.list [AV.nils] 1 1 [(0, Opd.t 35)], guard := none }, { dst := some 37, ins := GoV.Instr.app (Ty.int IntKind.i64).list.list 24 (Opd.t 34) (Opd.t 36), guard := none }, { dst := none, ins := GoV.Instr.store 1 (Opd.t 5) (Opd.t 37), guard := none }])))
set_option maxRecDepth 100000 in
theorem h23B0 : cCode Tryd.prog 39 k23b0 = some c23B0 := by kernel_rfl
def c23 : FnC := { n := 39, body := (AC.reg false [{ dst := some 2, ins := GoV.Instr.mov (Opd.c AV.nils), guard := none }, { dst := some 3, ins := GoV.Instr.mov (Opd.c (AV.dat (Ty.int IntKind.i64) (0 : Int))), guard := none }]).seq (((AC.reg false [{ dst := some 10, ins := GoV.Instr.mov (Opd.t 0), guard := none }, { dst := some 11, ins := GoV.Instr.call (Opd.c (AV.fn 12 [] [])) [Opd.t 10], guard := none }, { dst := some 4, ins := GoV.Instr.mov (Opd.t 11), guard := none }]).seq ((AC.reg false [{ dst := some 12, ins := GoV.Instr.mov (Opd.t 4), guard := none }, { dst := some 13, ins := GoV.Instr.bin BinOp.neq (Opd.t 12) (Opd.c (AV.dat (Ty.int IntKind.i64) (0 : Int))), guard := none }]).seq (AC.cond (Opd.t 13) ((AC.reg false [{ dst := some 14, ins := GoV.Instr.mov (Opd.t 4), guard := none }, { dst := some 2, ins := GoV.Instr.mov (Opd.c AV.nils), guard := none }, { dst := some 3, ins := GoV.Instr.mov (Opd.t 14), guard := none }]).seq AC.ret) AC.skip))).seq ((AC.reg false [{ dst := some 5, ins := GoV.Instr.alloc [AV.nils], guard := none }]).seq (((AC.reg false [{ dst := some 15, ins := GoV.Instr.mov (Opd.t 0), guard := none }, { dst := some 16, ins := GoV.Instr.call (Opd.c (AV.fn 46 [] [])) [Opd.t 15], guard := none }]).seq (AC.block 0 (AC.rangeF (Opd.t 16) [17] k23a0 k23b0))).seq ((AC.reg false [{ dst := some 38, ins := GoV.Instr.load 1 false (Opd.t 5), guard := none }, { dst := some 2, ins := GoV.Instr.mov (Opd.t 38), guard := none }, { dst := some 3, ins := GoV.Instr.mov (Opd.c (AV.dat (Ty.int IntKind.i64) (0 : Int))), guard := none }]).seq AC.ret)))), res := [RV.tmp 2, RV.tmp 3] }
set_option maxRecDepth 100000 in
theorem h23 : fnOf Tryd.prog 23 = some c23 := by kernel_rfl
def c24L0 : AC := (AC.reg false [{ dst := some 18, ins := GoV.Instr.bin BinOp.lss (Opd.t 17) (Opd.t 16), guard := none }]).seq ((AC.cond (Opd.t 18) AC.skip (AC.exit 0)).seq ((AC.block 1 ((AC.reg false [{ dst := some 19, ins := GoV.Instr.mov (Opd.t 17), guard := none }, { dst := some 20, ins := GoV.Instr.idxA 1 (Opd.t 15) (Opd.t 17), guard := none }, { dst := some 21, ins := GoV.Instr.load 1 false (Opd.t 20), guard := none }, { dst := some 7, ins := GoV.Instr.mov (Opd.t 19), guard := none }, { dst := some 8, ins := GoV.Instr.mov (Opd.t 21), guard := none }]).seq ((AC.reg false [{ dst := some 22, ins := GoV.Instr.mov (Opd.t 1), guard := none }, { dst := some 23, ins := GoV.Instr.mov (Opd.t 7), guard := none }, { dst := some 24, ins := GoV.Instr.idxA 1 (Opd.t 22) (Opd.t 23), guard := none }, { dst := some 25, ins := GoV.Instr.load 1 false (Opd.t 24), guard := none }, { dst := some 9, ins := GoV.Instr.mov (Opd.t 25), guard := none }]).seq ((AC.reg false [{ dst := some 26, ins := GoV.Instr.mov (Opd.t 2), guard := none }, { dst := some 27, ins := GoV.Instr.mov (Opd.t 8), guard := none }, { dst := some 28, ins := GoV.Instr.mov (Opd.t 9), guard := none }, { dst := some 29, ins := GoV.Instr.call (Opd.t 26) [Opd.t 27, Opd.t 28], guard := none }, { dst := some 30, ins := GoV.Instr.un UnOp.not (Opd.t 29), guard := none }]).seq (AC.cond (Opd.t 30) ((AC.reg false [{ dst := some 6, ins := GoV.Instr.mov (Opd.c (AV.dat Ty.bool false)), guard := none }]).seq AC.ret) AC.skip))))).seq (AC.reg false [{ dst := some 31, ins := GoV.Instr.bin BinOp.add (Opd.t 17) (Opd.c (AV.dat (Ty.int IntKind.i64) (1 : Int))), guard := none }, { dst := some 17, ins := GoV.Instr.mov (Opd.t 31), guard := none }])))
def c24 : FnC := { n := 32, body := (AC.reg false [{ dst := some 6, ins := GoV.Instr.mov (Opd.c (AV.dat Ty.bool false)), guard := none }]).seq (((AC.reg false [{ dst := some 10, ins := GoV.Instr.mov (Opd.t 0), guard := none }, { dst := some 11, ins := GoV.Instr.len (Opd.t 10), guard := none }, { dst := some 12, ins := GoV.Instr.mov (Opd.t 1), guard := none }, { dst := some 13, ins := GoV.Instr.len (Opd.t 12), guard := none }, { dst := some 14, ins := GoV.Instr.bin BinOp.neq (Opd.t 11) (Opd.t 13), guard := none }]).seq (AC.cond (Opd.t 14) ((AC.reg false [{ dst := some 6, ins := GoV.Instr.mov (Opd.c (AV.dat Ty.bool false)), guard := none }]).seq AC.ret) AC.skip)).seq (((AC.reg false [{ dst := some 15, ins := GoV.Instr.mov (Opd.t 0), guard := none }, { dst := some 16, ins := GoV.Instr.len (Opd.t 15), guard := none }, { dst := some 17, ins := GoV.Instr.mov (Opd.c (AV.dat (Ty.int IntKind.i64) (0 : Int))), guard := none }]).seq (AC.block 0 (AC.loop c24L0))).seq ((AC.reg false [{ dst := some 6, ins := GoV.Instr.mov (Opd.c (AV.dat Ty.bool true)), guard := none }]).seq AC.ret))), res := [RV.tmp 6] }
set_option maxRecDepth 100000 in
theorem h24 : fnOf Tryd.prog 24 = some c24 := by kernel_rfl
def c25 : FnC := { n := 8, body := (AC.reg false [{ dst := some 2, ins := GoV.Instr.mov (Opd.c AV.nils), guard := none }]).seq ((AC.reg false [{ dst := some 3, ins := GoV.Instr.mov (Opd.t 0), guard := none }, { dst := some 4, ins := GoV.Instr.call (Opd.c (AV.fn 18 [] [])) [Opd.t 3], guard := none }, { dst := some 5, ins := GoV.Instr.mov (Opd.t 0), guard := none }, { dst := some 6, ins := GoV.Instr.call (Opd.c (AV.fn 19 [] [])) [Opd.t 5], guard := none }, { dst := some 7, ins := GoV.Instr.call (Opd.c (AV.fn 47 [] [])) [Opd.t 4, Opd.t 6], guard := none }, { dst := some 2, ins := GoV.Instr.mov (Opd.t 7), guard := none }]).seq AC.ret), res := [RV.tmp 2] }
set_option maxRecDepth 100000 in
theorem h25 : fnOf Tryd.prog 25 = some c25 := by kernel_rfl
def c26L0 : AC := ((AC.reg false [{ dst := some 29, ins := GoV.Instr.mov (Opd.t 6), guard := none }, { dst := some 30, ins := GoV.Instr.mov (Opd.t 0), guard := none }, { dst := some 31, ins := GoV.Instr.mov (Opd.t 5), guard := none }, { dst := some 32, ins := GoV.Instr.idxA 1 (Opd.t 30) (Opd.t 31), guard := none }, { dst := some 33, ins := GoV.Instr.load 1 false (Opd.t 32), guard := none }, { dst := some 34, ins := GoV.Instr.len (Opd.t 33), guard := none }, { dst := some 35, ins := GoV.Instr.bin BinOp.lss (Opd.t 29) (Opd.t 34), guard := none }]).seq (AC.cond (Opd.t 35) AC.skip (AC.exit 2))).seq ((AC.block 3 ((AC.reg true [{ dst := some 38, ins := GoV.Instr.mov (Opd.t 0), guard := none }, { dst := some 39, ins := GoV.Instr.mov (Opd.t 5), guard := none }, { dst := some 40, ins := GoV.Instr.idxA 1 (Opd.t 38) (Opd.t 39), guard := none }, { dst := some 41, ins := GoV.Instr.load 1 false (Opd.t 40), guard := none }, { dst := some 42, ins := GoV.Instr.mov (Opd.t 6), guard := none }, { dst := some 43, ins := GoV.Instr.idxA 1 (Opd.t 41) (Opd.t 42), guard := none }, { dst := some 44, ins := GoV.Instr.load 1 false (Opd.t 43), guard := none }, { dst := some 45, ins := GoV.Instr.mov (Opd.t 1), guard := none }, { dst := some 46, ins := GoV.Instr.mov (Opd.t 5), guard := none }, { dst := some 47, ins := GoV.Instr.idxA 1 (Opd.t 45) (Opd.t 46), guard := none }, { dst := some 48, ins := GoV.Instr.load 1 false (Opd.t 47), guard := none }, { dst := some 49, ins := GoV.Instr.mov (Opd.t 6), guard := none }, { dst := some 50, ins := GoV.Instr.idxA 1 (Opd.t 48) (Opd.t 49), guard := none }, { dst := some 51, ins := GoV.Instr.load 1 false (Opd.t 50), guard := none }, { dst := some 52, ins := GoV.Instr.bin BinOp.neq (Opd.t 44) (Opd.t 51), guard := none }]).seq (AC.cond (Opd.t 52) ((AC.reg false [{ dst := some 4, ins := GoV.Instr.mov (Opd.c (AV.dat Ty.bool false)), guard := none }]).seq AC.ret) AC.skip))).seq (AC.reg false [{ dst := some 36, ins := GoV.Instr.mov (Opd.t 6), guard := none }, { dst := some 37, ins := GoV.Instr.bin BinOp.add (Opd.t 36) (Opd.c (AV.dat (Ty.int IntKind.i64) (1 : Int))), guard := none }, { dst := some 6, ins := GoV.Instr.mov (Opd.t 37), guard := none }]))
def c26L1 : AC := ((AC.reg false [{ dst := some 12, ins := GoV.Instr.mov (Opd.t 5), guard := none }, { dst := some 13, ins := GoV.Instr.mov (Opd.t 0), guard := none }, { dst := some 14, ins := GoV.Instr.len (Opd.t 13), guard := none }, { dst := some 15, ins := GoV.Instr.bin BinOp.lss (Opd.t 12) (Opd.t 14), guard := none }]).seq (AC.cond (Opd.t 15) AC.skip (AC.exit 0))).seq ((AC.block 1 (((AC.reg true [{ dst := some 18, ins := GoV.Instr.mov (Opd.t 0), guard := none }, { dst := some 19, ins := GoV.Instr.mov (Opd.t 5), guard := none }, { dst := some 20, ins := GoV.Instr.idxA 1 (Opd.t 18) (Opd.t 19), guard := none }, { dst := some 21, ins := GoV.Instr.load 1 false (Opd.t 20), guard := none }, { dst := some 22, ins := GoV.Instr.len (Opd.t 21), guard := none }, { dst := some 23, ins := GoV.Instr.mov (Opd.t 1), guard := none }, { dst := some 24, ins := GoV.Instr.mov (Opd.t 5), guard := none }, { dst := some 25, ins := GoV.Instr.idxA 1 (Opd.t 23) (Opd.t 24), guard := none }, { dst := some 26, ins := GoV.Instr.load 1 false (Opd.t 25), guard := none }, { dst := some 27, ins := GoV.Instr.len (Opd.t 26), guard := none }, { dst := some 28, ins := GoV.Instr.bin BinOp.neq (Opd.t 22) (Opd.t 27), guard := none }]).seq (AC.cond (Opd.t 28) ((AC.reg false [{ dst := some 4, ins := GoV.Instr.mov (Opd.c (AV.dat Ty.bool false)), guard := none }]).seq AC.ret) AC.skip)).seq ((AC.reg false [{ dst := some 6, ins := GoV.Instr.mov (Opd.c (AV.dat (Ty.int IntKind.i64) (0 : Int))), guard := none }]).seq (AC.block 2 (AC.loop c26L0))))).seq (AC.reg false [{ dst := some 16, ins := GoV.Instr.mov (Opd.t 5), guard := none }, { dst := some 17, ins := GoV.Instr.bin BinOp.add (Opd.t 16) (Opd.c (AV.dat (Ty.int IntKind.i64) (1 : Int))), guard := none }, { dst := some 5, ins := GoV.Instr.mov (Opd.t 17), guard := none }]))
def c26 : FnC := { n := 53, body := (AC.reg false [{ dst := some 4, ins := GoV.Instr.mov (Opd.c (AV.dat Ty.bool false)), guard := none }]).seq (((AC.reg false [{ dst := some 7, ins := GoV.Instr.mov (Opd.t 0), guard := none }, { dst := some 8, ins := GoV.Instr.len (Opd.t 7), guard := none }, { dst := some 9, ins := GoV.Instr.mov (Opd.t 1), guard := none }, { dst := some 10, ins := GoV.Instr.len (Opd.t 9), guard := none }, { dst := some 11, ins := GoV.Instr.bin BinOp.neq (Opd.t 8) (Opd.t 10), guard := none }]).seq (AC.cond (Opd.t 11) ((AC.reg false [{ dst := some 4, ins := GoV.Instr.mov (Opd.c (AV.dat Ty.bool false)), guard := none }]).seq AC.ret) AC.skip)).seq (((AC.reg false [{ dst := some 5, ins := GoV.Instr.mov (Opd.c (AV.dat (Ty.int IntKind.i64) (0 : Int))), guard := none }]).seq (AC.block 0 (AC.loop c26L1))).seq ((AC.reg false [{ dst := some 4, ins := GoV.Instr.mov (Opd.c (AV.dat Ty.bool true)), guard := none }]).seq AC.ret))), res := [RV.tmp 4] }
set_option maxRecDepth 100000 in
theorem h26 : fnOf Tryd.prog 26 = some c26 := by kernel_rfl
def k27a0 : Code := (Code.region 6 { toList := [{ dst := some 8, op := Op.assign (Operand.tmp 23), type := 25, pos := "tail.go:155", after := { toList := [] }, guard := none }] } false)
def k27b0 : Code := (Code.block 1 ((Code.region 7 { toList := [{ dst := some 24, op := Op.move (Operand.tmp 8), type := 25, pos := "tail.go:156", after := { toList := [] }, guard := none }, { dst := some 25, op := Op.call { callee := Callee.value (Operand.func 43), args := { toList := [Operand.tmp 24] }, argTypes := { toList := [25] } }, type := 3, pos := "tail.go:156", after := { toList := [{ on := 0, ground := Ground.data }] }, guard := none }, { dst := some 9, op := Op.assign (Operand.tmp 25), type := 3, pos := "tail.go:156", after := { toList := [{ on := 1, ground := Ground.data }, { on := 1, ground := Ground.chain }, { on := 0, ground := Ground.phase }, { on := 1, ground := Ground.phase }] }, guard := none }] } false).seq ((Code.region 8 { toList := [{ dst := some 26, op := Op.move (Operand.tmp 9), type := 3, pos := "tail.go:156", after := { toList := [] }, guard := none }, { dst := some 27, op := Op.load 3 (Operand.tmp 6), type := 3, pos := "tail.go:156", after := { toList := [] }, guard := none }, { dst := some 28, op := Op.binOp BinOp.leq 3 (Operand.tmp 26) (Operand.tmp 27) 3, type := 4, pos := "tail.go:156", after := { toList := [{ on := 0, ground := Ground.data }, { on := 1, ground := Ground.data }] }, guard := none }] } false).seq (Code.cond (Operand.tmp 28) (Code.region 9 { toList := [{ dst := some 29, op := Op.load 3 (Operand.tmp 7), type := 3, pos := "tail.go:157", after := { toList := [] }, guard := none }, { dst := some 30, op := Op.move (Operand.tmp 9), type := 3, pos := "tail.go:157", after := { toList := [] }, guard := none }, { dst := some 31, op := Op.binOp BinOp.add 3 (Operand.tmp 29) (Operand.tmp 30) 3, type := 3, pos := "tail.go:157", after := { toList := [{ on := 0, ground := Ground.data }, { on := 1, ground := Ground.data }] }, guard := none }, { dst := none, op := Op.store 3 (Operand.tmp 7) (Operand.tmp 31), type := 0, pos := "tail.go:157", after := { toList := [{ on := 2, ground := Ground.data }, { on := 0, ground := Ground.phase }, { on := 1, ground := Ground.phase }, { on := 2, ground := Ground.phase }] }, guard := none }] } false) Code.skip))))
def c27A0 : AC := AC.reg false [{ dst := some 8, ins := GoV.Instr.mov (Opd.t 23), guard := none }]
set_option maxRecDepth 100000 in
theorem h27A0 : cCode Tryd.prog 37 k27a0 = some c27A0 := by kernel_rfl
def c27B0 : AC := AC.block 1 ((AC.reg false [{ dst := some 24, ins := GoV.Instr.mov (Opd.t 8), guard := none }, { dst := some 25, ins := GoV.Instr.call (Opd.c (AV.fn 43 [] [])) [Opd.t 24], guard := none }, { dst := some 9, ins := GoV.Instr.mov (Opd.t 25), guard := none }]).seq ((AC.reg false [{ dst := some 26, ins := GoV.Instr.mov (Opd.t 9), guard := none }, { dst := some 27, ins := GoV.Instr.load 1 false (Opd.t 6), guard := none }, { dst := some 28, ins := GoV.Instr.bin BinOp.leq (Opd.t 26) (Opd.t 27), guard := none }]).seq (AC.cond (Opd.t 28) (AC.reg false [{ dst := some 29, ins := GoV.Instr.load 1 false (Opd.t 7), guard := none }, { dst := some 30, ins := GoV.Instr.mov (Opd.t 9), guard := none }, { dst := some 31, ins := GoV.Instr.bin BinOp.add (Opd.t 29) (Opd.t 30), guard := none }, { dst := none, ins := GoV.Instr.store 1 (Opd.t 7) (Opd.t 31), guard := none }]) AC.skip)))
set_option maxRecDepth 100000 in
theorem h27B0 : cCode Tryd.prog 37 k27b0 = some c27B0 := by kernel_rfl
def c27 : FnC := { n := 37, body := (AC.reg false [{ dst := some 2, ins := GoV.Instr.alloc [AV.dat (Ty.int IntKind.i64) (0 : Int), AV.dat (Ty.int IntKind.i64) (0 : Int)], guard := none }, { dst := some 3, ins := GoV.Instr.mov (Opd.c (AV.dat (Ty.int IntKind.i64) (0 : Int))), guard := none }]).seq ((AC.reg false [{ dst := some 11, ins := GoV.Instr.mov (Opd.t 0), guard := none }, { dst := some 12, ins := GoV.Instr.call (Opd.c (AV.fn 15 [] [])) [Opd.t 11], guard := none }, { dst := some 10, ins := GoV.Instr.mov (Opd.t 12), guard := none }, { dst := some 13, ins := GoV.Instr.ext (Opd.t 10) 0, guard := none }, { dst := some 14, ins := GoV.Instr.ext (Opd.t 10) 1, guard := none }, { dst := some 4, ins := GoV.Instr.mov (Opd.t 13), guard := none }, { dst := some 5, ins := GoV.Instr.mov (Opd.t 14), guard := none }]).seq (((AC.reg false [{ dst := some 15, ins := GoV.Instr.mov (Opd.t 5), guard := none }, { dst := some 16, ins := GoV.Instr.bin BinOp.neq (Opd.t 15) (Opd.c (AV.dat (Ty.int IntKind.i64) (0 : Int))), guard := none }]).seq (AC.cond (Opd.t 16) ((AC.reg false [{ dst := some 17, ins := GoV.Instr.build [AV.dat (Ty.int IntKind.i64) (0 : Int), AV.dat (Ty.int IntKind.i64) (0 : Int)] [], guard := none }, { dst := some 18, ins := GoV.Instr.mov (Opd.t 5), guard := none }, { dst := none, ins := GoV.Instr.store 2 (Opd.t 2) (Opd.t 17), guard := none }, { dst := some 3, ins := GoV.Instr.mov (Opd.t 18), guard := none }]).seq AC.ret) AC.skip)).seq ((AC.reg false [{ dst := some 19, ins := GoV.Instr.mov (Opd.t 0), guard := none }, { dst := some 20, ins := GoV.Instr.call (Opd.c (AV.fn 43 [] [])) [Opd.t 19], guard := none }, { dst := some 6, ins := GoV.Instr.alloc [AV.dat (Ty.int IntKind.i64) (0 : Int)], guard := none }, { dst := some 7, ins := GoV.Instr.alloc [AV.dat (Ty.int IntKind.i64) (0 : Int)], guard := none }, { dst := none, ins := GoV.Instr.store 1 (Opd.t 6) (Opd.t 20), guard := none }, { dst := none, ins := GoV.Instr.store 1 (Opd.t 7) (Opd.c (AV.dat (Ty.int IntKind.i64) (0 : Int))), guard := none }]).seq (((AC.reg false [{ dst := some 21, ins := GoV.Instr.mov (Opd.t 0), guard := none }, { dst := some 22, ins := GoV.Instr.call (Opd.c (AV.fn 46 [] [])) [Opd.t 21], guard := none }]).seq (AC.block 0 (AC.rangeF (Opd.t 22) [23] k27a0 k27b0))).seq ((AC.reg false [{ dst := some 32, ins := GoV.Instr.load 1 false (Opd.t 7), guard := none }, { dst := some 33, ins := GoV.Instr.mov (Opd.t 4), guard := none }, { dst := some 34, ins := GoV.Instr.call (Opd.c (AV.fn 48 [] [])) [Opd.t 32, Opd.t 33], guard := none }, { dst := some 35, ins := GoV.Instr.ext (Opd.t 34) 0, guard := none }, { dst := some 36, ins := GoV.Instr.ext (Opd.t 34) 1, guard := none }, { dst := none, ins := GoV.Instr.store 2 (Opd.t 2) (Opd.t 35), guard := none }, { dst := some 3, ins := GoV.Instr.mov (Opd.t 36), guard := none }]).seq AC.ret))))), res := [RV.cell 2 2 true, RV.tmp 3] }
set_option maxRecDepth 100000 in
theorem h27 : fnOf Tryd.prog 27 = some c27 := by kernel_rfl
def c28L0 : AC := ((AC.reg false [{ dst := some 12, ins := GoV.Instr.mov (Opd.t 6), guard := none }, { dst := some 13, ins := GoV.Instr.mov (Opd.t 5), guard := none }, { dst := some 14, ins := GoV.Instr.len (Opd.t 13), guard := none }, { dst := some 15, ins := GoV.Instr.bin BinOp.lss (Opd.t 12) (Opd.t 14), guard := none }]).seq (AC.cond (Opd.t 15) AC.skip (AC.exit 0))).seq ((AC.block 1 ((AC.reg false [{ dst := some 18, ins := GoV.Instr.mov (Opd.t 5), guard := none }, { dst := some 19, ins := GoV.Instr.mov (Opd.t 6), guard := none }, { dst := some 20, ins := GoV.Instr.idxA 1 (Opd.t 18) (Opd.t 19), guard := none }, { dst := some 21, ins := GoV.Instr.load 1 false (Opd.t 20), guard := none }, { dst := some 22, ins := GoV.Instr.call (Opd.c (AV.fn 20 [] [])) [Opd.t 21], guard := none }, { dst := some 7, ins := GoV.Instr.mov (Opd.t 22), guard := none }]).seq ((AC.reg false [{ dst := some 23, ins := GoV.Instr.mov (Opd.t 7), guard := none }, { dst := some 24, ins := GoV.Instr.mov (Opd.t 3), guard := none }, { dst := some 25, ins := GoV.Instr.bin BinOp.leq (Opd.t 23) (Opd.t 24), guard := none }]).seq (AC.cond (Opd.t 25) (AC.reg false [{ dst := some 26, ins := GoV.Instr.mov (Opd.t 4), guard := none }, { dst := some 27, ins := GoV.Instr.mov (Opd.t 7), guard := none }, { dst := some 28, ins := GoV.Instr.bin BinOp.add (Opd.t 26) (Opd.t 27), guard := none }, { dst := some 4, ins := GoV.Instr.mov (Opd.t 28), guard := none }]) AC.skip)))).seq (AC.reg false [{ dst := some 16, ins := GoV.Instr.mov (Opd.t 6), guard := none }, { dst := some 17, ins := GoV.Instr.bin BinOp.add (Opd.t 16) (Opd.c (AV.dat (Ty.int IntKind.i64) (1 : Int))), guard := none }, { dst := some 6, ins := GoV.Instr.mov (Opd.t 17), guard := none }]))
def c28 : FnC := { n := 33, body := (AC.reg false [{ dst := some 2, ins := GoV.Instr.alloc [AV.dat (Ty.int IntKind.i64) (0 : Int), AV.dat (Ty.int IntKind.i64) (0 : Int)], guard := none }]).seq ((AC.reg false [{ dst := some 8, ins := GoV.Instr.mov (Opd.t 0), guard := none }, { dst := some 9, ins := GoV.Instr.call (Opd.c (AV.fn 20 [] [])) [Opd.t 8], guard := none }, { dst := some 3, ins := GoV.Instr.mov (Opd.t 9), guard := none }, { dst := some 4, ins := GoV.Instr.mov (Opd.c (AV.dat (Ty.int IntKind.i64) (0 : Int))), guard := none }]).seq ((AC.reg false [{ dst := some 10, ins := GoV.Instr.mov (Opd.t 0), guard := none }, { dst := some 11, ins := GoV.Instr.call (Opd.c (AV.fn 25 [] [])) [Opd.t 10], guard := none }, { dst := some 5, ins := GoV.Instr.mov (Opd.t 11), guard := none }]).seq (((AC.reg false [{ dst := some 6, ins := GoV.Instr.mov (Opd.c (AV.dat (Ty.int IntKind.i64) (0 : Int))), guard := none }]).seq (AC.block 0 (AC.loop c28L0))).seq ((AC.reg false [{ dst := some 29, ins := GoV.Instr.mov (Opd.t 4), guard := none }, { dst := some 30, ins := GoV.Instr.mov (Opd.t 0), guard := none }, { dst := some 31, ins := GoV.Instr.call (Opd.c (AV.fn 21 [] [])) [Opd.t 30], guard := none }, { dst := some 32, ins := GoV.Instr.call (Opd.c (AV.fn 29 [] [])) [Opd.t 29, Opd.t 31], guard := none }, { dst := none, ins := GoV.Instr.store 2 (Opd.t 2) (Opd.t 32), guard := none }]).seq AC.ret)))), res := [RV.cell 2 2 true] }
set_option maxRecDepth 100000 in
theorem h28 : fnOf Tryd.prog 28 = some c28 := by kernel_rfl
def c29L0 : AC := ((AC.reg false [{ dst := some 10, ins := GoV.Instr.mov (Opd.t 6), guard := none }, { dst := some 11, ins := GoV.Instr.bin BinOp.neq (Opd.t 10) (Opd.c (AV.dat (Ty.int IntKind.i64) (0 : Int))), guard := none }]).seq (AC.cond (Opd.t 11) AC.skip (AC.exit 0))).seq (AC.block 1 ((AC.reg false [{ dst := some 12, ins := GoV.Instr.mov (Opd.t 5), guard := none }, { dst := some 13, ins := GoV.Instr.mov (Opd.t 6), guard := none }, { dst := some 14, ins := GoV.Instr.bin BinOp.rem (Opd.t 12) (Opd.t 13), guard := none }, { dst := some 7, ins := GoV.Instr.mov (Opd.t 14), guard := none }]).seq ((AC.reg false [{ dst := some 15, ins := GoV.Instr.mov (Opd.t 6), guard := none }, { dst := some 5, ins := GoV.Instr.mov (Opd.t 15), guard := none }]).seq (AC.reg false [{ dst := some 16, ins := GoV.Instr.mov (Opd.t 7), guard := none }, { dst := some 6, ins := GoV.Instr.mov (Opd.t 16), guard := none }]))))
def c29 : FnC := { n := 24, body := (AC.reg false [{ dst := some 4, ins := GoV.Instr.alloc [AV.dat (Ty.int IntKind.i64) (0 : Int), AV.dat (Ty.int IntKind.i64) (0 : Int)], guard := none }]).seq ((AC.reg false [{ dst := some 8, ins := GoV.Instr.mov (Opd.t 0), guard := none }, { dst := some 9, ins := GoV.Instr.mov (Opd.t 1), guard := none }, { dst := some 5, ins := GoV.Instr.mov (Opd.t 8), guard := none }, { dst := some 6, ins := GoV.Instr.mov (Opd.t 9), guard := none }]).seq ((AC.block 0 (AC.loop c29L0)).seq ((AC.reg true [{ dst := some 17, ins := GoV.Instr.mov (Opd.t 0), guard := none }, { dst := some 18, ins := GoV.Instr.mov (Opd.t 5), guard := none }, { dst := some 19, ins := GoV.Instr.bin BinOp.quo (Opd.t 17) (Opd.t 18), guard := none }, { dst := some 20, ins := GoV.Instr.mov (Opd.t 1), guard := none }, { dst := some 21, ins := GoV.Instr.mov (Opd.t 5), guard := none }, { dst := some 22, ins := GoV.Instr.bin BinOp.quo (Opd.t 20) (Opd.t 21), guard := none }, { dst := some 23, ins := GoV.Instr.build [AV.dat (Ty.int IntKind.i64) (0 : Int), AV.dat (Ty.int IntKind.i64) (0 : Int)] [(0, 1, Opd.t 19), (1, 1, Opd.t 22)], guard := none }, { dst := none, ins := GoV.Instr.store 2 (Opd.t 4) (Opd.t 23), guard := none }]).seq AC.ret))), res := [RV.cell 4 2 true] }
set_option maxRecDepth 100000 in
theorem h29 : fnOf Tryd.prog 29 = some c29 := by kernel_rfl
def c30 : FnC := { n := 43, body := (AC.reg false [{ dst := some 3, ins := GoV.Instr.box (Opd.t 1), guard := none }, { dst := some 4, ins := GoV.Instr.mov (Opd.c (AV.dat Ty.bool false)), guard := none }, { dst := some 5, ins := GoV.Instr.mov (Opd.c (AV.dat (Ty.int IntKind.i64) (0 : Int))), guard := none }]).seq ((AC.reg false [{ dst := some 10, ins := GoV.Instr.mov (Opd.t 0), guard := none }, { dst := some 11, ins := GoV.Instr.call (Opd.c (AV.fn 27 [] [])) [Opd.t 10], guard := none }, { dst := some 9, ins := GoV.Instr.mov (Opd.t 11), guard := none }, { dst := some 12, ins := GoV.Instr.ext (Opd.t 9) 0, guard := none }, { dst := some 13, ins := GoV.Instr.ext (Opd.t 9) 1, guard := none }, { dst := some 6, ins := GoV.Instr.alloc [AV.dat (Ty.int IntKind.i64) (0 : Int), AV.dat (Ty.int IntKind.i64) (0 : Int)], guard := none }, { dst := none, ins := GoV.Instr.store 2 (Opd.t 6) (Opd.t 12), guard := none }, { dst := some 7, ins := GoV.Instr.mov (Opd.t 13), guard := none }]).seq (((AC.reg false [{ dst := some 14, ins := GoV.Instr.mov (Opd.t 7), guard := none }, { dst := some 15, ins := GoV.Instr.bin BinOp.neq (Opd.t 14) (Opd.c (AV.dat (Ty.int IntKind.i64) (0 : Int))), guard := none }]).seq (AC.cond (Opd.t 15) ((AC.reg false [{ dst := some 16, ins := GoV.Instr.mov (Opd.t 7), guard := none }, { dst := some 4, ins := GoV.Instr.mov (Opd.c (AV.dat Ty.bool false)), guard := none }, { dst := some 5, ins := GoV.Instr.mov (Opd.t 16), guard := none }]).seq AC.ret) AC.skip)).seq (((AC.reg false [{ dst := some 17, ins := GoV.Instr.load 2 true (Opd.t 3), guard := none }, { dst := some 18, ins := GoV.Instr.call (Opd.c (AV.fn 49 [] [])) [Opd.t 17], guard := none }, { dst := some 19, ins := GoV.Instr.bin BinOp.neq (Opd.t 18) (Opd.c (AV.dat (Ty.int IntKind.i64) (0 : Int))), guard := none }]).seq (AC.cond (Opd.t 19) ((AC.reg false [{ dst := some 4, ins := GoV.Instr.mov (Opd.c (AV.dat Ty.bool false)), guard := none }, { dst := some 5, ins := GoV.Instr.mov (Opd.c (AV.dat (Ty.int IntKind.i64) (5 : Int))), guard := none }]).seq AC.ret) AC.skip)).seq (((AC.reg false [{ dst := some 20, ins := GoV.Instr.fldA 0 (Opd.t 3), guard := none }, { dst := some 21, ins := GoV.Instr.load 1 false (Opd.t 20), guard := none }, { dst := some 22, ins := GoV.Instr.bin BinOp.lss (Opd.t 21) (Opd.c (AV.dat (Ty.int IntKind.i64) (0 : Int))), guard := none }, { dst := some 23, ins := GoV.Instr.mov (Opd.t 22), guard := none }, { dst := some 24, ins := GoV.Instr.fldA 0 (Opd.t 3), guard := some (23, false) }, { dst := some 25, ins := GoV.Instr.load 1 false (Opd.t 24), guard := some (23, false) }, { dst := some 26, ins := GoV.Instr.fldA 1 (Opd.t 3), guard := some (23, false) }, { dst := some 27, ins := GoV.Instr.load 1 false (Opd.t 26), guard := some (23, false) }, { dst := some 28, ins := GoV.Instr.bin BinOp.gtr (Opd.t 25) (Opd.t 27), guard := some (23, false) }, { dst := some 29, ins := GoV.Instr.pick (Opd.t 23) (Opd.c (AV.dat Ty.bool true)) (Opd.t 28), guard := none }]).seq (AC.cond (Opd.t 29) ((AC.reg false [{ dst := some 4, ins := GoV.Instr.mov (Opd.c (AV.dat Ty.bool false)), guard := none }, { dst := some 5, ins := GoV.Instr.mov (Opd.c (AV.dat (Ty.int IntKind.i64) (2 : Int))), guard := none }]).seq AC.ret) AC.skip)).seq ((AC.reg false [{ dst := some 31, ins := GoV.Instr.load 2 true (Opd.t 6), guard := none }, { dst := some 32, ins := GoV.Instr.load 2 true (Opd.t 3), guard := none }, { dst := some 33, ins := GoV.Instr.call (Opd.c (AV.fn 50 [] [])) [Opd.t 31, Opd.t 32], guard := none }, { dst := some 30, ins := GoV.Instr.mov (Opd.t 33), guard := none }, { dst := some 34, ins := GoV.Instr.ext (Opd.t 30) 0, guard := none }, { dst := some 35, ins := GoV.Instr.ext (Opd.t 30) 1, guard := none }, { dst := some 8, ins := GoV.Instr.mov (Opd.t 34), guard := none }, { dst := some 7, ins := GoV.Instr.mov (Opd.t 35), guard := none }]).seq ((AC.reg false [{ dst := some 36, ins := GoV.Instr.mov (Opd.t 8), guard := none }, { dst := some 37, ins := GoV.Instr.bin BinOp.leq (Opd.t 36) (Opd.c (AV.dat (Ty.int IntKind.i64) (0 : Int))), guard := none }, { dst := some 38, ins := GoV.Instr.mov (Opd.t 37), guard := none }, { dst := some 39, ins := GoV.Instr.mov (Opd.t 7), guard := some (38, true) }, { dst := some 40, ins := GoV.Instr.bin BinOp.eql (Opd.t 39) (Opd.c (AV.dat (Ty.int IntKind.i64) (0 : Int))), guard := some (38, true) }, { dst := some 41, ins := GoV.Instr.pick (Opd.t 38) (Opd.t 40) (Opd.c (AV.dat Ty.bool false)), guard := none }, { dst := some 42, ins := GoV.Instr.mov (Opd.t 7), guard := none }, { dst := some 4, ins := GoV.Instr.mov (Opd.t 41), guard := none }, { dst := some 5, ins := GoV.Instr.mov (Opd.t 42), guard := none }]).seq AC.ret)))))), res := [RV.tmp 4, RV.tmp 5] }
set_option maxRecDepth 100000 in
theorem h30 : fnOf Tryd.prog 30 = some c30 := by kernel_rfl
def c31 : FnC := { n := 59, body := (AC.reg false [{ dst := some 1, ins := GoV.Instr.box (Opd.t 0), guard := none }, { dst := some 2, ins := GoV.Instr.mov (Opd.c (AV.dat (Ty.int IntKind.i64) (0 : Int))), guard := none }]).seq (((AC.reg false [{ dst := some 4, ins := GoV.Instr.fldA 1 (Opd.t 1), guard := none }, { dst := some 5, ins := GoV.Instr.load 1 false (Opd.t 4), guard := none }, { dst := some 6, ins := GoV.Instr.bin BinOp.lss (Opd.t 5) (Opd.c (AV.dat (Ty.int IntKind.i64) (1 : Int))), guard := none }, { dst := some 7, ins := GoV.Instr.mov (Opd.t 6), guard := none }, { dst := some 8, ins := GoV.Instr.fldA 0 (Opd.t 1), guard := some (7, false) }, { dst := some 9, ins := GoV.Instr.load 1 false (Opd.t 8), guard := some (7, false) }, { dst := some 10, ins := GoV.Instr.bin BinOp.lss (Opd.t 9) (Opd.c (AV.dat (Ty.int IntKind.i64) (-4611686018427387903 : Int))), guard := some (7, false) }, { dst := some 11, ins := GoV.Instr.pick (Opd.t 7) (Opd.c (AV.dat Ty.bool true)) (Opd.t 10), guard := none }, { dst := some 12, ins := GoV.Instr.mov (Opd.t 11), guard := none }, { dst := some 13, ins := GoV.Instr.fldA 0 (Opd.t 1), guard := some (12, false) }, { dst := some 14, ins := GoV.Instr.load 1 false (Opd.t 13), guard := some (12, false) }, { dst := some 15, ins := GoV.Instr.bin BinOp.gtr (Opd.t 14) (Opd.c (AV.dat (Ty.int IntKind.i64) (4611686018427387903 : Int))), guard := some (12, false) }, { dst := some 16, ins := GoV.Instr.pick (Opd.t 12) (Opd.c (AV.dat Ty.bool true)) (Opd.t 15), guard := none }, { dst := some 17, ins := GoV.Instr.mov (Opd.t 16), guard := none }, { dst := some 18, ins := GoV.Instr.fldA 1 (Opd.t 1), guard := some (17, false) }, { dst := some 19, ins := GoV.Instr.load 1 false (Opd.t 18), guard := some (17, false) }, { dst := some 20, ins := GoV.Instr.bin BinOp.gtr (Opd.t 19) (Opd.c (AV.dat (Ty.int IntKind.i64) (4611686018427387903 : Int))), guard := some (17, false) }, { dst := some 21, ins := GoV.Instr.pick (Opd.t 17) (Opd.c (AV.dat Ty.bool true)) (Opd.t 20), guard := none }]).seq (AC.cond (Opd.t 21) ((AC.reg false [{ dst := some 2, ins := GoV.Instr.mov (Opd.c (AV.dat (Ty.int IntKind.i64) (5 : Int))), guard := none }]).seq AC.ret) AC.skip)).seq ((AC.reg false [{ dst := some 22, ins := GoV.Instr.fldA 0 (Opd.t 1), guard := none }, { dst := some 23, ins := GoV.Instr.load 1 false (Opd.t 22), guard := none }, { dst := some 3, ins := GoV.Instr.mov (Opd.t 23), guard := none }]).seq (((AC.reg false [{ dst := some 24, ins := GoV.Instr.mov (Opd.t 3), guard := none }, { dst := some 25, ins := GoV.Instr.bin BinOp.lss (Opd.t 24) (Opd.c (AV.dat (Ty.int IntKind.i64) (0 : Int))), guard := none }]).seq (AC.cond (Opd.t 25) (AC.reg false [{ dst := some 26, ins := GoV.Instr.mov (Opd.t 3), guard := none }, { dst := some 27, ins := GoV.Instr.un UnOp.neg (Opd.t 26), guard := none }, { dst := some 3, ins := GoV.Instr.mov (Opd.t 27), guard := none }]) AC.skip)).seq (((AC.reg true [{ dst := some 28, ins := GoV.Instr.mov (Opd.t 3), guard := none }, { dst := some 29, ins := GoV.Instr.bin BinOp.eql (Opd.t 28) (Opd.c (AV.dat (Ty.int IntKind.i64) (0 : Int))), guard := none }, { dst := some 30, ins := GoV.Instr.mov (Opd.t 29), guard := none }, { dst := some 31, ins := GoV.Instr.fldA 1 (Opd.t 1), guard := some (30, true) }, { dst := some 32, ins := GoV.Instr.load 1 false (Opd.t 31), guard := some (30, true) }, { dst := some 33, ins := GoV.Instr.bin BinOp.neq (Opd.t 32) (Opd.c (AV.dat (Ty.int IntKind.i64) (1 : Int))), guard := some (30, true) }, { dst := some 34, ins := GoV.Instr.pick (Opd.t 30) (Opd.t 33) (Opd.c (AV.dat Ty.bool false)), guard := none }, { dst := some 35, ins := GoV.Instr.mov (Opd.t 34), guard := none }, { dst := some 36, ins := GoV.Instr.mov (Opd.t 3), guard := some (35, false) }, { dst := some 37, ins := GoV.Instr.bin BinOp.gtr (Opd.t 36) (Opd.c (AV.dat (Ty.int IntKind.i64) (0 : Int))), guard := some (35, false) }, { dst := some 38, ins := GoV.Instr.mov (Opd.t 37), guard := some (35, false) }, { dst := some 39, ins := GoV.Instr.mov (Opd.t 3), guard := some (38, true) }, { dst := some 40, ins := GoV.Instr.fldA 1 (Opd.t 1), guard := some (38, true) }, { dst := some 41, ins := GoV.Instr.load 1 false (Opd.t 40), guard := some (38, true) }, { dst := some 42, ins := GoV.Instr.callp (Opd.c (AV.fn 29 [] [])) [Opd.t 39, Opd.t 41], guard := some (38, true) }, { dst := some 43, ins := GoV.Instr.fld 1 1 false (Opd.t 42), guard := some (38, true) }, { dst := some 44, ins := GoV.Instr.fldA 1 (Opd.t 1), guard := some (38, true) }, { dst := some 45, ins := GoV.Instr.load 1 false (Opd.t 44), guard := some (38, true) }, { dst := some 46, ins := GoV.Instr.bin BinOp.neq (Opd.t 43) (Opd.t 45), guard := some (38, true) }, { dst := some 47, ins := GoV.Instr.pick (Opd.t 38) (Opd.t 46) (Opd.c (AV.dat Ty.bool false)), guard := some (35, false) }, { dst := some 48, ins := GoV.Instr.pick (Opd.t 35) (Opd.c (AV.dat Ty.bool true)) (Opd.t 47), guard := none }]).seq (AC.cond (Opd.t 48) ((AC.reg false [{ dst := some 2, ins := GoV.Instr.mov (Opd.c (AV.dat (Ty.int IntKind.i64) (5 : Int))), guard := none }]).seq AC.ret) AC.skip)).seq (((AC.reg false [{ dst := some 49, ins := GoV.Instr.fldA 0 (Opd.t 1), guard := none }, { dst := some 50, ins := GoV.Instr.load 1 false (Opd.t 49), guard := none }, { dst := some 51, ins := GoV.Instr.bin BinOp.lss (Opd.t 50) (Opd.c (AV.dat (Ty.int IntKind.i64) (0 : Int))), guard := none }, { dst := some 52, ins := GoV.Instr.mov (Opd.t 51), guard := none }, { dst := some 53, ins := GoV.Instr.fldA 0 (Opd.t 1), guard := some (52, false) }, { dst := some 54, ins := GoV.Instr.load 1 false (Opd.t 53), guard := some (52, false) }, { dst := some 55, ins := GoV.Instr.fldA 1 (Opd.t 1), guard := some (52, false) }, { dst := some 56, ins := GoV.Instr.load 1 false (Opd.t 55), guard := some (52, false) }, { dst := some 57, ins := GoV.Instr.bin BinOp.gtr (Opd.t 54) (Opd.t 56), guard := some (52, false) }, { dst := some 58, ins := GoV.Instr.pick (Opd.t 52) (Opd.c (AV.dat Ty.bool true)) (Opd.t 57), guard := none }]).seq (AC.cond (Opd.t 58) ((AC.reg false [{ dst := some 2, ins := GoV.Instr.mov (Opd.c (AV.dat (Ty.int IntKind.i64) (2 : Int))), guard := none }]).seq AC.ret) AC.skip)).seq ((AC.reg false [{ dst := some 2, ins := GoV.Instr.mov (Opd.c (AV.dat (Ty.int IntKind.i64) (0 : Int))), guard := none }]).seq AC.ret)))))), res := [RV.tmp 2] }
set_option maxRecDepth 100000 in
theorem h31 : fnOf Tryd.prog 31 = some c31 := by kernel_rfl
def c32 : FnC := { n := 14, body := (AC.reg false [{ dst := some 2, ins := GoV.Instr.box (Opd.t 0), guard := none }, { dst := some 3, ins := GoV.Instr.box (Opd.t 1), guard := none }, { dst := some 4, ins := GoV.Instr.mov (Opd.c (AV.dat Ty.bool false)), guard := none }]).seq ((AC.reg false [{ dst := some 5, ins := GoV.Instr.fldA 0 (Opd.t 2), guard := none }, { dst := some 6, ins := GoV.Instr.load 1 false (Opd.t 5), guard := none }, { dst := some 7, ins := GoV.Instr.fldA 1 (Opd.t 3), guard := none }, { dst := some 8, ins := GoV.Instr.load 1 false (Opd.t 7), guard := none }, { dst := some 9, ins := GoV.Instr.fldA 0 (Opd.t 3), guard := none }, { dst := some 10, ins := GoV.Instr.load 1 false (Opd.t 9), guard := none }, { dst := some 11, ins := GoV.Instr.fldA 1 (Opd.t 2), guard := none }, { dst := some 12, ins := GoV.Instr.load 1 false (Opd.t 11), guard := none }, { dst := some 13, ins := GoV.Instr.call (Opd.c (AV.fn 51 [] [])) [Opd.t 6, Opd.t 8, Opd.t 10, Opd.t 12], guard := none }, { dst := some 4, ins := GoV.Instr.mov (Opd.t 13), guard := none }]).seq AC.ret), res := [RV.tmp 4] }
set_option maxRecDepth 100000 in
theorem h32 : fnOf Tryd.prog 32 = some c32 := by kernel_rfl
def c33L0 : AC := ((AC.reg false [{ dst := some 15, ins := GoV.Instr.mov (Opd.t 6), guard := none }, { dst := some 16, ins := GoV.Instr.mov (Opd.t 0), guard := none }, { dst := some 17, ins := GoV.Instr.len (Opd.t 16), guard := none }, { dst := some 18, ins := GoV.Instr.bin BinOp.lss (Opd.t 15) (Opd.t 17), guard := none }]).seq (AC.cond (Opd.t 18) AC.skip (AC.exit 2))).seq ((AC.block 3 (AC.reg false [{ dst := some 21, ins := GoV.Instr.mov (Opd.t 5), guard := none }, { dst := some 22, ins := GoV.Instr.mov (Opd.t 0), guard := none }, { dst := some 23, ins := GoV.Instr.mov (Opd.t 6), guard := none }, { dst := some 24, ins := GoV.Instr.idxA 1 (Opd.t 22) (Opd.t 23), guard := none }, { dst := some 25, ins := GoV.Instr.load 1 false (Opd.t 24), guard := none }, { dst := some 26, ins := GoV.Instr.mov (Opd.t 4), guard := none }, { dst := some 27, ins := GoV.Instr.idxA 1 (Opd.t 25) (Opd.t 26), guard := none }, { dst := some 28, ins := GoV.Instr.load 1 false (Opd.t 27), guard := none }, { dst := some 29, ins := GoV.Instr.bslice (Ty.int IntKind.i64) 1 [(0, Opd.t 28)], guard := none }, { dst := some 30, ins := GoV.Instr.app (Ty.int IntKind.i64) 8 (Opd.t 21) (Opd.t 29), guard := none }, { dst := some 5, ins := GoV.Instr.mov (Opd.t 30), guard := none }])).seq (AC.reg false [{ dst := some 19, ins := GoV.Instr.mov (Opd.t 6), guard := none }, { dst := some 20, ins := GoV.Instr.bin BinOp.add (Opd.t 19) (Opd.c (AV.dat (Ty.int IntKind.i64) (1 : Int))), guard := none }, { dst := some 6, ins := GoV.Instr.mov (Opd.t 20), guard := none }]))
def c33L1 : AC := ((AC.reg false [{ dst := some 7, ins := GoV.Instr.mov (Opd.t 4), guard := none }, { dst := some 8, ins := GoV.Instr.mov (Opd.t 0), guard := none }, { dst := some 9, ins := GoV.Instr.idxA 1 (Opd.t 8) (Opd.c (AV.dat (Ty.int IntKind.i64) (0 : Int))), guard := none }, { dst := some 10, ins := GoV.Instr.load 1 false (Opd.t 9), guard := none }, { dst := some 11, ins := GoV.Instr.len (Opd.t 10), guard := none }, { dst := some 12, ins := GoV.Instr.bin BinOp.lss (Opd.t 7) (Opd.t 11), guard := none }]).seq (AC.cond (Opd.t 12) AC.skip (AC.exit 0))).seq ((AC.block 1 ((AC.reg false [{ dst := some 5, ins := GoV.Instr.mov (Opd.c AV.nils), guard := none }]).seq (((AC.reg false [{ dst := some 6, ins := GoV.Instr.mov (Opd.c (AV.dat (Ty.int IntKind.i64) (0 : Int))), guard := none }]).seq (AC.block 2 (AC.loop c33L0))).seq (AC.reg false [{ dst := some 31, ins := GoV.Instr.mov (Opd.t 3), guard := none }, { dst := some 32, ins := GoV.Instr.mov (Opd.t 5), guard := none }, { dst := some 33, ins := GoV.Instr.bsliceB (Ty.int IntKind.i64).list [AV.nils] 1 1 [(0, Opd.t 32)], guard := none }, { dst := some 34, ins := GoV.Instr.app (Ty.int IntKind.i64).list 24 (Opd.t 31) (Opd.t 33), guard := none }, { dst := some 3, ins := GoV.Instr.mov (Opd.t 34), guard := none }])))).seq (AC.reg false [{ dst := some 13, ins := GoV.Instr.mov (Opd.t 4), guard := none }, { dst := some 14, ins := GoV.Instr.bin BinOp.add (Opd.t 13) (Opd.c (AV.dat (Ty.int IntKind.i64) (1 : Int))), guard := none }, { dst := some 4, ins := GoV.Instr.mov (Opd.t 14), guard := none }]))
def c33 : FnC := { n := 36, body := (AC.reg false [{ dst := some 2, ins := GoV.Instr.mov (Opd.c AV.nils), guard := none }]).seq ((AC.reg false [{ dst := some 3, ins := GoV.Instr.mov (Opd.c AV.nils), guard := none }]).seq (((AC.reg false [{ dst := some 4, ins := GoV.Instr.mov (Opd.c (AV.dat (Ty.int IntKind.i64) (0 : Int))), guard := none }]).seq (AC.block 0 (AC.loop c33L1))).seq ((AC.reg false [{ dst := some 35, ins := GoV.Instr.mov (Opd.t 3), guard := none }, { dst := some 2, ins := GoV.Instr.mov (Opd.t 35), guard := none }]).seq AC.ret))), res := [RV.tmp 2] }
set_option maxRecDepth 100000 in
theorem h33 : fnOf Tryd.prog 33 = some c33 := by kernel_rfl
def c34 : FnC := { n := 8, body := (AC.reg false [{ dst := some 2, ins := GoV.Instr.mov (Opd.c AV.nils), guard := none }]).seq (((AC.reg false [{ dst := some 3, ins := GoV.Instr.mov (Opd.t 0), guard := none }, { dst := some 4, ins := GoV.Instr.isnil true (Opd.t 3), guard := none }]).seq (AC.cond (Opd.t 4) ((AC.reg false [{ dst := some 2, ins := GoV.Instr.mov (Opd.c AV.nils), guard := none }]).seq AC.ret) AC.skip)).seq ((AC.reg false [{ dst := some 5, ins := GoV.Instr.bsliceB (Ty.int IntKind.i64).list [AV.nils] 1 0 [], guard := none }, { dst := some 6, ins := GoV.Instr.mov (Opd.t 0), guard := none }, { dst := some 7, ins := GoV.Instr.app (Ty.int IntKind.i64).list 24 (Opd.t 5) (Opd.t 6), guard := none }, { dst := some 2, ins := GoV.Instr.mov (Opd.t 7), guard := none }]).seq AC.ret)), res := [RV.tmp 2] }
set_option maxRecDepth 100000 in
theorem h34 : fnOf Tryd.prog 34 = some c34 := by kernel_rfl
def c35L0 : AC := ((AC.reg false [{ dst := some 6, ins := GoV.Instr.mov (Opd.t 1), guard := none }, { dst := some 7, ins := GoV.Instr.len (Opd.t 6), guard := none }, { dst := some 8, ins := GoV.Instr.mov (Opd.t 0), guard := none }, { dst := some 9, ins := GoV.Instr.bin BinOp.geq (Opd.t 7) (Opd.t 8), guard := none }]).seq (AC.cond (Opd.t 9) AC.skip (AC.exit 0))).seq (AC.block 1 (AC.regG 0 [0, 0, 0, 6, 14, 31, 0, 0, 192, 63, 1023] [{ dst := some 10, ins := GoV.Instr.mov (Opd.t 5), guard := none }, { dst := some 11, ins := GoV.Instr.mov (Opd.t 1), guard := none }, { dst := some 12, ins := GoV.Instr.mov (Opd.t 0), guard := none }, { dst := some 13, ins := GoV.Instr.slice 1 (Opd.t 11) none (some (Opd.t 12)), guard := none }, { dst := some 14, ins := GoV.Instr.bdat (Ty.int IntKind.i64).list 1 [(0, Opd.t 13)], guard := none }, { dst := some 15, ins := GoV.Instr.app (Ty.int IntKind.i64).list 24 (Opd.t 10) (Opd.t 14), guard := none }, { dst := some 16, ins := GoV.Instr.mov (Opd.t 1), guard := none }, { dst := some 17, ins := GoV.Instr.mov (Opd.t 0), guard := none }, { dst := some 18, ins := GoV.Instr.slice 1 (Opd.t 16) (some (Opd.t 17)) none, guard := none }, { dst := some 5, ins := GoV.Instr.mov (Opd.t 15), guard := none }, { dst := some 1, ins := GoV.Instr.mov (Opd.t 18), guard := none }]))
def c35 : FnC := { n := 20, body := (AC.reg false [{ dst := some 4, ins := GoV.Instr.mov (Opd.c AV.nils), guard := none }]).seq ((AC.reg false [{ dst := some 5, ins := GoV.Instr.mov (Opd.c AV.nils), guard := none }]).seq ((AC.block 0 (AC.loop c35L0)).seq ((AC.reg false [{ dst := some 19, ins := GoV.Instr.mov (Opd.t 5), guard := none }, { dst := some 4, ins := GoV.Instr.mov (Opd.t 19), guard := none }]).seq AC.ret))), res := [RV.tmp 4] }
set_option maxRecDepth 100000 in
theorem h35 : fnOf Tryd.prog 35 = some c35 := by kernel_rfl
def c36 : FnC := { n := 55, body := (AC.reg false [{ dst := some 7, ins := GoV.Instr.box (Opd.t 3), guard := none }, { dst := some 8, ins := GoV.Instr.mov (Opd.c (AV.dat Ty.bool false)), guard := none }]).seq ((AC.reg false [{ dst := some 16, ins := GoV.Instr.mov (Opd.t 0), guard := none }, { dst := some 17, ins := GoV.Instr.call (Opd.c (AV.fn 14 [] [])) [Opd.t 16], guard := none }, { dst := some 15, ins := GoV.Instr.mov (Opd.t 17), guard := none }, { dst := some 18, ins := GoV.Instr.ext (Opd.t 15) 0, guard := none }, { dst := some 19, ins := GoV.Instr.ext (Opd.t 15) 1, guard := none }, { dst := some 9, ins := GoV.Instr.mov (Opd.t 18), guard := none }, { dst := some 10, ins := GoV.Instr.mov (Opd.t 19), guard := none }]).seq ((AC.reg false [{ dst := some 21, ins := GoV.Instr.mov (Opd.t 0), guard := none }, { dst := some 22, ins := GoV.Instr.call (Opd.c (AV.fn 15 [] [])) [Opd.t 21], guard := none }, { dst := some 20, ins := GoV.Instr.mov (Opd.t 22), guard := none }, { dst := some 23, ins := GoV.Instr.ext (Opd.t 20) 0, guard := none }, { dst := some 24, ins := GoV.Instr.ext (Opd.t 20) 1, guard := none }, { dst := some 11, ins := GoV.Instr.mov (Opd.t 23), guard := none }, { dst := some 12, ins := GoV.Instr.mov (Opd.t 24), guard := none }]).seq ((AC.reg false [{ dst := some 26, ins := GoV.Instr.mov (Opd.t 0), guard := none }, { dst := some 27, ins := GoV.Instr.call (Opd.c (AV.fn 27 [] [])) [Opd.t 26], guard := none }, { dst := some 25, ins := GoV.Instr.mov (Opd.t 27), guard := none }, { dst := some 28, ins := GoV.Instr.ext (Opd.t 25) 0, guard := none }, { dst := some 29, ins := GoV.Instr.ext (Opd.t 25) 1, guard := none }, { dst := some 13, ins := GoV.Instr.alloc [AV.dat (Ty.int IntKind.i64) (0 : Int), AV.dat (Ty.int IntKind.i64) (0 : Int)], guard := none }, { dst := none, ins := GoV.Instr.store 2 (Opd.t 13) (Opd.t 28), guard := none }, { dst := some 14, ins := GoV.Instr.mov (Opd.t 29), guard := none }]).seq ((AC.reg false [{ dst := some 30, ins := GoV.Instr.mov (Opd.t 9), guard := none }, { dst := some 31, ins := GoV.Instr.mov (Opd.t 1), guard := none }, { dst := some 32, ins := GoV.Instr.bin BinOp.eql (Opd.t 30) (Opd.t 31), guard := none }, { dst := some 33, ins := GoV.Instr.mov (Opd.t 32), guard := none }, { dst := some 34, ins := GoV.Instr.mov (Opd.t 11), guard := some (33, true) }, { dst := some 35, ins := GoV.Instr.mov (Opd.t 2), guard := some (33, true) }, { dst := some 36, ins := GoV.Instr.bin BinOp.eql (Opd.t 34) (Opd.t 35), guard := some (33, true) }, { dst := some 37, ins := GoV.Instr.pick (Opd.t 33) (Opd.t 36) (Opd.c (AV.dat Ty.bool false)), guard := none }, { dst := some 38, ins := GoV.Instr.mov (Opd.t 37), guard := none }, { dst := some 39, ins := GoV.Instr.load 2 true (Opd.t 13), guard := some (38, true) }, { dst := some 40, ins := GoV.Instr.load 2 true (Opd.t 7), guard := some (38, true) }, { dst := some 41, ins := GoV.Instr.eqv true [true, true] (Opd.t 39) (Opd.t 40), guard := some (38, true) }, { dst := some 42, ins := GoV.Instr.pick (Opd.t 38) (Opd.t 41) (Opd.c (AV.dat Ty.bool false)), guard := none }, { dst := some 43, ins := GoV.Instr.mov (Opd.t 42), guard := none }, { dst := some 44, ins := GoV.Instr.mov (Opd.t 10), guard := some (43, true) }, { dst := some 45, ins := GoV.Instr.bin BinOp.eql (Opd.t 44) (Opd.c (AV.dat (Ty.int IntKind.i64) (0 : Int))), guard := some (43, true) }, { dst := some 46, ins := GoV.Instr.pick (Opd.t 43) (Opd.t 45) (Opd.c (AV.dat Ty.bool false)), guard := none }, { dst := some 47, ins := GoV.Instr.mov (Opd.t 46), guard := none }, { dst := some 48, ins := GoV.Instr.mov (Opd.t 12), guard := some (47, true) }, { dst := some 49, ins := GoV.Instr.bin BinOp.eql (Opd.t 48) (Opd.c (AV.dat (Ty.int IntKind.i64) (0 : Int))), guard := some (47, true) }, { dst := some 50, ins := GoV.Instr.pick (Opd.t 47) (Opd.t 49) (Opd.c (AV.dat Ty.bool false)), guard := none }, { dst := some 51, ins := GoV.Instr.mov (Opd.t 50), guard := none }, { dst := some 52, ins := GoV.Instr.mov (Opd.t 14), guard := some (51, true) }, { dst := some 53, ins := GoV.Instr.bin BinOp.eql (Opd.t 52) (Opd.c (AV.dat (Ty.int IntKind.i64) (0 : Int))), guard := some (51, true) }, { dst := some 54, ins := GoV.Instr.pick (Opd.t 51) (Opd.t 53) (Opd.c (AV.dat Ty.bool false)), guard := none }, { dst := some 8, ins := GoV.Instr.mov (Opd.t 54), guard := none }]).seq AC.ret)))), res := [RV.tmp 8] }
set_option maxRecDepth 100000 in
theorem h36 : fnOf Tryd.prog 36 = some c36 := by kernel_rfl
def c37L0 : AC := (AC.reg false [{ dst := some 12, ins := GoV.Instr.bin BinOp.lss (Opd.t 11) (Opd.t 10), guard := none }]).seq ((AC.cond (Opd.t 12) AC.skip (AC.exit 0)).seq ((AC.block 1 ((AC.reg false [{ dst := some 13, ins := GoV.Instr.mov (Opd.t 11), guard := none }, { dst := some 14, ins := GoV.Instr.idxA 1 (Opd.t 9) (Opd.t 11), guard := none }, { dst := some 15, ins := GoV.Instr.load 1 false (Opd.t 14), guard := none }, { dst := some 5, ins := GoV.Instr.mov (Opd.t 13), guard := none }, { dst := some 6, ins := GoV.Instr.mov (Opd.t 15), guard := none }]).seq (((AC.reg false [{ dst := some 16, ins := GoV.Instr.mov (Opd.t 5), guard := none }, { dst := some 17, ins := GoV.Instr.mov (Opd.t 1), guard := none }, { dst := some 18, ins := GoV.Instr.len (Opd.t 17), guard := none }, { dst := some 19, ins := GoV.Instr.bin BinOp.geq (Opd.t 16) (Opd.t 18), guard := none }]).seq (AC.cond (Opd.t 19) ((AC.reg false [{ dst := some 4, ins := GoV.Instr.mov (Opd.c (AV.dat (Ty.int IntKind.i64) (1 : Int))), guard := none }]).seq AC.ret) AC.skip)).seq ((AC.reg false [{ dst := some 20, ins := GoV.Instr.mov (Opd.t 1), guard := none }, { dst := some 21, ins := GoV.Instr.mov (Opd.t 5), guard := none }, { dst := some 22, ins := GoV.Instr.idxA 1 (Opd.t 20) (Opd.t 21), guard := none }, { dst := some 23, ins := GoV.Instr.load 1 false (Opd.t 22), guard := none }, { dst := some 7, ins := GoV.Instr.mov (Opd.t 23), guard := none }]).seq ((AC.reg false [{ dst := some 24, ins := GoV.Instr.mov (Opd.t 6), guard := none }, { dst := some 25, ins := GoV.Instr.mov (Opd.t 7), guard := none }, { dst := some 26, ins := GoV.Instr.call (Opd.c (AV.fn 52 [] [])) [Opd.t 24, Opd.t 25], guard := none }, { dst := some 8, ins := GoV.Instr.mov (Opd.t 26), guard := none }]).seq ((AC.reg false [{ dst := some 27, ins := GoV.Instr.mov (Opd.t 8), guard := none }, { dst := some 28, ins := GoV.Instr.bin BinOp.neq (Opd.t 27) (Opd.c (AV.dat (Ty.int IntKind.i64) (0 : Int))), guard := none }]).seq (AC.cond (Opd.t 28) ((AC.reg false [{ dst := some 29, ins := GoV.Instr.mov (Opd.t 8), guard := none }, { dst := some 4, ins := GoV.Instr.mov (Opd.t 29), guard := none }]).seq AC.ret) AC.skip))))))).seq (AC.reg false [{ dst := some 30, ins := GoV.Instr.bin BinOp.add (Opd.t 11) (Opd.c (AV.dat (Ty.int IntKind.i64) (1 : Int))), guard := none }, { dst := some 11, ins := GoV.Instr.mov (Opd.t 30), guard := none }])))
def c37 : FnC := { n := 36, body := (AC.reg false [{ dst := some 4, ins := GoV.Instr.mov (Opd.c (AV.dat (Ty.int IntKind.i64) (0 : Int))), guard := none }]).seq (((AC.reg false [{ dst := some 9, ins := GoV.Instr.mov (Opd.t 0), guard := none }, { dst := some 10, ins := GoV.Instr.len (Opd.t 9), guard := none }, { dst := some 11, ins := GoV.Instr.mov (Opd.c (AV.dat (Ty.int IntKind.i64) (0 : Int))), guard := none }]).seq (AC.block 0 (AC.loop c37L0))).seq (((AC.reg false [{ dst := some 31, ins := GoV.Instr.mov (Opd.t 0), guard := none }, { dst := some 32, ins := GoV.Instr.len (Opd.t 31), guard := none }, { dst := some 33, ins := GoV.Instr.mov (Opd.t 1), guard := none }, { dst := some 34, ins := GoV.Instr.len (Opd.t 33), guard := none }, { dst := some 35, ins := GoV.Instr.bin BinOp.lss (Opd.t 32) (Opd.t 34), guard := none }]).seq (AC.cond (Opd.t 35) ((AC.reg false [{ dst := some 4, ins := GoV.Instr.mov (Opd.c (AV.dat (Ty.int IntKind.i64) (-1 : Int))), guard := none }]).seq AC.ret) AC.skip)).seq ((AC.reg false [{ dst := some 4, ins := GoV.Instr.mov (Opd.c (AV.dat (Ty.int IntKind.i64) (0 : Int))), guard := none }]).seq AC.ret))), res := [RV.tmp 4] }
set_option maxRecDepth 100000 in
theorem h37 : fnOf Tryd.prog 37 = some c37 := by kernel_rfl
def c38L0 : AC := (AC.reg false [{ dst := some 12, ins := GoV.Instr.bin BinOp.lss (Opd.t 11) (Opd.t 10), guard := none }]).seq ((AC.cond (Opd.t 12) AC.skip (AC.exit 0)).seq ((AC.block 1 ((AC.reg false [{ dst := some 13, ins := GoV.Instr.idxA 1 (Opd.t 9) (Opd.t 11), guard := none }, { dst := some 14, ins := GoV.Instr.load 1 false (Opd.t 13), guard := none }, { dst := some 5, ins := GoV.Instr.mov (Opd.t 14), guard := none }]).seq ((AC.reg false [{ dst := some 15, ins := GoV.Instr.mov (Opd.t 3), guard := none }, { dst := some 16, ins := GoV.Instr.mov (Opd.t 5), guard := none }, { dst := some 17, ins := GoV.Instr.len (Opd.t 16), guard := none }, { dst := some 18, ins := GoV.Instr.bin BinOp.add (Opd.t 15) (Opd.t 17), guard := none }, { dst := some 3, ins := GoV.Instr.mov (Opd.t 18), guard := none }]).seq ((AC.reg false [{ dst := some 19, ins := GoV.Instr.mov (Opd.t 3), guard := none }, { dst := some 20, ins := GoV.Instr.bin BinOp.lss (Opd.t 19) (Opd.c (AV.dat (Ty.int IntKind.i64) (0 : Int))), guard := none }]).seq (AC.cond (Opd.t 20) (AC.reg false [{ dst := some 21, ins := GoV.Instr.bad, guard := none }, { dst := none, ins := GoV.Instr.bad, guard := none }]) AC.skip))))).seq (AC.reg false [{ dst := some 22, ins := GoV.Instr.bin BinOp.add (Opd.t 11) (Opd.c (AV.dat (Ty.int IntKind.i64) (1 : Int))), guard := none }, { dst := some 11, ins := GoV.Instr.mov (Opd.t 22), guard := none }])))
def c38L1 : AC := (AC.reg false [{ dst := some 28, ins := GoV.Instr.bin BinOp.lss (Opd.t 27) (Opd.t 26), guard := none }]).seq ((AC.cond (Opd.t 28) AC.skip (AC.exit 2)).seq ((AC.block 3 ((AC.reg false [{ dst := some 29, ins := GoV.Instr.idxA 1 (Opd.t 25) (Opd.t 27), guard := none }, { dst := some 30, ins := GoV.Instr.load 1 false (Opd.t 29), guard := none }, { dst := some 8, ins := GoV.Instr.mov (Opd.t 30), guard := none }]).seq (AC.reg false [{ dst := some 31, ins := GoV.Instr.mov (Opd.t 6), guard := none }, { dst := some 32, ins := GoV.Instr.mov (Opd.t 8), guard := none }, { dst := some 33, ins := GoV.Instr.app (Ty.int IntKind.i64) 8 (Opd.t 31) (Opd.t 32), guard := none }, { dst := some 6, ins := GoV.Instr.mov (Opd.t 33), guard := none }]))).seq (AC.reg false [{ dst := some 34, ins := GoV.Instr.bin BinOp.add (Opd.t 27) (Opd.c (AV.dat (Ty.int IntKind.i64) (1 : Int))), guard := none }, { dst := some 27, ins := GoV.Instr.mov (Opd.t 34), guard := none }])))
def c38 : FnC := { n := 36, body := (AC.reg false [{ dst := some 2, ins := GoV.Instr.mov (Opd.c AV.nils), guard := none }]).seq ((AC.reg false [{ dst := some 3, ins := GoV.Instr.mov (Opd.c (AV.dat (Ty.int IntKind.i64) (0 : Int))), guard := none }]).seq (((AC.reg false [{ dst := some 9, ins := GoV.Instr.mov (Opd.t 0), guard := none }, { dst := some 10, ins := GoV.Instr.len (Opd.t 9), guard := none }, { dst := some 11, ins := GoV.Instr.mov (Opd.c (AV.dat (Ty.int IntKind.i64) (0 : Int))), guard := none }]).seq (AC.block 0 (AC.loop c38L0))).seq ((AC.reg false [{ dst := some 23, ins := GoV.Instr.mov (Opd.t 3), guard := none }, { dst := some 24, ins := GoV.Instr.call (Opd.c (AV.fn 53 [] [])) [Opd.c AV.nils, Opd.t 23], guard := none }, { dst := some 6, ins := GoV.Instr.mov (Opd.t 24), guard := none }]).seq (((AC.reg false [{ dst := some 25, ins := GoV.Instr.mov (Opd.t 0), guard := none }, { dst := some 26, ins := GoV.Instr.len (Opd.t 25), guard := none }, { dst := some 27, ins := GoV.Instr.mov (Opd.c (AV.dat (Ty.int IntKind.i64) (0 : Int))), guard := none }]).seq (AC.block 2 (AC.loop c38L1))).seq ((AC.reg false [{ dst := some 35, ins := GoV.Instr.mov (Opd.t 6), guard := none }, { dst := some 2, ins := GoV.Instr.mov (Opd.t 35), guard := none }]).seq AC.ret))))), res := [RV.tmp 2] }
set_option maxRecDepth 100000 in
theorem h38 : fnOf Tryd.prog 38 = some c38 := by kernel_rfl
def c39 : FnC := { n := 8, body := (AC.reg false [{ dst := some 2, ins := GoV.Instr.mov (Opd.c AV.nils), guard := none }]).seq (((AC.reg false [{ dst := some 3, ins := GoV.Instr.mov (Opd.t 0), guard := none }, { dst := some 4, ins := GoV.Instr.isnil true (Opd.t 3), guard := none }]).seq (AC.cond (Opd.t 4) ((AC.reg false [{ dst := some 2, ins := GoV.Instr.mov (Opd.c AV.nils), guard := none }]).seq AC.ret) AC.skip)).seq ((AC.reg false [{ dst := some 5, ins := GoV.Instr.bslice (Ty.int IntKind.i64) 0 [], guard := none }, { dst := some 6, ins := GoV.Instr.mov (Opd.t 0), guard := none }, { dst := some 7, ins := GoV.Instr.app (Ty.int IntKind.i64) 8 (Opd.t 5) (Opd.t 6), guard := none }, { dst := some 2, ins := GoV.Instr.mov (Opd.t 7), guard := none }]).seq AC.ret)), res := [RV.tmp 2] }
set_option maxRecDepth 100000 in
theorem h39 : fnOf Tryd.prog 39 = some c39 := by kernel_rfl
def c40L0 : AC := ((AC.reg false [{ dst := some 12, ins := GoV.Instr.mov (Opd.t 4), guard := none }, { dst := some 13, ins := GoV.Instr.mov (Opd.t 0), guard := none }, { dst := some 14, ins := GoV.Instr.len (Opd.t 13), guard := none }, { dst := some 15, ins := GoV.Instr.bin BinOp.lss (Opd.t 12) (Opd.t 14), guard := none }]).seq (AC.cond (Opd.t 15) AC.skip (AC.exit 0))).seq ((AC.block 1 (AC.reg false [{ dst := some 18, ins := GoV.Instr.mov (Opd.t 3), guard := none }, { dst := some 19, ins := GoV.Instr.mov (Opd.t 0), guard := none }, { dst := some 20, ins := GoV.Instr.mov (Opd.t 4), guard := none }, { dst := some 21, ins := GoV.Instr.idxA 1 (Opd.t 19) (Opd.t 20), guard := none }, { dst := some 22, ins := GoV.Instr.load 1 false (Opd.t 21), guard := none }, { dst := some 23, ins := GoV.Instr.mm false (Opd.t 18) (Opd.t 22), guard := none }, { dst := some 3, ins := GoV.Instr.mov (Opd.t 23), guard := none }])).seq (AC.reg false [{ dst := some 16, ins := GoV.Instr.mov (Opd.t 4), guard := none }, { dst := some 17, ins := GoV.Instr.bin BinOp.add (Opd.t 16) (Opd.c (AV.dat (Ty.int IntKind.i64) (1 : Int))), guard := none }, { dst := some 4, ins := GoV.Instr.mov (Opd.t 17), guard := none }]))
def c40 : FnC := { n := 25, body := (AC.reg false [{ dst := some 2, ins := GoV.Instr.mov (Opd.c (AV.dat (Ty.int IntKind.i64) (0 : Int))), guard := none }]).seq (((AC.reg false [{ dst := some 5, ins := GoV.Instr.mov (Opd.t 0), guard := none }, { dst := some 6, ins := GoV.Instr.len (Opd.t 5), guard := none }, { dst := some 7, ins := GoV.Instr.bin BinOp.lss (Opd.t 6) (Opd.c (AV.dat (Ty.int IntKind.i64) (1 : Int))), guard := none }]).seq (AC.cond (Opd.t 7) (AC.reg false [{ dst := some 8, ins := GoV.Instr.bad, guard := none }, { dst := none, ins := GoV.Instr.bad, guard := none }]) AC.skip)).seq ((AC.reg false [{ dst := some 9, ins := GoV.Instr.mov (Opd.t 0), guard := none }, { dst := some 10, ins := GoV.Instr.idxA 1 (Opd.t 9) (Opd.c (AV.dat (Ty.int IntKind.i64) (0 : Int))), guard := none }, { dst := some 11, ins := GoV.Instr.load 1 false (Opd.t 10), guard := none }, { dst := some 3, ins := GoV.Instr.mov (Opd.t 11), guard := none }]).seq (((AC.reg false [{ dst := some 4, ins := GoV.Instr.mov (Opd.c (AV.dat (Ty.int IntKind.i64) (1 : Int))), guard := none }]).seq (AC.block 0 (AC.loop c40L0))).seq ((AC.reg false [{ dst := some 24, ins := GoV.Instr.mov (Opd.t 3), guard := none }, { dst := some 2, ins := GoV.Instr.mov (Opd.t 24), guard := none }]).seq AC.ret)))), res := [RV.tmp 2] }
set_option maxRecDepth 100000 in
theorem h40 : fnOf Tryd.prog 40 = some c40 := by kernel_rfl
def c41L0 : AC := ((AC.reg false [{ dst := some 12, ins := GoV.Instr.mov (Opd.t 4), guard := none }, { dst := some 13, ins := GoV.Instr.mov (Opd.t 0), guard := none }, { dst := some 14, ins := GoV.Instr.len (Opd.t 13), guard := none }, { dst := some 15, ins := GoV.Instr.bin BinOp.lss (Opd.t 12) (Opd.t 14), guard := none }]).seq (AC.cond (Opd.t 15) AC.skip (AC.exit 0))).seq ((AC.block 1 (AC.reg false [{ dst := some 18, ins := GoV.Instr.mov (Opd.t 3), guard := none }, { dst := some 19, ins := GoV.Instr.mov (Opd.t 0), guard := none }, { dst := some 20, ins := GoV.Instr.mov (Opd.t 4), guard := none }, { dst := some 21, ins := GoV.Instr.idxA 1 (Opd.t 19) (Opd.t 20), guard := none }, { dst := some 22, ins := GoV.Instr.load 1 false (Opd.t 21), guard := none }, { dst := some 23, ins := GoV.Instr.mm true (Opd.t 18) (Opd.t 22), guard := none }, { dst := some 3, ins := GoV.Instr.mov (Opd.t 23), guard := none }])).seq (AC.reg false [{ dst := some 16, ins := GoV.Instr.mov (Opd.t 4), guard := none }, { dst := some 17, ins := GoV.Instr.bin BinOp.add (Opd.t 16) (Opd.c (AV.dat (Ty.int IntKind.i64) (1 : Int))), guard := none }, { dst := some 4, ins := GoV.Instr.mov (Opd.t 17), guard := none }]))
def c41 : FnC := { n := 25, body := (AC.reg false [{ dst := some 2, ins := GoV.Instr.mov (Opd.c (AV.dat (Ty.int IntKind.i64) (0 : Int))), guard := none }]).seq (((AC.reg false [{ dst := some 5, ins := GoV.Instr.mov (Opd.t 0), guard := none }, { dst := some 6, ins := GoV.Instr.len (Opd.t 5), guard := none }, { dst := some 7, ins := GoV.Instr.bin BinOp.lss (Opd.t 6) (Opd.c (AV.dat (Ty.int IntKind.i64) (1 : Int))), guard := none }]).seq (AC.cond (Opd.t 7) (AC.reg false [{ dst := some 8, ins := GoV.Instr.bad, guard := none }, { dst := none, ins := GoV.Instr.bad, guard := none }]) AC.skip)).seq ((AC.reg false [{ dst := some 9, ins := GoV.Instr.mov (Opd.t 0), guard := none }, { dst := some 10, ins := GoV.Instr.idxA 1 (Opd.t 9) (Opd.c (AV.dat (Ty.int IntKind.i64) (0 : Int))), guard := none }, { dst := some 11, ins := GoV.Instr.load 1 false (Opd.t 10), guard := none }, { dst := some 3, ins := GoV.Instr.mov (Opd.t 11), guard := none }]).seq (((AC.reg false [{ dst := some 4, ins := GoV.Instr.mov (Opd.c (AV.dat (Ty.int IntKind.i64) (1 : Int))), guard := none }]).seq (AC.block 0 (AC.loop c41L0))).seq ((AC.reg false [{ dst := some 24, ins := GoV.Instr.mov (Opd.t 3), guard := none }, { dst := some 2, ins := GoV.Instr.mov (Opd.t 24), guard := none }]).seq AC.ret)))), res := [RV.tmp 2] }
set_option maxRecDepth 100000 in
theorem h41 : fnOf Tryd.prog 41 = some c41 := by kernel_rfl
def c42L0 : AC := (AC.reg false [{ dst := some 18, ins := GoV.Instr.bin BinOp.lss (Opd.t 17) (Opd.t 16), guard := none }]).seq ((AC.cond (Opd.t 18) AC.skip (AC.exit 2)).seq ((AC.block 3 ((AC.reg false [{ dst := some 19, ins := GoV.Instr.mov (Opd.t 17), guard := none }, { dst := some 20, ins := GoV.Instr.idxA 1 (Opd.t 15) (Opd.t 17), guard := none }, { dst := some 21, ins := GoV.Instr.load 1 false (Opd.t 20), guard := none }, { dst := some 6, ins := GoV.Instr.mov (Opd.t 19), guard := none }, { dst := some 7, ins := GoV.Instr.mov (Opd.t 21), guard := none }]).seq ((AC.reg false [{ dst := some 22, ins := GoV.Instr.mov (Opd.t 4), guard := none }, { dst := some 23, ins := GoV.Instr.idxArrA 3 1 (Opd.t 2) (Opd.t 22), guard := none }, { dst := some 24, ins := GoV.Instr.load 1 false (Opd.t 23), guard := none }, { dst := some 25, ins := GoV.Instr.mov (Opd.t 7), guard := none }, { dst := some 26, ins := GoV.Instr.bin BinOp.add (Opd.t 24) (Opd.t 25), guard := none }, { dst := some 27, ins := GoV.Instr.idxArrA 3 1 (Opd.t 2) (Opd.t 22), guard := none }, { dst := none, ins := GoV.Instr.store 1 (Opd.t 27) (Opd.t 26), guard := none }]).seq (AC.reg false [{ dst := some 28, ins := GoV.Instr.mov (Opd.t 6), guard := none }, { dst := some 29, ins := GoV.Instr.idxArrA 3 1 (Opd.t 3) (Opd.t 28), guard := none }, { dst := some 30, ins := GoV.Instr.load 1 false (Opd.t 29), guard := none }, { dst := some 31, ins := GoV.Instr.mov (Opd.t 7), guard := none }, { dst := some 32, ins := GoV.Instr.bin BinOp.add (Opd.t 30) (Opd.t 31), guard := none }, { dst := some 33, ins := GoV.Instr.idxArrA 3 1 (Opd.t 3) (Opd.t 28), guard := none }, { dst := none, ins := GoV.Instr.store 1 (Opd.t 33) (Opd.t 32), guard := none }])))).seq (AC.reg false [{ dst := some 34, ins := GoV.Instr.bin BinOp.add (Opd.t 17) (Opd.c (AV.dat (Ty.int IntKind.i64) (1 : Int))), guard := none }, { dst := some 17, ins := GoV.Instr.mov (Opd.t 34), guard := none }])))
def c42L1 : AC := (AC.reg false [{ dst := some 11, ins := GoV.Instr.bin BinOp.lss (Opd.t 10) (Opd.t 9), guard := none }]).seq ((AC.cond (Opd.t 11) AC.skip (AC.exit 0)).seq ((AC.block 1 ((AC.reg false [{ dst := some 12, ins := GoV.Instr.mov (Opd.t 10), guard := none }, { dst := some 13, ins := GoV.Instr.idxA 1 (Opd.t 8) (Opd.t 10), guard := none }, { dst := some 14, ins := GoV.Instr.load 1 false (Opd.t 13), guard := none }, { dst := some 4, ins := GoV.Instr.mov (Opd.t 12), guard := none }, { dst := some 5, ins := GoV.Instr.mov (Opd.t 14), guard := none }]).seq ((AC.reg false [{ dst := some 15, ins := GoV.Instr.mov (Opd.t 5), guard := none }, { dst := some 16, ins := GoV.Instr.len (Opd.t 15), guard := none }, { dst := some 17, ins := GoV.Instr.mov (Opd.c (AV.dat (Ty.int IntKind.i64) (0 : Int))), guard := none }]).seq (AC.block 2 (AC.loop c42L0))))).seq (AC.reg false [{ dst := some 35, ins := GoV.Instr.bin BinOp.add (Opd.t 10) (Opd.c (AV.dat (Ty.int IntKind.i64) (1 : Int))), guard := none }, { dst := some 10, ins := GoV.Instr.mov (Opd.t 35), guard := none }])))
def c42 : FnC := { n := 38, body := (AC.reg false [{ dst := some 2, ins := GoV.Instr.alloc [AV.dat (Ty.int IntKind.i64) (0 : Int), AV.dat (Ty.int IntKind.i64) (0 : Int), AV.dat (Ty.int IntKind.i64) (0 : Int)], guard := none }, { dst := some 3, ins := GoV.Instr.alloc [AV.dat (Ty.int IntKind.i64) (0 : Int), AV.dat (Ty.int IntKind.i64) (0 : Int), AV.dat (Ty.int IntKind.i64) (0 : Int)], guard := none }]).seq (((AC.reg false [{ dst := some 8, ins := GoV.Instr.mov (Opd.t 0), guard := none }, { dst := some 9, ins := GoV.Instr.len (Opd.t 8), guard := none }, { dst := some 10, ins := GoV.Instr.mov (Opd.c (AV.dat (Ty.int IntKind.i64) (0 : Int))), guard := none }]).seq (AC.block 0 (AC.loop c42L1))).seq ((AC.regG 0 [0, 0, 1, 7] [{ dst := some 36, ins := GoV.Instr.load 3 true (Opd.t 2), guard := none }, { dst := some 37, ins := GoV.Instr.load 3 true (Opd.t 3), guard := none }, { dst := none, ins := GoV.Instr.store 3 (Opd.t 2) (Opd.t 36), guard := none }, { dst := none, ins := GoV.Instr.store 3 (Opd.t 3) (Opd.t 37), guard := none }]).seq AC.ret)), res := [RV.cell 2 3 true, RV.cell 3 3 true] }
set_option maxRecDepth 100000 in
theorem h42 : fnOf Tryd.prog 42 = some c42 := by kernel_rfl
def c43L0 : AC := (AC.reg false [{ dst := some 16, ins := GoV.Instr.bin BinOp.lss (Opd.t 15) (Opd.t 14), guard := none }]).seq ((AC.cond (Opd.t 16) AC.skip (AC.exit 0)).seq ((AC.block 1 ((AC.reg false [{ dst := some 17, ins := GoV.Instr.mov (Opd.t 15), guard := none }, { dst := some 18, ins := GoV.Instr.idxA 1 (Opd.t 13) (Opd.t 15), guard := none }, { dst := some 19, ins := GoV.Instr.load 1 false (Opd.t 18), guard := none }, { dst := some 6, ins := GoV.Instr.mov (Opd.t 17), guard := none }, { dst := some 7, ins := GoV.Instr.mov (Opd.t 19), guard := none }]).seq (AC.reg false [{ dst := some 20, ins := GoV.Instr.mov (Opd.t 5), guard := none }, { dst := some 21, ins := GoV.Instr.mov (Opd.t 6), guard := none }, { dst := some 22, ins := GoV.Instr.idxArrA 3 1 (Opd.t 3) (Opd.t 21), guard := none }, { dst := some 23, ins := GoV.Instr.load 1 false (Opd.t 22), guard := none }, { dst := some 24, ins := GoV.Instr.mov (Opd.t 7), guard := none }, { dst := some 25, ins := GoV.Instr.call (Opd.c (AV.fn 44 [] [])) [Opd.t 23, Opd.t 24], guard := none }, { dst := some 26, ins := GoV.Instr.bin BinOp.mul (Opd.t 20) (Opd.t 25), guard := none }, { dst := some 5, ins := GoV.Instr.mov (Opd.t 26), guard := none }]))).seq (AC.reg false [{ dst := some 27, ins := GoV.Instr.bin BinOp.add (Opd.t 15) (Opd.c (AV.dat (Ty.int IntKind.i64) (1 : Int))), guard := none }, { dst := some 15, ins := GoV.Instr.mov (Opd.t 27), guard := none }])))
def c43 : FnC := { n := 29, body := (AC.reg false [{ dst := some 2, ins := GoV.Instr.mov (Opd.c (AV.dat (Ty.int IntKind.i64) (0 : Int))), guard := none }]).seq ((AC.reg false [{ dst := some 9, ins := GoV.Instr.mov (Opd.t 0), guard := none }, { dst := some 10, ins := GoV.Instr.call (Opd.c (AV.fn 42 [] [])) [Opd.t 9], guard := none }, { dst := some 8, ins := GoV.Instr.mov (Opd.t 10), guard := none }, { dst := some 11, ins := GoV.Instr.ext (Opd.t 8) 0, guard := none }, { dst := some 12, ins := GoV.Instr.ext (Opd.t 8) 1, guard := none }, { dst := some 3, ins := GoV.Instr.alloc [AV.dat (Ty.int IntKind.i64) (0 : Int), AV.dat (Ty.int IntKind.i64) (0 : Int), AV.dat (Ty.int IntKind.i64) (0 : Int)], guard := none }, { dst := some 4, ins := GoV.Instr.alloc [AV.dat (Ty.int IntKind.i64) (0 : Int), AV.dat (Ty.int IntKind.i64) (0 : Int), AV.dat (Ty.int IntKind.i64) (0 : Int)], guard := none }, { dst := none, ins := GoV.Instr.store 3 (Opd.t 3) (Opd.t 11), guard := none }, { dst := none, ins := GoV.Instr.store 3 (Opd.t 4) (Opd.t 12), guard := none }]).seq ((AC.reg false [{ dst := some 5, ins := GoV.Instr.mov (Opd.c (AV.dat (Ty.int IntKind.i64) (1 : Int))), guard := none }]).seq (((AC.reg false [{ dst := some 13, ins := GoV.Instr.mov (Opd.t 0), guard := none }, { dst := some 14, ins := GoV.Instr.len (Opd.t 13), guard := none }, { dst := some 15, ins := GoV.Instr.mov (Opd.c (AV.dat (Ty.int IntKind.i64) (0 : Int))), guard := none }]).seq (AC.block 0 (AC.loop c43L0))).seq ((AC.reg false [{ dst := some 28, ins := GoV.Instr.mov (Opd.t 5), guard := none }, { dst := some 2, ins := GoV.Instr.mov (Opd.t 28), guard := none }]).seq AC.ret)))), res := [RV.tmp 2] }
set_option maxRecDepth 100000 in
theorem h43 : fnOf Tryd.prog 43 = some c43 := by kernel_rfl
def c44L0 : AC := (AC.reg false [{ dst := some 14, ins := GoV.Instr.bin BinOp.lss (Opd.t 13) (Opd.t 12), guard := none }]).seq ((AC.cond (Opd.t 14) AC.skip (AC.exit 0)).seq ((AC.block 1 ((AC.reg false [{ dst := some 15, ins := GoV.Instr.idxA 1 (Opd.t 11) (Opd.t 13), guard := none }, { dst := some 16, ins := GoV.Instr.load 1 false (Opd.t 15), guard := none }, { dst := some 7, ins := GoV.Instr.mov (Opd.t 16), guard := none }]).seq (AC.reg false [{ dst := some 17, ins := GoV.Instr.mov (Opd.t 5), guard := none }, { dst := some 18, ins := GoV.Instr.mov (Opd.t 7), guard := none }, { dst := some 19, ins := GoV.Instr.idxArrA 21 1 (Opd.c (AV.imm (Ty.arr 21 (Ty.int IntKind.i64)) [Int.ofNat 1, Int.ofNat 1, Int.ofNat 2, Int.ofNat 6, Int.ofNat 24, Int.ofNat 120, Int.ofNat 720, Int.ofNat 5040, Int.ofNat 40320, Int.ofNat 362880, Int.ofNat 3628800, Int.ofNat 39916800, Int.ofNat 479001600, Int.ofNat 6227020800, Int.ofNat 87178291200, Int.ofNat 1307674368000, Int.ofNat 20922789888000, Int.ofNat 355687428096000, Int.ofNat 6402373705728000, Int.ofNat 121645100408832000, Int.ofNat 2432902008176640000])) (Opd.t 18), guard := none }, { dst := some 20, ins := GoV.Instr.load 1 false (Opd.t 19), guard := none }, { dst := some 21, ins := GoV.Instr.bin BinOp.quo (Opd.t 17) (Opd.t 20), guard := none }, { dst := some 5, ins := GoV.Instr.mov (Opd.t 21), guard := none }]))).seq (AC.reg false [{ dst := some 22, ins := GoV.Instr.bin BinOp.add (Opd.t 13) (Opd.c (AV.dat (Ty.int IntKind.i64) (1 : Int))), guard := none }, { dst := some 13, ins := GoV.Instr.mov (Opd.t 22), guard := none }])))
def c44 : FnC := { n := 24, body := (AC.reg false [{ dst := some 4, ins := GoV.Instr.mov (Opd.c (AV.dat (Ty.int IntKind.i64) (0 : Int))), guard := none }]).seq ((AC.reg false [{ dst := some 8, ins := GoV.Instr.mov (Opd.t 0), guard := none }, { dst := some 9, ins := GoV.Instr.idxArrA 21 1 (Opd.c (AV.imm (Ty.arr 21 (Ty.int IntKind.i64)) [Int.ofNat 1, Int.ofNat 1, Int.ofNat 2, Int.ofNat 6, Int.ofNat 24, Int.ofNat 120, Int.ofNat 720, Int.ofNat 5040, Int.ofNat 40320, Int.ofNat 362880, Int.ofNat 3628800, Int.ofNat 39916800, Int.ofNat 479001600, Int.ofNat 6227020800, Int.ofNat 87178291200, Int.ofNat 1307674368000, Int.ofNat 20922789888000, Int.ofNat 355687428096000, Int.ofNat 6402373705728000, Int.ofNat 121645100408832000, Int.ofNat 2432902008176640000])) (Opd.t 8), guard := none }, { dst := some 10, ins := GoV.Instr.load 1 false (Opd.t 9), guard := none }, { dst := some 5, ins := GoV.Instr.mov (Opd.t 10), guard := none }]).seq (((AC.reg false [{ dst := some 11, ins := GoV.Instr.mov (Opd.t 1), guard := none }, { dst := some 12, ins := GoV.Instr.len (Opd.t 11), guard := none }, { dst := some 13, ins := GoV.Instr.mov (Opd.c (AV.dat (Ty.int IntKind.i64) (0 : Int))), guard := none }]).seq (AC.block 0 (AC.loop c44L0))).seq ((AC.reg false [{ dst := some 23, ins := GoV.Instr.mov (Opd.t 5), guard := none }, { dst := some 4, ins := GoV.Instr.mov (Opd.t 23), guard := none }]).seq AC.ret))), res := [RV.tmp 4] }
set_option maxRecDepth 100000 in
theorem h44 : fnOf Tryd.prog 44 = some c44 := by kernel_rfl
def c45L0 : AC := ((AC.reg false [{ dst := some 9, ins := GoV.Instr.mov (Opd.t 6), guard := none }, { dst := some 10, ins := GoV.Instr.mov (Opd.t 1), guard := none }, { dst := some 11, ins := GoV.Instr.len (Opd.t 10), guard := none }, { dst := some 12, ins := GoV.Instr.bin BinOp.lss (Opd.t 9) (Opd.t 11), guard := none }]).seq (AC.cond (Opd.t 12) AC.skip (AC.exit 0))).seq ((AC.block 1 (AC.reg false [{ dst := some 15, ins := GoV.Instr.mov (Opd.t 5), guard := none }, { dst := some 16, ins := GoV.Instr.mov (Opd.t 1), guard := none }, { dst := some 17, ins := GoV.Instr.mov (Opd.t 6), guard := none }, { dst := some 18, ins := GoV.Instr.idxA 1 (Opd.t 16) (Opd.t 17), guard := none }, { dst := some 19, ins := GoV.Instr.load 1 false (Opd.t 18), guard := none }, { dst := some 20, ins := GoV.Instr.call (Opd.c (AV.fn 54 [] [])) [Opd.t 19], guard := none }, { dst := some 21, ins := GoV.Instr.bin BinOp.quo (Opd.t 15) (Opd.t 20), guard := none }, { dst := some 5, ins := GoV.Instr.mov (Opd.t 21), guard := none }])).seq (AC.reg false [{ dst := some 13, ins := GoV.Instr.mov (Opd.t 6), guard := none }, { dst := some 14, ins := GoV.Instr.bin BinOp.add (Opd.t 13) (Opd.c (AV.dat (Ty.int IntKind.i64) (1 : Int))), guard := none }, { dst := some 6, ins := GoV.Instr.mov (Opd.t 14), guard := none }]))
def c45 : FnC := { n := 23, body := (AC.reg false [{ dst := some 4, ins := GoV.Instr.mov (Opd.c (AV.dat (Ty.int IntKind.i64) (0 : Int))), guard := none }]).seq ((AC.reg false [{ dst := some 7, ins := GoV.Instr.mov (Opd.t 0), guard := none }, { dst := some 8, ins := GoV.Instr.call (Opd.c (AV.fn 54 [] [])) [Opd.t 7], guard := none }, { dst := some 5, ins := GoV.Instr.mov (Opd.t 8), guard := none }]).seq (((AC.reg false [{ dst := some 6, ins := GoV.Instr.mov (Opd.c (AV.dat (Ty.int IntKind.i64) (0 : Int))), guard := none }]).seq (AC.block 0 (AC.loop c45L0))).seq ((AC.reg false [{ dst := some 22, ins := GoV.Instr.mov (Opd.t 5), guard := none }, { dst := some 4, ins := GoV.Instr.mov (Opd.t 22), guard := none }]).seq AC.ret))), res := [RV.tmp 4] }
set_option maxRecDepth 100000 in
theorem h45 : fnOf Tryd.prog 45 = some c45 := by kernel_rfl
def c46 : FnC := { n := 4, body := (AC.reg false [{ dst := some 1, ins := GoV.Instr.box (Opd.t 0), guard := none }, { dst := some 2, ins := GoV.Instr.mov (Opd.c AV.nilf), guard := none }]).seq ((AC.reg false [{ dst := some 3, ins := GoV.Instr.mkfn 55 [] [Opd.t 1], guard := none }, { dst := some 2, ins := GoV.Instr.mov (Opd.t 3), guard := none }]).seq AC.ret), res := [RV.tmp 2] }
set_option maxRecDepth 100000 in
theorem h46 : fnOf Tryd.prog 46 = some c46 := by kernel_rfl
def c47L0 : AC := ((AC.reg false [{ dst := some 16, ins := GoV.Instr.mov (Opd.t 5), guard := none }, { dst := some 17, ins := GoV.Instr.mov (Opd.t 1), guard := none }, { dst := some 18, ins := GoV.Instr.len (Opd.t 17), guard := none }, { dst := some 19, ins := GoV.Instr.bin BinOp.lss (Opd.t 16) (Opd.t 18), guard := none }]).seq (AC.cond (Opd.t 19) AC.skip (AC.exit 0))).seq ((AC.block 1 ((AC.reg false [{ dst := some 22, ins := GoV.Instr.mov (Opd.t 1), guard := none }, { dst := some 23, ins := GoV.Instr.mov (Opd.t 5), guard := none }, { dst := some 24, ins := GoV.Instr.idxA 1 (Opd.t 22) (Opd.t 23), guard := none }, { dst := some 25, ins := GoV.Instr.load 1 false (Opd.t 24), guard := none }, { dst := some 26, ins := GoV.Instr.bin BinOp.neq (Opd.t 25) (Opd.c (AV.dat (Ty.int IntKind.i64) (0 : Int))), guard := none }]).seq (AC.cond (Opd.t 26) ((AC.reg false [{ dst := some 4, ins := GoV.Instr.mov (Opd.c AV.nils), guard := none }]).seq AC.ret) AC.skip))).seq (AC.reg false [{ dst := some 20, ins := GoV.Instr.mov (Opd.t 5), guard := none }, { dst := some 21, ins := GoV.Instr.bin BinOp.add (Opd.t 20) (Opd.c (AV.dat (Ty.int IntKind.i64) (1 : Int))), guard := none }, { dst := some 5, ins := GoV.Instr.mov (Opd.t 21), guard := none }]))
def c47L1 : AC := ((AC.reg false [{ dst := some 40, ins := GoV.Instr.mov (Opd.t 10), guard := none }, { dst := some 41, ins := GoV.Instr.mov (Opd.t 1), guard := none }, { dst := some 42, ins := GoV.Instr.len (Opd.t 41), guard := none }, { dst := some 43, ins := GoV.Instr.bin BinOp.lss (Opd.t 40) (Opd.t 42), guard := none }]).seq (AC.cond (Opd.t 43) AC.skip (AC.exit 4))).seq ((AC.block 5 (AC.reg true [{ dst := some 46, ins := GoV.Instr.mov (Opd.t 9), guard := none }, { dst := some 47, ins := GoV.Instr.mov (Opd.t 1), guard := none }, { dst := some 48, ins := GoV.Instr.mov (Opd.t 10), guard := none }, { dst := some 49, ins := GoV.Instr.idxA 1 (Opd.t 47) (Opd.t 48), guard := none }, { dst := some 50, ins := GoV.Instr.load 1 false (Opd.t 49), guard := none }, { dst := some 51, ins := GoV.Instr.mov (Opd.t 7), guard := none }, { dst := some 52, ins := GoV.Instr.mov (Opd.t 8), guard := none }, { dst := some 53, ins := GoV.Instr.idxA 1 (Opd.t 51) (Opd.t 52), guard := none }, { dst := some 54, ins := GoV.Instr.load 1 false (Opd.t 53), guard := none }, { dst := some 55, ins := GoV.Instr.mov (Opd.t 10), guard := none }, { dst := some 56, ins := GoV.Instr.idxA 1 (Opd.t 54) (Opd.t 55), guard := none }, { dst := some 57, ins := GoV.Instr.load 1 false (Opd.t 56), guard := none }, { dst := some 58, ins := GoV.Instr.bin BinOp.sub (Opd.t 50) (Opd.t 57), guard := none }, { dst := some 59, ins := GoV.Instr.bslice (Ty.int IntKind.i64) 1 [(0, Opd.t 58)], guard := none }, { dst := some 60, ins := GoV.Instr.app (Ty.int IntKind.i64) 8 (Opd.t 46) (Opd.t 59), guard := none }, { dst := some 9, ins := GoV.Instr.mov (Opd.t 60), guard := none }])).seq (AC.reg false [{ dst := some 44, ins := GoV.Instr.mov (Opd.t 10), guard := none }, { dst := some 45, ins := GoV.Instr.bin BinOp.add (Opd.t 44) (Opd.c (AV.dat (Ty.int IntKind.i64) (1 : Int))), guard := none }, { dst := some 10, ins := GoV.Instr.mov (Opd.t 45), guard := none }]))
def c47L2 : AC := ((AC.reg false [{ dst := some 65, ins := GoV.Instr.mov (Opd.t 12), guard := none }, { dst := some 66, ins := GoV.Instr.mov (Opd.t 11), guard := none }, { dst := some 67, ins := GoV.Instr.len (Opd.t 66), guard := none }, { dst := some 68, ins := GoV.Instr.bin BinOp.lss (Opd.t 65) (Opd.t 67), guard := none }]).seq (AC.cond (Opd.t 68) AC.skip (AC.exit 6))).seq ((AC.block 7 (AC.reg true [{ dst := some 71, ins := GoV.Instr.mov (Opd.t 6), guard := none }, { dst := some 72, ins := GoV.Instr.mov (Opd.t 7), guard := none }, { dst := some 73, ins := GoV.Instr.mov (Opd.t 8), guard := none }, { dst := some 74, ins := GoV.Instr.idxA 1 (Opd.t 72) (Opd.t 73), guard := none }, { dst := some 75, ins := GoV.Instr.load 1 false (Opd.t 74), guard := none }, { dst := some 76, ins := GoV.Instr.bdat (Ty.int IntKind.i64).list 1 [(0, Opd.t 75)], guard := none }, { dst := some 77, ins := GoV.Instr.mov (Opd.t 11), guard := none }, { dst := some 78, ins := GoV.Instr.mov (Opd.t 12), guard := none }, { dst := some 79, ins := GoV.Instr.idxA 1 (Opd.t 77) (Opd.t 78), guard := none }, { dst := some 80, ins := GoV.Instr.load 1 false (Opd.t 79), guard := none }, { dst := some 81, ins := GoV.Instr.app (Ty.int IntKind.i64).list 24 (Opd.t 76) (Opd.t 80), guard := none }, { dst := some 82, ins := GoV.Instr.bdat (Ty.int IntKind.i64).list.list 1 [(0, Opd.t 81)], guard := none }, { dst := some 83, ins := GoV.Instr.app (Ty.int IntKind.i64).list.list 24 (Opd.t 71) (Opd.t 82), guard := none }, { dst := some 6, ins := GoV.Instr.mov (Opd.t 83), guard := none }])).seq (AC.reg false [{ dst := some 69, ins := GoV.Instr.mov (Opd.t 12), guard := none }, { dst := some 70, ins := GoV.Instr.bin BinOp.add (Opd.t 69) (Opd.c (AV.dat (Ty.int IntKind.i64) (1 : Int))), guard := none }, { dst := some 12, ins := GoV.Instr.mov (Opd.t 70), guard := none }]))
def c47L3 : AC := ((AC.reg false [{ dst := some 34, ins := GoV.Instr.mov (Opd.t 8), guard := none }, { dst := some 35, ins := GoV.Instr.mov (Opd.t 7), guard := none }, { dst := some 36, ins := GoV.Instr.len (Opd.t 35), guard := none }, { dst := some 37, ins := GoV.Instr.bin BinOp.lss (Opd.t 34) (Opd.t 36), guard := none }]).seq (AC.cond (Opd.t 37) AC.skip (AC.exit 2))).seq ((AC.block 3 ((AC.reg false [{ dst := some 9, ins := GoV.Instr.mov (Opd.c AV.nils), guard := none }]).seq (((AC.reg false [{ dst := some 10, ins := GoV.Instr.mov (Opd.c (AV.dat (Ty.int IntKind.i64) (0 : Int))), guard := none }]).seq (AC.block 4 (AC.loop c47L1))).seq ((AC.reg false [{ dst := some 61, ins := GoV.Instr.mov (Opd.t 0), guard := none }, { dst := some 62, ins := GoV.Instr.slice 1 (Opd.t 61) (some (Opd.c (AV.dat (Ty.int IntKind.i64) (1 : Int)))) none, guard := none }, { dst := some 63, ins := GoV.Instr.mov (Opd.t 9), guard := none }, { dst := some 64, ins := GoV.Instr.call (Opd.c (AV.fn 47 [] [])) [Opd.t 62, Opd.t 63], guard := none }, { dst := some 11, ins := GoV.Instr.mov (Opd.t 64), guard := none }]).seq ((AC.reg false [{ dst := some 12, ins := GoV.Instr.mov (Opd.c (AV.dat (Ty.int IntKind.i64) (0 : Int))), guard := none }]).seq (AC.block 6 (AC.loop c47L2))))))).seq (AC.reg false [{ dst := some 38, ins := GoV.Instr.mov (Opd.t 8), guard := none }, { dst := some 39, ins := GoV.Instr.bin BinOp.add (Opd.t 38) (Opd.c (AV.dat (Ty.int IntKind.i64) (1 : Int))), guard := none }, { dst := some 8, ins := GoV.Instr.mov (Opd.t 39), guard := none }]))
def c47 : FnC := { n := 85, body := (AC.reg false [{ dst := some 4, ins := GoV.Instr.mov (Opd.c AV.nils), guard := none }]).seq (((AC.reg false [{ dst := some 13, ins := GoV.Instr.mov (Opd.t 0), guard := none }, { dst := some 14, ins := GoV.Instr.len (Opd.t 13), guard := none }, { dst := some 15, ins := GoV.Instr.bin BinOp.eql (Opd.t 14) (Opd.c (AV.dat (Ty.int IntKind.i64) (0 : Int))), guard := none }]).seq (AC.cond (Opd.t 15) (((AC.reg false [{ dst := some 5, ins := GoV.Instr.mov (Opd.c (AV.dat (Ty.int IntKind.i64) (0 : Int))), guard := none }]).seq (AC.block 0 (AC.loop c47L0))).seq ((AC.reg false [{ dst := some 27, ins := GoV.Instr.bsliceB (Ty.int IntKind.i64).list [AV.nils] 1 0 [], guard := none }, { dst := some 28, ins := GoV.Instr.bsliceB (Ty.int IntKind.i64).list.list [AV.nils] 1 1 [(0, Opd.t 27)], guard := none }, { dst := some 4, ins := GoV.Instr.mov (Opd.t 28), guard := none }]).seq AC.ret)) AC.skip)).seq ((AC.reg false [{ dst := some 6, ins := GoV.Instr.mov (Opd.c AV.nils), guard := none }]).seq ((AC.reg false [{ dst := some 29, ins := GoV.Instr.mov (Opd.t 0), guard := none }, { dst := some 30, ins := GoV.Instr.idxA 1 (Opd.t 29) (Opd.c (AV.dat (Ty.int IntKind.i64) (0 : Int))), guard := none }, { dst := some 31, ins := GoV.Instr.load 1 false (Opd.t 30), guard := none }, { dst := some 32, ins := GoV.Instr.mov (Opd.t 1), guard := none }, { dst := some 33, ins := GoV.Instr.call (Opd.c (AV.fn 57 [] [])) [Opd.t 31, Opd.t 32], guard := none }, { dst := some 7, ins := GoV.Instr.mov (Opd.t 33), guard := none }]).seq (((AC.reg false [{ dst := some 8, ins := GoV.Instr.mov (Opd.c (AV.dat (Ty.int IntKind.i64) (0 : Int))), guard := none }]).seq (AC.block 2 (AC.loop c47L3))).seq ((AC.reg false [{ dst := some 84, ins := GoV.Instr.mov (Opd.t 6), guard := none }, { dst := some 4, ins := GoV.Instr.mov (Opd.t 84), guard := none }]).seq AC.ret))))), res := [RV.tmp 4] }
set_option maxRecDepth 100000 in
theorem h47 : fnOf Tryd.prog 47 = some c47 := by kernel_rfl
def c48 : FnC := { n := 19, body := (AC.reg false [{ dst := some 2, ins := GoV.Instr.box (Opd.t 0), guard := none }, { dst := some 3, ins := GoV.Instr.box (Opd.t 1), guard := none }, { dst := some 4, ins := GoV.Instr.alloc [AV.dat (Ty.int IntKind.i64) (0 : Int), AV.dat (Ty.int IntKind.i64) (0 : Int)], guard := none }, { dst := some 5, ins := GoV.Instr.mov (Opd.c (AV.dat (Ty.int IntKind.i64) (0 : Int))), guard := none }]).seq (((AC.reg false [{ dst := some 7, ins := GoV.Instr.load 1 false (Opd.t 3), guard := none }, { dst := some 8, ins := GoV.Instr.bin BinOp.eql (Opd.t 7) (Opd.c (AV.dat (Ty.int IntKind.i64) (0 : Int))), guard := none }]).seq (AC.cond (Opd.t 8) ((AC.reg false [{ dst := some 9, ins := GoV.Instr.build [AV.dat (Ty.int IntKind.i64) (0 : Int), AV.dat (Ty.int IntKind.i64) (0 : Int)] [], guard := none }, { dst := none, ins := GoV.Instr.store 2 (Opd.t 4) (Opd.t 9), guard := none }, { dst := some 5, ins := GoV.Instr.mov (Opd.c (AV.dat (Ty.int IntKind.i64) (2 : Int))), guard := none }]).seq AC.ret) AC.skip)).seq ((AC.regG 1 [0, 1, 0, 7, 15, 0, 63] [{ dst := some 10, ins := GoV.Instr.load 1 false (Opd.t 2), guard := none }, { dst := some 11, ins := GoV.Instr.callq (Opd.c (AV.fn 59 [] [])) [Opd.t 10], guard := none }, { dst := some 12, ins := GoV.Instr.load 1 false (Opd.t 3), guard := none }, { dst := some 13, ins := GoV.Instr.callq (Opd.c (AV.fn 59 [] [])) [Opd.t 12], guard := none }, { dst := some 14, ins := GoV.Instr.callq (Opd.c (AV.fn 58 [] [])) [Opd.t 11, Opd.t 13], guard := none }, { dst := some 6, ins := GoV.Instr.allocR 1 [AV.dat (Ty.int IntKind.u64) (0 : Int)], guard := none }, { dst := none, ins := GoV.Instr.store 1 (Opd.t 6) (Opd.t 14), guard := none }]).seq ((AC.reg false [{ dst := some 15, ins := GoV.Instr.mkfn 61 [] [Opd.t 2, Opd.t 3, Opd.t 6], guard := none }, { dst := some 16, ins := GoV.Instr.call (Opd.c (AV.fn 60 [] [])) [Opd.t 15], guard := none }, { dst := some 17, ins := GoV.Instr.ext (Opd.t 16) 0, guard := none }, { dst := some 18, ins := GoV.Instr.ext (Opd.t 16) 1, guard := none }, { dst := none, ins := GoV.Instr.store 2 (Opd.t 4) (Opd.t 17), guard := none }, { dst := some 5, ins := GoV.Instr.mov (Opd.t 18), guard := none }]).seq AC.ret))), res := [RV.cell 4 2 true, RV.tmp 5] }
set_option maxRecDepth 100000 in
theorem h48 : fnOf Tryd.prog 48 = some c48 := by kernel_rfl
def c49 : FnC := { n := 27, body := (AC.reg false [{ dst := some 1, ins := GoV.Instr.box (Opd.t 0), guard := none }, { dst := some 2, ins := GoV.Instr.mov (Opd.c (AV.dat (Ty.int IntKind.i64) (0 : Int))), guard := none }]).seq (((AC.reg true [{ dst := some 3, ins := GoV.Instr.fldA 1 (Opd.t 1), guard := none }, { dst := some 4, ins := GoV.Instr.load 1 false (Opd.t 3), guard := none }, { dst := some 5, ins := GoV.Instr.bin BinOp.lss (Opd.t 4) (Opd.c (AV.dat (Ty.int IntKind.i64) (1 : Int))), guard := none }, { dst := some 6, ins := GoV.Instr.mov (Opd.t 5), guard := none }, { dst := some 7, ins := GoV.Instr.fldA 1 (Opd.t 1), guard := some (6, false) }, { dst := some 8, ins := GoV.Instr.load 1 false (Opd.t 7), guard := some (6, false) }, { dst := some 9, ins := GoV.Instr.bin BinOp.gtr (Opd.t 8) (Opd.c (AV.dat (Ty.int IntKind.i64) (4611686018427387903 : Int))), guard := some (6, false) }, { dst := some 10, ins := GoV.Instr.pick (Opd.t 6) (Opd.c (AV.dat Ty.bool true)) (Opd.t 9), guard := none }, { dst := some 11, ins := GoV.Instr.mov (Opd.t 10), guard := none }, { dst := some 12, ins := GoV.Instr.fldA 0 (Opd.t 1), guard := some (11, false) }, { dst := some 13, ins := GoV.Instr.load 1 false (Opd.t 12), guard := some (11, false) }, { dst := some 14, ins := GoV.Instr.callp (Opd.c (AV.fn 59 [] [])) [Opd.t 13], guard := some (11, false) }, { dst := some 15, ins := GoV.Instr.bin BinOp.gtr (Opd.t 14) (Opd.c (AV.dat (Ty.int IntKind.u64) (4611686018427387903 : Int))), guard := some (11, false) }, { dst := some 16, ins := GoV.Instr.pick (Opd.t 11) (Opd.c (AV.dat Ty.bool true)) (Opd.t 15), guard := none }, { dst := some 17, ins := GoV.Instr.mov (Opd.t 16), guard := none }, { dst := some 18, ins := GoV.Instr.fldA 0 (Opd.t 1), guard := some (17, false) }, { dst := some 19, ins := GoV.Instr.load 1 false (Opd.t 18), guard := some (17, false) }, { dst := some 20, ins := GoV.Instr.callp (Opd.c (AV.fn 59 [] [])) [Opd.t 19], guard := some (17, false) }, { dst := some 21, ins := GoV.Instr.fldA 1 (Opd.t 1), guard := some (17, false) }, { dst := some 22, ins := GoV.Instr.load 1 false (Opd.t 21), guard := some (17, false) }, { dst := some 23, ins := GoV.Instr.conv IntKind.u64 (Opd.t 22), guard := some (17, false) }, { dst := some 24, ins := GoV.Instr.callp (Opd.c (AV.fn 58 [] [])) [Opd.t 20, Opd.t 23], guard := some (17, false) }, { dst := some 25, ins := GoV.Instr.bin BinOp.neq (Opd.t 24) (Opd.c (AV.dat (Ty.int IntKind.u64) (1 : Int))), guard := some (17, false) }, { dst := some 26, ins := GoV.Instr.pick (Opd.t 17) (Opd.c (AV.dat Ty.bool true)) (Opd.t 25), guard := none }]).seq (AC.cond (Opd.t 26) ((AC.reg false [{ dst := some 2, ins := GoV.Instr.mov (Opd.c (AV.dat (Ty.int IntKind.i64) (5 : Int))), guard := none }]).seq AC.ret) AC.skip)).seq ((AC.reg false [{ dst := some 2, ins := GoV.Instr.mov (Opd.c (AV.dat (Ty.int IntKind.i64) (0 : Int))), guard := none }]).seq AC.ret)), res := [RV.tmp 2] }
set_option maxRecDepth 100000 in
theorem h49 : fnOf Tryd.prog 49 = some c49 := by kernel_rfl
def c50 : FnC := { n := 11, body := (AC.reg false [{ dst := some 2, ins := GoV.Instr.box (Opd.t 0), guard := none }, { dst := some 3, ins := GoV.Instr.box (Opd.t 1), guard := none }, { dst := some 4, ins := GoV.Instr.mov (Opd.c (AV.dat (Ty.int IntKind.i64) (0 : Int))), guard := none }, { dst := some 5, ins := GoV.Instr.mov (Opd.c (AV.dat (Ty.int IntKind.i64) (0 : Int))), guard := none }]).seq ((AC.reg false [{ dst := some 6, ins := GoV.Instr.load 2 true (Opd.t 2), guard := none }, { dst := some 7, ins := GoV.Instr.load 2 true (Opd.t 3), guard := none }, { dst := some 8, ins := GoV.Instr.call (Opd.c (AV.fn 63 [] [])) [Opd.t 6, Opd.t 7, Opd.c (AV.fn 64 [] [])], guard := none }, { dst := some 9, ins := GoV.Instr.ext (Opd.t 8) 0, guard := none }, { dst := some 10, ins := GoV.Instr.ext (Opd.t 8) 1, guard := none }, { dst := some 4, ins := GoV.Instr.mov (Opd.t 9), guard := none }, { dst := some 5, ins := GoV.Instr.mov (Opd.t 10), guard := none }]).seq AC.ret), res := [RV.tmp 4, RV.tmp 5] }
set_option maxRecDepth 100000 in
theorem h50 : fnOf Tryd.prog 50 = some c50 := by kernel_rfl
def c51 : FnC := { n := 38, body := (AC.reg false [{ dst := some 8, ins := GoV.Instr.mov (Opd.c (AV.dat Ty.bool false)), guard := none }]).seq ((AC.reg false [{ dst := some 14, ins := GoV.Instr.mov (Opd.t 0), guard := none }, { dst := some 15, ins := GoV.Instr.mov (Opd.t 1), guard := none }, { dst := some 16, ins := GoV.Instr.call (Opd.c (AV.fn 67 [] [])) [Opd.t 14, Opd.t 15], guard := none }, { dst := some 13, ins := GoV.Instr.mov (Opd.t 16), guard := none }, { dst := some 17, ins := GoV.Instr.ext (Opd.t 13) 0, guard := none }, { dst := some 18, ins := GoV.Instr.ext (Opd.t 13) 1, guard := none }, { dst := some 9, ins := GoV.Instr.mov (Opd.t 17), guard := none }, { dst := some 10, ins := GoV.Instr.mov (Opd.t 18), guard := none }]).seq ((AC.reg false [{ dst := some 20, ins := GoV.Instr.mov (Opd.t 2), guard := none }, { dst := some 21, ins := GoV.Instr.mov (Opd.t 3), guard := none }, { dst := some 22, ins := GoV.Instr.call (Opd.c (AV.fn 67 [] [])) [Opd.t 20, Opd.t 21], guard := none }, { dst := some 19, ins := GoV.Instr.mov (Opd.t 22), guard := none }, { dst := some 23, ins := GoV.Instr.ext (Opd.t 19) 0, guard := none }, { dst := some 24, ins := GoV.Instr.ext (Opd.t 19) 1, guard := none }, { dst := some 11, ins := GoV.Instr.mov (Opd.t 23), guard := none }, { dst := some 12, ins := GoV.Instr.mov (Opd.t 24), guard := none }]).seq ((AC.reg false [{ dst := some 25, ins := GoV.Instr.mov (Opd.t 9), guard := none }, { dst := some 26, ins := GoV.Instr.mov (Opd.t 11), guard := none }, { dst := some 27, ins := GoV.Instr.bin BinOp.lss (Opd.t 25) (Opd.t 26), guard := none }, { dst := some 28, ins := GoV.Instr.mov (Opd.t 27), guard := none }, { dst := some 29, ins := GoV.Instr.mov (Opd.t 9), guard := some (28, false) }, { dst := some 30, ins := GoV.Instr.mov (Opd.t 11), guard := some (28, false) }, { dst := some 31, ins := GoV.Instr.bin BinOp.eql (Opd.t 29) (Opd.t 30), guard := some (28, false) }, { dst := some 32, ins := GoV.Instr.mov (Opd.t 31), guard := some (28, false) }, { dst := some 33, ins := GoV.Instr.mov (Opd.t 10), guard := some (32, true) }, { dst := some 34, ins := GoV.Instr.mov (Opd.t 12), guard := some (32, true) }, { dst := some 35, ins := GoV.Instr.bin BinOp.leq (Opd.t 33) (Opd.t 34), guard := some (32, true) }, { dst := some 36, ins := GoV.Instr.pick (Opd.t 32) (Opd.t 35) (Opd.c (AV.dat Ty.bool false)), guard := some (28, false) }, { dst := some 37, ins := GoV.Instr.pick (Opd.t 28) (Opd.c (AV.dat Ty.bool true)) (Opd.t 36), guard := none }, { dst := some 8, ins := GoV.Instr.mov (Opd.t 37), guard := none }]).seq AC.ret))), res := [RV.tmp 8] }
set_option maxRecDepth 100000 in
theorem h51 : fnOf Tryd.prog 51 = some c51 := by kernel_rfl
def c52 : FnC := { n := 20, body := (AC.reg false [{ dst := some 4, ins := GoV.Instr.mov (Opd.c (AV.dat (Ty.int IntKind.i64) (0 : Int))), guard := none }]).seq ((AC.reg false [{ dst := some 7, ins := GoV.Instr.mov (Opd.t 0), guard := none }, { dst := some 8, ins := GoV.Instr.call (Opd.c (AV.fn 68 [] [])) [Opd.t 7], guard := none }, { dst := some 5, ins := GoV.Instr.mov (Opd.t 8), guard := none }]).seq ((AC.reg false [{ dst := some 9, ins := GoV.Instr.mov (Opd.t 1), guard := none }, { dst := some 10, ins := GoV.Instr.call (Opd.c (AV.fn 68 [] [])) [Opd.t 9], guard := none }, { dst := some 6, ins := GoV.Instr.mov (Opd.t 10), guard := none }]).seq (((AC.reg false [{ dst := some 11, ins := GoV.Instr.mov (Opd.t 5), guard := none }]).seq (AC.cond (Opd.t 11) (((AC.reg false [{ dst := some 12, ins := GoV.Instr.mov (Opd.t 6), guard := none }]).seq (AC.cond (Opd.t 12) ((AC.reg false [{ dst := some 4, ins := GoV.Instr.mov (Opd.c (AV.dat (Ty.int IntKind.i64) (0 : Int))), guard := none }]).seq AC.ret) AC.skip)).seq ((AC.reg false [{ dst := some 4, ins := GoV.Instr.mov (Opd.c (AV.dat (Ty.int IntKind.i64) (-1 : Int))), guard := none }]).seq AC.ret)) AC.skip)).seq (((AC.reg false [{ dst := some 13, ins := GoV.Instr.mov (Opd.t 6), guard := none }]).seq (AC.cond (Opd.t 13) ((AC.reg false [{ dst := some 4, ins := GoV.Instr.mov (Opd.c (AV.dat (Ty.int IntKind.i64) (1 : Int))), guard := none }]).seq AC.ret) AC.skip)).seq (((AC.reg false [{ dst := some 14, ins := GoV.Instr.mov (Opd.t 0), guard := none }, { dst := some 15, ins := GoV.Instr.mov (Opd.t 1), guard := none }, { dst := some 16, ins := GoV.Instr.bin BinOp.lss (Opd.t 14) (Opd.t 15), guard := none }]).seq (AC.cond (Opd.t 16) ((AC.reg false [{ dst := some 4, ins := GoV.Instr.mov (Opd.c (AV.dat (Ty.int IntKind.i64) (-1 : Int))), guard := none }]).seq AC.ret) AC.skip)).seq (((AC.reg false [{ dst := some 17, ins := GoV.Instr.mov (Opd.t 0), guard := none }, { dst := some 18, ins := GoV.Instr.mov (Opd.t 1), guard := none }, { dst := some 19, ins := GoV.Instr.bin BinOp.gtr (Opd.t 17) (Opd.t 18), guard := none }]).seq (AC.cond (Opd.t 19) ((AC.reg false [{ dst := some 4, ins := GoV.Instr.mov (Opd.c (AV.dat (Ty.int IntKind.i64) (1 : Int))), guard := none }]).seq AC.ret) AC.skip)).seq ((AC.reg false [{ dst := some 4, ins := GoV.Instr.mov (Opd.c (AV.dat (Ty.int IntKind.i64) (0 : Int))), guard := none }]).seq AC.ret))))))), res := [RV.tmp 4] }
set_option maxRecDepth 100000 in
theorem h52 : fnOf Tryd.prog 52 = some c52 := by kernel_rfl
def c53 : FnC := { n := 27, body := (AC.reg false [{ dst := some 4, ins := GoV.Instr.mov (Opd.c AV.nils), guard := none }]).seq (((AC.reg false [{ dst := some 5, ins := GoV.Instr.mov (Opd.t 1), guard := none }, { dst := some 6, ins := GoV.Instr.bin BinOp.lss (Opd.t 5) (Opd.c (AV.dat (Ty.int IntKind.i64) (0 : Int))), guard := none }]).seq (AC.cond (Opd.t 6) (AC.reg false [{ dst := some 7, ins := GoV.Instr.bad, guard := none }, { dst := none, ins := GoV.Instr.bad, guard := none }]) AC.skip)).seq (((AC.reg false [{ dst := some 8, ins := GoV.Instr.mov (Opd.t 1), guard := none }, { dst := some 9, ins := GoV.Instr.mov (Opd.t 0), guard := none }, { dst := some 10, ins := GoV.Instr.capI (Opd.t 9), guard := none }, { dst := some 11, ins := GoV.Instr.mov (Opd.t 0), guard := none }, { dst := some 12, ins := GoV.Instr.len (Opd.t 11), guard := none }, { dst := some 13, ins := GoV.Instr.bin BinOp.sub (Opd.t 10) (Opd.t 12), guard := none }, { dst := some 14, ins := GoV.Instr.bin BinOp.sub (Opd.t 8) (Opd.t 13), guard := none }, { dst := some 1, ins := GoV.Instr.mov (Opd.t 14), guard := none }]).seq ((AC.reg false [{ dst := some 15, ins := GoV.Instr.mov (Opd.t 1), guard := none }, { dst := some 16, ins := GoV.Instr.bin BinOp.gtr (Opd.t 15) (Opd.c (AV.dat (Ty.int IntKind.i64) (0 : Int))), guard := none }]).seq (AC.cond (Opd.t 16) (AC.reg false [{ dst := some 17, ins := GoV.Instr.mov (Opd.t 0), guard := none }, { dst := some 18, ins := GoV.Instr.mov (Opd.t 0), guard := none }, { dst := some 19, ins := GoV.Instr.capI (Opd.t 18), guard := none }, { dst := some 20, ins := GoV.Instr.slice 1 (Opd.t 17) none (some (Opd.t 19)), guard := none }, { dst := some 21, ins := GoV.Instr.mov (Opd.t 1), guard := none }, { dst := some 22, ins := GoV.Instr.bad, guard := none }, { dst := some 23, ins := GoV.Instr.mov (Opd.t 0), guard := none }, { dst := some 24, ins := GoV.Instr.len (Opd.t 23), guard := none }, { dst := some 25, ins := GoV.Instr.slice 1 (Opd.t 22) none (some (Opd.t 24)), guard := none }, { dst := some 0, ins := GoV.Instr.mov (Opd.t 25), guard := none }]) AC.skip))).seq ((AC.reg false [{ dst := some 26, ins := GoV.Instr.mov (Opd.t 0), guard := none }, { dst := some 4, ins := GoV.Instr.mov (Opd.t 26), guard := none }]).seq AC.ret))), res := [RV.tmp 4] }
set_option maxRecDepth 100000 in
theorem h53 : fnOf Tryd.prog 53 = some c53 := by kernel_rfl
def c54L0 : AC := ((AC.reg false [{ dst := some 5, ins := GoV.Instr.mov (Opd.t 4), guard := none }, { dst := some 6, ins := GoV.Instr.mov (Opd.t 0), guard := none }, { dst := some 7, ins := GoV.Instr.bin BinOp.leq (Opd.t 5) (Opd.t 6), guard := none }]).seq (AC.cond (Opd.t 7) AC.skip (AC.exit 0))).seq ((AC.block 1 (AC.reg false [{ dst := some 10, ins := GoV.Instr.mov (Opd.t 3), guard := none }, { dst := some 11, ins := GoV.Instr.mov (Opd.t 4), guard := none }, { dst := some 12, ins := GoV.Instr.bin BinOp.mul (Opd.t 10) (Opd.t 11), guard := none }, { dst := some 3, ins := GoV.Instr.mov (Opd.t 12), guard := none }])).seq (AC.reg false [{ dst := some 8, ins := GoV.Instr.mov (Opd.t 4), guard := none }, { dst := some 9, ins := GoV.Instr.bin BinOp.add (Opd.t 8) (Opd.c (AV.dat (Ty.int IntKind.i64) (1 : Int))), guard := none }, { dst := some 4, ins := GoV.Instr.mov (Opd.t 9), guard := none }]))
def c54 : FnC := { n := 14, body := (AC.reg false [{ dst := some 2, ins := GoV.Instr.mov (Opd.c (AV.dat (Ty.int IntKind.i64) (0 : Int))), guard := none }]).seq ((AC.reg false [{ dst := some 3, ins := GoV.Instr.mov (Opd.c (AV.dat (Ty.int IntKind.i64) (1 : Int))), guard := none }]).seq (((AC.reg false [{ dst := some 4, ins := GoV.Instr.mov (Opd.c (AV.dat (Ty.int IntKind.i64) (2 : Int))), guard := none }]).seq (AC.block 0 (AC.loop c54L0))).seq ((AC.reg false [{ dst := some 13, ins := GoV.Instr.mov (Opd.t 3), guard := none }, { dst := some 2, ins := GoV.Instr.mov (Opd.t 13), guard := none }]).seq AC.ret))), res := [RV.tmp 2] }
set_option maxRecDepth 100000 in
theorem h54 : fnOf Tryd.prog 54 = some c54 := by kernel_rfl
def c55L0 : AC := (AC.reg false [{ dst := some 19, ins := GoV.Instr.bin BinOp.lss (Opd.t 18) (Opd.t 17), guard := none }]).seq ((AC.cond (Opd.t 19) AC.skip (AC.exit 0)).seq ((AC.block 1 ((AC.reg false [{ dst := some 20, ins := GoV.Instr.mov (Opd.t 18), guard := none }, { dst := some 6, ins := GoV.Instr.mov (Opd.t 20), guard := none }]).seq (AC.regG 1 [0, 0, 0, 4, 12, 28, 60, 127, 255] [{ dst := some 21, ins := GoV.Instr.load 1 false (Opd.t 5), guard := none }, { dst := some 22, ins := GoV.Instr.mov (Opd.t 6), guard := none }, { dst := some 23, ins := GoV.Instr.load 1 false (Opd.t 1), guard := none }, { dst := some 24, ins := GoV.Instr.idxA 1 (Opd.t 23) (Opd.c (AV.dat (Ty.int IntKind.i64) (0 : Int))), guard := none }, { dst := some 25, ins := GoV.Instr.load 1 false (Opd.t 24), guard := none }, { dst := some 26, ins := GoV.Instr.len (Opd.t 25), guard := none }, { dst := some 27, ins := GoV.Instr.mkR 1 (Ty.int IntKind.i64) 8 (Opd.t 26) (Opd.t 26), guard := none }, { dst := some 28, ins := GoV.Instr.idxA 1 (Opd.t 21) (Opd.t 22), guard := none }, { dst := none, ins := GoV.Instr.store 1 (Opd.t 28) (Opd.t 27), guard := none }]))).seq (AC.reg false [{ dst := some 29, ins := GoV.Instr.bin BinOp.add (Opd.t 18) (Opd.c (AV.dat (Ty.int IntKind.i64) (1 : Int))), guard := none }, { dst := some 18, ins := GoV.Instr.mov (Opd.t 29), guard := none }])))
def c55 : FnC := { n := 33, body := (AC.reg false [{ dst := some 2, ins := GoV.Instr.box (Opd.t 0), guard := none }]).seq ((AC.reg false [{ dst := some 9, ins := GoV.Instr.load 1 false (Opd.t 1), guard := none }, { dst := some 10, ins := GoV.Instr.call (Opd.c (AV.fn 42 [] [])) [Opd.t 9], guard := none }, { dst := some 8, ins := GoV.Instr.mov (Opd.t 10), guard := none }, { dst := some 11, ins := GoV.Instr.ext (Opd.t 8) 0, guard := none }, { dst := some 12, ins := GoV.Instr.ext (Opd.t 8) 1, guard := none }, { dst := some 3, ins := GoV.Instr.alloc [AV.dat (Ty.int IntKind.i64) (0 : Int), AV.dat (Ty.int IntKind.i64) (0 : Int), AV.dat (Ty.int IntKind.i64) (0 : Int)], guard := none }, { dst := some 4, ins := GoV.Instr.alloc [AV.dat (Ty.int IntKind.i64) (0 : Int), AV.dat (Ty.int IntKind.i64) (0 : Int), AV.dat (Ty.int IntKind.i64) (0 : Int)], guard := none }, { dst := none, ins := GoV.Instr.store 3 (Opd.t 3) (Opd.t 11), guard := none }, { dst := none, ins := GoV.Instr.store 3 (Opd.t 4) (Opd.t 12), guard := none }]).seq ((AC.reg false [{ dst := some 13, ins := GoV.Instr.load 1 false (Opd.t 1), guard := none }, { dst := some 14, ins := GoV.Instr.len (Opd.t 13), guard := none }, { dst := some 15, ins := GoV.Instr.mkB [AV.nils] 1 24 (Opd.t 14) (Opd.t 14), guard := none }, { dst := some 5, ins := GoV.Instr.alloc [AV.nils], guard := none }, { dst := none, ins := GoV.Instr.store 1 (Opd.t 5) (Opd.t 15), guard := none }]).seq (((AC.reg false [{ dst := some 16, ins := GoV.Instr.load 1 false (Opd.t 5), guard := none }, { dst := some 17, ins := GoV.Instr.len (Opd.t 16), guard := none }, { dst := some 18, ins := GoV.Instr.mov (Opd.c (AV.dat (Ty.int IntKind.i64) (0 : Int))), guard := none }]).seq (AC.block 0 (AC.loop c55L0))).seq ((AC.reg false [{ dst := some 7, ins := GoV.Instr.alloc [AV.nilf], guard := none }]).seq ((AC.reg false [{ dst := some 30, ins := GoV.Instr.mkfn 56 [] [Opd.t 5, Opd.t 4, Opd.t 2, Opd.t 3, Opd.t 7], guard := none }, { dst := none, ins := GoV.Instr.store 1 (Opd.t 7) (Opd.t 30), guard := none }]).seq (AC.reg false [{ dst := some 31, ins := GoV.Instr.load 1 false (Opd.t 7), guard := none }, { dst := some 32, ins := GoV.Instr.call (Opd.t 31) [Opd.c (AV.dat (Ty.int IntKind.i64) (0 : Int)), Opd.c (AV.dat (Ty.int IntKind.i64) (0 : Int))], guard := none }])))))), res := [] }
set_option maxRecDepth 100000 in
theorem h55 : fnOf Tryd.prog 55 = some c55 := by kernel_rfl
def c56L0 : AC := (AC.reg false [{ dst := some 78, ins := GoV.Instr.bin BinOp.lss (Opd.t 77) (Opd.t 76), guard := none }]).seq ((AC.cond (Opd.t 78) AC.skip (AC.exit 1)).seq ((AC.block 2 ((AC.reg false [{ dst := some 79, ins := GoV.Instr.mov (Opd.t 77), guard := none }, { dst := some 12, ins := GoV.Instr.mov (Opd.t 79), guard := none }]).seq ((AC.regG 0 [0, 0, 3, 7, 0, 0, 0, 0, 0, 256, 768, 0, 3840, 0, 8192, 24576, 0, 122880, 159, 262303, 794559, 1843135, 4194303, 8388607] [{ dst := some 80, ins := GoV.Instr.load 1 false (Opd.t 2), guard := none }, { dst := some 81, ins := GoV.Instr.mov (Opd.t 0), guard := none }, { dst := some 82, ins := GoV.Instr.idxA 1 (Opd.t 80) (Opd.t 81), guard := none }, { dst := some 83, ins := GoV.Instr.load 1 false (Opd.t 82), guard := none }, { dst := some 84, ins := GoV.Instr.mov (Opd.t 1), guard := none }, { dst := some 85, ins := GoV.Instr.mov (Opd.t 0), guard := none }, { dst := some 86, ins := GoV.Instr.mov (Opd.t 1), guard := none }, { dst := some 87, ins := GoV.Instr.mov (Opd.t 12), guard := none }, { dst := some 88, ins := GoV.Instr.mov (Opd.t 0), guard := none }, { dst := some 89, ins := GoV.Instr.idxArrA 3 1 (Opd.t 5) (Opd.t 88), guard := none }, { dst := some 90, ins := GoV.Instr.load 1 false (Opd.t 89), guard := none }, { dst := some 91, ins := GoV.Instr.mov (Opd.t 12), guard := none }, { dst := some 92, ins := GoV.Instr.bin BinOp.sub (Opd.t 90) (Opd.t 91), guard := none }, { dst := some 93, ins := GoV.Instr.mov (Opd.t 1), guard := none }, { dst := some 94, ins := GoV.Instr.idxArrA 3 1 (Opd.t 3) (Opd.t 93), guard := none }, { dst := some 95, ins := GoV.Instr.load 1 false (Opd.t 94), guard := none }, { dst := some 96, ins := GoV.Instr.mov (Opd.t 12), guard := none }, { dst := some 97, ins := GoV.Instr.bin BinOp.sub (Opd.t 95) (Opd.t 96), guard := none }, { dst := some 98, ins := GoV.Instr.idxA 1 (Opd.t 83) (Opd.t 84), guard := none }, { dst := none, ins := GoV.Instr.store 1 (Opd.t 98) (Opd.t 87), guard := none }, { dst := some 99, ins := GoV.Instr.idxArrA 3 1 (Opd.t 5) (Opd.t 85), guard := none }, { dst := none, ins := GoV.Instr.store 1 (Opd.t 99) (Opd.t 92), guard := none }, { dst := some 100, ins := GoV.Instr.idxArrA 3 1 (Opd.t 3) (Opd.t 86), guard := none }, { dst := none, ins := GoV.Instr.store 1 (Opd.t 100) (Opd.t 97), guard := none }]).seq ((AC.reg false [{ dst := some 101, ins := GoV.Instr.load 1 false (Opd.t 6), guard := none }, { dst := some 102, ins := GoV.Instr.mov (Opd.t 0), guard := none }, { dst := some 103, ins := GoV.Instr.mov (Opd.t 1), guard := none }, { dst := some 104, ins := GoV.Instr.bin BinOp.add (Opd.t 103) (Opd.c (AV.dat (Ty.int IntKind.i64) (1 : Int))), guard := none }, { dst := some 105, ins := GoV.Instr.call (Opd.t 101) [Opd.t 102, Opd.t 104], guard := none }, { dst := some 13, ins := GoV.Instr.mov (Opd.t 105), guard := none }]).seq ((AC.regG 0 [0, 0, 0, 4, 12, 0, 60, 0, 128, 384, 0, 1920, 125, 4221, 16383, 32767] [{ dst := some 106, ins := GoV.Instr.mov (Opd.t 0), guard := none }, { dst := some 107, ins := GoV.Instr.mov (Opd.t 1), guard := none }, { dst := some 108, ins := GoV.Instr.mov (Opd.t 0), guard := none }, { dst := some 109, ins := GoV.Instr.idxArrA 3 1 (Opd.t 5) (Opd.t 108), guard := none }, { dst := some 110, ins := GoV.Instr.load 1 false (Opd.t 109), guard := none }, { dst := some 111, ins := GoV.Instr.mov (Opd.t 12), guard := none }, { dst := some 112, ins := GoV.Instr.bin BinOp.add (Opd.t 110) (Opd.t 111), guard := none }, { dst := some 113, ins := GoV.Instr.mov (Opd.t 1), guard := none }, { dst := some 114, ins := GoV.Instr.idxArrA 3 1 (Opd.t 3) (Opd.t 113), guard := none }, { dst := some 115, ins := GoV.Instr.load 1 false (Opd.t 114), guard := none }, { dst := some 116, ins := GoV.Instr.mov (Opd.t 12), guard := none }, { dst := some 117, ins := GoV.Instr.bin BinOp.add (Opd.t 115) (Opd.t 116), guard := none }, { dst := some 118, ins := GoV.Instr.idxArrA 3 1 (Opd.t 5) (Opd.t 106), guard := none }, { dst := none, ins := GoV.Instr.store 1 (Opd.t 118) (Opd.t 112), guard := none }, { dst := some 119, ins := GoV.Instr.idxArrA 3 1 (Opd.t 3) (Opd.t 107), guard := none }, { dst := none, ins := GoV.Instr.store 1 (Opd.t 119) (Opd.t 117), guard := none }]).seq ((AC.reg false [{ dst := some 120, ins := GoV.Instr.mov (Opd.t 13), guard := none }, { dst := some 121, ins := GoV.Instr.un UnOp.not (Opd.t 120), guard := none }]).seq (AC.cond (Opd.t 121) ((AC.reg false [{ dst := some 9, ins := GoV.Instr.mov (Opd.c (AV.dat Ty.bool false)), guard := none }]).seq AC.ret) AC.skip))))))).seq (AC.reg false [{ dst := some 122, ins := GoV.Instr.bin BinOp.add (Opd.t 77) (Opd.c (AV.dat (Ty.int IntKind.i64) (1 : Int))), guard := none }, { dst := some 77, ins := GoV.Instr.mov (Opd.t 122), guard := none }])))
def c56 : FnC := { n := 123, body := (AC.reg false [{ dst := some 9, ins := GoV.Instr.mov (Opd.c (AV.dat Ty.bool false)), guard := none }]).seq ((AC.block 0 ((AC.reg false [{ dst := some 15, ins := GoV.Instr.mov (Opd.t 0), guard := none }, { dst := some 16, ins := GoV.Instr.load 1 false (Opd.t 2), guard := none }, { dst := some 17, ins := GoV.Instr.len (Opd.t 16), guard := none }, { dst := some 18, ins := GoV.Instr.bin BinOp.eql (Opd.t 15) (Opd.t 17), guard := none }, { dst := some 14, ins := GoV.Instr.mov (Opd.t 18), guard := none }]).seq (AC.cond (Opd.t 14) ((AC.reg false [{ dst := some 19, ins := GoV.Instr.load 3 true (Opd.t 3), guard := none }, { dst := some 20, ins := GoV.Instr.build [AV.dat (Ty.int IntKind.i64) (0 : Int), AV.dat (Ty.int IntKind.i64) (0 : Int), AV.dat (Ty.int IntKind.i64) (0 : Int)] [], guard := none }, { dst := some 21, ins := GoV.Instr.eqv false [true, true, true] (Opd.t 19) (Opd.t 20), guard := none }, { dst := some 22, ins := GoV.Instr.mov (Opd.t 21), guard := none }, { dst := some 23, ins := GoV.Instr.load 1 false (Opd.t 4), guard := some (22, false) }, { dst := some 24, ins := GoV.Instr.load 1 false (Opd.t 2), guard := some (22, false) }, { dst := some 25, ins := GoV.Instr.call (Opd.t 23) [Opd.t 24], guard := some (22, false) }, { dst := some 26, ins := GoV.Instr.pick (Opd.t 22) (Opd.c (AV.dat Ty.bool true)) (Opd.t 25), guard := none }, { dst := some 9, ins := GoV.Instr.mov (Opd.t 26), guard := none }]).seq AC.ret) ((AC.reg false [{ dst := some 28, ins := GoV.Instr.mov (Opd.t 1), guard := none }, { dst := some 29, ins := GoV.Instr.load 1 false (Opd.t 2), guard := none }, { dst := some 30, ins := GoV.Instr.mov (Opd.t 0), guard := none }, { dst := some 31, ins := GoV.Instr.idxA 1 (Opd.t 29) (Opd.t 30), guard := none }, { dst := some 32, ins := GoV.Instr.load 1 false (Opd.t 31), guard := none }, { dst := some 33, ins := GoV.Instr.len (Opd.t 32), guard := none }, { dst := some 34, ins := GoV.Instr.bin BinOp.sub (Opd.t 33) (Opd.c (AV.dat (Ty.int IntKind.i64) (1 : Int))), guard := none }, { dst := some 35, ins := GoV.Instr.bin BinOp.eql (Opd.t 28) (Opd.t 34), guard := none }, { dst := some 27, ins := GoV.Instr.mov (Opd.t 35), guard := none }]).seq (AC.cond (Opd.t 27) ((AC.reg false [{ dst := some 36, ins := GoV.Instr.mov (Opd.t 0), guard := none }, { dst := some 37, ins := GoV.Instr.idxArrA 3 1 (Opd.t 5) (Opd.t 36), guard := none }, { dst := some 38, ins := GoV.Instr.load 1 false (Opd.t 37), guard := none }, { dst := some 10, ins := GoV.Instr.mov (Opd.t 38), guard := none }]).seq (((AC.reg false [{ dst := some 39, ins := GoV.Instr.mov (Opd.t 10), guard := none }, { dst := some 40, ins := GoV.Instr.mov (Opd.t 1), guard := none }, { dst := some 41, ins := GoV.Instr.idxArrA 3 1 (Opd.t 3) (Opd.t 40), guard := none }, { dst := some 42, ins := GoV.Instr.load 1 false (Opd.t 41), guard := none }, { dst := some 43, ins := GoV.Instr.bin BinOp.gtr (Opd.t 39) (Opd.t 42), guard := none }]).seq (AC.cond (Opd.t 43) ((AC.reg false [{ dst := some 9, ins := GoV.Instr.mov (Opd.c (AV.dat Ty.bool true)), guard := none }]).seq AC.ret) AC.skip)).seq ((AC.regG 0 [0, 0, 3, 7, 0, 0, 0, 0, 128, 384, 0, 1920, 95, 4191, 16383, 32767] [{ dst := some 44, ins := GoV.Instr.load 1 false (Opd.t 2), guard := none }, { dst := some 45, ins := GoV.Instr.mov (Opd.t 0), guard := none }, { dst := some 46, ins := GoV.Instr.idxA 1 (Opd.t 44) (Opd.t 45), guard := none }, { dst := some 47, ins := GoV.Instr.load 1 false (Opd.t 46), guard := none }, { dst := some 48, ins := GoV.Instr.mov (Opd.t 1), guard := none }, { dst := some 49, ins := GoV.Instr.mov (Opd.t 1), guard := none }, { dst := some 50, ins := GoV.Instr.mov (Opd.t 10), guard := none }, { dst := some 51, ins := GoV.Instr.mov (Opd.t 1), guard := none }, { dst := some 52, ins := GoV.Instr.idxArrA 3 1 (Opd.t 3) (Opd.t 51), guard := none }, { dst := some 53, ins := GoV.Instr.load 1 false (Opd.t 52), guard := none }, { dst := some 54, ins := GoV.Instr.mov (Opd.t 10), guard := none }, { dst := some 55, ins := GoV.Instr.bin BinOp.sub (Opd.t 53) (Opd.t 54), guard := none }, { dst := some 56, ins := GoV.Instr.idxA 1 (Opd.t 47) (Opd.t 48), guard := none }, { dst := none, ins := GoV.Instr.store 1 (Opd.t 56) (Opd.t 50), guard := none }, { dst := some 57, ins := GoV.Instr.idxArrA 3 1 (Opd.t 3) (Opd.t 49), guard := none }, { dst := none, ins := GoV.Instr.store 1 (Opd.t 57) (Opd.t 55), guard := none }]).seq ((AC.reg false [{ dst := some 58, ins := GoV.Instr.load 1 false (Opd.t 6), guard := none }, { dst := some 59, ins := GoV.Instr.mov (Opd.t 0), guard := none }, { dst := some 60, ins := GoV.Instr.bin BinOp.add (Opd.t 59) (Opd.c (AV.dat (Ty.int IntKind.i64) (1 : Int))), guard := none }, { dst := some 61, ins := GoV.Instr.call (Opd.t 58) [Opd.t 60, Opd.c (AV.dat (Ty.int IntKind.i64) (0 : Int))], guard := none }, { dst := some 11, ins := GoV.Instr.mov (Opd.t 61), guard := none }]).seq ((AC.reg false [{ dst := some 62, ins := GoV.Instr.mov (Opd.t 1), guard := none }, { dst := some 63, ins := GoV.Instr.idxArrA 3 1 (Opd.t 3) (Opd.t 62), guard := none }, { dst := some 64, ins := GoV.Instr.load 1 false (Opd.t 63), guard := none }, { dst := some 65, ins := GoV.Instr.mov (Opd.t 10), guard := none }, { dst := some 66, ins := GoV.Instr.bin BinOp.add (Opd.t 64) (Opd.t 65), guard := none }, { dst := some 67, ins := GoV.Instr.idxArrA 3 1 (Opd.t 3) (Opd.t 62), guard := none }, { dst := none, ins := GoV.Instr.store 1 (Opd.t 67) (Opd.t 66), guard := none }]).seq ((AC.reg false [{ dst := some 68, ins := GoV.Instr.mov (Opd.t 11), guard := none }, { dst := some 9, ins := GoV.Instr.mov (Opd.t 68), guard := none }]).seq AC.ret)))))) AC.skip))))).seq (((AC.reg true [{ dst := some 69, ins := GoV.Instr.mov (Opd.t 0), guard := none }, { dst := some 70, ins := GoV.Instr.idxArrA 3 1 (Opd.t 5) (Opd.t 69), guard := none }, { dst := some 71, ins := GoV.Instr.load 1 false (Opd.t 70), guard := none }, { dst := some 72, ins := GoV.Instr.mov (Opd.t 1), guard := none }, { dst := some 73, ins := GoV.Instr.idxArrA 3 1 (Opd.t 3) (Opd.t 72), guard := none }, { dst := some 74, ins := GoV.Instr.load 1 false (Opd.t 73), guard := none }, { dst := some 75, ins := GoV.Instr.mm false (Opd.t 71) (Opd.t 74), guard := none }, { dst := some 76, ins := GoV.Instr.bin BinOp.add (Opd.t 75) (Opd.c (AV.dat (Ty.int IntKind.i64) (1 : Int))), guard := none }, { dst := some 77, ins := GoV.Instr.mov (Opd.c (AV.dat (Ty.int IntKind.i64) (0 : Int))), guard := none }]).seq (AC.block 1 (AC.loop c56L0))).seq ((AC.reg false [{ dst := some 9, ins := GoV.Instr.mov (Opd.c (AV.dat Ty.bool true)), guard := none }]).seq AC.ret))), res := [RV.tmp 9] }
set_option maxRecDepth 100000 in
theorem h56 : fnOf Tryd.prog 56 = some c56 := by kernel_rfl
def c57L0 : AC := ((AC.reg false [{ dst := some 34, ins := GoV.Instr.mov (Opd.t 8), guard := none }, { dst := some 35, ins := GoV.Instr.mov (Opd.t 7), guard := none }, { dst := some 36, ins := GoV.Instr.len (Opd.t 35), guard := none }, { dst := some 37, ins := GoV.Instr.bin BinOp.lss (Opd.t 34) (Opd.t 36), guard := none }]).seq (AC.cond (Opd.t 37) AC.skip (AC.exit 2))).seq ((AC.block 3 (AC.reg false [{ dst := some 40, ins := GoV.Instr.mov (Opd.t 5), guard := none }, { dst := some 41, ins := GoV.Instr.mov (Opd.t 6), guard := none }, { dst := some 42, ins := GoV.Instr.bslice (Ty.int IntKind.i64) 1 [(0, Opd.t 41)], guard := none }, { dst := some 43, ins := GoV.Instr.mov (Opd.t 7), guard := none }, { dst := some 44, ins := GoV.Instr.mov (Opd.t 8), guard := none }, { dst := some 45, ins := GoV.Instr.idxA 1 (Opd.t 43) (Opd.t 44), guard := none }, { dst := some 46, ins := GoV.Instr.load 1 false (Opd.t 45), guard := none }, { dst := some 47, ins := GoV.Instr.app (Ty.int IntKind.i64) 8 (Opd.t 42) (Opd.t 46), guard := none }, { dst := some 48, ins := GoV.Instr.bsliceB (Ty.int IntKind.i64).list [AV.nils] 1 1 [(0, Opd.t 47)], guard := none }, { dst := some 49, ins := GoV.Instr.app (Ty.int IntKind.i64).list 24 (Opd.t 40) (Opd.t 48), guard := none }, { dst := some 5, ins := GoV.Instr.mov (Opd.t 49), guard := none }])).seq (AC.reg false [{ dst := some 38, ins := GoV.Instr.mov (Opd.t 8), guard := none }, { dst := some 39, ins := GoV.Instr.bin BinOp.add (Opd.t 38) (Opd.c (AV.dat (Ty.int IntKind.i64) (1 : Int))), guard := none }, { dst := some 8, ins := GoV.Instr.mov (Opd.t 39), guard := none }]))
def c57L1 : AC := ((AC.reg false [{ dst := some 16, ins := GoV.Instr.mov (Opd.t 6), guard := none }, { dst := some 17, ins := GoV.Instr.mov (Opd.t 0), guard := none }, { dst := some 18, ins := GoV.Instr.bin BinOp.leq (Opd.t 16) (Opd.t 17), guard := none }, { dst := some 19, ins := GoV.Instr.mov (Opd.t 18), guard := none }, { dst := some 20, ins := GoV.Instr.mov (Opd.t 6), guard := some (19, true) }, { dst := some 21, ins := GoV.Instr.mov (Opd.t 1), guard := some (19, true) }, { dst := some 22, ins := GoV.Instr.idxA 1 (Opd.t 21) (Opd.c (AV.dat (Ty.int IntKind.i64) (0 : Int))), guard := some (19, true) }, { dst := some 23, ins := GoV.Instr.load 1 false (Opd.t 22), guard := some (19, true) }, { dst := some 24, ins := GoV.Instr.bin BinOp.leq (Opd.t 20) (Opd.t 23), guard := some (19, true) }, { dst := some 25, ins := GoV.Instr.pick (Opd.t 19) (Opd.t 24) (Opd.c (AV.dat Ty.bool false)), guard := none }]).seq (AC.cond (Opd.t 25) AC.skip (AC.exit 0))).seq ((AC.block 1 ((AC.reg false [{ dst := some 28, ins := GoV.Instr.mov (Opd.t 0), guard := none }, { dst := some 29, ins := GoV.Instr.mov (Opd.t 6), guard := none }, { dst := some 30, ins := GoV.Instr.bin BinOp.sub (Opd.t 28) (Opd.t 29), guard := none }, { dst := some 31, ins := GoV.Instr.mov (Opd.t 1), guard := none }, { dst := some 32, ins := GoV.Instr.slice 1 (Opd.t 31) (some (Opd.c (AV.dat (Ty.int IntKind.i64) (1 : Int)))) none, guard := none }, { dst := some 33, ins := GoV.Instr.call (Opd.c (AV.fn 57 [] [])) [Opd.t 30, Opd.t 32], guard := none }, { dst := some 7, ins := GoV.Instr.mov (Opd.t 33), guard := none }]).seq ((AC.reg false [{ dst := some 8, ins := GoV.Instr.mov (Opd.c (AV.dat (Ty.int IntKind.i64) (0 : Int))), guard := none }]).seq (AC.block 2 (AC.loop c57L0))))).seq (AC.reg false [{ dst := some 26, ins := GoV.Instr.mov (Opd.t 6), guard := none }, { dst := some 27, ins := GoV.Instr.bin BinOp.add (Opd.t 26) (Opd.c (AV.dat (Ty.int IntKind.i64) (1 : Int))), guard := none }, { dst := some 6, ins := GoV.Instr.mov (Opd.t 27), guard := none }]))
def c57 : FnC := { n := 51, body := (AC.reg false [{ dst := some 4, ins := GoV.Instr.mov (Opd.c AV.nils), guard := none }]).seq (((AC.reg false [{ dst := some 9, ins := GoV.Instr.mov (Opd.t 1), guard := none }, { dst := some 10, ins := GoV.Instr.len (Opd.t 9), guard := none }, { dst := some 11, ins := GoV.Instr.bin BinOp.eql (Opd.t 10) (Opd.c (AV.dat (Ty.int IntKind.i64) (0 : Int))), guard := none }]).seq (AC.cond (Opd.t 11) (((AC.reg false [{ dst := some 12, ins := GoV.Instr.mov (Opd.t 0), guard := none }, { dst := some 13, ins := GoV.Instr.bin BinOp.eql (Opd.t 12) (Opd.c (AV.dat (Ty.int IntKind.i64) (0 : Int))), guard := none }]).seq (AC.cond (Opd.t 13) ((AC.reg false [{ dst := some 14, ins := GoV.Instr.bslice (Ty.int IntKind.i64) 0 [], guard := none }, { dst := some 15, ins := GoV.Instr.bsliceB (Ty.int IntKind.i64).list [AV.nils] 1 1 [(0, Opd.t 14)], guard := none }, { dst := some 4, ins := GoV.Instr.mov (Opd.t 15), guard := none }]).seq AC.ret) AC.skip)).seq ((AC.reg false [{ dst := some 4, ins := GoV.Instr.mov (Opd.c AV.nils), guard := none }]).seq AC.ret)) AC.skip)).seq ((AC.reg false [{ dst := some 5, ins := GoV.Instr.mov (Opd.c AV.nils), guard := none }]).seq (((AC.reg false [{ dst := some 6, ins := GoV.Instr.mov (Opd.c (AV.dat (Ty.int IntKind.i64) (0 : Int))), guard := none }]).seq (AC.block 0 (AC.loop c57L1))).seq ((AC.reg false [{ dst := some 50, ins := GoV.Instr.mov (Opd.t 5), guard := none }, { dst := some 4, ins := GoV.Instr.mov (Opd.t 50), guard := none }]).seq AC.ret)))), res := [RV.tmp 4] }
set_option maxRecDepth 100000 in
theorem h57 : fnOf Tryd.prog 57 = some c57 := by kernel_rfl
def c58L0 : AC := ((AC.reg false [{ dst := some 5, ins := GoV.Instr.mov (Opd.t 0), guard := none }, { dst := some 6, ins := GoV.Instr.bin BinOp.gtr (Opd.t 5) (Opd.c (AV.dat (Ty.int IntKind.u64) (0 : Int))), guard := none }]).seq (AC.cond (Opd.t 6) AC.skip (AC.exit 0))).seq (AC.block 1 (AC.reg false [{ dst := some 7, ins := GoV.Instr.mov (Opd.t 1), guard := none }, { dst := some 8, ins := GoV.Instr.mov (Opd.t 0), guard := none }, { dst := some 9, ins := GoV.Instr.bin BinOp.rem (Opd.t 7) (Opd.t 8), guard := none }, { dst := some 10, ins := GoV.Instr.mov (Opd.t 0), guard := none }, { dst := some 0, ins := GoV.Instr.mov (Opd.t 9), guard := none }, { dst := some 1, ins := GoV.Instr.mov (Opd.t 10), guard := none }]))
def c58 : FnC := { n := 12, body := (AC.reg false [{ dst := some 4, ins := GoV.Instr.mov (Opd.c (AV.dat (Ty.int IntKind.u64) (0 : Int))), guard := none }]).seq ((AC.block 0 (AC.loop c58L0)).seq ((AC.reg false [{ dst := some 11, ins := GoV.Instr.mov (Opd.t 1), guard := none }, { dst := some 4, ins := GoV.Instr.mov (Opd.t 11), guard := none }]).seq AC.ret)), res := [RV.tmp 4] }
set_option maxRecDepth 100000 in
theorem h58 : fnOf Tryd.prog 58 = some c58 := by kernel_rfl
def c59 : FnC := { n := 10, body := (AC.reg false [{ dst := some 2, ins := GoV.Instr.mov (Opd.c (AV.dat (Ty.int IntKind.u64) (0 : Int))), guard := none }]).seq (((AC.reg false [{ dst := some 3, ins := GoV.Instr.mov (Opd.t 0), guard := none }, { dst := some 4, ins := GoV.Instr.bin BinOp.lss (Opd.t 3) (Opd.c (AV.dat (Ty.int IntKind.i64) (0 : Int))), guard := none }]).seq (AC.cond (Opd.t 4) ((AC.reg false [{ dst := some 5, ins := GoV.Instr.mov (Opd.t 0), guard := none }, { dst := some 6, ins := GoV.Instr.conv IntKind.u64 (Opd.t 5), guard := none }, { dst := some 7, ins := GoV.Instr.un UnOp.neg (Opd.t 6), guard := none }, { dst := some 2, ins := GoV.Instr.mov (Opd.t 7), guard := none }]).seq AC.ret) AC.skip)).seq ((AC.reg false [{ dst := some 8, ins := GoV.Instr.mov (Opd.t 0), guard := none }, { dst := some 9, ins := GoV.Instr.conv IntKind.u64 (Opd.t 8), guard := none }, { dst := some 2, ins := GoV.Instr.mov (Opd.t 9), guard := none }]).seq AC.ret)), res := [RV.tmp 2] }
set_option maxRecDepth 100000 in
theorem h59 : fnOf Tryd.prog 59 = some c59 := by kernel_rfl
def c60 : FnC := { n := 7, body := (AC.reg false [{ dst := some 2, ins := GoV.Instr.alloc [AV.dat (Ty.int IntKind.i64) (0 : Int), AV.dat (Ty.int IntKind.i64) (0 : Int)], guard := none }, { dst := some 3, ins := GoV.Instr.alloc [AV.dat (Ty.int IntKind.i64) (0 : Int)], guard := none }]).seq ((AC.dfr [{ dst := some 4, ins := GoV.Instr.mkfn 69 [] [Opd.t 2, Opd.t 3], guard := none }] (Opd.t 4)).seq ((AC.reg false [{ dst := some 5, ins := GoV.Instr.mov (Opd.t 0), guard := none }, { dst := some 6, ins := GoV.Instr.call (Opd.t 5) [], guard := none }, { dst := none, ins := GoV.Instr.store 2 (Opd.t 2) (Opd.t 6), guard := none }, { dst := none, ins := GoV.Instr.store 1 (Opd.t 3) (Opd.c (AV.dat (Ty.int IntKind.i64) (0 : Int))), guard := none }]).seq AC.ret)), res := [RV.cell 2 2 true, RV.cell 3 1 false] }
set_option maxRecDepth 100000 in
theorem h60 : fnOf Tryd.prog 60 = some c60 := by kernel_rfl
def c61 : FnC := { n := 24, body := (AC.reg false [{ dst := some 3, ins := GoV.Instr.alloc [AV.dat (Ty.int IntKind.i64) (0 : Int), AV.dat (Ty.int IntKind.i64) (0 : Int)], guard := none }]).seq ((AC.reg true [{ dst := some 4, ins := GoV.Instr.load 1 false (Opd.t 0), guard := none }, { dst := some 5, ins := GoV.Instr.bin BinOp.neq (Opd.t 4) (Opd.c (AV.dat (Ty.int IntKind.i64) (0 : Int))), guard := none }, { dst := some 6, ins := GoV.Instr.mov (Opd.t 5), guard := none }, { dst := some 7, ins := GoV.Instr.load 1 false (Opd.t 0), guard := some (6, true) }, { dst := some 8, ins := GoV.Instr.bin BinOp.lss (Opd.t 7) (Opd.c (AV.dat (Ty.int IntKind.i64) (0 : Int))), guard := some (6, true) }, { dst := some 9, ins := GoV.Instr.load 1 false (Opd.t 1), guard := some (6, true) }, { dst := some 10, ins := GoV.Instr.bin BinOp.lss (Opd.t 9) (Opd.c (AV.dat (Ty.int IntKind.i64) (0 : Int))), guard := some (6, true) }, { dst := some 11, ins := GoV.Instr.binB BinOp.neq (Opd.t 8) (Opd.t 10), guard := some (6, true) }, { dst := some 12, ins := GoV.Instr.pick (Opd.t 6) (Opd.t 11) (Opd.c (AV.dat Ty.bool false)), guard := none }, { dst := some 13, ins := GoV.Instr.load 1 false (Opd.t 0), guard := none }, { dst := some 14, ins := GoV.Instr.callp (Opd.c (AV.fn 59 [] [])) [Opd.t 13], guard := none }, { dst := some 15, ins := GoV.Instr.load 1 false (Opd.t 2), guard := none }, { dst := some 16, ins := GoV.Instr.bin BinOp.quo (Opd.t 14) (Opd.t 15), guard := none }, { dst := some 17, ins := GoV.Instr.build [AV.dat (Ty.int IntKind.u64) (0 : Int), AV.dat (Ty.int IntKind.u64) (0 : Int)] [(0, 1, Opd.c (AV.dat (Ty.int IntKind.u64) (0 : Int))), (1, 1, Opd.t 16)], guard := none }, { dst := some 18, ins := GoV.Instr.load 1 false (Opd.t 1), guard := none }, { dst := some 19, ins := GoV.Instr.callp (Opd.c (AV.fn 59 [] [])) [Opd.t 18], guard := none }, { dst := some 20, ins := GoV.Instr.load 1 false (Opd.t 2), guard := none }, { dst := some 21, ins := GoV.Instr.bin BinOp.quo (Opd.t 19) (Opd.t 20), guard := none }, { dst := some 22, ins := GoV.Instr.build [AV.dat (Ty.int IntKind.u64) (0 : Int), AV.dat (Ty.int IntKind.u64) (0 : Int)] [(0, 1, Opd.c (AV.dat (Ty.int IntKind.u64) (0 : Int))), (1, 1, Opd.t 21)], guard := none }, { dst := some 23, ins := GoV.Instr.callp (Opd.c (AV.fn 62 [] [])) [Opd.t 12, Opd.t 17, Opd.t 22], guard := none }, { dst := none, ins := GoV.Instr.store 2 (Opd.t 3) (Opd.t 23), guard := none }]).seq AC.ret), res := [RV.cell 3 2 true] }
set_option maxRecDepth 100000 in
theorem h61 : fnOf Tryd.prog 61 = some c61 := by kernel_rfl
def c62 : FnC := { n := 35, body := (AC.reg false [{ dst := some 4, ins := GoV.Instr.box (Opd.t 1), guard := none }, { dst := some 5, ins := GoV.Instr.box (Opd.t 2), guard := none }, { dst := some 6, ins := GoV.Instr.alloc [AV.dat (Ty.int IntKind.i64) (0 : Int), AV.dat (Ty.int IntKind.i64) (0 : Int)], guard := none }]).seq (((AC.reg false [{ dst := some 8, ins := GoV.Instr.build [AV.dat (Ty.int IntKind.u64) (0 : Int), AV.dat (Ty.int IntKind.u64) (0 : Int)] [(0, 1, Opd.c (AV.dat (Ty.int IntKind.u64) (0 : Int))), (1, 1, Opd.c (AV.dat (Ty.int IntKind.u64) (4611686018427387903 : Int)))], guard := none }, { dst := some 7, ins := GoV.Instr.alloc [AV.dat (Ty.int IntKind.u64) (0 : Int), AV.dat (Ty.int IntKind.u64) (0 : Int)], guard := none }, { dst := none, ins := GoV.Instr.store 2 (Opd.t 7) (Opd.t 8), guard := none }]).seq ((AC.reg false [{ dst := some 9, ins := GoV.Instr.load 2 true (Opd.t 7), guard := none }, { dst := some 10, ins := GoV.Instr.load 2 true (Opd.t 4), guard := none }, { dst := some 11, ins := GoV.Instr.call (Opd.c (AV.fn 66 [] [])) [Opd.t 9, Opd.t 10], guard := none }, { dst := some 12, ins := GoV.Instr.mov (Opd.t 11), guard := none }, { dst := some 13, ins := GoV.Instr.load 2 true (Opd.t 7), guard := some (12, false) }, { dst := some 14, ins := GoV.Instr.load 2 true (Opd.t 5), guard := some (12, false) }, { dst := some 15, ins := GoV.Instr.call (Opd.c (AV.fn 66 [] [])) [Opd.t 13, Opd.t 14], guard := some (12, false) }, { dst := some 16, ins := GoV.Instr.pick (Opd.t 12) (Opd.c (AV.dat Ty.bool true)) (Opd.t 15), guard := none }]).seq (AC.cond (Opd.t 16) (AC.reg false [{ dst := some 17, ins := GoV.Instr.build [] [], guard := none }, { dst := some 18, ins := GoV.Instr.bad, guard := none }, { dst := none, ins := GoV.Instr.bad, guard := none }]) AC.skip))).seq (((AC.reg false [{ dst := some 19, ins := GoV.Instr.mov (Opd.t 0), guard := none }]).seq (AC.cond (Opd.t 19) ((AC.reg false [{ dst := some 20, ins := GoV.Instr.idxArrA 2 1 (Opd.t 4) (Opd.c (AV.dat (Ty.int IntKind.i64) (1 : Int))), guard := none }, { dst := some 21, ins := GoV.Instr.load 1 false (Opd.t 20), guard := none }, { dst := some 22, ins := GoV.Instr.conv IntKind.i64 (Opd.t 21), guard := none }, { dst := some 23, ins := GoV.Instr.un UnOp.neg (Opd.t 22), guard := none }, { dst := some 24, ins := GoV.Instr.idxArrA 2 1 (Opd.t 5) (Opd.c (AV.dat (Ty.int IntKind.i64) (1 : Int))), guard := none }, { dst := some 25, ins := GoV.Instr.load 1 false (Opd.t 24), guard := none }, { dst := some 26, ins := GoV.Instr.conv IntKind.i64 (Opd.t 25), guard := none }, { dst := some 27, ins := GoV.Instr.build [AV.dat (Ty.int IntKind.i64) (0 : Int), AV.dat (Ty.int IntKind.i64) (0 : Int)] [(0, 1, Opd.t 23), (1, 1, Opd.t 26)], guard := none }, { dst := none, ins := GoV.Instr.store 2 (Opd.t 6) (Opd.t 27), guard := none }]).seq AC.ret) AC.skip)).seq ((AC.reg false [{ dst := some 28, ins := GoV.Instr.idxArrA 2 1 (Opd.t 4) (Opd.c (AV.dat (Ty.int IntKind.i64) (1 : Int))), guard := none }, { dst := some 29, ins := GoV.Instr.load 1 false (Opd.t 28), guard := none }, { dst := some 30, ins := GoV.Instr.conv IntKind.i64 (Opd.t 29), guard := none }, { dst := some 31, ins := GoV.Instr.idxArrA 2 1 (Opd.t 5) (Opd.c (AV.dat (Ty.int IntKind.i64) (1 : Int))), guard := none }, { dst := some 32, ins := GoV.Instr.load 1 false (Opd.t 31), guard := none }, { dst := some 33, ins := GoV.Instr.conv IntKind.i64 (Opd.t 32), guard := none }, { dst := some 34, ins := GoV.Instr.build [AV.dat (Ty.int IntKind.i64) (0 : Int), AV.dat (Ty.int IntKind.i64) (0 : Int)] [(0, 1, Opd.t 30), (1, 1, Opd.t 33)], guard := none }, { dst := none, ins := GoV.Instr.store 2 (Opd.t 6) (Opd.t 34), guard := none }]).seq AC.ret))), res := [RV.cell 6 2 true] }
set_option maxRecDepth 100000 in
theorem h62 : fnOf Tryd.prog 62 = some c62 := by kernel_rfl
def c63 : FnC := { n := 24, body := (AC.reg false [{ dst := some 3, ins := GoV.Instr.box (Opd.t 0), guard := none }, { dst := some 4, ins := GoV.Instr.box (Opd.t 1), guard := none }, { dst := some 6, ins := GoV.Instr.mov (Opd.c (AV.dat (Ty.int IntKind.i64) (0 : Int))), guard := none }, { dst := some 7, ins := GoV.Instr.mov (Opd.c (AV.dat (Ty.int IntKind.i64) (0 : Int))), guard := none }]).seq (((AC.reg false [{ dst := some 9, ins := GoV.Instr.load 2 true (Opd.t 3), guard := none }, { dst := some 10, ins := GoV.Instr.call (Opd.c (AV.fn 49 [] [])) [Opd.t 9], guard := none }, { dst := some 11, ins := GoV.Instr.bin BinOp.neq (Opd.t 10) (Opd.c (AV.dat (Ty.int IntKind.i64) (0 : Int))), guard := none }, { dst := some 12, ins := GoV.Instr.mov (Opd.t 11), guard := none }, { dst := some 13, ins := GoV.Instr.load 2 true (Opd.t 4), guard := some (12, false) }, { dst := some 14, ins := GoV.Instr.call (Opd.c (AV.fn 49 [] [])) [Opd.t 13], guard := some (12, false) }, { dst := some 15, ins := GoV.Instr.bin BinOp.neq (Opd.t 14) (Opd.c (AV.dat (Ty.int IntKind.i64) (0 : Int))), guard := some (12, false) }, { dst := some 16, ins := GoV.Instr.pick (Opd.t 12) (Opd.c (AV.dat Ty.bool true)) (Opd.t 15), guard := none }]).seq (AC.cond (Opd.t 16) ((AC.reg false [{ dst := some 8, ins := GoV.Instr.mov (Opd.c (AV.dat (Ty.int IntKind.i64) (0 : Int))), guard := none }]).seq ((AC.reg false [{ dst := some 17, ins := GoV.Instr.mov (Opd.t 8), guard := none }, { dst := some 6, ins := GoV.Instr.mov (Opd.t 17), guard := none }, { dst := some 7, ins := GoV.Instr.mov (Opd.c (AV.dat (Ty.int IntKind.i64) (5 : Int))), guard := none }]).seq AC.ret)) AC.skip)).seq ((AC.reg false [{ dst := some 18, ins := GoV.Instr.mov (Opd.t 2), guard := none }, { dst := some 19, ins := GoV.Instr.load 2 true (Opd.t 3), guard := none }, { dst := some 20, ins := GoV.Instr.load 2 true (Opd.t 4), guard := none }, { dst := some 21, ins := GoV.Instr.call (Opd.t 18) [Opd.t 19, Opd.t 20], guard := none }, { dst := some 22, ins := GoV.Instr.ext (Opd.t 21) 0, guard := none }, { dst := some 23, ins := GoV.Instr.ext (Opd.t 21) 1, guard := none }, { dst := some 6, ins := GoV.Instr.mov (Opd.t 22), guard := none }, { dst := some 7, ins := GoV.Instr.mov (Opd.t 23), guard := none }]).seq AC.ret)), res := [RV.tmp 6, RV.tmp 7] }
set_option maxRecDepth 100000 in
theorem h63 : fnOf Tryd.prog 63 = some c63 := by kernel_rfl
def c64 : FnC := { n := 61, body := (AC.reg false [{ dst := some 2, ins := GoV.Instr.box (Opd.t 0), guard := none }, { dst := some 3, ins := GoV.Instr.box (Opd.t 1), guard := none }, { dst := some 4, ins := GoV.Instr.mov (Opd.c (AV.dat (Ty.int IntKind.i64) (0 : Int))), guard := none }, { dst := some 5, ins := GoV.Instr.mov (Opd.c (AV.dat (Ty.int IntKind.i64) (0 : Int))), guard := none }]).seq ((AC.regG 2 [0, 1, 3, 0, 8, 24, 63, 0, 128, 511, 0, 1024, 3072, 8191, 0, 0, 65535, 131071] [{ dst := some 8, ins := GoV.Instr.fldA 0 (Opd.t 2), guard := none }, { dst := some 9, ins := GoV.Instr.load 1 false (Opd.t 8), guard := none }, { dst := some 10, ins := GoV.Instr.callq (Opd.c (AV.fn 59 [] [])) [Opd.t 9], guard := none }, { dst := some 11, ins := GoV.Instr.fldA 1 (Opd.t 3), guard := none }, { dst := some 12, ins := GoV.Instr.load 1 false (Opd.t 11), guard := none }, { dst := some 13, ins := GoV.Instr.conv IntKind.u64 (Opd.t 12), guard := none }, { dst := some 14, ins := GoV.Instr.callq (Opd.c (AV.fn 65 [] [])) [Opd.t 10, Opd.t 13], guard := none }, { dst := some 15, ins := GoV.Instr.fldA 0 (Opd.t 3), guard := none }, { dst := some 16, ins := GoV.Instr.load 1 false (Opd.t 15), guard := none }, { dst := some 17, ins := GoV.Instr.callq (Opd.c (AV.fn 59 [] [])) [Opd.t 16], guard := none }, { dst := some 18, ins := GoV.Instr.fldA 1 (Opd.t 2), guard := none }, { dst := some 19, ins := GoV.Instr.load 1 false (Opd.t 18), guard := none }, { dst := some 20, ins := GoV.Instr.conv IntKind.u64 (Opd.t 19), guard := none }, { dst := some 21, ins := GoV.Instr.callq (Opd.c (AV.fn 65 [] [])) [Opd.t 17, Opd.t 20], guard := none }, { dst := some 6, ins := GoV.Instr.allocR 2 [AV.dat (Ty.int IntKind.u64) (0 : Int), AV.dat (Ty.int IntKind.u64) (0 : Int)], guard := none }, { dst := some 7, ins := GoV.Instr.allocR 1 [AV.dat (Ty.int IntKind.u64) (0 : Int), AV.dat (Ty.int IntKind.u64) (0 : Int)], guard := none }, { dst := none, ins := GoV.Instr.store 2 (Opd.t 6) (Opd.t 14), guard := none }, { dst := none, ins := GoV.Instr.store 2 (Opd.t 7) (Opd.t 21), guard := none }]).seq ((AC.block 0 ((AC.reg false [{ dst := some 23, ins := GoV.Instr.load 2 true (Opd.t 2), guard := none }, { dst := some 24, ins := GoV.Instr.load 2 true (Opd.t 3), guard := none }, { dst := some 25, ins := GoV.Instr.eqv true [true, true] (Opd.t 23) (Opd.t 24), guard := none }, { dst := some 22, ins := GoV.Instr.mov (Opd.t 25), guard := none }]).seq (AC.cond (Opd.t 22) ((AC.reg false [{ dst := some 4, ins := GoV.Instr.mov (Opd.c (AV.dat (Ty.int IntKind.i64) (0 : Int))), guard := none }, { dst := some 5, ins := GoV.Instr.mov (Opd.c (AV.dat (Ty.int IntKind.i64) (0 : Int))), guard := none }]).seq AC.ret) (((AC.reg false [{ dst := some 27, ins := GoV.Instr.fldA 0 (Opd.t 2), guard := none }, { dst := some 28, ins := GoV.Instr.load 1 false (Opd.t 27), guard := none }, { dst := some 29, ins := GoV.Instr.bin BinOp.lss (Opd.t 28) (Opd.c (AV.dat (Ty.int IntKind.i64) (0 : Int))), guard := none }, { dst := some 30, ins := GoV.Instr.mov (Opd.t 29), guard := none }, { dst := some 31, ins := GoV.Instr.fldA 0 (Opd.t 3), guard := some (30, true) }, { dst := some 32, ins := GoV.Instr.load 1 false (Opd.t 31), guard := some (30, true) }, { dst := some 33, ins := GoV.Instr.bin BinOp.geq (Opd.t 32) (Opd.c (AV.dat (Ty.int IntKind.i64) (0 : Int))), guard := some (30, true) }, { dst := some 34, ins := GoV.Instr.pick (Opd.t 30) (Opd.t 33) (Opd.c (AV.dat Ty.bool false)), guard := none }, { dst := some 26, ins := GoV.Instr.mov (Opd.t 34), guard := none }]).seq (AC.cond (Opd.t 26) AC.skip ((AC.reg false [{ dst := some 35, ins := GoV.Instr.fldA 0 (Opd.t 2), guard := none }, { dst := some 36, ins := GoV.Instr.load 1 false (Opd.t 35), guard := none }, { dst := some 37, ins := GoV.Instr.bin BinOp.geq (Opd.t 36) (Opd.c (AV.dat (Ty.int IntKind.i64) (0 : Int))), guard := none }, { dst := some 38, ins := GoV.Instr.mov (Opd.t 37), guard := none }, { dst := some 39, ins := GoV.Instr.fldA 0 (Opd.t 3), guard := some (38, true) }, { dst := some 40, ins := GoV.Instr.load 1 false (Opd.t 39), guard := some (38, true) }, { dst := some 41, ins := GoV.Instr.bin BinOp.geq (Opd.t 40) (Opd.c (AV.dat (Ty.int IntKind.i64) (0 : Int))), guard := some (38, true) }, { dst := some 42, ins := GoV.Instr.pick (Opd.t 38) (Opd.t 41) (Opd.c (AV.dat Ty.bool false)), guard := none }, { dst := some 43, ins := GoV.Instr.mov (Opd.t 42), guard := none }, { dst := some 44, ins := GoV.Instr.load 2 true (Opd.t 6), guard := some (43, true) }, { dst := some 45, ins := GoV.Instr.load 2 true (Opd.t 7), guard := some (43, true) }, { dst := some 46, ins := GoV.Instr.call (Opd.c (AV.fn 66 [] [])) [Opd.t 44, Opd.t 45], guard := some (43, true) }, { dst := some 47, ins := GoV.Instr.pick (Opd.t 43) (Opd.t 46) (Opd.c (AV.dat Ty.bool false)), guard := none }, { dst := some 26, ins := GoV.Instr.mov (Opd.t 47), guard := none }]).seq (AC.cond (Opd.t 26) AC.skip (AC.reg false [{ dst := some 48, ins := GoV.Instr.fldA 0 (Opd.t 2), guard := none }, { dst := some 49, ins := GoV.Instr.load 1 false (Opd.t 48), guard := none }, { dst := some 50, ins := GoV.Instr.bin BinOp.lss (Opd.t 49) (Opd.c (AV.dat (Ty.int IntKind.i64) (0 : Int))), guard := none }, { dst := some 51, ins := GoV.Instr.mov (Opd.t 50), guard := none }, { dst := some 52, ins := GoV.Instr.fldA 0 (Opd.t 3), guard := some (51, true) }, { dst := some 53, ins := GoV.Instr.load 1 false (Opd.t 52), guard := some (51, true) }, { dst := some 54, ins := GoV.Instr.bin BinOp.lss (Opd.t 53) (Opd.c (AV.dat (Ty.int IntKind.i64) (0 : Int))), guard := some (51, true) }, { dst := some 55, ins := GoV.Instr.pick (Opd.t 51) (Opd.t 54) (Opd.c (AV.dat Ty.bool false)), guard := none }, { dst := some 56, ins := GoV.Instr.mov (Opd.t 55), guard := none }, { dst := some 57, ins := GoV.Instr.load 2 true (Opd.t 7), guard := some (56, true) }, { dst := some 58, ins := GoV.Instr.load 2 true (Opd.t 6), guard := some (56, true) }, { dst := some 59, ins := GoV.Instr.call (Opd.c (AV.fn 66 [] [])) [Opd.t 57, Opd.t 58], guard := some (56, true) }, { dst := some 60, ins := GoV.Instr.pick (Opd.t 56) (Opd.t 59) (Opd.c (AV.dat Ty.bool false)), guard := none }, { dst := some 26, ins := GoV.Instr.mov (Opd.t 60), guard := none }]))))).seq (AC.cond (Opd.t 26) ((AC.reg false [{ dst := some 4, ins := GoV.Instr.mov (Opd.c (AV.dat (Ty.int IntKind.i64) (-1 : Int))), guard := none }, { dst := some 5, ins := GoV.Instr.mov (Opd.c (AV.dat (Ty.int IntKind.i64) (0 : Int))), guard := none }]).seq AC.ret) AC.skip))))).seq ((AC.reg false [{ dst := some 4, ins := GoV.Instr.mov (Opd.c (AV.dat (Ty.int IntKind.i64) (1 : Int))), guard := none }, { dst := some 5, ins := GoV.Instr.mov (Opd.c (AV.dat (Ty.int IntKind.i64) (0 : Int))), guard := none }]).seq AC.ret))), res := [RV.tmp 4, RV.tmp 5] }
set_option maxRecDepth 100000 in
theorem h64 : fnOf Tryd.prog 64 = some c64 := by kernel_rfl
def c65 : FnC := { n := 16, body := (AC.reg false [{ dst := some 4, ins := GoV.Instr.alloc [AV.dat (Ty.int IntKind.u64) (0 : Int), AV.dat (Ty.int IntKind.u64) (0 : Int)], guard := none }]).seq ((AC.reg false [{ dst := some 8, ins := GoV.Instr.mov (Opd.t 0), guard := none }, { dst := some 9, ins := GoV.Instr.mov (Opd.t 1), guard := none }, { dst := some 10, ins := GoV.Instr.call (Opd.c (AV.fn 70 [] [])) [Opd.t 8, Opd.t 9], guard := none }, { dst := some 7, ins := GoV.Instr.mov (Opd.t 10), guard := none }, { dst := some 11, ins := GoV.Instr.ext (Opd.t 7) 0, guard := none }, { dst := some 12, ins := GoV.Instr.ext (Opd.t 7) 1, guard := none }, { dst := some 5, ins := GoV.Instr.mov (Opd.t 11), guard := none }, { dst := some 6, ins := GoV.Instr.mov (Opd.t 12), guard := none }]).seq ((AC.reg false [{ dst := some 13, ins := GoV.Instr.mov (Opd.t 5), guard := none }, { dst := some 14, ins := GoV.Instr.mov (Opd.t 6), guard := none }, { dst := some 15, ins := GoV.Instr.build [AV.dat (Ty.int IntKind.u64) (0 : Int), AV.dat (Ty.int IntKind.u64) (0 : Int)] [(0, 1, Opd.t 13), (1, 1, Opd.t 14)], guard := none }, { dst := none, ins := GoV.Instr.store 2 (Opd.t 4) (Opd.t 15), guard := none }]).seq AC.ret)), res := [RV.cell 4 2 true] }
set_option maxRecDepth 100000 in
theorem h65 : fnOf Tryd.prog 65 = some c65 := by kernel_rfl
def c66 : FnC := { n := 24, body := (AC.reg false [{ dst := some 2, ins := GoV.Instr.box (Opd.t 0), guard := none }, { dst := some 3, ins := GoV.Instr.box (Opd.t 1), guard := none }, { dst := some 4, ins := GoV.Instr.mov (Opd.c (AV.dat Ty.bool false)), guard := none }]).seq ((AC.reg false [{ dst := some 5, ins := GoV.Instr.idxArrA 2 1 (Opd.t 2) (Opd.c (AV.dat (Ty.int IntKind.i64) (0 : Int))), guard := none }, { dst := some 6, ins := GoV.Instr.load 1 false (Opd.t 5), guard := none }, { dst := some 7, ins := GoV.Instr.idxArrA 2 1 (Opd.t 3) (Opd.c (AV.dat (Ty.int IntKind.i64) (0 : Int))), guard := none }, { dst := some 8, ins := GoV.Instr.load 1 false (Opd.t 7), guard := none }, { dst := some 9, ins := GoV.Instr.bin BinOp.lss (Opd.t 6) (Opd.t 8), guard := none }, { dst := some 10, ins := GoV.Instr.mov (Opd.t 9), guard := none }, { dst := some 11, ins := GoV.Instr.idxArrA 2 1 (Opd.t 2) (Opd.c (AV.dat (Ty.int IntKind.i64) (0 : Int))), guard := some (10, false) }, { dst := some 12, ins := GoV.Instr.load 1 false (Opd.t 11), guard := some (10, false) }, { dst := some 13, ins := GoV.Instr.idxArrA 2 1 (Opd.t 3) (Opd.c (AV.dat (Ty.int IntKind.i64) (0 : Int))), guard := some (10, false) }, { dst := some 14, ins := GoV.Instr.load 1 false (Opd.t 13), guard := some (10, false) }, { dst := some 15, ins := GoV.Instr.bin BinOp.eql (Opd.t 12) (Opd.t 14), guard := some (10, false) }, { dst := some 16, ins := GoV.Instr.mov (Opd.t 15), guard := some (10, false) }, { dst := some 17, ins := GoV.Instr.idxArrA 2 1 (Opd.t 2) (Opd.c (AV.dat (Ty.int IntKind.i64) (1 : Int))), guard := some (16, true) }, { dst := some 18, ins := GoV.Instr.load 1 false (Opd.t 17), guard := some (16, true) }, { dst := some 19, ins := GoV.Instr.idxArrA 2 1 (Opd.t 3) (Opd.c (AV.dat (Ty.int IntKind.i64) (1 : Int))), guard := some (16, true) }, { dst := some 20, ins := GoV.Instr.load 1 false (Opd.t 19), guard := some (16, true) }, { dst := some 21, ins := GoV.Instr.bin BinOp.lss (Opd.t 18) (Opd.t 20), guard := some (16, true) }, { dst := some 22, ins := GoV.Instr.pick (Opd.t 16) (Opd.t 21) (Opd.c (AV.dat Ty.bool false)), guard := some (10, false) }, { dst := some 23, ins := GoV.Instr.pick (Opd.t 10) (Opd.c (AV.dat Ty.bool true)) (Opd.t 22), guard := none }, { dst := some 4, ins := GoV.Instr.mov (Opd.t 23), guard := none }]).seq AC.ret), res := [RV.tmp 4] }
set_option maxRecDepth 100000 in
theorem h66 : fnOf Tryd.prog 66 = some c66 := by kernel_rfl
def c67L0 : AC := ((AC.reg false [{ dst := some 9, ins := GoV.Instr.mov (Opd.t 8), guard := none }, { dst := some 10, ins := GoV.Instr.bin BinOp.geq (Opd.t 9) (Opd.c (AV.dat (Ty.int IntKind.i64) (0 : Int))), guard := none }]).seq (AC.cond (Opd.t 10) AC.skip (AC.exit 0))).seq ((AC.block 1 ((AC.reg false [{ dst := some 13, ins := GoV.Instr.mov (Opd.t 6), guard := none }, { dst := some 14, ins := GoV.Instr.bin BinOp.mul (Opd.c (AV.dat (Ty.int IntKind.i64) (2 : Int))) (Opd.t 13), guard := none }, { dst := some 6, ins := GoV.Instr.mov (Opd.t 14), guard := none }]).seq (((AC.reg false [{ dst := some 15, ins := GoV.Instr.mov (Opd.t 7), guard := none }, { dst := some 16, ins := GoV.Instr.bin BinOp.geq (Opd.t 15) (Opd.c (AV.dat (Ty.int IntKind.i64) (2305843009213693952 : Int))), guard := none }]).seq (AC.cond (Opd.t 16) ((AC.reg false [{ dst := some 17, ins := GoV.Instr.mov (Opd.t 6), guard := none }, { dst := some 18, ins := GoV.Instr.bin BinOp.add (Opd.t 17) (Opd.c (AV.dat (Ty.int IntKind.i64) (1 : Int))), guard := none }, { dst := some 6, ins := GoV.Instr.mov (Opd.t 18), guard := none }]).seq (AC.reg false [{ dst := some 19, ins := GoV.Instr.mov (Opd.t 7), guard := none }, { dst := some 20, ins := GoV.Instr.bin BinOp.sub (Opd.t 19) (Opd.c (AV.dat (Ty.int IntKind.i64) (2305843009213693952 : Int))), guard := none }, { dst := some 7, ins := GoV.Instr.mov (Opd.t 20), guard := none }])) AC.skip)).seq ((AC.reg false [{ dst := some 21, ins := GoV.Instr.mov (Opd.t 7), guard := none }, { dst := some 22, ins := GoV.Instr.bin BinOp.mul (Opd.c (AV.dat (Ty.int IntKind.i64) (2 : Int))) (Opd.t 21), guard := none }, { dst := some 7, ins := GoV.Instr.mov (Opd.t 22), guard := none }]).seq ((AC.reg false [{ dst := some 23, ins := GoV.Instr.mov (Opd.t 1), guard := none }, { dst := some 24, ins := GoV.Instr.mov (Opd.t 8), guard := none }, { dst := some 25, ins := GoV.Instr.bin BinOp.shr (Opd.t 23) (Opd.t 24), guard := none }, { dst := some 26, ins := GoV.Instr.bin BinOp.and (Opd.t 25) (Opd.c (AV.dat (Ty.int IntKind.i64) (1 : Int))), guard := none }, { dst := some 27, ins := GoV.Instr.bin BinOp.eql (Opd.t 26) (Opd.c (AV.dat (Ty.int IntKind.i64) (1 : Int))), guard := none }]).seq (AC.cond (Opd.t 27) ((AC.reg false [{ dst := some 28, ins := GoV.Instr.mov (Opd.t 7), guard := none }, { dst := some 29, ins := GoV.Instr.mov (Opd.t 0), guard := none }, { dst := some 30, ins := GoV.Instr.bin BinOp.sub (Opd.c (AV.dat (Ty.int IntKind.i64) (4611686018427387904 : Int))) (Opd.t 29), guard := none }, { dst := some 31, ins := GoV.Instr.bin BinOp.geq (Opd.t 28) (Opd.t 30), guard := none }]).seq (AC.cond (Opd.t 31) ((AC.reg false [{ dst := some 32, ins := GoV.Instr.mov (Opd.t 6), guard := none }, { dst := some 33, ins := GoV.Instr.bin BinOp.add (Opd.t 32) (Opd.c (AV.dat (Ty.int IntKind.i64) (1 : Int))), guard := none }, { dst := some 6, ins := GoV.Instr.mov (Opd.t 33), guard := none }]).seq (AC.reg false [{ dst := some 34, ins := GoV.Instr.mov (Opd.t 7), guard := none }, { dst := some 35, ins := GoV.Instr.mov (Opd.t 0), guard := none }, { dst := some 36, ins := GoV.Instr.bin BinOp.sub (Opd.c (AV.dat (Ty.int IntKind.i64) (4611686018427387904 : Int))) (Opd.t 35), guard := none }, { dst := some 37, ins := GoV.Instr.bin BinOp.sub (Opd.t 34) (Opd.t 36), guard := none }, { dst := some 7, ins := GoV.Instr.mov (Opd.t 37), guard := none }])) (AC.reg false [{ dst := some 38, ins := GoV.Instr.mov (Opd.t 7), guard := none }, { dst := some 39, ins := GoV.Instr.mov (Opd.t 0), guard := none }, { dst := some 40, ins := GoV.Instr.bin BinOp.add (Opd.t 38) (Opd.t 39), guard := none }, { dst := some 7, ins := GoV.Instr.mov (Opd.t 40), guard := none }]))) AC.skip)))))).seq (AC.reg false [{ dst := some 11, ins := GoV.Instr.mov (Opd.t 8), guard := none }, { dst := some 12, ins := GoV.Instr.bin BinOp.sub (Opd.t 11) (Opd.c (AV.dat (Ty.int IntKind.i64) (1 : Int))), guard := none }, { dst := some 8, ins := GoV.Instr.mov (Opd.t 12), guard := none }]))
def c67 : FnC := { n := 43, body := (AC.reg false [{ dst := some 4, ins := GoV.Instr.mov (Opd.c (AV.dat (Ty.int IntKind.i64) (0 : Int))), guard := none }, { dst := some 5, ins := GoV.Instr.mov (Opd.c (AV.dat (Ty.int IntKind.i64) (0 : Int))), guard := none }]).seq ((AC.reg false [{ dst := some 6, ins := GoV.Instr.mov (Opd.c (AV.dat (Ty.int IntKind.i64) (0 : Int))), guard := none }, { dst := some 7, ins := GoV.Instr.mov (Opd.c (AV.dat (Ty.int IntKind.i64) (0 : Int))), guard := none }]).seq (((AC.reg false [{ dst := some 8, ins := GoV.Instr.mov (Opd.c (AV.dat (Ty.int IntKind.i64) (61 : Int))), guard := none }]).seq (AC.block 0 (AC.loop c67L0))).seq ((AC.reg false [{ dst := some 41, ins := GoV.Instr.mov (Opd.t 6), guard := none }, { dst := some 42, ins := GoV.Instr.mov (Opd.t 7), guard := none }, { dst := some 4, ins := GoV.Instr.mov (Opd.t 41), guard := none }, { dst := some 5, ins := GoV.Instr.mov (Opd.t 42), guard := none }]).seq AC.ret))), res := [RV.tmp 4, RV.tmp 5] }
set_option maxRecDepth 100000 in
theorem h67 : fnOf Tryd.prog 67 = some c67 := by kernel_rfl
def c68 : FnC := { n := 6, body := (AC.reg false [{ dst := some 2, ins := GoV.Instr.mov (Opd.c (AV.dat Ty.bool false)), guard := none }]).seq ((AC.reg false [{ dst := some 3, ins := GoV.Instr.mov (Opd.t 0), guard := none }, { dst := some 4, ins := GoV.Instr.mov (Opd.t 0), guard := none }, { dst := some 5, ins := GoV.Instr.bin BinOp.neq (Opd.t 3) (Opd.t 4), guard := none }, { dst := some 2, ins := GoV.Instr.mov (Opd.t 5), guard := none }]).seq AC.ret), res := [RV.tmp 2] }
set_option maxRecDepth 100000 in
theorem h68 : fnOf Tryd.prog 68 = some c68 := by kernel_rfl
def c69 : FnC := { n := 17, body := (AC.reg false [{ dst := some 5, ins := GoV.Instr.bad, guard := none }, { dst := some 2, ins := GoV.Instr.mov (Opd.t 5), guard := none }]).seq ((AC.reg false [{ dst := some 6, ins := GoV.Instr.mov (Opd.t 2), guard := none }, { dst := some 7, ins := GoV.Instr.isnili false (Opd.t 6), guard := none }]).seq (AC.cond (Opd.t 7) (((AC.reg false [{ dst := some 9, ins := GoV.Instr.mov (Opd.t 2), guard := none }, { dst := some 10, ins := GoV.Instr.bad, guard := none }, { dst := some 8, ins := GoV.Instr.mov (Opd.t 10), guard := none }, { dst := some 11, ins := GoV.Instr.ext (Opd.t 8) 0, guard := none }, { dst := some 12, ins := GoV.Instr.ext (Opd.t 8) 1, guard := none }, { dst := some 3, ins := GoV.Instr.alloc [], guard := none }, { dst := none, ins := GoV.Instr.store 0 (Opd.t 3) (Opd.t 11), guard := none }, { dst := some 4, ins := GoV.Instr.mov (Opd.t 12), guard := none }]).seq ((AC.reg false [{ dst := some 13, ins := GoV.Instr.mov (Opd.t 4), guard := none }, { dst := some 14, ins := GoV.Instr.un UnOp.not (Opd.t 13), guard := none }]).seq (AC.cond (Opd.t 14) (AC.reg false [{ dst := some 15, ins := GoV.Instr.mov (Opd.t 2), guard := none }, { dst := none, ins := GoV.Instr.bad, guard := none }]) AC.skip))).seq (AC.reg false [{ dst := some 16, ins := GoV.Instr.build [AV.dat (Ty.int IntKind.i64) (0 : Int), AV.dat (Ty.int IntKind.i64) (0 : Int)] [], guard := none }, { dst := none, ins := GoV.Instr.store 2 (Opd.t 0) (Opd.t 16), guard := none }, { dst := none, ins := GoV.Instr.store 1 (Opd.t 1) (Opd.c (AV.dat (Ty.int IntKind.i64) (6 : Int))), guard := none }])) AC.skip)), res := [] }
set_option maxRecDepth 100000 in
theorem h69 : fnOf Tryd.prog 69 = some c69 := by kernel_rfl
def c70 : FnC := { n := 51, body := (AC.reg false [{ dst := some 4, ins := GoV.Instr.mov (Opd.c (AV.dat (Ty.int IntKind.u64) (0 : Int))), guard := none }, { dst := some 5, ins := GoV.Instr.mov (Opd.c (AV.dat (Ty.int IntKind.u64) (0 : Int))), guard := none }]).seq ((AC.reg false [{ dst := some 14, ins := GoV.Instr.mov (Opd.t 0), guard := none }, { dst := some 15, ins := GoV.Instr.bin BinOp.and (Opd.t 14) (Opd.c (AV.dat (Ty.int IntKind.u64) (4294967295 : Int))), guard := none }, { dst := some 6, ins := GoV.Instr.mov (Opd.t 15), guard := none }]).seq ((AC.reg false [{ dst := some 16, ins := GoV.Instr.mov (Opd.t 0), guard := none }, { dst := some 17, ins := GoV.Instr.bin BinOp.shr (Opd.t 16) (Opd.c (AV.dat (Ty.int IntKind.u64) (32 : Int))), guard := none }, { dst := some 7, ins := GoV.Instr.mov (Opd.t 17), guard := none }]).seq ((AC.reg false [{ dst := some 18, ins := GoV.Instr.mov (Opd.t 1), guard := none }, { dst := some 19, ins := GoV.Instr.bin BinOp.and (Opd.t 18) (Opd.c (AV.dat (Ty.int IntKind.u64) (4294967295 : Int))), guard := none }, { dst := some 8, ins := GoV.Instr.mov (Opd.t 19), guard := none }]).seq ((AC.reg false [{ dst := some 20, ins := GoV.Instr.mov (Opd.t 1), guard := none }, { dst := some 21, ins := GoV.Instr.bin BinOp.shr (Opd.t 20) (Opd.c (AV.dat (Ty.int IntKind.u64) (32 : Int))), guard := none }, { dst := some 9, ins := GoV.Instr.mov (Opd.t 21), guard := none }]).seq ((AC.reg false [{ dst := some 22, ins := GoV.Instr.mov (Opd.t 6), guard := none }, { dst := some 23, ins := GoV.Instr.mov (Opd.t 8), guard := none }, { dst := some 24, ins := GoV.Instr.bin BinOp.mul (Opd.t 22) (Opd.t 23), guard := none }, { dst := some 10, ins := GoV.Instr.mov (Opd.t 24), guard := none }]).seq ((AC.reg false [{ dst := some 25, ins := GoV.Instr.mov (Opd.t 7), guard := none }, { dst := some 26, ins := GoV.Instr.mov (Opd.t 8), guard := none }, { dst := some 27, ins := GoV.Instr.bin BinOp.mul (Opd.t 25) (Opd.t 26), guard := none }, { dst := some 28, ins := GoV.Instr.mov (Opd.t 10), guard := none }, { dst := some 29, ins := GoV.Instr.bin BinOp.shr (Opd.t 28) (Opd.c (AV.dat (Ty.int IntKind.u64) (32 : Int))), guard := none }, { dst := some 30, ins := GoV.Instr.bin BinOp.add (Opd.t 27) (Opd.t 29), guard := none }, { dst := some 11, ins := GoV.Instr.mov (Opd.t 30), guard := none }]).seq ((AC.reg false [{ dst := some 31, ins := GoV.Instr.mov (Opd.t 11), guard := none }, { dst := some 32, ins := GoV.Instr.bin BinOp.and (Opd.t 31) (Opd.c (AV.dat (Ty.int IntKind.u64) (4294967295 : Int))), guard := none }, { dst := some 12, ins := GoV.Instr.mov (Opd.t 32), guard := none }]).seq ((AC.reg false [{ dst := some 33, ins := GoV.Instr.mov (Opd.t 11), guard := none }, { dst := some 34, ins := GoV.Instr.bin BinOp.shr (Opd.t 33) (Opd.c (AV.dat (Ty.int IntKind.u64) (32 : Int))), guard := none }, { dst := some 13, ins := GoV.Instr.mov (Opd.t 34), guard := none }]).seq ((AC.reg false [{ dst := some 35, ins := GoV.Instr.mov (Opd.t 12), guard := none }, { dst := some 36, ins := GoV.Instr.mov (Opd.t 6), guard := none }, { dst := some 37, ins := GoV.Instr.mov (Opd.t 9), guard := none }, { dst := some 38, ins := GoV.Instr.bin BinOp.mul (Opd.t 36) (Opd.t 37), guard := none }, { dst := some 39, ins := GoV.Instr.bin BinOp.add (Opd.t 35) (Opd.t 38), guard := none }, { dst := some 12, ins := GoV.Instr.mov (Opd.t 39), guard := none }]).seq ((AC.reg false [{ dst := some 40, ins := GoV.Instr.mov (Opd.t 7), guard := none }, { dst := some 41, ins := GoV.Instr.mov (Opd.t 9), guard := none }, { dst := some 42, ins := GoV.Instr.bin BinOp.mul (Opd.t 40) (Opd.t 41), guard := none }, { dst := some 43, ins := GoV.Instr.mov (Opd.t 13), guard := none }, { dst := some 44, ins := GoV.Instr.bin BinOp.add (Opd.t 42) (Opd.t 43), guard := none }, { dst := some 45, ins := GoV.Instr.mov (Opd.t 12), guard := none }, { dst := some 46, ins := GoV.Instr.bin BinOp.shr (Opd.t 45) (Opd.c (AV.dat (Ty.int IntKind.u64) (32 : Int))), guard := none }, { dst := some 47, ins := GoV.Instr.bin BinOp.add (Opd.t 44) (Opd.t 46), guard := none }, { dst := some 4, ins := GoV.Instr.mov (Opd.t 47), guard := none }]).seq ((AC.reg false [{ dst := some 48, ins := GoV.Instr.mov (Opd.t 0), guard := none }, { dst := some 49, ins := GoV.Instr.mov (Opd.t 1), guard := none }, { dst := some 50, ins := GoV.Instr.bin BinOp.mul (Opd.t 48) (Opd.t 49), guard := none }, { dst := some 5, ins := GoV.Instr.mov (Opd.t 50), guard := none }]).seq AC.ret))))))))))), res := [RV.tmp 4, RV.tmp 5] }
set_option maxRecDepth 100000 in
theorem h70 : fnOf Tryd.prog 70 = some c70 := by kernel_rfl
def d69 : DefC := { n := 17, d := some 5, ops := [{ dst := some 2, ins := GoV.Instr.mov (Opd.t 5), guard := none }], rest := (AC.reg false [{ dst := some 6, ins := GoV.Instr.mov (Opd.t 2), guard := none }, { dst := some 7, ins := GoV.Instr.isnili false (Opd.t 6), guard := none }]).seq (AC.cond (Opd.t 7) (((AC.reg false [{ dst := some 9, ins := GoV.Instr.mov (Opd.t 2), guard := none }, { dst := some 10, ins := GoV.Instr.bad, guard := none }, { dst := some 8, ins := GoV.Instr.mov (Opd.t 10), guard := none }, { dst := some 11, ins := GoV.Instr.ext (Opd.t 8) 0, guard := none }, { dst := some 12, ins := GoV.Instr.ext (Opd.t 8) 1, guard := none }, { dst := some 3, ins := GoV.Instr.alloc [], guard := none }, { dst := none, ins := GoV.Instr.store 0 (Opd.t 3) (Opd.t 11), guard := none }, { dst := some 4, ins := GoV.Instr.mov (Opd.t 12), guard := none }]).seq ((AC.reg false [{ dst := some 13, ins := GoV.Instr.mov (Opd.t 4), guard := none }, { dst := some 14, ins := GoV.Instr.un UnOp.not (Opd.t 13), guard := none }]).seq (AC.cond (Opd.t 14) (AC.reg false [{ dst := some 15, ins := GoV.Instr.mov (Opd.t 2), guard := none }, { dst := none, ins := GoV.Instr.bad, guard := none }]) AC.skip))).seq (AC.reg false [{ dst := some 16, ins := GoV.Instr.build [AV.dat (Ty.int IntKind.i64) (0 : Int), AV.dat (Ty.int IntKind.i64) (0 : Int)] [], guard := none }, { dst := none, ins := GoV.Instr.store 2 (Opd.t 0) (Opd.t 16), guard := none }, { dst := none, ins := GoV.Instr.store 1 (Opd.t 1) (Opd.c (AV.dat (Ty.int IntKind.i64) (6 : Int))), guard := none }])) AC.skip) }
set_option maxRecDepth 100000 in
theorem hd69 : defOf Tryd.prog 69 = some d69 := by kernel_rfl
end Go.Proofs.YtligakiolapkkaaDoor

namespace Go.Proofs.YtligakiolapkkaaDoor
open Go GoV
set_option maxHeartbeats 2000000
abbrev IL (l : List Int) : AV := .dat (.list (.int .i64)) l
abbrev I (n : Int) : AV := .dat (.int .i64) n
abbrev B (b : Bool) : AV := .dat .bool b
abbrev TT (t : List (List Int)) : AV := .dat (.list (.list (.int .i64))) t
theorem hmix : Tryd.prog.follows .mixedOrders = true := by kernel_rfl

def fct : Nat → Nat
  | 0 => 1
  | n + 1 => (n + 1) * fct n
theorem fct_pos : ∀ n, 0 < fct n
  | 0 => by decide
  | n + 1 => Nat.mul_pos (by omega) (fct_pos n)
theorem fct_succ (n : Nat) : fct (n + 1) = (n + 1) * fct n := rfl
theorem fct_le : ∀ {a b : Nat}, a ≤ b → fct a ≤ fct b
  | a, b, h => by
    induction h with
    | refl => exact Nat.le_refl _
    | step h ih => exact Nat.le_trans ih (Nat.le_mul_of_pos_left _ (by omega))
theorem fct20 : fct 20 = 2432902008176640000 := by decide
theorem fct_le20 {n : Nat} (h : n ≤ 20) : fct n ≤ 2432902008176640000 := by rw [← fct20]; exact fct_le h
/-- a! b! ≤ (a + b)! -/
theorem fct_mul_le : ∀ (a b : Nat), fct a * fct b ≤ fct (a + b)
  | a, 0 => by simp [fct]
  | a, b + 1 => by
    have ih := fct_mul_le a b
    rw [fct_succ, show a + (b + 1) = (a + b) + 1 by omega, fct_succ]
    calc fct a * ((b + 1) * fct b) = (b + 1) * (fct a * fct b) := by rw [Nat.mul_left_comm]
      _ ≤ (a + b + 1) * fct (a + b) := Nat.mul_le_mul (by omega) ih

theorem factorial_pc (n : Nat) (h : n ≤ 20) : PC Tryd.prog 54 [I n] (I (fct n)) := by
  refine pc_fn hmix h54 rfl ?_
  simp -implicitDefEqProofs only [c54, push_cast, Nat.reduceBEq, Nat.reduceLT, Nat.reduceLeDiff, Nat.reduceAdd, Nat.reduceSub, Nat.reduceMul, Nat.reduceEqDiff, reduceCtorEq, ↓reduceIte, Int.reduceEq, Int.reduceLT, Int.reduceLE, Int.reduceNe, Int.reduceAdd, Int.reduceSub, Int.reduceMul, Int.reduceToNat, Nat.reduceShiftRight, Nat.reduceAnd, Nat.reduceBNe]
  refine loop_k (α := Nat) [4, 3, 0] 0 (fun k => [(4, I ((k : Int) + 2)), (3, I (fct (k + 1)))]) (fun _ => []) (fun k => k + 1 ≤ max n 1) (fun k => 21 - k) 0 rfl ⟨rfl, rfl, rfl⟩ rfl (by omega) ?_
  intro k hk
  have h1 := fct_le20 (n := k + 1) (by omega)
  simp -implicitDefEqProofs only [c54L0, push_cast, Nat.reduceBEq, Nat.reduceLT, Nat.reduceLeDiff, Nat.reduceAdd, Nat.reduceSub, Nat.reduceMul, Nat.reduceEqDiff, reduceCtorEq, ↓reduceIte, Int.reduceEq, Int.reduceLT, Int.reduceLE, Int.reduceNe, Int.reduceAdd, Int.reduceSub, Int.reduceMul, Int.reduceToNat, Nat.reduceShiftRight, Nat.reduceAnd, Nat.reduceBNe]
  refine ⟨fun hc => ?_, fun hc => ?_⟩
  · have h2 := fct_le20 (n := k + 2) (by omega)
    have e : ((fct (k + 1) : Nat) : Int) * ((k : Int) + 2) = ((fct (k + 2) : Nat) : Int) := by
      rw [fct_succ (k + 1), Int.natCast_mul, Int.mul_comm]
      congr 1
    rw [e]
    refine ⟨by simp only [inR]; omega, by simp only [inR]; omega, k + 1, by omega, by omega, ?_⟩
    rw [show (k : Int) + 2 + 1 = ((k + 1 : Nat) : Int) + 2 by omega]
    exact wk_c rfl ⟨rfl, rfl, rfl⟩ rfl
  · refine finC ?_ rfl
    have : k + 1 = max n 1 := by omega
    rw [this]
    cases n with
    | zero => rfl
    | succ n => rw [show max (n + 1) 1 = n + 1 by omega]

def overN (n : Nat) (l : List Int) : Nat := l.foldl (fun o x => o / fct x.toNat) (fct n)
theorem foldl_div_le : ∀ (l : List Int) (o : Nat), l.foldl (fun o x => o / fct x.toNat) o ≤ o
  | [], o => Nat.le_refl _
  | x :: l, o => Nat.le_trans (foldl_div_le l _) (Nat.div_le_self _ _)
theorem overN_le (n : Nat) (l : List Int) : overN n l ≤ fct n := foldl_div_le _ _
def R20 (l : List Int) : Prop := ∀ x ∈ l, 0 ≤ x ∧ x ≤ 20
theorem getD_mem {α : Type} {l : List α} {k : Nat} {d : α} (h : k < l.length) : l.getD k d ∈ l := by
  simp only [List.getD_eq_getElem?_getD, List.getElem?_eq_getElem h, Option.getD_some]
  exact List.getElem_mem h
theorem take_at {α : Type} {l : List α} {k : Nat} (d : α) (h : k < l.length) : l.take (k + 1) = l.take k ++ [l.getD k d] := by
  simp only [List.getD_eq_getElem?_getD, List.getElem?_eq_getElem h, Option.getD_some]
  rw [List.take_add_one, List.getElem?_eq_getElem h]
  rfl

theorem over_step {l : List Int} {k n : Nat} (h : R20 l) (hk : k < l.length) : ((overN n (l.take k) : Nat) : Int).tdiv ((fct (l.getD k 0).toNat : Nat) : Int) = ((overN n (l.take (k + 1)) : Nat) : Int) := by
  rw [take_at 0 hk]
  unfold overN
  rw [List.foldl_append]
  simp only [List.foldl_cons, List.foldl_nil]
  exact Int.ofNat_tdiv _ _

theorem tdiv_rng {a b : Nat} (h : a ≤ 2432902008176640000) (hb : 0 < b) : ((b : Int) ≠ 0) ∧ inR .i64 ((a : Int).tdiv (b : Int)) := by
  have e := Int.ofNat_tdiv a b
  refine ⟨by omega, ?_⟩
  rw [← e]
  have := Nat.div_le_self a b
  generalize a / b = q at this
  simp only [inR]
  omega

theorem refover_pc (n : Nat) (l : List Int) (hn : n ≤ 20) (hl : R20 l) (hll : l.length ≤ 1000) : PC Tryd.prog 45 [I n, IL l] (I (overN n l)) := by
  refine pc_fn hmix h45 rfl ?_
  simp -implicitDefEqProofs only [c45, push_cast, Nat.reduceBEq, Nat.reduceLT, Nat.reduceLeDiff, Nat.reduceAdd, Nat.reduceSub, Nat.reduceMul, Nat.reduceEqDiff, reduceCtorEq, ↓reduceIte, Int.reduceEq, Int.reduceLT, Int.reduceLE, Int.reduceNe, Int.reduceAdd, Int.reduceSub, Int.reduceMul, Int.reduceToNat, Nat.reduceShiftRight, Nat.reduceAnd, Nat.reduceBNe]
  refine callF (factorial_pc n hn) ⟨rfl, trivial⟩ rfl rfl ?_
  simp -implicitDefEqProofs only [push_cast, Nat.reduceBEq, Nat.reduceLT, Nat.reduceLeDiff, Nat.reduceAdd, Nat.reduceSub, Nat.reduceMul, Nat.reduceEqDiff, reduceCtorEq, ↓reduceIte, Int.reduceEq, Int.reduceLT, Int.reduceLE, Int.reduceNe, Int.reduceAdd, Int.reduceSub, Int.reduceMul, Int.reduceToNat, Nat.reduceShiftRight, Nat.reduceAnd, Nat.reduceBNe]
  refine loop_k (α := Nat) [6, 5, 1] 0 (fun k => [(6, I k), (5, I (overN n (l.take k)))]) (fun _ => []) (fun k => k ≤ l.length) (fun k => l.length - k) 0 rfl ⟨rfl, rfl, rfl⟩ rfl (by omega) ?_
  intro k hk
  simp -implicitDefEqProofs only [c45L0, push_cast, Nat.reduceBEq, Nat.reduceLT, Nat.reduceLeDiff, Nat.reduceAdd, Nat.reduceSub, Nat.reduceMul, Nat.reduceEqDiff, reduceCtorEq, ↓reduceIte, Int.reduceEq, Int.reduceLT, Int.reduceLE, Int.reduceNe, Int.reduceAdd, Int.reduceSub, Int.reduceMul, Int.reduceToNat, Nat.reduceShiftRight, Nat.reduceAnd, Nat.reduceBNe]
  refine ⟨fun hc => ⟨by omega, ?_⟩, fun hc => ?_⟩
  · have hkl : k < l.length := by omega
    have hx := hl _ (getD_mem (d := 0) hkl)
    have e := over_step (n := n) hl hkl
    have hpos := fct_pos (l.getD k 0).toNat
    have hb := Nat.le_trans (overN_le n (l.take k)) (fct_le20 hn)
    generalize l.getD k 0 = x at *
    obtain ⟨y, rfl⟩ := Int.eq_ofNat_of_zero_le hx.1
    refine callF (factorial_pc y (by omega)) ⟨rfl, trivial⟩ rfl rfl ?_
    simp -implicitDefEqProofs only [push_cast, Nat.reduceBEq, Nat.reduceLT, Nat.reduceLeDiff, Nat.reduceAdd, Nat.reduceSub, Nat.reduceMul, Nat.reduceEqDiff, reduceCtorEq, ↓reduceIte, Int.reduceEq, Int.reduceLT, Int.reduceLE, Int.reduceNe, Int.reduceAdd, Int.reduceSub, Int.reduceMul, Int.reduceToNat, Nat.reduceShiftRight, Nat.reduceAnd, Nat.reduceBNe]
    simp only [Int.toNat_natCast] at e hpos
    refine ⟨tdiv_rng hb hpos, by simp only [inR]; omega, k + 1, by omega, by omega, ?_⟩
    rw [e]
    exact wk_c rfl ⟨rfl, rfl, rfl⟩ rfl
  · have : k = l.length := by omega
    subst this
    rw [List.take_length]
    exact finC rfl rfl
end Go.Proofs.YtligakiolapkkaaDoor

namespace Go.Proofs.YtligakiolapkkaaDoor
open Go GoV
set_option maxHeartbeats 8000000
set_option maxRecDepth 10000

theorem sums_22 (a b c d : Int) (hh : (0 ≤ a ∧ a ≤ 20) ∧ (0 ≤ b ∧ b ≤ 20) ∧ (0 ≤ c ∧ c ≤ 20) ∧ (0 ≤ d ∧ d ≤ 20)) :
    PC Tryd.prog 42 [TT [[a, b], [c, d]]] (.tup [.agg [I (a + b), I (c + d), I 0], .agg [I (a + c), I (b + d), I 0]]) := by
  refine pc_fn hmix h42 rfl ?_
  simp -implicitDefEqProofs only [c42, push_cast, Nat.reduceBEq, Nat.reduceLT, Nat.reduceLeDiff, Nat.reduceAdd, Nat.reduceSub, Nat.reduceMul, Nat.reduceEqDiff, reduceCtorEq, ↓reduceIte, Int.reduceEq, Int.reduceLT, Int.reduceLE, Int.reduceNe, Int.reduceAdd, Int.reduceSub, Int.reduceMul, Int.reduceToNat, Nat.reduceShiftRight, Nat.reduceAnd, Nat.reduceBNe]
  repeat first
    | (refine LoopW.unroll ?_; simp -implicitDefEqProofs only [c42L0, c42L1, List.getD_cons_zero, List.getD_cons_succ, Int.zero_add, push_cast, Nat.reduceBEq, Nat.reduceLT, Nat.reduceLeDiff, Nat.reduceAdd, Nat.reduceSub, Nat.reduceMul, Nat.reduceEqDiff, reduceCtorEq, ↓reduceIte, Int.reduceEq, Int.reduceLT, Int.reduceLE, Int.reduceNe, Int.reduceAdd, Int.reduceSub, Int.reduceMul, Int.reduceToNat, Nat.reduceShiftRight, Nat.reduceAnd, Nat.reduceBNe])
    | (refine ⟨by simp only [inR]; omega, ?_⟩)
  exact finC rfl rfl

theorem sums_23 (a b c d e f : Int) (hh : (0 ≤ a ∧ a ≤ 20) ∧ (0 ≤ b ∧ b ≤ 20) ∧ (0 ≤ c ∧ c ≤ 20) ∧ (0 ≤ d ∧ d ≤ 20) ∧ (0 ≤ e ∧ e ≤ 20) ∧ (0 ≤ f ∧ f ≤ 20)) :
    PC Tryd.prog 42 [TT [[a, b, c], [d, e, f]]] (.tup [.agg [I (a + b + c), I (d + e + f), I 0], .agg [I (a + d), I (b + e), I (c + f)]]) := by
  refine pc_fn hmix h42 rfl ?_
  simp -implicitDefEqProofs only [c42, push_cast, Nat.reduceBEq, Nat.reduceLT, Nat.reduceLeDiff, Nat.reduceAdd, Nat.reduceSub, Nat.reduceMul, Nat.reduceEqDiff, reduceCtorEq, ↓reduceIte, Int.reduceEq, Int.reduceLT, Int.reduceLE, Int.reduceNe, Int.reduceAdd, Int.reduceSub, Int.reduceMul, Int.reduceToNat, Nat.reduceShiftRight, Nat.reduceAnd, Nat.reduceBNe]
  repeat first
    | (refine LoopW.unroll ?_; simp -implicitDefEqProofs only [c42L0, c42L1, List.getD_cons_zero, List.getD_cons_succ, Int.zero_add, push_cast, Nat.reduceBEq, Nat.reduceLT, Nat.reduceLeDiff, Nat.reduceAdd, Nat.reduceSub, Nat.reduceMul, Nat.reduceEqDiff, reduceCtorEq, ↓reduceIte, Int.reduceEq, Int.reduceLT, Int.reduceLE, Int.reduceNe, Int.reduceAdd, Int.reduceSub, Int.reduceMul, Int.reduceToNat, Nat.reduceShiftRight, Nat.reduceAnd, Nat.reduceBNe])
    | (refine ⟨by simp only [inR]; omega, ?_⟩)
  exact finC rfl rfl

theorem sums_32 (a b c d e f : Int) (hh : (0 ≤ a ∧ a ≤ 20) ∧ (0 ≤ b ∧ b ≤ 20) ∧ (0 ≤ c ∧ c ≤ 20) ∧ (0 ≤ d ∧ d ≤ 20) ∧ (0 ≤ e ∧ e ≤ 20) ∧ (0 ≤ f ∧ f ≤ 20)) :
    PC Tryd.prog 42 [TT [[a, b], [c, d], [e, f]]] (.tup [.agg [I (a + b), I (c + d), I (e + f)], .agg [I (a + c + e), I (b + d + f), I 0]]) := by
  refine pc_fn hmix h42 rfl ?_
  simp -implicitDefEqProofs only [c42, push_cast, Nat.reduceBEq, Nat.reduceLT, Nat.reduceLeDiff, Nat.reduceAdd, Nat.reduceSub, Nat.reduceMul, Nat.reduceEqDiff, reduceCtorEq, ↓reduceIte, Int.reduceEq, Int.reduceLT, Int.reduceLE, Int.reduceNe, Int.reduceAdd, Int.reduceSub, Int.reduceMul, Int.reduceToNat, Nat.reduceShiftRight, Nat.reduceAnd, Nat.reduceBNe]
  repeat first
    | (refine LoopW.unroll ?_; simp -implicitDefEqProofs only [c42L0, c42L1, List.getD_cons_zero, List.getD_cons_succ, Int.zero_add, push_cast, Nat.reduceBEq, Nat.reduceLT, Nat.reduceLeDiff, Nat.reduceAdd, Nat.reduceSub, Nat.reduceMul, Nat.reduceEqDiff, reduceCtorEq, ↓reduceIte, Int.reduceEq, Int.reduceLT, Int.reduceLE, Int.reduceNe, Int.reduceAdd, Int.reduceSub, Int.reduceMul, Int.reduceToNat, Nat.reduceShiftRight, Nat.reduceAnd, Nat.reduceBNe])
    | (refine ⟨by simp only [inR]; omega, ?_⟩)
  exact finC rfl rfl

theorem sums_33 (a b c d e f g h i : Int) (hh : (0 ≤ a ∧ a ≤ 20) ∧ (0 ≤ b ∧ b ≤ 20) ∧ (0 ≤ c ∧ c ≤ 20) ∧ (0 ≤ d ∧ d ≤ 20) ∧ (0 ≤ e ∧ e ≤ 20) ∧ (0 ≤ f ∧ f ≤ 20) ∧ (0 ≤ g ∧ g ≤ 20) ∧ (0 ≤ h ∧ h ≤ 20) ∧ (0 ≤ i ∧ i ≤ 20)) :
    PC Tryd.prog 42 [TT [[a, b, c], [d, e, f], [g, h, i]]] (.tup [.agg [I (a + b + c), I (d + e + f), I (g + h + i)], .agg [I (a + d + g), I (b + e + h), I (c + f + i)]]) := by
  refine pc_fn hmix h42 rfl ?_
  simp -implicitDefEqProofs only [c42, push_cast, Nat.reduceBEq, Nat.reduceLT, Nat.reduceLeDiff, Nat.reduceAdd, Nat.reduceSub, Nat.reduceMul, Nat.reduceEqDiff, reduceCtorEq, ↓reduceIte, Int.reduceEq, Int.reduceLT, Int.reduceLE, Int.reduceNe, Int.reduceAdd, Int.reduceSub, Int.reduceMul, Int.reduceToNat, Nat.reduceShiftRight, Nat.reduceAnd, Nat.reduceBNe]
  repeat first
    | (refine LoopW.unroll ?_; simp -implicitDefEqProofs only [c42L0, c42L1, List.getD_cons_zero, List.getD_cons_succ, Int.zero_add, push_cast, Nat.reduceBEq, Nat.reduceLT, Nat.reduceLeDiff, Nat.reduceAdd, Nat.reduceSub, Nat.reduceMul, Nat.reduceEqDiff, reduceCtorEq, ↓reduceIte, Int.reduceEq, Int.reduceLT, Int.reduceLE, Int.reduceNe, Int.reduceAdd, Int.reduceSub, Int.reduceMul, Int.reduceToNat, Nat.reduceShiftRight, Nat.reduceAnd, Nat.reduceBNe])
    | (refine ⟨by simp only [inR]; omega, ?_⟩)
  exact finC rfl rfl

end Go.Proofs.YtligakiolapkkaaDoor

namespace Go.Proofs.YtligakiolapkkaaDoor
open Go GoV
set_option maxHeartbeats 4000000

def minL (l : List Int) : Int := l.tail.foldl min (l.headD 0)
def maxL (l : List Int) : Int := l.tail.foldl max (l.headD 0)
theorem fold_take {f : Int → Int → Int} {l : List Int} {k : Nat} (h : k + 1 < l.length) : (l.take (k + 2)).tail.foldl f ((l.take (k + 2)).headD 0) = f ((l.take (k + 1)).tail.foldl f ((l.take (k + 1)).headD 0)) (l.getD (k + 1) 0) := by
  cases l with
  | nil => simp at h
  | cons x r =>
    simp only [List.take_succ_cons, List.tail_cons, List.headD_cons, List.getD_cons_succ]
    rw [take_at 0 (by simpa using h), List.foldl_append]
    rfl

theorem min_take {l : List Int} {k : Nat} (h : k + 1 < l.length) : minL (l.take (k + 2)) = min (minL (l.take (k + 1))) (l.getD (k + 1) 0) := fold_take h
theorem max_take {l : List Int} {k : Nat} (h : k + 1 < l.length) : maxL (l.take (k + 2)) = max (maxL (l.take (k + 1))) (l.getD (k + 1) 0) := fold_take h
theorem min_pc (l : List Int) (h0 : 0 < l.length) (hl : l.length ≤ 1000) : PC Tryd.prog 40 [IL l] (I (minL l)) := by
  refine pc_fn hmix h40 rfl ?_
  simp -implicitDefEqProofs only [c40, push_cast, Nat.reduceBEq, Nat.reduceLT, Nat.reduceLeDiff, Nat.reduceAdd, Nat.reduceSub, Nat.reduceMul, Nat.reduceEqDiff, reduceCtorEq, ↓reduceIte, Int.reduceEq, Int.reduceLT, Int.reduceLE, Int.reduceNe, Int.reduceAdd, Int.reduceSub, Int.reduceMul, Int.reduceToNat, Nat.reduceShiftRight, Nat.reduceAnd, Nat.reduceBNe]
  refine ⟨fun h => by omega, fun _ => ⟨by omega, ?_⟩⟩
  refine loop_k (α := Nat) [4, 3, 0] 0 (fun k => [(4, I ((k : Int) + 1)), (3, I (minL (l.take (k + 1))))]) (fun _ => []) (fun k => k < l.length) (fun k => l.length - k) 0 rfl ⟨rfl, rfl, rfl⟩ ?_ h0 ?_
  · cases l with
    | nil => simp at h0
    | cons x r => rfl
  intro k hk
  simp -implicitDefEqProofs only [c40L0, push_cast, Nat.reduceBEq, Nat.reduceLT, Nat.reduceLeDiff, Nat.reduceAdd, Nat.reduceSub, Nat.reduceMul, Nat.reduceEqDiff, reduceCtorEq, ↓reduceIte, Int.reduceEq, Int.reduceLT, Int.reduceLE, Int.reduceNe, Int.reduceAdd, Int.reduceSub, Int.reduceMul, Int.reduceToNat, Nat.reduceShiftRight, Nat.reduceAnd, Nat.reduceBNe]
  refine ⟨fun hc => ⟨by omega, by simp only [inR]; omega, k + 1, by omega, by omega, ?_⟩, fun hc => ?_⟩
  · rw [show ((k : Int) + 1).toNat = k + 1 by omega, ← min_take (by omega)]
    exact wk_c rfl ⟨rfl, rfl, rfl⟩ rfl
  · refine finC ?_ rfl
    rw [show k + 1 = l.length by omega, List.take_length]

theorem max_pc (l : List Int) (h0 : 0 < l.length) (hl : l.length ≤ 1000) : PC Tryd.prog 41 [IL l] (I (maxL l)) := by
  refine pc_fn hmix h41 rfl ?_
  simp -implicitDefEqProofs only [c41, push_cast, Nat.reduceBEq, Nat.reduceLT, Nat.reduceLeDiff, Nat.reduceAdd, Nat.reduceSub, Nat.reduceMul, Nat.reduceEqDiff, reduceCtorEq, ↓reduceIte, Int.reduceEq, Int.reduceLT, Int.reduceLE, Int.reduceNe, Int.reduceAdd, Int.reduceSub, Int.reduceMul, Int.reduceToNat, Nat.reduceShiftRight, Nat.reduceAnd, Nat.reduceBNe]
  refine ⟨fun h => by omega, fun _ => ⟨by omega, ?_⟩⟩
  refine loop_k (α := Nat) [4, 3, 0] 0 (fun k => [(4, I ((k : Int) + 1)), (3, I (maxL (l.take (k + 1))))]) (fun _ => []) (fun k => k < l.length) (fun k => l.length - k) 0 rfl ⟨rfl, rfl, rfl⟩ ?_ h0 ?_
  · cases l with
    | nil => simp at h0
    | cons x r => rfl
  intro k hk
  simp -implicitDefEqProofs only [c41L0, push_cast, Nat.reduceBEq, Nat.reduceLT, Nat.reduceLeDiff, Nat.reduceAdd, Nat.reduceSub, Nat.reduceMul, Nat.reduceEqDiff, reduceCtorEq, ↓reduceIte, Int.reduceEq, Int.reduceLT, Int.reduceLE, Int.reduceNe, Int.reduceAdd, Int.reduceSub, Int.reduceMul, Int.reduceToNat, Nat.reduceShiftRight, Nat.reduceAnd, Nat.reduceBNe]
  refine ⟨fun hc => ⟨by omega, by simp only [inR]; omega, k + 1, by omega, by omega, ?_⟩, fun hc => ?_⟩
  · rw [show ((k : Int) + 1).toNat = k + 1 by omega, ← max_take (by omega)]
    exact wk_c rfl ⟨rfl, rfl, rfl⟩ rfl
  · refine finC ?_ rfl
    rw [show k + 1 = l.length by omega, List.take_length]

theorem fold_min : ∀ (l : List Int) (a b : Int), b ≤ l.foldl min a ↔ b ≤ a ∧ ∀ x ∈ l, b ≤ x
  | [], a, b => by simp
  | x :: l, a, b => by
    simp only [List.foldl_cons, fold_min l, List.mem_cons, forall_eq_or_imp]
    rw [show b ≤ min a x ↔ b ≤ a ∧ b ≤ x by omega, and_assoc]
theorem fold_max : ∀ (l : List Int) (a b : Int), l.foldl max a ≤ b ↔ a ≤ b ∧ ∀ x ∈ l, x ≤ b
  | [], a, b => by simp
  | x :: l, a, b => by
    simp only [List.foldl_cons, fold_max l, List.mem_cons, forall_eq_or_imp]
    rw [show max a x ≤ b ↔ a ≤ b ∧ x ≤ b by omega, and_assoc]
theorem minL_ge {l : List Int} (h0 : 0 < l.length) (b : Int) : b ≤ minL l ↔ ∀ x ∈ l, b ≤ x := by
  cases l with
  | nil => simp at h0
  | cons x r => simp only [minL, List.tail_cons, List.headD_cons, fold_min, List.mem_cons, forall_eq_or_imp]
theorem maxL_le {l : List Int} (h0 : 0 < l.length) (b : Int) : maxL l ≤ b ↔ ∀ x ∈ l, x ≤ b := by
  cases l with
  | nil => simp at h0
  | cons x r => simp only [maxL, List.tail_cons, List.headD_cons, fold_max, List.mem_cons, forall_eq_or_imp]

/-! ### Tables -/
def sumL : List Int → Int
  | [] => 0
  | x :: r => x + sumL r
theorem sumL_app : ∀ (a b : List Int), sumL (a ++ b) = sumL a + sumL b
  | [], b => by simp [sumL]
  | x :: a, b => by simp only [List.cons_append, sumL, sumL_app a b]; omega
theorem sumL_take {l : List Int} {k : Nat} (h : k < l.length) : sumL (l.take (k + 1)) = sumL (l.take k) + l.getD k 0 := by
  rw [take_at 0 h, sumL_app]
  simp [sumL]
theorem sumL_rng : ∀ (l : List Int), R20 l → 0 ≤ sumL l ∧ sumL l ≤ 20 * (l.length : Int)
  | [], _ => by simp [sumL]
  | x :: l, h => by
    have := sumL_rng l (fun y hy => h y (List.mem_cons_of_mem _ hy))
    have := h x (List.mem_cons_self ..)
    simp only [sumL, List.length_cons]
    omega
def totL (t : List (List Int)) : Int := sumL (t.map sumL)
def okRow (m : Nat) (r : List Int) : Bool := decide (r.length = m) && r.all fun x => decide (0 ≤ x ∧ x ≤ 20)
def wid (t : List (List Int)) : Nat := (t.getD 0 []).length
def validB (t : List (List Int)) : Bool := decide ((2 ≤ t.length ∧ t.length ≤ 3) ∧ 2 ≤ wid t ∧ wid t ≤ 3) && (t.all (okRow (wid t)) && decide (1 ≤ totL t ∧ totL t ≤ 20))
theorem all_false {α : Type} {p : α → Bool} {l : List α} {k : Nat} (d : α) (hk : k < l.length) (h : p (l.getD k d) = false) : l.all p = false := by
  cases ha : l.all p with
  | false => rfl
  | true => rw [List.all_eq_true] at ha; rw [ha _ (getD_mem hk)] at h; cases h
theorem okRow_iff {m : Nat} {r : List Int} : okRow m r = true ↔ r.length = m ∧ R20 r := by
  simp only [okRow, Bool.and_eq_true, decide_eq_true_eq, List.all_eq_true, R20]
theorem okRow_not {m : Nat} {r : List Int} (h : ¬ (r.length = m ∧ R20 r)) : okRow m r = false := by
  cases hq : okRow m r with
  | false => rfl
  | true => exact absurd (okRow_iff.1 hq) h
theorem totL_take {t : List (List Int)} {k : Nat} (h : k < t.length) : totL (t.take (k + 1)) = totL (t.take k) + sumL (t.getD k []) := by
  unfold totL
  rw [take_at [] h, List.map_append, sumL_app]
  simp [sumL]
theorem totL_rng : ∀ (t : List (List Int)) (m : Nat), (∀ r ∈ t, r.length = m ∧ R20 r) → 0 ≤ totL t ∧ totL t ≤ 20 * (m : Int) * (t.length : Int)
  | [], m, _ => by simp [totL, sumL]
  | r :: t, m, h => by
    have h1 := totL_rng t m (fun y hy => h y (List.mem_cons_of_mem _ hy))
    have h2 := h r (List.mem_cons_self ..)
    have h3 := sumL_rng r h2.2
    rw [h2.1] at h3
    simp only [totL, List.map_cons, sumL, List.length_cons] at *
    rw [Int.natCast_add, Int.mul_add]
    omega
theorem mem_take_succ {α : Type} {t : List α} {k : Nat} {P : α → Prop} (d : α) (hk : k < t.length) (h : ∀ r ∈ t.take k, P r) (hr : P (t.getD k d)) : ∀ r ∈ t.take (k + 1), P r := by
  intro r hm
  rw [take_at d hk, List.mem_append] at hm
  rcases hm with hm | hm
  · exact h r hm
  · rw [List.mem_singleton.1 hm]; exact hr
theorem tot_small {t : List (List Int)} {m : Nat} (hm : m ≤ 3) (ht : t.length ≤ 3) (h : ∀ r ∈ t, r.length = m ∧ R20 r) : 0 ≤ totL t ∧ totL t ≤ 180 := by
  have := totL_rng t m h
  have h1 : m = 0 ∨ m = 1 ∨ m = 2 ∨ m = 3 := by omega
  rcases h1 with rfl | rfl | rfl | rfl <;> omega

theorem valid_wid {t : List (List Int)} (h : ¬ ((2 ≤ t.length ∧ t.length ≤ 3) ∧ 2 ≤ wid t ∧ wid t ≤ 3)) : validB t = false := by simp [validB, h]
theorem valid_row {t : List (List Int)} {k : Nat} (hk : k < t.length) (h : ¬ ((t.getD k []).length = wid t ∧ R20 (t.getD k []))) : validB t = false := by
  unfold validB
  rw [all_false [] hk (okRow_not h)]
  simp
theorem valid_all {t : List (List Int)} (h1 : (2 ≤ t.length ∧ t.length ≤ 3) ∧ 2 ≤ wid t ∧ wid t ≤ 3) (h2 : ∀ r ∈ t, r.length = wid t ∧ R20 r) : validB t = decide (1 ≤ totL t ∧ totL t ≤ 20) := by
  unfold validB
  rw [decide_eq_true h1, List.all_eq_true.2 (fun r hr => okRow_iff.2 (h2 r hr)), Bool.true_and, Bool.true_and]

theorem right_pc (t : List (List Int)) (hl : t.length ≤ 1000) : PC Tryd.prog 16 [TT t] (B (validB t)) := by
  refine pc_fn hmix h16 rfl ?_
  simp -implicitDefEqProofs only [c16, push_cast, Nat.reduceBEq, Nat.reduceLT, Nat.reduceLeDiff, Nat.reduceAdd, Nat.reduceSub, Nat.reduceMul, Nat.reduceEqDiff, reduceCtorEq, ↓reduceIte, Int.reduceEq, Int.reduceLT, Int.reduceLE, Int.reduceNe, Int.reduceAdd, Int.reduceSub, Int.reduceMul, Int.reduceToNat, Nat.reduceShiftRight, Nat.reduceAnd, Nat.reduceBNe]
  have fail : ¬ ((2 ≤ t.length ∧ t.length ≤ 3) ∧ 2 ≤ wid t ∧ wid t ≤ 3) → finK1 0 (AV.dat Ty.bool false) (fun v fr => Fz fr v (B (validB t))) [] := fun h => finC (by rw [valid_wid h]) rfl
  have hw : (t.getD 0 []).length = wid t := rfl
  refine ⟨fun h => fail (by omega), fun h1 => ⟨fun h => fail (by omega), fun h2 => ⟨by omega, fun h => fail (by omega), fun h3 => ⟨by omega, fun h => fail (by omega), fun h4 => ?_⟩⟩⟩⟩
  have hok : (2 ≤ t.length ∧ t.length ≤ 3) ∧ 2 ≤ wid t ∧ wid t ≤ 3 := by omega
  refine loop_k (α := Nat) [4, 3, 0] 0 (fun k => [(4, I k), (3, I (totL (t.take k)))]) (fun _ => []) (fun k => k ≤ t.length ∧ ∀ r ∈ t.take k, r.length = wid t ∧ R20 r) (fun k => t.length - k) 0 rfl ⟨rfl, rfl, rfl⟩ rfl ⟨by omega, by simp⟩ ?_
  rintro k ⟨hk, hall⟩
  simp -implicitDefEqProofs only [c16L1, push_cast, Nat.reduceBEq, Nat.reduceLT, Nat.reduceLeDiff, Nat.reduceAdd, Nat.reduceSub, Nat.reduceMul, Nat.reduceEqDiff, reduceCtorEq, ↓reduceIte, Int.reduceEq, Int.reduceLT, Int.reduceLE, Int.reduceNe, Int.reduceAdd, Int.reduceSub, Int.reduceMul, Int.reduceToNat, Nat.reduceShiftRight, Nat.reduceAnd, Nat.reduceBNe]
  refine ⟨fun hc => ⟨by omega, by omega, fun hne => ?_, fun heq => ?_⟩, fun hc => ?_⟩
  · exact finC (by rw [valid_row (k := k) (by omega) (by omega)]) rfl
  · have hkl : k < t.length := by omega
    have hwk : (t.getD k []).length = wid t := by omega
    generalize hrow : t.getD k [] = row at *
    have hs := tot_small (m := wid t) (t := t.take k) (by omega) (by rw [List.length_take]; omega) hall
    refine loop_k (α := Nat) [5, 4, 3, 0] 0 (fun q => [(5, I q), (3, I (totL (t.take k) + sumL (row.take q)))]) (fun _ => []) (fun q => q ≤ row.length ∧ R20 (row.take q)) (fun q => row.length - q) 0 rfl ⟨rfl, rfl, rfl⟩ ?_ ⟨by omega, by simp [R20]⟩ ?_
    · simp only [List.take_zero, sumL, Int.add_zero]; rfl
    rintro q ⟨hq, hqr⟩
    simp -implicitDefEqProofs only [c16L0, hrow, push_cast, Nat.reduceBEq, Nat.reduceLT, Nat.reduceLeDiff, Nat.reduceAdd, Nat.reduceSub, Nat.reduceMul, Nat.reduceEqDiff, reduceCtorEq, ↓reduceIte, Int.reduceEq, Int.reduceLT, Int.reduceLE, Int.reduceNe, Int.reduceAdd, Int.reduceSub, Int.reduceMul, Int.reduceToNat, Nat.reduceShiftRight, Nat.reduceAnd, Nat.reduceBNe]
    refine ⟨by omega, fun hc2 => ⟨by omega, by omega, fun h5 => ?_, fun h5 => ⟨by omega, by omega, fun h6 => ?_, fun h6 => ⟨by omega, by omega, ?_⟩⟩⟩, fun hc2 => ?_⟩
    · exact finC (by rw [valid_row hkl (by rw [hrow]; intro h; have := h.2 _ (getD_mem (k := q) (d := 0) (by omega)); omega)]) rfl
    · exact finC (by rw [valid_row hkl (by rw [hrow]; intro h; have := h.2 _ (getD_mem (k := q) (d := 0) (by omega)); omega)]) rfl
    · have hq2 : R20 (row.take (q + 1)) := mem_take_succ 0 (by omega) hqr (by omega)
      have h7 := sumL_rng _ hq2
      have h8 : (row.take (q + 1)).length ≤ 3 := by rw [List.length_take]; omega
      have h9 := sumL_take (l := row) (k := q) (by omega)
      refine ⟨by simp only [inR]; omega, by simp only [inR]; omega, q + 1, ⟨by omega, hq2⟩, by omega, ?_⟩
      rw [Int.add_assoc, ← h9]
      exact wk_c rfl ⟨rfl, rfl, rfl⟩ rfl
    · have hqe : q = row.length := by omega
      subst hqe
      rw [List.take_length] at *
      have h7 := totL_take hkl
      rw [hrow] at h7
      refine ⟨by simp only [inR]; omega, k + 1, ⟨by omega, mem_take_succ [] hkl hall (by rw [hrow]; exact ⟨hwk, hqr⟩)⟩, by omega, ?_⟩
      rw [← h7]
      exact wk_c rfl ⟨rfl, rfl, rfl⟩ rfl
  · have hke : k = t.length := by omega
    subst hke
    rw [List.take_length] at *
    have hv := valid_all hok hall
    refine ⟨fun h => finC ?_ rfl, fun h => finC ?_ rfl⟩
    · rw [hv]
      congr 1
      apply Bool.eq_iff_iff.2
      simp only [decide_eq_true_eq]
      omega
    · rw [hv, decide_eq_false (by omega)]

theorem check_pc (t : List (List Int)) (hl : t.length ≤ 1000) (hr : ∀ r ∈ t, r.length ≤ 1000) : PC Tryd.prog 12 [TT t] (I (if validB t then 0 else 300)) := by
  refine pc_fn hmix h12 rfl ?_
  simp -implicitDefEqProofs only [c12, push_cast, Nat.reduceBEq, Nat.reduceLT, Nat.reduceLeDiff, Nat.reduceAdd, Nat.reduceSub, Nat.reduceMul, Nat.reduceEqDiff, reduceCtorEq, ↓reduceIte, Int.reduceEq, Int.reduceLT, Int.reduceLE, Int.reduceNe, Int.reduceAdd, Int.reduceSub, Int.reduceMul, Int.reduceToNat, Nat.reduceShiftRight, Nat.reduceAnd, Nat.reduceBNe]
  have failv : validB t = false → finK1 0 (I 300) (fun v fr => Fz fr v (I (if validB t then 0 else 300))) [] := fun h => finC (by rw [h]; rfl) rfl
  have fail : ¬ ((2 ≤ t.length ∧ t.length ≤ 3) ∧ 2 ≤ wid t ∧ wid t ≤ 3) → finK1 0 (I 300) (fun v fr => Fz fr v (I (if validB t then 0 else 300))) [] := fun h => failv (valid_wid h)
  have hw : (t.getD 0 []).length = wid t := rfl
  refine ⟨fun h => fail (by omega), fun h1 => ⟨fun h => fail (by omega), fun h2 => ⟨by omega, fun h => fail (by omega), fun h3 => ⟨by omega, fun h => fail (by omega), fun h4 => ?_⟩⟩⟩⟩
  have hok : (2 ≤ t.length ∧ t.length ≤ 3) ∧ 2 ≤ wid t ∧ wid t ≤ 3 := by omega
  refine loop_k (α := Nat) [32, 31, 30, 3, 0] 0 (fun k => [(32, I k), (3, I (totL (t.take k)))]) (fun _ => []) (fun k => k ≤ t.length ∧ ∀ r ∈ t.take k, r.length = wid t ∧ R20 r) (fun k => t.length - k) 0 rfl ⟨rfl, rfl, rfl⟩ rfl ⟨by omega, by simp⟩ ?_
  rintro k ⟨hk, hall⟩
  simp -implicitDefEqProofs only [c12L1, push_cast, Nat.reduceBEq, Nat.reduceLT, Nat.reduceLeDiff, Nat.reduceAdd, Nat.reduceSub, Nat.reduceMul, Nat.reduceEqDiff, reduceCtorEq, ↓reduceIte, Int.reduceEq, Int.reduceLT, Int.reduceLE, Int.reduceNe, Int.reduceAdd, Int.reduceSub, Int.reduceMul, Int.reduceToNat, Nat.reduceShiftRight, Nat.reduceAnd, Nat.reduceBNe]
  refine ⟨fun hc => ⟨by omega, by omega, fun hne => ?_, fun heq => ?_⟩, fun hc => ?_⟩
  · exact failv (valid_row (k := k) (by omega) (by omega))
  · have hkl : k < t.length := by omega
    have hwk : (t.getD k []).length = wid t := by omega
    have hr1 := hr _ (getD_mem (d := []) hkl)
    generalize hrow : t.getD k [] = row at *
    have hs := tot_small (m := wid t) (t := t.take k) (by omega) (by rw [List.length_take]; omega) hall
    refine callF (min_pc row (by omega) (by omega)) ⟨rfl, trivial⟩ rfl rfl ?_
    simp -implicitDefEqProofs only [push_cast, Nat.reduceBEq, Nat.reduceLT, Nat.reduceLeDiff, Nat.reduceAdd, Nat.reduceSub, Nat.reduceMul, Nat.reduceEqDiff, reduceCtorEq, ↓reduceIte, Int.reduceEq, Int.reduceLT, Int.reduceLE, Int.reduceNe, Int.reduceAdd, Int.reduceSub, Int.reduceMul, Int.reduceToNat, Nat.reduceShiftRight, Nat.reduceAnd, Nat.reduceBNe]
    refine ⟨fun hmn => ?_, fun hmn => ?_⟩
    · refine failv (valid_row hkl ?_)
      rw [hrow]
      intro h
      have := (minL_ge (l := row) (by omega) 0).2 (fun x hx => (h.2 x hx).1)
      omega
    have hmin := (minL_ge (l := row) (by omega) 0).1 (by omega)
    refine callF (max_pc row (by omega) (by omega)) ⟨rfl, trivial⟩ rfl rfl ?_
    simp -implicitDefEqProofs only [push_cast, Nat.reduceBEq, Nat.reduceLT, Nat.reduceLeDiff, Nat.reduceAdd, Nat.reduceSub, Nat.reduceMul, Nat.reduceEqDiff, reduceCtorEq, ↓reduceIte, Int.reduceEq, Int.reduceLT, Int.reduceLE, Int.reduceNe, Int.reduceAdd, Int.reduceSub, Int.reduceMul, Int.reduceToNat, Nat.reduceShiftRight, Nat.reduceAnd, Nat.reduceBNe]
    refine ⟨fun hmx => ?_, fun hmx => ?_⟩
    · refine failv (valid_row hkl ?_)
      rw [hrow]
      intro h
      have := (maxL_le (l := row) (by omega) 20).2 (fun x hx => (h.2 x hx).2)
      omega
    have hmax := (maxL_le (l := row) (by omega) 20).1 (by omega)
    have hrr : R20 row := fun x hx => ⟨hmin x hx, hmax x hx⟩
    refine loop_k (α := Nat) [55, 54, 53, 32, 31, 30, 3, 0] 0 (fun q => [(55, I q), (3, I (totL (t.take k) + sumL (row.take q)))]) (fun _ => []) (fun q => q ≤ row.length) (fun q => row.length - q) 0 rfl ⟨rfl, rfl, rfl⟩ ?_ (by omega) ?_
    · simp only [List.take_zero, sumL, Int.add_zero]; rfl
    rintro q hq
    simp -implicitDefEqProofs only [c12L0, push_cast, Nat.reduceBEq, Nat.reduceLT, Nat.reduceLeDiff, Nat.reduceAdd, Nat.reduceSub, Nat.reduceMul, Nat.reduceEqDiff, reduceCtorEq, ↓reduceIte, Int.reduceEq, Int.reduceLT, Int.reduceLE, Int.reduceNe, Int.reduceAdd, Int.reduceSub, Int.reduceMul, Int.reduceToNat, Nat.reduceShiftRight, Nat.reduceAnd, Nat.reduceBNe]
    refine ⟨fun hc2 => ⟨by omega, ?_⟩, fun hc2 => ?_⟩
    · have h7 := sumL_rng _ (fun x hx => hrr x (List.mem_of_mem_take (i := q + 1) hx))
      have h8 : (row.take (q + 1)).length ≤ 3 := by rw [List.length_take]; omega
      have h9 := sumL_take (l := row) (k := q) (by omega)
      refine ⟨by simp only [inR]; omega, by simp only [inR]; omega, q + 1, by omega, by omega, ?_⟩
      rw [Int.add_assoc, ← h9]
      exact wk_c rfl ⟨rfl, rfl, rfl⟩ rfl
    · have hqe : q = row.length := by omega
      subst hqe
      rw [List.take_length] at *
      have h7 := totL_take hkl
      rw [hrow] at h7
      refine ⟨by simp only [inR]; omega, k + 1, ⟨by omega, mem_take_succ [] hkl hall (by rw [hrow]; exact ⟨hwk, hrr⟩)⟩, by omega, ?_⟩
      rw [← h7]
      exact wk_c rfl ⟨rfl, rfl, rfl⟩ rfl
  · have hke : k = t.length := by omega
    subst hke
    rw [List.take_length] at *
    have hv := valid_all hok hall
    refine ⟨fun h => failv (by rw [hv]; exact decide_eq_false (by omega)), fun h => ⟨fun h' => failv (by rw [hv]; exact decide_eq_false (by omega)), fun h' => finC ?_ rfl⟩⟩
    rw [hv, decide_eq_true (by omega)]
    rfl
end Go.Proofs.YtligakiolapkkaaDoor

namespace Go.Proofs.YtligakiolapkkaaDoor
open Go GoV
set_option maxHeartbeats 8000000
set_option maxRecDepth 10000

theorem refrows_22 (a b c d : Int) (hh : (0 ≤ a ∧ a ≤ 20) ∧ (0 ≤ b ∧ b ≤ 20) ∧ (0 ≤ c ∧ c ≤ 20) ∧ (0 ≤ d ∧ d ≤ 20)) : PC Tryd.prog 18 [TT [[a, b], [c, d]]] (IL [a + b, c + d]) := by
  refine pc_fn hmix h18 rfl ?_
  simp -implicitDefEqProofs only [c18, push_cast, Nat.reduceBEq, Nat.reduceLT, Nat.reduceLeDiff, Nat.reduceAdd, Nat.reduceSub, Nat.reduceMul, Nat.reduceEqDiff, reduceCtorEq, ↓reduceIte, Int.reduceEq, Int.reduceLT, Int.reduceLE, Int.reduceNe, Int.reduceAdd, Int.reduceSub, Int.reduceMul, Int.reduceToNat, Nat.reduceShiftRight, Nat.reduceAnd, Nat.reduceBNe]
  repeat first
    | (refine LoopW.unroll ?_; simp -implicitDefEqProofs only [c18L0, c18L1, List.getD_cons_zero, List.getD_cons_succ, Int.zero_add, push_cast, Nat.reduceBEq, Nat.reduceLT, Nat.reduceLeDiff, Nat.reduceAdd, Nat.reduceSub, Nat.reduceMul, Nat.reduceEqDiff, reduceCtorEq, ↓reduceIte, Int.reduceEq, Int.reduceLT, Int.reduceLE, Int.reduceNe, Int.reduceAdd, Int.reduceSub, Int.reduceMul, Int.reduceToNat, Nat.reduceShiftRight, Nat.reduceAnd, Nat.reduceBNe])
    | (refine ⟨by first | (simp only [inR]; omega) | (simp only [two47]; omega) | omega, ?_⟩)
  exact finR 3 rfl (fz_seq rfl rfl)

theorem refturned_22 (a b c d : Int) : PC Tryd.prog 33 [TT [[a, b], [c, d]]] (TT [[a, c], [b, d]]) := by
  refine pc_fn hmix h33 rfl ?_
  simp -implicitDefEqProofs only [c33, push_cast, Nat.reduceBEq, Nat.reduceLT, Nat.reduceLeDiff, Nat.reduceAdd, Nat.reduceSub, Nat.reduceMul, Nat.reduceEqDiff, reduceCtorEq, ↓reduceIte, Int.reduceEq, Int.reduceLT, Int.reduceLE, Int.reduceNe, Int.reduceAdd, Int.reduceSub, Int.reduceMul, Int.reduceToNat, Nat.reduceShiftRight, Nat.reduceAnd, Nat.reduceBNe]
  repeat first
    | (refine LoopW.unroll ?_; simp -implicitDefEqProofs only [c33L0, c33L1, List.getD_cons_zero, List.getD_cons_succ, Int.zero_add, push_cast, Nat.reduceBEq, Nat.reduceLT, Nat.reduceLeDiff, Nat.reduceAdd, Nat.reduceSub, Nat.reduceMul, Nat.reduceEqDiff, reduceCtorEq, ↓reduceIte, Int.reduceEq, Int.reduceLT, Int.reduceLE, Int.reduceNe, Int.reduceAdd, Int.reduceSub, Int.reduceMul, Int.reduceToNat, Nat.reduceShiftRight, Nat.reduceAnd, Nat.reduceBNe])
    | (refine ⟨by first | (simp only [inR]; omega) | (simp only [two47]; omega) | omega, ?_⟩)
  exact finR 10 rfl ⟨rfl, ⟨⟨rfl, Nat.le_refl _⟩, rfl⟩, ⟨⟨rfl, Nat.le_refl _⟩, rfl⟩, trivial⟩

theorem refrows_23 (a b c d e f : Int) (hh : (0 ≤ a ∧ a ≤ 20) ∧ (0 ≤ b ∧ b ≤ 20) ∧ (0 ≤ c ∧ c ≤ 20) ∧ (0 ≤ d ∧ d ≤ 20) ∧ (0 ≤ e ∧ e ≤ 20) ∧ (0 ≤ f ∧ f ≤ 20)) : PC Tryd.prog 18 [TT [[a, b, c], [d, e, f]]] (IL [a + b + c, d + e + f]) := by
  refine pc_fn hmix h18 rfl ?_
  simp -implicitDefEqProofs only [c18, push_cast, Nat.reduceBEq, Nat.reduceLT, Nat.reduceLeDiff, Nat.reduceAdd, Nat.reduceSub, Nat.reduceMul, Nat.reduceEqDiff, reduceCtorEq, ↓reduceIte, Int.reduceEq, Int.reduceLT, Int.reduceLE, Int.reduceNe, Int.reduceAdd, Int.reduceSub, Int.reduceMul, Int.reduceToNat, Nat.reduceShiftRight, Nat.reduceAnd, Nat.reduceBNe]
  repeat first
    | (refine LoopW.unroll ?_; simp -implicitDefEqProofs only [c18L0, c18L1, List.getD_cons_zero, List.getD_cons_succ, Int.zero_add, push_cast, Nat.reduceBEq, Nat.reduceLT, Nat.reduceLeDiff, Nat.reduceAdd, Nat.reduceSub, Nat.reduceMul, Nat.reduceEqDiff, reduceCtorEq, ↓reduceIte, Int.reduceEq, Int.reduceLT, Int.reduceLE, Int.reduceNe, Int.reduceAdd, Int.reduceSub, Int.reduceMul, Int.reduceToNat, Nat.reduceShiftRight, Nat.reduceAnd, Nat.reduceBNe])
    | (refine ⟨by first | (simp only [inR]; omega) | (simp only [two47]; omega) | omega, ?_⟩)
  exact finR 3 rfl (fz_seq rfl rfl)

theorem refturned_23 (a b c d e f : Int) : PC Tryd.prog 33 [TT [[a, b, c], [d, e, f]]] (TT [[a, d], [b, e], [c, f]]) := by
  refine pc_fn hmix h33 rfl ?_
  simp -implicitDefEqProofs only [c33, push_cast, Nat.reduceBEq, Nat.reduceLT, Nat.reduceLeDiff, Nat.reduceAdd, Nat.reduceSub, Nat.reduceMul, Nat.reduceEqDiff, reduceCtorEq, ↓reduceIte, Int.reduceEq, Int.reduceLT, Int.reduceLE, Int.reduceNe, Int.reduceAdd, Int.reduceSub, Int.reduceMul, Int.reduceToNat, Nat.reduceShiftRight, Nat.reduceAnd, Nat.reduceBNe]
  repeat first
    | (refine LoopW.unroll ?_; simp -implicitDefEqProofs only [c33L0, c33L1, List.getD_cons_zero, List.getD_cons_succ, Int.zero_add, push_cast, Nat.reduceBEq, Nat.reduceLT, Nat.reduceLeDiff, Nat.reduceAdd, Nat.reduceSub, Nat.reduceMul, Nat.reduceEqDiff, reduceCtorEq, ↓reduceIte, Int.reduceEq, Int.reduceLT, Int.reduceLE, Int.reduceNe, Int.reduceAdd, Int.reduceSub, Int.reduceMul, Int.reduceToNat, Nat.reduceShiftRight, Nat.reduceAnd, Nat.reduceBNe])
    | (refine ⟨by first | (simp only [inR]; omega) | (simp only [two47]; omega) | omega, ?_⟩)
  exact finR 15 rfl ⟨rfl, ⟨⟨rfl, Nat.le_refl _⟩, rfl⟩, ⟨⟨rfl, Nat.le_refl _⟩, rfl⟩, ⟨⟨rfl, Nat.le_refl _⟩, rfl⟩, trivial⟩

theorem refrows_32 (a b c d e f : Int) (hh : (0 ≤ a ∧ a ≤ 20) ∧ (0 ≤ b ∧ b ≤ 20) ∧ (0 ≤ c ∧ c ≤ 20) ∧ (0 ≤ d ∧ d ≤ 20) ∧ (0 ≤ e ∧ e ≤ 20) ∧ (0 ≤ f ∧ f ≤ 20)) : PC Tryd.prog 18 [TT [[a, b], [c, d], [e, f]]] (IL [a + b, c + d, e + f]) := by
  refine pc_fn hmix h18 rfl ?_
  simp -implicitDefEqProofs only [c18, push_cast, Nat.reduceBEq, Nat.reduceLT, Nat.reduceLeDiff, Nat.reduceAdd, Nat.reduceSub, Nat.reduceMul, Nat.reduceEqDiff, reduceCtorEq, ↓reduceIte, Int.reduceEq, Int.reduceLT, Int.reduceLE, Int.reduceNe, Int.reduceAdd, Int.reduceSub, Int.reduceMul, Int.reduceToNat, Nat.reduceShiftRight, Nat.reduceAnd, Nat.reduceBNe]
  repeat first
    | (refine LoopW.unroll ?_; simp -implicitDefEqProofs only [c18L0, c18L1, List.getD_cons_zero, List.getD_cons_succ, Int.zero_add, push_cast, Nat.reduceBEq, Nat.reduceLT, Nat.reduceLeDiff, Nat.reduceAdd, Nat.reduceSub, Nat.reduceMul, Nat.reduceEqDiff, reduceCtorEq, ↓reduceIte, Int.reduceEq, Int.reduceLT, Int.reduceLE, Int.reduceNe, Int.reduceAdd, Int.reduceSub, Int.reduceMul, Int.reduceToNat, Nat.reduceShiftRight, Nat.reduceAnd, Nat.reduceBNe])
    | (refine ⟨by first | (simp only [inR]; omega) | (simp only [two47]; omega) | omega, ?_⟩)
  exact finR 4 rfl (fz_seq rfl rfl)

theorem refturned_32 (a b c d e f : Int) : PC Tryd.prog 33 [TT [[a, b], [c, d], [e, f]]] (TT [[a, c, e], [b, d, f]]) := by
  refine pc_fn hmix h33 rfl ?_
  simp -implicitDefEqProofs only [c33, push_cast, Nat.reduceBEq, Nat.reduceLT, Nat.reduceLeDiff, Nat.reduceAdd, Nat.reduceSub, Nat.reduceMul, Nat.reduceEqDiff, reduceCtorEq, ↓reduceIte, Int.reduceEq, Int.reduceLT, Int.reduceLE, Int.reduceNe, Int.reduceAdd, Int.reduceSub, Int.reduceMul, Int.reduceToNat, Nat.reduceShiftRight, Nat.reduceAnd, Nat.reduceBNe]
  repeat first
    | (refine LoopW.unroll ?_; simp -implicitDefEqProofs only [c33L0, c33L1, List.getD_cons_zero, List.getD_cons_succ, Int.zero_add, push_cast, Nat.reduceBEq, Nat.reduceLT, Nat.reduceLeDiff, Nat.reduceAdd, Nat.reduceSub, Nat.reduceMul, Nat.reduceEqDiff, reduceCtorEq, ↓reduceIte, Int.reduceEq, Int.reduceLT, Int.reduceLE, Int.reduceNe, Int.reduceAdd, Int.reduceSub, Int.reduceMul, Int.reduceToNat, Nat.reduceShiftRight, Nat.reduceAnd, Nat.reduceBNe])
    | (refine ⟨by first | (simp only [inR]; omega) | (simp only [two47]; omega) | omega, ?_⟩)
  exact finR 12 rfl ⟨rfl, ⟨⟨rfl, Nat.le_refl _⟩, rfl⟩, ⟨⟨rfl, Nat.le_refl _⟩, rfl⟩, trivial⟩

theorem refrows_33 (a b c d e f g h i : Int) (hh : (0 ≤ a ∧ a ≤ 20) ∧ (0 ≤ b ∧ b ≤ 20) ∧ (0 ≤ c ∧ c ≤ 20) ∧ (0 ≤ d ∧ d ≤ 20) ∧ (0 ≤ e ∧ e ≤ 20) ∧ (0 ≤ f ∧ f ≤ 20) ∧ (0 ≤ g ∧ g ≤ 20) ∧ (0 ≤ h ∧ h ≤ 20) ∧ (0 ≤ i ∧ i ≤ 20)) : PC Tryd.prog 18 [TT [[a, b, c], [d, e, f], [g, h, i]]] (IL [a + b + c, d + e + f, g + h + i]) := by
  refine pc_fn hmix h18 rfl ?_
  simp -implicitDefEqProofs only [c18, push_cast, Nat.reduceBEq, Nat.reduceLT, Nat.reduceLeDiff, Nat.reduceAdd, Nat.reduceSub, Nat.reduceMul, Nat.reduceEqDiff, reduceCtorEq, ↓reduceIte, Int.reduceEq, Int.reduceLT, Int.reduceLE, Int.reduceNe, Int.reduceAdd, Int.reduceSub, Int.reduceMul, Int.reduceToNat, Nat.reduceShiftRight, Nat.reduceAnd, Nat.reduceBNe]
  repeat first
    | (refine LoopW.unroll ?_; simp -implicitDefEqProofs only [c18L0, c18L1, List.getD_cons_zero, List.getD_cons_succ, Int.zero_add, push_cast, Nat.reduceBEq, Nat.reduceLT, Nat.reduceLeDiff, Nat.reduceAdd, Nat.reduceSub, Nat.reduceMul, Nat.reduceEqDiff, reduceCtorEq, ↓reduceIte, Int.reduceEq, Int.reduceLT, Int.reduceLE, Int.reduceNe, Int.reduceAdd, Int.reduceSub, Int.reduceMul, Int.reduceToNat, Nat.reduceShiftRight, Nat.reduceAnd, Nat.reduceBNe])
    | (refine ⟨by first | (simp only [inR]; omega) | (simp only [two47]; omega) | omega, ?_⟩)
  exact finR 4 rfl (fz_seq rfl rfl)

theorem refturned_33 (a b c d e f g h i : Int) : PC Tryd.prog 33 [TT [[a, b, c], [d, e, f], [g, h, i]]] (TT [[a, d, g], [b, e, h], [c, f, i]]) := by
  refine pc_fn hmix h33 rfl ?_
  simp -implicitDefEqProofs only [c33, push_cast, Nat.reduceBEq, Nat.reduceLT, Nat.reduceLeDiff, Nat.reduceAdd, Nat.reduceSub, Nat.reduceMul, Nat.reduceEqDiff, reduceCtorEq, ↓reduceIte, Int.reduceEq, Int.reduceLT, Int.reduceLE, Int.reduceNe, Int.reduceAdd, Int.reduceSub, Int.reduceMul, Int.reduceToNat, Nat.reduceShiftRight, Nat.reduceAnd, Nat.reduceBNe]
  repeat first
    | (refine LoopW.unroll ?_; simp -implicitDefEqProofs only [c33L0, c33L1, List.getD_cons_zero, List.getD_cons_succ, Int.zero_add, push_cast, Nat.reduceBEq, Nat.reduceLT, Nat.reduceLeDiff, Nat.reduceAdd, Nat.reduceSub, Nat.reduceMul, Nat.reduceEqDiff, reduceCtorEq, ↓reduceIte, Int.reduceEq, Int.reduceLT, Int.reduceLE, Int.reduceNe, Int.reduceAdd, Int.reduceSub, Int.reduceMul, Int.reduceToNat, Nat.reduceShiftRight, Nat.reduceAnd, Nat.reduceBNe])
    | (refine ⟨by first | (simp only [inR]; omega) | (simp only [two47]; omega) | omega, ?_⟩)
  exact finR 18 rfl ⟨rfl, ⟨⟨rfl, Nat.le_refl _⟩, rfl⟩, ⟨⟨rfl, Nat.le_refl _⟩, rfl⟩, ⟨⟨rfl, Nat.le_refl _⟩, rfl⟩, trivial⟩

end Go.Proofs.YtligakiolapkkaaDoor

namespace Go.Proofs.YtligakiolapkkaaDoor
open Go GoV
set_option maxHeartbeats 4000000

/-- a table: rows of one length, counts from 0 to 20 -/
structure Tab (t : List (List Int)) : Prop where
  len : 2 ≤ t.length ∧ t.length ≤ 3
  wid : 2 ≤ wid t ∧ wid t ≤ 3
  row : ∀ r ∈ t, r.length = Go.Proofs.YtligakiolapkkaaDoor.wid t ∧ R20 r
  tot : 1 ≤ totL t ∧ totL t ≤ 20
theorem tab_of {t : List (List Int)} (h : validB t = true) : Tab t := by
  have h0 := h
  unfold validB at h
  simp only [Bool.and_eq_true, decide_eq_true_eq, List.all_eq_true] at h
  exact ⟨h.1.1, h.1.2, fun r hr => okRow_iff.1 (h.2.1 r hr), h.2.2⟩
theorem tab_valid {t : List (List Int)} (h : Tab t) : validB t = true := by
  rw [valid_all ⟨h.len, h.wid⟩ h.row]
  exact decide_eq_true h.tot

theorem list2 {α : Type} {l : List α} (h : l.length = 2) : ∃ a b, l = [a, b] := by
  match l, h with
  | [a, b], _ => exact ⟨a, b, rfl⟩
theorem list3 {α : Type} {l : List α} (h : l.length = 3) : ∃ a b c, l = [a, b, c] := by
  match l, h with
  | [a, b, c], _ => exact ⟨a, b, c, rfl⟩

theorem rng2 {a b : Int} (h : R20 [a, b]) : (0 ≤ a ∧ a ≤ 20) ∧ (0 ≤ b ∧ b ≤ 20) := ⟨h a (by simp), h b (by simp)⟩
theorem rng3 {a b c : Int} (h : R20 [a, b, c]) : (0 ≤ a ∧ a ≤ 20) ∧ (0 ≤ b ∧ b ≤ 20) ∧ (0 ≤ c ∧ c ≤ 20) := ⟨h a (by simp), h b (by simp), h c (by simp)⟩

abbrev rg (x : Int) : Prop := 0 ≤ x ∧ x ≤ 20
/-- what is to be shown of tables is to be shown of the four shapes -/
theorem shapes {P : List (List Int) → Prop} {t : List (List Int)} (h : Tab t)
    (h22 : ∀ a b c d, Tab [[a, b], [c, d]] → rg a ∧ rg b ∧ rg c ∧ rg d → P [[a, b], [c, d]]) (h23 : ∀ a b c d e f, Tab [[a, b, c], [d, e, f]] → rg a ∧ rg b ∧ rg c ∧ rg d ∧ rg e ∧ rg f → P [[a, b, c], [d, e, f]])
    (h32 : ∀ a b c d e f, Tab [[a, b], [c, d], [e, f]] → rg a ∧ rg b ∧ rg c ∧ rg d ∧ rg e ∧ rg f → P [[a, b], [c, d], [e, f]]) (h33 : ∀ a b c d e f g i j, Tab [[a, b, c], [d, e, f], [g, i, j]] → rg a ∧ rg b ∧ rg c ∧ rg d ∧ rg e ∧ rg f ∧ rg g ∧ rg i ∧ rg j → P [[a, b, c], [d, e, f], [g, i, j]]) : P t := by
  have hl := h.len
  have hw := h.wid
  have hr := h.row
  have : t.length = 2 ∨ t.length = 3 := by omega
  rcases this with h2 | h3
  · obtain ⟨r, s, rfl⟩ := list2 h2
    have hr1 := (hr r (by simp)).1
    have hs1 := (hr s (by simp)).1
    have ew : Go.Proofs.YtligakiolapkkaaDoor.wid [r, s] = r.length := rfl
    have : r.length = 2 ∨ r.length = 3 := by omega
    rcases this with hr2 | hr3
    · obtain ⟨a, b, rfl⟩ := list2 hr2
      obtain ⟨c, d, rfl⟩ := list2 (l := s) (by omega)
      exact h22 a b c d h (by have h1 := rng2 (hr [a, b] (by simp)).2; have h2 := rng2 (hr [c, d] (by simp)).2; simp only [rg]; omega)
    · obtain ⟨a, b, c, rfl⟩ := list3 hr3
      obtain ⟨d, e, f, rfl⟩ := list3 (l := s) (by omega)
      exact h23 a b c d e f h (by have h1 := rng3 (hr [a, b, c] (by simp)).2; have h2 := rng3 (hr [d, e, f] (by simp)).2; simp only [rg]; omega)
  · obtain ⟨r, s, u, rfl⟩ := list3 h3
    have hr1 := (hr r (by simp)).1
    have hs1 := (hr s (by simp)).1
    have hu1 := (hr u (by simp)).1
    have ew : Go.Proofs.YtligakiolapkkaaDoor.wid [r, s, u] = r.length := rfl
    have : r.length = 2 ∨ r.length = 3 := by omega
    rcases this with hr2 | hr3
    · obtain ⟨a, b, rfl⟩ := list2 hr2
      obtain ⟨c, d, rfl⟩ := list2 (l := s) (by omega)
      obtain ⟨e, f, rfl⟩ := list2 (l := u) (by omega)
      exact h32 a b c d e f h (by have h1 := rng2 (hr [a, b] (by simp)).2; have h2 := rng2 (hr [c, d] (by simp)).2; have h3 := rng2 (hr [e, f] (by simp)).2; simp only [rg]; omega)
    · obtain ⟨a, b, c, rfl⟩ := list3 hr3
      obtain ⟨d, e, f, rfl⟩ := list3 (l := s) (by omega)
      obtain ⟨g, i, j, rfl⟩ := list3 (l := u) (by omega)
      exact h33 a b c d e f g i j h (by have h1 := rng3 (hr [a, b, c] (by simp)).2; have h2 := rng3 (hr [d, e, f] (by simp)).2; have h3 := rng3 (hr [g, i, j] (by simp)).2; simp only [rg]; omega)

abbrev AG (l : List Int) : AV := .agg (l.map I)
def rowsL (t : List (List Int)) : List Int := t.map sumL
def trL (t : List (List Int)) : List (List Int) := (List.range (wid t)).map fun j => t.map (·.getD j 0)
def colsL (t : List (List Int)) : List Int := rowsL (trL t)
def pad (l : List Int) : List Int := l ++ List.replicate (3 - l.length) 0

theorem sums_pc {t : List (List Int)} (h : Tab t) : PC Tryd.prog 42 [TT t] (.tup [AG (pad (rowsL t)), AG (pad (colsL t))]) := by
  refine shapes (P := fun t => PC Tryd.prog 42 [TT t] (.tup [AG (pad (rowsL t)), AG (pad (colsL t))])) h ?_ ?_ ?_ ?_
  · intro a b c d h hh
    have := sums_22 a b c d hh
    simpa [pad, rowsL, colsL, trL, wid, sumL, AG, List.range_succ] using this
  · intro a b c d e f h hh
    have := sums_23 a b c d e f hh
    simpa [pad, rowsL, colsL, trL, wid, sumL, AG, List.range_succ, Int.add_assoc] using this
  · intro a b c d e f h hh
    have := sums_32 a b c d e f hh
    simpa [pad, rowsL, colsL, trL, wid, sumL, AG, List.range_succ, Int.add_assoc] using this
  · intro a b c d e f g i j h hh
    have := sums_33 a b c d e f g i j hh
    simpa [pad, rowsL, colsL, trL, wid, sumL, AG, List.range_succ, Int.add_assoc] using this

theorem refrows_pc {t : List (List Int)} (h : Tab t) : PC Tryd.prog 18 [TT t] (IL (rowsL t)) := by
  refine shapes (P := fun t => PC Tryd.prog 18 [TT t] (IL (rowsL t))) h ?_ ?_ ?_ ?_
  · intro a b c d h hh
    have := refrows_22 a b c d hh
    simpa [rowsL, sumL] using this
  · intro a b c d e f h hh
    have := refrows_23 a b c d e f hh
    simpa [rowsL, sumL, Int.add_assoc] using this
  · intro a b c d e f h hh
    have := refrows_32 a b c d e f hh
    simpa [rowsL, sumL, Int.add_assoc] using this
  · intro a b c d e f g i j h hh
    have := refrows_33 a b c d e f g i j hh
    simpa [rowsL, sumL, Int.add_assoc] using this

theorem refturned_pc {t : List (List Int)} (h : Tab t) : PC Tryd.prog 33 [TT t] (TT (trL t)) := by
  refine shapes (P := fun t => PC Tryd.prog 33 [TT t] (TT (trL t))) h ?_ ?_ ?_ ?_
  · intro a b c d h hh
    simpa [trL, wid, List.range_succ] using refturned_22 a b c d
  · intro a b c d e f h hh
    simpa [trL, wid, List.range_succ] using refturned_23 a b c d e f
  · intro a b c d e f h hh
    simpa [trL, wid, List.range_succ] using refturned_32 a b c d e f
  · intro a b c d e f g i j h hh
    simpa [trL, wid, List.range_succ] using refturned_33 a b c d e f g i j
end Go.Proofs.YtligakiolapkkaaDoor

namespace Go.Proofs.YtligakiolapkkaaDoor
open Go GoV
set_option maxHeartbeats 4000000

def facts : List Int := [Int.ofNat 1, Int.ofNat 1, Int.ofNat 2, Int.ofNat 6, Int.ofNat 24, Int.ofNat 120, Int.ofNat 720, Int.ofNat 5040, Int.ofNat 40320, Int.ofNat 362880, Int.ofNat 3628800, Int.ofNat 39916800, Int.ofNat 479001600, Int.ofNat 6227020800, Int.ofNat 87178291200, Int.ofNat 1307674368000, Int.ofNat 20922789888000, Int.ofNat 355687428096000, Int.ofNat 6402373705728000, Int.ofNat 121645100408832000, Int.ofNat 2432902008176640000]
theorem facts_get : ∀ n : Fin 21, facts.getD n.1 0 = ((fct n.1 : Nat) : Int) := by decide
theorem facts_at {n : Nat} (h : n ≤ 20) : facts.getD n 0 = ((fct n : Nat) : Int) := facts_get ⟨n, by omega⟩

theorem over_pc (n : Int) (l : List Int) (hn : rg n) (hl : R20 l) (hll : l.length ≤ 1000) : PC Tryd.prog 44 [I n, IL l] (I (overN n.toNat l)) := by
  obtain ⟨m, rfl⟩ := Int.eq_ofNat_of_zero_le hn.1
  have hn := hn.2
  have hf := facts_at (n := m) (by omega)
  unfold facts at hf
  refine pc_fn hmix h44 rfl ?_
  simp -implicitDefEqProofs only [c44, hf, push_cast, Nat.reduceBEq, Nat.reduceLT, Nat.reduceLeDiff, Nat.reduceAdd, Nat.reduceSub, Nat.reduceMul, Nat.reduceEqDiff, reduceCtorEq, ↓reduceIte, Int.reduceEq, Int.reduceLT, Int.reduceLE, Int.reduceNe, Int.reduceAdd, Int.reduceSub, Int.reduceMul, Int.reduceToNat, Nat.reduceShiftRight, Nat.reduceAnd, Nat.reduceBNe]
  refine ⟨by omega, ?_⟩
  refine loop_k (α := Nat) [13, 12, 11, 5] 0 (fun k => [(13, I k), (5, I (overN m (l.take k)))]) (fun _ => []) (fun k => k ≤ l.length) (fun k => l.length - k) 0 rfl ⟨rfl, rfl, rfl⟩ rfl (by omega) ?_
  intro k hk
  simp -implicitDefEqProofs only [c44L0, push_cast, Nat.reduceBEq, Nat.reduceLT, Nat.reduceLeDiff, Nat.reduceAdd, Nat.reduceSub, Nat.reduceMul, Nat.reduceEqDiff, reduceCtorEq, ↓reduceIte, Int.reduceEq, Int.reduceLT, Int.reduceLE, Int.reduceNe, Int.reduceAdd, Int.reduceSub, Int.reduceMul, Int.reduceToNat, Nat.reduceShiftRight, Nat.reduceAnd, Nat.reduceBNe]
  refine ⟨fun hc => ⟨by omega, ?_⟩, fun hc => ?_⟩
  · have hkl : k < l.length := by omega
    have hx := hl _ (getD_mem (d := 0) hkl)
    have e := over_step (n := m) hl hkl
    have hpos := fct_pos (l.getD k 0).toNat
    have hb := Nat.le_trans (overN_le m (l.take k)) (fct_le20 (by omega))
    generalize l.getD k 0 = x at *
    obtain ⟨y, rfl⟩ := Int.eq_ofNat_of_zero_le hx.1
    have hg := facts_at (n := y) (by omega)
    unfold facts at hg
    simp only [Int.toNat_natCast] at e hpos ⊢
    rw [hg]
    refine ⟨by omega, tdiv_rng hb hpos, by simp only [inR]; omega, k + 1, by omega, by omega, ?_⟩
    rw [e]
    exact wk_c rfl ⟨rfl, rfl, rfl⟩ rfl
  · have : k = l.length := by omega
    subst this
    rw [List.take_length]
    exact finC rfl rfl

def waysN : List (List Int) → Nat
  | [] => 1
  | r :: t => overN (sumL r).toNat r * waysN t
def totalN (t : List (List Int)) : Nat := overN (totL t).toNat (colsL t)

theorem tab_rows {t : List (List Int)} (h : Tab t) : R20 (rowsL t) ∧ R20 (colsL t) ∧ sumL (rowsL t) = totL t ∧ sumL (colsL t) = totL t ∧ (rowsL t).length = t.length ∧ (colsL t).length = wid t := by
  refine shapes (P := fun t => R20 (rowsL t) ∧ R20 (colsL t) ∧ sumL (rowsL t) = totL t ∧ sumL (colsL t) = totL t ∧ (rowsL t).length = t.length ∧ (colsL t).length = wid t) h ?_ ?_ ?_ ?_
  all_goals
    intros
    rename_i h hh
    have ht := h.tot
    simp only [rg] at hh
    simp only [totL, List.map_cons, List.map_nil, sumL] at ht
    simp [R20, rowsL, colsL, trL, wid, totL, sumL, List.range_succ]
    omega
theorem tab_rng {t : List (List Int)} (h : Tab t) {r : List Int} (hr : r ∈ t) : rg (sumL r) := (tab_rows h).1 _ (List.mem_map_of_mem hr)

theorem mul_rng {a b : Nat} (h : a * b ≤ 2432902008176640000) : inR .i64 ((a : Int) * (b : Int)) := by
  rw [← Int.natCast_mul]
  generalize a * b = c at h
  simp only [inR]
  omega

theorem waysN_le : ∀ (t : List (List Int)), (∀ r ∈ t, 0 ≤ sumL r) → waysN t ≤ fct (totL t).toNat ∧ 0 ≤ totL t
  | [], _ => by simp [waysN, totL, sumL, fct]
  | r :: t, h => by
    have ih := waysN_le t (fun x hx => h x (List.mem_cons_of_mem _ hx))
    have h0 := h r (List.mem_cons_self ..)
    have e : totL (r :: t) = sumL r + totL t := by simp [totL, sumL]
    refine ⟨?_, by omega⟩
    have e2 : (totL (r :: t)).toNat = (sumL r).toNat + (totL t).toNat := by omega
    rw [e2]
    exact Nat.le_trans (Nat.mul_le_mul (overN_le _ _) ih.1) (fct_mul_le _ _)

/-- the products on the way -/
theorem ways_small {t : List (List Int)} (h : Tab t) : waysN t ≤ 2432902008176640000 := by
  have h1 := waysN_le t (fun r hr => (tab_rng h hr).1)
  have h2 := h.tot
  exact Nat.le_trans h1.1 (fct_le20 (by omega))

theorem over_small {t : List (List Int)} (h : Tab t) {r : List Int} (hr : r ∈ t) : overN (sumL r).toNat r ≤ 2432902008176640000 := by
  have h1 := tab_rng h hr
  exact Nat.le_trans (overN_le _ _) (fct_le20 (by simp only [rg] at h1; omega))
theorem over_small2 {r s : List Int} {t : List (List Int)} (h : Tab (r :: s :: t)) : overN (sumL r).toNat r * overN (sumL s).toNat s ≤ 2432902008176640000 := by
  have h1 := tab_rng h (r := r) (by simp)
  have h2 := tab_rng h (r := s) (by simp)
  have h3 : 0 ≤ totL t ∧ totL (r :: s :: t) = sumL r + (sumL s + totL t) := ⟨(waysN_le t (fun x hx => (tab_rng h (r := x) (by simp [hx])).1)).2, by simp [totL, sumL]⟩
  have h4 := h.tot
  refine Nat.le_trans (Nat.mul_le_mul (overN_le _ _) (overN_le _ _)) (Nat.le_trans (fct_mul_le _ _) (fct_le20 ?_))
  simp only [rg] at h1 h2
  omega

theorem sums_of {t : List (List Int)} (h : Tab t) : ∃ x y z, AG (pad (colsL t)) = .agg [I x, I y, I z] ∧ x + y + z = totL t ∧ rg x ∧ rg y ∧ rg z ∧ rg (x + y) ∧ pad (colsL t) = [x, y, z] := by
  obtain ⟨_, h2, _, h4, _, h6⟩ := (tab_rows h)
  have hw := h.wid
  have ht := h.tot
  rw [← h4] at ht ⊢
  have : (colsL t).length = 2 ∨ (colsL t).length = 3 := by omega
  generalize colsL t = l at *
  rcases this with h | h
  · obtain ⟨a, b, rfl⟩ := list2 h
    have h1 := h2 a (by simp)
    have h3 := h2 b (by simp)
    refine ⟨a, b, 0, rfl, by simp [sumL], h1, h3, by simp [rg], ?_, rfl⟩
    simp only [sumL, rg] at *
    omega
  · obtain ⟨a, b, c, rfl⟩ := list3 h
    have h1 := h2 a (by simp)
    have h3 := h2 b (by simp)
    have h5 := h2 c (by simp)
    refine ⟨a, b, c, rfl, by simp [sumL]; omega, h1, h3, h5, ?_, rfl⟩
    simp only [sumL, rg] at *
    omega

theorem count_pc {t : List (List Int)} (h : Tab t) (hw : t.length ≤ 1000) : PC Tryd.prog 43 [TT t] (I (waysN t)) := by
  obtain ⟨x, y, z, hc, _⟩ := sums_of h
  have hs := sums_pc h
  rw [hc] at hs
  have hl := h.len
  have hwid := h.wid
  have hrow := h.row
  have hws := ways_small h
  have hov := fun (r : List Int) (hr : r ∈ t) => over_pc (sumL r) r (tab_rng h hr) (hrow r hr).2 (by have := (hrow r hr).1; omega)
  have hos := fun (r : List Int) (hr : r ∈ t) => over_small h hr
  have : t.length = 2 ∨ t.length = 3 := by omega
  rcases this with h2 | h3
  · obtain ⟨r, s, rfl⟩ := list2 h2
    have e : AG (pad (rowsL [r, s])) = .agg [I (sumL r), I (sumL s), I 0] := rfl
    rw [e] at hs
    simp only [waysN, Nat.mul_one] at hws ⊢
    refine pc_fn hmix h43 rfl ?_
    simp -implicitDefEqProofs only [c43, push_cast, Nat.reduceBEq, Nat.reduceLT, Nat.reduceLeDiff, Nat.reduceAdd, Nat.reduceSub, Nat.reduceMul, Nat.reduceEqDiff, reduceCtorEq, ↓reduceIte, Int.reduceEq, Int.reduceLT, Int.reduceLE, Int.reduceNe, Int.reduceAdd, Int.reduceSub, Int.reduceMul, Int.reduceToNat, Nat.reduceShiftRight, Nat.reduceAnd, Nat.reduceBNe]
    refine callF hs ⟨rfl, trivial⟩ rfl rfl ?_
    simp -implicitDefEqProofs only [push_cast, Nat.reduceBEq, Nat.reduceLT, Nat.reduceLeDiff, Nat.reduceAdd, Nat.reduceSub, Nat.reduceMul, Nat.reduceEqDiff, reduceCtorEq, ↓reduceIte, Int.reduceEq, Int.reduceLT, Int.reduceLE, Int.reduceNe, Int.reduceAdd, Int.reduceSub, Int.reduceMul, Int.reduceToNat, Nat.reduceShiftRight, Nat.reduceAnd, Nat.reduceBNe]
    refine LoopW.unroll ?_
    simp -implicitDefEqProofs only [c43L0, List.getD_cons_zero, List.getD_cons_succ, push_cast, Nat.reduceBEq, Nat.reduceLT, Nat.reduceLeDiff, Nat.reduceAdd, Nat.reduceSub, Nat.reduceMul, Nat.reduceEqDiff, reduceCtorEq, ↓reduceIte, Int.reduceEq, Int.reduceLT, Int.reduceLE, Int.reduceNe, Int.reduceAdd, Int.reduceSub, Int.reduceMul, Int.reduceToNat, Nat.reduceShiftRight, Nat.reduceAnd, Nat.reduceBNe]
    refine callF (hov r (by simp)) ⟨rfl, rfl, trivial⟩ rfl rfl ?_
    have h5 := hos r (by simp)
    simp -implicitDefEqProofs only [Int.one_mul, push_cast, Nat.reduceBEq, Nat.reduceLT, Nat.reduceLeDiff, Nat.reduceAdd, Nat.reduceSub, Nat.reduceMul, Nat.reduceEqDiff, reduceCtorEq, ↓reduceIte, Int.reduceEq, Int.reduceLT, Int.reduceLE, Int.reduceNe, Int.reduceAdd, Int.reduceSub, Int.reduceMul, Int.reduceToNat, Nat.reduceShiftRight, Nat.reduceAnd, Nat.reduceBNe]
    refine ⟨by simp only [inR]; omega, by simp only [inR]; omega, LoopW.unroll ?_⟩
    simp -implicitDefEqProofs only [c43L0, List.getD_cons_zero, List.getD_cons_succ, push_cast, Nat.reduceBEq, Nat.reduceLT, Nat.reduceLeDiff, Nat.reduceAdd, Nat.reduceSub, Nat.reduceMul, Nat.reduceEqDiff, reduceCtorEq, ↓reduceIte, Int.reduceEq, Int.reduceLT, Int.reduceLE, Int.reduceNe, Int.reduceAdd, Int.reduceSub, Int.reduceMul, Int.reduceToNat, Nat.reduceShiftRight, Nat.reduceAnd, Nat.reduceBNe]
    refine callF (hov s (by simp)) ⟨rfl, rfl, trivial⟩ rfl rfl ?_
    simp -implicitDefEqProofs only [push_cast, Nat.reduceBEq, Nat.reduceLT, Nat.reduceLeDiff, Nat.reduceAdd, Nat.reduceSub, Nat.reduceMul, Nat.reduceEqDiff, reduceCtorEq, ↓reduceIte, Int.reduceEq, Int.reduceLT, Int.reduceLE, Int.reduceNe, Int.reduceAdd, Int.reduceSub, Int.reduceMul, Int.reduceToNat, Nat.reduceShiftRight, Nat.reduceAnd, Nat.reduceBNe]
    refine ⟨mul_rng hws, by simp only [inR]; omega, LoopW.unroll ?_⟩
    simp -implicitDefEqProofs only [c43L0, push_cast, Nat.reduceBEq, Nat.reduceLT, Nat.reduceLeDiff, Nat.reduceAdd, Nat.reduceSub, Nat.reduceMul, Nat.reduceEqDiff, reduceCtorEq, ↓reduceIte, Int.reduceEq, Int.reduceLT, Int.reduceLE, Int.reduceNe, Int.reduceAdd, Int.reduceSub, Int.reduceMul, Int.reduceToNat, Nat.reduceShiftRight, Nat.reduceAnd, Nat.reduceBNe]
    exact finC (by rw [← Int.natCast_mul]) rfl
  · obtain ⟨r, s, u, rfl⟩ := list3 h3
    have e : AG (pad (rowsL [r, s, u])) = .agg [I (sumL r), I (sumL s), I (sumL u)] := rfl
    rw [e] at hs
    simp only [waysN, Nat.mul_one] at hws ⊢
    have h6 := over_small2 h
    refine pc_fn hmix h43 rfl ?_
    simp -implicitDefEqProofs only [c43, push_cast, Nat.reduceBEq, Nat.reduceLT, Nat.reduceLeDiff, Nat.reduceAdd, Nat.reduceSub, Nat.reduceMul, Nat.reduceEqDiff, reduceCtorEq, ↓reduceIte, Int.reduceEq, Int.reduceLT, Int.reduceLE, Int.reduceNe, Int.reduceAdd, Int.reduceSub, Int.reduceMul, Int.reduceToNat, Nat.reduceShiftRight, Nat.reduceAnd, Nat.reduceBNe]
    refine callF hs ⟨rfl, trivial⟩ rfl rfl ?_
    simp -implicitDefEqProofs only [push_cast, Nat.reduceBEq, Nat.reduceLT, Nat.reduceLeDiff, Nat.reduceAdd, Nat.reduceSub, Nat.reduceMul, Nat.reduceEqDiff, reduceCtorEq, ↓reduceIte, Int.reduceEq, Int.reduceLT, Int.reduceLE, Int.reduceNe, Int.reduceAdd, Int.reduceSub, Int.reduceMul, Int.reduceToNat, Nat.reduceShiftRight, Nat.reduceAnd, Nat.reduceBNe]
    refine LoopW.unroll ?_
    simp -implicitDefEqProofs only [c43L0, List.getD_cons_zero, List.getD_cons_succ, push_cast, Nat.reduceBEq, Nat.reduceLT, Nat.reduceLeDiff, Nat.reduceAdd, Nat.reduceSub, Nat.reduceMul, Nat.reduceEqDiff, reduceCtorEq, ↓reduceIte, Int.reduceEq, Int.reduceLT, Int.reduceLE, Int.reduceNe, Int.reduceAdd, Int.reduceSub, Int.reduceMul, Int.reduceToNat, Nat.reduceShiftRight, Nat.reduceAnd, Nat.reduceBNe]
    refine callF (hov r (by simp)) ⟨rfl, rfl, trivial⟩ rfl rfl ?_
    have h5 := hos r (by simp)
    simp -implicitDefEqProofs only [Int.one_mul, push_cast, Nat.reduceBEq, Nat.reduceLT, Nat.reduceLeDiff, Nat.reduceAdd, Nat.reduceSub, Nat.reduceMul, Nat.reduceEqDiff, reduceCtorEq, ↓reduceIte, Int.reduceEq, Int.reduceLT, Int.reduceLE, Int.reduceNe, Int.reduceAdd, Int.reduceSub, Int.reduceMul, Int.reduceToNat, Nat.reduceShiftRight, Nat.reduceAnd, Nat.reduceBNe]
    refine ⟨by simp only [inR]; omega, by simp only [inR]; omega, LoopW.unroll ?_⟩
    simp -implicitDefEqProofs only [c43L0, List.getD_cons_zero, List.getD_cons_succ, push_cast, Nat.reduceBEq, Nat.reduceLT, Nat.reduceLeDiff, Nat.reduceAdd, Nat.reduceSub, Nat.reduceMul, Nat.reduceEqDiff, reduceCtorEq, ↓reduceIte, Int.reduceEq, Int.reduceLT, Int.reduceLE, Int.reduceNe, Int.reduceAdd, Int.reduceSub, Int.reduceMul, Int.reduceToNat, Nat.reduceShiftRight, Nat.reduceAnd, Nat.reduceBNe]
    refine callF (hov s (by simp)) ⟨rfl, rfl, trivial⟩ rfl rfl ?_
    simp -implicitDefEqProofs only [push_cast, Nat.reduceBEq, Nat.reduceLT, Nat.reduceLeDiff, Nat.reduceAdd, Nat.reduceSub, Nat.reduceMul, Nat.reduceEqDiff, reduceCtorEq, ↓reduceIte, Int.reduceEq, Int.reduceLT, Int.reduceLE, Int.reduceNe, Int.reduceAdd, Int.reduceSub, Int.reduceMul, Int.reduceToNat, Nat.reduceShiftRight, Nat.reduceAnd, Nat.reduceBNe]
    refine ⟨mul_rng h6, by simp only [inR]; omega, LoopW.unroll ?_⟩
    simp -implicitDefEqProofs only [c43L0, List.getD_cons_zero, List.getD_cons_succ, push_cast, Nat.reduceBEq, Nat.reduceLT, Nat.reduceLeDiff, Nat.reduceAdd, Nat.reduceSub, Nat.reduceMul, Nat.reduceEqDiff, reduceCtorEq, ↓reduceIte, Int.reduceEq, Int.reduceLT, Int.reduceLE, Int.reduceNe, Int.reduceAdd, Int.reduceSub, Int.reduceMul, Int.reduceToNat, Nat.reduceShiftRight, Nat.reduceAnd, Nat.reduceBNe]
    refine callF (hov u (by simp)) ⟨rfl, rfl, trivial⟩ rfl rfl ?_
    simp -implicitDefEqProofs only [push_cast, Nat.reduceBEq, Nat.reduceLT, Nat.reduceLeDiff, Nat.reduceAdd, Nat.reduceSub, Nat.reduceMul, Nat.reduceEqDiff, reduceCtorEq, ↓reduceIte, Int.reduceEq, Int.reduceLT, Int.reduceLE, Int.reduceNe, Int.reduceAdd, Int.reduceSub, Int.reduceMul, Int.reduceToNat, Nat.reduceShiftRight, Nat.reduceAnd, Nat.reduceBNe]
    rw [← Nat.mul_assoc] at hws
    refine ⟨by rw [← Int.natCast_mul]; exact mul_rng hws, by simp only [inR]; omega, LoopW.unroll ?_⟩
    simp -implicitDefEqProofs only [c43L0, push_cast, Nat.reduceBEq, Nat.reduceLT, Nat.reduceLeDiff, Nat.reduceAdd, Nat.reduceSub, Nat.reduceMul, Nat.reduceEqDiff, reduceCtorEq, ↓reduceIte, Int.reduceEq, Int.reduceLT, Int.reduceLE, Int.reduceNe, Int.reduceAdd, Int.reduceSub, Int.reduceMul, Int.reduceToNat, Nat.reduceShiftRight, Nat.reduceAnd, Nat.reduceBNe]
    exact finC (by simp only [Int.natCast_mul, Int.mul_assoc]) rfl

theorem ways_pc (t : List (List Int)) (hl : t.length ≤ 1000) (hr : ∀ r ∈ t, r.length ≤ 1000) : PC Tryd.prog 14 [TT t] (if validB t then .tup [I (waysN t), I 0] else .tup [I 0, I 300]) := by
  have hc := check_pc t hl hr
  cases hv : validB t with
  | false =>
    rw [hv] at hc
    refine pc_fn hmix h14 rfl ?_
    simp -implicitDefEqProofs only [c14, push_cast, Nat.reduceBEq, Nat.reduceLT, Nat.reduceLeDiff, Nat.reduceAdd, Nat.reduceSub, Nat.reduceMul, Nat.reduceEqDiff, reduceCtorEq, ↓reduceIte, Int.reduceEq, Int.reduceLT, Int.reduceLE, Int.reduceNe, Int.reduceAdd, Int.reduceSub, Int.reduceMul, Int.reduceToNat, Nat.reduceShiftRight, Nat.reduceAnd, Nat.reduceBNe]
    refine callF hc ⟨rfl, trivial⟩ rfl rfl ?_
    simp -implicitDefEqProofs only [push_cast, Nat.reduceBEq, Nat.reduceLT, Nat.reduceLeDiff, Nat.reduceAdd, Nat.reduceSub, Nat.reduceMul, Nat.reduceEqDiff, reduceCtorEq, ↓reduceIte, Int.reduceEq, Int.reduceLT, Int.reduceLE, Int.reduceNe, Int.reduceAdd, Int.reduceSub, Int.reduceMul, Int.reduceToNat, Nat.reduceShiftRight, Nat.reduceAnd, Nat.reduceBNe]
    exact finC rfl rfl
  | true =>
    rw [hv] at hc
    have h := tab_of hv
    refine pc_fn hmix h14 rfl ?_
    simp -implicitDefEqProofs only [c14, push_cast, Nat.reduceBEq, Nat.reduceLT, Nat.reduceLeDiff, Nat.reduceAdd, Nat.reduceSub, Nat.reduceMul, Nat.reduceEqDiff, reduceCtorEq, ↓reduceIte, Int.reduceEq, Int.reduceLT, Int.reduceLE, Int.reduceNe, Int.reduceAdd, Int.reduceSub, Int.reduceMul, Int.reduceToNat, Nat.reduceShiftRight, Nat.reduceAnd, Nat.reduceBNe]
    refine callF hc ⟨rfl, trivial⟩ rfl rfl ?_
    simp -implicitDefEqProofs only [push_cast, Nat.reduceBEq, Nat.reduceLT, Nat.reduceLeDiff, Nat.reduceAdd, Nat.reduceSub, Nat.reduceMul, Nat.reduceEqDiff, reduceCtorEq, ↓reduceIte, Int.reduceEq, Int.reduceLT, Int.reduceLE, Int.reduceNe, Int.reduceAdd, Int.reduceSub, Int.reduceMul, Int.reduceToNat, Nat.reduceShiftRight, Nat.reduceAnd, Nat.reduceBNe]
    refine callF (count_pc h hl) ⟨rfl, trivial⟩ rfl rfl ?_
    simp -implicitDefEqProofs only [push_cast, Nat.reduceBEq, Nat.reduceLT, Nat.reduceLeDiff, Nat.reduceAdd, Nat.reduceSub, Nat.reduceMul, Nat.reduceEqDiff, reduceCtorEq, ↓reduceIte, Int.reduceEq, Int.reduceLT, Int.reduceLE, Int.reduceNe, Int.reduceAdd, Int.reduceSub, Int.reduceMul, Int.reduceToNat, Nat.reduceShiftRight, Nat.reduceAnd, Nat.reduceBNe]
    exact finC rfl rfl

theorem overN_pad {n : Nat} {t : List (List Int)} : overN n (pad (colsL t)) = overN n (colsL t) := by
  unfold pad overN
  rw [List.foldl_append]
  generalize 3 - (colsL t).length = k
  generalize (colsL t).foldl _ _ = o
  induction k with
  | zero => rfl
  | succ k ih => rw [List.replicate_succ, List.foldl_cons, show o / fct (Int.toNat 0) = o by simp [fct]]; exact ih

theorem total_pc (t : List (List Int)) (hl : t.length ≤ 1000) (hr : ∀ r ∈ t, r.length ≤ 1000) : PC Tryd.prog 15 [TT t] (if validB t then .tup [I (totalN t), I 0] else .tup [I 0, I 300]) := by
  have hc := check_pc t hl hr
  cases hv : validB t with
  | false =>
    rw [hv] at hc
    refine pc_fn hmix h15 rfl ?_
    simp -implicitDefEqProofs only [c15, push_cast, Nat.reduceBEq, Nat.reduceLT, Nat.reduceLeDiff, Nat.reduceAdd, Nat.reduceSub, Nat.reduceMul, Nat.reduceEqDiff, reduceCtorEq, ↓reduceIte, Int.reduceEq, Int.reduceLT, Int.reduceLE, Int.reduceNe, Int.reduceAdd, Int.reduceSub, Int.reduceMul, Int.reduceToNat, Nat.reduceShiftRight, Nat.reduceAnd, Nat.reduceBNe]
    refine callF hc ⟨rfl, trivial⟩ rfl rfl ?_
    simp -implicitDefEqProofs only [push_cast, Nat.reduceBEq, Nat.reduceLT, Nat.reduceLeDiff, Nat.reduceAdd, Nat.reduceSub, Nat.reduceMul, Nat.reduceEqDiff, reduceCtorEq, ↓reduceIte, Int.reduceEq, Int.reduceLT, Int.reduceLE, Int.reduceNe, Int.reduceAdd, Int.reduceSub, Int.reduceMul, Int.reduceToNat, Nat.reduceShiftRight, Nat.reduceAnd, Nat.reduceBNe]
    exact finC rfl rfl
  | true =>
    rw [hv] at hc
    have h := tab_of hv
    obtain ⟨x, y, z, e, hxyz, hx, hy, hz, hxy, ep⟩ := sums_of h
    have hs := sums_pc h
    rw [e] at hs
    obtain ⟨a, b, c, er⟩ : ∃ a b c, AG (pad (rowsL t)) = .agg [I a, I b, I c] := by
      have h1 := (tab_rows h).2.2.2.2.1
      have h2 := h.len
      have : (rowsL t).length = 2 ∨ (rowsL t).length = 3 := by omega
      generalize rowsL t = l at *
      rcases this with h | h
      · obtain ⟨a, b, rfl⟩ := list2 h; exact ⟨a, b, 0, rfl⟩
      · obtain ⟨a, b, c, rfl⟩ := list3 h; exact ⟨a, b, c, rfl⟩
    rw [er] at hs
    have ht := h.tot
    have ho := over_pc (x + y + z) [x, y, z] (by simp only [rg]; omega) (by rw [← ep]; intro v hv; simp only [ep, List.mem_cons, List.not_mem_nil, or_false] at hv; rcases hv with rfl | rfl | rfl <;> assumption) (by simp)
    rw [← ep, overN_pad, hxyz] at ho
    rw [ep] at ho
    refine pc_fn hmix h15 rfl ?_
    simp -implicitDefEqProofs only [c15, push_cast, Nat.reduceBEq, Nat.reduceLT, Nat.reduceLeDiff, Nat.reduceAdd, Nat.reduceSub, Nat.reduceMul, Nat.reduceEqDiff, reduceCtorEq, ↓reduceIte, Int.reduceEq, Int.reduceLT, Int.reduceLE, Int.reduceNe, Int.reduceAdd, Int.reduceSub, Int.reduceMul, Int.reduceToNat, Nat.reduceShiftRight, Nat.reduceAnd, Nat.reduceBNe]
    refine callF hc ⟨rfl, trivial⟩ rfl rfl ?_
    simp -implicitDefEqProofs only [push_cast, Nat.reduceBEq, Nat.reduceLT, Nat.reduceLeDiff, Nat.reduceAdd, Nat.reduceSub, Nat.reduceMul, Nat.reduceEqDiff, reduceCtorEq, ↓reduceIte, Int.reduceEq, Int.reduceLT, Int.reduceLE, Int.reduceNe, Int.reduceAdd, Int.reduceSub, Int.reduceMul, Int.reduceToNat, Nat.reduceShiftRight, Nat.reduceAnd, Nat.reduceBNe]
    refine callF hs ⟨rfl, trivial⟩ rfl rfl ?_
    simp -implicitDefEqProofs only [push_cast, Nat.reduceBEq, Nat.reduceLT, Nat.reduceLeDiff, Nat.reduceAdd, Nat.reduceSub, Nat.reduceMul, Nat.reduceEqDiff, reduceCtorEq, ↓reduceIte, Int.reduceEq, Int.reduceLT, Int.reduceLE, Int.reduceNe, Int.reduceAdd, Int.reduceSub, Int.reduceMul, Int.reduceToNat, Nat.reduceShiftRight, Nat.reduceAnd, Nat.reduceBNe]
    simp only [rg] at hxy
    refine ⟨by simp only [inR]; omega, by simp only [inR]; omega, ?_⟩
    rw [hxyz]
    refine detB ho ⟨rfl, ⟨rfl, ⟨rfl, rfl⟩, ⟨rfl, rfl⟩, ⟨rfl, rfl⟩, trivial⟩, trivial⟩ rfl rfl ?_
    simp -implicitDefEqProofs only [push_cast, Nat.reduceBEq, Nat.reduceLT, Nat.reduceLeDiff, Nat.reduceAdd, Nat.reduceSub, Nat.reduceMul, Nat.reduceEqDiff, reduceCtorEq, ↓reduceIte, Int.reduceEq, Int.reduceLT, Int.reduceLE, Int.reduceNe, Int.reduceAdd, Int.reduceSub, Int.reduceMul, Int.reduceToNat, Nat.reduceShiftRight, Nat.reduceAnd, Nat.reduceBNe]
    exact finC rfl rfl

theorem refcols_pc {t : List (List Int)} (h : Tab t) (htr : Tab (trL t)) : PC Tryd.prog 19 [TT t] (IL (colsL t)) := by
  refine pc_fn hmix h19 rfl ?_
  simp -implicitDefEqProofs only [c19, push_cast, Nat.reduceBEq, Nat.reduceLT, Nat.reduceLeDiff, Nat.reduceAdd, Nat.reduceSub, Nat.reduceMul, Nat.reduceEqDiff, reduceCtorEq, ↓reduceIte, Int.reduceEq, Int.reduceLT, Int.reduceLE, Int.reduceNe, Int.reduceAdd, Int.reduceSub, Int.reduceMul, Int.reduceToNat, Nat.reduceShiftRight, Nat.reduceAnd, Nat.reduceBNe]
  refine callF (refturned_pc h) ⟨rfl, trivial⟩ rfl rfl ?_
  simp -implicitDefEqProofs only [push_cast, Nat.reduceBEq, Nat.reduceLT, Nat.reduceLeDiff, Nat.reduceAdd, Nat.reduceSub, Nat.reduceMul, Nat.reduceEqDiff, reduceCtorEq, ↓reduceIte, Int.reduceEq, Int.reduceLT, Int.reduceLE, Int.reduceNe, Int.reduceAdd, Int.reduceSub, Int.reduceMul, Int.reduceToNat, Nat.reduceShiftRight, Nat.reduceAnd, Nat.reduceBNe]
  refine callF (refrows_pc htr) ⟨rfl, trivial⟩ rfl rfl ?_
  simp -implicitDefEqProofs only [push_cast, Nat.reduceBEq, Nat.reduceLT, Nat.reduceLeDiff, Nat.reduceAdd, Nat.reduceSub, Nat.reduceMul, Nat.reduceEqDiff, reduceCtorEq, ↓reduceIte, Int.reduceEq, Int.reduceLT, Int.reduceLE, Int.reduceNe, Int.reduceAdd, Int.reduceSub, Int.reduceMul, Int.reduceToNat, Nat.reduceShiftRight, Nat.reduceAnd, Nat.reduceBNe]
  exact finC rfl rfl

theorem tab_tr {t : List (List Int)} (h : Tab t) : Tab (trL t) := by
  refine shapes (P := fun t => Tab (trL t)) h ?_ ?_ ?_ ?_
  all_goals
    intros
    rename_i h hh
    have ht := h.tot
    simp only [rg] at hh
    simp only [totL, List.map_cons, List.map_nil, sumL] at ht
    refine ⟨?_, ?_, ?_, ?_⟩
    · simp [trL, wid, List.range_succ]
    · simp [trL, wid, List.range_succ]
    · simp [trL, wid, List.range_succ, R20]; omega
    · simp [trL, wid, totL, sumL, List.range_succ]; omega

theorem reftotal_pc {t : List (List Int)} (h : Tab t) : PC Tryd.prog 21 [TT t] (I (totalN t)) := by
  obtain ⟨r1, r2, r3, r4, r5, r6⟩ := tab_rows h
  have hl := h.len
  have ht := h.tot
  have ho := refover_pc (totL t).toNat (colsL t) (by omega) r2 (by have := h.wid; omega)
  rw [show ((totL t).toNat : Int) = totL t by omega] at ho
  have hrows := refrows_pc h
  refine pc_fn hmix h21 rfl ?_
  simp -implicitDefEqProofs only [c21, push_cast, Nat.reduceBEq, Nat.reduceLT, Nat.reduceLeDiff, Nat.reduceAdd, Nat.reduceSub, Nat.reduceMul, Nat.reduceEqDiff, reduceCtorEq, ↓reduceIte, Int.reduceEq, Int.reduceLT, Int.reduceLE, Int.reduceNe, Int.reduceAdd, Int.reduceSub, Int.reduceMul, Int.reduceToNat, Nat.reduceShiftRight, Nat.reduceAnd, Nat.reduceBNe]
  refine callF hrows ⟨rfl, trivial⟩ rfl rfl ?_
  simp -implicitDefEqProofs only [push_cast, Nat.reduceBEq, Nat.reduceLT, Nat.reduceLeDiff, Nat.reduceAdd, Nat.reduceSub, Nat.reduceMul, Nat.reduceEqDiff, reduceCtorEq, ↓reduceIte, Int.reduceEq, Int.reduceLT, Int.reduceLE, Int.reduceNe, Int.reduceAdd, Int.reduceSub, Int.reduceMul, Int.reduceToNat, Nat.reduceShiftRight, Nat.reduceAnd, Nat.reduceBNe]
  refine loop_k (α := Nat) [5, 4, 3, 0] 0 (fun k => [(5, I k), (3, I (sumL ((rowsL t).take k)))]) (fun _ => []) (fun k => k ≤ (rowsL t).length) (fun k => (rowsL t).length - k) 0 rfl ⟨rfl, rfl, rfl⟩ rfl (by omega) ?_
  intro k hk
  simp -implicitDefEqProofs only [c21L0, push_cast, Nat.reduceBEq, Nat.reduceLT, Nat.reduceLeDiff, Nat.reduceAdd, Nat.reduceSub, Nat.reduceMul, Nat.reduceEqDiff, reduceCtorEq, ↓reduceIte, Int.reduceEq, Int.reduceLT, Int.reduceLE, Int.reduceNe, Int.reduceAdd, Int.reduceSub, Int.reduceMul, Int.reduceToNat, Nat.reduceShiftRight, Nat.reduceAnd, Nat.reduceBNe]
  refine ⟨fun hc => ⟨by omega, ?_⟩, fun hc => ?_⟩
  · have h9 := sumL_take (l := rowsL t) (k := k) (by omega)
    have h7 := sumL_rng _ (fun x hx => r1 x (List.mem_of_mem_take (i := k + 1) hx))
    have h8 : ((rowsL t).take (k + 1)).length ≤ 3 := by rw [List.length_take]; omega
    rw [h9] at h7
    refine ⟨by simp only [inR]; omega, by simp only [inR]; omega, k + 1, by omega, by omega, ?_⟩
    rw [← h9]
    exact wk_c rfl ⟨rfl, rfl, rfl⟩ rfl
  · have hke : k = (rowsL t).length := by omega
    subst hke
    rw [List.take_length, r3]
    refine callF (refcols_pc h (tab_tr h)) ⟨rfl, trivial⟩ rfl rfl ?_
    simp -implicitDefEqProofs only [push_cast, Nat.reduceBEq, Nat.reduceLT, Nat.reduceLeDiff, Nat.reduceAdd, Nat.reduceSub, Nat.reduceMul, Nat.reduceEqDiff, reduceCtorEq, ↓reduceIte, Int.reduceEq, Int.reduceLT, Int.reduceLE, Int.reduceNe, Int.reduceAdd, Int.reduceSub, Int.reduceMul, Int.reduceToNat, Nat.reduceShiftRight, Nat.reduceAnd, Nat.reduceBNe]
    refine callF ho ⟨rfl, rfl, trivial⟩ rfl rfl ?_
    simp -implicitDefEqProofs only [push_cast, Nat.reduceBEq, Nat.reduceLT, Nat.reduceLeDiff, Nat.reduceAdd, Nat.reduceSub, Nat.reduceMul, Nat.reduceEqDiff, reduceCtorEq, ↓reduceIte, Int.reduceEq, Int.reduceLT, Int.reduceLE, Int.reduceNe, Int.reduceAdd, Int.reduceSub, Int.reduceMul, Int.reduceToNat, Nat.reduceShiftRight, Nat.reduceAnd, Nat.reduceBNe]
    exact finC rfl rfl

theorem refways_pc {t : List (List Int)} (h : Tab t) : PC Tryd.prog 20 [TT t] (I (waysN t)) := by
  have hl := h.len
  have hwid := h.wid
  have hrow := h.row
  have hws := ways_small h
  have hov : ∀ r ∈ t, PC Tryd.prog 45 [I (sumL r), IL r] (I (overN (sumL r).toNat r)) := fun r hr => by
    have h1 := tab_rng h hr
    simp only [rg] at h1
    have := refover_pc (sumL r).toNat r (by omega) (hrow r hr).2 (by have := (hrow r hr).1; omega)
    rwa [show ((sumL r).toNat : Int) = sumL r by omega] at this
  have hos := fun (r : List Int) (hr : r ∈ t) => over_small h hr
  have hrows := refrows_pc h
  have : t.length = 2 ∨ t.length = 3 := by omega
  rcases this with h2 | h3
  · obtain ⟨r, s, rfl⟩ := list2 h2
    have e : IL (rowsL [r, s]) = IL [sumL r, sumL s] := rfl
    rw [e] at hrows
    simp only [waysN, Nat.mul_one] at hws ⊢
    refine pc_fn hmix h20 rfl ?_
    simp -implicitDefEqProofs only [c20, push_cast, Nat.reduceBEq, Nat.reduceLT, Nat.reduceLeDiff, Nat.reduceAdd, Nat.reduceSub, Nat.reduceMul, Nat.reduceEqDiff, reduceCtorEq, ↓reduceIte, Int.reduceEq, Int.reduceLT, Int.reduceLE, Int.reduceNe, Int.reduceAdd, Int.reduceSub, Int.reduceMul, Int.reduceToNat, Nat.reduceShiftRight, Nat.reduceAnd, Nat.reduceBNe]
    refine callF hrows ⟨rfl, trivial⟩ rfl rfl ?_
    simp -implicitDefEqProofs only [push_cast, Nat.reduceBEq, Nat.reduceLT, Nat.reduceLeDiff, Nat.reduceAdd, Nat.reduceSub, Nat.reduceMul, Nat.reduceEqDiff, reduceCtorEq, ↓reduceIte, Int.reduceEq, Int.reduceLT, Int.reduceLE, Int.reduceNe, Int.reduceAdd, Int.reduceSub, Int.reduceMul, Int.reduceToNat, Nat.reduceShiftRight, Nat.reduceAnd, Nat.reduceBNe]
    refine LoopW.unroll ?_
    simp -implicitDefEqProofs only [c20L0, List.getD_cons_zero, List.getD_cons_succ, push_cast, Nat.reduceBEq, Nat.reduceLT, Nat.reduceLeDiff, Nat.reduceAdd, Nat.reduceSub, Nat.reduceMul, Nat.reduceEqDiff, reduceCtorEq, ↓reduceIte, Int.reduceEq, Int.reduceLT, Int.reduceLE, Int.reduceNe, Int.reduceAdd, Int.reduceSub, Int.reduceMul, Int.reduceToNat, Nat.reduceShiftRight, Nat.reduceAnd, Nat.reduceBNe]
    refine detF (hov r (by simp)) ⟨rfl, rfl, trivial⟩ rfl rfl ?_
    have h5 := hos r (by simp)
    simp -implicitDefEqProofs only [Int.one_mul, push_cast, Nat.reduceBEq, Nat.reduceLT, Nat.reduceLeDiff, Nat.reduceAdd, Nat.reduceSub, Nat.reduceMul, Nat.reduceEqDiff, reduceCtorEq, ↓reduceIte, Int.reduceEq, Int.reduceLT, Int.reduceLE, Int.reduceNe, Int.reduceAdd, Int.reduceSub, Int.reduceMul, Int.reduceToNat, Nat.reduceShiftRight, Nat.reduceAnd, Nat.reduceBNe]
    refine ⟨by simp only [inR]; omega, by simp only [inR]; omega, LoopW.unroll ?_⟩
    simp -implicitDefEqProofs only [c20L0, List.getD_cons_zero, List.getD_cons_succ, push_cast, Nat.reduceBEq, Nat.reduceLT, Nat.reduceLeDiff, Nat.reduceAdd, Nat.reduceSub, Nat.reduceMul, Nat.reduceEqDiff, reduceCtorEq, ↓reduceIte, Int.reduceEq, Int.reduceLT, Int.reduceLE, Int.reduceNe, Int.reduceAdd, Int.reduceSub, Int.reduceMul, Int.reduceToNat, Nat.reduceShiftRight, Nat.reduceAnd, Nat.reduceBNe]
    refine detF (hov s (by simp)) ⟨rfl, rfl, trivial⟩ rfl rfl ?_
    simp -implicitDefEqProofs only [push_cast, Nat.reduceBEq, Nat.reduceLT, Nat.reduceLeDiff, Nat.reduceAdd, Nat.reduceSub, Nat.reduceMul, Nat.reduceEqDiff, reduceCtorEq, ↓reduceIte, Int.reduceEq, Int.reduceLT, Int.reduceLE, Int.reduceNe, Int.reduceAdd, Int.reduceSub, Int.reduceMul, Int.reduceToNat, Nat.reduceShiftRight, Nat.reduceAnd, Nat.reduceBNe]
    refine ⟨mul_rng hws, by simp only [inR]; omega, LoopW.unroll ?_⟩
    simp -implicitDefEqProofs only [c20L0, push_cast, Nat.reduceBEq, Nat.reduceLT, Nat.reduceLeDiff, Nat.reduceAdd, Nat.reduceSub, Nat.reduceMul, Nat.reduceEqDiff, reduceCtorEq, ↓reduceIte, Int.reduceEq, Int.reduceLT, Int.reduceLE, Int.reduceNe, Int.reduceAdd, Int.reduceSub, Int.reduceMul, Int.reduceToNat, Nat.reduceShiftRight, Nat.reduceAnd, Nat.reduceBNe]
    exact finC (by rw [← Int.natCast_mul]) rfl
  · obtain ⟨r, s, u, rfl⟩ := list3 h3
    have e : IL (rowsL [r, s, u]) = IL [sumL r, sumL s, sumL u] := rfl
    rw [e] at hrows
    simp only [waysN, Nat.mul_one] at hws ⊢
    have h6 := over_small2 h
    refine pc_fn hmix h20 rfl ?_
    simp -implicitDefEqProofs only [c20, push_cast, Nat.reduceBEq, Nat.reduceLT, Nat.reduceLeDiff, Nat.reduceAdd, Nat.reduceSub, Nat.reduceMul, Nat.reduceEqDiff, reduceCtorEq, ↓reduceIte, Int.reduceEq, Int.reduceLT, Int.reduceLE, Int.reduceNe, Int.reduceAdd, Int.reduceSub, Int.reduceMul, Int.reduceToNat, Nat.reduceShiftRight, Nat.reduceAnd, Nat.reduceBNe]
    refine callF hrows ⟨rfl, trivial⟩ rfl rfl ?_
    simp -implicitDefEqProofs only [push_cast, Nat.reduceBEq, Nat.reduceLT, Nat.reduceLeDiff, Nat.reduceAdd, Nat.reduceSub, Nat.reduceMul, Nat.reduceEqDiff, reduceCtorEq, ↓reduceIte, Int.reduceEq, Int.reduceLT, Int.reduceLE, Int.reduceNe, Int.reduceAdd, Int.reduceSub, Int.reduceMul, Int.reduceToNat, Nat.reduceShiftRight, Nat.reduceAnd, Nat.reduceBNe]
    refine LoopW.unroll ?_
    simp -implicitDefEqProofs only [c20L0, List.getD_cons_zero, List.getD_cons_succ, push_cast, Nat.reduceBEq, Nat.reduceLT, Nat.reduceLeDiff, Nat.reduceAdd, Nat.reduceSub, Nat.reduceMul, Nat.reduceEqDiff, reduceCtorEq, ↓reduceIte, Int.reduceEq, Int.reduceLT, Int.reduceLE, Int.reduceNe, Int.reduceAdd, Int.reduceSub, Int.reduceMul, Int.reduceToNat, Nat.reduceShiftRight, Nat.reduceAnd, Nat.reduceBNe]
    refine detF (hov r (by simp)) ⟨rfl, rfl, trivial⟩ rfl rfl ?_
    have h5 := hos r (by simp)
    simp -implicitDefEqProofs only [Int.one_mul, push_cast, Nat.reduceBEq, Nat.reduceLT, Nat.reduceLeDiff, Nat.reduceAdd, Nat.reduceSub, Nat.reduceMul, Nat.reduceEqDiff, reduceCtorEq, ↓reduceIte, Int.reduceEq, Int.reduceLT, Int.reduceLE, Int.reduceNe, Int.reduceAdd, Int.reduceSub, Int.reduceMul, Int.reduceToNat, Nat.reduceShiftRight, Nat.reduceAnd, Nat.reduceBNe]
    refine ⟨by simp only [inR]; omega, by simp only [inR]; omega, LoopW.unroll ?_⟩
    simp -implicitDefEqProofs only [c20L0, List.getD_cons_zero, List.getD_cons_succ, push_cast, Nat.reduceBEq, Nat.reduceLT, Nat.reduceLeDiff, Nat.reduceAdd, Nat.reduceSub, Nat.reduceMul, Nat.reduceEqDiff, reduceCtorEq, ↓reduceIte, Int.reduceEq, Int.reduceLT, Int.reduceLE, Int.reduceNe, Int.reduceAdd, Int.reduceSub, Int.reduceMul, Int.reduceToNat, Nat.reduceShiftRight, Nat.reduceAnd, Nat.reduceBNe]
    refine detF (hov s (by simp)) ⟨rfl, rfl, trivial⟩ rfl rfl ?_
    simp -implicitDefEqProofs only [push_cast, Nat.reduceBEq, Nat.reduceLT, Nat.reduceLeDiff, Nat.reduceAdd, Nat.reduceSub, Nat.reduceMul, Nat.reduceEqDiff, reduceCtorEq, ↓reduceIte, Int.reduceEq, Int.reduceLT, Int.reduceLE, Int.reduceNe, Int.reduceAdd, Int.reduceSub, Int.reduceMul, Int.reduceToNat, Nat.reduceShiftRight, Nat.reduceAnd, Nat.reduceBNe]
    refine ⟨mul_rng h6, by simp only [inR]; omega, LoopW.unroll ?_⟩
    simp -implicitDefEqProofs only [c20L0, List.getD_cons_zero, List.getD_cons_succ, push_cast, Nat.reduceBEq, Nat.reduceLT, Nat.reduceLeDiff, Nat.reduceAdd, Nat.reduceSub, Nat.reduceMul, Nat.reduceEqDiff, reduceCtorEq, ↓reduceIte, Int.reduceEq, Int.reduceLT, Int.reduceLE, Int.reduceNe, Int.reduceAdd, Int.reduceSub, Int.reduceMul, Int.reduceToNat, Nat.reduceShiftRight, Nat.reduceAnd, Nat.reduceBNe]
    refine detF (hov u (by simp)) ⟨rfl, rfl, trivial⟩ rfl rfl ?_
    simp -implicitDefEqProofs only [push_cast, Nat.reduceBEq, Nat.reduceLT, Nat.reduceLeDiff, Nat.reduceAdd, Nat.reduceSub, Nat.reduceMul, Nat.reduceEqDiff, reduceCtorEq, ↓reduceIte, Int.reduceEq, Int.reduceLT, Int.reduceLE, Int.reduceNe, Int.reduceAdd, Int.reduceSub, Int.reduceMul, Int.reduceToNat, Nat.reduceShiftRight, Nat.reduceAnd, Nat.reduceBNe]
    rw [← Nat.mul_assoc] at hws
    refine ⟨by rw [← Int.natCast_mul]; exact mul_rng hws, by simp only [inR]; omega, LoopW.unroll ?_⟩
    simp -implicitDefEqProofs only [c20L0, push_cast, Nat.reduceBEq, Nat.reduceLT, Nat.reduceLeDiff, Nat.reduceAdd, Nat.reduceSub, Nat.reduceMul, Nat.reduceEqDiff, reduceCtorEq, ↓reduceIte, Int.reduceEq, Int.reduceLT, Int.reduceLE, Int.reduceNe, Int.reduceAdd, Int.reduceSub, Int.reduceMul, Int.reduceToNat, Nat.reduceShiftRight, Nat.reduceAnd, Nat.reduceBNe]
    exact finC (by simp only [Int.natCast_mul, Int.mul_assoc]) rfl
end Go.Proofs.YtligakiolapkkaaDoor

namespace Go.Proofs.YtligakiolapkkaaDoor
open Go GoV
set_option maxHeartbeats 2000000
abbrev TQ (n d : Int) : AV := .tup [.agg [I n, I d], I 0]

def chunk (w : Nat) : Nat → List Int → List (List Int)
  | 0, _ => []
  | n + 1, l => match Nat.ble w l.length with
    | true => l.take w :: chunk w n (l.drop w)
    | false => []

theorem chunk_fuel {w : Nat} (hw : 1 ≤ w) : ∀ (n m : Nat) (l : List Int), l.length ≤ n → l.length ≤ m → chunk w n l = chunk w m l := by
  intro n
  induction n with
  | zero =>
    intro m l hn hm
    cases m with
    | zero => rfl
    | succ m =>
      have h0 : Nat.ble w l.length = false := by rw [Bool.eq_false_iff]; simp only [ne_eq, Nat.ble_eq]; omega
      rw [chunk, chunk, h0]
  | succ n ih =>
    intro m l hn hm
    by_cases h : w ≤ l.length
    · cases m with
      | zero => omega
      | succ m =>
        have h0 : Nat.ble w l.length = true := by simp only [Nat.ble_eq]; exact h
        rw [chunk, chunk, h0]
        show _ :: _ = _ :: _
        rw [ih m (l.drop w) (by rw [List.length_drop]; omega) (by rw [List.length_drop]; omega)]
    · have h0 : Nat.ble w l.length = false := by rw [Bool.eq_false_iff]; simp only [ne_eq, Nat.ble_eq]; omega
      cases m with
      | zero => rw [chunk, chunk, h0]
      | succ m => rw [chunk, chunk, h0]

theorem chunk_len {w : Nat} (hw : 1 ≤ w) : ∀ (n : Nat) (l : List Int), (chunk w n l).length ≤ l.length := by
  intro n
  induction n with
  | zero => intro l; simp [chunk]
  | succ n ih =>
    intro l
    cases h : Nat.ble w l.length with
    | false => rw [chunk, h]; simp
    | true =>
      rw [chunk, h]
      have h1 : w ≤ l.length := Nat.le_of_ble_eq_true h
      have := ih (l.drop w)
      rw [List.length_drop] at this
      simp only [List.length_cons]
      omega

theorem table_pc (w : Nat) (l : List Int) (hw : 1 ≤ w) (hl : (l.length + 1) * 24 < two47) : PC Tryd.prog 35 [I w, IL l] (TT (chunk w l.length l)) := by
  refine pc_fn hmix h35 rfl ?_
  simp -implicitDefEqProofs only [c35, push_cast, Nat.reduceBEq, Nat.reduceLT, Nat.reduceLeDiff, Nat.reduceAdd, Nat.reduceSub, Nat.reduceMul, Nat.reduceEqDiff, reduceCtorEq, ↓reduceIte, Int.reduceEq, Int.reduceLT, Int.reduceLE, Int.reduceNe, Int.reduceAdd, Int.reduceSub, Int.reduceMul, Int.reduceToNat, Nat.reduceShiftRight, Nat.reduceAnd, Nat.reduceBNe]
  refine loop_w (α := List (List Int) × List Int) (fun a => ⟨[(5, .slc 0 a.1.length 0 a.1.length), (1, IL a.2), (0, I w)], [.lst (.list (.int .i64)) a.1], []⟩) (fun a => a.2.length ≤ l.length ∧ a.1 ++ chunk w a.2.length a.2 = chunk w l.length l) (fun a => a.2.length) ([], l) ((wk_cut [5, 1, 0] 0 rfl ⟨rfl, rfl, rfl⟩ rfl).trans (wk_own 5 (.list (.int .i64)) rfl)) ⟨Nat.le_refl _, rfl⟩ ?_
  rintro ⟨acc, r⟩ ⟨hr, he⟩
  simp only at hr he
  simp -implicitDefEqProofs only [c35L0, push_cast, Nat.reduceBEq, Nat.reduceLT, Nat.reduceLeDiff, Nat.reduceAdd, Nat.reduceSub, Nat.reduceMul, Nat.reduceEqDiff, reduceCtorEq, ↓reduceIte, Int.reduceEq, Int.reduceLT, Int.reduceLE, Int.reduceNe, Int.reduceAdd, Int.reduceSub, Int.reduceMul, Int.reduceToNat, Nat.reduceShiftRight, Nat.reduceAnd, Nat.reduceBNe]
  constructor
  · intro h
    have h : w ≤ r.length := by omega
    have h0 : Nat.ble w r.length = true := by simp only [Nat.ble_eq]; exact h
    have hacc : acc.length ≤ l.length := by
      have := congrArg List.length he
      rw [List.length_append] at this
      have h2 := chunk_len hw l.length l
      omega
    have hr1 : r.length = (r.length - 1) + 1 := by omega
    refine ⟨by omega, ⟨by omega, by omega⟩, ⟨by simp only [two47] at *; omega, by omega⟩, by omega, ⟨by omega, by omega⟩, (acc ++ [subL r 0 w], subL r w (r.length - w)), ⟨?_, ?_⟩, ?_, wk_c rfl ⟨rfl, rfl, rfl⟩ rfl⟩
    · simp only [subL, List.length_take, List.length_drop]; omega
    · rw [hr1, chunk, h0] at he
      rw [← he]
      simp only [subL, List.drop_zero, List.length_take, List.length_drop, List.append_assoc, List.singleton_append]
      rw [List.take_of_length_le (l := List.drop w r) (by rw [List.length_drop]; exact Nat.le_refl _), Nat.min_self]
      rw [chunk_fuel hw (r.length - w) (r.length - 1) _ (by rw [List.length_drop]; exact Nat.le_refl _) (by rw [List.length_drop]; omega)]
    · simp only [subL, List.length_take, List.length_drop]; omega
  · intro h
    have h0 : chunk w r.length r = [] := by
      cases hn : r.length with
      | zero => rfl
      | succ n =>
        have h1 : Nat.ble w r.length = false := by rw [Bool.eq_false_iff]; simp only [ne_eq, Nat.ble_eq]; omega
        rw [chunk, h1]
    rw [h0, List.append_nil] at he
    subst he
    exact finR 1 rfl (fz_lst rfl rfl)
def orcT (o : Orc) : Orc := fun f args h =>
  match Nat.beq 35 f with
  | false => o f args h
  | true => match args with
    | [.dat (.int .i64) (.ofNat (n + 1)), .dat (.list (.int .i64)) l] => match Nat.ble l.length 1000 with
      | true => fDen (.list (.list (.int .i64))) (chunk (n + 1) l.length l) fun x => some (TT x, h)
      | false => o f args h
    | _ => o f args h
theorem orcT_ok {o : Orc} (ho : OrcOK Tryd.prog o) : OrcOK Tryd.prog (orcT o) := by
  intro f args h r e
  unfold orcT at e
  split at e
  · exact ho f args h r e
  · rename_i hf
    split at e
    · split at e
      · rename_i hl
        rw [fDen_eq] at e
        cases e
        rw [← Nat.eq_of_beq_eq_true hf]
        refine pc_frame (table_pc _ _ (Nat.succ_le_succ (Nat.zero_le _)) ?_) rfl (rdL_refl _ rfl) rfl
        have := Nat.le_of_ble_eq_true hl
        simp only [two47]
        omega
      · exact ho _ _ h r e
    · exact ho f _ h r e
end Go.Proofs.YtligakiolapkkaaDoor

namespace Go.Proofs.YtligakiolapkkaaDoor
open Go GoV
set_option maxRecDepth 1000000
theorem wAll : PC Tryd.prog 23 [TT [[3,1],[1,3]]] (.tup [.dat (.list (.list (.list (.int .i64)))) [[[0,4],[4,0]],[[1,3],[3,1]],[[2,2],[2,2]],[[3,1],[1,3]],[[4,0],[0,4]]], I 0]) := pc_run hmix orcNone_ok 400 (by kernel_rfl)
end Go.Proofs.YtligakiolapkkaaDoor

namespace Go.Proofs.YtligakiolapkkaaDoor
open Go GoV
set_option maxRecDepth 1000000
theorem wTa : PC Tryd.prog 27 [TT [[3,1],[1,3]]] (TQ 17 35) := pc_run hmix orcNone_ok 400 (by kernel_rfl)
end Go.Proofs.YtligakiolapkkaaDoor

namespace Go.Proofs.YtligakiolapkkaaDoor
open Go GoV
set_option maxRecDepth 1000000
theorem wTb : PC Tryd.prog 27 [TT [[4,0],[0,4]]] (TQ 1 35) := pc_run hmix orcNone_ok 400 (by kernel_rfl)
end Go.Proofs.YtligakiolapkkaaDoor

namespace Go.Proofs.YtligakiolapkkaaDoor
open Go GoV
set_option maxRecDepth 1000000
theorem wTc : PC Tryd.prog 27 [TT [[2,2],[2,2]]] (TQ 1 1) := pc_run hmix orcNone_ok 400 (by kernel_rfl)
end Go.Proofs.YtligakiolapkkaaDoor

namespace Go.Proofs.YtligakiolapkkaaDoor
open Go GoV
set_option maxRecDepth 1000000
theorem wTd : PC Tryd.prog 27 [TT [[2,0,1],[0,3,0]]] (TQ 1 10) := pc_run hmix orcNone_ok 400 (by kernel_rfl)
end Go.Proofs.YtligakiolapkkaaDoor

namespace Go.Proofs.YtligakiolapkkaaDoor
open Go GoV
def orcW : Orc :=
  orc1 23 [TT [[3,1],[1,3]]] (.tup [.dat (.list (.list (.list (.int .i64)))) [[[0,4],[4,0]],[[1,3],[3,1]],[[2,2],[2,2]],[[3,1],[1,3]],[[4,0],[0,4]]], I 0]) <|
  orc1 27 [TT [[3,1],[1,3]]] (TQ 17 35) <| orc1 27 [TT [[4,0],[0,4]]] (TQ 1 35) <| orc1 27 [TT [[2,2],[2,2]]] (TQ 1 1) <| orc1 27 [TT [[2,0,1],[0,3,0]]] (TQ 1 10) <| orcT orcNone
theorem orcW_ok : OrcOK Tryd.prog orcW :=
  orc1_ok (orc1_ok (orc1_ok (orc1_ok (orc1_ok (orcT_ok orcNone_ok) wTd rfl rfl) wTc rfl rfl) wTb rfl rfl) wTa rfl rfl) wAll rfl rfl
set_option maxRecDepth 1000000 in
theorem works_pc : PC Tryd.prog 22 [] (.dat .bool true) := pc_run hmix orcW_ok 400 (by kernel_rfl)
end Go.Proofs.YtligakiolapkkaaDoor

namespace Go.Proofs.YtligakiolapkkaaDoor
open Go GoV
set_option maxHeartbeats 16000000
set_option maxRecDepth 10000
abbrev DT : Ty := .pair (.int .u8) (.pair (.int .u8) (.pair (.arr 9 (.int .u8)) (.pair (.int .u8) .unit)))
abbrev DD (a b : Int) (ns : List Int) (m : Int) : AV := .dat DT (a, b, ns, m, ())
abbrev r8 (x : Int) : Prop := 0 ≤ x ∧ x ≤ 255
abbrev okD (a b m n0 n1 n2 n3 n4 n5 n6 n7 n8 : Int) : Prop := (r8 a ∧ r8 b ∧ r8 m ∧ r8 n0 ∧ r8 n1 ∧ r8 n2 ∧ r8 n3 ∧ r8 n4 ∧ r8 n5 ∧ r8 n6 ∧ r8 n7 ∧ r8 n8) ∧ 0 ≤ m.tmod 10 ∧ m.tmod 10 ≤ 9
theorem tmod8 {n d : Int} (h : r8 n) : r8 (n.tmod d) := by
  have h1 := Int.tmod_nonneg d h.1
  have h2 : n.tmod d ≤ n := by
    have : (n.tmod d).natAbs ≤ n.natAbs := by rw [Int.natAbs_tmod]; exact Nat.mod_le _ _
    omega
  exact ⟨h1, by have := h.2; omega⟩
end Go.Proofs.YtligakiolapkkaaDoor

namespace Go.Proofs.YtligakiolapkkaaDoor
open Go GoV
set_option maxHeartbeats 16000000
set_option maxRecDepth 10000
theorem mk22 {x0 x1 x2 x3 : Int} (h : 0 ≤ x0 ∧ 0 ≤ x1 ∧ 0 ≤ x2 ∧ 0 ≤ x3) (ht : 1 ≤ x0 + x1 + x2 + x3 ∧ x0 + x1 + x2 + x3 ≤ 20) : Tab [[x0, x1], [x2, x3]] := by
  refine ⟨⟨by simp, by simp⟩, ⟨by simp [wid], by simp [wid]⟩, ?_, ?_⟩
  · intro r hr
    simp only [List.mem_cons, List.not_mem_nil, or_false] at hr
    rcases hr with rfl | rfl <;> refine ⟨rfl, fun x hx => ?_⟩ <;> simp only [List.mem_cons, List.not_mem_nil, or_false] at hx <;> omega
  · simp only [totL, sumL, List.map_cons, List.map_nil]
    omega

theorem draft22 {a b m n0 n1 n2 n3 n4 n5 n6 n7 n8 : Int} (hr : okD a b m n0 n1 n2 n3 n4 n5 n6 n7 n8) (ha : a.tmod 2 = 0) (hb : b.tmod 2 = 0) :
    ∃ t, Tab t ∧ t.length = 2 ∧ wid t = 2 ∧ PC Tryd.prog 10 [DD a b [n0, n1, n2, n3, n4, n5, n6, n7, n8] m] (TT t) := by
  obtain ⟨hr, hm⟩ := hr
  obtain ⟨d, hd⟩ : ∃ d, 2 + m.tmod 10 = d := ⟨_, rfl⟩
  obtain ⟨y0, e0⟩ : ∃ y, n0.tmod d = y := ⟨_, rfl⟩
  have hy0 : r8 y0 := by rw [← e0]; exact tmod8 (by simp only [r8] at hr ⊢; omega)
  obtain ⟨x0, g0⟩ : ∃ x, min y0 (20) = x := ⟨_, rfl⟩
  have hx0 : 0 ≤ x0 ∧ x0 ≤ 20 := by simp only [r8] at hy0; omega
  obtain ⟨y1, e1⟩ : ∃ y, n1.tmod d = y := ⟨_, rfl⟩
  have hy1 : r8 y1 := by rw [← e1]; exact tmod8 (by simp only [r8] at hr ⊢; omega)
  obtain ⟨x1, g1⟩ : ∃ x, min y1 (20 - x0) = x := ⟨_, rfl⟩
  have hx1 : 0 ≤ x1 ∧ x1 ≤ 20 - x0 := by simp only [r8] at hy1; clear g0; omega
  obtain ⟨y2, e2⟩ : ∃ y, n3.tmod d = y := ⟨_, rfl⟩
  have hy2 : r8 y2 := by rw [← e2]; exact tmod8 (by simp only [r8] at hr ⊢; omega)
  obtain ⟨x2, g2⟩ : ∃ x, min y2 (20 - x0 - x1) = x := ⟨_, rfl⟩
  have hx2 : 0 ≤ x2 ∧ x2 ≤ 20 - x0 - x1 := by simp only [r8] at hy2; clear g0 g1; omega
  obtain ⟨y3, e3⟩ : ∃ y, n4.tmod d = y := ⟨_, rfl⟩
  have hy3 : r8 y3 := by rw [← e3]; exact tmod8 (by simp only [r8] at hr ⊢; omega)
  obtain ⟨x3, g3⟩ : ∃ x, min y3 (20 - x0 - x1 - x2) = x := ⟨_, rfl⟩
  have hx3 : 0 ≤ x3 ∧ x3 ≤ 20 - x0 - x1 - x2 := by simp only [r8] at hy3; clear g0 g1 g2; omega
  simp only [r8] at hr hy0 hy1 hy2 hy3
  refine ⟨if 20 - x0 - x1 - x2 - x3 = 20 then [[1, x1], [x2, x3]] else [[x0, x1], [x2, x3]], ?_, ?_, ?_, ?_⟩
  · split
    · exact mk22 (by clear g0 g1 g2 g3; omega) (by clear g0 g1 g2 g3; omega)
    · exact mk22 (by clear g0 g1 g2 g3; omega) (by clear g0 g1 g2 g3; omega)
  · split <;> rfl
  · split <;> rfl
  refine pc_fn hmix h10 rfl ?_
  simp -implicitDefEqProofs only [c10, hd, ha, hb, mapN, List.headD_cons, List.tail_cons, push_cast, Nat.reduceBEq, Nat.reduceLT, Nat.reduceLeDiff, Nat.reduceAdd, Nat.reduceSub, Nat.reduceMul, Nat.reduceEqDiff, reduceCtorEq, ↓reduceIte, Int.reduceEq, Int.reduceLT, Int.reduceLE, Int.reduceNe, Int.reduceAdd, Int.reduceSub, Int.reduceMul, Int.reduceToNat, Nat.reduceShiftRight, Nat.reduceAnd, Nat.reduceBNe]
  refine ⟨by simp only [inR]; clear g0 g1 g2 g3; omega, by simp only [inR]; clear g0 g1 g2 g3; omega, by simp only [inR]; clear g0 g1 g2 g3; omega, by simp only [inR]; clear g0 g1 g2 g3; omega, ?_⟩
  repeat first
    | (refine LoopW.wk (wk_t [9, 8, 7, 6, 5, 4, 3, 1] rfl) (LoopW.unroll ?_); simp -implicitDefEqProofs only [hd, c10L0, c10L1, e0, e1, e2, e3, g0, g1, g2, g3, List.getD_cons_zero, List.getD_cons_succ, Int.zero_add, push_cast, Nat.reduceBEq, Nat.reduceLT, Nat.reduceLeDiff, Nat.reduceAdd, Nat.reduceSub, Nat.reduceMul, Nat.reduceEqDiff, reduceCtorEq, ↓reduceIte, Int.reduceEq, Int.reduceLT, Int.reduceLE, Int.reduceNe, Int.reduceAdd, Int.reduceSub, Int.reduceMul, Int.reduceToNat, Nat.reduceShiftRight, Nat.reduceAnd, Nat.reduceBNe])
    | (refine ⟨by first | (simp only [inR]; clear g0 g1 g2 g3; omega) | (simp only [two47]; clear g0 g1 g2 g3; omega) | (clear g0 g1 g2 g3; omega), ?_⟩)
  refine ⟨fun h => ?_, fun h => ?_⟩
  · rw [if_pos h]
    exact finR 11 rfl ⟨rfl, ⟨⟨rfl, Nat.le_refl _⟩, rfl⟩, ⟨⟨rfl, Nat.le_refl _⟩, rfl⟩, trivial⟩
  · rw [if_neg h]
    exact finR 11 rfl ⟨rfl, ⟨⟨rfl, Nat.le_refl _⟩, rfl⟩, ⟨⟨rfl, Nat.le_refl _⟩, rfl⟩, trivial⟩
end Go.Proofs.YtligakiolapkkaaDoor

namespace Go.Proofs.YtligakiolapkkaaDoor
open Go GoV
set_option maxHeartbeats 16000000
set_option maxRecDepth 10000
theorem mk23 {x0 x1 x2 x3 x4 x5 : Int} (h : 0 ≤ x0 ∧ 0 ≤ x1 ∧ 0 ≤ x2 ∧ 0 ≤ x3 ∧ 0 ≤ x4 ∧ 0 ≤ x5) (ht : 1 ≤ x0 + x1 + x2 + x3 + x4 + x5 ∧ x0 + x1 + x2 + x3 + x4 + x5 ≤ 20) : Tab [[x0, x1, x2], [x3, x4, x5]] := by
  refine ⟨⟨by simp, by simp⟩, ⟨by simp [wid], by simp [wid]⟩, ?_, ?_⟩
  · intro r hr
    simp only [List.mem_cons, List.not_mem_nil, or_false] at hr
    rcases hr with rfl | rfl <;> refine ⟨rfl, fun x hx => ?_⟩ <;> simp only [List.mem_cons, List.not_mem_nil, or_false] at hx <;> omega
  · simp only [totL, sumL, List.map_cons, List.map_nil]
    omega

theorem draft23 {a b m n0 n1 n2 n3 n4 n5 n6 n7 n8 : Int} (hr : okD a b m n0 n1 n2 n3 n4 n5 n6 n7 n8) (ha : a.tmod 2 = 0) (hb : b.tmod 2 = 1) :
    ∃ t, Tab t ∧ t.length = 2 ∧ wid t = 3 ∧ PC Tryd.prog 10 [DD a b [n0, n1, n2, n3, n4, n5, n6, n7, n8] m] (TT t) := by
  obtain ⟨hr, hm⟩ := hr
  obtain ⟨d, hd⟩ : ∃ d, 2 + m.tmod 10 = d := ⟨_, rfl⟩
  obtain ⟨y0, e0⟩ : ∃ y, n0.tmod d = y := ⟨_, rfl⟩
  have hy0 : r8 y0 := by rw [← e0]; exact tmod8 (by simp only [r8] at hr ⊢; omega)
  obtain ⟨x0, g0⟩ : ∃ x, min y0 (20) = x := ⟨_, rfl⟩
  have hx0 : 0 ≤ x0 ∧ x0 ≤ 20 := by simp only [r8] at hy0; omega
  obtain ⟨y1, e1⟩ : ∃ y, n1.tmod d = y := ⟨_, rfl⟩
  have hy1 : r8 y1 := by rw [← e1]; exact tmod8 (by simp only [r8] at hr ⊢; omega)
  obtain ⟨x1, g1⟩ : ∃ x, min y1 (20 - x0) = x := ⟨_, rfl⟩
  have hx1 : 0 ≤ x1 ∧ x1 ≤ 20 - x0 := by simp only [r8] at hy1; clear g0; omega
  obtain ⟨y2, e2⟩ : ∃ y, n2.tmod d = y := ⟨_, rfl⟩
  have hy2 : r8 y2 := by rw [← e2]; exact tmod8 (by simp only [r8] at hr ⊢; omega)
  obtain ⟨x2, g2⟩ : ∃ x, min y2 (20 - x0 - x1) = x := ⟨_, rfl⟩
  have hx2 : 0 ≤ x2 ∧ x2 ≤ 20 - x0 - x1 := by simp only [r8] at hy2; clear g0 g1; omega
  obtain ⟨y3, e3⟩ : ∃ y, n3.tmod d = y := ⟨_, rfl⟩
  have hy3 : r8 y3 := by rw [← e3]; exact tmod8 (by simp only [r8] at hr ⊢; omega)
  obtain ⟨x3, g3⟩ : ∃ x, min y3 (20 - x0 - x1 - x2) = x := ⟨_, rfl⟩
  have hx3 : 0 ≤ x3 ∧ x3 ≤ 20 - x0 - x1 - x2 := by simp only [r8] at hy3; clear g0 g1 g2; omega
  obtain ⟨y4, e4⟩ : ∃ y, n4.tmod d = y := ⟨_, rfl⟩
  have hy4 : r8 y4 := by rw [← e4]; exact tmod8 (by simp only [r8] at hr ⊢; omega)
  obtain ⟨x4, g4⟩ : ∃ x, min y4 (20 - x0 - x1 - x2 - x3) = x := ⟨_, rfl⟩
  have hx4 : 0 ≤ x4 ∧ x4 ≤ 20 - x0 - x1 - x2 - x3 := by simp only [r8] at hy4; clear g0 g1 g2 g3; omega
  obtain ⟨y5, e5⟩ : ∃ y, n5.tmod d = y := ⟨_, rfl⟩
  have hy5 : r8 y5 := by rw [← e5]; exact tmod8 (by simp only [r8] at hr ⊢; omega)
  obtain ⟨x5, g5⟩ : ∃ x, min y5 (20 - x0 - x1 - x2 - x3 - x4) = x := ⟨_, rfl⟩
  have hx5 : 0 ≤ x5 ∧ x5 ≤ 20 - x0 - x1 - x2 - x3 - x4 := by simp only [r8] at hy5; clear g0 g1 g2 g3 g4; omega
  simp only [r8] at hr hy0 hy1 hy2 hy3 hy4 hy5
  refine ⟨if 20 - x0 - x1 - x2 - x3 - x4 - x5 = 20 then [[1, x1, x2], [x3, x4, x5]] else [[x0, x1, x2], [x3, x4, x5]], ?_, ?_, ?_, ?_⟩
  · split
    · exact mk23 (by clear g0 g1 g2 g3 g4 g5; omega) (by clear g0 g1 g2 g3 g4 g5; omega)
    · exact mk23 (by clear g0 g1 g2 g3 g4 g5; omega) (by clear g0 g1 g2 g3 g4 g5; omega)
  · split <;> rfl
  · split <;> rfl
  refine pc_fn hmix h10 rfl ?_
  simp -implicitDefEqProofs only [c10, hd, ha, hb, mapN, List.headD_cons, List.tail_cons, push_cast, Nat.reduceBEq, Nat.reduceLT, Nat.reduceLeDiff, Nat.reduceAdd, Nat.reduceSub, Nat.reduceMul, Nat.reduceEqDiff, reduceCtorEq, ↓reduceIte, Int.reduceEq, Int.reduceLT, Int.reduceLE, Int.reduceNe, Int.reduceAdd, Int.reduceSub, Int.reduceMul, Int.reduceToNat, Nat.reduceShiftRight, Nat.reduceAnd, Nat.reduceBNe]
  refine ⟨by simp only [inR]; clear g0 g1 g2 g3 g4 g5; omega, by simp only [inR]; clear g0 g1 g2 g3 g4 g5; omega, by simp only [inR]; clear g0 g1 g2 g3 g4 g5; omega, by simp only [inR]; clear g0 g1 g2 g3 g4 g5; omega, ?_⟩
  repeat first
    | (refine LoopW.wk (wk_t [9, 8, 7, 6, 5, 4, 3, 1] rfl) (LoopW.unroll ?_); simp -implicitDefEqProofs only [hd, c10L0, c10L1, e0, e1, e2, e3, e4, e5, g0, g1, g2, g3, g4, g5, List.getD_cons_zero, List.getD_cons_succ, Int.zero_add, push_cast, Nat.reduceBEq, Nat.reduceLT, Nat.reduceLeDiff, Nat.reduceAdd, Nat.reduceSub, Nat.reduceMul, Nat.reduceEqDiff, reduceCtorEq, ↓reduceIte, Int.reduceEq, Int.reduceLT, Int.reduceLE, Int.reduceNe, Int.reduceAdd, Int.reduceSub, Int.reduceMul, Int.reduceToNat, Nat.reduceShiftRight, Nat.reduceAnd, Nat.reduceBNe])
    | (refine ⟨by first | (simp only [inR]; clear g0 g1 g2 g3 g4 g5; omega) | (simp only [two47]; clear g0 g1 g2 g3 g4 g5; omega) | (clear g0 g1 g2 g3 g4 g5; omega), ?_⟩)
  refine ⟨fun h => ?_, fun h => ?_⟩
  · rw [if_pos h]
    exact finR 13 rfl ⟨rfl, ⟨⟨rfl, Nat.le_refl _⟩, rfl⟩, ⟨⟨rfl, Nat.le_refl _⟩, rfl⟩, trivial⟩
  · rw [if_neg h]
    exact finR 13 rfl ⟨rfl, ⟨⟨rfl, Nat.le_refl _⟩, rfl⟩, ⟨⟨rfl, Nat.le_refl _⟩, rfl⟩, trivial⟩
end Go.Proofs.YtligakiolapkkaaDoor

namespace Go.Proofs.YtligakiolapkkaaDoor
open Go GoV
set_option maxHeartbeats 16000000
set_option maxRecDepth 10000
theorem mk32 {x0 x1 x2 x3 x4 x5 : Int} (h : 0 ≤ x0 ∧ 0 ≤ x1 ∧ 0 ≤ x2 ∧ 0 ≤ x3 ∧ 0 ≤ x4 ∧ 0 ≤ x5) (ht : 1 ≤ x0 + x1 + x2 + x3 + x4 + x5 ∧ x0 + x1 + x2 + x3 + x4 + x5 ≤ 20) : Tab [[x0, x1], [x2, x3], [x4, x5]] := by
  refine ⟨⟨by simp, by simp⟩, ⟨by simp [wid], by simp [wid]⟩, ?_, ?_⟩
  · intro r hr
    simp only [List.mem_cons, List.not_mem_nil, or_false] at hr
    rcases hr with rfl | rfl | rfl <;> refine ⟨rfl, fun x hx => ?_⟩ <;> simp only [List.mem_cons, List.not_mem_nil, or_false] at hx <;> omega
  · simp only [totL, sumL, List.map_cons, List.map_nil]
    omega

theorem draft32 {a b m n0 n1 n2 n3 n4 n5 n6 n7 n8 : Int} (hr : okD a b m n0 n1 n2 n3 n4 n5 n6 n7 n8) (ha : a.tmod 2 = 1) (hb : b.tmod 2 = 0) :
    ∃ t, Tab t ∧ t.length = 3 ∧ wid t = 2 ∧ PC Tryd.prog 10 [DD a b [n0, n1, n2, n3, n4, n5, n6, n7, n8] m] (TT t) := by
  obtain ⟨hr, hm⟩ := hr
  obtain ⟨d, hd⟩ : ∃ d, 2 + m.tmod 10 = d := ⟨_, rfl⟩
  obtain ⟨y0, e0⟩ : ∃ y, n0.tmod d = y := ⟨_, rfl⟩
  have hy0 : r8 y0 := by rw [← e0]; exact tmod8 (by simp only [r8] at hr ⊢; omega)
  obtain ⟨x0, g0⟩ : ∃ x, min y0 (20) = x := ⟨_, rfl⟩
  have hx0 : 0 ≤ x0 ∧ x0 ≤ 20 := by simp only [r8] at hy0; omega
  obtain ⟨y1, e1⟩ : ∃ y, n1.tmod d = y := ⟨_, rfl⟩
  have hy1 : r8 y1 := by rw [← e1]; exact tmod8 (by simp only [r8] at hr ⊢; omega)
  obtain ⟨x1, g1⟩ : ∃ x, min y1 (20 - x0) = x := ⟨_, rfl⟩
  have hx1 : 0 ≤ x1 ∧ x1 ≤ 20 - x0 := by simp only [r8] at hy1; clear g0; omega
  obtain ⟨y2, e2⟩ : ∃ y, n3.tmod d = y := ⟨_, rfl⟩
  have hy2 : r8 y2 := by rw [← e2]; exact tmod8 (by simp only [r8] at hr ⊢; omega)
  obtain ⟨x2, g2⟩ : ∃ x, min y2 (20 - x0 - x1) = x := ⟨_, rfl⟩
  have hx2 : 0 ≤ x2 ∧ x2 ≤ 20 - x0 - x1 := by simp only [r8] at hy2; clear g0 g1; omega
  obtain ⟨y3, e3⟩ : ∃ y, n4.tmod d = y := ⟨_, rfl⟩
  have hy3 : r8 y3 := by rw [← e3]; exact tmod8 (by simp only [r8] at hr ⊢; omega)
  obtain ⟨x3, g3⟩ : ∃ x, min y3 (20 - x0 - x1 - x2) = x := ⟨_, rfl⟩
  have hx3 : 0 ≤ x3 ∧ x3 ≤ 20 - x0 - x1 - x2 := by simp only [r8] at hy3; clear g0 g1 g2; omega
  obtain ⟨y4, e4⟩ : ∃ y, n6.tmod d = y := ⟨_, rfl⟩
  have hy4 : r8 y4 := by rw [← e4]; exact tmod8 (by simp only [r8] at hr ⊢; omega)
  obtain ⟨x4, g4⟩ : ∃ x, min y4 (20 - x0 - x1 - x2 - x3) = x := ⟨_, rfl⟩
  have hx4 : 0 ≤ x4 ∧ x4 ≤ 20 - x0 - x1 - x2 - x3 := by simp only [r8] at hy4; clear g0 g1 g2 g3; omega
  obtain ⟨y5, e5⟩ : ∃ y, n7.tmod d = y := ⟨_, rfl⟩
  have hy5 : r8 y5 := by rw [← e5]; exact tmod8 (by simp only [r8] at hr ⊢; omega)
  obtain ⟨x5, g5⟩ : ∃ x, min y5 (20 - x0 - x1 - x2 - x3 - x4) = x := ⟨_, rfl⟩
  have hx5 : 0 ≤ x5 ∧ x5 ≤ 20 - x0 - x1 - x2 - x3 - x4 := by simp only [r8] at hy5; clear g0 g1 g2 g3 g4; omega
  simp only [r8] at hr hy0 hy1 hy2 hy3 hy4 hy5
  refine ⟨if 20 - x0 - x1 - x2 - x3 - x4 - x5 = 20 then [[1, x1], [x2, x3], [x4, x5]] else [[x0, x1], [x2, x3], [x4, x5]], ?_, ?_, ?_, ?_⟩
  · split
    · exact mk32 (by clear g0 g1 g2 g3 g4 g5; omega) (by clear g0 g1 g2 g3 g4 g5; omega)
    · exact mk32 (by clear g0 g1 g2 g3 g4 g5; omega) (by clear g0 g1 g2 g3 g4 g5; omega)
  · split <;> rfl
  · split <;> rfl
  refine pc_fn hmix h10 rfl ?_
  simp -implicitDefEqProofs only [c10, hd, ha, hb, mapN, List.headD_cons, List.tail_cons, push_cast, Nat.reduceBEq, Nat.reduceLT, Nat.reduceLeDiff, Nat.reduceAdd, Nat.reduceSub, Nat.reduceMul, Nat.reduceEqDiff, reduceCtorEq, ↓reduceIte, Int.reduceEq, Int.reduceLT, Int.reduceLE, Int.reduceNe, Int.reduceAdd, Int.reduceSub, Int.reduceMul, Int.reduceToNat, Nat.reduceShiftRight, Nat.reduceAnd, Nat.reduceBNe]
  refine ⟨by simp only [inR]; clear g0 g1 g2 g3 g4 g5; omega, by simp only [inR]; clear g0 g1 g2 g3 g4 g5; omega, by simp only [inR]; clear g0 g1 g2 g3 g4 g5; omega, by simp only [inR]; clear g0 g1 g2 g3 g4 g5; omega, ?_⟩
  repeat first
    | (refine LoopW.wk (wk_t [9, 8, 7, 6, 5, 4, 3, 1] rfl) (LoopW.unroll ?_); simp -implicitDefEqProofs only [hd, c10L0, c10L1, e0, e1, e2, e3, e4, e5, g0, g1, g2, g3, g4, g5, List.getD_cons_zero, List.getD_cons_succ, Int.zero_add, push_cast, Nat.reduceBEq, Nat.reduceLT, Nat.reduceLeDiff, Nat.reduceAdd, Nat.reduceSub, Nat.reduceMul, Nat.reduceEqDiff, reduceCtorEq, ↓reduceIte, Int.reduceEq, Int.reduceLT, Int.reduceLE, Int.reduceNe, Int.reduceAdd, Int.reduceSub, Int.reduceMul, Int.reduceToNat, Nat.reduceShiftRight, Nat.reduceAnd, Nat.reduceBNe])
    | (refine ⟨by first | (simp only [inR]; clear g0 g1 g2 g3 g4 g5; omega) | (simp only [two47]; clear g0 g1 g2 g3 g4 g5; omega) | (clear g0 g1 g2 g3 g4 g5; omega), ?_⟩)
  refine ⟨fun h => ?_, fun h => ?_⟩
  · rw [if_pos h]
    exact finR 16 rfl ⟨rfl, ⟨⟨rfl, Nat.le_refl _⟩, rfl⟩, ⟨⟨rfl, Nat.le_refl _⟩, rfl⟩, ⟨⟨rfl, Nat.le_refl _⟩, rfl⟩, trivial⟩
  · rw [if_neg h]
    exact finR 16 rfl ⟨rfl, ⟨⟨rfl, Nat.le_refl _⟩, rfl⟩, ⟨⟨rfl, Nat.le_refl _⟩, rfl⟩, ⟨⟨rfl, Nat.le_refl _⟩, rfl⟩, trivial⟩
end Go.Proofs.YtligakiolapkkaaDoor

namespace Go.Proofs.YtligakiolapkkaaDoor
open Go GoV
set_option maxHeartbeats 16000000
set_option maxRecDepth 10000
theorem mk33 {x0 x1 x2 x3 x4 x5 x6 x7 x8 : Int} (h : 0 ≤ x0 ∧ 0 ≤ x1 ∧ 0 ≤ x2 ∧ 0 ≤ x3 ∧ 0 ≤ x4 ∧ 0 ≤ x5 ∧ 0 ≤ x6 ∧ 0 ≤ x7 ∧ 0 ≤ x8) (ht : 1 ≤ x0 + x1 + x2 + x3 + x4 + x5 + x6 + x7 + x8 ∧ x0 + x1 + x2 + x3 + x4 + x5 + x6 + x7 + x8 ≤ 20) : Tab [[x0, x1, x2], [x3, x4, x5], [x6, x7, x8]] := by
  refine ⟨⟨by simp, by simp⟩, ⟨by simp [wid], by simp [wid]⟩, ?_, ?_⟩
  · intro r hr
    simp only [List.mem_cons, List.not_mem_nil, or_false] at hr
    rcases hr with rfl | rfl | rfl <;> refine ⟨rfl, fun x hx => ?_⟩ <;> simp only [List.mem_cons, List.not_mem_nil, or_false] at hx <;> omega
  · simp only [totL, sumL, List.map_cons, List.map_nil]
    omega

theorem draft33 {a b m n0 n1 n2 n3 n4 n5 n6 n7 n8 : Int} (hr : okD a b m n0 n1 n2 n3 n4 n5 n6 n7 n8) (ha : a.tmod 2 = 1) (hb : b.tmod 2 = 1) :
    ∃ t, Tab t ∧ t.length = 3 ∧ wid t = 3 ∧ PC Tryd.prog 10 [DD a b [n0, n1, n2, n3, n4, n5, n6, n7, n8] m] (TT t) := by
  obtain ⟨hr, hm⟩ := hr
  obtain ⟨d, hd⟩ : ∃ d, 2 + m.tmod 10 = d := ⟨_, rfl⟩
  obtain ⟨y0, e0⟩ : ∃ y, n0.tmod d = y := ⟨_, rfl⟩
  have hy0 : r8 y0 := by rw [← e0]; exact tmod8 (by simp only [r8] at hr ⊢; omega)
  obtain ⟨x0, g0⟩ : ∃ x, min y0 (20) = x := ⟨_, rfl⟩
  have hx0 : 0 ≤ x0 ∧ x0 ≤ 20 := by simp only [r8] at hy0; omega
  obtain ⟨y1, e1⟩ : ∃ y, n1.tmod d = y := ⟨_, rfl⟩
  have hy1 : r8 y1 := by rw [← e1]; exact tmod8 (by simp only [r8] at hr ⊢; omega)
  obtain ⟨x1, g1⟩ : ∃ x, min y1 (20 - x0) = x := ⟨_, rfl⟩
  have hx1 : 0 ≤ x1 ∧ x1 ≤ 20 - x0 := by simp only [r8] at hy1; clear g0; omega
  obtain ⟨y2, e2⟩ : ∃ y, n2.tmod d = y := ⟨_, rfl⟩
  have hy2 : r8 y2 := by rw [← e2]; exact tmod8 (by simp only [r8] at hr ⊢; omega)
  obtain ⟨x2, g2⟩ : ∃ x, min y2 (20 - x0 - x1) = x := ⟨_, rfl⟩
  have hx2 : 0 ≤ x2 ∧ x2 ≤ 20 - x0 - x1 := by simp only [r8] at hy2; clear g0 g1; omega
  obtain ⟨y3, e3⟩ : ∃ y, n3.tmod d = y := ⟨_, rfl⟩
  have hy3 : r8 y3 := by rw [← e3]; exact tmod8 (by simp only [r8] at hr ⊢; omega)
  obtain ⟨x3, g3⟩ : ∃ x, min y3 (20 - x0 - x1 - x2) = x := ⟨_, rfl⟩
  have hx3 : 0 ≤ x3 ∧ x3 ≤ 20 - x0 - x1 - x2 := by simp only [r8] at hy3; clear g0 g1 g2; omega
  obtain ⟨y4, e4⟩ : ∃ y, n4.tmod d = y := ⟨_, rfl⟩
  have hy4 : r8 y4 := by rw [← e4]; exact tmod8 (by simp only [r8] at hr ⊢; omega)
  obtain ⟨x4, g4⟩ : ∃ x, min y4 (20 - x0 - x1 - x2 - x3) = x := ⟨_, rfl⟩
  have hx4 : 0 ≤ x4 ∧ x4 ≤ 20 - x0 - x1 - x2 - x3 := by simp only [r8] at hy4; clear g0 g1 g2 g3; omega
  obtain ⟨y5, e5⟩ : ∃ y, n5.tmod d = y := ⟨_, rfl⟩
  have hy5 : r8 y5 := by rw [← e5]; exact tmod8 (by simp only [r8] at hr ⊢; omega)
  obtain ⟨x5, g5⟩ : ∃ x, min y5 (20 - x0 - x1 - x2 - x3 - x4) = x := ⟨_, rfl⟩
  have hx5 : 0 ≤ x5 ∧ x5 ≤ 20 - x0 - x1 - x2 - x3 - x4 := by simp only [r8] at hy5; clear g0 g1 g2 g3 g4; omega
  obtain ⟨y6, e6⟩ : ∃ y, n6.tmod d = y := ⟨_, rfl⟩
  have hy6 : r8 y6 := by rw [← e6]; exact tmod8 (by simp only [r8] at hr ⊢; omega)
  obtain ⟨x6, g6⟩ : ∃ x, min y6 (20 - x0 - x1 - x2 - x3 - x4 - x5) = x := ⟨_, rfl⟩
  have hx6 : 0 ≤ x6 ∧ x6 ≤ 20 - x0 - x1 - x2 - x3 - x4 - x5 := by simp only [r8] at hy6; clear g0 g1 g2 g3 g4 g5; omega
  obtain ⟨y7, e7⟩ : ∃ y, n7.tmod d = y := ⟨_, rfl⟩
  have hy7 : r8 y7 := by rw [← e7]; exact tmod8 (by simp only [r8] at hr ⊢; omega)
  obtain ⟨x7, g7⟩ : ∃ x, min y7 (20 - x0 - x1 - x2 - x3 - x4 - x5 - x6) = x := ⟨_, rfl⟩
  have hx7 : 0 ≤ x7 ∧ x7 ≤ 20 - x0 - x1 - x2 - x3 - x4 - x5 - x6 := by simp only [r8] at hy7; clear g0 g1 g2 g3 g4 g5 g6; omega
  obtain ⟨y8, e8⟩ : ∃ y, n8.tmod d = y := ⟨_, rfl⟩
  have hy8 : r8 y8 := by rw [← e8]; exact tmod8 (by simp only [r8] at hr ⊢; omega)
  obtain ⟨x8, g8⟩ : ∃ x, min y8 (20 - x0 - x1 - x2 - x3 - x4 - x5 - x6 - x7) = x := ⟨_, rfl⟩
  have hx8 : 0 ≤ x8 ∧ x8 ≤ 20 - x0 - x1 - x2 - x3 - x4 - x5 - x6 - x7 := by simp only [r8] at hy8; clear g0 g1 g2 g3 g4 g5 g6 g7; omega
  simp only [r8] at hr hy0 hy1 hy2 hy3 hy4 hy5 hy6 hy7 hy8
  refine ⟨if 20 - x0 - x1 - x2 - x3 - x4 - x5 - x6 - x7 - x8 = 20 then [[1, x1, x2], [x3, x4, x5], [x6, x7, x8]] else [[x0, x1, x2], [x3, x4, x5], [x6, x7, x8]], ?_, ?_, ?_, ?_⟩
  · split
    · exact mk33 (by clear g0 g1 g2 g3 g4 g5 g6 g7 g8; omega) (by clear g0 g1 g2 g3 g4 g5 g6 g7 g8; omega)
    · exact mk33 (by clear g0 g1 g2 g3 g4 g5 g6 g7 g8; omega) (by clear g0 g1 g2 g3 g4 g5 g6 g7 g8; omega)
  · split <;> rfl
  · split <;> rfl
  refine pc_fn hmix h10 rfl ?_
  simp -implicitDefEqProofs only [c10, hd, ha, hb, mapN, List.headD_cons, List.tail_cons, push_cast, Nat.reduceBEq, Nat.reduceLT, Nat.reduceLeDiff, Nat.reduceAdd, Nat.reduceSub, Nat.reduceMul, Nat.reduceEqDiff, reduceCtorEq, ↓reduceIte, Int.reduceEq, Int.reduceLT, Int.reduceLE, Int.reduceNe, Int.reduceAdd, Int.reduceSub, Int.reduceMul, Int.reduceToNat, Nat.reduceShiftRight, Nat.reduceAnd, Nat.reduceBNe]
  refine ⟨by simp only [inR]; clear g0 g1 g2 g3 g4 g5 g6 g7 g8; omega, by simp only [inR]; clear g0 g1 g2 g3 g4 g5 g6 g7 g8; omega, by simp only [inR]; clear g0 g1 g2 g3 g4 g5 g6 g7 g8; omega, by simp only [inR]; clear g0 g1 g2 g3 g4 g5 g6 g7 g8; omega, ?_⟩
  repeat first
    | (refine LoopW.wk (wk_t [9, 8, 7, 6, 5, 4, 3, 1] rfl) (LoopW.unroll ?_); simp -implicitDefEqProofs only [hd, c10L0, c10L1, e0, e1, e2, e3, e4, e5, e6, e7, e8, g0, g1, g2, g3, g4, g5, g6, g7, g8, List.getD_cons_zero, List.getD_cons_succ, Int.zero_add, push_cast, Nat.reduceBEq, Nat.reduceLT, Nat.reduceLeDiff, Nat.reduceAdd, Nat.reduceSub, Nat.reduceMul, Nat.reduceEqDiff, reduceCtorEq, ↓reduceIte, Int.reduceEq, Int.reduceLT, Int.reduceLE, Int.reduceNe, Int.reduceAdd, Int.reduceSub, Int.reduceMul, Int.reduceToNat, Nat.reduceShiftRight, Nat.reduceAnd, Nat.reduceBNe])
    | (refine ⟨by first | (simp only [inR]; clear g0 g1 g2 g3 g4 g5 g6 g7 g8; omega) | (simp only [two47]; clear g0 g1 g2 g3 g4 g5 g6 g7 g8; omega) | (clear g0 g1 g2 g3 g4 g5 g6 g7 g8; omega), ?_⟩)
  refine ⟨fun h => ?_, fun h => ?_⟩
  · rw [if_pos h]
    exact finR 19 rfl ⟨rfl, ⟨⟨rfl, Nat.le_refl _⟩, rfl⟩, ⟨⟨rfl, Nat.le_refl _⟩, rfl⟩, ⟨⟨rfl, Nat.le_refl _⟩, rfl⟩, trivial⟩
  · rw [if_neg h]
    exact finR 19 rfl ⟨rfl, ⟨⟨rfl, Nat.le_refl _⟩, rfl⟩, ⟨⟨rfl, Nat.le_refl _⟩, rfl⟩, ⟨⟨rfl, Nat.le_refl _⟩, rfl⟩, trivial⟩
end Go.Proofs.YtligakiolapkkaaDoor

namespace Go.Proofs.YtligakiolapkkaaDoor
open Go GoV
set_option maxHeartbeats 16000000
set_option maxRecDepth 10000
theorem draft_pc {a b m n0 n1 n2 n3 n4 n5 n6 n7 n8 : Int} (hr : r8 a ∧ r8 b ∧ r8 m ∧ r8 n0 ∧ r8 n1 ∧ r8 n2 ∧ r8 n3 ∧ r8 n4 ∧ r8 n5 ∧ r8 n6 ∧ r8 n7 ∧ r8 n8) :
    ∃ t, Tab t ∧ PC Tryd.prog 10 [DD a b [n0, n1, n2, n3, n4, n5, n6, n7, n8] m] (TT t) := by
  have h0 : okD a b m n0 n1 n2 n3 n4 n5 n6 n7 n8 := ⟨hr, Int.tmod_nonneg _ hr.2.2.1.1, by have := Int.tmod_lt_of_pos m (b := 10) (by omega); omega⟩
  have h1 : a.tmod 2 = 0 ∨ a.tmod 2 = 1 := by
    have := Int.tmod_nonneg 2 hr.1.1
    have := Int.tmod_lt_of_pos a (b := 2) (by omega)
    omega
  have h2 : b.tmod 2 = 0 ∨ b.tmod 2 = 1 := by
    have := Int.tmod_nonneg 2 hr.2.1.1
    have := Int.tmod_lt_of_pos b (b := 2) (by omega)
    omega
  rcases h1 with h1 | h1 <;> rcases h2 with h2 | h2
  · obtain ⟨t, k, _, _, p⟩ := draft22 h0 h1 h2; exact ⟨t, k, p⟩
  · obtain ⟨t, k, _, _, p⟩ := draft23 h0 h1 h2; exact ⟨t, k, p⟩
  · obtain ⟨t, k, _, _, p⟩ := draft32 h0 h1 h2; exact ⟨t, k, p⟩
  · obtain ⟨t, k, _, _, p⟩ := draft33 h0 h1 h2; exact ⟨t, k, p⟩
end Go.Proofs.YtligakiolapkkaaDoor
