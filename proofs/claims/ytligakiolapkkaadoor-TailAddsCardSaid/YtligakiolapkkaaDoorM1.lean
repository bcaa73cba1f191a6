/- Texts of this claim, joined: an abstract machine over the model, proved sound; contracts of functions. -/
import Derived.Test.YtligakiolapkkaaDoorV30
import Derived.Test.YtligakiolapkkaaDoorChecked
import Derived.KernelRfl
import Derived.Test.YtligakiolapkkaaDoorV32
set_option linter.unusedSimpArgs false
set_option linter.unusedVariables false

namespace Go.Proofs.YtligakiolapkkaaDoor
open Go GoV
instance : GTab := { tab := fun g => match g with | 0 => some ⟨.arr 21 (.int .i64), [(1 : Int), (1 : Int), (2 : Int), (6 : Int), (24 : Int), (120 : Int), (720 : Int), (5040 : Int), (40320 : Int), (362880 : Int), (3628800 : Int), (39916800 : Int), (479001600 : Int), (6227020800 : Int), (87178291200 : Int), (1307674368000 : Int), (20922789888000 : Int), (355687428096000 : Int), (6402373705728000 : Int), (121645100408832000 : Int), (2432902008176640000 : Int)]⟩ | _ => none, frz := fun f => Nat.beq f 35, pure := fun n => Nat.beq n 51 || Nat.beq n 85 }

def c3L0 : AC := (AC.reg false [⟨some 49, .bin .lss (.t 48) (Opd.c (AV.dat (Ty.int IntKind.i64) (3 : Int))), none⟩]).seq ((AC.cond (.t 49) AC.skip (AC.exit 0)).seq ((AC.block 1 ((AC.reg false [⟨some 50, .idx 3 1 false (.t 47) (.t 48), none⟩, ⟨some 12, .mov (.t 50), none⟩]).seq ((AC.reg false [⟨some 51, .mov (.t 12), none⟩, ⟨some 52, .call (Opd.c (AV.fn 12 [] [])) [Opd.t 51], none⟩, ⟨some 13, .mov (.t 52), none⟩]).seq ((AC.reg false [⟨some 54, .mov (.t 12), none⟩, ⟨some 55, .call (Opd.c (AV.fn 13 [] [])) [Opd.t 54], none⟩, ⟨some 53, .mov (.t 55), none⟩, ⟨some 56, .ext (.t 53) 0, none⟩, ⟨some 57, .ext (.t 53) 1, none⟩, ⟨some 58, .ext (.t 53) 2, none⟩, ⟨some 14, .mov (.t 56), none⟩, ⟨some 15, .mov (.t 57), none⟩, ⟨some 16, .mov (.t 58), none⟩]).seq ((AC.reg false [⟨some 60, .mov (.t 12), none⟩, ⟨some 61, .call (Opd.c (AV.fn 14 [] [])) [Opd.t 60], none⟩, ⟨some 59, .mov (.t 61), none⟩, ⟨some 62, .ext (.t 59) 0, none⟩, ⟨some 63, .ext (.t 59) 1, none⟩, ⟨some 17, .mov (.t 62), none⟩, ⟨some 18, .mov (.t 63), none⟩]).seq ((AC.reg false [⟨some 65, .mov (.t 12), none⟩, ⟨some 66, .call (Opd.c (AV.fn 15 [] [])) [Opd.t 65], none⟩, ⟨some 64, .mov (.t 66), none⟩, ⟨some 67, .ext (.t 64) 0, none⟩, ⟨some 68, .ext (.t 64) 1, none⟩, ⟨some 19, .mov (.t 67), none⟩, ⟨some 20, .mov (.t 68), none⟩]).seq (((AC.reg false [⟨some 69, .mov (.t 12), none⟩, ⟨some 70, .call (Opd.c (AV.fn 16 [] [])) [Opd.t 69], none⟩, ⟨some 71, .un UnOp.not (.t 70), none⟩]).seq (AC.cond (.t 71) (((AC.reg false [⟨some 72, .mov (.t 13), none⟩, ⟨some 73, .bin .neq (.t 72) (Opd.c (AV.dat (Ty.int IntKind.i64) (300 : Int))), none⟩, ⟨some 74, .mov (.t 73), none⟩, ⟨some 75, .mov (.t 16), some (74, false)⟩, ⟨some 76, .bin .neq (.t 75) (Opd.c (AV.dat (Ty.int IntKind.i64) (300 : Int))), some (74, false)⟩, ⟨some 77, .pick (.t 74) (Opd.c (AV.dat Ty.bool true)) (.t 76), none⟩, ⟨some 78, .mov (.t 77), none⟩, ⟨some 79, .mov (.t 18), some (78, false)⟩, ⟨some 80, .bin .neq (.t 79) (Opd.c (AV.dat (Ty.int IntKind.i64) (300 : Int))), some (78, false)⟩, ⟨some 81, .pick (.t 78) (Opd.c (AV.dat Ty.bool true)) (.t 80), none⟩, ⟨some 82, .mov (.t 81), none⟩, ⟨some 83, .mov (.t 20), some (82, false)⟩, ⟨some 84, .bin .neq (.t 83) (Opd.c (AV.dat (Ty.int IntKind.i64) (300 : Int))), some (82, false)⟩, ⟨some 85, .pick (.t 82) (Opd.c (AV.dat Ty.bool true)) (.t 84), none⟩, ⟨some 86, .mov (.t 85), none⟩, ⟨some 87, .mov (.t 14), some (86, false)⟩, ⟨some 88, .len (.t 87), some (86, false)⟩, ⟨some 89, .bin .gtr (.t 88) (Opd.c (AV.dat (Ty.int IntKind.i64) (0 : Int))), some (86, false)⟩, ⟨some 90, .pick (.t 86) (Opd.c (AV.dat Ty.bool true)) (.t 89), none⟩, ⟨some 91, .mov (.t 90), none⟩, ⟨some 92, .mov (.t 15), some (91, false)⟩, ⟨some 93, .len (.t 92), some (91, false)⟩, ⟨some 94, .bin .gtr (.t 93) (Opd.c (AV.dat (Ty.int IntKind.i64) (0 : Int))), some (91, false)⟩, ⟨some 95, .pick (.t 91) (Opd.c (AV.dat Ty.bool true)) (.t 94), none⟩, ⟨some 96, .mov (.t 95), none⟩, ⟨some 97, .mov (.t 17), some (96, false)⟩, ⟨some 98, .bin .neq (.t 97) (Opd.c (AV.dat (Ty.int IntKind.i64) (0 : Int))), some (96, false)⟩, ⟨some 99, .pick (.t 96) (Opd.c (AV.dat Ty.bool true)) (.t 98), none⟩, ⟨some 100, .mov (.t 99), none⟩, ⟨some 101, .mov (.t 19), some (100, false)⟩, ⟨some 102, .bin .neq (.t 101) (Opd.c (AV.dat (Ty.int IntKind.i64) (0 : Int))), some (100, false)⟩, ⟨some 103, .pick (.t 100) (Opd.c (AV.dat Ty.bool true)) (.t 102), none⟩]).seq (AC.cond (.t 103) ((AC.reg false [⟨some 8, .mov (Opd.c (AV.dat Ty.bool false)), none⟩]).seq AC.ret) AC.skip)).seq (AC.exit 1)) AC.skip)).seq ((AC.reg false [⟨some 104, .mov (.t 13), none⟩, ⟨some 105, .bin .neq (.t 104) (Opd.c (AV.dat (Ty.int IntKind.i64) (0 : Int))), none⟩, ⟨some 106, .mov (.t 105), none⟩, ⟨some 107, .mov (.t 16), some (106, false)⟩, ⟨some 108, .bin .neq (.t 107) (Opd.c (AV.dat (Ty.int IntKind.i64) (0 : Int))), some (106, false)⟩, ⟨some 109, .pick (.t 106) (Opd.c (AV.dat Ty.bool true)) (.t 108), none⟩, ⟨some 110, .mov (.t 109), none⟩, ⟨some 111, .mov (.t 18), some (110, false)⟩, ⟨some 112, .bin .neq (.t 111) (Opd.c (AV.dat (Ty.int IntKind.i64) (0 : Int))), some (110, false)⟩, ⟨some 113, .pick (.t 110) (Opd.c (AV.dat Ty.bool true)) (.t 112), none⟩, ⟨some 114, .mov (.t 113), none⟩, ⟨some 115, .mov (.t 20), some (114, false)⟩, ⟨some 116, .bin .neq (.t 115) (Opd.c (AV.dat (Ty.int IntKind.i64) (0 : Int))), some (114, false)⟩, ⟨some 117, .pick (.t 114) (Opd.c (AV.dat Ty.bool true)) (.t 116), none⟩, ⟨some 118, .mov (.t 117), none⟩, ⟨some 119, .mov (.t 14), some (118, false)⟩, ⟨some 120, .mov (.t 12), some (118, false)⟩, ⟨some 121, .call (Opd.c (AV.fn 18 [] [])) [Opd.t 120], some (118, false)⟩, ⟨some 122, .call (Opd.c (AV.fn 17 [] [])) [Opd.t 119, Opd.t 121], some (118, false)⟩, ⟨some 123, .un UnOp.not (.t 122), some (118, false)⟩, ⟨some 124, .pick (.t 118) (Opd.c (AV.dat Ty.bool true)) (.t 123), none⟩, ⟨some 125, .mov (.t 124), none⟩, ⟨some 126, .mov (.t 15), some (125, false)⟩, ⟨some 127, .mov (.t 12), some (125, false)⟩, ⟨some 128, .call (Opd.c (AV.fn 19 [] [])) [Opd.t 127], some (125, false)⟩, ⟨some 129, .call (Opd.c (AV.fn 17 [] [])) [Opd.t 126, Opd.t 128], some (125, false)⟩, ⟨some 130, .un UnOp.not (.t 129), some (125, false)⟩, ⟨some 131, .pick (.t 125) (Opd.c (AV.dat Ty.bool true)) (.t 130), none⟩, ⟨some 132, .mov (.t 131), none⟩, ⟨some 133, .mov (.t 17), some (132, false)⟩, ⟨some 134, .mov (.t 12), some (132, false)⟩, ⟨some 135, .call (Opd.c (AV.fn 20 [] [])) [Opd.t 134], some (132, false)⟩, ⟨some 136, .bin .neq (.t 133) (.t 135), some (132, false)⟩, ⟨some 137, .pick (.t 132) (Opd.c (AV.dat Ty.bool true)) (.t 136), none⟩, ⟨some 138, .mov (.t 137), none⟩, ⟨some 139, .mov (.t 19), some (138, false)⟩, ⟨some 140, .mov (.t 12), some (138, false)⟩, ⟨some 141, .call (Opd.c (AV.fn 21 [] [])) [Opd.t 140], some (138, false)⟩, ⟨some 142, .bin .neq (.t 139) (.t 141), some (138, false)⟩, ⟨some 143, .pick (.t 138) (Opd.c (AV.dat Ty.bool true)) (.t 142), none⟩]).seq (AC.cond (.t 143) ((AC.reg false [⟨some 8, .mov (Opd.c (AV.dat Ty.bool false)), none⟩]).seq AC.ret) AC.skip))))))))).seq (AC.reg false [⟨some 144, .bin .add (.t 48) (Opd.c (AV.dat (Ty.int IntKind.i64) (1 : Int))), none⟩, ⟨some 48, .mov (.t 144), none⟩])))
def c3 : FnC := { n := 146, body := (AC.reg false [⟨some 4, .box (.t 0), none⟩, ⟨some 8, .mov (Opd.c (AV.dat Ty.bool false)), none⟩]).seq ((AC.reg false [⟨some 21, .load 12 true (.t 4), none⟩, ⟨some 22, .call (Opd.c (AV.fn 10 [] [])) [Opd.t 21], none⟩, ⟨some 9, .mov (.t 22), none⟩]).seq ((AC.reg false [⟨some 23, .mov (.t 9), none⟩, ⟨some 24, .call (Opd.c (AV.fn 11 [] [])) [Opd.t 23], none⟩, ⟨some 10, .mov (.t 24), none⟩]).seq ((AC.reg true [⟨some 25, .mov (.t 10), none⟩, ⟨some 26, .mov (.t 1), none⟩, ⟨some 27, .conv IntKind.i64 (.t 26), none⟩, ⟨some 28, .mov (.t 10), none⟩, ⟨some 29, .len (.t 28), none⟩, ⟨some 30, .bin .rem (.t 27) (.t 29), none⟩, ⟨some 31, .idxA 1 (.t 25) (.t 30), none⟩, ⟨some 32, .load 1 false (.t 31), none⟩, ⟨some 33, .mov (.t 1), none⟩, ⟨some 34, .bin .quo (.t 33) (Opd.c (AV.dat (Ty.int IntKind.u8) (4 : Int))), none⟩, ⟨some 35, .conv IntKind.i64 (.t 34), none⟩, ⟨some 36, .mov (.t 10), none⟩, ⟨some 37, .idxA 1 (.t 36) (Opd.c (AV.dat (Ty.int IntKind.i64) (0 : Int))), none⟩, ⟨some 38, .load 1 false (.t 37), none⟩, ⟨some 39, .len (.t 38), none⟩, ⟨some 40, .bin .rem (.t 35) (.t 39), none⟩, ⟨some 41, .mov (.t 2), none⟩, ⟨some 42, .idxA 1 (.t 32) (.t 40), none⟩, ⟨none, .store 1 (.t 42) (.t 41), none⟩]).seq (((AC.reg false [⟨some 43, .mov (.t 9), none⟩, ⟨some 44, .mov (.t 10), none⟩, ⟨some 45, .mov (.t 3), none⟩, ⟨some 46, .call (Opd.c (AV.fn 11 [] [])) [Opd.t 45], none⟩, ⟨some 47, .build [AV.nils, AV.nils, AV.nils] [(0, 1, Opd.t 43), (1, 1, Opd.t 44), (2, 1, Opd.t 46)], none⟩, ⟨some 48, .mov (Opd.c (AV.dat (Ty.int IntKind.i64) (0 : Int))), none⟩]).seq (AC.block 0 (AC.loop c3L0))).seq ((AC.reg false [⟨some 145, .call (Opd.c (AV.fn 22 [] [])) [], none⟩, ⟨some 8, .mov (.t 145), none⟩]).seq AC.ret))))), res := [RV.tmp 8] }
set_option maxRecDepth 100000 in
theorem h3 : fnOf Tryd.prog 3 = some c3 := by kernel_rfl
def c4L0 : AC := (AC.reg false [⟨some 43, .bin .lss (.t 42) (Opd.c (AV.dat (Ty.int IntKind.i64) (3 : Int))), none⟩]).seq ((AC.cond (.t 43) AC.skip (AC.exit 0)).seq ((AC.block 1 ((AC.reg false [⟨some 44, .idx 3 1 false (.t 41) (.t 42), none⟩, ⟨some 12, .mov (.t 44), none⟩]).seq ((AC.reg false [⟨some 46, .mov (.t 12), none⟩, ⟨some 47, .call (Opd.c (AV.fn 23 [] [])) [Opd.t 46], none⟩, ⟨some 45, .mov (.t 47), none⟩, ⟨some 48, .ext (.t 45) 0, none⟩, ⟨some 49, .ext (.t 45) 1, none⟩, ⟨some 13, .mov (.t 48), none⟩, ⟨some 14, .mov (.t 49), none⟩]).seq (((AC.reg false [⟨some 50, .mov (.t 12), none⟩, ⟨some 51, .call (Opd.c (AV.fn 16 [] [])) [Opd.t 50], none⟩, ⟨some 52, .un UnOp.not (.t 51), none⟩]).seq (AC.cond (.t 52) (((AC.reg false [⟨some 53, .mov (.t 14), none⟩, ⟨some 54, .bin .neq (.t 53) (Opd.c (AV.dat (Ty.int IntKind.i64) (300 : Int))), none⟩, ⟨some 55, .mov (.t 54), none⟩, ⟨some 56, .mov (.t 13), some (55, false)⟩, ⟨some 57, .len (.t 56), some (55, false)⟩, ⟨some 58, .bin .gtr (.t 57) (Opd.c (AV.dat (Ty.int IntKind.i64) (0 : Int))), some (55, false)⟩, ⟨some 59, .pick (.t 55) (Opd.c (AV.dat Ty.bool true)) (.t 58), none⟩]).seq (AC.cond (.t 59) ((AC.reg false [⟨some 8, .mov (Opd.c (AV.dat Ty.bool false)), none⟩]).seq AC.ret) AC.skip)).seq (AC.exit 1)) AC.skip)).seq ((AC.reg false [⟨some 60, .mov (.t 14), none⟩, ⟨some 61, .bin .neq (.t 60) (Opd.c (AV.dat (Ty.int IntKind.i64) (0 : Int))), none⟩, ⟨some 62, .mov (.t 61), none⟩, ⟨some 63, .mov (.t 13), some (62, false)⟩, ⟨some 64, .mov (.t 12), some (62, false)⟩, ⟨some 65, .call (Opd.c (AV.fn 25 [] [])) [Opd.t 64], some (62, false)⟩, ⟨some 66, .call (Opd.c (AV.fn 24 [] [])) [Opd.t 63, Opd.t 65, Opd.c (AV.fn 26 [] [])], some (62, false)⟩, ⟨some 67, .un UnOp.not (.t 66), some (62, false)⟩, ⟨some 68, .pick (.t 62) (Opd.c (AV.dat Ty.bool true)) (.t 67), none⟩]).seq (AC.cond (.t 68) ((AC.reg false [⟨some 8, .mov (Opd.c (AV.dat Ty.bool false)), none⟩]).seq AC.ret) AC.skip)))))).seq (AC.reg false [⟨some 69, .bin .add (.t 42) (Opd.c (AV.dat (Ty.int IntKind.i64) (1 : Int))), none⟩, ⟨some 42, .mov (.t 69), none⟩])))
def c4 : FnC := { n := 71, body := (AC.reg false [⟨some 4, .box (.t 0), none⟩, ⟨some 8, .mov (Opd.c (AV.dat Ty.bool false)), none⟩]).seq ((AC.reg false [⟨some 15, .load 12 true (.t 4), none⟩, ⟨some 16, .call (Opd.c (AV.fn 10 [] [])) [Opd.t 15], none⟩, ⟨some 9, .mov (.t 16), none⟩]).seq ((AC.reg false [⟨some 17, .mov (.t 9), none⟩, ⟨some 18, .call (Opd.c (AV.fn 11 [] [])) [Opd.t 17], none⟩, ⟨some 10, .mov (.t 18), none⟩]).seq ((AC.reg true [⟨some 19, .mov (.t 10), none⟩, ⟨some 20, .mov (.t 1), none⟩, ⟨some 21, .conv IntKind.i64 (.t 20), none⟩, ⟨some 22, .mov (.t 10), none⟩, ⟨some 23, .len (.t 22), none⟩, ⟨some 24, .bin .rem (.t 21) (.t 23), none⟩, ⟨some 25, .idxA 1 (.t 19) (.t 24), none⟩, ⟨some 26, .load 1 false (.t 25), none⟩, ⟨some 27, .mov (.t 1), none⟩, ⟨some 28, .bin .quo (.t 27) (Opd.c (AV.dat (Ty.int IntKind.u8) (4 : Int))), none⟩, ⟨some 29, .conv IntKind.i64 (.t 28), none⟩, ⟨some 30, .mov (.t 10), none⟩, ⟨some 31, .idxA 1 (.t 30) (Opd.c (AV.dat (Ty.int IntKind.i64) (0 : Int))), none⟩, ⟨some 32, .load 1 false (.t 31), none⟩, ⟨some 33, .len (.t 32), none⟩, ⟨some 34, .bin .rem (.t 29) (.t 33), none⟩, ⟨some 35, .mov (.t 2), none⟩, ⟨some 36, .idxA 1 (.t 26) (.t 34), none⟩, ⟨none, .store 1 (.t 36) (.t 35), none⟩]).seq (((AC.reg false [⟨some 37, .mov (.t 9), none⟩, ⟨some 38, .mov (.t 10), none⟩, ⟨some 39, .mov (.t 3), none⟩, ⟨some 40, .call (Opd.c (AV.fn 11 [] [])) [Opd.t 39], none⟩, ⟨some 41, .build [AV.nils, AV.nils, AV.nils] [(0, 1, Opd.t 37), (1, 1, Opd.t 38), (2, 1, Opd.t 40)], none⟩, ⟨some 42, .mov (Opd.c (AV.dat (Ty.int IntKind.i64) (0 : Int))), none⟩]).seq (AC.block 0 (AC.loop c4L0))).seq ((AC.reg false [⟨some 70, .call (Opd.c (AV.fn 22 [] [])) [], none⟩, ⟨some 8, .mov (.t 70), none⟩]).seq AC.ret))))), res := [RV.tmp 8] }
set_option maxRecDepth 100000 in
theorem h4 : fnOf Tryd.prog 4 = some c4 := by kernel_rfl
def c9L0 : AC := (AC.reg false [⟨some 53, .bin .lss (.t 52) (.t 51), none⟩]).seq ((AC.cond (.t 53) AC.skip (AC.exit 0)).seq ((AC.block 1 ((AC.reg false [⟨some 54, .mov (.t 52), none⟩, ⟨some 55, .idxA 1 (.t 50) (.t 52), none⟩, ⟨some 56, .load 1 false (.t 55), none⟩, ⟨some 13, .mov (.t 54), none⟩, ⟨some 14, .mov (.t 56), none⟩]).seq ((AC.reg false [⟨some 58, .mov (.t 14), none⟩, ⟨some 59, .call (Opd.c (AV.fn 13 [] [])) [Opd.t 58], none⟩, ⟨some 57, .mov (.t 59), none⟩, ⟨some 60, .ext (.t 57) 0, none⟩, ⟨some 61, .ext (.t 57) 1, none⟩, ⟨some 62, .ext (.t 57) 2, none⟩, ⟨some 15, .mov (.t 60), none⟩, ⟨some 16, .mov (.t 61), none⟩, ⟨some 17, .mov (.t 62), none⟩]).seq ((AC.reg false [⟨some 64, .mov (.t 14), none⟩, ⟨some 65, .call (Opd.c (AV.fn 14 [] [])) [Opd.t 64], none⟩, ⟨some 63, .mov (.t 65), none⟩, ⟨some 66, .ext (.t 63) 0, none⟩, ⟨some 67, .ext (.t 63) 1, none⟩, ⟨some 18, .mov (.t 66), none⟩, ⟨some 19, .mov (.t 67), none⟩]).seq (((AC.reg false [⟨some 68, .mov (.t 17), none⟩, ⟨some 69, .bin .neq (.t 68) (Opd.c (AV.dat (Ty.int IntKind.i64) (0 : Int))), none⟩, ⟨some 70, .mov (.t 69), none⟩, ⟨some 71, .mov (.t 19), some (70, false)⟩, ⟨some 72, .bin .neq (.t 71) (Opd.c (AV.dat (Ty.int IntKind.i64) (0 : Int))), some (70, false)⟩, ⟨some 73, .pick (.t 70) (Opd.c (AV.dat Ty.bool true)) (.t 72), none⟩, ⟨some 74, .mov (.t 73), none⟩, ⟨some 75, .mov (.t 18), some (74, false)⟩, ⟨some 76, .bin .lss (.t 75) (Opd.c (AV.dat (Ty.int IntKind.i64) (1 : Int))), some (74, false)⟩, ⟨some 77, .pick (.t 74) (Opd.c (AV.dat Ty.bool true)) (.t 76), none⟩, ⟨some 78, .mov (.t 77), none⟩, ⟨some 79, .mov (.t 15), some (78, false)⟩, ⟨some 80, .mov (.t 4), some (78, false)⟩, ⟨some 81, .call (Opd.c (AV.fn 17 [] [])) [Opd.t 79, Opd.t 80], some (78, false)⟩, ⟨some 82, .un UnOp.not (.t 81), some (78, false)⟩, ⟨some 83, .pick (.t 78) (Opd.c (AV.dat Ty.bool true)) (.t 82), none⟩, ⟨some 84, .mov (.t 83), none⟩, ⟨some 85, .mov (.t 16), some (84, false)⟩, ⟨some 86, .mov (.t 5), some (84, false)⟩, ⟨some 87, .call (Opd.c (AV.fn 17 [] [])) [Opd.t 85, Opd.t 86], some (84, false)⟩, ⟨some 88, .un UnOp.not (.t 87), some (84, false)⟩, ⟨some 89, .pick (.t 84) (Opd.c (AV.dat Ty.bool true)) (.t 88), none⟩]).seq (AC.cond (.t 89) ((AC.reg false [⟨some 2, .mov (Opd.c (AV.dat Ty.bool false)), none⟩]).seq AC.ret) AC.skip)).seq (((AC.reg false [⟨some 90, .mov (.t 13), none⟩, ⟨some 91, .bin .gtr (.t 90) (Opd.c (AV.dat (Ty.int IntKind.i64) (0 : Int))), none⟩, ⟨some 92, .mov (.t 91), none⟩, ⟨some 93, .mov (.t 7), some (92, true)⟩, ⟨some 94, .mov (.t 13), some (92, true)⟩, ⟨some 95, .bin .sub (.t 94) (Opd.c (AV.dat (Ty.int IntKind.i64) (1 : Int))), some (92, true)⟩, ⟨some 96, .idxA 1 (.t 93) (.t 95), some (92, true)⟩, ⟨some 97, .load 1 false (.t 96), some (92, true)⟩, ⟨some 98, .call (Opd.c (AV.fn 38 [] [])) [Opd.t 97], some (92, true)⟩, ⟨some 99, .mov (.t 14), some (92, true)⟩, ⟨some 100, .call (Opd.c (AV.fn 38 [] [])) [Opd.t 99], some (92, true)⟩, ⟨some 101, .call (Opd.c (AV.fn 37 [] [])) [Opd.t 98, Opd.t 100], some (92, true)⟩, ⟨some 102, .bin .geq (.t 101) (Opd.c (AV.dat (Ty.int IntKind.i64) (0 : Int))), some (92, true)⟩, ⟨some 103, .pick (.t 92) (.t 102) (Opd.c (AV.dat Ty.bool false)), none⟩]).seq (AC.cond (.t 103) ((AC.reg false [⟨some 2, .mov (Opd.c (AV.dat Ty.bool false)), none⟩]).seq AC.ret) AC.skip)).seq ((AC.reg false [⟨some 104, .mov (.t 11), none⟩, ⟨some 105, .mov (.t 18), none⟩, ⟨some 106, .bin .add (.t 104) (.t 105), none⟩, ⟨some 11, .mov (.t 106), none⟩]).seq (AC.reg false [⟨some 107, .mov (.t 12), none⟩, ⟨some 108, .mov (.t 107), none⟩, ⟨some 109, .mov (.t 14), some (108, false)⟩, ⟨some 110, .mov (.t 3), some (108, false)⟩, ⟨some 111, .call (Opd.c (AV.fn 26 [] [])) [Opd.t 109, Opd.t 110], some (108, false)⟩, ⟨some 112, .pick (.t 108) (Opd.c (AV.dat Ty.bool true)) (.t 111), none⟩, ⟨some 12, .mov (.t 112), none⟩])))))))).seq (AC.reg false [⟨some 113, .bin .add (.t 52) (Opd.c (AV.dat (Ty.int IntKind.i64) (1 : Int))), none⟩, ⟨some 52, .mov (.t 113), none⟩])))
def c9 : FnC := { n := 120, body := (AC.reg false [⟨some 1, .box (.t 0), none⟩, ⟨some 2, .mov (Opd.c (AV.dat Ty.bool false)), none⟩]).seq (((AC.reg false [⟨some 20, .call (Opd.c (AV.fn 22 [] [])) [], none⟩, ⟨some 21, .un UnOp.not (.t 20), none⟩]).seq (AC.cond (.t 21) ((AC.reg false [⟨some 2, .mov (Opd.c (AV.dat Ty.bool false)), none⟩]).seq AC.ret) AC.skip)).seq ((AC.reg false [⟨some 22, .load 12 true (.t 1), none⟩, ⟨some 23, .call (Opd.c (AV.fn 10 [] [])) [Opd.t 22], none⟩, ⟨some 3, .mov (.t 23), none⟩]).seq ((AC.reg false [⟨some 25, .mov (.t 3), none⟩, ⟨some 26, .call (Opd.c (AV.fn 13 [] [])) [Opd.t 25], none⟩, ⟨some 24, .mov (.t 26), none⟩, ⟨some 27, .ext (.t 24) 0, none⟩, ⟨some 28, .ext (.t 24) 1, none⟩, ⟨some 29, .ext (.t 24) 2, none⟩, ⟨some 4, .mov (.t 27), none⟩, ⟨some 5, .mov (.t 28), none⟩, ⟨some 6, .mov (.t 29), none⟩]).seq ((AC.reg false [⟨some 31, .mov (.t 3), none⟩, ⟨some 32, .call (Opd.c (AV.fn 23 [] [])) [Opd.t 31], none⟩, ⟨some 30, .mov (.t 32), none⟩, ⟨some 33, .ext (.t 30) 0, none⟩, ⟨some 34, .ext (.t 30) 1, none⟩, ⟨some 7, .mov (.t 33), none⟩, ⟨some 8, .mov (.t 34), none⟩]).seq ((AC.reg false [⟨some 36, .mov (.t 3), none⟩, ⟨some 37, .call (Opd.c (AV.fn 15 [] [])) [Opd.t 36], none⟩, ⟨some 35, .mov (.t 37), none⟩, ⟨some 38, .ext (.t 35) 0, none⟩, ⟨some 39, .ext (.t 35) 1, none⟩, ⟨some 9, .mov (.t 38), none⟩, ⟨some 10, .mov (.t 39), none⟩]).seq (((AC.reg false [⟨some 40, .mov (.t 6), none⟩, ⟨some 41, .bin .neq (.t 40) (Opd.c (AV.dat (Ty.int IntKind.i64) (0 : Int))), none⟩, ⟨some 42, .mov (.t 41), none⟩, ⟨some 43, .mov (.t 8), some (42, false)⟩, ⟨some 44, .bin .neq (.t 43) (Opd.c (AV.dat (Ty.int IntKind.i64) (0 : Int))), some (42, false)⟩, ⟨some 45, .pick (.t 42) (Opd.c (AV.dat Ty.bool true)) (.t 44), none⟩, ⟨some 46, .mov (.t 45), none⟩, ⟨some 47, .mov (.t 10), some (46, false)⟩, ⟨some 48, .bin .neq (.t 47) (Opd.c (AV.dat (Ty.int IntKind.i64) (0 : Int))), some (46, false)⟩, ⟨some 49, .pick (.t 46) (Opd.c (AV.dat Ty.bool true)) (.t 48), none⟩]).seq (AC.cond (.t 49) ((AC.reg false [⟨some 2, .mov (Opd.c (AV.dat Ty.bool false)), none⟩]).seq AC.ret) AC.skip)).seq ((AC.reg false [⟨some 11, .mov (Opd.c (AV.dat (Ty.int IntKind.i64) (0 : Int))), none⟩, ⟨some 12, .mov (Opd.c (AV.dat Ty.bool false)), none⟩]).seq (((AC.reg false [⟨some 50, .mov (.t 7), none⟩, ⟨some 51, .len (.t 50), none⟩, ⟨some 52, .mov (Opd.c (AV.dat (Ty.int IntKind.i64) (0 : Int))), none⟩]).seq (AC.block 0 (AC.loop c9L0))).seq ((AC.reg false [⟨some 114, .mov (.t 12), none⟩, ⟨some 115, .mov (.t 114), none⟩, ⟨some 116, .mov (.t 11), some (115, true)⟩, ⟨some 117, .mov (.t 9), some (115, true)⟩, ⟨some 118, .bin .eql (.t 116) (.t 117), some (115, true)⟩, ⟨some 119, .pick (.t 115) (.t 118) (Opd.c (AV.dat Ty.bool false)), none⟩, ⟨some 2, .mov (.t 119), none⟩]).seq AC.ret))))))))), res := [RV.tmp 2] }
set_option maxRecDepth 100000 in
theorem h9 : fnOf Tryd.prog 9 = some c9 := by kernel_rfl
def c10L0 : AC := ((AC.reg false [⟨some 26, .mov (.t 9), none⟩, ⟨some 27, .mov (.t 4), none⟩, ⟨some 28, .bin .lss (.t 26) (.t 27), none⟩]).seq (AC.cond (.t 28) AC.skip (AC.exit 2))).seq ((AC.block 3 ((AC.reg true [⟨some 31, .mov (.t 7), none⟩, ⟨some 32, .bin .mul (Opd.c (AV.dat (Ty.int IntKind.i64) (3 : Int))) (.t 31), none⟩, ⟨some 33, .mov (.t 9), none⟩, ⟨some 34, .bin .add (.t 32) (.t 33), none⟩, ⟨some 35, .fldA 2 (.t 1), none⟩, ⟨some 36, .idxArrA 9 1 (.t 35) (.t 34), none⟩, ⟨some 37, .load 1 false (.t 36), none⟩, ⟨some 38, .conv IntKind.i64 (.t 37), none⟩, ⟨some 39, .fldA 11 (.t 1), none⟩, ⟨some 40, .load 1 false (.t 39), none⟩, ⟨some 41, .bin .rem (.t 40) (Opd.c (AV.dat (Ty.int IntKind.u8) (10 : Int))), none⟩, ⟨some 42, .conv IntKind.i64 (.t 41), none⟩, ⟨some 43, .bin .add (Opd.c (AV.dat (Ty.int IntKind.i64) (2 : Int))) (.t 42), none⟩, ⟨some 44, .bin .rem (.t 38) (.t 43), none⟩, ⟨some 10, .mov (.t 44), none⟩]).seq ((AC.reg false [⟨some 45, .mov (.t 10), none⟩, ⟨some 46, .mov (.t 5), none⟩, ⟨some 47, .mm false (.t 45) (.t 46), none⟩, ⟨some 10, .mov (.t 47), none⟩]).seq ((AC.reg false [⟨some 48, .mov (.t 5), none⟩, ⟨some 49, .mov (.t 10), none⟩, ⟨some 50, .bin .sub (.t 48) (.t 49), none⟩, ⟨some 5, .mov (.t 50), none⟩]).seq (AC.reg false [⟨some 51, .mov (.t 8), none⟩, ⟨some 52, .mov (.t 10), none⟩, ⟨some 53, .bslice (Ty.int IntKind.i64) 1 [(0, Opd.t 52)], none⟩, ⟨some 54, .app (Ty.int IntKind.i64) 8 (.t 51) (.t 53), none⟩, ⟨some 8, .mov (.t 54), none⟩]))))).seq (AC.reg false [⟨some 29, .mov (.t 9), none⟩, ⟨some 30, .bin .add (.t 29) (Opd.c (AV.dat (Ty.int IntKind.i64) (1 : Int))), none⟩, ⟨some 9, .mov (.t 30), none⟩]))
def c10L1 : AC := ((AC.reg false [⟨some 21, .mov (.t 7), none⟩, ⟨some 22, .mov (.t 3), none⟩, ⟨some 23, .bin .lss (.t 21) (.t 22), none⟩]).seq (AC.cond (.t 23) AC.skip (AC.exit 0))).seq ((AC.block 1 ((AC.reg false [⟨some 8, .mov (Opd.c AV.nils), none⟩]).seq (((AC.reg false [⟨some 9, .mov (Opd.c (AV.dat (Ty.int IntKind.i64) (0 : Int))), none⟩]).seq (AC.block 2 (AC.loop c10L0))).seq (AC.reg false [⟨some 55, .mov (.t 6), none⟩, ⟨some 56, .mov (.t 8), none⟩, ⟨some 57, .bsliceB (Ty.int IntKind.i64).list [AV.nils] 1 1 [(0, Opd.t 56)], none⟩, ⟨some 58, .app (Ty.int IntKind.i64).list 24 (.t 55) (.t 57), none⟩, ⟨some 6, .mov (.t 58), none⟩])))).seq (AC.reg false [⟨some 24, .mov (.t 7), none⟩, ⟨some 25, .bin .add (.t 24) (Opd.c (AV.dat (Ty.int IntKind.i64) (1 : Int))), none⟩, ⟨some 7, .mov (.t 25), none⟩]))
def c10 : FnC := { n := 66, body := (AC.reg false [⟨some 1, .box (.t 0), none⟩, ⟨some 2, .mov (Opd.c AV.nils), none⟩]).seq ((AC.reg true [⟨some 11, .fldA 0 (.t 1), none⟩, ⟨some 12, .load 1 false (.t 11), none⟩, ⟨some 13, .bin .rem (.t 12) (Opd.c (AV.dat (Ty.int IntKind.u8) (2 : Int))), none⟩, ⟨some 14, .conv IntKind.i64 (.t 13), none⟩, ⟨some 15, .bin .add (Opd.c (AV.dat (Ty.int IntKind.i64) (2 : Int))) (.t 14), none⟩, ⟨some 16, .fldA 1 (.t 1), none⟩, ⟨some 17, .load 1 false (.t 16), none⟩, ⟨some 18, .bin .rem (.t 17) (Opd.c (AV.dat (Ty.int IntKind.u8) (2 : Int))), none⟩, ⟨some 19, .conv IntKind.i64 (.t 18), none⟩, ⟨some 20, .bin .add (Opd.c (AV.dat (Ty.int IntKind.i64) (2 : Int))) (.t 19), none⟩, ⟨some 3, .mov (.t 15), none⟩, ⟨some 4, .mov (.t 20), none⟩]).seq ((AC.reg false [⟨some 5, .mov (Opd.c (AV.dat (Ty.int IntKind.i64) (20 : Int))), none⟩]).seq ((AC.reg false [⟨some 6, .mov (Opd.c AV.nils), none⟩]).seq (((AC.reg false [⟨some 7, .mov (Opd.c (AV.dat (Ty.int IntKind.i64) (0 : Int))), none⟩]).seq (AC.block 0 (AC.loop c10L1))).seq (((AC.reg false [⟨some 59, .mov (.t 5), none⟩, ⟨some 60, .bin .eql (.t 59) (Opd.c (AV.dat (Ty.int IntKind.i64) (20 : Int))), none⟩]).seq (AC.cond (.t 60) (AC.reg false [⟨some 61, .mov (.t 6), none⟩, ⟨some 62, .idxA 1 (.t 61) (Opd.c (AV.dat (Ty.int IntKind.i64) (0 : Int))), none⟩, ⟨some 63, .load 1 false (.t 62), none⟩, ⟨some 64, .idxA 1 (.t 63) (Opd.c (AV.dat (Ty.int IntKind.i64) (0 : Int))), none⟩, ⟨none, .store 1 (.t 64) (Opd.c (AV.dat (Ty.int IntKind.i64) (1 : Int))), none⟩]) AC.skip)).seq ((AC.reg false [⟨some 65, .mov (.t 6), none⟩, ⟨some 2, .mov (.t 65), none⟩]).seq AC.ret)))))), res := [RV.tmp 2] }
set_option maxRecDepth 100000 in
theorem h10 : fnOf Tryd.prog 10 = some c10 := by kernel_rfl
def c11L0 : AC := (AC.reg false [⟨some 13, .bin .lss (.t 12) (.t 11), none⟩]).seq ((AC.cond (.t 13) AC.skip (AC.exit 0)).seq ((AC.block 1 ((AC.reg false [⟨some 14, .idxA 1 (.t 10) (.t 12), none⟩, ⟨some 15, .load 1 false (.t 14), none⟩, ⟨some 5, .mov (.t 15), none⟩]).seq (AC.reg false [⟨some 16, .mov (.t 3), none⟩, ⟨some 17, .mov (.t 5), none⟩, ⟨some 18, .mov (.t 5), none⟩, ⟨some 19, .len (.t 18), none⟩, ⟨some 20, .mm false (.t 19) (Opd.c (AV.dat (Ty.int IntKind.i64) (4 : Int))), none⟩, ⟨some 21, .slice 1 (.t 17) none (some (.t 20)), none⟩, ⟨some 22, .call (Opd.c (AV.fn 39 [] [])) [Opd.t 21], none⟩, ⟨some 23, .bsliceB (Ty.int IntKind.i64).list [AV.nils] 1 1 [(0, Opd.t 22)], none⟩, ⟨some 24, .app (Ty.int IntKind.i64).list 24 (.t 16) (.t 23), none⟩, ⟨some 3, .mov (.t 24), none⟩]))).seq (AC.reg false [⟨some 25, .bin .add (.t 12) (Opd.c (AV.dat (Ty.int IntKind.i64) (1 : Int))), none⟩, ⟨some 12, .mov (.t 25), none⟩])))
def c11 : FnC := { n := 27, body := (AC.reg false [⟨some 2, .mov (Opd.c AV.nils), none⟩]).seq ((AC.reg false [⟨some 3, .mov (Opd.c AV.nils), none⟩]).seq (((AC.reg false [⟨some 6, .mov (.t 0), none⟩, ⟨some 7, .mov (.t 0), none⟩, ⟨some 8, .len (.t 7), none⟩, ⟨some 9, .mm false (.t 8) (Opd.c (AV.dat (Ty.int IntKind.i64) (4 : Int))), none⟩, ⟨some 10, .slice 1 (.t 6) none (some (.t 9)), none⟩, ⟨some 11, .len (.t 10), none⟩, ⟨some 12, .mov (Opd.c (AV.dat (Ty.int IntKind.i64) (0 : Int))), none⟩]).seq (AC.block 0 (AC.loop c11L0))).seq ((AC.reg false [⟨some 26, .mov (.t 3), none⟩, ⟨some 2, .mov (.t 26), none⟩]).seq AC.ret))), res := [RV.tmp 2] }
set_option maxRecDepth 100000 in
theorem h11 : fnOf Tryd.prog 11 = some c11 := by kernel_rfl
def c12L0 : AC := (AC.reg false [⟨some 56, .bin .lss (.t 55) (.t 54), none⟩]).seq ((AC.cond (.t 56) AC.skip (AC.exit 2)).seq ((AC.block 3 ((AC.reg false [⟨some 57, .idxA 1 (.t 53) (.t 55), none⟩, ⟨some 58, .load 1 false (.t 57), none⟩, ⟨some 7, .mov (.t 58), none⟩]).seq (AC.reg false [⟨some 59, .mov (.t 3), none⟩, ⟨some 60, .mov (.t 7), none⟩, ⟨some 61, .bin .add (.t 59) (.t 60), none⟩, ⟨some 3, .mov (.t 61), none⟩]))).seq (AC.reg false [⟨some 62, .bin .add (.t 55) (Opd.c (AV.dat (Ty.int IntKind.i64) (1 : Int))), none⟩, ⟨some 55, .mov (.t 62), none⟩])))
def c12L1 : AC := (AC.reg false [⟨some 33, .bin .lss (.t 32) (.t 31), none⟩]).seq ((AC.cond (.t 33) AC.skip (AC.exit 0)).seq ((AC.block 1 ((AC.reg false [⟨some 34, .idxA 1 (.t 30) (.t 32), none⟩, ⟨some 35, .load 1 false (.t 34), none⟩, ⟨some 5, .mov (.t 35), none⟩]).seq (((AC.reg false [⟨some 36, .mov (.t 5), none⟩, ⟨some 37, .len (.t 36), none⟩, ⟨some 38, .mov (.t 0), none⟩, ⟨some 39, .idxA 1 (.t 38) (Opd.c (AV.dat (Ty.int IntKind.i64) (0 : Int))), none⟩, ⟨some 40, .load 1 false (.t 39), none⟩, ⟨some 41, .len (.t 40), none⟩, ⟨some 42, .bin .neq (.t 37) (.t 41), none⟩, ⟨some 43, .mov (.t 42), none⟩, ⟨some 44, .mov (.t 5), some (43, false)⟩, ⟨some 45, .call (Opd.c (AV.fn 40 [] [])) [Opd.t 44], some (43, false)⟩, ⟨some 46, .bin .lss (.t 45) (Opd.c (AV.dat (Ty.int IntKind.i64) (0 : Int))), some (43, false)⟩, ⟨some 47, .pick (.t 43) (Opd.c (AV.dat Ty.bool true)) (.t 46), none⟩, ⟨some 48, .mov (.t 47), none⟩, ⟨some 49, .mov (.t 5), some (48, false)⟩, ⟨some 50, .call (Opd.c (AV.fn 41 [] [])) [Opd.t 49], some (48, false)⟩, ⟨some 51, .bin .gtr (.t 50) (Opd.c (AV.dat (Ty.int IntKind.i64) (20 : Int))), some (48, false)⟩, ⟨some 52, .pick (.t 48) (Opd.c (AV.dat Ty.bool true)) (.t 51), none⟩]).seq (AC.cond (.t 52) ((AC.reg false [⟨some 2, .mov (Opd.c (AV.dat (Ty.int IntKind.i64) (300 : Int))), none⟩]).seq AC.ret) AC.skip)).seq ((AC.reg false [⟨some 53, .mov (.t 5), none⟩, ⟨some 54, .len (.t 53), none⟩, ⟨some 55, .mov (Opd.c (AV.dat (Ty.int IntKind.i64) (0 : Int))), none⟩]).seq (AC.block 2 (AC.loop c12L0)))))).seq (AC.reg false [⟨some 63, .bin .add (.t 32) (Opd.c (AV.dat (Ty.int IntKind.i64) (1 : Int))), none⟩, ⟨some 32, .mov (.t 63), none⟩])))
def c12 : FnC := { n := 70, body := (AC.reg false [⟨some 2, .mov (Opd.c (AV.dat (Ty.int IntKind.i64) (0 : Int))), none⟩]).seq (((AC.reg false [⟨some 8, .mov (.t 0), none⟩, ⟨some 9, .len (.t 8), none⟩, ⟨some 10, .bin .lss (.t 9) (Opd.c (AV.dat (Ty.int IntKind.i64) (2 : Int))), none⟩, ⟨some 11, .mov (.t 10), none⟩, ⟨some 12, .mov (.t 0), some (11, false)⟩, ⟨some 13, .len (.t 12), some (11, false)⟩, ⟨some 14, .bin .gtr (.t 13) (Opd.c (AV.dat (Ty.int IntKind.i64) (3 : Int))), some (11, false)⟩, ⟨some 15, .pick (.t 11) (Opd.c (AV.dat Ty.bool true)) (.t 14), none⟩, ⟨some 16, .mov (.t 15), none⟩, ⟨some 17, .mov (.t 0), some (16, false)⟩, ⟨some 18, .idxA 1 (.t 17) (Opd.c (AV.dat (Ty.int IntKind.i64) (0 : Int))), some (16, false)⟩, ⟨some 19, .load 1 false (.t 18), some (16, false)⟩, ⟨some 20, .len (.t 19), some (16, false)⟩, ⟨some 21, .bin .lss (.t 20) (Opd.c (AV.dat (Ty.int IntKind.i64) (2 : Int))), some (16, false)⟩, ⟨some 22, .pick (.t 16) (Opd.c (AV.dat Ty.bool true)) (.t 21), none⟩, ⟨some 23, .mov (.t 22), none⟩, ⟨some 24, .mov (.t 0), some (23, false)⟩, ⟨some 25, .idxA 1 (.t 24) (Opd.c (AV.dat (Ty.int IntKind.i64) (0 : Int))), some (23, false)⟩, ⟨some 26, .load 1 false (.t 25), some (23, false)⟩, ⟨some 27, .len (.t 26), some (23, false)⟩, ⟨some 28, .bin .gtr (.t 27) (Opd.c (AV.dat (Ty.int IntKind.i64) (3 : Int))), some (23, false)⟩, ⟨some 29, .pick (.t 23) (Opd.c (AV.dat Ty.bool true)) (.t 28), none⟩]).seq (AC.cond (.t 29) ((AC.reg false [⟨some 2, .mov (Opd.c (AV.dat (Ty.int IntKind.i64) (300 : Int))), none⟩]).seq AC.ret) AC.skip)).seq ((AC.reg false [⟨some 3, .mov (Opd.c (AV.dat (Ty.int IntKind.i64) (0 : Int))), none⟩]).seq (((AC.reg false [⟨some 30, .mov (.t 0), none⟩, ⟨some 31, .len (.t 30), none⟩, ⟨some 32, .mov (Opd.c (AV.dat (Ty.int IntKind.i64) (0 : Int))), none⟩]).seq (AC.block 0 (AC.loop c12L1))).seq (((AC.reg false [⟨some 64, .mov (.t 3), none⟩, ⟨some 65, .bin .lss (.t 64) (Opd.c (AV.dat (Ty.int IntKind.i64) (1 : Int))), none⟩, ⟨some 66, .mov (.t 65), none⟩, ⟨some 67, .mov (.t 3), some (66, false)⟩, ⟨some 68, .bin .gtr (.t 67) (Opd.c (AV.dat (Ty.int IntKind.i64) (20 : Int))), some (66, false)⟩, ⟨some 69, .pick (.t 66) (Opd.c (AV.dat Ty.bool true)) (.t 68), none⟩]).seq (AC.cond (.t 69) ((AC.reg false [⟨some 2, .mov (Opd.c (AV.dat (Ty.int IntKind.i64) (300 : Int))), none⟩]).seq AC.ret) AC.skip)).seq ((AC.reg false [⟨some 2, .mov (Opd.c (AV.dat (Ty.int IntKind.i64) (0 : Int))), none⟩]).seq AC.ret))))), res := [RV.tmp 2] }
set_option maxRecDepth 100000 in
theorem h12 : fnOf Tryd.prog 12 = some c12 := by kernel_rfl
def c13 : FnC := { n := 28, body := (AC.reg false [⟨some 2, .mov (Opd.c AV.nils), none⟩, ⟨some 3, .mov (Opd.c AV.nils), none⟩, ⟨some 4, .mov (Opd.c (AV.dat (Ty.int IntKind.i64) (0 : Int))), none⟩]).seq (((AC.reg false [⟨some 8, .mov (.t 0), none⟩, ⟨some 9, .call (Opd.c (AV.fn 12 [] [])) [Opd.t 8], none⟩, ⟨some 5, .mov (.t 9), none⟩]).seq ((AC.reg false [⟨some 10, .mov (.t 5), none⟩, ⟨some 11, .bin .neq (.t 10) (Opd.c (AV.dat (Ty.int IntKind.i64) (0 : Int))), none⟩]).seq (AC.cond (.t 11) ((AC.reg false [⟨some 12, .mov (.t 5), none⟩, ⟨some 2, .mov (Opd.c AV.nils), none⟩, ⟨some 3, .mov (Opd.c AV.nils), none⟩, ⟨some 4, .mov (.t 12), none⟩]).seq AC.ret) AC.skip))).seq ((AC.reg false [⟨some 14, .mov (.t 0), none⟩, ⟨some 15, .call (Opd.c (AV.fn 42 [] [])) [Opd.t 14], none⟩, ⟨some 13, .mov (.t 15), none⟩, ⟨some 16, .ext (.t 13) 0, none⟩, ⟨some 17, .ext (.t 13) 1, none⟩, ⟨some 6, .alloc [AV.dat (Ty.int IntKind.i64) (0 : Int), AV.dat (Ty.int IntKind.i64) (0 : Int), AV.dat (Ty.int IntKind.i64) (0 : Int)], none⟩, ⟨some 7, .alloc [AV.dat (Ty.int IntKind.i64) (0 : Int), AV.dat (Ty.int IntKind.i64) (0 : Int), AV.dat (Ty.int IntKind.i64) (0 : Int)], none⟩, ⟨none, .store 3 (.t 6) (.t 16), none⟩, ⟨none, .store 3 (.t 7) (.t 17), none⟩]).seq ((AC.reg true [⟨some 18, .mov (.t 0), none⟩, ⟨some 19, .len (.t 18), none⟩, ⟨some 20, .slcArr 3 1 (.t 6) none (some (.t 19)), none⟩, ⟨some 21, .callp (Opd.c (AV.fn 39 [] [])) [Opd.t 20], none⟩, ⟨some 22, .mov (.t 0), none⟩, ⟨some 23, .idxA 1 (.t 22) (Opd.c (AV.dat (Ty.int IntKind.i64) (0 : Int))), none⟩, ⟨some 24, .load 1 false (.t 23), none⟩, ⟨some 25, .len (.t 24), none⟩, ⟨some 26, .slcArr 3 1 (.t 7) none (some (.t 25)), none⟩, ⟨some 27, .callp (Opd.c (AV.fn 39 [] [])) [Opd.t 26], none⟩, ⟨some 2, .mov (.t 21), none⟩, ⟨some 3, .mov (.t 27), none⟩, ⟨some 4, .mov (Opd.c (AV.dat (Ty.int IntKind.i64) (0 : Int))), none⟩]).seq AC.ret))), res := [RV.tmp 2, RV.tmp 3, RV.tmp 4] }
set_option maxRecDepth 100000 in
theorem h13 : fnOf Tryd.prog 13 = some c13 := by kernel_rfl
def c14 : FnC := { n := 12, body := (AC.reg false [⟨some 2, .mov (Opd.c (AV.dat (Ty.int IntKind.i64) (0 : Int))), none⟩, ⟨some 3, .mov (Opd.c (AV.dat (Ty.int IntKind.i64) (0 : Int))), none⟩]).seq (((AC.reg false [⟨some 5, .mov (.t 0), none⟩, ⟨some 6, .call (Opd.c (AV.fn 12 [] [])) [Opd.t 5], none⟩, ⟨some 4, .mov (.t 6), none⟩]).seq ((AC.reg false [⟨some 7, .mov (.t 4), none⟩, ⟨some 8, .bin .neq (.t 7) (Opd.c (AV.dat (Ty.int IntKind.i64) (0 : Int))), none⟩]).seq (AC.cond (.t 8) ((AC.reg false [⟨some 9, .mov (.t 4), none⟩, ⟨some 2, .mov (Opd.c (AV.dat (Ty.int IntKind.i64) (0 : Int))), none⟩, ⟨some 3, .mov (.t 9), none⟩]).seq AC.ret) AC.skip))).seq ((AC.reg false [⟨some 10, .mov (.t 0), none⟩, ⟨some 11, .call (Opd.c (AV.fn 43 [] [])) [Opd.t 10], none⟩, ⟨some 2, .mov (.t 11), none⟩, ⟨some 3, .mov (Opd.c (AV.dat (Ty.int IntKind.i64) (0 : Int))), none⟩]).seq AC.ret)), res := [RV.tmp 2, RV.tmp 3] }
set_option maxRecDepth 100000 in
theorem h14 : fnOf Tryd.prog 14 = some c14 := by kernel_rfl
def c15 : FnC := { n := 27, body := (AC.reg false [⟨some 2, .mov (Opd.c (AV.dat (Ty.int IntKind.i64) (0 : Int))), none⟩, ⟨some 3, .mov (Opd.c (AV.dat (Ty.int IntKind.i64) (0 : Int))), none⟩]).seq (((AC.reg false [⟨some 7, .mov (.t 0), none⟩, ⟨some 8, .call (Opd.c (AV.fn 12 [] [])) [Opd.t 7], none⟩, ⟨some 4, .mov (.t 8), none⟩]).seq ((AC.reg false [⟨some 9, .mov (.t 4), none⟩, ⟨some 10, .bin .neq (.t 9) (Opd.c (AV.dat (Ty.int IntKind.i64) (0 : Int))), none⟩]).seq (AC.cond (.t 10) ((AC.reg false [⟨some 11, .mov (.t 4), none⟩, ⟨some 2, .mov (Opd.c (AV.dat (Ty.int IntKind.i64) (0 : Int))), none⟩, ⟨some 3, .mov (.t 11), none⟩]).seq AC.ret) AC.skip))).seq ((AC.reg false [⟨some 13, .mov (.t 0), none⟩, ⟨some 14, .call (Opd.c (AV.fn 42 [] [])) [Opd.t 13], none⟩, ⟨some 12, .mov (.t 14), none⟩, ⟨some 15, .ext (.t 12) 0, none⟩, ⟨some 16, .ext (.t 12) 1, none⟩, ⟨some 5, .alloc [AV.dat (Ty.int IntKind.i64) (0 : Int), AV.dat (Ty.int IntKind.i64) (0 : Int), AV.dat (Ty.int IntKind.i64) (0 : Int)], none⟩, ⟨some 6, .alloc [AV.dat (Ty.int IntKind.i64) (0 : Int), AV.dat (Ty.int IntKind.i64) (0 : Int), AV.dat (Ty.int IntKind.i64) (0 : Int)], none⟩, ⟨none, .store 3 (.t 5) (.t 15), none⟩, ⟨none, .store 3 (.t 6) (.t 16), none⟩]).seq ((AC.reg true [⟨some 17, .idxArrA 3 1 (.t 6) (Opd.c (AV.dat (Ty.int IntKind.i64) (0 : Int))), none⟩, ⟨some 18, .load 1 false (.t 17), none⟩, ⟨some 19, .idxArrA 3 1 (.t 6) (Opd.c (AV.dat (Ty.int IntKind.i64) (1 : Int))), none⟩, ⟨some 20, .load 1 false (.t 19), none⟩, ⟨some 21, .bin .add (.t 18) (.t 20), none⟩, ⟨some 22, .idxArrA 3 1 (.t 6) (Opd.c (AV.dat (Ty.int IntKind.i64) (2 : Int))), none⟩, ⟨some 23, .load 1 false (.t 22), none⟩, ⟨some 24, .bin .add (.t 21) (.t 23), none⟩, ⟨some 25, .slcArr 3 1 (.t 6) none none, none⟩, ⟨some 26, .call (Opd.c (AV.fn 44 [] [])) [Opd.t 24, Opd.t 25], none⟩, ⟨some 2, .mov (.t 26), none⟩, ⟨some 3, .mov (Opd.c (AV.dat (Ty.int IntKind.i64) (0 : Int))), none⟩]).seq AC.ret))), res := [RV.tmp 2, RV.tmp 3] }
set_option maxRecDepth 100000 in
theorem h15 : fnOf Tryd.prog 15 = some c15 := by kernel_rfl
def c16L0 : AC := ((AC.reg false [⟨some 44, .mov (.t 5), none⟩, ⟨some 45, .mov (.t 0), none⟩, ⟨some 46, .mov (.t 4), none⟩, ⟨some 47, .idxA 1 (.t 45) (.t 46), none⟩, ⟨some 48, .load 1 false (.t 47), none⟩, ⟨some 49, .len (.t 48), none⟩, ⟨some 50, .bin .lss (.t 44) (.t 49), none⟩]).seq (AC.cond (.t 50) AC.skip (AC.exit 2))).seq ((AC.block 3 (((AC.reg false [⟨some 53, .mov (.t 0), none⟩, ⟨some 54, .mov (.t 4), none⟩, ⟨some 55, .idxA 1 (.t 53) (.t 54), none⟩, ⟨some 56, .load 1 false (.t 55), none⟩, ⟨some 57, .mov (.t 5), none⟩, ⟨some 58, .idxA 1 (.t 56) (.t 57), none⟩, ⟨some 59, .load 1 false (.t 58), none⟩, ⟨some 60, .bin .lss (.t 59) (Opd.c (AV.dat (Ty.int IntKind.i64) (0 : Int))), none⟩, ⟨some 61, .mov (.t 60), none⟩, ⟨some 62, .mov (.t 0), some (61, false)⟩, ⟨some 63, .mov (.t 4), some (61, false)⟩, ⟨some 64, .idxA 1 (.t 62) (.t 63), some (61, false)⟩, ⟨some 65, .load 1 false (.t 64), some (61, false)⟩, ⟨some 66, .mov (.t 5), some (61, false)⟩, ⟨some 67, .idxA 1 (.t 65) (.t 66), some (61, false)⟩, ⟨some 68, .load 1 false (.t 67), some (61, false)⟩, ⟨some 69, .bin .gtr (.t 68) (Opd.c (AV.dat (Ty.int IntKind.i64) (20 : Int))), some (61, false)⟩, ⟨some 70, .pick (.t 61) (Opd.c (AV.dat Ty.bool true)) (.t 69), none⟩]).seq (AC.cond (.t 70) ((AC.reg false [⟨some 2, .mov (Opd.c (AV.dat Ty.bool false)), none⟩]).seq AC.ret) AC.skip)).seq (AC.reg false [⟨some 71, .mov (.t 3), none⟩, ⟨some 72, .mov (.t 0), none⟩, ⟨some 73, .mov (.t 4), none⟩, ⟨some 74, .idxA 1 (.t 72) (.t 73), none⟩, ⟨some 75, .load 1 false (.t 74), none⟩, ⟨some 76, .mov (.t 5), none⟩, ⟨some 77, .idxA 1 (.t 75) (.t 76), none⟩, ⟨some 78, .load 1 false (.t 77), none⟩, ⟨some 79, .bin .add (.t 71) (.t 78), none⟩, ⟨some 3, .mov (.t 79), none⟩]))).seq (AC.reg false [⟨some 51, .mov (.t 5), none⟩, ⟨some 52, .bin .add (.t 51) (Opd.c (AV.dat (Ty.int IntKind.i64) (1 : Int))), none⟩, ⟨some 5, .mov (.t 52), none⟩]))
def c16L1 : AC := ((AC.reg false [⟨some 28, .mov (.t 4), none⟩, ⟨some 29, .mov (.t 0), none⟩, ⟨some 30, .len (.t 29), none⟩, ⟨some 31, .bin .lss (.t 28) (.t 30), none⟩]).seq (AC.cond (.t 31) AC.skip (AC.exit 0))).seq ((AC.block 1 (((AC.reg true [⟨some 34, .mov (.t 0), none⟩, ⟨some 35, .mov (.t 4), none⟩, ⟨some 36, .idxA 1 (.t 34) (.t 35), none⟩, ⟨some 37, .load 1 false (.t 36), none⟩, ⟨some 38, .len (.t 37), none⟩, ⟨some 39, .mov (.t 0), none⟩, ⟨some 40, .idxA 1 (.t 39) (Opd.c (AV.dat (Ty.int IntKind.i64) (0 : Int))), none⟩, ⟨some 41, .load 1 false (.t 40), none⟩, ⟨some 42, .len (.t 41), none⟩, ⟨some 43, .bin .neq (.t 38) (.t 42), none⟩]).seq (AC.cond (.t 43) ((AC.reg false [⟨some 2, .mov (Opd.c (AV.dat Ty.bool false)), none⟩]).seq AC.ret) AC.skip)).seq ((AC.reg false [⟨some 5, .mov (Opd.c (AV.dat (Ty.int IntKind.i64) (0 : Int))), none⟩]).seq (AC.block 2 (AC.loop c16L0))))).seq (AC.reg false [⟨some 32, .mov (.t 4), none⟩, ⟨some 33, .bin .add (.t 32) (Opd.c (AV.dat (Ty.int IntKind.i64) (1 : Int))), none⟩, ⟨some 4, .mov (.t 33), none⟩]))
def c16 : FnC := { n := 86, body := (AC.reg false [⟨some 2, .mov (Opd.c (AV.dat Ty.bool false)), none⟩]).seq (((AC.reg false [⟨some 6, .mov (.t 0), none⟩, ⟨some 7, .len (.t 6), none⟩, ⟨some 8, .bin .lss (.t 7) (Opd.c (AV.dat (Ty.int IntKind.i64) (2 : Int))), none⟩, ⟨some 9, .mov (.t 8), none⟩, ⟨some 10, .mov (.t 0), some (9, false)⟩, ⟨some 11, .len (.t 10), some (9, false)⟩, ⟨some 12, .bin .gtr (.t 11) (Opd.c (AV.dat (Ty.int IntKind.i64) (3 : Int))), some (9, false)⟩, ⟨some 13, .pick (.t 9) (Opd.c (AV.dat Ty.bool true)) (.t 12), none⟩, ⟨some 14, .mov (.t 13), none⟩, ⟨some 15, .mov (.t 0), some (14, false)⟩, ⟨some 16, .idxA 1 (.t 15) (Opd.c (AV.dat (Ty.int IntKind.i64) (0 : Int))), some (14, false)⟩, ⟨some 17, .load 1 false (.t 16), some (14, false)⟩, ⟨some 18, .len (.t 17), some (14, false)⟩, ⟨some 19, .bin .lss (.t 18) (Opd.c (AV.dat (Ty.int IntKind.i64) (2 : Int))), some (14, false)⟩, ⟨some 20, .pick (.t 14) (Opd.c (AV.dat Ty.bool true)) (.t 19), none⟩, ⟨some 21, .mov (.t 20), none⟩, ⟨some 22, .mov (.t 0), some (21, false)⟩, ⟨some 23, .idxA 1 (.t 22) (Opd.c (AV.dat (Ty.int IntKind.i64) (0 : Int))), some (21, false)⟩, ⟨some 24, .load 1 false (.t 23), some (21, false)⟩, ⟨some 25, .len (.t 24), some (21, false)⟩, ⟨some 26, .bin .gtr (.t 25) (Opd.c (AV.dat (Ty.int IntKind.i64) (3 : Int))), some (21, false)⟩, ⟨some 27, .pick (.t 21) (Opd.c (AV.dat Ty.bool true)) (.t 26), none⟩]).seq (AC.cond (.t 27) ((AC.reg false [⟨some 2, .mov (Opd.c (AV.dat Ty.bool false)), none⟩]).seq AC.ret) AC.skip)).seq ((AC.reg false [⟨some 3, .mov (Opd.c (AV.dat (Ty.int IntKind.i64) (0 : Int))), none⟩]).seq (((AC.reg false [⟨some 4, .mov (Opd.c (AV.dat (Ty.int IntKind.i64) (0 : Int))), none⟩]).seq (AC.block 0 (AC.loop c16L1))).seq ((AC.reg false [⟨some 80, .mov (.t 3), none⟩, ⟨some 81, .bin .geq (.t 80) (Opd.c (AV.dat (Ty.int IntKind.i64) (1 : Int))), none⟩, ⟨some 82, .mov (.t 81), none⟩, ⟨some 83, .mov (.t 3), some (82, true)⟩, ⟨some 84, .bin .leq (.t 83) (Opd.c (AV.dat (Ty.int IntKind.i64) (20 : Int))), some (82, true)⟩, ⟨some 85, .pick (.t 82) (.t 84) (Opd.c (AV.dat Ty.bool false)), none⟩, ⟨some 2, .mov (.t 85), none⟩]).seq AC.ret)))), res := [RV.tmp 2] }
set_option maxRecDepth 100000 in
theorem h16 : fnOf Tryd.prog 16 = some c16 := by kernel_rfl
def c17L0 : AC := (AC.reg false [⟨some 14, .bin .lss (.t 13) (.t 12), none⟩]).seq ((AC.cond (.t 14) AC.skip (AC.exit 0)).seq ((AC.block 1 ((AC.reg false [⟨some 15, .mov (.t 13), none⟩, ⟨some 5, .mov (.t 15), none⟩]).seq ((AC.reg true [⟨some 16, .mov (.t 0), none⟩, ⟨some 17, .mov (.t 5), none⟩, ⟨some 18, .idxA 1 (.t 16) (.t 17), none⟩, ⟨some 19, .load 1 false (.t 18), none⟩, ⟨some 20, .mov (.t 1), none⟩, ⟨some 21, .mov (.t 5), none⟩, ⟨some 22, .idxA 1 (.t 20) (.t 21), none⟩, ⟨some 23, .load 1 false (.t 22), none⟩, ⟨some 24, .bin .neq (.t 19) (.t 23), none⟩]).seq (AC.cond (.t 24) ((AC.reg false [⟨some 4, .mov (Opd.c (AV.dat Ty.bool false)), none⟩]).seq AC.ret) AC.skip)))).seq (AC.reg false [⟨some 25, .bin .add (.t 13) (Opd.c (AV.dat (Ty.int IntKind.i64) (1 : Int))), none⟩, ⟨some 13, .mov (.t 25), none⟩])))
def c17 : FnC := { n := 26, body := (AC.reg false [⟨some 4, .mov (Opd.c (AV.dat Ty.bool false)), none⟩]).seq (((AC.reg false [⟨some 6, .mov (.t 0), none⟩, ⟨some 7, .len (.t 6), none⟩, ⟨some 8, .mov (.t 1), none⟩, ⟨some 9, .len (.t 8), none⟩, ⟨some 10, .bin .neq (.t 7) (.t 9), none⟩]).seq (AC.cond (.t 10) ((AC.reg false [⟨some 4, .mov (Opd.c (AV.dat Ty.bool false)), none⟩]).seq AC.ret) AC.skip)).seq (((AC.reg false [⟨some 11, .mov (.t 0), none⟩, ⟨some 12, .len (.t 11), none⟩, ⟨some 13, .mov (Opd.c (AV.dat (Ty.int IntKind.i64) (0 : Int))), none⟩]).seq (AC.block 0 (AC.loop c17L0))).seq ((AC.reg false [⟨some 4, .mov (Opd.c (AV.dat Ty.bool true)), none⟩]).seq AC.ret))), res := [RV.tmp 4] }
set_option maxRecDepth 100000 in
theorem h17 : fnOf Tryd.prog 17 = some c17 := by kernel_rfl
def c18L0 : AC := ((AC.reg false [⟨some 13, .mov (.t 6), none⟩, ⟨some 14, .mov (.t 0), none⟩, ⟨some 15, .mov (.t 4), none⟩, ⟨some 16, .idxA 1 (.t 14) (.t 15), none⟩, ⟨some 17, .load 1 false (.t 16), none⟩, ⟨some 18, .len (.t 17), none⟩, ⟨some 19, .bin .lss (.t 13) (.t 18), none⟩]).seq (AC.cond (.t 19) AC.skip (AC.exit 2))).seq ((AC.block 3 (AC.reg false [⟨some 22, .mov (.t 5), none⟩, ⟨some 23, .mov (.t 0), none⟩, ⟨some 24, .mov (.t 4), none⟩, ⟨some 25, .idxA 1 (.t 23) (.t 24), none⟩, ⟨some 26, .load 1 false (.t 25), none⟩, ⟨some 27, .mov (.t 6), none⟩, ⟨some 28, .idxA 1 (.t 26) (.t 27), none⟩, ⟨some 29, .load 1 false (.t 28), none⟩, ⟨some 30, .bin .add (.t 22) (.t 29), none⟩, ⟨some 5, .mov (.t 30), none⟩])).seq (AC.reg false [⟨some 20, .mov (.t 6), none⟩, ⟨some 21, .bin .add (.t 20) (Opd.c (AV.dat (Ty.int IntKind.i64) (1 : Int))), none⟩, ⟨some 6, .mov (.t 21), none⟩]))
def c18L1 : AC := ((AC.reg false [⟨some 7, .mov (.t 4), none⟩, ⟨some 8, .mov (.t 0), none⟩, ⟨some 9, .len (.t 8), none⟩, ⟨some 10, .bin .lss (.t 7) (.t 9), none⟩]).seq (AC.cond (.t 10) AC.skip (AC.exit 0))).seq ((AC.block 1 ((AC.reg false [⟨some 5, .mov (Opd.c (AV.dat (Ty.int IntKind.i64) (0 : Int))), none⟩]).seq (((AC.reg false [⟨some 6, .mov (Opd.c (AV.dat (Ty.int IntKind.i64) (0 : Int))), none⟩]).seq (AC.block 2 (AC.loop c18L0))).seq (AC.reg false [⟨some 31, .mov (.t 3), none⟩, ⟨some 32, .mov (.t 5), none⟩, ⟨some 33, .bslice (Ty.int IntKind.i64) 1 [(0, Opd.t 32)], none⟩, ⟨some 34, .app (Ty.int IntKind.i64) 8 (.t 31) (.t 33), none⟩, ⟨some 3, .mov (.t 34), none⟩])))).seq (AC.reg false [⟨some 11, .mov (.t 4), none⟩, ⟨some 12, .bin .add (.t 11) (Opd.c (AV.dat (Ty.int IntKind.i64) (1 : Int))), none⟩, ⟨some 4, .mov (.t 12), none⟩]))
def c18 : FnC := { n := 36, body := (AC.reg false [⟨some 2, .mov (Opd.c AV.nils), none⟩]).seq ((AC.reg false [⟨some 3, .mov (Opd.c AV.nils), none⟩]).seq (((AC.reg false [⟨some 4, .mov (Opd.c (AV.dat (Ty.int IntKind.i64) (0 : Int))), none⟩]).seq (AC.block 0 (AC.loop c18L1))).seq ((AC.reg false [⟨some 35, .mov (.t 3), none⟩, ⟨some 2, .mov (.t 35), none⟩]).seq AC.ret))), res := [RV.tmp 2] }
set_option maxRecDepth 100000 in
theorem h18 : fnOf Tryd.prog 18 = some c18 := by kernel_rfl
def c19 : FnC := { n := 6, body := (AC.reg false [⟨some 2, .mov (Opd.c AV.nils), none⟩]).seq ((AC.reg false [⟨some 3, .mov (.t 0), none⟩, ⟨some 4, .call (Opd.c (AV.fn 33 [] [])) [Opd.t 3], none⟩, ⟨some 5, .call (Opd.c (AV.fn 18 [] [])) [Opd.t 4], none⟩, ⟨some 2, .mov (.t 5), none⟩]).seq AC.ret), res := [RV.tmp 2] }
set_option maxRecDepth 100000 in
theorem h19 : fnOf Tryd.prog 19 = some c19 := by kernel_rfl
def c20L0 : AC := ((AC.reg false [⟨some 8, .mov (.t 5), none⟩, ⟨some 9, .mov (.t 0), none⟩, ⟨some 10, .len (.t 9), none⟩, ⟨some 11, .bin .lss (.t 8) (.t 10), none⟩]).seq (AC.cond (.t 11) AC.skip (AC.exit 0))).seq ((AC.block 1 (AC.reg true [⟨some 14, .mov (.t 3), none⟩, ⟨some 15, .mov (.t 4), none⟩, ⟨some 16, .mov (.t 5), none⟩, ⟨some 17, .idxA 1 (.t 15) (.t 16), none⟩, ⟨some 18, .load 1 false (.t 17), none⟩, ⟨some 19, .mov (.t 0), none⟩, ⟨some 20, .mov (.t 5), none⟩, ⟨some 21, .idxA 1 (.t 19) (.t 20), none⟩, ⟨some 22, .load 1 false (.t 21), none⟩, ⟨some 23, .call (Opd.c (AV.fn 45 [] [])) [Opd.t 18, Opd.t 22], none⟩, ⟨some 24, .bin .mul (.t 14) (.t 23), none⟩, ⟨some 3, .mov (.t 24), none⟩])).seq (AC.reg false [⟨some 12, .mov (.t 5), none⟩, ⟨some 13, .bin .add (.t 12) (Opd.c (AV.dat (Ty.int IntKind.i64) (1 : Int))), none⟩, ⟨some 5, .mov (.t 13), none⟩]))
def c20 : FnC := { n := 26, body := (AC.reg false [⟨some 2, .mov (Opd.c (AV.dat (Ty.int IntKind.i64) (0 : Int))), none⟩]).seq ((AC.reg false [⟨some 3, .mov (Opd.c (AV.dat (Ty.int IntKind.i64) (1 : Int))), none⟩]).seq ((AC.reg false [⟨some 6, .mov (.t 0), none⟩, ⟨some 7, .call (Opd.c (AV.fn 18 [] [])) [Opd.t 6], none⟩, ⟨some 4, .mov (.t 7), none⟩]).seq (((AC.reg false [⟨some 5, .mov (Opd.c (AV.dat (Ty.int IntKind.i64) (0 : Int))), none⟩]).seq (AC.block 0 (AC.loop c20L0))).seq ((AC.reg false [⟨some 25, .mov (.t 3), none⟩, ⟨some 2, .mov (.t 25), none⟩]).seq AC.ret)))), res := [RV.tmp 2] }
set_option maxRecDepth 100000 in
theorem h20 : fnOf Tryd.prog 20 = some c20 := by kernel_rfl
def c21L0 : AC := ((AC.reg false [⟨some 8, .mov (.t 5), none⟩, ⟨some 9, .mov (.t 4), none⟩, ⟨some 10, .len (.t 9), none⟩, ⟨some 11, .bin .lss (.t 8) (.t 10), none⟩]).seq (AC.cond (.t 11) AC.skip (AC.exit 0))).seq ((AC.block 1 (AC.reg false [⟨some 14, .mov (.t 3), none⟩, ⟨some 15, .mov (.t 4), none⟩, ⟨some 16, .mov (.t 5), none⟩, ⟨some 17, .idxA 1 (.t 15) (.t 16), none⟩, ⟨some 18, .load 1 false (.t 17), none⟩, ⟨some 19, .bin .add (.t 14) (.t 18), none⟩, ⟨some 3, .mov (.t 19), none⟩])).seq (AC.reg false [⟨some 12, .mov (.t 5), none⟩, ⟨some 13, .bin .add (.t 12) (Opd.c (AV.dat (Ty.int IntKind.i64) (1 : Int))), none⟩, ⟨some 5, .mov (.t 13), none⟩]))
def c21 : FnC := { n := 24, body := (AC.reg false [⟨some 2, .mov (Opd.c (AV.dat (Ty.int IntKind.i64) (0 : Int))), none⟩]).seq ((AC.reg false [⟨some 3, .mov (Opd.c (AV.dat (Ty.int IntKind.i64) (0 : Int))), none⟩]).seq ((AC.reg false [⟨some 6, .mov (.t 0), none⟩, ⟨some 7, .call (Opd.c (AV.fn 18 [] [])) [Opd.t 6], none⟩, ⟨some 4, .mov (.t 7), none⟩]).seq (((AC.reg false [⟨some 5, .mov (Opd.c (AV.dat (Ty.int IntKind.i64) (0 : Int))), none⟩]).seq (AC.block 0 (AC.loop c21L0))).seq ((AC.reg false [⟨some 20, .mov (.t 3), none⟩, ⟨some 21, .mov (.t 0), none⟩, ⟨some 22, .call (Opd.c (AV.fn 19 [] [])) [Opd.t 21], none⟩, ⟨some 23, .call (Opd.c (AV.fn 45 [] [])) [Opd.t 20, Opd.t 22], none⟩, ⟨some 2, .mov (.t 23), none⟩]).seq AC.ret)))), res := [RV.tmp 2] }
set_option maxRecDepth 100000 in
theorem h21 : fnOf Tryd.prog 21 = some c21 := by kernel_rfl
def k23a0 : Code := (Code.region 6 { toList := [{ dst := some 6, op := Op.assign (Operand.tmp 17), type := 25, pos := "tail.go:138", after := { toList := [] }, guard := none }] } false)
def k23b0 : Code := (Code.block 1 ((Code.region 7 { toList := [{ dst := some 18, op := Op.move (Operand.tmp 6), type := 25, pos := "tail.go:139", after := { toList := [] }, guard := none }, { dst := some 19, op := Op.call { callee := Callee.builtin Builtin.len, args := { toList := [Operand.tmp 18] }, argTypes := { toList := [25] } }, type := 3, pos := "tail.go:139", after := { toList := [{ on := 0, ground := Ground.data }] }, guard := none }, { dst := some 20, op := Op.makeSlice 25 (Operand.tmp 19) (Operand.tmp 19), type := 25, pos := "tail.go:139", after := { toList := [{ on := 1, ground := Ground.data }, { on := 1, ground := Ground.data }] }, guard := none }, { dst := some 7, op := Op.assign (Operand.tmp 20), type := 25, pos := "tail.go:139", after := { toList := [{ on := 2, ground := Ground.data }, { on := 0, ground := Ground.phase }, { on := 1, ground := Ground.phase }, { on := 2, ground := Ground.phase }] }, guard := none }] } false).seq (((Code.region 8 { toList := [{ dst := some 21, op := Op.move (Operand.tmp 6), type := 25, pos := "tail.go:140", after := { toList := [] }, guard := none }, { dst := some 22, op := Op.call { callee := Callee.builtin Builtin.len, args := { toList := [Operand.tmp 21] }, argTypes := { toList := [25] } }, type := 3, pos := "tail.go:140", after := { toList := [{ on := 0, ground := Ground.data }] }, guard := none }, { dst := some 23, op := Op.move (Operand.const (Value.int IntKind.i64 (0 : Int))), type := 3, pos := "tail.go:140", after := { toList := [] }, guard := none }] } false).seq (Code.block 2 ((Code.region 9 { toList := [{ dst := some 24, op := Op.binOp BinOp.lss 3 (Operand.tmp 23) (Operand.tmp 22) 3, type := 0, pos := "tail.go:140", after := { toList := [] }, guard := none }] } false).seq ((Code.cond (Operand.tmp 24) Code.skip (Code.exit 2)).seq ((Code.block 3 ((Code.region 10 { toList := [{ dst := some 25, op := Op.move (Operand.tmp 23), type := 3, pos := "tail.go:140", after := { toList := [] }, guard := none }, { dst := some 26, op := Op.indexAddr 25 (Operand.tmp 21) (Operand.tmp 23), type := 0, pos := "tail.go:140", after := { toList := [] }, guard := none }, { dst := some 27, op := Op.load 28 (Operand.tmp 26), type := 28, pos := "tail.go:140", after := { toList := [{ on := 1, ground := Ground.data }] }, guard := none }, { dst := some 8, op := Op.assign (Operand.tmp 25), type := 3, pos := "tail.go:140", after := { toList := [{ on := 0, ground := Ground.data }, { on := 0, ground := Ground.phase }, { on := 1, ground := Ground.phase }, { on := 2, ground := Ground.phase }] }, guard := none }, { dst := some 9, op := Op.assign (Operand.tmp 27), type := 28, pos := "tail.go:140", after := { toList := [{ on := 2, ground := Ground.data }, { on := 3, ground := Ground.chain }, { on := 0, ground := Ground.phase }, { on := 1, ground := Ground.phase }, { on := 2, ground := Ground.phase }, { on := 3, ground := Ground.phase }] }, guard := none }] } false).seq (Code.region 11 { toList := [{ dst := some 28, op := Op.move (Operand.tmp 7), type := 25, pos := "tail.go:141", after := { toList := [] }, guard := none }, { dst := some 29, op := Op.move (Operand.tmp 8), type := 3, pos := "tail.go:141", after := { toList := [] }, guard := none }, { dst := some 30, op := Op.move (Operand.tmp 9), type := 28, pos := "tail.go:141", after := { toList := [] }, guard := none }, { dst := some 31, op := Op.call { callee := Callee.value (Operand.func 39), args := { toList := [Operand.tmp 30] }, argTypes := { toList := [28] } }, type := 28, pos := "tail.go:141", after := { toList := [{ on := 2, ground := Ground.data }] }, guard := none }, { dst := some 32, op := Op.indexAddr 25 (Operand.tmp 28) (Operand.tmp 29), type := 0, pos := "tail.go:141", after := { toList := [{ on := 0, ground := Ground.data }, { on := 1, ground := Ground.data }, { on := 0, ground := Ground.phase }, { on := 1, ground := Ground.phase }, { on := 2, ground := Ground.phase }, { on := 3, ground := Ground.phase }] }, guard := none }, { dst := none, op := Op.store 28 (Operand.tmp 32) (Operand.tmp 31), type := 0, pos := "tail.go:141", after := { toList := [{ on := 4, ground := Ground.data }, { on := 3, ground := Ground.data }, { on := 3, ground := Ground.chain }, { on := 0, ground := Ground.phase }, { on := 1, ground := Ground.phase }, { on := 2, ground := Ground.phase }, { on := 3, ground := Ground.phase }] }, guard := none }] } false))).seq (Code.region 12 { toList := [{ dst := some 33, op := Op.binOp BinOp.add 3 (Operand.tmp 23) (Operand.const (Value.int IntKind.i64 (1 : Int))) 3, type := 3, pos := "tail.go:140", after := { toList := [] }, guard := none }, { dst := some 23, op := Op.move (Operand.tmp 33), type := 3, pos := "tail.go:140", after := { toList := [{ on := 0, ground := Ground.data }] }, guard := none }] } false)))).loop)).seq (Code.region 13 { toList := [{ dst := some 34, op := Op.load 42 (Operand.tmp 5), type := 42, pos := "tail.go:143", after := { toList := [] }, guard := none }, { dst := some 35, op := Op.move (Operand.tmp 7), type := 25, pos := "tail.go:143", after := { toList := [] }, guard := none }, { dst := some 36, op := Op.buildSlice 42 1 { toList := [(0, Operand.tmp 35)] }, type := 42, pos := "tail.go:143", after := { toList := [{ on := 1, ground := Ground.data }] }, guard := none }, { dst := some 37, op := Op.call { callee := Callee.builtin Builtin.append, args := { toList := [Operand.tmp 34, Operand.tmp 36] }, argTypes := { toList := [42, 42] } }, type := 42, pos := "tail.go:143", after := { toList := [{ on := 0, ground := Ground.data }, { on := 2, ground := Ground.data }] }, guard := none }, { dst := none, op := Op.store 42 (Operand.tmp 5) (Operand.tmp 37), type := 0, pos := "tail.go:143", after := { toList := [{ on := 3, ground := Ground.data }, { on := 3, ground := Ground.chain }, { on := 0, ground := Ground.phase }, { on := 1, ground := Ground.phase }, { on := 2, ground := Ground.phase }, { on := 3, ground := Ground.phase }] }, guard := none }] } false))))
def c23A0 : AC := AC.reg false [⟨some 6, .mov (.t 17), none⟩]
set_option maxRecDepth 100000 in
theorem h23A0 : cCode Tryd.prog 39 k23a0 = some c23A0 := by kernel_rfl
def c23B0L0 : AC := (AC.reg false [⟨some 24, .bin .lss (.t 23) (.t 22), none⟩]).seq ((AC.cond (.t 24) AC.skip (AC.exit 2)).seq ((AC.block 3 ((AC.reg false [⟨some 25, .mov (.t 23), none⟩, ⟨some 26, .idxA 1 (.t 21) (.t 23), none⟩, ⟨some 27, .load 1 false (.t 26), none⟩, ⟨some 8, .mov (.t 25), none⟩, ⟨some 9, .mov (.t 27), none⟩]).seq (AC.reg false [⟨some 28, .mov (.t 7), none⟩, ⟨some 29, .mov (.t 8), none⟩, ⟨some 30, .mov (.t 9), none⟩, ⟨some 31, .call (Opd.c (AV.fn 39 [] [])) [Opd.t 30], none⟩, ⟨some 32, .idxA 1 (.t 28) (.t 29), none⟩, ⟨none, .store 1 (.t 32) (.t 31), none⟩]))).seq (AC.reg false [⟨some 33, .bin .add (.t 23) (Opd.c (AV.dat (Ty.int IntKind.i64) (1 : Int))), none⟩, ⟨some 23, .mov (.t 33), none⟩])))
def c23B0 : AC := AC.block 1 ((AC.reg false [⟨some 18, .mov (.t 6), none⟩, ⟨some 19, .len (.t 18), none⟩, ⟨some 20, .mkB [AV.nils] 1 24 (.t 19) (.t 19), none⟩, ⟨some 7, .mov (.t 20), none⟩]).seq (((AC.reg false [⟨some 21, .mov (.t 6), none⟩, ⟨some 22, .len (.t 21), none⟩, ⟨some 23, .mov (Opd.c (AV.dat (Ty.int IntKind.i64) (0 : Int))), none⟩]).seq (AC.block 2 (AC.loop c23B0L0))).seq (AC.reg false [⟨some 34, .load 1 false (.t 5), none⟩, ⟨some 35, .mov (.t 7), none⟩, ⟨some 36, .bsliceB (Ty.int IntKind.i64).list.list [AV.nils] 1 1 [(0, Opd.t 35)], none⟩, ⟨some 37, .app (Ty.int IntKind.i64).list.list 24 (.t 34) (.t 36), none⟩, ⟨none, .store 1 (.t 5) (.t 37), none⟩])))
set_option maxRecDepth 100000 in
theorem h23B0 : cCode Tryd.prog 39 k23b0 = some c23B0 := by kernel_rfl
def c23 : FnC := { n := 39, body := (AC.reg false [⟨some 2, .mov (Opd.c AV.nils), none⟩, ⟨some 3, .mov (Opd.c (AV.dat (Ty.int IntKind.i64) (0 : Int))), none⟩]).seq (((AC.reg false [⟨some 10, .mov (.t 0), none⟩, ⟨some 11, .call (Opd.c (AV.fn 12 [] [])) [Opd.t 10], none⟩, ⟨some 4, .mov (.t 11), none⟩]).seq ((AC.reg false [⟨some 12, .mov (.t 4), none⟩, ⟨some 13, .bin .neq (.t 12) (Opd.c (AV.dat (Ty.int IntKind.i64) (0 : Int))), none⟩]).seq (AC.cond (.t 13) ((AC.reg false [⟨some 14, .mov (.t 4), none⟩, ⟨some 2, .mov (Opd.c AV.nils), none⟩, ⟨some 3, .mov (.t 14), none⟩]).seq AC.ret) AC.skip))).seq ((AC.reg false [⟨some 5, .alloc [AV.nils], none⟩]).seq (((AC.reg false [⟨some 15, .mov (.t 0), none⟩, ⟨some 16, .call (Opd.c (AV.fn 46 [] [])) [Opd.t 15], none⟩]).seq (AC.block 0 (AC.rangeF (.t 16) [17] k23a0 k23b0))).seq ((AC.reg false [⟨some 38, .load 1 false (.t 5), none⟩, ⟨some 2, .mov (.t 38), none⟩, ⟨some 3, .mov (Opd.c (AV.dat (Ty.int IntKind.i64) (0 : Int))), none⟩]).seq AC.ret)))), res := [RV.tmp 2, RV.tmp 3] }
set_option maxRecDepth 100000 in
theorem h23 : fnOf Tryd.prog 23 = some c23 := by kernel_rfl
def c26L0 : AC := ((AC.reg false [⟨some 29, .mov (.t 6), none⟩, ⟨some 30, .mov (.t 0), none⟩, ⟨some 31, .mov (.t 5), none⟩, ⟨some 32, .idxA 1 (.t 30) (.t 31), none⟩, ⟨some 33, .load 1 false (.t 32), none⟩, ⟨some 34, .len (.t 33), none⟩, ⟨some 35, .bin .lss (.t 29) (.t 34), none⟩]).seq (AC.cond (.t 35) AC.skip (AC.exit 2))).seq ((AC.block 3 ((AC.reg true [⟨some 38, .mov (.t 0), none⟩, ⟨some 39, .mov (.t 5), none⟩, ⟨some 40, .idxA 1 (.t 38) (.t 39), none⟩, ⟨some 41, .load 1 false (.t 40), none⟩, ⟨some 42, .mov (.t 6), none⟩, ⟨some 43, .idxA 1 (.t 41) (.t 42), none⟩, ⟨some 44, .load 1 false (.t 43), none⟩, ⟨some 45, .mov (.t 1), none⟩, ⟨some 46, .mov (.t 5), none⟩, ⟨some 47, .idxA 1 (.t 45) (.t 46), none⟩, ⟨some 48, .load 1 false (.t 47), none⟩, ⟨some 49, .mov (.t 6), none⟩, ⟨some 50, .idxA 1 (.t 48) (.t 49), none⟩, ⟨some 51, .load 1 false (.t 50), none⟩, ⟨some 52, .bin .neq (.t 44) (.t 51), none⟩]).seq (AC.cond (.t 52) ((AC.reg false [⟨some 4, .mov (Opd.c (AV.dat Ty.bool false)), none⟩]).seq AC.ret) AC.skip))).seq (AC.reg false [⟨some 36, .mov (.t 6), none⟩, ⟨some 37, .bin .add (.t 36) (Opd.c (AV.dat (Ty.int IntKind.i64) (1 : Int))), none⟩, ⟨some 6, .mov (.t 37), none⟩]))
def c26L1 : AC := ((AC.reg false [⟨some 12, .mov (.t 5), none⟩, ⟨some 13, .mov (.t 0), none⟩, ⟨some 14, .len (.t 13), none⟩, ⟨some 15, .bin .lss (.t 12) (.t 14), none⟩]).seq (AC.cond (.t 15) AC.skip (AC.exit 0))).seq ((AC.block 1 (((AC.reg true [⟨some 18, .mov (.t 0), none⟩, ⟨some 19, .mov (.t 5), none⟩, ⟨some 20, .idxA 1 (.t 18) (.t 19), none⟩, ⟨some 21, .load 1 false (.t 20), none⟩, ⟨some 22, .len (.t 21), none⟩, ⟨some 23, .mov (.t 1), none⟩, ⟨some 24, .mov (.t 5), none⟩, ⟨some 25, .idxA 1 (.t 23) (.t 24), none⟩, ⟨some 26, .load 1 false (.t 25), none⟩, ⟨some 27, .len (.t 26), none⟩, ⟨some 28, .bin .neq (.t 22) (.t 27), none⟩]).seq (AC.cond (.t 28) ((AC.reg false [⟨some 4, .mov (Opd.c (AV.dat Ty.bool false)), none⟩]).seq AC.ret) AC.skip)).seq ((AC.reg false [⟨some 6, .mov (Opd.c (AV.dat (Ty.int IntKind.i64) (0 : Int))), none⟩]).seq (AC.block 2 (AC.loop c26L0))))).seq (AC.reg false [⟨some 16, .mov (.t 5), none⟩, ⟨some 17, .bin .add (.t 16) (Opd.c (AV.dat (Ty.int IntKind.i64) (1 : Int))), none⟩, ⟨some 5, .mov (.t 17), none⟩]))
def c26 : FnC := { n := 53, body := (AC.reg false [⟨some 4, .mov (Opd.c (AV.dat Ty.bool false)), none⟩]).seq (((AC.reg false [⟨some 7, .mov (.t 0), none⟩, ⟨some 8, .len (.t 7), none⟩, ⟨some 9, .mov (.t 1), none⟩, ⟨some 10, .len (.t 9), none⟩, ⟨some 11, .bin .neq (.t 8) (.t 10), none⟩]).seq (AC.cond (.t 11) ((AC.reg false [⟨some 4, .mov (Opd.c (AV.dat Ty.bool false)), none⟩]).seq AC.ret) AC.skip)).seq (((AC.reg false [⟨some 5, .mov (Opd.c (AV.dat (Ty.int IntKind.i64) (0 : Int))), none⟩]).seq (AC.block 0 (AC.loop c26L1))).seq ((AC.reg false [⟨some 4, .mov (Opd.c (AV.dat Ty.bool true)), none⟩]).seq AC.ret))), res := [RV.tmp 4] }
set_option maxRecDepth 100000 in
theorem h26 : fnOf Tryd.prog 26 = some c26 := by kernel_rfl
def c33L0 : AC := ((AC.reg false [⟨some 15, .mov (.t 6), none⟩, ⟨some 16, .mov (.t 0), none⟩, ⟨some 17, .len (.t 16), none⟩, ⟨some 18, .bin .lss (.t 15) (.t 17), none⟩]).seq (AC.cond (.t 18) AC.skip (AC.exit 2))).seq ((AC.block 3 (AC.reg false [⟨some 21, .mov (.t 5), none⟩, ⟨some 22, .mov (.t 0), none⟩, ⟨some 23, .mov (.t 6), none⟩, ⟨some 24, .idxA 1 (.t 22) (.t 23), none⟩, ⟨some 25, .load 1 false (.t 24), none⟩, ⟨some 26, .mov (.t 4), none⟩, ⟨some 27, .idxA 1 (.t 25) (.t 26), none⟩, ⟨some 28, .load 1 false (.t 27), none⟩, ⟨some 29, .bslice (Ty.int IntKind.i64) 1 [(0, Opd.t 28)], none⟩, ⟨some 30, .app (Ty.int IntKind.i64) 8 (.t 21) (.t 29), none⟩, ⟨some 5, .mov (.t 30), none⟩])).seq (AC.reg false [⟨some 19, .mov (.t 6), none⟩, ⟨some 20, .bin .add (.t 19) (Opd.c (AV.dat (Ty.int IntKind.i64) (1 : Int))), none⟩, ⟨some 6, .mov (.t 20), none⟩]))
def c33L1 : AC := ((AC.reg false [⟨some 7, .mov (.t 4), none⟩, ⟨some 8, .mov (.t 0), none⟩, ⟨some 9, .idxA 1 (.t 8) (Opd.c (AV.dat (Ty.int IntKind.i64) (0 : Int))), none⟩, ⟨some 10, .load 1 false (.t 9), none⟩, ⟨some 11, .len (.t 10), none⟩, ⟨some 12, .bin .lss (.t 7) (.t 11), none⟩]).seq (AC.cond (.t 12) AC.skip (AC.exit 0))).seq ((AC.block 1 ((AC.reg false [⟨some 5, .mov (Opd.c AV.nils), none⟩]).seq (((AC.reg false [⟨some 6, .mov (Opd.c (AV.dat (Ty.int IntKind.i64) (0 : Int))), none⟩]).seq (AC.block 2 (AC.loop c33L0))).seq (AC.reg false [⟨some 31, .mov (.t 3), none⟩, ⟨some 32, .mov (.t 5), none⟩, ⟨some 33, .bsliceB (Ty.int IntKind.i64).list [AV.nils] 1 1 [(0, Opd.t 32)], none⟩, ⟨some 34, .app (Ty.int IntKind.i64).list 24 (.t 31) (.t 33), none⟩, ⟨some 3, .mov (.t 34), none⟩])))).seq (AC.reg false [⟨some 13, .mov (.t 4), none⟩, ⟨some 14, .bin .add (.t 13) (Opd.c (AV.dat (Ty.int IntKind.i64) (1 : Int))), none⟩, ⟨some 4, .mov (.t 14), none⟩]))
def c33 : FnC := { n := 36, body := (AC.reg false [⟨some 2, .mov (Opd.c AV.nils), none⟩]).seq ((AC.reg false [⟨some 3, .mov (Opd.c AV.nils), none⟩]).seq (((AC.reg false [⟨some 4, .mov (Opd.c (AV.dat (Ty.int IntKind.i64) (0 : Int))), none⟩]).seq (AC.block 0 (AC.loop c33L1))).seq ((AC.reg false [⟨some 35, .mov (.t 3), none⟩, ⟨some 2, .mov (.t 35), none⟩]).seq AC.ret))), res := [RV.tmp 2] }
set_option maxRecDepth 100000 in
theorem h33 : fnOf Tryd.prog 33 = some c33 := by kernel_rfl
def c35L0 : AC := ((AC.reg false [⟨some 6, .mov (.t 1), none⟩, ⟨some 7, .len (.t 6), none⟩, ⟨some 8, .mov (.t 0), none⟩, ⟨some 9, .bin .geq (.t 7) (.t 8), none⟩]).seq (AC.cond (.t 9) AC.skip (AC.exit 0))).seq (AC.block 1 (AC.regG 0 [0, 0, 0, 6, 14, 31, 0, 0, 192, 63, 1023] [⟨some 10, .mov (.t 5), none⟩, ⟨some 11, .mov (.t 1), none⟩, ⟨some 12, .mov (.t 0), none⟩, ⟨some 13, .slice 1 (.t 11) none (some (.t 12)), none⟩, ⟨some 14, .bdat (Ty.int IntKind.i64).list 1 [(0, Opd.t 13)], none⟩, ⟨some 15, .app (Ty.int IntKind.i64).list 24 (.t 10) (.t 14), none⟩, ⟨some 16, .mov (.t 1), none⟩, ⟨some 17, .mov (.t 0), none⟩, ⟨some 18, .slice 1 (.t 16) (some (.t 17)) none, none⟩, ⟨some 5, .mov (.t 15), none⟩, ⟨some 1, .mov (.t 18), none⟩]))
def c35 : FnC := { n := 20, body := (AC.reg false [⟨some 4, .mov (Opd.c AV.nils), none⟩]).seq ((AC.reg false [⟨some 5, .mov (Opd.c AV.nils), none⟩]).seq ((AC.block 0 (AC.loop c35L0)).seq ((AC.reg false [⟨some 19, .mov (.t 5), none⟩, ⟨some 4, .mov (.t 19), none⟩]).seq AC.ret))), res := [RV.tmp 4] }
set_option maxRecDepth 100000 in
theorem h35 : fnOf Tryd.prog 35 = some c35 := by kernel_rfl
def c37L0 : AC := (AC.reg false [⟨some 12, .bin .lss (.t 11) (.t 10), none⟩]).seq ((AC.cond (.t 12) AC.skip (AC.exit 0)).seq ((AC.block 1 ((AC.reg false [⟨some 13, .mov (.t 11), none⟩, ⟨some 14, .idxA 1 (.t 9) (.t 11), none⟩, ⟨some 15, .load 1 false (.t 14), none⟩, ⟨some 5, .mov (.t 13), none⟩, ⟨some 6, .mov (.t 15), none⟩]).seq (((AC.reg false [⟨some 16, .mov (.t 5), none⟩, ⟨some 17, .mov (.t 1), none⟩, ⟨some 18, .len (.t 17), none⟩, ⟨some 19, .bin .geq (.t 16) (.t 18), none⟩]).seq (AC.cond (.t 19) ((AC.reg false [⟨some 4, .mov (Opd.c (AV.dat (Ty.int IntKind.i64) (1 : Int))), none⟩]).seq AC.ret) AC.skip)).seq ((AC.reg false [⟨some 20, .mov (.t 1), none⟩, ⟨some 21, .mov (.t 5), none⟩, ⟨some 22, .idxA 1 (.t 20) (.t 21), none⟩, ⟨some 23, .load 1 false (.t 22), none⟩, ⟨some 7, .mov (.t 23), none⟩]).seq ((AC.reg false [⟨some 24, .mov (.t 6), none⟩, ⟨some 25, .mov (.t 7), none⟩, ⟨some 26, .call (Opd.c (AV.fn 52 [] [])) [Opd.t 24, Opd.t 25], none⟩, ⟨some 8, .mov (.t 26), none⟩]).seq ((AC.reg false [⟨some 27, .mov (.t 8), none⟩, ⟨some 28, .bin .neq (.t 27) (Opd.c (AV.dat (Ty.int IntKind.i64) (0 : Int))), none⟩]).seq (AC.cond (.t 28) ((AC.reg false [⟨some 29, .mov (.t 8), none⟩, ⟨some 4, .mov (.t 29), none⟩]).seq AC.ret) AC.skip))))))).seq (AC.reg false [⟨some 30, .bin .add (.t 11) (Opd.c (AV.dat (Ty.int IntKind.i64) (1 : Int))), none⟩, ⟨some 11, .mov (.t 30), none⟩])))
def c37 : FnC := { n := 36, body := (AC.reg false [⟨some 4, .mov (Opd.c (AV.dat (Ty.int IntKind.i64) (0 : Int))), none⟩]).seq (((AC.reg false [⟨some 9, .mov (.t 0), none⟩, ⟨some 10, .len (.t 9), none⟩, ⟨some 11, .mov (Opd.c (AV.dat (Ty.int IntKind.i64) (0 : Int))), none⟩]).seq (AC.block 0 (AC.loop c37L0))).seq (((AC.reg false [⟨some 31, .mov (.t 0), none⟩, ⟨some 32, .len (.t 31), none⟩, ⟨some 33, .mov (.t 1), none⟩, ⟨some 34, .len (.t 33), none⟩, ⟨some 35, .bin .lss (.t 32) (.t 34), none⟩]).seq (AC.cond (.t 35) ((AC.reg false [⟨some 4, .mov (Opd.c (AV.dat (Ty.int IntKind.i64) (-1 : Int))), none⟩]).seq AC.ret) AC.skip)).seq ((AC.reg false [⟨some 4, .mov (Opd.c (AV.dat (Ty.int IntKind.i64) (0 : Int))), none⟩]).seq AC.ret))), res := [RV.tmp 4] }
set_option maxRecDepth 100000 in
theorem h37 : fnOf Tryd.prog 37 = some c37 := by kernel_rfl
def c38L0 : AC := (AC.reg false [⟨some 12, .bin .lss (.t 11) (.t 10), none⟩]).seq ((AC.cond (.t 12) AC.skip (AC.exit 0)).seq ((AC.block 1 ((AC.reg false [⟨some 13, .idxA 1 (.t 9) (.t 11), none⟩, ⟨some 14, .load 1 false (.t 13), none⟩, ⟨some 5, .mov (.t 14), none⟩]).seq ((AC.reg false [⟨some 15, .mov (.t 3), none⟩, ⟨some 16, .mov (.t 5), none⟩, ⟨some 17, .len (.t 16), none⟩, ⟨some 18, .bin .add (.t 15) (.t 17), none⟩, ⟨some 3, .mov (.t 18), none⟩]).seq ((AC.reg false [⟨some 19, .mov (.t 3), none⟩, ⟨some 20, .bin .lss (.t 19) (Opd.c (AV.dat (Ty.int IntKind.i64) (0 : Int))), none⟩]).seq (AC.cond (.t 20) (AC.reg false [⟨some 21, .bad, none⟩, ⟨none, .bad, none⟩]) AC.skip))))).seq (AC.reg false [⟨some 22, .bin .add (.t 11) (Opd.c (AV.dat (Ty.int IntKind.i64) (1 : Int))), none⟩, ⟨some 11, .mov (.t 22), none⟩])))
def c38L1 : AC := (AC.reg false [⟨some 28, .bin .lss (.t 27) (.t 26), none⟩]).seq ((AC.cond (.t 28) AC.skip (AC.exit 2)).seq ((AC.block 3 ((AC.reg false [⟨some 29, .idxA 1 (.t 25) (.t 27), none⟩, ⟨some 30, .load 1 false (.t 29), none⟩, ⟨some 8, .mov (.t 30), none⟩]).seq (AC.reg false [⟨some 31, .mov (.t 6), none⟩, ⟨some 32, .mov (.t 8), none⟩, ⟨some 33, .app (Ty.int IntKind.i64) 8 (.t 31) (.t 32), none⟩, ⟨some 6, .mov (.t 33), none⟩]))).seq (AC.reg false [⟨some 34, .bin .add (.t 27) (Opd.c (AV.dat (Ty.int IntKind.i64) (1 : Int))), none⟩, ⟨some 27, .mov (.t 34), none⟩])))
def c38 : FnC := { n := 36, body := (AC.reg false [⟨some 2, .mov (Opd.c AV.nils), none⟩]).seq ((AC.reg false [⟨some 3, .mov (Opd.c (AV.dat (Ty.int IntKind.i64) (0 : Int))), none⟩]).seq (((AC.reg false [⟨some 9, .mov (.t 0), none⟩, ⟨some 10, .len (.t 9), none⟩, ⟨some 11, .mov (Opd.c (AV.dat (Ty.int IntKind.i64) (0 : Int))), none⟩]).seq (AC.block 0 (AC.loop c38L0))).seq ((AC.reg false [⟨some 23, .mov (.t 3), none⟩, ⟨some 24, .call (Opd.c (AV.fn 53 [] [])) [Opd.c AV.nils, Opd.t 23], none⟩, ⟨some 6, .mov (.t 24), none⟩]).seq (((AC.reg false [⟨some 25, .mov (.t 0), none⟩, ⟨some 26, .len (.t 25), none⟩, ⟨some 27, .mov (Opd.c (AV.dat (Ty.int IntKind.i64) (0 : Int))), none⟩]).seq (AC.block 2 (AC.loop c38L1))).seq ((AC.reg false [⟨some 35, .mov (.t 6), none⟩, ⟨some 2, .mov (.t 35), none⟩]).seq AC.ret))))), res := [RV.tmp 2] }
set_option maxRecDepth 100000 in
theorem h38 : fnOf Tryd.prog 38 = some c38 := by kernel_rfl
def c39 : FnC := { n := 8, body := (AC.reg false [⟨some 2, .mov (Opd.c AV.nils), none⟩]).seq (((AC.reg false [⟨some 3, .mov (.t 0), none⟩, ⟨some 4, .isnil true (.t 3), none⟩]).seq (AC.cond (.t 4) ((AC.reg false [⟨some 2, .mov (Opd.c AV.nils), none⟩]).seq AC.ret) AC.skip)).seq ((AC.reg false [⟨some 5, .bslice (Ty.int IntKind.i64) 0 [], none⟩, ⟨some 6, .mov (.t 0), none⟩, ⟨some 7, .app (Ty.int IntKind.i64) 8 (.t 5) (.t 6), none⟩, ⟨some 2, .mov (.t 7), none⟩]).seq AC.ret)), res := [RV.tmp 2] }
set_option maxRecDepth 100000 in
theorem h39 : fnOf Tryd.prog 39 = some c39 := by kernel_rfl
def c40L0 : AC := ((AC.reg false [⟨some 12, .mov (.t 4), none⟩, ⟨some 13, .mov (.t 0), none⟩, ⟨some 14, .len (.t 13), none⟩, ⟨some 15, .bin .lss (.t 12) (.t 14), none⟩]).seq (AC.cond (.t 15) AC.skip (AC.exit 0))).seq ((AC.block 1 (AC.reg false [⟨some 18, .mov (.t 3), none⟩, ⟨some 19, .mov (.t 0), none⟩, ⟨some 20, .mov (.t 4), none⟩, ⟨some 21, .idxA 1 (.t 19) (.t 20), none⟩, ⟨some 22, .load 1 false (.t 21), none⟩, ⟨some 23, .mm false (.t 18) (.t 22), none⟩, ⟨some 3, .mov (.t 23), none⟩])).seq (AC.reg false [⟨some 16, .mov (.t 4), none⟩, ⟨some 17, .bin .add (.t 16) (Opd.c (AV.dat (Ty.int IntKind.i64) (1 : Int))), none⟩, ⟨some 4, .mov (.t 17), none⟩]))
def c40 : FnC := { n := 25, body := (AC.reg false [⟨some 2, .mov (Opd.c (AV.dat (Ty.int IntKind.i64) (0 : Int))), none⟩]).seq (((AC.reg false [⟨some 5, .mov (.t 0), none⟩, ⟨some 6, .len (.t 5), none⟩, ⟨some 7, .bin .lss (.t 6) (Opd.c (AV.dat (Ty.int IntKind.i64) (1 : Int))), none⟩]).seq (AC.cond (.t 7) (AC.reg false [⟨some 8, .bad, none⟩, ⟨none, .bad, none⟩]) AC.skip)).seq ((AC.reg false [⟨some 9, .mov (.t 0), none⟩, ⟨some 10, .idxA 1 (.t 9) (Opd.c (AV.dat (Ty.int IntKind.i64) (0 : Int))), none⟩, ⟨some 11, .load 1 false (.t 10), none⟩, ⟨some 3, .mov (.t 11), none⟩]).seq (((AC.reg false [⟨some 4, .mov (Opd.c (AV.dat (Ty.int IntKind.i64) (1 : Int))), none⟩]).seq (AC.block 0 (AC.loop c40L0))).seq ((AC.reg false [⟨some 24, .mov (.t 3), none⟩, ⟨some 2, .mov (.t 24), none⟩]).seq AC.ret)))), res := [RV.tmp 2] }
set_option maxRecDepth 100000 in
theorem h40 : fnOf Tryd.prog 40 = some c40 := by kernel_rfl
def c41L0 : AC := ((AC.reg false [⟨some 12, .mov (.t 4), none⟩, ⟨some 13, .mov (.t 0), none⟩, ⟨some 14, .len (.t 13), none⟩, ⟨some 15, .bin .lss (.t 12) (.t 14), none⟩]).seq (AC.cond (.t 15) AC.skip (AC.exit 0))).seq ((AC.block 1 (AC.reg false [⟨some 18, .mov (.t 3), none⟩, ⟨some 19, .mov (.t 0), none⟩, ⟨some 20, .mov (.t 4), none⟩, ⟨some 21, .idxA 1 (.t 19) (.t 20), none⟩, ⟨some 22, .load 1 false (.t 21), none⟩, ⟨some 23, .mm true (.t 18) (.t 22), none⟩, ⟨some 3, .mov (.t 23), none⟩])).seq (AC.reg false [⟨some 16, .mov (.t 4), none⟩, ⟨some 17, .bin .add (.t 16) (Opd.c (AV.dat (Ty.int IntKind.i64) (1 : Int))), none⟩, ⟨some 4, .mov (.t 17), none⟩]))
def c41 : FnC := { n := 25, body := (AC.reg false [⟨some 2, .mov (Opd.c (AV.dat (Ty.int IntKind.i64) (0 : Int))), none⟩]).seq (((AC.reg false [⟨some 5, .mov (.t 0), none⟩, ⟨some 6, .len (.t 5), none⟩, ⟨some 7, .bin .lss (.t 6) (Opd.c (AV.dat (Ty.int IntKind.i64) (1 : Int))), none⟩]).seq (AC.cond (.t 7) (AC.reg false [⟨some 8, .bad, none⟩, ⟨none, .bad, none⟩]) AC.skip)).seq ((AC.reg false [⟨some 9, .mov (.t 0), none⟩, ⟨some 10, .idxA 1 (.t 9) (Opd.c (AV.dat (Ty.int IntKind.i64) (0 : Int))), none⟩, ⟨some 11, .load 1 false (.t 10), none⟩, ⟨some 3, .mov (.t 11), none⟩]).seq (((AC.reg false [⟨some 4, .mov (Opd.c (AV.dat (Ty.int IntKind.i64) (1 : Int))), none⟩]).seq (AC.block 0 (AC.loop c41L0))).seq ((AC.reg false [⟨some 24, .mov (.t 3), none⟩, ⟨some 2, .mov (.t 24), none⟩]).seq AC.ret)))), res := [RV.tmp 2] }
set_option maxRecDepth 100000 in
theorem h41 : fnOf Tryd.prog 41 = some c41 := by kernel_rfl
def c42L0 : AC := (AC.reg false [⟨some 18, .bin .lss (.t 17) (.t 16), none⟩]).seq ((AC.cond (.t 18) AC.skip (AC.exit 2)).seq ((AC.block 3 ((AC.reg false [⟨some 19, .mov (.t 17), none⟩, ⟨some 20, .idxA 1 (.t 15) (.t 17), none⟩, ⟨some 21, .load 1 false (.t 20), none⟩, ⟨some 6, .mov (.t 19), none⟩, ⟨some 7, .mov (.t 21), none⟩]).seq ((AC.reg false [⟨some 22, .mov (.t 4), none⟩, ⟨some 23, .idxArrA 3 1 (.t 2) (.t 22), none⟩, ⟨some 24, .load 1 false (.t 23), none⟩, ⟨some 25, .mov (.t 7), none⟩, ⟨some 26, .bin .add (.t 24) (.t 25), none⟩, ⟨some 27, .idxArrA 3 1 (.t 2) (.t 22), none⟩, ⟨none, .store 1 (.t 27) (.t 26), none⟩]).seq (AC.reg false [⟨some 28, .mov (.t 6), none⟩, ⟨some 29, .idxArrA 3 1 (.t 3) (.t 28), none⟩, ⟨some 30, .load 1 false (.t 29), none⟩, ⟨some 31, .mov (.t 7), none⟩, ⟨some 32, .bin .add (.t 30) (.t 31), none⟩, ⟨some 33, .idxArrA 3 1 (.t 3) (.t 28), none⟩, ⟨none, .store 1 (.t 33) (.t 32), none⟩])))).seq (AC.reg false [⟨some 34, .bin .add (.t 17) (Opd.c (AV.dat (Ty.int IntKind.i64) (1 : Int))), none⟩, ⟨some 17, .mov (.t 34), none⟩])))
def c42L1 : AC := (AC.reg false [⟨some 11, .bin .lss (.t 10) (.t 9), none⟩]).seq ((AC.cond (.t 11) AC.skip (AC.exit 0)).seq ((AC.block 1 ((AC.reg false [⟨some 12, .mov (.t 10), none⟩, ⟨some 13, .idxA 1 (.t 8) (.t 10), none⟩, ⟨some 14, .load 1 false (.t 13), none⟩, ⟨some 4, .mov (.t 12), none⟩, ⟨some 5, .mov (.t 14), none⟩]).seq ((AC.reg false [⟨some 15, .mov (.t 5), none⟩, ⟨some 16, .len (.t 15), none⟩, ⟨some 17, .mov (Opd.c (AV.dat (Ty.int IntKind.i64) (0 : Int))), none⟩]).seq (AC.block 2 (AC.loop c42L0))))).seq (AC.reg false [⟨some 35, .bin .add (.t 10) (Opd.c (AV.dat (Ty.int IntKind.i64) (1 : Int))), none⟩, ⟨some 10, .mov (.t 35), none⟩])))
def c42 : FnC := { n := 38, body := (AC.reg false [⟨some 2, .alloc [AV.dat (Ty.int IntKind.i64) (0 : Int), AV.dat (Ty.int IntKind.i64) (0 : Int), AV.dat (Ty.int IntKind.i64) (0 : Int)], none⟩, ⟨some 3, .alloc [AV.dat (Ty.int IntKind.i64) (0 : Int), AV.dat (Ty.int IntKind.i64) (0 : Int), AV.dat (Ty.int IntKind.i64) (0 : Int)], none⟩]).seq (((AC.reg false [⟨some 8, .mov (.t 0), none⟩, ⟨some 9, .len (.t 8), none⟩, ⟨some 10, .mov (Opd.c (AV.dat (Ty.int IntKind.i64) (0 : Int))), none⟩]).seq (AC.block 0 (AC.loop c42L1))).seq ((AC.regG 0 [0, 0, 1, 7] [⟨some 36, .load 3 true (.t 2), none⟩, ⟨some 37, .load 3 true (.t 3), none⟩, ⟨none, .store 3 (.t 2) (.t 36), none⟩, ⟨none, .store 3 (.t 3) (.t 37), none⟩]).seq AC.ret)), res := [RV.cell 2 3 true, RV.cell 3 3 true] }
set_option maxRecDepth 100000 in
theorem h42 : fnOf Tryd.prog 42 = some c42 := by kernel_rfl
def c43L0 : AC := (AC.reg false [⟨some 16, .bin .lss (.t 15) (.t 14), none⟩]).seq ((AC.cond (.t 16) AC.skip (AC.exit 0)).seq ((AC.block 1 ((AC.reg false [⟨some 17, .mov (.t 15), none⟩, ⟨some 18, .idxA 1 (.t 13) (.t 15), none⟩, ⟨some 19, .load 1 false (.t 18), none⟩, ⟨some 6, .mov (.t 17), none⟩, ⟨some 7, .mov (.t 19), none⟩]).seq (AC.reg false [⟨some 20, .mov (.t 5), none⟩, ⟨some 21, .mov (.t 6), none⟩, ⟨some 22, .idxArrA 3 1 (.t 3) (.t 21), none⟩, ⟨some 23, .load 1 false (.t 22), none⟩, ⟨some 24, .mov (.t 7), none⟩, ⟨some 25, .call (Opd.c (AV.fn 44 [] [])) [Opd.t 23, Opd.t 24], none⟩, ⟨some 26, .bin .mul (.t 20) (.t 25), none⟩, ⟨some 5, .mov (.t 26), none⟩]))).seq (AC.reg false [⟨some 27, .bin .add (.t 15) (Opd.c (AV.dat (Ty.int IntKind.i64) (1 : Int))), none⟩, ⟨some 15, .mov (.t 27), none⟩])))
def c43 : FnC := { n := 29, body := (AC.reg false [⟨some 2, .mov (Opd.c (AV.dat (Ty.int IntKind.i64) (0 : Int))), none⟩]).seq ((AC.reg false [⟨some 9, .mov (.t 0), none⟩, ⟨some 10, .call (Opd.c (AV.fn 42 [] [])) [Opd.t 9], none⟩, ⟨some 8, .mov (.t 10), none⟩, ⟨some 11, .ext (.t 8) 0, none⟩, ⟨some 12, .ext (.t 8) 1, none⟩, ⟨some 3, .alloc [AV.dat (Ty.int IntKind.i64) (0 : Int), AV.dat (Ty.int IntKind.i64) (0 : Int), AV.dat (Ty.int IntKind.i64) (0 : Int)], none⟩, ⟨some 4, .alloc [AV.dat (Ty.int IntKind.i64) (0 : Int), AV.dat (Ty.int IntKind.i64) (0 : Int), AV.dat (Ty.int IntKind.i64) (0 : Int)], none⟩, ⟨none, .store 3 (.t 3) (.t 11), none⟩, ⟨none, .store 3 (.t 4) (.t 12), none⟩]).seq ((AC.reg false [⟨some 5, .mov (Opd.c (AV.dat (Ty.int IntKind.i64) (1 : Int))), none⟩]).seq (((AC.reg false [⟨some 13, .mov (.t 0), none⟩, ⟨some 14, .len (.t 13), none⟩, ⟨some 15, .mov (Opd.c (AV.dat (Ty.int IntKind.i64) (0 : Int))), none⟩]).seq (AC.block 0 (AC.loop c43L0))).seq ((AC.reg false [⟨some 28, .mov (.t 5), none⟩, ⟨some 2, .mov (.t 28), none⟩]).seq AC.ret)))), res := [RV.tmp 2] }
set_option maxRecDepth 100000 in
theorem h43 : fnOf Tryd.prog 43 = some c43 := by kernel_rfl
def c44L0 : AC := (AC.reg false [⟨some 14, .bin .lss (.t 13) (.t 12), none⟩]).seq ((AC.cond (.t 14) AC.skip (AC.exit 0)).seq ((AC.block 1 ((AC.reg false [⟨some 15, .idxA 1 (.t 11) (.t 13), none⟩, ⟨some 16, .load 1 false (.t 15), none⟩, ⟨some 7, .mov (.t 16), none⟩]).seq (AC.reg false [⟨some 17, .mov (.t 5), none⟩, ⟨some 18, .mov (.t 7), none⟩, ⟨some 19, .idxArrA 21 1 (Opd.c (AV.imm (Ty.arr 21 (Ty.int IntKind.i64)) [Int.ofNat 1, Int.ofNat 1, Int.ofNat 2, Int.ofNat 6, Int.ofNat 24, Int.ofNat 120, Int.ofNat 720, Int.ofNat 5040, Int.ofNat 40320, Int.ofNat 362880, Int.ofNat 3628800, Int.ofNat 39916800, Int.ofNat 479001600, Int.ofNat 6227020800, Int.ofNat 87178291200, Int.ofNat 1307674368000, Int.ofNat 20922789888000, Int.ofNat 355687428096000, Int.ofNat 6402373705728000, Int.ofNat 121645100408832000, Int.ofNat 2432902008176640000])) (.t 18), none⟩, ⟨some 20, .load 1 false (.t 19), none⟩, ⟨some 21, .bin .quo (.t 17) (.t 20), none⟩, ⟨some 5, .mov (.t 21), none⟩]))).seq (AC.reg false [⟨some 22, .bin .add (.t 13) (Opd.c (AV.dat (Ty.int IntKind.i64) (1 : Int))), none⟩, ⟨some 13, .mov (.t 22), none⟩])))
def c44 : FnC := { n := 24, body := (AC.reg false [⟨some 4, .mov (Opd.c (AV.dat (Ty.int IntKind.i64) (0 : Int))), none⟩]).seq ((AC.reg false [⟨some 8, .mov (.t 0), none⟩, ⟨some 9, .idxArrA 21 1 (Opd.c (AV.imm (Ty.arr 21 (Ty.int IntKind.i64)) [Int.ofNat 1, Int.ofNat 1, Int.ofNat 2, Int.ofNat 6, Int.ofNat 24, Int.ofNat 120, Int.ofNat 720, Int.ofNat 5040, Int.ofNat 40320, Int.ofNat 362880, Int.ofNat 3628800, Int.ofNat 39916800, Int.ofNat 479001600, Int.ofNat 6227020800, Int.ofNat 87178291200, Int.ofNat 1307674368000, Int.ofNat 20922789888000, Int.ofNat 355687428096000, Int.ofNat 6402373705728000, Int.ofNat 121645100408832000, Int.ofNat 2432902008176640000])) (.t 8), none⟩, ⟨some 10, .load 1 false (.t 9), none⟩, ⟨some 5, .mov (.t 10), none⟩]).seq (((AC.reg false [⟨some 11, .mov (.t 1), none⟩, ⟨some 12, .len (.t 11), none⟩, ⟨some 13, .mov (Opd.c (AV.dat (Ty.int IntKind.i64) (0 : Int))), none⟩]).seq (AC.block 0 (AC.loop c44L0))).seq ((AC.reg false [⟨some 23, .mov (.t 5), none⟩, ⟨some 4, .mov (.t 23), none⟩]).seq AC.ret))), res := [RV.tmp 4] }
set_option maxRecDepth 100000 in
theorem h44 : fnOf Tryd.prog 44 = some c44 := by kernel_rfl
def c45L0 : AC := ((AC.reg false [⟨some 9, .mov (.t 6), none⟩, ⟨some 10, .mov (.t 1), none⟩, ⟨some 11, .len (.t 10), none⟩, ⟨some 12, .bin .lss (.t 9) (.t 11), none⟩]).seq (AC.cond (.t 12) AC.skip (AC.exit 0))).seq ((AC.block 1 (AC.reg false [⟨some 15, .mov (.t 5), none⟩, ⟨some 16, .mov (.t 1), none⟩, ⟨some 17, .mov (.t 6), none⟩, ⟨some 18, .idxA 1 (.t 16) (.t 17), none⟩, ⟨some 19, .load 1 false (.t 18), none⟩, ⟨some 20, .call (Opd.c (AV.fn 54 [] [])) [Opd.t 19], none⟩, ⟨some 21, .bin .quo (.t 15) (.t 20), none⟩, ⟨some 5, .mov (.t 21), none⟩])).seq (AC.reg false [⟨some 13, .mov (.t 6), none⟩, ⟨some 14, .bin .add (.t 13) (Opd.c (AV.dat (Ty.int IntKind.i64) (1 : Int))), none⟩, ⟨some 6, .mov (.t 14), none⟩]))
def c45 : FnC := { n := 23, body := (AC.reg false [⟨some 4, .mov (Opd.c (AV.dat (Ty.int IntKind.i64) (0 : Int))), none⟩]).seq ((AC.reg false [⟨some 7, .mov (.t 0), none⟩, ⟨some 8, .call (Opd.c (AV.fn 54 [] [])) [Opd.t 7], none⟩, ⟨some 5, .mov (.t 8), none⟩]).seq (((AC.reg false [⟨some 6, .mov (Opd.c (AV.dat (Ty.int IntKind.i64) (0 : Int))), none⟩]).seq (AC.block 0 (AC.loop c45L0))).seq ((AC.reg false [⟨some 22, .mov (.t 5), none⟩, ⟨some 4, .mov (.t 22), none⟩]).seq AC.ret))), res := [RV.tmp 4] }
set_option maxRecDepth 100000 in
theorem h45 : fnOf Tryd.prog 45 = some c45 := by kernel_rfl
def c46 : FnC := { n := 4, body := (AC.reg false [⟨some 1, .box (.t 0), none⟩, ⟨some 2, .mov (Opd.c AV.nilf), none⟩]).seq ((AC.reg false [⟨some 3, .mkfn 55 [] [Opd.t 1], none⟩, ⟨some 2, .mov (.t 3), none⟩]).seq AC.ret), res := [RV.tmp 2] }
set_option maxRecDepth 100000 in
theorem h46 : fnOf Tryd.prog 46 = some c46 := by kernel_rfl
def c52 : FnC := { n := 20, body := (AC.reg false [⟨some 4, .mov (Opd.c (AV.dat (Ty.int IntKind.i64) (0 : Int))), none⟩]).seq ((AC.reg false [⟨some 7, .mov (.t 0), none⟩, ⟨some 8, .call (Opd.c (AV.fn 68 [] [])) [Opd.t 7], none⟩, ⟨some 5, .mov (.t 8), none⟩]).seq ((AC.reg false [⟨some 9, .mov (.t 1), none⟩, ⟨some 10, .call (Opd.c (AV.fn 68 [] [])) [Opd.t 9], none⟩, ⟨some 6, .mov (.t 10), none⟩]).seq (((AC.reg false [⟨some 11, .mov (.t 5), none⟩]).seq (AC.cond (.t 11) (((AC.reg false [⟨some 12, .mov (.t 6), none⟩]).seq (AC.cond (.t 12) ((AC.reg false [⟨some 4, .mov (Opd.c (AV.dat (Ty.int IntKind.i64) (0 : Int))), none⟩]).seq AC.ret) AC.skip)).seq ((AC.reg false [⟨some 4, .mov (Opd.c (AV.dat (Ty.int IntKind.i64) (-1 : Int))), none⟩]).seq AC.ret)) AC.skip)).seq (((AC.reg false [⟨some 13, .mov (.t 6), none⟩]).seq (AC.cond (.t 13) ((AC.reg false [⟨some 4, .mov (Opd.c (AV.dat (Ty.int IntKind.i64) (1 : Int))), none⟩]).seq AC.ret) AC.skip)).seq (((AC.reg false [⟨some 14, .mov (.t 0), none⟩, ⟨some 15, .mov (.t 1), none⟩, ⟨some 16, .bin .lss (.t 14) (.t 15), none⟩]).seq (AC.cond (.t 16) ((AC.reg false [⟨some 4, .mov (Opd.c (AV.dat (Ty.int IntKind.i64) (-1 : Int))), none⟩]).seq AC.ret) AC.skip)).seq (((AC.reg false [⟨some 17, .mov (.t 0), none⟩, ⟨some 18, .mov (.t 1), none⟩, ⟨some 19, .bin .gtr (.t 17) (.t 18), none⟩]).seq (AC.cond (.t 19) ((AC.reg false [⟨some 4, .mov (Opd.c (AV.dat (Ty.int IntKind.i64) (1 : Int))), none⟩]).seq AC.ret) AC.skip)).seq ((AC.reg false [⟨some 4, .mov (Opd.c (AV.dat (Ty.int IntKind.i64) (0 : Int))), none⟩]).seq AC.ret))))))), res := [RV.tmp 4] }
set_option maxRecDepth 100000 in
theorem h52 : fnOf Tryd.prog 52 = some c52 := by kernel_rfl
def c53 : FnC := { n := 27, body := (AC.reg false [⟨some 4, .mov (Opd.c AV.nils), none⟩]).seq (((AC.reg false [⟨some 5, .mov (.t 1), none⟩, ⟨some 6, .bin .lss (.t 5) (Opd.c (AV.dat (Ty.int IntKind.i64) (0 : Int))), none⟩]).seq (AC.cond (.t 6) (AC.reg false [⟨some 7, .bad, none⟩, ⟨none, .bad, none⟩]) AC.skip)).seq (((AC.reg false [⟨some 8, .mov (.t 1), none⟩, ⟨some 9, .mov (.t 0), none⟩, ⟨some 10, .capI (.t 9), none⟩, ⟨some 11, .mov (.t 0), none⟩, ⟨some 12, .len (.t 11), none⟩, ⟨some 13, .bin .sub (.t 10) (.t 12), none⟩, ⟨some 14, .bin .sub (.t 8) (.t 13), none⟩, ⟨some 1, .mov (.t 14), none⟩]).seq ((AC.reg false [⟨some 15, .mov (.t 1), none⟩, ⟨some 16, .bin .gtr (.t 15) (Opd.c (AV.dat (Ty.int IntKind.i64) (0 : Int))), none⟩]).seq (AC.cond (.t 16) (AC.reg false [⟨some 17, .mov (.t 0), none⟩, ⟨some 18, .mov (.t 0), none⟩, ⟨some 19, .capI (.t 18), none⟩, ⟨some 20, .slice 1 (.t 17) none (some (.t 19)), none⟩, ⟨some 21, .mov (.t 1), none⟩, ⟨some 22, .appZ (Ty.int IntKind.i64) 8 (.t 20) (.t 21), none⟩, ⟨some 23, .mov (.t 0), none⟩, ⟨some 24, .len (.t 23), none⟩, ⟨some 25, .slice 1 (.t 22) none (some (.t 24)), none⟩, ⟨some 0, .mov (.t 25), none⟩]) AC.skip))).seq ((AC.reg false [⟨some 26, .mov (.t 0), none⟩, ⟨some 4, .mov (.t 26), none⟩]).seq AC.ret))), res := [RV.tmp 4] }
set_option maxRecDepth 100000 in
theorem h53 : fnOf Tryd.prog 53 = some c53 := by kernel_rfl
def c54L0 : AC := ((AC.reg false [⟨some 5, .mov (.t 4), none⟩, ⟨some 6, .mov (.t 0), none⟩, ⟨some 7, .bin .leq (.t 5) (.t 6), none⟩]).seq (AC.cond (.t 7) AC.skip (AC.exit 0))).seq ((AC.block 1 (AC.reg false [⟨some 10, .mov (.t 3), none⟩, ⟨some 11, .mov (.t 4), none⟩, ⟨some 12, .bin .mul (.t 10) (.t 11), none⟩, ⟨some 3, .mov (.t 12), none⟩])).seq (AC.reg false [⟨some 8, .mov (.t 4), none⟩, ⟨some 9, .bin .add (.t 8) (Opd.c (AV.dat (Ty.int IntKind.i64) (1 : Int))), none⟩, ⟨some 4, .mov (.t 9), none⟩]))
def c54 : FnC := { n := 14, body := (AC.reg false [⟨some 2, .mov (Opd.c (AV.dat (Ty.int IntKind.i64) (0 : Int))), none⟩]).seq ((AC.reg false [⟨some 3, .mov (Opd.c (AV.dat (Ty.int IntKind.i64) (1 : Int))), none⟩]).seq (((AC.reg false [⟨some 4, .mov (Opd.c (AV.dat (Ty.int IntKind.i64) (2 : Int))), none⟩]).seq (AC.block 0 (AC.loop c54L0))).seq ((AC.reg false [⟨some 13, .mov (.t 3), none⟩, ⟨some 2, .mov (.t 13), none⟩]).seq AC.ret))), res := [RV.tmp 2] }
set_option maxRecDepth 100000 in
theorem h54 : fnOf Tryd.prog 54 = some c54 := by kernel_rfl
def c55L0 : AC := (AC.reg false [⟨some 19, .bin .lss (.t 18) (.t 17), none⟩]).seq ((AC.cond (.t 19) AC.skip (AC.exit 0)).seq ((AC.block 1 ((AC.reg false [⟨some 20, .mov (.t 18), none⟩, ⟨some 6, .mov (.t 20), none⟩]).seq (AC.regG 1 [0, 0, 0, 4, 12, 28, 60, 127, 255] [⟨some 21, .load 1 false (.t 5), none⟩, ⟨some 22, .mov (.t 6), none⟩, ⟨some 23, .load 1 false (.t 1), none⟩, ⟨some 24, .idxA 1 (.t 23) (Opd.c (AV.dat (Ty.int IntKind.i64) (0 : Int))), none⟩, ⟨some 25, .load 1 false (.t 24), none⟩, ⟨some 26, .len (.t 25), none⟩, ⟨some 27, .mkR 1 (Ty.int IntKind.i64) 8 (.t 26) (.t 26), none⟩, ⟨some 28, .idxA 1 (.t 21) (.t 22), none⟩, ⟨none, .store 1 (.t 28) (.t 27), none⟩]))).seq (AC.reg false [⟨some 29, .bin .add (.t 18) (Opd.c (AV.dat (Ty.int IntKind.i64) (1 : Int))), none⟩, ⟨some 18, .mov (.t 29), none⟩])))
def c55 : FnC := { n := 33, body := (AC.reg false [⟨some 2, .box (.t 0), none⟩]).seq ((AC.reg false [⟨some 9, .load 1 false (.t 1), none⟩, ⟨some 10, .call (Opd.c (AV.fn 42 [] [])) [Opd.t 9], none⟩, ⟨some 8, .mov (.t 10), none⟩, ⟨some 11, .ext (.t 8) 0, none⟩, ⟨some 12, .ext (.t 8) 1, none⟩, ⟨some 3, .alloc [AV.dat (Ty.int IntKind.i64) (0 : Int), AV.dat (Ty.int IntKind.i64) (0 : Int), AV.dat (Ty.int IntKind.i64) (0 : Int)], none⟩, ⟨some 4, .alloc [AV.dat (Ty.int IntKind.i64) (0 : Int), AV.dat (Ty.int IntKind.i64) (0 : Int), AV.dat (Ty.int IntKind.i64) (0 : Int)], none⟩, ⟨none, .store 3 (.t 3) (.t 11), none⟩, ⟨none, .store 3 (.t 4) (.t 12), none⟩]).seq ((AC.reg false [⟨some 13, .load 1 false (.t 1), none⟩, ⟨some 14, .len (.t 13), none⟩, ⟨some 15, .mkB [AV.nils] 1 24 (.t 14) (.t 14), none⟩, ⟨some 5, .alloc [AV.nils], none⟩, ⟨none, .store 1 (.t 5) (.t 15), none⟩]).seq (((AC.reg false [⟨some 16, .load 1 false (.t 5), none⟩, ⟨some 17, .len (.t 16), none⟩, ⟨some 18, .mov (Opd.c (AV.dat (Ty.int IntKind.i64) (0 : Int))), none⟩]).seq (AC.block 0 (AC.loop c55L0))).seq ((AC.reg false [⟨some 7, .alloc [AV.nilf], none⟩]).seq ((AC.reg false [⟨some 30, .mkfn 56 [] [Opd.t 5, Opd.t 4, Opd.t 2, Opd.t 3, Opd.t 7], none⟩, ⟨none, .store 1 (.t 7) (.t 30), none⟩]).seq (AC.reg false [⟨some 31, .load 1 false (.t 7), none⟩, ⟨some 32, .call (.t 31) [Opd.c (AV.dat (Ty.int IntKind.i64) (0 : Int)), Opd.c (AV.dat (Ty.int IntKind.i64) (0 : Int))], none⟩])))))), res := [] }
set_option maxRecDepth 100000 in
theorem h55 : fnOf Tryd.prog 55 = some c55 := by kernel_rfl
def c56L0 : AC := (AC.reg false [⟨some 78, .bin .lss (.t 77) (.t 76), none⟩]).seq ((AC.cond (.t 78) AC.skip (AC.exit 1)).seq ((AC.block 2 ((AC.reg false [⟨some 79, .mov (.t 77), none⟩, ⟨some 12, .mov (.t 79), none⟩]).seq ((AC.regG 0 [0, 0, 3, 7, 0, 0, 0, 0, 0, 256, 768, 0, 3840, 0, 8192, 24576, 0, 122880, 159, 262303, 794559, 1843135, 4194303, 8388607] [⟨some 80, .load 1 false (.t 2), none⟩, ⟨some 81, .mov (.t 0), none⟩, ⟨some 82, .idxA 1 (.t 80) (.t 81), none⟩, ⟨some 83, .load 1 false (.t 82), none⟩, ⟨some 84, .mov (.t 1), none⟩, ⟨some 85, .mov (.t 0), none⟩, ⟨some 86, .mov (.t 1), none⟩, ⟨some 87, .mov (.t 12), none⟩, ⟨some 88, .mov (.t 0), none⟩, ⟨some 89, .idxArrA 3 1 (.t 5) (.t 88), none⟩, ⟨some 90, .load 1 false (.t 89), none⟩, ⟨some 91, .mov (.t 12), none⟩, ⟨some 92, .bin .sub (.t 90) (.t 91), none⟩, ⟨some 93, .mov (.t 1), none⟩, ⟨some 94, .idxArrA 3 1 (.t 3) (.t 93), none⟩, ⟨some 95, .load 1 false (.t 94), none⟩, ⟨some 96, .mov (.t 12), none⟩, ⟨some 97, .bin .sub (.t 95) (.t 96), none⟩, ⟨some 98, .idxA 1 (.t 83) (.t 84), none⟩, ⟨none, .store 1 (.t 98) (.t 87), none⟩, ⟨some 99, .idxArrA 3 1 (.t 5) (.t 85), none⟩, ⟨none, .store 1 (.t 99) (.t 92), none⟩, ⟨some 100, .idxArrA 3 1 (.t 3) (.t 86), none⟩, ⟨none, .store 1 (.t 100) (.t 97), none⟩]).seq ((AC.reg false [⟨some 101, .load 1 false (.t 6), none⟩, ⟨some 102, .mov (.t 0), none⟩, ⟨some 103, .mov (.t 1), none⟩, ⟨some 104, .bin .add (.t 103) (Opd.c (AV.dat (Ty.int IntKind.i64) (1 : Int))), none⟩, ⟨some 105, .call (.t 101) [Opd.t 102, Opd.t 104], none⟩, ⟨some 13, .mov (.t 105), none⟩]).seq ((AC.regG 0 [0, 0, 0, 4, 12, 0, 60, 0, 128, 384, 0, 1920, 125, 4221, 16383, 32767] [⟨some 106, .mov (.t 0), none⟩, ⟨some 107, .mov (.t 1), none⟩, ⟨some 108, .mov (.t 0), none⟩, ⟨some 109, .idxArrA 3 1 (.t 5) (.t 108), none⟩, ⟨some 110, .load 1 false (.t 109), none⟩, ⟨some 111, .mov (.t 12), none⟩, ⟨some 112, .bin .add (.t 110) (.t 111), none⟩, ⟨some 113, .mov (.t 1), none⟩, ⟨some 114, .idxArrA 3 1 (.t 3) (.t 113), none⟩, ⟨some 115, .load 1 false (.t 114), none⟩, ⟨some 116, .mov (.t 12), none⟩, ⟨some 117, .bin .add (.t 115) (.t 116), none⟩, ⟨some 118, .idxArrA 3 1 (.t 5) (.t 106), none⟩, ⟨none, .store 1 (.t 118) (.t 112), none⟩, ⟨some 119, .idxArrA 3 1 (.t 3) (.t 107), none⟩, ⟨none, .store 1 (.t 119) (.t 117), none⟩]).seq ((AC.reg false [⟨some 120, .mov (.t 13), none⟩, ⟨some 121, .un UnOp.not (.t 120), none⟩]).seq (AC.cond (.t 121) ((AC.reg false [⟨some 9, .mov (Opd.c (AV.dat Ty.bool false)), none⟩]).seq AC.ret) AC.skip))))))).seq (AC.reg false [⟨some 122, .bin .add (.t 77) (Opd.c (AV.dat (Ty.int IntKind.i64) (1 : Int))), none⟩, ⟨some 77, .mov (.t 122), none⟩])))
def c56 : FnC := { n := 123, body := (AC.reg false [⟨some 9, .mov (Opd.c (AV.dat Ty.bool false)), none⟩]).seq ((AC.block 0 ((AC.reg false [⟨some 15, .mov (.t 0), none⟩, ⟨some 16, .load 1 false (.t 2), none⟩, ⟨some 17, .len (.t 16), none⟩, ⟨some 18, .bin .eql (.t 15) (.t 17), none⟩, ⟨some 14, .mov (.t 18), none⟩]).seq (AC.cond (.t 14) ((AC.reg false [⟨some 19, .load 3 true (.t 3), none⟩, ⟨some 20, .build [AV.dat (Ty.int IntKind.i64) (0 : Int), AV.dat (Ty.int IntKind.i64) (0 : Int), AV.dat (Ty.int IntKind.i64) (0 : Int)] [], none⟩, ⟨some 21, .eqv false [true, true, true] (.t 19) (.t 20), none⟩, ⟨some 22, .mov (.t 21), none⟩, ⟨some 23, .load 1 false (.t 4), some (22, false)⟩, ⟨some 24, .load 1 false (.t 2), some (22, false)⟩, ⟨some 25, .call (.t 23) [Opd.t 24], some (22, false)⟩, ⟨some 26, .pick (.t 22) (Opd.c (AV.dat Ty.bool true)) (.t 25), none⟩, ⟨some 9, .mov (.t 26), none⟩]).seq AC.ret) ((AC.reg false [⟨some 28, .mov (.t 1), none⟩, ⟨some 29, .load 1 false (.t 2), none⟩, ⟨some 30, .mov (.t 0), none⟩, ⟨some 31, .idxA 1 (.t 29) (.t 30), none⟩, ⟨some 32, .load 1 false (.t 31), none⟩, ⟨some 33, .len (.t 32), none⟩, ⟨some 34, .bin .sub (.t 33) (Opd.c (AV.dat (Ty.int IntKind.i64) (1 : Int))), none⟩, ⟨some 35, .bin .eql (.t 28) (.t 34), none⟩, ⟨some 27, .mov (.t 35), none⟩]).seq (AC.cond (.t 27) ((AC.reg false [⟨some 36, .mov (.t 0), none⟩, ⟨some 37, .idxArrA 3 1 (.t 5) (.t 36), none⟩, ⟨some 38, .load 1 false (.t 37), none⟩, ⟨some 10, .mov (.t 38), none⟩]).seq (((AC.reg false [⟨some 39, .mov (.t 10), none⟩, ⟨some 40, .mov (.t 1), none⟩, ⟨some 41, .idxArrA 3 1 (.t 3) (.t 40), none⟩, ⟨some 42, .load 1 false (.t 41), none⟩, ⟨some 43, .bin .gtr (.t 39) (.t 42), none⟩]).seq (AC.cond (.t 43) ((AC.reg false [⟨some 9, .mov (Opd.c (AV.dat Ty.bool true)), none⟩]).seq AC.ret) AC.skip)).seq ((AC.regG 0 [0, 0, 3, 7, 0, 0, 0, 0, 128, 384, 0, 1920, 95, 4191, 16383, 32767] [⟨some 44, .load 1 false (.t 2), none⟩, ⟨some 45, .mov (.t 0), none⟩, ⟨some 46, .idxA 1 (.t 44) (.t 45), none⟩, ⟨some 47, .load 1 false (.t 46), none⟩, ⟨some 48, .mov (.t 1), none⟩, ⟨some 49, .mov (.t 1), none⟩, ⟨some 50, .mov (.t 10), none⟩, ⟨some 51, .mov (.t 1), none⟩, ⟨some 52, .idxArrA 3 1 (.t 3) (.t 51), none⟩, ⟨some 53, .load 1 false (.t 52), none⟩, ⟨some 54, .mov (.t 10), none⟩, ⟨some 55, .bin .sub (.t 53) (.t 54), none⟩, ⟨some 56, .idxA 1 (.t 47) (.t 48), none⟩, ⟨none, .store 1 (.t 56) (.t 50), none⟩, ⟨some 57, .idxArrA 3 1 (.t 3) (.t 49), none⟩, ⟨none, .store 1 (.t 57) (.t 55), none⟩]).seq ((AC.reg false [⟨some 58, .load 1 false (.t 6), none⟩, ⟨some 59, .mov (.t 0), none⟩, ⟨some 60, .bin .add (.t 59) (Opd.c (AV.dat (Ty.int IntKind.i64) (1 : Int))), none⟩, ⟨some 61, .call (.t 58) [Opd.t 60, Opd.c (AV.dat (Ty.int IntKind.i64) (0 : Int))], none⟩, ⟨some 11, .mov (.t 61), none⟩]).seq ((AC.reg false [⟨some 62, .mov (.t 1), none⟩, ⟨some 63, .idxArrA 3 1 (.t 3) (.t 62), none⟩, ⟨some 64, .load 1 false (.t 63), none⟩, ⟨some 65, .mov (.t 10), none⟩, ⟨some 66, .bin .add (.t 64) (.t 65), none⟩, ⟨some 67, .idxArrA 3 1 (.t 3) (.t 62), none⟩, ⟨none, .store 1 (.t 67) (.t 66), none⟩]).seq ((AC.reg false [⟨some 68, .mov (.t 11), none⟩, ⟨some 9, .mov (.t 68), none⟩]).seq AC.ret)))))) AC.skip))))).seq (((AC.reg true [⟨some 69, .mov (.t 0), none⟩, ⟨some 70, .idxArrA 3 1 (.t 5) (.t 69), none⟩, ⟨some 71, .load 1 false (.t 70), none⟩, ⟨some 72, .mov (.t 1), none⟩, ⟨some 73, .idxArrA 3 1 (.t 3) (.t 72), none⟩, ⟨some 74, .load 1 false (.t 73), none⟩, ⟨some 75, .mm false (.t 71) (.t 74), none⟩, ⟨some 76, .bin .add (.t 75) (Opd.c (AV.dat (Ty.int IntKind.i64) (1 : Int))), none⟩, ⟨some 77, .mov (Opd.c (AV.dat (Ty.int IntKind.i64) (0 : Int))), none⟩]).seq (AC.block 1 (AC.loop c56L0))).seq ((AC.reg false [⟨some 9, .mov (Opd.c (AV.dat Ty.bool true)), none⟩]).seq AC.ret))), res := [RV.tmp 9] }
set_option maxRecDepth 100000 in
theorem h56 : fnOf Tryd.prog 56 = some c56 := by kernel_rfl
def c68 : FnC := { n := 6, body := (AC.reg false [⟨some 2, .mov (Opd.c (AV.dat Ty.bool false)), none⟩]).seq ((AC.reg false [⟨some 3, .mov (.t 0), none⟩, ⟨some 4, .mov (.t 0), none⟩, ⟨some 5, .bin .neq (.t 3) (.t 4), none⟩, ⟨some 2, .mov (.t 5), none⟩]).seq AC.ret), res := [RV.tmp 2] }
set_option maxRecDepth 100000 in
theorem h68 : fnOf Tryd.prog 68 = some c68 := by kernel_rfl
end Go.Proofs.YtligakiolapkkaaDoor

namespace Go.Proofs.YtligakiolapkkaaDoor
open Go GoV
set_option maxHeartbeats 2000000
abbrev IL (l : List Int) : AV := .dat (.list (.int .i64)) l
abbrev I (n : Int) : AV := .dat (.int .i64) n
abbrev B (b : Bool) : AV := .dat .bool b
abbrev TT (t : List (List Int)) : AV := .dat (.list (.list (.int .i64))) t
theorem hmix : Tryd.prog.follows .mixedOrders = true := by kernel_rfl

def fct : Nat → Nat
  | 0 => 1
  | n + 1 => (n + 1) * fct n
theorem fct_pos : ∀ n, 0 < fct n
  | 0 => by decide
  | n + 1 => Nat.mul_pos (by omega) (fct_pos n)
theorem fct_succ (n : Nat) : fct (n + 1) = (n + 1) * fct n := rfl
theorem fct_le : ∀ {a b : Nat}, a ≤ b → fct a ≤ fct b
  | a, b, h => by
    induction h with
    | refl => exact Nat.le_refl _
    | step h ih => exact Nat.le_trans ih (Nat.le_mul_of_pos_left _ (by omega))
theorem fct20 : fct 20 = 2432902008176640000 := by decide
theorem fct_le20 {n : Nat} (h : n ≤ 20) : fct n ≤ 2432902008176640000 := by rw [← fct20]; exact fct_le h
/-- a! b! ≤ (a + b)! -/
theorem fct_mul_le : ∀ (a b : Nat), fct a * fct b ≤ fct (a + b)
  | a, 0 => by simp [fct]
  | a, b + 1 => by
    have ih := fct_mul_le a b
    rw [fct_succ, show a + (b + 1) = (a + b) + 1 by omega, fct_succ]
    calc fct a * ((b + 1) * fct b) = (b + 1) * (fct a * fct b) := by rw [Nat.mul_left_comm]
      _ ≤ (a + b + 1) * fct (a + b) := Nat.mul_le_mul (by omega) ih

theorem factorial_pc (n : Nat) (h : n ≤ 20) : PC Tryd.prog 54 [I n] (I (fct n)) := by
  refine pc_fn hmix h54 rfl ?_
  simp -implicitDefEqProofs only [c54, push_cast, Nat.reduceBEq, Nat.reduceLT, Nat.reduceLeDiff, Nat.reduceAdd, Nat.reduceSub, Nat.reduceMul, Nat.reduceEqDiff, reduceCtorEq, ↓reduceIte, Int.reduceEq, Int.reduceLT, Int.reduceLE, Int.reduceNe, Int.reduceAdd, Int.reduceSub, Int.reduceMul, Int.reduceToNat, Nat.reduceShiftRight, Nat.reduceAnd, Nat.reduceBNe]
  refine loop_k (α := Nat) [4, 3, 0] 0 (fun k => [(4, I ((k : Int) + 2)), (3, I (fct (k + 1)))]) (fun _ => []) (fun k => k + 1 ≤ max n 1) (fun k => 21 - k) 0 rfl ⟨rfl, rfl, rfl⟩ rfl (by omega) ?_
  intro k hk
  have h1 := fct_le20 (n := k + 1) (by omega)
  simp -implicitDefEqProofs only [c54L0, push_cast, Nat.reduceBEq, Nat.reduceLT, Nat.reduceLeDiff, Nat.reduceAdd, Nat.reduceSub, Nat.reduceMul, Nat.reduceEqDiff, reduceCtorEq, ↓reduceIte, Int.reduceEq, Int.reduceLT, Int.reduceLE, Int.reduceNe, Int.reduceAdd, Int.reduceSub, Int.reduceMul, Int.reduceToNat, Nat.reduceShiftRight, Nat.reduceAnd, Nat.reduceBNe]
  refine ⟨fun hc => ?_, fun hc => ?_⟩
  · have h2 := fct_le20 (n := k + 2) (by omega)
    have e : ((fct (k + 1) : Nat) : Int) * ((k : Int) + 2) = ((fct (k + 2) : Nat) : Int) := by
      rw [fct_succ (k + 1), Int.natCast_mul, Int.mul_comm]
      congr 1
    rw [e]
    refine ⟨by simp only [inR]; omega, by simp only [inR]; omega, k + 1, by omega, by omega, ?_⟩
    rw [show (k : Int) + 2 + 1 = ((k + 1 : Nat) : Int) + 2 by omega]
    exact wk_c rfl ⟨rfl, rfl, rfl⟩ rfl
  · refine finC ?_ rfl
    have : k + 1 = max n 1 := by omega
    rw [this]
    cases n with
    | zero => rfl
    | succ n => rw [show max (n + 1) 1 = n + 1 by omega]

def overN (n : Nat) (l : List Int) : Nat := l.foldl (fun o x => o / fct x.toNat) (fct n)
theorem foldl_div_le : ∀ (l : List Int) (o : Nat), l.foldl (fun o x => o / fct x.toNat) o ≤ o
  | [], o => Nat.le_refl _
  | x :: l, o => Nat.le_trans (foldl_div_le l _) (Nat.div_le_self _ _)
theorem overN_le (n : Nat) (l : List Int) : overN n l ≤ fct n := foldl_div_le _ _
def R20 (l : List Int) : Prop := ∀ x ∈ l, 0 ≤ x ∧ x ≤ 20
theorem getD_mem {α : Type} {l : List α} {k : Nat} {d : α} (h : k < l.length) : l.getD k d ∈ l := by
  simp only [List.getD_eq_getElem?_getD, List.getElem?_eq_getElem h, Option.getD_some]
  exact List.getElem_mem h
theorem take_at {α : Type} {l : List α} {k : Nat} (d : α) (h : k < l.length) : l.take (k + 1) = l.take k ++ [l.getD k d] := by
  simp only [List.getD_eq_getElem?_getD, List.getElem?_eq_getElem h, Option.getD_some]
  rw [List.take_add_one, List.getElem?_eq_getElem h]
  rfl

theorem over_step {l : List Int} {k n : Nat} (h : R20 l) (hk : k < l.length) : ((overN n (l.take k) : Nat) : Int).tdiv ((fct (l.getD k 0).toNat : Nat) : Int) = ((overN n (l.take (k + 1)) : Nat) : Int) := by
  rw [take_at 0 hk]
  unfold overN
  rw [List.foldl_append]
  simp only [List.foldl_cons, List.foldl_nil]
  exact Int.ofNat_tdiv _ _

theorem tdiv_rng {a b : Nat} (h : a ≤ 2432902008176640000) (hb : 0 < b) : ((b : Int) ≠ 0) ∧ inR .i64 ((a : Int).tdiv (b : Int)) := by
  have e := Int.ofNat_tdiv a b
  refine ⟨by omega, ?_⟩
  rw [← e]
  have := Nat.div_le_self a b
  generalize a / b = q at this
  simp only [inR]
  omega

theorem refover_pc (n : Nat) (l : List Int) (hn : n ≤ 20) (hl : R20 l) (hll : l.length ≤ 1000) : PC Tryd.prog 45 [I n, IL l] (I (overN n l)) := by
  refine pc_fn hmix h45 rfl ?_
  simp -implicitDefEqProofs only [c45, push_cast, Nat.reduceBEq, Nat.reduceLT, Nat.reduceLeDiff, Nat.reduceAdd, Nat.reduceSub, Nat.reduceMul, Nat.reduceEqDiff, reduceCtorEq, ↓reduceIte, Int.reduceEq, Int.reduceLT, Int.reduceLE, Int.reduceNe, Int.reduceAdd, Int.reduceSub, Int.reduceMul, Int.reduceToNat, Nat.reduceShiftRight, Nat.reduceAnd, Nat.reduceBNe]
  refine callF (factorial_pc n hn) ⟨rfl, trivial⟩ rfl rfl ?_
  simp -implicitDefEqProofs only [push_cast, Nat.reduceBEq, Nat.reduceLT, Nat.reduceLeDiff, Nat.reduceAdd, Nat.reduceSub, Nat.reduceMul, Nat.reduceEqDiff, reduceCtorEq, ↓reduceIte, Int.reduceEq, Int.reduceLT, Int.reduceLE, Int.reduceNe, Int.reduceAdd, Int.reduceSub, Int.reduceMul, Int.reduceToNat, Nat.reduceShiftRight, Nat.reduceAnd, Nat.reduceBNe]
  refine loop_k (α := Nat) [6, 5, 1] 0 (fun k => [(6, I k), (5, I (overN n (l.take k)))]) (fun _ => []) (fun k => k ≤ l.length) (fun k => l.length - k) 0 rfl ⟨rfl, rfl, rfl⟩ rfl (by omega) ?_
  intro k hk
  simp -implicitDefEqProofs only [c45L0, push_cast, Nat.reduceBEq, Nat.reduceLT, Nat.reduceLeDiff, Nat.reduceAdd, Nat.reduceSub, Nat.reduceMul, Nat.reduceEqDiff, reduceCtorEq, ↓reduceIte, Int.reduceEq, Int.reduceLT, Int.reduceLE, Int.reduceNe, Int.reduceAdd, Int.reduceSub, Int.reduceMul, Int.reduceToNat, Nat.reduceShiftRight, Nat.reduceAnd, Nat.reduceBNe]
  refine ⟨fun hc => ⟨by omega, ?_⟩, fun hc => ?_⟩
  · have hkl : k < l.length := by omega
    have hx := hl _ (getD_mem (d := 0) hkl)
    have e := over_step (n := n) hl hkl
    have hpos := fct_pos (l.getD k 0).toNat
    have hb := Nat.le_trans (overN_le n (l.take k)) (fct_le20 hn)
    generalize l.getD k 0 = x at *
    obtain ⟨y, rfl⟩ := Int.eq_ofNat_of_zero_le hx.1
    refine callF (factorial_pc y (by omega)) ⟨rfl, trivial⟩ rfl rfl ?_
    simp -implicitDefEqProofs only [push_cast, Nat.reduceBEq, Nat.reduceLT, Nat.reduceLeDiff, Nat.reduceAdd, Nat.reduceSub, Nat.reduceMul, Nat.reduceEqDiff, reduceCtorEq, ↓reduceIte, Int.reduceEq, Int.reduceLT, Int.reduceLE, Int.reduceNe, Int.reduceAdd, Int.reduceSub, Int.reduceMul, Int.reduceToNat, Nat.reduceShiftRight, Nat.reduceAnd, Nat.reduceBNe]
    simp only [Int.toNat_natCast] at e hpos
    refine ⟨tdiv_rng hb hpos, by simp only [inR]; omega, k + 1, by omega, by omega, ?_⟩
    rw [e]
    exact wk_c rfl ⟨rfl, rfl, rfl⟩ rfl
  · have : k = l.length := by omega
    subst this
    rw [List.take_length]
    exact finC rfl rfl
end Go.Proofs.YtligakiolapkkaaDoor

namespace Go.Proofs.YtligakiolapkkaaDoor
open Go GoV
set_option maxHeartbeats 8000000
set_option maxRecDepth 10000

theorem sums_22 (a b c d : Int) (hh : (0 ≤ a ∧ a ≤ 20) ∧ (0 ≤ b ∧ b ≤ 20) ∧ (0 ≤ c ∧ c ≤ 20) ∧ (0 ≤ d ∧ d ≤ 20)) :
    PC Tryd.prog 42 [TT [[a, b], [c, d]]] (.tup [.agg [I (a + b), I (c + d), I 0], .agg [I (a + c), I (b + d), I 0]]) := by
  refine pc_fn hmix h42 rfl ?_
  simp -implicitDefEqProofs only [c42, push_cast, Nat.reduceBEq, Nat.reduceLT, Nat.reduceLeDiff, Nat.reduceAdd, Nat.reduceSub, Nat.reduceMul, Nat.reduceEqDiff, reduceCtorEq, ↓reduceIte, Int.reduceEq, Int.reduceLT, Int.reduceLE, Int.reduceNe, Int.reduceAdd, Int.reduceSub, Int.reduceMul, Int.reduceToNat, Nat.reduceShiftRight, Nat.reduceAnd, Nat.reduceBNe]
  repeat first
    | (refine LoopW.unroll ?_; simp -implicitDefEqProofs only [c42L0, c42L1, List.getD_cons_zero, List.getD_cons_succ, Int.zero_add, push_cast, Nat.reduceBEq, Nat.reduceLT, Nat.reduceLeDiff, Nat.reduceAdd, Nat.reduceSub, Nat.reduceMul, Nat.reduceEqDiff, reduceCtorEq, ↓reduceIte, Int.reduceEq, Int.reduceLT, Int.reduceLE, Int.reduceNe, Int.reduceAdd, Int.reduceSub, Int.reduceMul, Int.reduceToNat, Nat.reduceShiftRight, Nat.reduceAnd, Nat.reduceBNe])
    | (refine ⟨by simp only [inR]; omega, ?_⟩)
  exact finC rfl rfl

theorem sums_23 (a b c d e f : Int) (hh : (0 ≤ a ∧ a ≤ 20) ∧ (0 ≤ b ∧ b ≤ 20) ∧ (0 ≤ c ∧ c ≤ 20) ∧ (0 ≤ d ∧ d ≤ 20) ∧ (0 ≤ e ∧ e ≤ 20) ∧ (0 ≤ f ∧ f ≤ 20)) :
    PC Tryd.prog 42 [TT [[a, b, c], [d, e, f]]] (.tup [.agg [I (a + b + c), I (d + e + f), I 0], .agg [I (a + d), I (b + e), I (c + f)]]) := by
  refine pc_fn hmix h42 rfl ?_
  simp -implicitDefEqProofs only [c42, push_cast, Nat.reduceBEq, Nat.reduceLT, Nat.reduceLeDiff, Nat.reduceAdd, Nat.reduceSub, Nat.reduceMul, Nat.reduceEqDiff, reduceCtorEq, ↓reduceIte, Int.reduceEq, Int.reduceLT, Int.reduceLE, Int.reduceNe, Int.reduceAdd, Int.reduceSub, Int.reduceMul, Int.reduceToNat, Nat.reduceShiftRight, Nat.reduceAnd, Nat.reduceBNe]
  repeat first
    | (refine LoopW.unroll ?_; simp -implicitDefEqProofs only [c42L0, c42L1, List.getD_cons_zero, List.getD_cons_succ, Int.zero_add, push_cast, Nat.reduceBEq, Nat.reduceLT, Nat.reduceLeDiff, Nat.reduceAdd, Nat.reduceSub, Nat.reduceMul, Nat.reduceEqDiff, reduceCtorEq, ↓reduceIte, Int.reduceEq, Int.reduceLT, Int.reduceLE, Int.reduceNe, Int.reduceAdd, Int.reduceSub, Int.reduceMul, Int.reduceToNat, Nat.reduceShiftRight, Nat.reduceAnd, Nat.reduceBNe])
    | (refine ⟨by simp only [inR]; omega, ?_⟩)
  exact finC rfl rfl

theorem sums_32 (a b c d e f : Int) (hh : (0 ≤ a ∧ a ≤ 20) ∧ (0 ≤ b ∧ b ≤ 20) ∧ (0 ≤ c ∧ c ≤ 20) ∧ (0 ≤ d ∧ d ≤ 20) ∧ (0 ≤ e ∧ e ≤ 20) ∧ (0 ≤ f ∧ f ≤ 20)) :
    PC Tryd.prog 42 [TT [[a, b], [c, d], [e, f]]] (.tup [.agg [I (a + b), I (c + d), I (e + f)], .agg [I (a + c + e), I (b + d + f), I 0]]) := by
  refine pc_fn hmix h42 rfl ?_
  simp -implicitDefEqProofs only [c42, push_cast, Nat.reduceBEq, Nat.reduceLT, Nat.reduceLeDiff, Nat.reduceAdd, Nat.reduceSub, Nat.reduceMul, Nat.reduceEqDiff, reduceCtorEq, ↓reduceIte, Int.reduceEq, Int.reduceLT, Int.reduceLE, Int.reduceNe, Int.reduceAdd, Int.reduceSub, Int.reduceMul, Int.reduceToNat, Nat.reduceShiftRight, Nat.reduceAnd, Nat.reduceBNe]
  repeat first
    | (refine LoopW.unroll ?_; simp -implicitDefEqProofs only [c42L0, c42L1, List.getD_cons_zero, List.getD_cons_succ, Int.zero_add, push_cast, Nat.reduceBEq, Nat.reduceLT, Nat.reduceLeDiff, Nat.reduceAdd, Nat.reduceSub, Nat.reduceMul, Nat.reduceEqDiff, reduceCtorEq, ↓reduceIte, Int.reduceEq, Int.reduceLT, Int.reduceLE, Int.reduceNe, Int.reduceAdd, Int.reduceSub, Int.reduceMul, Int.reduceToNat, Nat.reduceShiftRight, Nat.reduceAnd, Nat.reduceBNe])
    | (refine ⟨by simp only [inR]; omega, ?_⟩)
  exact finC rfl rfl

theorem sums_33 (a b c d e f g h i : Int) (hh : (0 ≤ a ∧ a ≤ 20) ∧ (0 ≤ b ∧ b ≤ 20) ∧ (0 ≤ c ∧ c ≤ 20) ∧ (0 ≤ d ∧ d ≤ 20) ∧ (0 ≤ e ∧ e ≤ 20) ∧ (0 ≤ f ∧ f ≤ 20) ∧ (0 ≤ g ∧ g ≤ 20) ∧ (0 ≤ h ∧ h ≤ 20) ∧ (0 ≤ i ∧ i ≤ 20)) :
    PC Tryd.prog 42 [TT [[a, b, c], [d, e, f], [g, h, i]]] (.tup [.agg [I (a + b + c), I (d + e + f), I (g + h + i)], .agg [I (a + d + g), I (b + e + h), I (c + f + i)]]) := by
  refine pc_fn hmix h42 rfl ?_
  simp -implicitDefEqProofs only [c42, push_cast, Nat.reduceBEq, Nat.reduceLT, Nat.reduceLeDiff, Nat.reduceAdd, Nat.reduceSub, Nat.reduceMul, Nat.reduceEqDiff, reduceCtorEq, ↓reduceIte, Int.reduceEq, Int.reduceLT, Int.reduceLE, Int.reduceNe, Int.reduceAdd, Int.reduceSub, Int.reduceMul, Int.reduceToNat, Nat.reduceShiftRight, Nat.reduceAnd, Nat.reduceBNe]
  repeat first
    | (refine LoopW.unroll ?_; simp -implicitDefEqProofs only [c42L0, c42L1, List.getD_cons_zero, List.getD_cons_succ, Int.zero_add, push_cast, Nat.reduceBEq, Nat.reduceLT, Nat.reduceLeDiff, Nat.reduceAdd, Nat.reduceSub, Nat.reduceMul, Nat.reduceEqDiff, reduceCtorEq, ↓reduceIte, Int.reduceEq, Int.reduceLT, Int.reduceLE, Int.reduceNe, Int.reduceAdd, Int.reduceSub, Int.reduceMul, Int.reduceToNat, Nat.reduceShiftRight, Nat.reduceAnd, Nat.reduceBNe])
    | (refine ⟨by simp only [inR]; omega, ?_⟩)
  exact finC rfl rfl

end Go.Proofs.YtligakiolapkkaaDoor

namespace Go.Proofs.YtligakiolapkkaaDoor
open Go GoV
set_option maxHeartbeats 4000000

def minL (l : List Int) : Int := l.tail.foldl min (l.headD 0)
def maxL (l : List Int) : Int := l.tail.foldl max (l.headD 0)
theorem fold_take {f : Int → Int → Int} {l : List Int} {k : Nat} (h : k + 1 < l.length) : (l.take (k + 2)).tail.foldl f ((l.take (k + 2)).headD 0) = f ((l.take (k + 1)).tail.foldl f ((l.take (k + 1)).headD 0)) (l.getD (k + 1) 0) := by
  cases l with
  | nil => simp at h
  | cons x r =>
    simp only [List.take_succ_cons, List.tail_cons, List.headD_cons, List.getD_cons_succ]
    rw [take_at 0 (by simpa using h), List.foldl_append]
    rfl

theorem min_take {l : List Int} {k : Nat} (h : k + 1 < l.length) : minL (l.take (k + 2)) = min (minL (l.take (k + 1))) (l.getD (k + 1) 0) := fold_take h
theorem max_take {l : List Int} {k : Nat} (h : k + 1 < l.length) : maxL (l.take (k + 2)) = max (maxL (l.take (k + 1))) (l.getD (k + 1) 0) := fold_take h
theorem min_pc (l : List Int) (h0 : 0 < l.length) (hl : l.length ≤ 1000) : PC Tryd.prog 40 [IL l] (I (minL l)) := by
  refine pc_fn hmix h40 rfl ?_
  simp -implicitDefEqProofs only [c40, push_cast, Nat.reduceBEq, Nat.reduceLT, Nat.reduceLeDiff, Nat.reduceAdd, Nat.reduceSub, Nat.reduceMul, Nat.reduceEqDiff, reduceCtorEq, ↓reduceIte, Int.reduceEq, Int.reduceLT, Int.reduceLE, Int.reduceNe, Int.reduceAdd, Int.reduceSub, Int.reduceMul, Int.reduceToNat, Nat.reduceShiftRight, Nat.reduceAnd, Nat.reduceBNe]
  refine ⟨fun h => by omega, fun _ => ⟨by omega, ?_⟩⟩
  refine loop_k (α := Nat) [4, 3, 0] 0 (fun k => [(4, I ((k : Int) + 1)), (3, I (minL (l.take (k + 1))))]) (fun _ => []) (fun k => k < l.length) (fun k => l.length - k) 0 rfl ⟨rfl, rfl, rfl⟩ ?_ h0 ?_
  · cases l with
    | nil => simp at h0
    | cons x r => rfl
  intro k hk
  simp -implicitDefEqProofs only [c40L0, push_cast, Nat.reduceBEq, Nat.reduceLT, Nat.reduceLeDiff, Nat.reduceAdd, Nat.reduceSub, Nat.reduceMul, Nat.reduceEqDiff, reduceCtorEq, ↓reduceIte, Int.reduceEq, Int.reduceLT, Int.reduceLE, Int.reduceNe, Int.reduceAdd, Int.reduceSub, Int.reduceMul, Int.reduceToNat, Nat.reduceShiftRight, Nat.reduceAnd, Nat.reduceBNe]
  refine ⟨fun hc => ⟨by omega, by simp only [inR]; omega, k + 1, by omega, by omega, ?_⟩, fun hc => ?_⟩
  · rw [show ((k : Int) + 1).toNat = k + 1 by omega, ← min_take (by omega)]
    exact wk_c rfl ⟨rfl, rfl, rfl⟩ rfl
  · refine finC ?_ rfl
    rw [show k + 1 = l.length by omega, List.take_length]

theorem max_pc (l : List Int) (h0 : 0 < l.length) (hl : l.length ≤ 1000) : PC Tryd.prog 41 [IL l] (I (maxL l)) := by
  refine pc_fn hmix h41 rfl ?_
  simp -implicitDefEqProofs only [c41, push_cast, Nat.reduceBEq, Nat.reduceLT, Nat.reduceLeDiff, Nat.reduceAdd, Nat.reduceSub, Nat.reduceMul, Nat.reduceEqDiff, reduceCtorEq, ↓reduceIte, Int.reduceEq, Int.reduceLT, Int.reduceLE, Int.reduceNe, Int.reduceAdd, Int.reduceSub, Int.reduceMul, Int.reduceToNat, Nat.reduceShiftRight, Nat.reduceAnd, Nat.reduceBNe]
  refine ⟨fun h => by omega, fun _ => ⟨by omega, ?_⟩⟩
  refine loop_k (α := Nat) [4, 3, 0] 0 (fun k => [(4, I ((k : Int) + 1)), (3, I (maxL (l.take (k + 1))))]) (fun _ => []) (fun k => k < l.length) (fun k => l.length - k) 0 rfl ⟨rfl, rfl, rfl⟩ ?_ h0 ?_
  · cases l with
    | nil => simp at h0
    | cons x r => rfl
  intro k hk
  simp -implicitDefEqProofs only [c41L0, push_cast, Nat.reduceBEq, Nat.reduceLT, Nat.reduceLeDiff, Nat.reduceAdd, Nat.reduceSub, Nat.reduceMul, Nat.reduceEqDiff, reduceCtorEq, ↓reduceIte, Int.reduceEq, Int.reduceLT, Int.reduceLE, Int.reduceNe, Int.reduceAdd, Int.reduceSub, Int.reduceMul, Int.reduceToNat, Nat.reduceShiftRight, Nat.reduceAnd, Nat.reduceBNe]
  refine ⟨fun hc => ⟨by omega, by simp only [inR]; omega, k + 1, by omega, by omega, ?_⟩, fun hc => ?_⟩
  · rw [show ((k : Int) + 1).toNat = k + 1 by omega, ← max_take (by omega)]
    exact wk_c rfl ⟨rfl, rfl, rfl⟩ rfl
  · refine finC ?_ rfl
    rw [show k + 1 = l.length by omega, List.take_length]

theorem fold_min : ∀ (l : List Int) (a b : Int), b ≤ l.foldl min a ↔ b ≤ a ∧ ∀ x ∈ l, b ≤ x
  | [], a, b => by simp
  | x :: l, a, b => by
    simp only [List.foldl_cons, fold_min l, List.mem_cons, forall_eq_or_imp]
    rw [show b ≤ min a x ↔ b ≤ a ∧ b ≤ x by omega, and_assoc]
theorem fold_max : ∀ (l : List Int) (a b : Int), l.foldl max a ≤ b ↔ a ≤ b ∧ ∀ x ∈ l, x ≤ b
  | [], a, b => by simp
  | x :: l, a, b => by
    simp only [List.foldl_cons, fold_max l, List.mem_cons, forall_eq_or_imp]
    rw [show max a x ≤ b ↔ a ≤ b ∧ x ≤ b by omega, and_assoc]
theorem minL_ge {l : List Int} (h0 : 0 < l.length) (b : Int) : b ≤ minL l ↔ ∀ x ∈ l, b ≤ x := by
  cases l with
  | nil => simp at h0
  | cons x r => simp only [minL, List.tail_cons, List.headD_cons, fold_min, List.mem_cons, forall_eq_or_imp]
theorem maxL_le {l : List Int} (h0 : 0 < l.length) (b : Int) : maxL l ≤ b ↔ ∀ x ∈ l, x ≤ b := by
  cases l with
  | nil => simp at h0
  | cons x r => simp only [maxL, List.tail_cons, List.headD_cons, fold_max, List.mem_cons, forall_eq_or_imp]

/-! ### Tables -/
def sumL : List Int → Int
  | [] => 0
  | x :: r => x + sumL r
theorem sumL_app : ∀ (a b : List Int), sumL (a ++ b) = sumL a + sumL b
  | [], b => by simp [sumL]
  | x :: a, b => by simp only [List.cons_append, sumL, sumL_app a b]; omega
theorem sumL_take {l : List Int} {k : Nat} (h : k < l.length) : sumL (l.take (k + 1)) = sumL (l.take k) + l.getD k 0 := by
  rw [take_at 0 h, sumL_app]
  simp [sumL]
theorem sumL_rng : ∀ (l : List Int), R20 l → 0 ≤ sumL l ∧ sumL l ≤ 20 * (l.length : Int)
  | [], _ => by simp [sumL]
  | x :: l, h => by
    have := sumL_rng l (fun y hy => h y (List.mem_cons_of_mem _ hy))
    have := h x (List.mem_cons_self ..)
    simp only [sumL, List.length_cons]
    omega
def totL (t : List (List Int)) : Int := sumL (t.map sumL)
def okRow (m : Nat) (r : List Int) : Bool := decide (r.length = m) && r.all fun x => decide (0 ≤ x ∧ x ≤ 20)
def wid (t : List (List Int)) : Nat := (t.getD 0 []).length
def validB (t : List (List Int)) : Bool := decide ((2 ≤ t.length ∧ t.length ≤ 3) ∧ 2 ≤ wid t ∧ wid t ≤ 3) && (t.all (okRow (wid t)) && decide (1 ≤ totL t ∧ totL t ≤ 20))
theorem all_false {α : Type} {p : α → Bool} {l : List α} {k : Nat} (d : α) (hk : k < l.length) (h : p (l.getD k d) = false) : l.all p = false := by
  cases ha : l.all p with
  | false => rfl
  | true => rw [List.all_eq_true] at ha; rw [ha _ (getD_mem hk)] at h; cases h
theorem okRow_iff {m : Nat} {r : List Int} : okRow m r = true ↔ r.length = m ∧ R20 r := by
  simp only [okRow, Bool.and_eq_true, decide_eq_true_eq, List.all_eq_true, R20]
theorem okRow_not {m : Nat} {r : List Int} (h : ¬ (r.length = m ∧ R20 r)) : okRow m r = false := by
  cases hq : okRow m r with
  | false => rfl
  | true => exact absurd (okRow_iff.1 hq) h
theorem totL_take {t : List (List Int)} {k : Nat} (h : k < t.length) : totL (t.take (k + 1)) = totL (t.take k) + sumL (t.getD k []) := by
  unfold totL
  rw [take_at [] h, List.map_append, sumL_app]
  simp [sumL]
theorem totL_rng : ∀ (t : List (List Int)) (m : Nat), (∀ r ∈ t, r.length = m ∧ R20 r) → 0 ≤ totL t ∧ totL t ≤ 20 * (m : Int) * (t.length : Int)
  | [], m, _ => by simp [totL, sumL]
  | r :: t, m, h => by
    have h1 := totL_rng t m (fun y hy => h y (List.mem_cons_of_mem _ hy))
    have h2 := h r (List.mem_cons_self ..)
    have h3 := sumL_rng r h2.2
    rw [h2.1] at h3
    simp only [totL, List.map_cons, sumL, List.length_cons] at *
    rw [Int.natCast_add, Int.mul_add]
    omega
theorem mem_take_succ {α : Type} {t : List α} {k : Nat} {P : α → Prop} (d : α) (hk : k < t.length) (h : ∀ r ∈ t.take k, P r) (hr : P (t.getD k d)) : ∀ r ∈ t.take (k + 1), P r := by
  intro r hm
  rw [take_at d hk, List.mem_append] at hm
  rcases hm with hm | hm
  · exact h r hm
  · rw [List.mem_singleton.1 hm]; exact hr
theorem tot_small {t : List (List Int)} {m : Nat} (hm : m ≤ 3) (ht : t.length ≤ 3) (h : ∀ r ∈ t, r.length = m ∧ R20 r) : 0 ≤ totL t ∧ totL t ≤ 180 := by
  have := totL_rng t m h
  have h1 : m = 0 ∨ m = 1 ∨ m = 2 ∨ m = 3 := by omega
  rcases h1 with rfl | rfl | rfl | rfl <;> omega

theorem valid_wid {t : List (List Int)} (h : ¬ ((2 ≤ t.length ∧ t.length ≤ 3) ∧ 2 ≤ wid t ∧ wid t ≤ 3)) : validB t = false := by simp [validB, h]
theorem valid_row {t : List (List Int)} {k : Nat} (hk : k < t.length) (h : ¬ ((t.getD k []).length = wid t ∧ R20 (t.getD k []))) : validB t = false := by
  unfold validB
  rw [all_false [] hk (okRow_not h)]
  simp
theorem valid_all {t : List (List Int)} (h1 : (2 ≤ t.length ∧ t.length ≤ 3) ∧ 2 ≤ wid t ∧ wid t ≤ 3) (h2 : ∀ r ∈ t, r.length = wid t ∧ R20 r) : validB t = decide (1 ≤ totL t ∧ totL t ≤ 20) := by
  unfold validB
  rw [decide_eq_true h1, List.all_eq_true.2 (fun r hr => okRow_iff.2 (h2 r hr)), Bool.true_and, Bool.true_and]

theorem right_pc (t : List (List Int)) (hl : t.length ≤ 1000) : PC Tryd.prog 16 [TT t] (B (validB t)) := by
  refine pc_fn hmix h16 rfl ?_
  simp -implicitDefEqProofs only [c16, push_cast, Nat.reduceBEq, Nat.reduceLT, Nat.reduceLeDiff, Nat.reduceAdd, Nat.reduceSub, Nat.reduceMul, Nat.reduceEqDiff, reduceCtorEq, ↓reduceIte, Int.reduceEq, Int.reduceLT, Int.reduceLE, Int.reduceNe, Int.reduceAdd, Int.reduceSub, Int.reduceMul, Int.reduceToNat, Nat.reduceShiftRight, Nat.reduceAnd, Nat.reduceBNe]
  have fail : ¬ ((2 ≤ t.length ∧ t.length ≤ 3) ∧ 2 ≤ wid t ∧ wid t ≤ 3) → finK1 0 (AV.dat Ty.bool false) (fun v fr => Fz fr v (B (validB t))) [] := fun h => finC (by rw [valid_wid h]) rfl
  have hw : (t.getD 0 []).length = wid t := rfl
  refine ⟨fun h => fail (by omega), fun h1 => ⟨fun h => fail (by omega), fun h2 => ⟨by omega, fun h => fail (by omega), fun h3 => ⟨by omega, fun h => fail (by omega), fun h4 => ?_⟩⟩⟩⟩
  have hok : (2 ≤ t.length ∧ t.length ≤ 3) ∧ 2 ≤ wid t ∧ wid t ≤ 3 := by omega
  refine loop_k (α := Nat) [4, 3, 0] 0 (fun k => [(4, I k), (3, I (totL (t.take k)))]) (fun _ => []) (fun k => k ≤ t.length ∧ ∀ r ∈ t.take k, r.length = wid t ∧ R20 r) (fun k => t.length - k) 0 rfl ⟨rfl, rfl, rfl⟩ rfl ⟨by omega, by simp⟩ ?_
  rintro k ⟨hk, hall⟩
  simp -implicitDefEqProofs only [c16L1, push_cast, Nat.reduceBEq, Nat.reduceLT, Nat.reduceLeDiff, Nat.reduceAdd, Nat.reduceSub, Nat.reduceMul, Nat.reduceEqDiff, reduceCtorEq, ↓reduceIte, Int.reduceEq, Int.reduceLT, Int.reduceLE, Int.reduceNe, Int.reduceAdd, Int.reduceSub, Int.reduceMul, Int.reduceToNat, Nat.reduceShiftRight, Nat.reduceAnd, Nat.reduceBNe]
  refine ⟨fun hc => ⟨by omega, by omega, fun hne => ?_, fun heq => ?_⟩, fun hc => ?_⟩
  · exact finC (by rw [valid_row (k := k) (by omega) (by omega)]) rfl
  · have hkl : k < t.length := by omega
    have hwk : (t.getD k []).length = wid t := by omega
    generalize hrow : t.getD k [] = row at *
    have hs := tot_small (m := wid t) (t := t.take k) (by omega) (by rw [List.length_take]; omega) hall
    refine loop_k (α := Nat) [5, 4, 3, 0] 0 (fun q => [(5, I q), (3, I (totL (t.take k) + sumL (row.take q)))]) (fun _ => []) (fun q => q ≤ row.length ∧ R20 (row.take q)) (fun q => row.length - q) 0 rfl ⟨rfl, rfl, rfl⟩ ?_ ⟨by omega, by simp [R20]⟩ ?_
    · simp only [List.take_zero, sumL, Int.add_zero]; rfl
    rintro q ⟨hq, hqr⟩
    simp -implicitDefEqProofs only [c16L0, hrow, push_cast, Nat.reduceBEq, Nat.reduceLT, Nat.reduceLeDiff, Nat.reduceAdd, Nat.reduceSub, Nat.reduceMul, Nat.reduceEqDiff, reduceCtorEq, ↓reduceIte, Int.reduceEq, Int.reduceLT, Int.reduceLE, Int.reduceNe, Int.reduceAdd, Int.reduceSub, Int.reduceMul, Int.reduceToNat, Nat.reduceShiftRight, Nat.reduceAnd, Nat.reduceBNe]
    refine ⟨by omega, fun hc2 => ⟨by omega, by omega, fun h5 => ?_, fun h5 => ⟨by omega, by omega, fun h6 => ?_, fun h6 => ⟨by omega, by omega, ?_⟩⟩⟩, fun hc2 => ?_⟩
    · exact finC (by rw [valid_row hkl (by rw [hrow]; intro h; have := h.2 _ (getD_mem (k := q) (d := 0) (by omega)); omega)]) rfl
    · exact finC (by rw [valid_row hkl (by rw [hrow]; intro h; have := h.2 _ (getD_mem (k := q) (d := 0) (by omega)); omega)]) rfl
    · have hq2 : R20 (row.take (q + 1)) := mem_take_succ 0 (by omega) hqr (by omega)
      have h7 := sumL_rng _ hq2
      have h8 : (row.take (q + 1)).length ≤ 3 := by rw [List.length_take]; omega
      have h9 := sumL_take (l := row) (k := q) (by omega)
      refine ⟨by simp only [inR]; omega, by simp only [inR]; omega, q + 1, ⟨by omega, hq2⟩, by omega, ?_⟩
      rw [Int.add_assoc, ← h9]
      exact wk_c rfl ⟨rfl, rfl, rfl⟩ rfl
    · have hqe : q = row.length := by omega
      subst hqe
      rw [List.take_length] at *
      have h7 := totL_take hkl
      rw [hrow] at h7
      refine ⟨by simp only [inR]; omega, k + 1, ⟨by omega, mem_take_succ [] hkl hall (by rw [hrow]; exact ⟨hwk, hqr⟩)⟩, by omega, ?_⟩
      rw [← h7]
      exact wk_c rfl ⟨rfl, rfl, rfl⟩ rfl
  · have hke : k = t.length := by omega
    subst hke
    rw [List.take_length] at *
    have hv := valid_all hok hall
    refine ⟨fun h => finC ?_ rfl, fun h => finC ?_ rfl⟩
    · rw [hv]
      congr 1
      apply Bool.eq_iff_iff.2
      simp only [decide_eq_true_eq]
      omega
    · rw [hv, decide_eq_false (by omega)]

theorem check_pc (t : List (List Int)) (hl : t.length ≤ 1000) (hr : ∀ r ∈ t, r.length ≤ 1000) : PC Tryd.prog 12 [TT t] (I (if validB t then 0 else 300)) := by
  refine pc_fn hmix h12 rfl ?_
  simp -implicitDefEqProofs only [c12, push_cast, Nat.reduceBEq, Nat.reduceLT, Nat.reduceLeDiff, Nat.reduceAdd, Nat.reduceSub, Nat.reduceMul, Nat.reduceEqDiff, reduceCtorEq, ↓reduceIte, Int.reduceEq, Int.reduceLT, Int.reduceLE, Int.reduceNe, Int.reduceAdd, Int.reduceSub, Int.reduceMul, Int.reduceToNat, Nat.reduceShiftRight, Nat.reduceAnd, Nat.reduceBNe]
  have failv : validB t = false → finK1 0 (I 300) (fun v fr => Fz fr v (I (if validB t then 0 else 300))) [] := fun h => finC (by rw [h]; rfl) rfl
  have fail : ¬ ((2 ≤ t.length ∧ t.length ≤ 3) ∧ 2 ≤ wid t ∧ wid t ≤ 3) → finK1 0 (I 300) (fun v fr => Fz fr v (I (if validB t then 0 else 300))) [] := fun h => failv (valid_wid h)
  have hw : (t.getD 0 []).length = wid t := rfl
  refine ⟨fun h => fail (by omega), fun h1 => ⟨fun h => fail (by omega), fun h2 => ⟨by omega, fun h => fail (by omega), fun h3 => ⟨by omega, fun h => fail (by omega), fun h4 => ?_⟩⟩⟩⟩
  have hok : (2 ≤ t.length ∧ t.length ≤ 3) ∧ 2 ≤ wid t ∧ wid t ≤ 3 := by omega
  refine loop_k (α := Nat) [32, 31, 30, 3, 0] 0 (fun k => [(32, I k), (3, I (totL (t.take k)))]) (fun _ => []) (fun k => k ≤ t.length ∧ ∀ r ∈ t.take k, r.length = wid t ∧ R20 r) (fun k => t.length - k) 0 rfl ⟨rfl, rfl, rfl⟩ rfl ⟨by omega, by simp⟩ ?_
  rintro k ⟨hk, hall⟩
  simp -implicitDefEqProofs only [c12L1, push_cast, Nat.reduceBEq, Nat.reduceLT, Nat.reduceLeDiff, Nat.reduceAdd, Nat.reduceSub, Nat.reduceMul, Nat.reduceEqDiff, reduceCtorEq, ↓reduceIte, Int.reduceEq, Int.reduceLT, Int.reduceLE, Int.reduceNe, Int.reduceAdd, Int.reduceSub, Int.reduceMul, Int.reduceToNat, Nat.reduceShiftRight, Nat.reduceAnd, Nat.reduceBNe]
  refine ⟨fun hc => ⟨by omega, by omega, fun hne => ?_, fun heq => ?_⟩, fun hc => ?_⟩
  · exact failv (valid_row (k := k) (by omega) (by omega))
  · have hkl : k < t.length := by omega
    have hwk : (t.getD k []).length = wid t := by omega
    have hr1 := hr _ (getD_mem (d := []) hkl)
    generalize hrow : t.getD k [] = row at *
    have hs := tot_small (m := wid t) (t := t.take k) (by omega) (by rw [List.length_take]; omega) hall
    refine callF (min_pc row (by omega) (by omega)) ⟨rfl, trivial⟩ rfl rfl ?_
    simp -implicitDefEqProofs only [push_cast, Nat.reduceBEq, Nat.reduceLT, Nat.reduceLeDiff, Nat.reduceAdd, Nat.reduceSub, Nat.reduceMul, Nat.reduceEqDiff, reduceCtorEq, ↓reduceIte, Int.reduceEq, Int.reduceLT, Int.reduceLE, Int.reduceNe, Int.reduceAdd, Int.reduceSub, Int.reduceMul, Int.reduceToNat, Nat.reduceShiftRight, Nat.reduceAnd, Nat.reduceBNe]
    refine ⟨fun hmn => ?_, fun hmn => ?_⟩
    · refine failv (valid_row hkl ?_)
      rw [hrow]
      intro h
      have := (minL_ge (l := row) (by omega) 0).2 (fun x hx => (h.2 x hx).1)
      omega
    have hmin := (minL_ge (l := row) (by omega) 0).1 (by omega)
    refine callF (max_pc row (by omega) (by omega)) ⟨rfl, trivial⟩ rfl rfl ?_
    simp -implicitDefEqProofs only [push_cast, Nat.reduceBEq, Nat.reduceLT, Nat.reduceLeDiff, Nat.reduceAdd, Nat.reduceSub, Nat.reduceMul, Nat.reduceEqDiff, reduceCtorEq, ↓reduceIte, Int.reduceEq, Int.reduceLT, Int.reduceLE, Int.reduceNe, Int.reduceAdd, Int.reduceSub, Int.reduceMul, Int.reduceToNat, Nat.reduceShiftRight, Nat.reduceAnd, Nat.reduceBNe]
    refine ⟨fun hmx => ?_, fun hmx => ?_⟩
    · refine failv (valid_row hkl ?_)
      rw [hrow]
      intro h
      have := (maxL_le (l := row) (by omega) 20).2 (fun x hx => (h.2 x hx).2)
      omega
    have hmax := (maxL_le (l := row) (by omega) 20).1 (by omega)
    have hrr : R20 row := fun x hx => ⟨hmin x hx, hmax x hx⟩
    refine loop_k (α := Nat) [55, 54, 53, 32, 31, 30, 3, 0] 0 (fun q => [(55, I q), (3, I (totL (t.take k) + sumL (row.take q)))]) (fun _ => []) (fun q => q ≤ row.length) (fun q => row.length - q) 0 rfl ⟨rfl, rfl, rfl⟩ ?_ (by omega) ?_
    · simp only [List.take_zero, sumL, Int.add_zero]; rfl
    rintro q hq
    simp -implicitDefEqProofs only [c12L0, push_cast, Nat.reduceBEq, Nat.reduceLT, Nat.reduceLeDiff, Nat.reduceAdd, Nat.reduceSub, Nat.reduceMul, Nat.reduceEqDiff, reduceCtorEq, ↓reduceIte, Int.reduceEq, Int.reduceLT, Int.reduceLE, Int.reduceNe, Int.reduceAdd, Int.reduceSub, Int.reduceMul, Int.reduceToNat, Nat.reduceShiftRight, Nat.reduceAnd, Nat.reduceBNe]
    refine ⟨fun hc2 => ⟨by omega, ?_⟩, fun hc2 => ?_⟩
    · have h7 := sumL_rng _ (fun x hx => hrr x (List.mem_of_mem_take (i := q + 1) hx))
      have h8 : (row.take (q + 1)).length ≤ 3 := by rw [List.length_take]; omega
      have h9 := sumL_take (l := row) (k := q) (by omega)
      refine ⟨by simp only [inR]; omega, by simp only [inR]; omega, q + 1, by omega, by omega, ?_⟩
      rw [Int.add_assoc, ← h9]
      exact wk_c rfl ⟨rfl, rfl, rfl⟩ rfl
    · have hqe : q = row.length := by omega
      subst hqe
      rw [List.take_length] at *
      have h7 := totL_take hkl
      rw [hrow] at h7
      refine ⟨by simp only [inR]; omega, k + 1, ⟨by omega, mem_take_succ [] hkl hall (by rw [hrow]; exact ⟨hwk, hrr⟩)⟩, by omega, ?_⟩
      rw [← h7]
      exact wk_c rfl ⟨rfl, rfl, rfl⟩ rfl
  · have hke : k = t.length := by omega
    subst hke
    rw [List.take_length] at *
    have hv := valid_all hok hall
    refine ⟨fun h => failv (by rw [hv]; exact decide_eq_false (by omega)), fun h => ⟨fun h' => failv (by rw [hv]; exact decide_eq_false (by omega)), fun h' => finC ?_ rfl⟩⟩
    rw [hv, decide_eq_true (by omega)]
    rfl
end Go.Proofs.YtligakiolapkkaaDoor

namespace Go.Proofs.YtligakiolapkkaaDoor
open Go GoV
set_option maxHeartbeats 8000000
set_option maxRecDepth 10000

theorem refrows_22 (a b c d : Int) (hh : (0 ≤ a ∧ a ≤ 20) ∧ (0 ≤ b ∧ b ≤ 20) ∧ (0 ≤ c ∧ c ≤ 20) ∧ (0 ≤ d ∧ d ≤ 20)) : PC Tryd.prog 18 [TT [[a, b], [c, d]]] (IL [a + b, c + d]) := by
  refine pc_fn hmix h18 rfl ?_
  simp -implicitDefEqProofs only [c18, push_cast, Nat.reduceBEq, Nat.reduceLT, Nat.reduceLeDiff, Nat.reduceAdd, Nat.reduceSub, Nat.reduceMul, Nat.reduceEqDiff, reduceCtorEq, ↓reduceIte, Int.reduceEq, Int.reduceLT, Int.reduceLE, Int.reduceNe, Int.reduceAdd, Int.reduceSub, Int.reduceMul, Int.reduceToNat, Nat.reduceShiftRight, Nat.reduceAnd, Nat.reduceBNe]
  repeat first
    | (refine LoopW.unroll ?_; simp -implicitDefEqProofs only [c18L0, c18L1, List.getD_cons_zero, List.getD_cons_succ, Int.zero_add, push_cast, Nat.reduceBEq, Nat.reduceLT, Nat.reduceLeDiff, Nat.reduceAdd, Nat.reduceSub, Nat.reduceMul, Nat.reduceEqDiff, reduceCtorEq, ↓reduceIte, Int.reduceEq, Int.reduceLT, Int.reduceLE, Int.reduceNe, Int.reduceAdd, Int.reduceSub, Int.reduceMul, Int.reduceToNat, Nat.reduceShiftRight, Nat.reduceAnd, Nat.reduceBNe])
    | (refine ⟨by first | (simp only [inR]; omega) | (simp only [two47]; omega) | omega, ?_⟩)
  exact finR 3 rfl (fz_seq rfl rfl)

theorem refturned_22 (a b c d : Int) : PC Tryd.prog 33 [TT [[a, b], [c, d]]] (TT [[a, c], [b, d]]) := by
  refine pc_fn hmix h33 rfl ?_
  simp -implicitDefEqProofs only [c33, push_cast, Nat.reduceBEq, Nat.reduceLT, Nat.reduceLeDiff, Nat.reduceAdd, Nat.reduceSub, Nat.reduceMul, Nat.reduceEqDiff, reduceCtorEq, ↓reduceIte, Int.reduceEq, Int.reduceLT, Int.reduceLE, Int.reduceNe, Int.reduceAdd, Int.reduceSub, Int.reduceMul, Int.reduceToNat, Nat.reduceShiftRight, Nat.reduceAnd, Nat.reduceBNe]
  repeat first
    | (refine LoopW.unroll ?_; simp -implicitDefEqProofs only [c33L0, c33L1, List.getD_cons_zero, List.getD_cons_succ, Int.zero_add, push_cast, Nat.reduceBEq, Nat.reduceLT, Nat.reduceLeDiff, Nat.reduceAdd, Nat.reduceSub, Nat.reduceMul, Nat.reduceEqDiff, reduceCtorEq, ↓reduceIte, Int.reduceEq, Int.reduceLT, Int.reduceLE, Int.reduceNe, Int.reduceAdd, Int.reduceSub, Int.reduceMul, Int.reduceToNat, Nat.reduceShiftRight, Nat.reduceAnd, Nat.reduceBNe])
    | (refine ⟨by first | (simp only [inR]; omega) | (simp only [two47]; omega) | omega, ?_⟩)
  exact finR 10 rfl ⟨rfl, ⟨⟨rfl, Nat.le_refl _⟩, rfl⟩, ⟨⟨rfl, Nat.le_refl _⟩, rfl⟩, trivial⟩

theorem refrows_23 (a b c d e f : Int) (hh : (0 ≤ a ∧ a ≤ 20) ∧ (0 ≤ b ∧ b ≤ 20) ∧ (0 ≤ c ∧ c ≤ 20) ∧ (0 ≤ d ∧ d ≤ 20) ∧ (0 ≤ e ∧ e ≤ 20) ∧ (0 ≤ f ∧ f ≤ 20)) : PC Tryd.prog 18 [TT [[a, b, c], [d, e, f]]] (IL [a + b + c, d + e + f]) := by
  refine pc_fn hmix h18 rfl ?_
  simp -implicitDefEqProofs only [c18, push_cast, Nat.reduceBEq, Nat.reduceLT, Nat.reduceLeDiff, Nat.reduceAdd, Nat.reduceSub, Nat.reduceMul, Nat.reduceEqDiff, reduceCtorEq, ↓reduceIte, Int.reduceEq, Int.reduceLT, Int.reduceLE, Int.reduceNe, Int.reduceAdd, Int.reduceSub, Int.reduceMul, Int.reduceToNat, Nat.reduceShiftRight, Nat.reduceAnd, Nat.reduceBNe]
  repeat first
    | (refine LoopW.unroll ?_; simp -implicitDefEqProofs only [c18L0, c18L1, List.getD_cons_zero, List.getD_cons_succ, Int.zero_add, push_cast, Nat.reduceBEq, Nat.reduceLT, Nat.reduceLeDiff, Nat.reduceAdd, Nat.reduceSub, Nat.reduceMul, Nat.reduceEqDiff, reduceCtorEq, ↓reduceIte, Int.reduceEq, Int.reduceLT, Int.reduceLE, Int.reduceNe, Int.reduceAdd, Int.reduceSub, Int.reduceMul, Int.reduceToNat, Nat.reduceShiftRight, Nat.reduceAnd, Nat.reduceBNe])
    | (refine ⟨by first | (simp only [inR]; omega) | (simp only [two47]; omega) | omega, ?_⟩)
  exact finR 3 rfl (fz_seq rfl rfl)

theorem refturned_23 (a b c d e f : Int) : PC Tryd.prog 33 [TT [[a, b, c], [d, e, f]]] (TT [[a, d], [b, e], [c, f]]) := by
  refine pc_fn hmix h33 rfl ?_
  simp -implicitDefEqProofs only [c33, push_cast, Nat.reduceBEq, Nat.reduceLT, Nat.reduceLeDiff, Nat.reduceAdd, Nat.reduceSub, Nat.reduceMul, Nat.reduceEqDiff, reduceCtorEq, ↓reduceIte, Int.reduceEq, Int.reduceLT, Int.reduceLE, Int.reduceNe, Int.reduceAdd, Int.reduceSub, Int.reduceMul, Int.reduceToNat, Nat.reduceShiftRight, Nat.reduceAnd, Nat.reduceBNe]
  repeat first
    | (refine LoopW.unroll ?_; simp -implicitDefEqProofs only [c33L0, c33L1, List.getD_cons_zero, List.getD_cons_succ, Int.zero_add, push_cast, Nat.reduceBEq, Nat.reduceLT, Nat.reduceLeDiff, Nat.reduceAdd, Nat.reduceSub, Nat.reduceMul, Nat.reduceEqDiff, reduceCtorEq, ↓reduceIte, Int.reduceEq, Int.reduceLT, Int.reduceLE, Int.reduceNe, Int.reduceAdd, Int.reduceSub, Int.reduceMul, Int.reduceToNat, Nat.reduceShiftRight, Nat.reduceAnd, Nat.reduceBNe])
    | (refine ⟨by first | (simp only [inR]; omega) | (simp only [two47]; omega) | omega, ?_⟩)
  exact finR 15 rfl ⟨rfl, ⟨⟨rfl, Nat.le_refl _⟩, rfl⟩, ⟨⟨rfl, Nat.le_refl _⟩, rfl⟩, ⟨⟨rfl, Nat.le_refl _⟩, rfl⟩, trivial⟩

theorem refrows_32 (a b c d e f : Int) (hh : (0 ≤ a ∧ a ≤ 20) ∧ (0 ≤ b ∧ b ≤ 20) ∧ (0 ≤ c ∧ c ≤ 20) ∧ (0 ≤ d ∧ d ≤ 20) ∧ (0 ≤ e ∧ e ≤ 20) ∧ (0 ≤ f ∧ f ≤ 20)) : PC Tryd.prog 18 [TT [[a, b], [c, d], [e, f]]] (IL [a + b, c + d, e + f]) := by
  refine pc_fn hmix h18 rfl ?_
  simp -implicitDefEqProofs only [c18, push_cast, Nat.reduceBEq, Nat.reduceLT, Nat.reduceLeDiff, Nat.reduceAdd, Nat.reduceSub, Nat.reduceMul, Nat.reduceEqDiff, reduceCtorEq, ↓reduceIte, Int.reduceEq, Int.reduceLT, Int.reduceLE, Int.reduceNe, Int.reduceAdd, Int.reduceSub, Int.reduceMul, Int.reduceToNat, Nat.reduceShiftRight, Nat.reduceAnd, Nat.reduceBNe]
  repeat first
    | (refine LoopW.unroll ?_; simp -implicitDefEqProofs only [c18L0, c18L1, List.getD_cons_zero, List.getD_cons_succ, Int.zero_add, push_cast, Nat.reduceBEq, Nat.reduceLT, Nat.reduceLeDiff, Nat.reduceAdd, Nat.reduceSub, Nat.reduceMul, Nat.reduceEqDiff, reduceCtorEq, ↓reduceIte, Int.reduceEq, Int.reduceLT, Int.reduceLE, Int.reduceNe, Int.reduceAdd, Int.reduceSub, Int.reduceMul, Int.reduceToNat, Nat.reduceShiftRight, Nat.reduceAnd, Nat.reduceBNe])
    | (refine ⟨by first | (simp only [inR]; omega) | (simp only [two47]; omega) | omega, ?_⟩)
  exact finR 4 rfl (fz_seq rfl rfl)

theorem refturned_32 (a b c d e f : Int) : PC Tryd.prog 33 [TT [[a, b], [c, d], [e, f]]] (TT [[a, c, e], [b, d, f]]) := by
  refine pc_fn hmix h33 rfl ?_
  simp -implicitDefEqProofs only [c33, push_cast, Nat.reduceBEq, Nat.reduceLT, Nat.reduceLeDiff, Nat.reduceAdd, Nat.reduceSub, Nat.reduceMul, Nat.reduceEqDiff, reduceCtorEq, ↓reduceIte, Int.reduceEq, Int.reduceLT, Int.reduceLE, Int.reduceNe, Int.reduceAdd, Int.reduceSub, Int.reduceMul, Int.reduceToNat, Nat.reduceShiftRight, Nat.reduceAnd, Nat.reduceBNe]
  repeat first
    | (refine LoopW.unroll ?_; simp -implicitDefEqProofs only [c33L0, c33L1, List.getD_cons_zero, List.getD_cons_succ, Int.zero_add, push_cast, Nat.reduceBEq, Nat.reduceLT, Nat.reduceLeDiff, Nat.reduceAdd, Nat.reduceSub, Nat.reduceMul, Nat.reduceEqDiff, reduceCtorEq, ↓reduceIte, Int.reduceEq, Int.reduceLT, Int.reduceLE, Int.reduceNe, Int.reduceAdd, Int.reduceSub, Int.reduceMul, Int.reduceToNat, Nat.reduceShiftRight, Nat.reduceAnd, Nat.reduceBNe])
    | (refine ⟨by first | (simp only [inR]; omega) | (simp only [two47]; omega) | omega, ?_⟩)
  exact finR 12 rfl ⟨rfl, ⟨⟨rfl, Nat.le_refl _⟩, rfl⟩, ⟨⟨rfl, Nat.le_refl _⟩, rfl⟩, trivial⟩

theorem refrows_33 (a b c d e f g h i : Int) (hh : (0 ≤ a ∧ a ≤ 20) ∧ (0 ≤ b ∧ b ≤ 20) ∧ (0 ≤ c ∧ c ≤ 20) ∧ (0 ≤ d ∧ d ≤ 20) ∧ (0 ≤ e ∧ e ≤ 20) ∧ (0 ≤ f ∧ f ≤ 20) ∧ (0 ≤ g ∧ g ≤ 20) ∧ (0 ≤ h ∧ h ≤ 20) ∧ (0 ≤ i ∧ i ≤ 20)) : PC Tryd.prog 18 [TT [[a, b, c], [d, e, f], [g, h, i]]] (IL [a + b + c, d + e + f, g + h + i]) := by
  refine pc_fn hmix h18 rfl ?_
  simp -implicitDefEqProofs only [c18, push_cast, Nat.reduceBEq, Nat.reduceLT, Nat.reduceLeDiff, Nat.reduceAdd, Nat.reduceSub, Nat.reduceMul, Nat.reduceEqDiff, reduceCtorEq, ↓reduceIte, Int.reduceEq, Int.reduceLT, Int.reduceLE, Int.reduceNe, Int.reduceAdd, Int.reduceSub, Int.reduceMul, Int.reduceToNat, Nat.reduceShiftRight, Nat.reduceAnd, Nat.reduceBNe]
  repeat first
    | (refine LoopW.unroll ?_; simp -implicitDefEqProofs only [c18L0, c18L1, List.getD_cons_zero, List.getD_cons_succ, Int.zero_add, push_cast, Nat.reduceBEq, Nat.reduceLT, Nat.reduceLeDiff, Nat.reduceAdd, Nat.reduceSub, Nat.reduceMul, Nat.reduceEqDiff, reduceCtorEq, ↓reduceIte, Int.reduceEq, Int.reduceLT, Int.reduceLE, Int.reduceNe, Int.reduceAdd, Int.reduceSub, Int.reduceMul, Int.reduceToNat, Nat.reduceShiftRight, Nat.reduceAnd, Nat.reduceBNe])
    | (refine ⟨by first | (simp only [inR]; omega) | (simp only [two47]; omega) | omega, ?_⟩)
  exact finR 4 rfl (fz_seq rfl rfl)

theorem refturned_33 (a b c d e f g h i : Int) : PC Tryd.prog 33 [TT [[a, b, c], [d, e, f], [g, h, i]]] (TT [[a, d, g], [b, e, h], [c, f, i]]) := by
  refine pc_fn hmix h33 rfl ?_
  simp -implicitDefEqProofs only [c33, push_cast, Nat.reduceBEq, Nat.reduceLT, Nat.reduceLeDiff, Nat.reduceAdd, Nat.reduceSub, Nat.reduceMul, Nat.reduceEqDiff, reduceCtorEq, ↓reduceIte, Int.reduceEq, Int.reduceLT, Int.reduceLE, Int.reduceNe, Int.reduceAdd, Int.reduceSub, Int.reduceMul, Int.reduceToNat, Nat.reduceShiftRight, Nat.reduceAnd, Nat.reduceBNe]
  repeat first
    | (refine LoopW.unroll ?_; simp -implicitDefEqProofs only [c33L0, c33L1, List.getD_cons_zero, List.getD_cons_succ, Int.zero_add, push_cast, Nat.reduceBEq, Nat.reduceLT, Nat.reduceLeDiff, Nat.reduceAdd, Nat.reduceSub, Nat.reduceMul, Nat.reduceEqDiff, reduceCtorEq, ↓reduceIte, Int.reduceEq, Int.reduceLT, Int.reduceLE, Int.reduceNe, Int.reduceAdd, Int.reduceSub, Int.reduceMul, Int.reduceToNat, Nat.reduceShiftRight, Nat.reduceAnd, Nat.reduceBNe])
    | (refine ⟨by first | (simp only [inR]; omega) | (simp only [two47]; omega) | omega, ?_⟩)
  exact finR 18 rfl ⟨rfl, ⟨⟨rfl, Nat.le_refl _⟩, rfl⟩, ⟨⟨rfl, Nat.le_refl _⟩, rfl⟩, ⟨⟨rfl, Nat.le_refl _⟩, rfl⟩, trivial⟩

end Go.Proofs.YtligakiolapkkaaDoor

namespace Go.Proofs.YtligakiolapkkaaDoor
open Go GoV
set_option maxHeartbeats 4000000

/-- a table: rows of one length, counts from 0 to 20 -/
structure Tab (t : List (List Int)) : Prop where
  len : 2 ≤ t.length ∧ t.length ≤ 3
  wid : 2 ≤ wid t ∧ wid t ≤ 3
  row : ∀ r ∈ t, r.length = Go.Proofs.YtligakiolapkkaaDoor.wid t ∧ R20 r
  tot : 1 ≤ totL t ∧ totL t ≤ 20
theorem tab_of {t : List (List Int)} (h : validB t = true) : Tab t := by
  have h0 := h
  unfold validB at h
  simp only [Bool.and_eq_true, decide_eq_true_eq, List.all_eq_true] at h
  exact ⟨h.1.1, h.1.2, fun r hr => okRow_iff.1 (h.2.1 r hr), h.2.2⟩
theorem tab_valid {t : List (List Int)} (h : Tab t) : validB t = true := by
  rw [valid_all ⟨h.len, h.wid⟩ h.row]
  exact decide_eq_true h.tot

theorem list2 {α : Type} {l : List α} (h : l.length = 2) : ∃ a b, l = [a, b] := by
  match l, h with
  | [a, b], _ => exact ⟨a, b, rfl⟩
theorem list3 {α : Type} {l : List α} (h : l.length = 3) : ∃ a b c, l = [a, b, c] := by
  match l, h with
  | [a, b, c], _ => exact ⟨a, b, c, rfl⟩

theorem rng2 {a b : Int} (h : R20 [a, b]) : (0 ≤ a ∧ a ≤ 20) ∧ (0 ≤ b ∧ b ≤ 20) := ⟨h a (by simp), h b (by simp)⟩
theorem rng3 {a b c : Int} (h : R20 [a, b, c]) : (0 ≤ a ∧ a ≤ 20) ∧ (0 ≤ b ∧ b ≤ 20) ∧ (0 ≤ c ∧ c ≤ 20) := ⟨h a (by simp), h b (by simp), h c (by simp)⟩

abbrev rg (x : Int) : Prop := 0 ≤ x ∧ x ≤ 20
/-- what is to be shown of tables is to be shown of the four shapes -/
theorem shapes {P : List (List Int) → Prop} {t : List (List Int)} (h : Tab t)
    (h22 : ∀ a b c d, Tab [[a, b], [c, d]] → rg a ∧ rg b ∧ rg c ∧ rg d → P [[a, b], [c, d]]) (h23 : ∀ a b c d e f, Tab [[a, b, c], [d, e, f]] → rg a ∧ rg b ∧ rg c ∧ rg d ∧ rg e ∧ rg f → P [[a, b, c], [d, e, f]])
    (h32 : ∀ a b c d e f, Tab [[a, b], [c, d], [e, f]] → rg a ∧ rg b ∧ rg c ∧ rg d ∧ rg e ∧ rg f → P [[a, b], [c, d], [e, f]]) (h33 : ∀ a b c d e f g i j, Tab [[a, b, c], [d, e, f], [g, i, j]] → rg a ∧ rg b ∧ rg c ∧ rg d ∧ rg e ∧ rg f ∧ rg g ∧ rg i ∧ rg j → P [[a, b, c], [d, e, f], [g, i, j]]) : P t := by
  have hl := h.len
  have hw := h.wid
  have hr := h.row
  have : t.length = 2 ∨ t.length = 3 := by omega
  rcases this with h2 | h3
  · obtain ⟨r, s, rfl⟩ := list2 h2
    have hr1 := (hr r (by simp)).1
    have hs1 := (hr s (by simp)).1
    have ew : Go.Proofs.YtligakiolapkkaaDoor.wid [r, s] = r.length := rfl
    have : r.length = 2 ∨ r.length = 3 := by omega
    rcases this with hr2 | hr3
    · obtain ⟨a, b, rfl⟩ := list2 hr2
      obtain ⟨c, d, rfl⟩ := list2 (l := s) (by omega)
      exact h22 a b c d h (by have h1 := rng2 (hr [a, b] (by simp)).2; have h2 := rng2 (hr [c, d] (by simp)).2; simp only [rg]; omega)
    · obtain ⟨a, b, c, rfl⟩ := list3 hr3
      obtain ⟨d, e, f, rfl⟩ := list3 (l := s) (by omega)
      exact h23 a b c d e f h (by have h1 := rng3 (hr [a, b, c] (by simp)).2; have h2 := rng3 (hr [d, e, f] (by simp)).2; simp only [rg]; omega)
  · obtain ⟨r, s, u, rfl⟩ := list3 h3
    have hr1 := (hr r (by simp)).1
    have hs1 := (hr s (by simp)).1
    have hu1 := (hr u (by simp)).1
    have ew : Go.Proofs.YtligakiolapkkaaDoor.wid [r, s, u] = r.length := rfl
    have : r.length = 2 ∨ r.length = 3 := by omega
    rcases this with hr2 | hr3
    · obtain ⟨a, b, rfl⟩ := list2 hr2
      obtain ⟨c, d, rfl⟩ := list2 (l := s) (by omega)
      obtain ⟨e, f, rfl⟩ := list2 (l := u) (by omega)
      exact h32 a b c d e f h (by have h1 := rng2 (hr [a, b] (by simp)).2; have h2 := rng2 (hr [c, d] (by simp)).2; have h3 := rng2 (hr [e, f] (by simp)).2; simp only [rg]; omega)
    · obtain ⟨a, b, c, rfl⟩ := list3 hr3
      obtain ⟨d, e, f, rfl⟩ := list3 (l := s) (by omega)
      obtain ⟨g, i, j, rfl⟩ := list3 (l := u) (by omega)
      exact h33 a b c d e f g i j h (by have h1 := rng3 (hr [a, b, c] (by simp)).2; have h2 := rng3 (hr [d, e, f] (by simp)).2; have h3 := rng3 (hr [g, i, j] (by simp)).2; simp only [rg]; omega)

abbrev AG (l : List Int) : AV := .agg (l.map I)
def rowsL (t : List (List Int)) : List Int := t.map sumL
def trL (t : List (List Int)) : List (List Int) := (List.range (wid t)).map fun j => t.map (·.getD j 0)
def colsL (t : List (List Int)) : List Int := rowsL (trL t)
def pad (l : List Int) : List Int := l ++ List.replicate (3 - l.length) 0

theorem sums_pc {t : List (List Int)} (h : Tab t) : PC Tryd.prog 42 [TT t] (.tup [AG (pad (rowsL t)), AG (pad (colsL t))]) := by
  refine shapes (P := fun t => PC Tryd.prog 42 [TT t] (.tup [AG (pad (rowsL t)), AG (pad (colsL t))])) h ?_ ?_ ?_ ?_
  · intro a b c d h hh
    have := sums_22 a b c d hh
    simpa [pad, rowsL, colsL, trL, wid, sumL, AG, List.range_succ] using this
  · intro a b c d e f h hh
    have := sums_23 a b c d e f hh
    simpa [pad, rowsL, colsL, trL, wid, sumL, AG, List.range_succ, Int.add_assoc] using this
  · intro a b c d e f h hh
    have := sums_32 a b c d e f hh
    simpa [pad, rowsL, colsL, trL, wid, sumL, AG, List.range_succ, Int.add_assoc] using this
  · intro a b c d e f g i j h hh
    have := sums_33 a b c d e f g i j hh
    simpa [pad, rowsL, colsL, trL, wid, sumL, AG, List.range_succ, Int.add_assoc] using this

theorem refrows_pc {t : List (List Int)} (h : Tab t) : PC Tryd.prog 18 [TT t] (IL (rowsL t)) := by
  refine shapes (P := fun t => PC Tryd.prog 18 [TT t] (IL (rowsL t))) h ?_ ?_ ?_ ?_
  · intro a b c d h hh
    have := refrows_22 a b c d hh
    simpa [rowsL, sumL] using this
  · intro a b c d e f h hh
    have := refrows_23 a b c d e f hh
    simpa [rowsL, sumL, Int.add_assoc] using this
  · intro a b c d e f h hh
    have := refrows_32 a b c d e f hh
    simpa [rowsL, sumL, Int.add_assoc] using this
  · intro a b c d e f g i j h hh
    have := refrows_33 a b c d e f g i j hh
    simpa [rowsL, sumL, Int.add_assoc] using this

theorem refturned_pc {t : List (List Int)} (h : Tab t) : PC Tryd.prog 33 [TT t] (TT (trL t)) := by
  refine shapes (P := fun t => PC Tryd.prog 33 [TT t] (TT (trL t))) h ?_ ?_ ?_ ?_
  · intro a b c d h hh
    simpa [trL, wid, List.range_succ] using refturned_22 a b c d
  · intro a b c d e f h hh
    simpa [trL, wid, List.range_succ] using refturned_23 a b c d e f
  · intro a b c d e f h hh
    simpa [trL, wid, List.range_succ] using refturned_32 a b c d e f
  · intro a b c d e f g i j h hh
    simpa [trL, wid, List.range_succ] using refturned_33 a b c d e f g i j
end Go.Proofs.YtligakiolapkkaaDoor

namespace Go.Proofs.YtligakiolapkkaaDoor
open Go GoV
set_option maxHeartbeats 4000000

def facts : List Int := [Int.ofNat 1, Int.ofNat 1, Int.ofNat 2, Int.ofNat 6, Int.ofNat 24, Int.ofNat 120, Int.ofNat 720, Int.ofNat 5040, Int.ofNat 40320, Int.ofNat 362880, Int.ofNat 3628800, Int.ofNat 39916800, Int.ofNat 479001600, Int.ofNat 6227020800, Int.ofNat 87178291200, Int.ofNat 1307674368000, Int.ofNat 20922789888000, Int.ofNat 355687428096000, Int.ofNat 6402373705728000, Int.ofNat 121645100408832000, Int.ofNat 2432902008176640000]
theorem facts_get : ∀ n : Fin 21, facts.getD n.1 0 = ((fct n.1 : Nat) : Int) := by decide
theorem facts_at {n : Nat} (h : n ≤ 20) : facts.getD n 0 = ((fct n : Nat) : Int) := facts_get ⟨n, by omega⟩

theorem over_pc (n : Int) (l : List Int) (hn : rg n) (hl : R20 l) (hll : l.length ≤ 1000) : PC Tryd.prog 44 [I n, IL l] (I (overN n.toNat l)) := by
  obtain ⟨m, rfl⟩ := Int.eq_ofNat_of_zero_le hn.1
  have hn := hn.2
  have hf := facts_at (n := m) (by omega)
  unfold facts at hf
  refine pc_fn hmix h44 rfl ?_
  simp -implicitDefEqProofs only [c44, hf, push_cast, Nat.reduceBEq, Nat.reduceLT, Nat.reduceLeDiff, Nat.reduceAdd, Nat.reduceSub, Nat.reduceMul, Nat.reduceEqDiff, reduceCtorEq, ↓reduceIte, Int.reduceEq, Int.reduceLT, Int.reduceLE, Int.reduceNe, Int.reduceAdd, Int.reduceSub, Int.reduceMul, Int.reduceToNat, Nat.reduceShiftRight, Nat.reduceAnd, Nat.reduceBNe]
  refine ⟨by omega, ?_⟩
  refine loop_k (α := Nat) [13, 12, 11, 5] 0 (fun k => [(13, I k), (5, I (overN m (l.take k)))]) (fun _ => []) (fun k => k ≤ l.length) (fun k => l.length - k) 0 rfl ⟨rfl, rfl, rfl⟩ rfl (by omega) ?_
  intro k hk
  simp -implicitDefEqProofs only [c44L0, push_cast, Nat.reduceBEq, Nat.reduceLT, Nat.reduceLeDiff, Nat.reduceAdd, Nat.reduceSub, Nat.reduceMul, Nat.reduceEqDiff, reduceCtorEq, ↓reduceIte, Int.reduceEq, Int.reduceLT, Int.reduceLE, Int.reduceNe, Int.reduceAdd, Int.reduceSub, Int.reduceMul, Int.reduceToNat, Nat.reduceShiftRight, Nat.reduceAnd, Nat.reduceBNe]
  refine ⟨fun hc => ⟨by omega, ?_⟩, fun hc => ?_⟩
  · have hkl : k < l.length := by omega
    have hx := hl _ (getD_mem (d := 0) hkl)
    have e := over_step (n := m) hl hkl
    have hpos := fct_pos (l.getD k 0).toNat
    have hb := Nat.le_trans (overN_le m (l.take k)) (fct_le20 (by omega))
    generalize l.getD k 0 = x at *
    obtain ⟨y, rfl⟩ := Int.eq_ofNat_of_zero_le hx.1
    have hg := facts_at (n := y) (by omega)
    unfold facts at hg
    simp only [Int.toNat_natCast] at e hpos ⊢
    rw [hg]
    refine ⟨by omega, tdiv_rng hb hpos, by simp only [inR]; omega, k + 1, by omega, by omega, ?_⟩
    rw [e]
    exact wk_c rfl ⟨rfl, rfl, rfl⟩ rfl
  · have : k = l.length := by omega
    subst this
    rw [List.take_length]
    exact finC rfl rfl

def waysN : List (List Int) → Nat
  | [] => 1
  | r :: t => overN (sumL r).toNat r * waysN t
def totalN (t : List (List Int)) : Nat := overN (totL t).toNat (colsL t)

theorem tab_rows {t : List (List Int)} (h : Tab t) : R20 (rowsL t) ∧ R20 (colsL t) ∧ sumL (rowsL t) = totL t ∧ sumL (colsL t) = totL t ∧ (rowsL t).length = t.length ∧ (colsL t).length = wid t := by
  refine shapes (P := fun t => R20 (rowsL t) ∧ R20 (colsL t) ∧ sumL (rowsL t) = totL t ∧ sumL (colsL t) = totL t ∧ (rowsL t).length = t.length ∧ (colsL t).length = wid t) h ?_ ?_ ?_ ?_
  all_goals
    intros
    rename_i h hh
    have ht := h.tot
    simp only [rg] at hh
    simp only [totL, List.map_cons, List.map_nil, sumL] at ht
    simp [R20, rowsL, colsL, trL, wid, totL, sumL, List.range_succ]
    omega
theorem tab_rng {t : List (List Int)} (h : Tab t) {r : List Int} (hr : r ∈ t) : rg (sumL r) := (tab_rows h).1 _ (List.mem_map_of_mem hr)

theorem mul_rng {a b : Nat} (h : a * b ≤ 2432902008176640000) : inR .i64 ((a : Int) * (b : Int)) := by
  rw [← Int.natCast_mul]
  generalize a * b = c at h
  simp only [inR]
  omega

theorem waysN_le : ∀ (t : List (List Int)), (∀ r ∈ t, 0 ≤ sumL r) → waysN t ≤ fct (totL t).toNat ∧ 0 ≤ totL t
  | [], _ => by simp [waysN, totL, sumL, fct]
  | r :: t, h => by
    have ih := waysN_le t (fun x hx => h x (List.mem_cons_of_mem _ hx))
    have h0 := h r (List.mem_cons_self ..)
    have e : totL (r :: t) = sumL r + totL t := by simp [totL, sumL]
    refine ⟨?_, by omega⟩
    have e2 : (totL (r :: t)).toNat = (sumL r).toNat + (totL t).toNat := by omega
    rw [e2]
    exact Nat.le_trans (Nat.mul_le_mul (overN_le _ _) ih.1) (fct_mul_le _ _)

/-- the products on the way -/
theorem ways_small {t : List (List Int)} (h : Tab t) : waysN t ≤ 2432902008176640000 := by
  have h1 := waysN_le t (fun r hr => (tab_rng h hr).1)
  have h2 := h.tot
  exact Nat.le_trans h1.1 (fct_le20 (by omega))

theorem over_small {t : List (List Int)} (h : Tab t) {r : List Int} (hr : r ∈ t) : overN (sumL r).toNat r ≤ 2432902008176640000 := by
  have h1 := tab_rng h hr
  exact Nat.le_trans (overN_le _ _) (fct_le20 (by simp only [rg] at h1; omega))
theorem over_small2 {r s : List Int} {t : List (List Int)} (h : Tab (r :: s :: t)) : overN (sumL r).toNat r * overN (sumL s).toNat s ≤ 2432902008176640000 := by
  have h1 := tab_rng h (r := r) (by simp)
  have h2 := tab_rng h (r := s) (by simp)
  have h3 : 0 ≤ totL t ∧ totL (r :: s :: t) = sumL r + (sumL s + totL t) := ⟨(waysN_le t (fun x hx => (tab_rng h (r := x) (by simp [hx])).1)).2, by simp [totL, sumL]⟩
  have h4 := h.tot
  refine Nat.le_trans (Nat.mul_le_mul (overN_le _ _) (overN_le _ _)) (Nat.le_trans (fct_mul_le _ _) (fct_le20 ?_))
  simp only [rg] at h1 h2
  omega

theorem sums_of {t : List (List Int)} (h : Tab t) : ∃ x y z, AG (pad (colsL t)) = .agg [I x, I y, I z] ∧ x + y + z = totL t ∧ rg x ∧ rg y ∧ rg z ∧ rg (x + y) ∧ pad (colsL t) = [x, y, z] := by
  obtain ⟨_, h2, _, h4, _, h6⟩ := (tab_rows h)
  have hw := h.wid
  have ht := h.tot
  rw [← h4] at ht ⊢
  have : (colsL t).length = 2 ∨ (colsL t).length = 3 := by omega
  generalize colsL t = l at *
  rcases this with h | h
  · obtain ⟨a, b, rfl⟩ := list2 h
    have h1 := h2 a (by simp)
    have h3 := h2 b (by simp)
    refine ⟨a, b, 0, rfl, by simp [sumL], h1, h3, by simp [rg], ?_, rfl⟩
    simp only [sumL, rg] at *
    omega
  · obtain ⟨a, b, c, rfl⟩ := list3 h
    have h1 := h2 a (by simp)
    have h3 := h2 b (by simp)
    have h5 := h2 c (by simp)
    refine ⟨a, b, c, rfl, by simp [sumL]; omega, h1, h3, h5, ?_, rfl⟩
    simp only [sumL, rg] at *
    omega

theorem count_pc {t : List (List Int)} (h : Tab t) (hw : t.length ≤ 1000) : PC Tryd.prog 43 [TT t] (I (waysN t)) := by
  obtain ⟨x, y, z, hc, _⟩ := sums_of h
  have hs := sums_pc h
  rw [hc] at hs
  have hl := h.len
  have hwid := h.wid
  have hrow := h.row
  have hws := ways_small h
  have hov := fun (r : List Int) (hr : r ∈ t) => over_pc (sumL r) r (tab_rng h hr) (hrow r hr).2 (by have := (hrow r hr).1; omega)
  have hos := fun (r : List Int) (hr : r ∈ t) => over_small h hr
  have : t.length = 2 ∨ t.length = 3 := by omega
  rcases this with h2 | h3
  · obtain ⟨r, s, rfl⟩ := list2 h2
    have e : AG (pad (rowsL [r, s])) = .agg [I (sumL r), I (sumL s), I 0] := rfl
    rw [e] at hs
    simp only [waysN, Nat.mul_one] at hws ⊢
    refine pc_fn hmix h43 rfl ?_
    simp -implicitDefEqProofs only [c43, push_cast, Nat.reduceBEq, Nat.reduceLT, Nat.reduceLeDiff, Nat.reduceAdd, Nat.reduceSub, Nat.reduceMul, Nat.reduceEqDiff, reduceCtorEq, ↓reduceIte, Int.reduceEq, Int.reduceLT, Int.reduceLE, Int.reduceNe, Int.reduceAdd, Int.reduceSub, Int.reduceMul, Int.reduceToNat, Nat.reduceShiftRight, Nat.reduceAnd, Nat.reduceBNe]
    refine callF hs ⟨rfl, trivial⟩ rfl rfl ?_
    simp -implicitDefEqProofs only [push_cast, Nat.reduceBEq, Nat.reduceLT, Nat.reduceLeDiff, Nat.reduceAdd, Nat.reduceSub, Nat.reduceMul, Nat.reduceEqDiff, reduceCtorEq, ↓reduceIte, Int.reduceEq, Int.reduceLT, Int.reduceLE, Int.reduceNe, Int.reduceAdd, Int.reduceSub, Int.reduceMul, Int.reduceToNat, Nat.reduceShiftRight, Nat.reduceAnd, Nat.reduceBNe]
    refine LoopW.unroll ?_
    simp -implicitDefEqProofs only [c43L0, List.getD_cons_zero, List.getD_cons_succ, push_cast, Nat.reduceBEq, Nat.reduceLT, Nat.reduceLeDiff, Nat.reduceAdd, Nat.reduceSub, Nat.reduceMul, Nat.reduceEqDiff, reduceCtorEq, ↓reduceIte, Int.reduceEq, Int.reduceLT, Int.reduceLE, Int.reduceNe, Int.reduceAdd, Int.reduceSub, Int.reduceMul, Int.reduceToNat, Nat.reduceShiftRight, Nat.reduceAnd, Nat.reduceBNe]
    refine callF (hov r (by simp)) ⟨rfl, rfl, trivial⟩ rfl rfl ?_
    have h5 := hos r (by simp)
    simp -implicitDefEqProofs only [Int.one_mul, push_cast, Nat.reduceBEq, Nat.reduceLT, Nat.reduceLeDiff, Nat.reduceAdd, Nat.reduceSub, Nat.reduceMul, Nat.reduceEqDiff, reduceCtorEq, ↓reduceIte, Int.reduceEq, Int.reduceLT, Int.reduceLE, Int.reduceNe, Int.reduceAdd, Int.reduceSub, Int.reduceMul, Int.reduceToNat, Nat.reduceShiftRight, Nat.reduceAnd, Nat.reduceBNe]
    refine ⟨by simp only [inR]; omega, by simp only [inR]; omega, LoopW.unroll ?_⟩
    simp -implicitDefEqProofs only [c43L0, List.getD_cons_zero, List.getD_cons_succ, push_cast, Nat.reduceBEq, Nat.reduceLT, Nat.reduceLeDiff, Nat.reduceAdd, Nat.reduceSub, Nat.reduceMul, Nat.reduceEqDiff, reduceCtorEq, ↓reduceIte, Int.reduceEq, Int.reduceLT, Int.reduceLE, Int.reduceNe, Int.reduceAdd, Int.reduceSub, Int.reduceMul, Int.reduceToNat, Nat.reduceShiftRight, Nat.reduceAnd, Nat.reduceBNe]
    refine callF (hov s (by simp)) ⟨rfl, rfl, trivial⟩ rfl rfl ?_
    simp -implicitDefEqProofs only [push_cast, Nat.reduceBEq, Nat.reduceLT, Nat.reduceLeDiff, Nat.reduceAdd, Nat.reduceSub, Nat.reduceMul, Nat.reduceEqDiff, reduceCtorEq, ↓reduceIte, Int.reduceEq, Int.reduceLT, Int.reduceLE, Int.reduceNe, Int.reduceAdd, Int.reduceSub, Int.reduceMul, Int.reduceToNat, Nat.reduceShiftRight, Nat.reduceAnd, Nat.reduceBNe]
    refine ⟨mul_rng hws, by simp only [inR]; omega, LoopW.unroll ?_⟩
    simp -implicitDefEqProofs only [c43L0, push_cast, Nat.reduceBEq, Nat.reduceLT, Nat.reduceLeDiff, Nat.reduceAdd, Nat.reduceSub, Nat.reduceMul, Nat.reduceEqDiff, reduceCtorEq, ↓reduceIte, Int.reduceEq, Int.reduceLT, Int.reduceLE, Int.reduceNe, Int.reduceAdd, Int.reduceSub, Int.reduceMul, Int.reduceToNat, Nat.reduceShiftRight, Nat.reduceAnd, Nat.reduceBNe]
    exact finC (by rw [← Int.natCast_mul]) rfl
  · obtain ⟨r, s, u, rfl⟩ := list3 h3
    have e : AG (pad (rowsL [r, s, u])) = .agg [I (sumL r), I (sumL s), I (sumL u)] := rfl
    rw [e] at hs
    simp only [waysN, Nat.mul_one] at hws ⊢
    have h6 := over_small2 h
    refine pc_fn hmix h43 rfl ?_
    simp -implicitDefEqProofs only [c43, push_cast, Nat.reduceBEq, Nat.reduceLT, Nat.reduceLeDiff, Nat.reduceAdd, Nat.reduceSub, Nat.reduceMul, Nat.reduceEqDiff, reduceCtorEq, ↓reduceIte, Int.reduceEq, Int.reduceLT, Int.reduceLE, Int.reduceNe, Int.reduceAdd, Int.reduceSub, Int.reduceMul, Int.reduceToNat, Nat.reduceShiftRight, Nat.reduceAnd, Nat.reduceBNe]
    refine callF hs ⟨rfl, trivial⟩ rfl rfl ?_
    simp -implicitDefEqProofs only [push_cast, Nat.reduceBEq, Nat.reduceLT, Nat.reduceLeDiff, Nat.reduceAdd, Nat.reduceSub, Nat.reduceMul, Nat.reduceEqDiff, reduceCtorEq, ↓reduceIte, Int.reduceEq, Int.reduceLT, Int.reduceLE, Int.reduceNe, Int.reduceAdd, Int.reduceSub, Int.reduceMul, Int.reduceToNat, Nat.reduceShiftRight, Nat.reduceAnd, Nat.reduceBNe]
    refine LoopW.unroll ?_
    simp -implicitDefEqProofs only [c43L0, List.getD_cons_zero, List.getD_cons_succ, push_cast, Nat.reduceBEq, Nat.reduceLT, Nat.reduceLeDiff, Nat.reduceAdd, Nat.reduceSub, Nat.reduceMul, Nat.reduceEqDiff, reduceCtorEq, ↓reduceIte, Int.reduceEq, Int.reduceLT, Int.reduceLE, Int.reduceNe, Int.reduceAdd, Int.reduceSub, Int.reduceMul, Int.reduceToNat, Nat.reduceShiftRight, Nat.reduceAnd, Nat.reduceBNe]
    refine callF (hov r (by simp)) ⟨rfl, rfl, trivial⟩ rfl rfl ?_
    have h5 := hos r (by simp)
    simp -implicitDefEqProofs only [Int.one_mul, push_cast, Nat.reduceBEq, Nat.reduceLT, Nat.reduceLeDiff, Nat.reduceAdd, Nat.reduceSub, Nat.reduceMul, Nat.reduceEqDiff, reduceCtorEq, ↓reduceIte, Int.reduceEq, Int.reduceLT, Int.reduceLE, Int.reduceNe, Int.reduceAdd, Int.reduceSub, Int.reduceMul, Int.reduceToNat, Nat.reduceShiftRight, Nat.reduceAnd, Nat.reduceBNe]
    refine ⟨by simp only [inR]; omega, by simp only [inR]; omega, LoopW.unroll ?_⟩
    simp -implicitDefEqProofs only [c43L0, List.getD_cons_zero, List.getD_cons_succ, push_cast, Nat.reduceBEq, Nat.reduceLT, Nat.reduceLeDiff, Nat.reduceAdd, Nat.reduceSub, Nat.reduceMul, Nat.reduceEqDiff, reduceCtorEq, ↓reduceIte, Int.reduceEq, Int.reduceLT, Int.reduceLE, Int.reduceNe, Int.reduceAdd, Int.reduceSub, Int.reduceMul, Int.reduceToNat, Nat.reduceShiftRight, Nat.reduceAnd, Nat.reduceBNe]
    refine callF (hov s (by simp)) ⟨rfl, rfl, trivial⟩ rfl rfl ?_
    simp -implicitDefEqProofs only [push_cast, Nat.reduceBEq, Nat.reduceLT, Nat.reduceLeDiff, Nat.reduceAdd, Nat.reduceSub, Nat.reduceMul, Nat.reduceEqDiff, reduceCtorEq, ↓reduceIte, Int.reduceEq, Int.reduceLT, Int.reduceLE, Int.reduceNe, Int.reduceAdd, Int.reduceSub, Int.reduceMul, Int.reduceToNat, Nat.reduceShiftRight, Nat.reduceAnd, Nat.reduceBNe]
    refine ⟨mul_rng h6, by simp only [inR]; omega, LoopW.unroll ?_⟩
    simp -implicitDefEqProofs only [c43L0, List.getD_cons_zero, List.getD_cons_succ, push_cast, Nat.reduceBEq, Nat.reduceLT, Nat.reduceLeDiff, Nat.reduceAdd, Nat.reduceSub, Nat.reduceMul, Nat.reduceEqDiff, reduceCtorEq, ↓reduceIte, Int.reduceEq, Int.reduceLT, Int.reduceLE, Int.reduceNe, Int.reduceAdd, Int.reduceSub, Int.reduceMul, Int.reduceToNat, Nat.reduceShiftRight, Nat.reduceAnd, Nat.reduceBNe]
    refine callF (hov u (by simp)) ⟨rfl, rfl, trivial⟩ rfl rfl ?_
    simp -implicitDefEqProofs only [push_cast, Nat.reduceBEq, Nat.reduceLT, Nat.reduceLeDiff, Nat.reduceAdd, Nat.reduceSub, Nat.reduceMul, Nat.reduceEqDiff, reduceCtorEq, ↓reduceIte, Int.reduceEq, Int.reduceLT, Int.reduceLE, Int.reduceNe, Int.reduceAdd, Int.reduceSub, Int.reduceMul, Int.reduceToNat, Nat.reduceShiftRight, Nat.reduceAnd, Nat.reduceBNe]
    rw [← Nat.mul_assoc] at hws
    refine ⟨by rw [← Int.natCast_mul]; exact mul_rng hws, by simp only [inR]; omega, LoopW.unroll ?_⟩
    simp -implicitDefEqProofs only [c43L0, push_cast, Nat.reduceBEq, Nat.reduceLT, Nat.reduceLeDiff, Nat.reduceAdd, Nat.reduceSub, Nat.reduceMul, Nat.reduceEqDiff, reduceCtorEq, ↓reduceIte, Int.reduceEq, Int.reduceLT, Int.reduceLE, Int.reduceNe, Int.reduceAdd, Int.reduceSub, Int.reduceMul, Int.reduceToNat, Nat.reduceShiftRight, Nat.reduceAnd, Nat.reduceBNe]
    exact finC (by simp only [Int.natCast_mul, Int.mul_assoc]) rfl

theorem ways_pc (t : List (List Int)) (hl : t.length ≤ 1000) (hr : ∀ r ∈ t, r.length ≤ 1000) : PC Tryd.prog 14 [TT t] (if validB t then .tup [I (waysN t), I 0] else .tup [I 0, I 300]) := by
  have hc := check_pc t hl hr
  cases hv : validB t with
  | false =>
    rw [hv] at hc
    refine pc_fn hmix h14 rfl ?_
    simp -implicitDefEqProofs only [c14, push_cast, Nat.reduceBEq, Nat.reduceLT, Nat.reduceLeDiff, Nat.reduceAdd, Nat.reduceSub, Nat.reduceMul, Nat.reduceEqDiff, reduceCtorEq, ↓reduceIte, Int.reduceEq, Int.reduceLT, Int.reduceLE, Int.reduceNe, Int.reduceAdd, Int.reduceSub, Int.reduceMul, Int.reduceToNat, Nat.reduceShiftRight, Nat.reduceAnd, Nat.reduceBNe]
    refine callF hc ⟨rfl, trivial⟩ rfl rfl ?_
    simp -implicitDefEqProofs only [push_cast, Nat.reduceBEq, Nat.reduceLT, Nat.reduceLeDiff, Nat.reduceAdd, Nat.reduceSub, Nat.reduceMul, Nat.reduceEqDiff, reduceCtorEq, ↓reduceIte, Int.reduceEq, Int.reduceLT, Int.reduceLE, Int.reduceNe, Int.reduceAdd, Int.reduceSub, Int.reduceMul, Int.reduceToNat, Nat.reduceShiftRight, Nat.reduceAnd, Nat.reduceBNe]
    exact finC rfl rfl
  | true =>
    rw [hv] at hc
    have h := tab_of hv
    refine pc_fn hmix h14 rfl ?_
    simp -implicitDefEqProofs only [c14, push_cast, Nat.reduceBEq, Nat.reduceLT, Nat.reduceLeDiff, Nat.reduceAdd, Nat.reduceSub, Nat.reduceMul, Nat.reduceEqDiff, reduceCtorEq, ↓reduceIte, Int.reduceEq, Int.reduceLT, Int.reduceLE, Int.reduceNe, Int.reduceAdd, Int.reduceSub, Int.reduceMul, Int.reduceToNat, Nat.reduceShiftRight, Nat.reduceAnd, Nat.reduceBNe]
    refine callF hc ⟨rfl, trivial⟩ rfl rfl ?_
    simp -implicitDefEqProofs only [push_cast, Nat.reduceBEq, Nat.reduceLT, Nat.reduceLeDiff, Nat.reduceAdd, Nat.reduceSub, Nat.reduceMul, Nat.reduceEqDiff, reduceCtorEq, ↓reduceIte, Int.reduceEq, Int.reduceLT, Int.reduceLE, Int.reduceNe, Int.reduceAdd, Int.reduceSub, Int.reduceMul, Int.reduceToNat, Nat.reduceShiftRight, Nat.reduceAnd, Nat.reduceBNe]
    refine callF (count_pc h hl) ⟨rfl, trivial⟩ rfl rfl ?_
    simp -implicitDefEqProofs only [push_cast, Nat.reduceBEq, Nat.reduceLT, Nat.reduceLeDiff, Nat.reduceAdd, Nat.reduceSub, Nat.reduceMul, Nat.reduceEqDiff, reduceCtorEq, ↓reduceIte, Int.reduceEq, Int.reduceLT, Int.reduceLE, Int.reduceNe, Int.reduceAdd, Int.reduceSub, Int.reduceMul, Int.reduceToNat, Nat.reduceShiftRight, Nat.reduceAnd, Nat.reduceBNe]
    exact finC rfl rfl

theorem overN_pad {n : Nat} {t : List (List Int)} : overN n (pad (colsL t)) = overN n (colsL t) := by
  unfold pad overN
  rw [List.foldl_append]
  generalize 3 - (colsL t).length = k
  generalize (colsL t).foldl _ _ = o
  induction k with
  | zero => rfl
  | succ k ih => rw [List.replicate_succ, List.foldl_cons, show o / fct (Int.toNat 0) = o by simp [fct]]; exact ih

theorem total_pc (t : List (List Int)) (hl : t.length ≤ 1000) (hr : ∀ r ∈ t, r.length ≤ 1000) : PC Tryd.prog 15 [TT t] (if validB t then .tup [I (totalN t), I 0] else .tup [I 0, I 300]) := by
  have hc := check_pc t hl hr
  cases hv : validB t with
  | false =>
    rw [hv] at hc
    refine pc_fn hmix h15 rfl ?_
    simp -implicitDefEqProofs only [c15, push_cast, Nat.reduceBEq, Nat.reduceLT, Nat.reduceLeDiff, Nat.reduceAdd, Nat.reduceSub, Nat.reduceMul, Nat.reduceEqDiff, reduceCtorEq, ↓reduceIte, Int.reduceEq, Int.reduceLT, Int.reduceLE, Int.reduceNe, Int.reduceAdd, Int.reduceSub, Int.reduceMul, Int.reduceToNat, Nat.reduceShiftRight, Nat.reduceAnd, Nat.reduceBNe]
    refine callF hc ⟨rfl, trivial⟩ rfl rfl ?_
    simp -implicitDefEqProofs only [push_cast, Nat.reduceBEq, Nat.reduceLT, Nat.reduceLeDiff, Nat.reduceAdd, Nat.reduceSub, Nat.reduceMul, Nat.reduceEqDiff, reduceCtorEq, ↓reduceIte, Int.reduceEq, Int.reduceLT, Int.reduceLE, Int.reduceNe, Int.reduceAdd, Int.reduceSub, Int.reduceMul, Int.reduceToNat, Nat.reduceShiftRight, Nat.reduceAnd, Nat.reduceBNe]
    exact finC rfl rfl
  | true =>
    rw [hv] at hc
    have h := tab_of hv
    obtain ⟨x, y, z, e, hxyz, hx, hy, hz, hxy, ep⟩ := sums_of h
    have hs := sums_pc h
    rw [e] at hs
    obtain ⟨a, b, c, er⟩ : ∃ a b c, AG (pad (rowsL t)) = .agg [I a, I b, I c] := by
      have h1 := (tab_rows h).2.2.2.2.1
      have h2 := h.len
      have : (rowsL t).length = 2 ∨ (rowsL t).length = 3 := by omega
      generalize rowsL t = l at *
      rcases this with h | h
      · obtain ⟨a, b, rfl⟩ := list2 h; exact ⟨a, b, 0, rfl⟩
      · obtain ⟨a, b, c, rfl⟩ := list3 h; exact ⟨a, b, c, rfl⟩
    rw [er] at hs
    have ht := h.tot
    have ho := over_pc (x + y + z) [x, y, z] (by simp only [rg]; omega) (by rw [← ep]; intro v hv; simp only [ep, List.mem_cons, List.not_mem_nil, or_false] at hv; rcases hv with rfl | rfl | rfl <;> assumption) (by simp)
    rw [← ep, overN_pad, hxyz] at ho
    rw [ep] at ho
    refine pc_fn hmix h15 rfl ?_
    simp -implicitDefEqProofs only [c15, push_cast, Nat.reduceBEq, Nat.reduceLT, Nat.reduceLeDiff, Nat.reduceAdd, Nat.reduceSub, Nat.reduceMul, Nat.reduceEqDiff, reduceCtorEq, ↓reduceIte, Int.reduceEq, Int.reduceLT, Int.reduceLE, Int.reduceNe, Int.reduceAdd, Int.reduceSub, Int.reduceMul, Int.reduceToNat, Nat.reduceShiftRight, Nat.reduceAnd, Nat.reduceBNe]
    refine callF hc ⟨rfl, trivial⟩ rfl rfl ?_
    simp -implicitDefEqProofs only [push_cast, Nat.reduceBEq, Nat.reduceLT, Nat.reduceLeDiff, Nat.reduceAdd, Nat.reduceSub, Nat.reduceMul, Nat.reduceEqDiff, reduceCtorEq, ↓reduceIte, Int.reduceEq, Int.reduceLT, Int.reduceLE, Int.reduceNe, Int.reduceAdd, Int.reduceSub, Int.reduceMul, Int.reduceToNat, Nat.reduceShiftRight, Nat.reduceAnd, Nat.reduceBNe]
    refine callF hs ⟨rfl, trivial⟩ rfl rfl ?_
    simp -implicitDefEqProofs only [push_cast, Nat.reduceBEq, Nat.reduceLT, Nat.reduceLeDiff, Nat.reduceAdd, Nat.reduceSub, Nat.reduceMul, Nat.reduceEqDiff, reduceCtorEq, ↓reduceIte, Int.reduceEq, Int.reduceLT, Int.reduceLE, Int.reduceNe, Int.reduceAdd, Int.reduceSub, Int.reduceMul, Int.reduceToNat, Nat.reduceShiftRight, Nat.reduceAnd, Nat.reduceBNe]
    simp only [rg] at hxy
    refine ⟨by simp only [inR]; omega, by simp only [inR]; omega, ?_⟩
    rw [hxyz]
    refine detB ho ⟨rfl, ⟨rfl, ⟨rfl, rfl⟩, ⟨rfl, rfl⟩, ⟨rfl, rfl⟩, trivial⟩, trivial⟩ rfl rfl ?_
    simp -implicitDefEqProofs only [push_cast, Nat.reduceBEq, Nat.reduceLT, Nat.reduceLeDiff, Nat.reduceAdd, Nat.reduceSub, Nat.reduceMul, Nat.reduceEqDiff, reduceCtorEq, ↓reduceIte, Int.reduceEq, Int.reduceLT, Int.reduceLE, Int.reduceNe, Int.reduceAdd, Int.reduceSub, Int.reduceMul, Int.reduceToNat, Nat.reduceShiftRight, Nat.reduceAnd, Nat.reduceBNe]
    exact finC rfl rfl

theorem refcols_pc {t : List (List Int)} (h : Tab t) (htr : Tab (trL t)) : PC Tryd.prog 19 [TT t] (IL (colsL t)) := by
  refine pc_fn hmix h19 rfl ?_
  simp -implicitDefEqProofs only [c19, push_cast, Nat.reduceBEq, Nat.reduceLT, Nat.reduceLeDiff, Nat.reduceAdd, Nat.reduceSub, Nat.reduceMul, Nat.reduceEqDiff, reduceCtorEq, ↓reduceIte, Int.reduceEq, Int.reduceLT, Int.reduceLE, Int.reduceNe, Int.reduceAdd, Int.reduceSub, Int.reduceMul, Int.reduceToNat, Nat.reduceShiftRight, Nat.reduceAnd, Nat.reduceBNe]
  refine callF (refturned_pc h) ⟨rfl, trivial⟩ rfl rfl ?_
  simp -implicitDefEqProofs only [push_cast, Nat.reduceBEq, Nat.reduceLT, Nat.reduceLeDiff, Nat.reduceAdd, Nat.reduceSub, Nat.reduceMul, Nat.reduceEqDiff, reduceCtorEq, ↓reduceIte, Int.reduceEq, Int.reduceLT, Int.reduceLE, Int.reduceNe, Int.reduceAdd, Int.reduceSub, Int.reduceMul, Int.reduceToNat, Nat.reduceShiftRight, Nat.reduceAnd, Nat.reduceBNe]
  refine callF (refrows_pc htr) ⟨rfl, trivial⟩ rfl rfl ?_
  simp -implicitDefEqProofs only [push_cast, Nat.reduceBEq, Nat.reduceLT, Nat.reduceLeDiff, Nat.reduceAdd, Nat.reduceSub, Nat.reduceMul, Nat.reduceEqDiff, reduceCtorEq, ↓reduceIte, Int.reduceEq, Int.reduceLT, Int.reduceLE, Int.reduceNe, Int.reduceAdd, Int.reduceSub, Int.reduceMul, Int.reduceToNat, Nat.reduceShiftRight, Nat.reduceAnd, Nat.reduceBNe]
  exact finC rfl rfl

theorem tab_tr {t : List (List Int)} (h : Tab t) : Tab (trL t) := by
  refine shapes (P := fun t => Tab (trL t)) h ?_ ?_ ?_ ?_
  all_goals
    intros
    rename_i h hh
    have ht := h.tot
    simp only [rg] at hh
    simp only [totL, List.map_cons, List.map_nil, sumL] at ht
    refine ⟨?_, ?_, ?_, ?_⟩
    · simp [trL, wid, List.range_succ]
    · simp [trL, wid, List.range_succ]
    · simp [trL, wid, List.range_succ, R20]; omega
    · simp [trL, wid, totL, sumL, List.range_succ]; omega

theorem reftotal_pc {t : List (List Int)} (h : Tab t) : PC Tryd.prog 21 [TT t] (I (totalN t)) := by
  obtain ⟨r1, r2, r3, r4, r5, r6⟩ := tab_rows h
  have hl := h.len
  have ht := h.tot
  have ho := refover_pc (totL t).toNat (colsL t) (by omega) r2 (by have := h.wid; omega)
  rw [show ((totL t).toNat : Int) = totL t by omega] at ho
  have hrows := refrows_pc h
  refine pc_fn hmix h21 rfl ?_
  simp -implicitDefEqProofs only [c21, push_cast, Nat.reduceBEq, Nat.reduceLT, Nat.reduceLeDiff, Nat.reduceAdd, Nat.reduceSub, Nat.reduceMul, Nat.reduceEqDiff, reduceCtorEq, ↓reduceIte, Int.reduceEq, Int.reduceLT, Int.reduceLE, Int.reduceNe, Int.reduceAdd, Int.reduceSub, Int.reduceMul, Int.reduceToNat, Nat.reduceShiftRight, Nat.reduceAnd, Nat.reduceBNe]
  refine callF hrows ⟨rfl, trivial⟩ rfl rfl ?_
  simp -implicitDefEqProofs only [push_cast, Nat.reduceBEq, Nat.reduceLT, Nat.reduceLeDiff, Nat.reduceAdd, Nat.reduceSub, Nat.reduceMul, Nat.reduceEqDiff, reduceCtorEq, ↓reduceIte, Int.reduceEq, Int.reduceLT, Int.reduceLE, Int.reduceNe, Int.reduceAdd, Int.reduceSub, Int.reduceMul, Int.reduceToNat, Nat.reduceShiftRight, Nat.reduceAnd, Nat.reduceBNe]
  refine loop_k (α := Nat) [5, 4, 3, 0] 0 (fun k => [(5, I k), (3, I (sumL ((rowsL t).take k)))]) (fun _ => []) (fun k => k ≤ (rowsL t).length) (fun k => (rowsL t).length - k) 0 rfl ⟨rfl, rfl, rfl⟩ rfl (by omega) ?_
  intro k hk
  simp -implicitDefEqProofs only [c21L0, push_cast, Nat.reduceBEq, Nat.reduceLT, Nat.reduceLeDiff, Nat.reduceAdd, Nat.reduceSub, Nat.reduceMul, Nat.reduceEqDiff, reduceCtorEq, ↓reduceIte, Int.reduceEq, Int.reduceLT, Int.reduceLE, Int.reduceNe, Int.reduceAdd, Int.reduceSub, Int.reduceMul, Int.reduceToNat, Nat.reduceShiftRight, Nat.reduceAnd, Nat.reduceBNe]
  refine ⟨fun hc => ⟨by omega, ?_⟩, fun hc => ?_⟩
  · have h9 := sumL_take (l := rowsL t) (k := k) (by omega)
    have h7 := sumL_rng _ (fun x hx => r1 x (List.mem_of_mem_take (i := k + 1) hx))
    have h8 : ((rowsL t).take (k + 1)).length ≤ 3 := by rw [List.length_take]; omega
    rw [h9] at h7
    refine ⟨by simp only [inR]; omega, by simp only [inR]; omega, k + 1, by omega, by omega, ?_⟩
    rw [← h9]
    exact wk_c rfl ⟨rfl, rfl, rfl⟩ rfl
  · have hke : k = (rowsL t).length := by omega
    subst hke
    rw [List.take_length, r3]
    refine callF (refcols_pc h (tab_tr h)) ⟨rfl, trivial⟩ rfl rfl ?_
    simp -implicitDefEqProofs only [push_cast, Nat.reduceBEq, Nat.reduceLT, Nat.reduceLeDiff, Nat.reduceAdd, Nat.reduceSub, Nat.reduceMul, Nat.reduceEqDiff, reduceCtorEq, ↓reduceIte, Int.reduceEq, Int.reduceLT, Int.reduceLE, Int.reduceNe, Int.reduceAdd, Int.reduceSub, Int.reduceMul, Int.reduceToNat, Nat.reduceShiftRight, Nat.reduceAnd, Nat.reduceBNe]
    refine callF ho ⟨rfl, rfl, trivial⟩ rfl rfl ?_
    simp -implicitDefEqProofs only [push_cast, Nat.reduceBEq, Nat.reduceLT, Nat.reduceLeDiff, Nat.reduceAdd, Nat.reduceSub, Nat.reduceMul, Nat.reduceEqDiff, reduceCtorEq, ↓reduceIte, Int.reduceEq, Int.reduceLT, Int.reduceLE, Int.reduceNe, Int.reduceAdd, Int.reduceSub, Int.reduceMul, Int.reduceToNat, Nat.reduceShiftRight, Nat.reduceAnd, Nat.reduceBNe]
    exact finC rfl rfl

theorem refways_pc {t : List (List Int)} (h : Tab t) : PC Tryd.prog 20 [TT t] (I (waysN t)) := by
  have hl := h.len
  have hwid := h.wid
  have hrow := h.row
  have hws := ways_small h
  have hov : ∀ r ∈ t, PC Tryd.prog 45 [I (sumL r), IL r] (I (overN (sumL r).toNat r)) := fun r hr => by
    have h1 := tab_rng h hr
    simp only [rg] at h1
    have := refover_pc (sumL r).toNat r (by omega) (hrow r hr).2 (by have := (hrow r hr).1; omega)
    rwa [show ((sumL r).toNat : Int) = sumL r by omega] at this
  have hos := fun (r : List Int) (hr : r ∈ t) => over_small h hr
  have hrows := refrows_pc h
  have : t.length = 2 ∨ t.length = 3 := by omega
  rcases this with h2 | h3
  · obtain ⟨r, s, rfl⟩ := list2 h2
    have e : IL (rowsL [r, s]) = IL [sumL r, sumL s] := rfl
    rw [e] at hrows
    simp only [waysN, Nat.mul_one] at hws ⊢
    refine pc_fn hmix h20 rfl ?_
    simp -implicitDefEqProofs only [c20, push_cast, Nat.reduceBEq, Nat.reduceLT, Nat.reduceLeDiff, Nat.reduceAdd, Nat.reduceSub, Nat.reduceMul, Nat.reduceEqDiff, reduceCtorEq, ↓reduceIte, Int.reduceEq, Int.reduceLT, Int.reduceLE, Int.reduceNe, Int.reduceAdd, Int.reduceSub, Int.reduceMul, Int.reduceToNat, Nat.reduceShiftRight, Nat.reduceAnd, Nat.reduceBNe]
    refine callF hrows ⟨rfl, trivial⟩ rfl rfl ?_
    simp -implicitDefEqProofs only [push_cast, Nat.reduceBEq, Nat.reduceLT, Nat.reduceLeDiff, Nat.reduceAdd, Nat.reduceSub, Nat.reduceMul, Nat.reduceEqDiff, reduceCtorEq, ↓reduceIte, Int.reduceEq, Int.reduceLT, Int.reduceLE, Int.reduceNe, Int.reduceAdd, Int.reduceSub, Int.reduceMul, Int.reduceToNat, Nat.reduceShiftRight, Nat.reduceAnd, Nat.reduceBNe]
    refine LoopW.unroll ?_
    simp -implicitDefEqProofs only [c20L0, List.getD_cons_zero, List.getD_cons_succ, push_cast, Nat.reduceBEq, Nat.reduceLT, Nat.reduceLeDiff, Nat.reduceAdd, Nat.reduceSub, Nat.reduceMul, Nat.reduceEqDiff, reduceCtorEq, ↓reduceIte, Int.reduceEq, Int.reduceLT, Int.reduceLE, Int.reduceNe, Int.reduceAdd, Int.reduceSub, Int.reduceMul, Int.reduceToNat, Nat.reduceShiftRight, Nat.reduceAnd, Nat.reduceBNe]
    refine detF (hov r (by simp)) ⟨rfl, rfl, trivial⟩ rfl rfl ?_
    have h5 := hos r (by simp)
    simp -implicitDefEqProofs only [Int.one_mul, push_cast, Nat.reduceBEq, Nat.reduceLT, Nat.reduceLeDiff, Nat.reduceAdd, Nat.reduceSub, Nat.reduceMul, Nat.reduceEqDiff, reduceCtorEq, ↓reduceIte, Int.reduceEq, Int.reduceLT, Int.reduceLE, Int.reduceNe, Int.reduceAdd, Int.reduceSub, Int.reduceMul, Int.reduceToNat, Nat.reduceShiftRight, Nat.reduceAnd, Nat.reduceBNe]
    refine ⟨by simp only [inR]; omega, by simp only [inR]; omega, LoopW.unroll ?_⟩
    simp -implicitDefEqProofs only [c20L0, List.getD_cons_zero, List.getD_cons_succ, push_cast, Nat.reduceBEq, Nat.reduceLT, Nat.reduceLeDiff, Nat.reduceAdd, Nat.reduceSub, Nat.reduceMul, Nat.reduceEqDiff, reduceCtorEq, ↓reduceIte, Int.reduceEq, Int.reduceLT, Int.reduceLE, Int.reduceNe, Int.reduceAdd, Int.reduceSub, Int.reduceMul, Int.reduceToNat, Nat.reduceShiftRight, Nat.reduceAnd, Nat.reduceBNe]
    refine detF (hov s (by simp)) ⟨rfl, rfl, trivial⟩ rfl rfl ?_
    simp -implicitDefEqProofs only [push_cast, Nat.reduceBEq, Nat.reduceLT, Nat.reduceLeDiff, Nat.reduceAdd, Nat.reduceSub, Nat.reduceMul, Nat.reduceEqDiff, reduceCtorEq, ↓reduceIte, Int.reduceEq, Int.reduceLT, Int.reduceLE, Int.reduceNe, Int.reduceAdd, Int.reduceSub, Int.reduceMul, Int.reduceToNat, Nat.reduceShiftRight, Nat.reduceAnd, Nat.reduceBNe]
    refine ⟨mul_rng hws, by simp only [inR]; omega, LoopW.unroll ?_⟩
    simp -implicitDefEqProofs only [c20L0, push_cast, Nat.reduceBEq, Nat.reduceLT, Nat.reduceLeDiff, Nat.reduceAdd, Nat.reduceSub, Nat.reduceMul, Nat.reduceEqDiff, reduceCtorEq, ↓reduceIte, Int.reduceEq, Int.reduceLT, Int.reduceLE, Int.reduceNe, Int.reduceAdd, Int.reduceSub, Int.reduceMul, Int.reduceToNat, Nat.reduceShiftRight, Nat.reduceAnd, Nat.reduceBNe]
    exact finC (by rw [← Int.natCast_mul]) rfl
  · obtain ⟨r, s, u, rfl⟩ := list3 h3
    have e : IL (rowsL [r, s, u]) = IL [sumL r, sumL s, sumL u] := rfl
    rw [e] at hrows
    simp only [waysN, Nat.mul_one] at hws ⊢
    have h6 := over_small2 h
    refine pc_fn hmix h20 rfl ?_
    simp -implicitDefEqProofs only [c20, push_cast, Nat.reduceBEq, Nat.reduceLT, Nat.reduceLeDiff, Nat.reduceAdd, Nat.reduceSub, Nat.reduceMul, Nat.reduceEqDiff, reduceCtorEq, ↓reduceIte, Int.reduceEq, Int.reduceLT, Int.reduceLE, Int.reduceNe, Int.reduceAdd, Int.reduceSub, Int.reduceMul, Int.reduceToNat, Nat.reduceShiftRight, Nat.reduceAnd, Nat.reduceBNe]
    refine callF hrows ⟨rfl, trivial⟩ rfl rfl ?_
    simp -implicitDefEqProofs only [push_cast, Nat.reduceBEq, Nat.reduceLT, Nat.reduceLeDiff, Nat.reduceAdd, Nat.reduceSub, Nat.reduceMul, Nat.reduceEqDiff, reduceCtorEq, ↓reduceIte, Int.reduceEq, Int.reduceLT, Int.reduceLE, Int.reduceNe, Int.reduceAdd, Int.reduceSub, Int.reduceMul, Int.reduceToNat, Nat.reduceShiftRight, Nat.reduceAnd, Nat.reduceBNe]
    refine LoopW.unroll ?_
    simp -implicitDefEqProofs only [c20L0, List.getD_cons_zero, List.getD_cons_succ, push_cast, Nat.reduceBEq, Nat.reduceLT, Nat.reduceLeDiff, Nat.reduceAdd, Nat.reduceSub, Nat.reduceMul, Nat.reduceEqDiff, reduceCtorEq, ↓reduceIte, Int.reduceEq, Int.reduceLT, Int.reduceLE, Int.reduceNe, Int.reduceAdd, Int.reduceSub, Int.reduceMul, Int.reduceToNat, Nat.reduceShiftRight, Nat.reduceAnd, Nat.reduceBNe]
    refine detF (hov r (by simp)) ⟨rfl, rfl, trivial⟩ rfl rfl ?_
    have h5 := hos r (by simp)
    simp -implicitDefEqProofs only [Int.one_mul, push_cast, Nat.reduceBEq, Nat.reduceLT, Nat.reduceLeDiff, Nat.reduceAdd, Nat.reduceSub, Nat.reduceMul, Nat.reduceEqDiff, reduceCtorEq, ↓reduceIte, Int.reduceEq, Int.reduceLT, Int.reduceLE, Int.reduceNe, Int.reduceAdd, Int.reduceSub, Int.reduceMul, Int.reduceToNat, Nat.reduceShiftRight, Nat.reduceAnd, Nat.reduceBNe]
    refine ⟨by simp only [inR]; omega, by simp only [inR]; omega, LoopW.unroll ?_⟩
    simp -implicitDefEqProofs only [c20L0, List.getD_cons_zero, List.getD_cons_succ, push_cast, Nat.reduceBEq, Nat.reduceLT, Nat.reduceLeDiff, Nat.reduceAdd, Nat.reduceSub, Nat.reduceMul, Nat.reduceEqDiff, reduceCtorEq, ↓reduceIte, Int.reduceEq, Int.reduceLT, Int.reduceLE, Int.reduceNe, Int.reduceAdd, Int.reduceSub, Int.reduceMul, Int.reduceToNat, Nat.reduceShiftRight, Nat.reduceAnd, Nat.reduceBNe]
    refine detF (hov s (by simp)) ⟨rfl, rfl, trivial⟩ rfl rfl ?_
    simp -implicitDefEqProofs only [push_cast, Nat.reduceBEq, Nat.reduceLT, Nat.reduceLeDiff, Nat.reduceAdd, Nat.reduceSub, Nat.reduceMul, Nat.reduceEqDiff, reduceCtorEq, ↓reduceIte, Int.reduceEq, Int.reduceLT, Int.reduceLE, Int.reduceNe, Int.reduceAdd, Int.reduceSub, Int.reduceMul, Int.reduceToNat, Nat.reduceShiftRight, Nat.reduceAnd, Nat.reduceBNe]
    refine ⟨mul_rng h6, by simp only [inR]; omega, LoopW.unroll ?_⟩
    simp -implicitDefEqProofs only [c20L0, List.getD_cons_zero, List.getD_cons_succ, push_cast, Nat.reduceBEq, Nat.reduceLT, Nat.reduceLeDiff, Nat.reduceAdd, Nat.reduceSub, Nat.reduceMul, Nat.reduceEqDiff, reduceCtorEq, ↓reduceIte, Int.reduceEq, Int.reduceLT, Int.reduceLE, Int.reduceNe, Int.reduceAdd, Int.reduceSub, Int.reduceMul, Int.reduceToNat, Nat.reduceShiftRight, Nat.reduceAnd, Nat.reduceBNe]
    refine detF (hov u (by simp)) ⟨rfl, rfl, trivial⟩ rfl rfl ?_
    simp -implicitDefEqProofs only [push_cast, Nat.reduceBEq, Nat.reduceLT, Nat.reduceLeDiff, Nat.reduceAdd, Nat.reduceSub, Nat.reduceMul, Nat.reduceEqDiff, reduceCtorEq, ↓reduceIte, Int.reduceEq, Int.reduceLT, Int.reduceLE, Int.reduceNe, Int.reduceAdd, Int.reduceSub, Int.reduceMul, Int.reduceToNat, Nat.reduceShiftRight, Nat.reduceAnd, Nat.reduceBNe]
    rw [← Nat.mul_assoc] at hws
    refine ⟨by rw [← Int.natCast_mul]; exact mul_rng hws, by simp only [inR]; omega, LoopW.unroll ?_⟩
    simp -implicitDefEqProofs only [c20L0, push_cast, Nat.reduceBEq, Nat.reduceLT, Nat.reduceLeDiff, Nat.reduceAdd, Nat.reduceSub, Nat.reduceMul, Nat.reduceEqDiff, reduceCtorEq, ↓reduceIte, Int.reduceEq, Int.reduceLT, Int.reduceLE, Int.reduceNe, Int.reduceAdd, Int.reduceSub, Int.reduceMul, Int.reduceToNat, Nat.reduceShiftRight, Nat.reduceAnd, Nat.reduceBNe]
    exact finC (by simp only [Int.natCast_mul, Int.mul_assoc]) rfl
end Go.Proofs.YtligakiolapkkaaDoor

namespace Go.Proofs.YtligakiolapkkaaDoor
open Go GoV
set_option maxHeartbeats 2000000
abbrev TQ (n d : Int) : AV := .tup [.agg [I n, I d], I 0]

def chunk (w : Nat) : Nat → List Int → List (List Int)
  | 0, _ => []
  | n + 1, l => match Nat.ble w l.length with
    | true => l.take w :: chunk w n (l.drop w)
    | false => []

theorem chunk_fuel {w : Nat} (hw : 1 ≤ w) : ∀ (n m : Nat) (l : List Int), l.length ≤ n → l.length ≤ m → chunk w n l = chunk w m l := by
  intro n
  induction n with
  | zero =>
    intro m l hn hm
    cases m with
    | zero => rfl
    | succ m =>
      have h0 : Nat.ble w l.length = false := by rw [Bool.eq_false_iff]; simp only [ne_eq, Nat.ble_eq]; omega
      rw [chunk, chunk, h0]
  | succ n ih =>
    intro m l hn hm
    by_cases h : w ≤ l.length
    · cases m with
      | zero => omega
      | succ m =>
        have h0 : Nat.ble w l.length = true := by simp only [Nat.ble_eq]; exact h
        rw [chunk, chunk, h0]
        show _ :: _ = _ :: _
        rw [ih m (l.drop w) (by rw [List.length_drop]; omega) (by rw [List.length_drop]; omega)]
    · have h0 : Nat.ble w l.length = false := by rw [Bool.eq_false_iff]; simp only [ne_eq, Nat.ble_eq]; omega
      cases m with
      | zero => rw [chunk, chunk, h0]
      | succ m => rw [chunk, chunk, h0]

theorem chunk_len {w : Nat} (hw : 1 ≤ w) : ∀ (n : Nat) (l : List Int), (chunk w n l).length ≤ l.length := by
  intro n
  induction n with
  | zero => intro l; simp [chunk]
  | succ n ih =>
    intro l
    cases h : Nat.ble w l.length with
    | false => rw [chunk, h]; simp
    | true =>
      rw [chunk, h]
      have h1 : w ≤ l.length := Nat.le_of_ble_eq_true h
      have := ih (l.drop w)
      rw [List.length_drop] at this
      simp only [List.length_cons]
      omega

theorem table_pc (w : Nat) (l : List Int) (hw : 1 ≤ w) (hl : (l.length + 1) * 24 < two47) : PC Tryd.prog 35 [I w, IL l] (TT (chunk w l.length l)) := by
  refine pc_fn hmix h35 rfl ?_
  simp -implicitDefEqProofs only [c35, push_cast, Nat.reduceBEq, Nat.reduceLT, Nat.reduceLeDiff, Nat.reduceAdd, Nat.reduceSub, Nat.reduceMul, Nat.reduceEqDiff, reduceCtorEq, ↓reduceIte, Int.reduceEq, Int.reduceLT, Int.reduceLE, Int.reduceNe, Int.reduceAdd, Int.reduceSub, Int.reduceMul, Int.reduceToNat, Nat.reduceShiftRight, Nat.reduceAnd, Nat.reduceBNe]
  refine loop_w (α := List (List Int) × List Int) (fun a => ⟨[(5, .slc 0 a.1.length 0 a.1.length), (1, IL a.2), (0, I w)], [.lst (.list (.int .i64)) a.1], []⟩) (fun a => a.2.length ≤ l.length ∧ a.1 ++ chunk w a.2.length a.2 = chunk w l.length l) (fun a => a.2.length) ([], l) ((wk_cut [5, 1, 0] 0 rfl ⟨rfl, rfl, rfl⟩ rfl).trans (wk_own 5 (.list (.int .i64)) rfl)) ⟨Nat.le_refl _, rfl⟩ ?_
  rintro ⟨acc, r⟩ ⟨hr, he⟩
  simp only at hr he
  simp -implicitDefEqProofs only [c35L0, push_cast, Nat.reduceBEq, Nat.reduceLT, Nat.reduceLeDiff, Nat.reduceAdd, Nat.reduceSub, Nat.reduceMul, Nat.reduceEqDiff, reduceCtorEq, ↓reduceIte, Int.reduceEq, Int.reduceLT, Int.reduceLE, Int.reduceNe, Int.reduceAdd, Int.reduceSub, Int.reduceMul, Int.reduceToNat, Nat.reduceShiftRight, Nat.reduceAnd, Nat.reduceBNe]
  constructor
  · intro h
    have h : w ≤ r.length := by omega
    have h0 : Nat.ble w r.length = true := by simp only [Nat.ble_eq]; exact h
    have hacc : acc.length ≤ l.length := by
      have := congrArg List.length he
      rw [List.length_append] at this
      have h2 := chunk_len hw l.length l
      omega
    have hr1 : r.length = (r.length - 1) + 1 := by omega
    refine ⟨by omega, ⟨by omega, by omega⟩, ⟨by simp only [two47] at *; omega, by omega⟩, by omega, ⟨by omega, by omega⟩, (acc ++ [subL r 0 w], subL r w (r.length - w)), ⟨?_, ?_⟩, ?_, wk_c rfl ⟨rfl, rfl, rfl⟩ rfl⟩
    · simp only [subL, List.length_take, List.length_drop]; omega
    · rw [hr1, chunk, h0] at he
      rw [← he]
      simp only [subL, List.drop_zero, List.length_take, List.length_drop, List.append_assoc, List.singleton_append]
      rw [List.take_of_length_le (l := List.drop w r) (by rw [List.length_drop]; exact Nat.le_refl _), Nat.min_self]
      rw [chunk_fuel hw (r.length - w) (r.length - 1) _ (by rw [List.length_drop]; exact Nat.le_refl _) (by rw [List.length_drop]; omega)]
    · simp only [subL, List.length_take, List.length_drop]; omega
  · intro h
    have h0 : chunk w r.length r = [] := by
      cases hn : r.length with
      | zero => rfl
      | succ n =>
        have h1 : Nat.ble w r.length = false := by rw [Bool.eq_false_iff]; simp only [ne_eq, Nat.ble_eq]; omega
        rw [chunk, h1]
    rw [h0, List.append_nil] at he
    subst he
    exact finR 1 rfl (fz_lst rfl rfl)
def orcT (o : Orc) : Orc := fun f args h =>
  match Nat.beq 35 f with
  | false => o f args h
  | true => match args with
    | [.dat (.int .i64) (.ofNat (n + 1)), .dat (.list (.int .i64)) l] => match Nat.ble l.length 1000 with
      | true => fDen (.list (.list (.int .i64))) (chunk (n + 1) l.length l) fun x => some (TT x, h)
      | false => o f args h
    | _ => o f args h
theorem orcT_ok {o : Orc} (ho : OrcOK Tryd.prog o) : OrcOK Tryd.prog (orcT o) := by
  intro f args h r e
  unfold orcT at e
  split at e
  · exact ho f args h r e
  · rename_i hf
    split at e
    · split at e
      · rename_i hl
        rw [fDen_eq] at e
        cases e
        rw [← Nat.eq_of_beq_eq_true hf]
        refine pc_frame (table_pc _ _ (Nat.succ_le_succ (Nat.zero_le _)) ?_) rfl (rdL_refl _ rfl) rfl
        have := Nat.le_of_ble_eq_true hl
        simp only [two47]
        omega
      · exact ho _ _ h r e
    · exact ho f _ h r e
end Go.Proofs.YtligakiolapkkaaDoor

namespace Go.Proofs.YtligakiolapkkaaDoor
open Go GoV
set_option maxRecDepth 1000000
theorem wAll : PC Tryd.prog 23 [TT [[3,1],[1,3]]] (.tup [.dat (.list (.list (.list (.int .i64)))) [[[0,4],[4,0]],[[1,3],[3,1]],[[2,2],[2,2]],[[3,1],[1,3]],[[4,0],[0,4]]], I 0]) := pc_run hmix orcNone_ok 400 (by kernel_rfl)
end Go.Proofs.YtligakiolapkkaaDoor

namespace Go.Proofs.YtligakiolapkkaaDoor
open Go GoV
set_option maxRecDepth 1000000
theorem wTa : PC Tryd.prog 27 [TT [[3,1],[1,3]]] (TQ 17 35) := pc_run hmix orcNone_ok 400 (by kernel_rfl)
end Go.Proofs.YtligakiolapkkaaDoor

namespace Go.Proofs.YtligakiolapkkaaDoor
open Go GoV
set_option maxRecDepth 1000000
theorem wTb : PC Tryd.prog 27 [TT [[4,0],[0,4]]] (TQ 1 35) := pc_run hmix orcNone_ok 400 (by kernel_rfl)
end Go.Proofs.YtligakiolapkkaaDoor

namespace Go.Proofs.YtligakiolapkkaaDoor
open Go GoV
set_option maxRecDepth 1000000
theorem wTc : PC Tryd.prog 27 [TT [[2,2],[2,2]]] (TQ 1 1) := pc_run hmix orcNone_ok 400 (by kernel_rfl)
end Go.Proofs.YtligakiolapkkaaDoor

namespace Go.Proofs.YtligakiolapkkaaDoor
open Go GoV
set_option maxRecDepth 1000000
theorem wTd : PC Tryd.prog 27 [TT [[2,0,1],[0,3,0]]] (TQ 1 10) := pc_run hmix orcNone_ok 400 (by kernel_rfl)
end Go.Proofs.YtligakiolapkkaaDoor

namespace Go.Proofs.YtligakiolapkkaaDoor
open Go GoV
def orcW : Orc :=
  orc1 23 [TT [[3,1],[1,3]]] (.tup [.dat (.list (.list (.list (.int .i64)))) [[[0,4],[4,0]],[[1,3],[3,1]],[[2,2],[2,2]],[[3,1],[1,3]],[[4,0],[0,4]]], I 0]) <|
  orc1 27 [TT [[3,1],[1,3]]] (TQ 17 35) <| orc1 27 [TT [[4,0],[0,4]]] (TQ 1 35) <| orc1 27 [TT [[2,2],[2,2]]] (TQ 1 1) <| orc1 27 [TT [[2,0,1],[0,3,0]]] (TQ 1 10) <| orcT orcNone
theorem orcW_ok : OrcOK Tryd.prog orcW :=
  orc1_ok (orc1_ok (orc1_ok (orc1_ok (orc1_ok (orcT_ok orcNone_ok) wTd rfl rfl) wTc rfl rfl) wTb rfl rfl) wTa rfl rfl) wAll rfl rfl
set_option maxRecDepth 1000000 in
theorem works_pc : PC Tryd.prog 22 [] (.dat .bool true) := pc_run hmix orcW_ok 400 (by kernel_rfl)
end Go.Proofs.YtligakiolapkkaaDoor

namespace Go.Proofs.YtligakiolapkkaaDoor
open Go GoV
set_option maxHeartbeats 16000000
set_option maxRecDepth 10000
abbrev DT : Ty := .pair (.int .u8) (.pair (.int .u8) (.pair (.arr 9 (.int .u8)) (.pair (.int .u8) .unit)))
abbrev DD (a b : Int) (ns : List Int) (m : Int) : AV := .dat DT (a, b, ns, m, ())
abbrev r8 (x : Int) : Prop := 0 ≤ x ∧ x ≤ 255
abbrev okD (a b m n0 n1 n2 n3 n4 n5 n6 n7 n8 : Int) : Prop := (r8 a ∧ r8 b ∧ r8 m ∧ r8 n0 ∧ r8 n1 ∧ r8 n2 ∧ r8 n3 ∧ r8 n4 ∧ r8 n5 ∧ r8 n6 ∧ r8 n7 ∧ r8 n8) ∧ 0 ≤ m.tmod 10 ∧ m.tmod 10 ≤ 9
theorem tmod8 {n d : Int} (h : r8 n) : r8 (n.tmod d) := by
  have h1 := Int.tmod_nonneg d h.1
  have h2 : n.tmod d ≤ n := by
    have : (n.tmod d).natAbs ≤ n.natAbs := by rw [Int.natAbs_tmod]; exact Nat.mod_le _ _
    omega
  exact ⟨h1, by have := h.2; omega⟩
end Go.Proofs.YtligakiolapkkaaDoor

namespace Go.Proofs.YtligakiolapkkaaDoor
open Go GoV
set_option maxHeartbeats 16000000
set_option maxRecDepth 10000
theorem mk22 {x0 x1 x2 x3 : Int} (h : 0 ≤ x0 ∧ 0 ≤ x1 ∧ 0 ≤ x2 ∧ 0 ≤ x3) (ht : 1 ≤ x0 + x1 + x2 + x3 ∧ x0 + x1 + x2 + x3 ≤ 20) : Tab [[x0, x1], [x2, x3]] := by
  refine ⟨⟨by simp, by simp⟩, ⟨by simp [wid], by simp [wid]⟩, ?_, ?_⟩
  · intro r hr
    simp only [List.mem_cons, List.not_mem_nil, or_false] at hr
    rcases hr with rfl | rfl <;> refine ⟨rfl, fun x hx => ?_⟩ <;> simp only [List.mem_cons, List.not_mem_nil, or_false] at hx <;> omega
  · simp only [totL, sumL, List.map_cons, List.map_nil]
    omega

theorem draft22 {a b m n0 n1 n2 n3 n4 n5 n6 n7 n8 : Int} (hr : okD a b m n0 n1 n2 n3 n4 n5 n6 n7 n8) (ha : a.tmod 2 = 0) (hb : b.tmod 2 = 0) :
    ∃ t, Tab t ∧ t.length = 2 ∧ wid t = 2 ∧ PC Tryd.prog 10 [DD a b [n0, n1, n2, n3, n4, n5, n6, n7, n8] m] (TT t) := by
  obtain ⟨hr, hm⟩ := hr
  obtain ⟨d, hd⟩ : ∃ d, 2 + m.tmod 10 = d := ⟨_, rfl⟩
  obtain ⟨y0, e0⟩ : ∃ y, n0.tmod d = y := ⟨_, rfl⟩
  have hy0 : r8 y0 := by rw [← e0]; exact tmod8 (by simp only [r8] at hr ⊢; omega)
  obtain ⟨x0, g0⟩ : ∃ x, min y0 (20) = x := ⟨_, rfl⟩
  have hx0 : 0 ≤ x0 ∧ x0 ≤ 20 := by simp only [r8] at hy0; omega
  obtain ⟨y1, e1⟩ : ∃ y, n1.tmod d = y := ⟨_, rfl⟩
  have hy1 : r8 y1 := by rw [← e1]; exact tmod8 (by simp only [r8] at hr ⊢; omega)
  obtain ⟨x1, g1⟩ : ∃ x, min y1 (20 - x0) = x := ⟨_, rfl⟩
  have hx1 : 0 ≤ x1 ∧ x1 ≤ 20 - x0 := by simp only [r8] at hy1; clear g0; omega
  obtain ⟨y2, e2⟩ : ∃ y, n3.tmod d = y := ⟨_, rfl⟩
  have hy2 : r8 y2 := by rw [← e2]; exact tmod8 (by simp only [r8] at hr ⊢; omega)
  obtain ⟨x2, g2⟩ : ∃ x, min y2 (20 - x0 - x1) = x := ⟨_, rfl⟩
  have hx2 : 0 ≤ x2 ∧ x2 ≤ 20 - x0 - x1 := by simp only [r8] at hy2; clear g0 g1; omega
  obtain ⟨y3, e3⟩ : ∃ y, n4.tmod d = y := ⟨_, rfl⟩
  have hy3 : r8 y3 := by rw [← e3]; exact tmod8 (by simp only [r8] at hr ⊢; omega)
  obtain ⟨x3, g3⟩ : ∃ x, min y3 (20 - x0 - x1 - x2) = x := ⟨_, rfl⟩
  have hx3 : 0 ≤ x3 ∧ x3 ≤ 20 - x0 - x1 - x2 := by simp only [r8] at hy3; clear g0 g1 g2; omega
  simp only [r8] at hr hy0 hy1 hy2 hy3
  refine ⟨if 20 - x0 - x1 - x2 - x3 = 20 then [[1, x1], [x2, x3]] else [[x0, x1], [x2, x3]], ?_, ?_, ?_, ?_⟩
  · split
    · exact mk22 (by clear g0 g1 g2 g3; omega) (by clear g0 g1 g2 g3; omega)
    · exact mk22 (by clear g0 g1 g2 g3; omega) (by clear g0 g1 g2 g3; omega)
  · split <;> rfl
  · split <;> rfl
  refine pc_fn hmix h10 rfl ?_
  simp -implicitDefEqProofs only [c10, hd, ha, hb, mapN, List.headD_cons, List.tail_cons, push_cast, Nat.reduceBEq, Nat.reduceLT, Nat.reduceLeDiff, Nat.reduceAdd, Nat.reduceSub, Nat.reduceMul, Nat.reduceEqDiff, reduceCtorEq, ↓reduceIte, Int.reduceEq, Int.reduceLT, Int.reduceLE, Int.reduceNe, Int.reduceAdd, Int.reduceSub, Int.reduceMul, Int.reduceToNat, Nat.reduceShiftRight, Nat.reduceAnd, Nat.reduceBNe]
  refine ⟨by simp only [inR]; clear g0 g1 g2 g3; omega, by simp only [inR]; clear g0 g1 g2 g3; omega, by simp only [inR]; clear g0 g1 g2 g3; omega, by simp only [inR]; clear g0 g1 g2 g3; omega, ?_⟩
  repeat first
    | (refine LoopW.wk (wk_t [9, 8, 7, 6, 5, 4, 3, 1] rfl) (LoopW.unroll ?_); simp -implicitDefEqProofs only [hd, c10L0, c10L1, e0, e1, e2, e3, g0, g1, g2, g3, List.getD_cons_zero, List.getD_cons_succ, Int.zero_add, push_cast, Nat.reduceBEq, Nat.reduceLT, Nat.reduceLeDiff, Nat.reduceAdd, Nat.reduceSub, Nat.reduceMul, Nat.reduceEqDiff, reduceCtorEq, ↓reduceIte, Int.reduceEq, Int.reduceLT, Int.reduceLE, Int.reduceNe, Int.reduceAdd, Int.reduceSub, Int.reduceMul, Int.reduceToNat, Nat.reduceShiftRight, Nat.reduceAnd, Nat.reduceBNe])
    | (refine ⟨by first | (simp only [inR]; clear g0 g1 g2 g3; omega) | (simp only [two47]; clear g0 g1 g2 g3; omega) | (clear g0 g1 g2 g3; omega), ?_⟩)
  refine ⟨fun h => ?_, fun h => ?_⟩
  · rw [if_pos h]
    exact finR 11 rfl ⟨rfl, ⟨⟨rfl, Nat.le_refl _⟩, rfl⟩, ⟨⟨rfl, Nat.le_refl _⟩, rfl⟩, trivial⟩
  · rw [if_neg h]
    exact finR 11 rfl ⟨rfl, ⟨⟨rfl, Nat.le_refl _⟩, rfl⟩, ⟨⟨rfl, Nat.le_refl _⟩, rfl⟩, trivial⟩
end Go.Proofs.YtligakiolapkkaaDoor

namespace Go.Proofs.YtligakiolapkkaaDoor
open Go GoV
set_option maxHeartbeats 16000000
set_option maxRecDepth 10000
theorem mk23 {x0 x1 x2 x3 x4 x5 : Int} (h : 0 ≤ x0 ∧ 0 ≤ x1 ∧ 0 ≤ x2 ∧ 0 ≤ x3 ∧ 0 ≤ x4 ∧ 0 ≤ x5) (ht : 1 ≤ x0 + x1 + x2 + x3 + x4 + x5 ∧ x0 + x1 + x2 + x3 + x4 + x5 ≤ 20) : Tab [[x0, x1, x2], [x3, x4, x5]] := by
  refine ⟨⟨by simp, by simp⟩, ⟨by simp [wid], by simp [wid]⟩, ?_, ?_⟩
  · intro r hr
    simp only [List.mem_cons, List.not_mem_nil, or_false] at hr
    rcases hr with rfl | rfl <;> refine ⟨rfl, fun x hx => ?_⟩ <;> simp only [List.mem_cons, List.not_mem_nil, or_false] at hx <;> omega
  · simp only [totL, sumL, List.map_cons, List.map_nil]
    omega

theorem draft23 {a b m n0 n1 n2 n3 n4 n5 n6 n7 n8 : Int} (hr : okD a b m n0 n1 n2 n3 n4 n5 n6 n7 n8) (ha : a.tmod 2 = 0) (hb : b.tmod 2 = 1) :
    ∃ t, Tab t ∧ t.length = 2 ∧ wid t = 3 ∧ PC Tryd.prog 10 [DD a b [n0, n1, n2, n3, n4, n5, n6, n7, n8] m] (TT t) := by
  obtain ⟨hr, hm⟩ := hr
  obtain ⟨d, hd⟩ : ∃ d, 2 + m.tmod 10 = d := ⟨_, rfl⟩
  obtain ⟨y0, e0⟩ : ∃ y, n0.tmod d = y := ⟨_, rfl⟩
  have hy0 : r8 y0 := by rw [← e0]; exact tmod8 (by simp only [r8] at hr ⊢; omega)
  obtain ⟨x0, g0⟩ : ∃ x, min y0 (20) = x := ⟨_, rfl⟩
  have hx0 : 0 ≤ x0 ∧ x0 ≤ 20 := by simp only [r8] at hy0; omega
  obtain ⟨y1, e1⟩ : ∃ y, n1.tmod d = y := ⟨_, rfl⟩
  have hy1 : r8 y1 := by rw [← e1]; exact tmod8 (by simp only [r8] at hr ⊢; omega)
  obtain ⟨x1, g1⟩ : ∃ x, min y1 (20 - x0) = x := ⟨_, rfl⟩
  have hx1 : 0 ≤ x1 ∧ x1 ≤ 20 - x0 := by simp only [r8] at hy1; clear g0; omega
  obtain ⟨y2, e2⟩ : ∃ y, n2.tmod d = y := ⟨_, rfl⟩
  have hy2 : r8 y2 := by rw [← e2]; exact tmod8 (by simp only [r8] at hr ⊢; omega)
  obtain ⟨x2, g2⟩ : ∃ x, min y2 (20 - x0 - x1) = x := ⟨_, rfl⟩
  have hx2 : 0 ≤ x2 ∧ x2 ≤ 20 - x0 - x1 := by simp only [r8] at hy2; clear g0 g1; omega
  obtain ⟨y3, e3⟩ : ∃ y, n3.tmod d = y := ⟨_, rfl⟩
  have hy3 : r8 y3 := by rw [← e3]; exact tmod8 (by simp only [r8] at hr ⊢; omega)
  obtain ⟨x3, g3⟩ : ∃ x, min y3 (20 - x0 - x1 - x2) = x := ⟨_, rfl⟩
  have hx3 : 0 ≤ x3 ∧ x3 ≤ 20 - x0 - x1 - x2 := by simp only [r8] at hy3; clear g0 g1 g2; omega
  obtain ⟨y4, e4⟩ : ∃ y, n4.tmod d = y := ⟨_, rfl⟩
  have hy4 : r8 y4 := by rw [← e4]; exact tmod8 (by simp only [r8] at hr ⊢; omega)
  obtain ⟨x4, g4⟩ : ∃ x, min y4 (20 - x0 - x1 - x2 - x3) = x := ⟨_, rfl⟩
  have hx4 : 0 ≤ x4 ∧ x4 ≤ 20 - x0 - x1 - x2 - x3 := by simp only [r8] at hy4; clear g0 g1 g2 g3; omega
  obtain ⟨y5, e5⟩ : ∃ y, n5.tmod d = y := ⟨_, rfl⟩
  have hy5 : r8 y5 := by rw [← e5]; exact tmod8 (by simp only [r8] at hr ⊢; omega)
  obtain ⟨x5, g5⟩ : ∃ x, min y5 (20 - x0 - x1 - x2 - x3 - x4) = x := ⟨_, rfl⟩
  have hx5 : 0 ≤ x5 ∧ x5 ≤ 20 - x0 - x1 - x2 - x3 - x4 := by simp only [r8] at hy5; clear g0 g1 g2 g3 g4; omega
  simp only [r8] at hr hy0 hy1 hy2 hy3 hy4 hy5
  refine ⟨if 20 - x0 - x1 - x2 - x3 - x4 - x5 = 20 then [[1, x1, x2], [x3, x4, x5]] else [[x0, x1, x2], [x3, x4, x5]], ?_, ?_, ?_, ?_⟩
  · split
    · exact mk23 (by clear g0 g1 g2 g3 g4 g5; omega) (by clear g0 g1 g2 g3 g4 g5; omega)
    · exact mk23 (by clear g0 g1 g2 g3 g4 g5; omega) (by clear g0 g1 g2 g3 g4 g5; omega)
  · split <;> rfl
  · split <;> rfl
  refine pc_fn hmix h10 rfl ?_
  simp -implicitDefEqProofs only [c10, hd, ha, hb, mapN, List.headD_cons, List.tail_cons, push_cast, Nat.reduceBEq, Nat.reduceLT, Nat.reduceLeDiff, Nat.reduceAdd, Nat.reduceSub, Nat.reduceMul, Nat.reduceEqDiff, reduceCtorEq, ↓reduceIte, Int.reduceEq, Int.reduceLT, Int.reduceLE, Int.reduceNe, Int.reduceAdd, Int.reduceSub, Int.reduceMul, Int.reduceToNat, Nat.reduceShiftRight, Nat.reduceAnd, Nat.reduceBNe]
  refine ⟨by simp only [inR]; clear g0 g1 g2 g3 g4 g5; omega, by simp only [inR]; clear g0 g1 g2 g3 g4 g5; omega, by simp only [inR]; clear g0 g1 g2 g3 g4 g5; omega, by simp only [inR]; clear g0 g1 g2 g3 g4 g5; omega, ?_⟩
  repeat first
    | (refine LoopW.wk (wk_t [9, 8, 7, 6, 5, 4, 3, 1] rfl) (LoopW.unroll ?_); simp -implicitDefEqProofs only [hd, c10L0, c10L1, e0, e1, e2, e3, e4, e5, g0, g1, g2, g3, g4, g5, List.getD_cons_zero, List.getD_cons_succ, Int.zero_add, push_cast, Nat.reduceBEq, Nat.reduceLT, Nat.reduceLeDiff, Nat.reduceAdd, Nat.reduceSub, Nat.reduceMul, Nat.reduceEqDiff, reduceCtorEq, ↓reduceIte, Int.reduceEq, Int.reduceLT, Int.reduceLE, Int.reduceNe, Int.reduceAdd, Int.reduceSub, Int.reduceMul, Int.reduceToNat, Nat.reduceShiftRight, Nat.reduceAnd, Nat.reduceBNe])
    | (refine ⟨by first | (simp only [inR]; clear g0 g1 g2 g3 g4 g5; omega) | (simp only [two47]; clear g0 g1 g2 g3 g4 g5; omega) | (clear g0 g1 g2 g3 g4 g5; omega), ?_⟩)
  refine ⟨fun h => ?_, fun h => ?_⟩
  · rw [if_pos h]
    exact finR 13 rfl ⟨rfl, ⟨⟨rfl, Nat.le_refl _⟩, rfl⟩, ⟨⟨rfl, Nat.le_refl _⟩, rfl⟩, trivial⟩
  · rw [if_neg h]
    exact finR 13 rfl ⟨rfl, ⟨⟨rfl, Nat.le_refl _⟩, rfl⟩, ⟨⟨rfl, Nat.le_refl _⟩, rfl⟩, trivial⟩
end Go.Proofs.YtligakiolapkkaaDoor

namespace Go.Proofs.YtligakiolapkkaaDoor
open Go GoV
set_option maxHeartbeats 16000000
set_option maxRecDepth 10000
theorem mk32 {x0 x1 x2 x3 x4 x5 : Int} (h : 0 ≤ x0 ∧ 0 ≤ x1 ∧ 0 ≤ x2 ∧ 0 ≤ x3 ∧ 0 ≤ x4 ∧ 0 ≤ x5) (ht : 1 ≤ x0 + x1 + x2 + x3 + x4 + x5 ∧ x0 + x1 + x2 + x3 + x4 + x5 ≤ 20) : Tab [[x0, x1], [x2, x3], [x4, x5]] := by
  refine ⟨⟨by simp, by simp⟩, ⟨by simp [wid], by simp [wid]⟩, ?_, ?_⟩
  · intro r hr
    simp only [List.mem_cons, List.not_mem_nil, or_false] at hr
    rcases hr with rfl | rfl | rfl <;> refine ⟨rfl, fun x hx => ?_⟩ <;> simp only [List.mem_cons, List.not_mem_nil, or_false] at hx <;> omega
  · simp only [totL, sumL, List.map_cons, List.map_nil]
    omega

theorem draft32 {a b m n0 n1 n2 n3 n4 n5 n6 n7 n8 : Int} (hr : okD a b m n0 n1 n2 n3 n4 n5 n6 n7 n8) (ha : a.tmod 2 = 1) (hb : b.tmod 2 = 0) :
    ∃ t, Tab t ∧ t.length = 3 ∧ wid t = 2 ∧ PC Tryd.prog 10 [DD a b [n0, n1, n2, n3, n4, n5, n6, n7, n8] m] (TT t) := by
  obtain ⟨hr, hm⟩ := hr
  obtain ⟨d, hd⟩ : ∃ d, 2 + m.tmod 10 = d := ⟨_, rfl⟩
  obtain ⟨y0, e0⟩ : ∃ y, n0.tmod d = y := ⟨_, rfl⟩
  have hy0 : r8 y0 := by rw [← e0]; exact tmod8 (by simp only [r8] at hr ⊢; omega)
  obtain ⟨x0, g0⟩ : ∃ x, min y0 (20) = x := ⟨_, rfl⟩
  have hx0 : 0 ≤ x0 ∧ x0 ≤ 20 := by simp only [r8] at hy0; omega
  obtain ⟨y1, e1⟩ : ∃ y, n1.tmod d = y := ⟨_, rfl⟩
  have hy1 : r8 y1 := by rw [← e1]; exact tmod8 (by simp only [r8] at hr ⊢; omega)
  obtain ⟨x1, g1⟩ : ∃ x, min y1 (20 - x0) = x := ⟨_, rfl⟩
  have hx1 : 0 ≤ x1 ∧ x1 ≤ 20 - x0 := by simp only [r8] at hy1; clear g0; omega
  obtain ⟨y2, e2⟩ : ∃ y, n3.tmod d = y := ⟨_, rfl⟩
  have hy2 : r8 y2 := by rw [← e2]; exact tmod8 (by simp only [r8] at hr ⊢; omega)
  obtain ⟨x2, g2⟩ : ∃ x, min y2 (20 - x0 - x1) = x := ⟨_, rfl⟩
  have hx2 : 0 ≤ x2 ∧ x2 ≤ 20 - x0 - x1 := by simp only [r8] at hy2; clear g0 g1; omega
  obtain ⟨y3, e3⟩ : ∃ y, n4.tmod d = y := ⟨_, rfl⟩
  have hy3 : r8 y3 := by rw [← e3]; exact tmod8 (by simp only [r8] at hr ⊢; omega)
  obtain ⟨x3, g3⟩ : ∃ x, min y3 (20 - x0 - x1 - x2) = x := ⟨_, rfl⟩
  have hx3 : 0 ≤ x3 ∧ x3 ≤ 20 - x0 - x1 - x2 := by simp only [r8] at hy3; clear g0 g1 g2; omega
  obtain ⟨y4, e4⟩ : ∃ y, n6.tmod d = y := ⟨_, rfl⟩
  have hy4 : r8 y4 := by rw [← e4]; exact tmod8 (by simp only [r8] at hr ⊢; omega)
  obtain ⟨x4, g4⟩ : ∃ x, min y4 (20 - x0 - x1 - x2 - x3) = x := ⟨_, rfl⟩
  have hx4 : 0 ≤ x4 ∧ x4 ≤ 20 - x0 - x1 - x2 - x3 := by simp only [r8] at hy4; clear g0 g1 g2 g3; omega
  obtain ⟨y5, e5⟩ : ∃ y, n7.tmod d = y := ⟨_, rfl⟩
  have hy5 : r8 y5 := by rw [← e5]; exact tmod8 (by simp only [r8] at hr ⊢; omega)
  obtain ⟨x5, g5⟩ : ∃ x, min y5 (20 - x0 - x1 - x2 - x3 - x4) = x := ⟨_, rfl⟩
  have hx5 : 0 ≤ x5 ∧ x5 ≤ 20 - x0 - x1 - x2 - x3 - x4 := by simp only [r8] at hy5; clear g0 g1 g2 g3 g4; omega
  simp only [r8] at hr hy0 hy1 hy2 hy3 hy4 hy5
  refine ⟨if 20 - x0 - x1 - x2 - x3 - x4 - x5 = 20 then [[1, x1], [x2, x3], [x4, x5]] else [[x0, x1], [x2, x3], [x4, x5]], ?_, ?_, ?_, ?_⟩
  · split
    · exact mk32 (by clear g0 g1 g2 g3 g4 g5; omega) (by clear g0 g1 g2 g3 g4 g5; omega)
    · exact mk32 (by clear g0 g1 g2 g3 g4 g5; omega) (by clear g0 g1 g2 g3 g4 g5; omega)
  · split <;> rfl
  · split <;> rfl
  refine pc_fn hmix h10 rfl ?_
  simp -implicitDefEqProofs only [c10, hd, ha, hb, mapN, List.headD_cons, List.tail_cons, push_cast, Nat.reduceBEq, Nat.reduceLT, Nat.reduceLeDiff, Nat.reduceAdd, Nat.reduceSub, Nat.reduceMul, Nat.reduceEqDiff, reduceCtorEq, ↓reduceIte, Int.reduceEq, Int.reduceLT, Int.reduceLE, Int.reduceNe, Int.reduceAdd, Int.reduceSub, Int.reduceMul, Int.reduceToNat, Nat.reduceShiftRight, Nat.reduceAnd, Nat.reduceBNe]
  refine ⟨by simp only [inR]; clear g0 g1 g2 g3 g4 g5; omega, by simp only [inR]; clear g0 g1 g2 g3 g4 g5; omega, by simp only [inR]; clear g0 g1 g2 g3 g4 g5; omega, by simp only [inR]; clear g0 g1 g2 g3 g4 g5; omega, ?_⟩
  repeat first
    | (refine LoopW.wk (wk_t [9, 8, 7, 6, 5, 4, 3, 1] rfl) (LoopW.unroll ?_); simp -implicitDefEqProofs only [hd, c10L0, c10L1, e0, e1, e2, e3, e4, e5, g0, g1, g2, g3, g4, g5, List.getD_cons_zero, List.getD_cons_succ, Int.zero_add, push_cast, Nat.reduceBEq, Nat.reduceLT, Nat.reduceLeDiff, Nat.reduceAdd, Nat.reduceSub, Nat.reduceMul, Nat.reduceEqDiff, reduceCtorEq, ↓reduceIte, Int.reduceEq, Int.reduceLT, Int.reduceLE, Int.reduceNe, Int.reduceAdd, Int.reduceSub, Int.reduceMul, Int.reduceToNat, Nat.reduceShiftRight, Nat.reduceAnd, Nat.reduceBNe])
    | (refine ⟨by first | (simp only [inR]; clear g0 g1 g2 g3 g4 g5; omega) | (simp only [two47]; clear g0 g1 g2 g3 g4 g5; omega) | (clear g0 g1 g2 g3 g4 g5; omega), ?_⟩)
  refine ⟨fun h => ?_, fun h => ?_⟩
  · rw [if_pos h]
    exact finR 16 rfl ⟨rfl, ⟨⟨rfl, Nat.le_refl _⟩, rfl⟩, ⟨⟨rfl, Nat.le_refl _⟩, rfl⟩, ⟨⟨rfl, Nat.le_refl _⟩, rfl⟩, trivial⟩
  · rw [if_neg h]
    exact finR 16 rfl ⟨rfl, ⟨⟨rfl, Nat.le_refl _⟩, rfl⟩, ⟨⟨rfl, Nat.le_refl _⟩, rfl⟩, ⟨⟨rfl, Nat.le_refl _⟩, rfl⟩, trivial⟩
end Go.Proofs.YtligakiolapkkaaDoor

namespace Go.Proofs.YtligakiolapkkaaDoor
open Go GoV
set_option maxHeartbeats 16000000
set_option maxRecDepth 10000
theorem mk33 {x0 x1 x2 x3 x4 x5 x6 x7 x8 : Int} (h : 0 ≤ x0 ∧ 0 ≤ x1 ∧ 0 ≤ x2 ∧ 0 ≤ x3 ∧ 0 ≤ x4 ∧ 0 ≤ x5 ∧ 0 ≤ x6 ∧ 0 ≤ x7 ∧ 0 ≤ x8) (ht : 1 ≤ x0 + x1 + x2 + x3 + x4 + x5 + x6 + x7 + x8 ∧ x0 + x1 + x2 + x3 + x4 + x5 + x6 + x7 + x8 ≤ 20) : Tab [[x0, x1, x2], [x3, x4, x5], [x6, x7, x8]] := by
  refine ⟨⟨by simp, by simp⟩, ⟨by simp [wid], by simp [wid]⟩, ?_, ?_⟩
  · intro r hr
    simp only [List.mem_cons, List.not_mem_nil, or_false] at hr
    rcases hr with rfl | rfl | rfl <;> refine ⟨rfl, fun x hx => ?_⟩ <;> simp only [List.mem_cons, List.not_mem_nil, or_false] at hx <;> omega
  · simp only [totL, sumL, List.map_cons, List.map_nil]
    omega

theorem draft33 {a b m n0 n1 n2 n3 n4 n5 n6 n7 n8 : Int} (hr : okD a b m n0 n1 n2 n3 n4 n5 n6 n7 n8) (ha : a.tmod 2 = 1) (hb : b.tmod 2 = 1) :
    ∃ t, Tab t ∧ t.length = 3 ∧ wid t = 3 ∧ PC Tryd.prog 10 [DD a b [n0, n1, n2, n3, n4, n5, n6, n7, n8] m] (TT t) := by
  obtain ⟨hr, hm⟩ := hr
  obtain ⟨d, hd⟩ : ∃ d, 2 + m.tmod 10 = d := ⟨_, rfl⟩
  obtain ⟨y0, e0⟩ : ∃ y, n0.tmod d = y := ⟨_, rfl⟩
  have hy0 : r8 y0 := by rw [← e0]; exact tmod8 (by simp only [r8] at hr ⊢; omega)
  obtain ⟨x0, g0⟩ : ∃ x, min y0 (20) = x := ⟨_, rfl⟩
  have hx0 : 0 ≤ x0 ∧ x0 ≤ 20 := by simp only [r8] at hy0; omega
  obtain ⟨y1, e1⟩ : ∃ y, n1.tmod d = y := ⟨_, rfl⟩
  have hy1 : r8 y1 := by rw [← e1]; exact tmod8 (by simp only [r8] at hr ⊢; omega)
  obtain ⟨x1, g1⟩ : ∃ x, min y1 (20 - x0) = x := ⟨_, rfl⟩
  have hx1 : 0 ≤ x1 ∧ x1 ≤ 20 - x0 := by simp only [r8] at hy1; clear g0; omega
  obtain ⟨y2, e2⟩ : ∃ y, n2.tmod d = y := ⟨_, rfl⟩
  have hy2 : r8 y2 := by rw [← e2]; exact tmod8 (by simp only [r8] at hr ⊢; omega)
  obtain ⟨x2, g2⟩ : ∃ x, min y2 (20 - x0 - x1) = x := ⟨_, rfl⟩
  have hx2 : 0 ≤ x2 ∧ x2 ≤ 20 - x0 - x1 := by simp only [r8] at hy2; clear g0 g1; omega
  obtain ⟨y3, e3⟩ : ∃ y, n3.tmod d = y := ⟨_, rfl⟩
  have hy3 : r8 y3 := by rw [← e3]; exact tmod8 (by simp only [r8] at hr ⊢; omega)
  obtain ⟨x3, g3⟩ : ∃ x, min y3 (20 - x0 - x1 - x2) = x := ⟨_, rfl⟩
  have hx3 : 0 ≤ x3 ∧ x3 ≤ 20 - x0 - x1 - x2 := by simp only [r8] at hy3; clear g0 g1 g2; omega
  obtain ⟨y4, e4⟩ : ∃ y, n4.tmod d = y := ⟨_, rfl⟩
  have hy4 : r8 y4 := by rw [← e4]; exact tmod8 (by simp only [r8] at hr ⊢; omega)
  obtain ⟨x4, g4⟩ : ∃ x, min y4 (20 - x0 - x1 - x2 - x3) = x := ⟨_, rfl⟩
  have hx4 : 0 ≤ x4 ∧ x4 ≤ 20 - x0 - x1 - x2 - x3 := by simp only [r8] at hy4; clear g0 g1 g2 g3; omega
  obtain ⟨y5, e5⟩ : ∃ y, n5.tmod d = y := ⟨_, rfl⟩
  have hy5 : r8 y5 := by rw [← e5]; exact tmod8 (by simp only [r8] at hr ⊢; omega)
  obtain ⟨x5, g5⟩ : ∃ x, min y5 (20 - x0 - x1 - x2 - x3 - x4) = x := ⟨_, rfl⟩
  have hx5 : 0 ≤ x5 ∧ x5 ≤ 20 - x0 - x1 - x2 - x3 - x4 := by simp only [r8] at hy5; clear g0 g1 g2 g3 g4; omega
  obtain ⟨y6, e6⟩ : ∃ y, n6.tmod d = y := ⟨_, rfl⟩
  have hy6 : r8 y6 := by rw [← e6]; exact tmod8 (by simp only [r8] at hr ⊢; omega)
  obtain ⟨x6, g6⟩ : ∃ x, min y6 (20 - x0 - x1 - x2 - x3 - x4 - x5) = x := ⟨_, rfl⟩
  have hx6 : 0 ≤ x6 ∧ x6 ≤ 20 - x0 - x1 - x2 - x3 - x4 - x5 := by simp only [r8] at hy6; clear g0 g1 g2 g3 g4 g5; omega
  obtain ⟨y7, e7⟩ : ∃ y, n7.tmod d = y := ⟨_, rfl⟩
  have hy7 : r8 y7 := by rw [← e7]; exact tmod8 (by simp only [r8] at hr ⊢; omega)
  obtain ⟨x7, g7⟩ : ∃ x, min y7 (20 - x0 - x1 - x2 - x3 - x4 - x5 - x6) = x := ⟨_, rfl⟩
  have hx7 : 0 ≤ x7 ∧ x7 ≤ 20 - x0 - x1 - x2 - x3 - x4 - x5 - x6 := by simp only [r8] at hy7; clear g0 g1 g2 g3 g4 g5 g6; omega
  obtain ⟨y8, e8⟩ : ∃ y, n8.tmod d = y := ⟨_, rfl⟩
  have hy8 : r8 y8 := by rw [← e8]; exact tmod8 (by simp only [r8] at hr ⊢; omega)
  obtain ⟨x8, g8⟩ : ∃ x, min y8 (20 - x0 - x1 - x2 - x3 - x4 - x5 - x6 - x7) = x := ⟨_, rfl⟩
  have hx8 : 0 ≤ x8 ∧ x8 ≤ 20 - x0 - x1 - x2 - x3 - x4 - x5 - x6 - x7 := by simp only [r8] at hy8; clear g0 g1 g2 g3 g4 g5 g6 g7; omega
  simp only [r8] at hr hy0 hy1 hy2 hy3 hy4 hy5 hy6 hy7 hy8
  refine ⟨if 20 - x0 - x1 - x2 - x3 - x4 - x5 - x6 - x7 - x8 = 20 then [[1, x1, x2], [x3, x4, x5], [x6, x7, x8]] else [[x0, x1, x2], [x3, x4, x5], [x6, x7, x8]], ?_, ?_, ?_, ?_⟩
  · split
    · exact mk33 (by clear g0 g1 g2 g3 g4 g5 g6 g7 g8; omega) (by clear g0 g1 g2 g3 g4 g5 g6 g7 g8; omega)
    · exact mk33 (by clear g0 g1 g2 g3 g4 g5 g6 g7 g8; omega) (by clear g0 g1 g2 g3 g4 g5 g6 g7 g8; omega)
  · split <;> rfl
  · split <;> rfl
  refine pc_fn hmix h10 rfl ?_
  simp -implicitDefEqProofs only [c10, hd, ha, hb, mapN, List.headD_cons, List.tail_cons, push_cast, Nat.reduceBEq, Nat.reduceLT, Nat.reduceLeDiff, Nat.reduceAdd, Nat.reduceSub, Nat.reduceMul, Nat.reduceEqDiff, reduceCtorEq, ↓reduceIte, Int.reduceEq, Int.reduceLT, Int.reduceLE, Int.reduceNe, Int.reduceAdd, Int.reduceSub, Int.reduceMul, Int.reduceToNat, Nat.reduceShiftRight, Nat.reduceAnd, Nat.reduceBNe]
  refine ⟨by simp only [inR]; clear g0 g1 g2 g3 g4 g5 g6 g7 g8; omega, by simp only [inR]; clear g0 g1 g2 g3 g4 g5 g6 g7 g8; omega, by simp only [inR]; clear g0 g1 g2 g3 g4 g5 g6 g7 g8; omega, by simp only [inR]; clear g0 g1 g2 g3 g4 g5 g6 g7 g8; omega, ?_⟩
  repeat first
    | (refine LoopW.wk (wk_t [9, 8, 7, 6, 5, 4, 3, 1] rfl) (LoopW.unroll ?_); simp -implicitDefEqProofs only [hd, c10L0, c10L1, e0, e1, e2, e3, e4, e5, e6, e7, e8, g0, g1, g2, g3, g4, g5, g6, g7, g8, List.getD_cons_zero, List.getD_cons_succ, Int.zero_add, push_cast, Nat.reduceBEq, Nat.reduceLT, Nat.reduceLeDiff, Nat.reduceAdd, Nat.reduceSub, Nat.reduceMul, Nat.reduceEqDiff, reduceCtorEq, ↓reduceIte, Int.reduceEq, Int.reduceLT, Int.reduceLE, Int.reduceNe, Int.reduceAdd, Int.reduceSub, Int.reduceMul, Int.reduceToNat, Nat.reduceShiftRight, Nat.reduceAnd, Nat.reduceBNe])
    | (refine ⟨by first | (simp only [inR]; clear g0 g1 g2 g3 g4 g5 g6 g7 g8; omega) | (simp only [two47]; clear g0 g1 g2 g3 g4 g5 g6 g7 g8; omega) | (clear g0 g1 g2 g3 g4 g5 g6 g7 g8; omega), ?_⟩)
  refine ⟨fun h => ?_, fun h => ?_⟩
  · rw [if_pos h]
    exact finR 19 rfl ⟨rfl, ⟨⟨rfl, Nat.le_refl _⟩, rfl⟩, ⟨⟨rfl, Nat.le_refl _⟩, rfl⟩, ⟨⟨rfl, Nat.le_refl _⟩, rfl⟩, trivial⟩
  · rw [if_neg h]
    exact finR 19 rfl ⟨rfl, ⟨⟨rfl, Nat.le_refl _⟩, rfl⟩, ⟨⟨rfl, Nat.le_refl _⟩, rfl⟩, ⟨⟨rfl, Nat.le_refl _⟩, rfl⟩, trivial⟩
end Go.Proofs.YtligakiolapkkaaDoor

namespace Go.Proofs.YtligakiolapkkaaDoor
open Go GoV
set_option maxHeartbeats 16000000
set_option maxRecDepth 10000
theorem draft_pc {a b m n0 n1 n2 n3 n4 n5 n6 n7 n8 : Int} (hr : r8 a ∧ r8 b ∧ r8 m ∧ r8 n0 ∧ r8 n1 ∧ r8 n2 ∧ r8 n3 ∧ r8 n4 ∧ r8 n5 ∧ r8 n6 ∧ r8 n7 ∧ r8 n8) :
    ∃ t, Tab t ∧ PC Tryd.prog 10 [DD a b [n0, n1, n2, n3, n4, n5, n6, n7, n8] m] (TT t) := by
  have h0 : okD a b m n0 n1 n2 n3 n4 n5 n6 n7 n8 := ⟨hr, Int.tmod_nonneg _ hr.2.2.1.1, by have := Int.tmod_lt_of_pos m (b := 10) (by omega); omega⟩
  have h1 : a.tmod 2 = 0 ∨ a.tmod 2 = 1 := by
    have := Int.tmod_nonneg 2 hr.1.1
    have := Int.tmod_lt_of_pos a (b := 2) (by omega)
    omega
  have h2 : b.tmod 2 = 0 ∨ b.tmod 2 = 1 := by
    have := Int.tmod_nonneg 2 hr.2.1.1
    have := Int.tmod_lt_of_pos b (b := 2) (by omega)
    omega
  rcases h1 with h1 | h1 <;> rcases h2 with h2 | h2
  · obtain ⟨t, k, _, _, p⟩ := draft22 h0 h1 h2; exact ⟨t, k, p⟩
  · obtain ⟨t, k, _, _, p⟩ := draft23 h0 h1 h2; exact ⟨t, k, p⟩
  · obtain ⟨t, k, _, _, p⟩ := draft32 h0 h1 h2; exact ⟨t, k, p⟩
  · obtain ⟨t, k, _, _, p⟩ := draft33 h0 h1 h2; exact ⟨t, k, p⟩
end Go.Proofs.YtligakiolapkkaaDoor

namespace Go.Proofs.YtligakiolapkkaaDoor
open Go GoV
set_option maxHeartbeats 4000000
set_option maxRecDepth 10000

theorem eqself_pc (a : List Int) (hl : a.length ≤ 1000) : PC Tryd.prog 17 [IL a, IL a] (B true) := by
  refine pc_fn hmix h17 rfl ?_
  simp -implicitDefEqProofs only [c17, push_cast, Nat.reduceBEq, Nat.reduceLT, Nat.reduceLeDiff, Nat.reduceAdd, Nat.reduceSub, Nat.reduceMul, Nat.reduceEqDiff, reduceCtorEq, ↓reduceIte, Int.reduceEq, Int.reduceLT, Int.reduceLE, Int.reduceNe, Int.reduceAdd, Int.reduceSub, Int.reduceMul, Int.reduceToNat, Nat.reduceShiftRight, Nat.reduceAnd, Nat.reduceBNe]
  refine loop_k (α := Nat) [13, 12, 1, 0] 0 (fun k => [(13, I k)]) (fun _ => []) (fun k => k ≤ a.length) (fun k => a.length - k) 0 rfl ⟨rfl, rfl, rfl⟩ rfl (by omega) ?_
  intro k hk
  simp -implicitDefEqProofs only [c17L0, push_cast, Nat.reduceBEq, Nat.reduceLT, Nat.reduceLeDiff, Nat.reduceAdd, Nat.reduceSub, Nat.reduceMul, Nat.reduceEqDiff, reduceCtorEq, ↓reduceIte, Int.reduceEq, Int.reduceLT, Int.reduceLE, Int.reduceNe, Int.reduceAdd, Int.reduceSub, Int.reduceMul, Int.reduceToNat, Nat.reduceShiftRight, Nat.reduceAnd, Nat.reduceBNe]
  exact ⟨fun h => ⟨⟨by omega, h⟩, ⟨by omega, h⟩, by simp only [inR]; omega, k + 1, by omega, by omega, wk_c rfl ⟨rfl, rfl, rfl⟩ rfl⟩, fun _ => finC rfl rfl⟩

theorem clone_pc (s : List Int) (hs : s.length ≤ 100000) : PC Tryd.prog 39 [IL s] (IL s) := by
  refine pc_fn hmix h39 rfl ?_
  cases s with
  | nil =>
    simp -implicitDefEqProofs only [c39, push_cast, Nat.reduceBEq, Nat.reduceLT, Nat.reduceLeDiff, Nat.reduceAdd, Nat.reduceSub, Nat.reduceMul, Nat.reduceEqDiff, reduceCtorEq, ↓reduceIte, Int.reduceEq, Int.reduceLT, Int.reduceLE, Int.reduceNe, Int.reduceAdd, Int.reduceSub, Int.reduceMul, Int.reduceToNat, Nat.reduceShiftRight, Nat.reduceAnd, Nat.reduceBNe]
    exact ⟨finR 0 rfl trivial, by simp only [two47]; omega, finR 1 rfl (fz_seq rfl rfl)⟩
  | cons y ys =>
    simp -implicitDefEqProofs only [c39, push_cast, Nat.reduceBEq, Nat.reduceLT, Nat.reduceLeDiff, Nat.reduceAdd, Nat.reduceSub, Nat.reduceMul, Nat.reduceEqDiff, reduceCtorEq, ↓reduceIte, Int.reduceEq, Int.reduceLT, Int.reduceLE, Int.reduceNe, Int.reduceAdd, Int.reduceSub, Int.reduceMul, Int.reduceToNat, Nat.reduceShiftRight, Nat.reduceAnd, Nat.reduceBNe]
    simp only [List.length_cons] at hs
    exact ⟨⟨by simp only [two47]; omega, by simp only [two47]; omega⟩, finR 2 rfl (fz_seq rfl rfl)⟩
theorem clone_new (s : List Int) (h0 : s ≠ []) (hs : s.length ≤ 100000) : VCalls Tryd.prog 39 [IL s] [] (fun v fr => v = .slc 1 s.length 0 s.length ∧ fr = [.seq (.int .i64) [] true, .seq (.int .i64) s false]) := by
  refine vcalls_fn hmix h39 rfl ?_
  cases s with
  | nil => exact absurd rfl h0
  | cons y ys =>
    simp -implicitDefEqProofs only [c39, push_cast, Nat.reduceBEq, Nat.reduceLT, Nat.reduceLeDiff, Nat.reduceAdd, Nat.reduceSub, Nat.reduceMul, Nat.reduceEqDiff, reduceCtorEq, ↓reduceIte, Int.reduceEq, Int.reduceLT, Int.reduceLE, Int.reduceNe, Int.reduceAdd, Int.reduceSub, Int.reduceMul, Int.reduceToNat, Nat.reduceShiftRight, Nat.reduceAnd, Nat.reduceBNe]
    simp only [List.length_cons] at hs
    exact ⟨⟨by simp only [two47]; omega, by simp only [two47]; omega⟩, fin1 2 rfl ⟨rfl, rfl⟩⟩

def fewL (t : List (List Int)) : List (List Int) := (t.take 4).map (·.take 4)
theorem sub4 {α : Type} (l : List α) : subL l 0 (min (l.length : Int) 4).toNat = l.take 4 := by
  have e : (min (l.length : Int) 4).toNat = min l.length 4 := by omega
  rw [e, subL, List.drop_zero]
  rcases Nat.le_total l.length 4 with h | h
  · rw [Nat.min_eq_left h, List.take_length, List.take_of_length_le h]
  · rw [Nat.min_eq_right h]
theorem few_pc (t : List (List Int)) : PC Tryd.prog 11 [TT t] (TT (fewL t)) := by
  have hcl := fun (r : List Int) => clone_pc (r.take 4) (by rw [List.length_take]; omega)
  obtain ⟨u, hu⟩ : ∃ u, t.take 4 = u := ⟨_, rfl⟩
  have hul : u.length ≤ 4 := by rw [← hu, List.length_take]; omega
  have hf : fewL t = u.map (·.take 4) := by rw [← hu]; rfl
  refine pc_fn hmix h11 rfl ?_
  simp -implicitDefEqProofs only [c11, sub4, hu, push_cast, Nat.reduceBEq, Nat.reduceLT, Nat.reduceLeDiff, Nat.reduceAdd, Nat.reduceSub, Nat.reduceMul, Nat.reduceEqDiff, reduceCtorEq, ↓reduceIte, Int.reduceEq, Int.reduceLT, Int.reduceLE, Int.reduceNe, Int.reduceAdd, Int.reduceSub, Int.reduceMul, Int.reduceToNat, Nat.reduceShiftRight, Nat.reduceAnd, Nat.reduceBNe]
  refine ⟨by omega, ⟨by omega, by omega⟩, ?_⟩
  refine loop_w (α := Nat) (fun k => ⟨[(12, I k), (11, I u.length), (10, TT u), (3, .slc 0 ((u.take k).map (·.take 4)).length 0 ((u.take k).map (·.take 4)).length)], [.lst (.list (.int .i64)) ((u.take k).map (·.take 4))], []⟩) (fun k => k ≤ u.length) (fun k => u.length - k) 0
    ((wk_cut [12, 11, 10, 3] 0 rfl ⟨rfl, rfl, rfl⟩ rfl).trans (wk_own 3 (.list (.int .i64)) rfl)) (by omega) ?_
  intro k hk
  simp -implicitDefEqProofs only [c11L0, sub4, push_cast, Nat.reduceBEq, Nat.reduceLT, Nat.reduceLeDiff, Nat.reduceAdd, Nat.reduceSub, Nat.reduceMul, Nat.reduceEqDiff, reduceCtorEq, ↓reduceIte, Int.reduceEq, Int.reduceLT, Int.reduceLE, Int.reduceNe, Int.reduceAdd, Int.reduceSub, Int.reduceMul, Int.reduceToNat, Nat.reduceShiftRight, Nat.reduceAnd, Nat.reduceBNe]
  refine ⟨fun h => ⟨⟨by omega, h⟩, by omega, ⟨by omega, by omega⟩, ?_⟩, fun h => ?_⟩
  · refine callF (hcl _) ⟨rfl, trivial⟩ rfl rfl ?_
    simp -implicitDefEqProofs only [push_cast, Nat.reduceBEq, Nat.reduceLT, Nat.reduceLeDiff, Nat.reduceAdd, Nat.reduceSub, Nat.reduceMul, Nat.reduceEqDiff, reduceCtorEq, ↓reduceIte, Int.reduceEq, Int.reduceLT, Int.reduceLE, Int.reduceNe, Int.reduceAdd, Int.reduceSub, Int.reduceMul, Int.reduceToNat, Nat.reduceShiftRight, Nat.reduceAnd, Nat.reduceBNe]
    have e : (u.take (k + 1)).map (fun x => x.take 4) = (u.take k).map (fun x => x.take 4) ++ [(u.getD k []).take 4] := by
      rw [take_at [] (by omega), List.map_append]; rfl
    have hl9 : ((u.take k).map (fun x => x.take 4)).length ≤ 4 := by rw [List.length_map, List.length_take]; omega
    refine ⟨⟨by simp only [two47]; omega, by simp only [two47]; omega⟩, by simp only [inR]; omega, k + 1, by omega, by omega, ?_⟩
    rw [e]
    exact wk_c rfl ⟨rfl, rfl, rfl⟩ rfl
  · have : k = u.length := by omega
    subst this
    rw [hf]
    rw [List.take_length]
    exact finR 1 rfl (fz_lst rfl rfl)

end Go.Proofs.YtligakiolapkkaaDoor

namespace Go.Proofs.YtligakiolapkkaaDoor
open Go GoV

def subC : List Int → List Int → List Int
  | c :: cs, x :: xs => (c - x) :: subC cs xs
  | _, _ => []
def rowE : Int → List Int → List (List Int)
  | _, [] => []
  | a, [c] => if a ≤ c then [[a]] else []
  | a, c :: d :: cs => (List.range (min a c + 1).toNat).flatMap fun (x : Nat) => (rowE (a - (x : Int)) (d :: cs)).map fun l => (x : Int) :: l
def tabE : List Int → List Int → List (List (List Int))
  | [], cs => if cs.all (fun c => decide (c = 0)) then [[]] else []
  | a :: l, cs => (rowE a cs).flatMap fun r => (tabE l (subC cs r)).map fun t => r :: t

theorem tabE_cons (a : Int) (l cs : List Int) : tabE (a :: l) cs = (rowE a cs).flatMap fun r => (tabE l (subC cs r)).map fun t => r :: t := rfl
theorem tabE_no {cs : List Int} (h : ¬ ∀ c ∈ cs, c = 0) : tabE [] cs = [] := by
  unfold tabE
  rw [if_neg]
  simpa using h
section
variable {σ : Type} {C : σ → Heap} {K : Nat}
theorem getR_app {C L : Heap} {K c : Nat} (h : C.length = K + 1) : getR (C ++ L) (K + (c + 1)) = getR L c := by
  have key : ∀ (C : Heap) (n : Nat), getR (C ++ L) (C.length + n) = getR L n := by
    intro C n
    induction C with
    | nil => simp
    | cons r C ih => rw [List.length_cons, Nat.add_right_comm]; exact ih
  rw [show K + (c + 1) = C.length + c by omega]
  exact key C c
theorem set_app {C L : Heap} {K c : Nat} {r : Row} (h : C.length = K + 1) : (C ++ L).set (K + (c + 1)) r = C ++ L.set c r := by
  rw [List.set_append_right _ _ (by omega)]
  congr 2
  omega
theorem gK1 (hK : ∀ s, (C s).length = K + 1) (s : σ) (L : Heap) : getR (C s ++ L) (K + 1) = getR L 0 := getR_app (hK s)
theorem gK2 (hK : ∀ s, (C s).length = K + 1) (s : σ) (L : Heap) : getR (C s ++ L) (K + 2) = getR L 1 := getR_app (hK s)
theorem gK3 (hK : ∀ s, (C s).length = K + 1) (s : σ) (L : Heap) : getR (C s ++ L) (K + 3) = getR L 2 := getR_app (hK s)
theorem gK4 (hK : ∀ s, (C s).length = K + 1) (s : σ) (L : Heap) : getR (C s ++ L) (K + 4) = getR L 3 := getR_app (hK s)
theorem gK5 (hK : ∀ s, (C s).length = K + 1) (s : σ) (L : Heap) : getR (C s ++ L) (K + 5) = getR L 4 := getR_app (hK s)
theorem gK6 (hK : ∀ s, (C s).length = K + 1) (s : σ) (L : Heap) : getR (C s ++ L) (K + 6) = getR L 5 := getR_app (hK s)
theorem gK7 (hK : ∀ s, (C s).length = K + 1) (s : σ) (L : Heap) : getR (C s ++ L) (K + 7) = getR L 6 := getR_app (hK s)
theorem gK8 (hK : ∀ s, (C s).length = K + 1) (s : σ) (L : Heap) : getR (C s ++ L) (K + 8) = getR L 7 := getR_app (hK s)
theorem gK9 (hK : ∀ s, (C s).length = K + 1) (s : σ) (L : Heap) : getR (C s ++ L) (K + 9) = getR L 8 := getR_app (hK s)
theorem sK1 (hK : ∀ s, (C s).length = K + 1) (s : σ) (L : Heap) (r : Row) : (C s ++ L).set (K + 1) r = C s ++ L.set 0 r := set_app (hK s)
theorem sK2 (hK : ∀ s, (C s).length = K + 1) (s : σ) (L : Heap) (r : Row) : (C s ++ L).set (K + 2) r = C s ++ L.set 1 r := set_app (hK s)
theorem sK3 (hK : ∀ s, (C s).length = K + 1) (s : σ) (L : Heap) (r : Row) : (C s ++ L).set (K + 3) r = C s ++ L.set 2 r := set_app (hK s)
theorem sK4 (hK : ∀ s, (C s).length = K + 1) (s : σ) (L : Heap) (r : Row) : (C s ++ L).set (K + 4) r = C s ++ L.set 3 r := set_app (hK s)
theorem sK5 (hK : ∀ s, (C s).length = K + 1) (s : σ) (L : Heap) (r : Row) : (C s ++ L).set (K + 5) r = C s ++ L.set 4 r := set_app (hK s)
theorem sK6 (hK : ∀ s, (C s).length = K + 1) (s : σ) (L : Heap) (r : Row) : (C s ++ L).set (K + 6) r = C s ++ L.set 5 r := set_app (hK s)
theorem sK7 (hK : ∀ s, (C s).length = K + 1) (s : σ) (L : Heap) (r : Row) : (C s ++ L).set (K + 7) r = C s ++ L.set 6 r := set_app (hK s)
theorem sK8 (hK : ∀ s, (C s).length = K + 1) (s : σ) (L : Heap) (r : Row) : (C s ++ L).set (K + 8) r = C s ++ L.set 7 r := set_app (hK s)
theorem sK9 (hK : ∀ s, (C s).length = K + 1) (s : σ) (L : Heap) (r : Row) : (C s ++ L).set (K + 9) r = C s ++ L.set 8 r := set_app (hK s)
/-- the states at which a list's elements are taken up satisfy J -/
def Pre {σ T : Type} (J : σ → Prop) (upd : σ → T → σ) : σ → List T → Prop
  | _, [] => True
  | s, t :: ts => J s ∧ Pre J upd (upd s t) ts
theorem pre_app {σ T : Type} {J : σ → Prop} {upd : σ → T → σ} : ∀ {a b : List T} {s : σ}, Pre J upd s (a ++ b) ↔ Pre J upd s a ∧ Pre J upd (a.foldl upd s) b
  | [], b, s => by simp [Pre]
  | t :: a, b, s => by
    show (J s ∧ Pre J upd (upd s t) (a ++ b)) ↔ (J s ∧ Pre J upd (upd s t) a) ∧ _
    rw [pre_app (a := a), List.foldl_cons, and_assoc]
theorem pre_steps {σ T : Type} {J : σ → Prop} {upd : σ → T → σ} {Yp G : Nat → List T} {s : σ} (hYs : ∀ q, Yp (q + 1) = Yp q ++ G q) : ∀ (N : Nat), Pre J upd s (Yp N) → ∀ q, q < N → Pre J upd ((Yp q).foldl upd s) (G q)
  | 0, _, q, hq => by omega
  | N + 1, H, q, hq => by
    rw [hYs, pre_app] at H
    by_cases e : q = N
    · subst e; exact H.2
    · exact pre_steps hYs N H.1 q (by omega)
theorem pre_len {T : Type} (M : Nat) : ∀ (ts : List T) (s : List T), s.length + ts.length ≤ M + 1 → Pre (fun s : List T => s.length ≤ M) (fun s t => s ++ [t]) s ts
  | [], _, _ => trivial
  | t :: ts, s, h => by
    simp only [List.length_cons] at h
    exact ⟨by show s.length ≤ M; omega, pre_len M ts _ (by simp only [List.length_append, List.length_cons, List.length_nil]; omega)⟩
theorem flatMap_len {α β : Type} {f : α → List β} {B : Nat} : ∀ (l : List α), (∀ x ∈ l, (f x).length ≤ B) → (l.flatMap f).length ≤ l.length * B
  | [], _ => by simp
  | a :: l, h => by
    rw [List.flatMap_cons, List.length_append, List.length_cons]
    have h1 := h a (by simp)
    have h2 := flatMap_len l (fun x hx => h x (by simp [hx]))
    rw [Nat.add_mul]
    omega
theorem rowE_len : ∀ (cs : List Int) (a : Int), a ≤ 20 → (rowE a cs).length ≤ 21 ^ cs.length
  | [], _, _ => by simp [rowE]
  | [c], a, _ => by
    unfold rowE
    split <;> simp
  | c :: d :: cs, a, h => by
    unfold rowE
    have h1 := flatMap_len (f := fun (x : Nat) => (rowE (a - (x : Int)) (d :: cs)).map fun l => (x : Int) :: l) (B := 21 ^ (d :: cs).length) (List.range (min a c + 1).toNat) (fun x _ => by
      rw [List.length_map]; exact rowE_len (d :: cs) _ (by omega))
    refine Nat.le_trans h1 ?_
    rw [List.length_range, show 21 ^ (c :: d :: cs).length = 21 * 21 ^ (d :: cs).length by rw [List.length_cons, Nat.pow_succ, Nat.mul_comm]]
    exact Nat.mul_le_mul_right _ (by omega)
theorem subC_len : ∀ (cs xs : List Int), (subC cs xs).length ≤ cs.length
  | [], _ => by simp [subC]
  | c :: cs, [] => by simp [subC]
  | c :: cs, x :: xs => by simp only [subC, List.length_cons]; have := subC_len cs xs; omega
theorem tabE_len : ∀ (l : List Int) (cs : List Int) (m : Nat), cs.length ≤ m → (∀ a ∈ l, a ≤ 20) → (tabE l cs).length ≤ (21 ^ m) ^ l.length
  | [], cs, m, _, _ => by
    unfold tabE
    split <;> simp
  | a :: l, cs, m, h, hl => by
    rw [tabE_cons]
    have h1 := flatMap_len (f := fun r => (tabE l (subC cs r)).map fun t => r :: t) (B := (21 ^ m) ^ l.length) (rowE a cs) (fun r _ => by
      rw [List.length_map]; exact tabE_len l _ m (Nat.le_trans (subC_len _ _) h) (fun x hx => hl x (by simp [hx])))
    refine Nat.le_trans h1 ?_
    rw [List.length_cons, Nat.pow_succ, Nat.mul_comm]
    exact Nat.mul_le_mul_left _ (Nat.le_trans (rowE_len cs a (hl a (by simp))) (Nat.pow_le_pow_right (by omega) h))
theorem yld_rule {P : Program} {α : Type} {r : Nat} {args : List AV} {h : Heap} {n : AV × Heap → Tr α} {Q : α → Prop} {R : AV → Heap → Prop} [GTab] (H : VYield P r args h R) (hk : ∀ v h', R v h' → (n (v, h')).sem (VC P) Q) : ((Tr.call (.yld r) args h fun v h' => .ret (v, h')).bind n).sem (VC P) Q :=
  VC.mono (.yld r) args h _ _ hk H
theorem kbeq (K a b : Nat) : (K + a == K + b) = (a == b) := by
  rw [Bool.eq_iff_iff]; simp
end
end Go.Proofs.YtligakiolapkkaaDoor

namespace Go.Proofs.YtligakiolapkkaaDoor
open Go GoV
set_option maxHeartbeats 8000000
set_option maxRecDepth 10000
set_option linter.unusedVariables false
set_option linter.unusedSimpArgs false
def caps22 (K : Nat) : List AV := [.ptr (K + 5) 0, .ptr (K + 3) 0, .ptr (K + 1) 0, .ptr (K + 2) 0, .ptr (K + 8) 0]
def L22 (K k : Nat) (a0 a1 c0 c1 x00 x01 x10 x11 : Int) : Heap := [.box [.yld k], .box [I a0, I a1, I 0], .box [I c0, I c1, I 0], .box [.slc (K + 6) 2 0 2, .slc (K + 7) 2 0 2], .box [.slc (K + 4) 0 0 2], .seq (.int .i64) [x00, x01] true, .seq (.int .i64) [x10, x11] true, .box [.fn 56 [] [.ptr (K + 5) 0, .ptr (K + 3) 0, .ptr (K + 1) 0, .ptr (K + 2) 0, .ptr (K + 8) 0]]]
section
variable {σ : Type} {J : σ → Prop} {C : σ → Heap} {K k : Nat} {upd : σ → List (List Int) → σ} {r0 r1 k0 k1 : Int}
def Yields22 (J : σ → Prop) (C : σ → Heap) (K k : Nat) (upd : σ → List (List Int) → σ) (r0 r1 k0 k1 : Int) : Prop := ∀ (s : σ) (a0 a1 c0 c1 x00 x01 x10 x11 : Int), J s → (0 ≤ x00 ∧ 0 ≤ x01 ∧ 0 ≤ x10 ∧ 0 ≤ x11) → (x00 + x01 = r0 ∧ x10 + x11 = r1) → (x00 + x10 = k0 ∧ x01 + x11 = k1) →
    VYield Tryd.prog k [.slc (K + 4) 0 0 2] (C s ++ L22 K k a0 a1 c0 c1 x00 x01 x10 x11) (fun v h' => v = B true ∧ h' = C (upd s [[x00, x01], [x10, x11]]) ++ L22 K k a0 a1 c0 c1 x00 x01 x10 x11)
theorem fill22_20 (hK : ∀ s, (C s).length = K + 1) (hR : ∀ s n, K + 1 ≤ n → rowsRefs n (C s) = true) (hk : k < K + 1) (hY : Yields22 J C K k upd r0 r1 k0 k1) (s : σ) (a0 a1 c0 c1 x00 x01 x10 x11 : Int) (hJ : Pre J upd s ((tabE [] [c0, c1]).map fun rest => [x00, x01] :: [x10, x11] :: rest)) (hi : 0 ≤ x00 ∧ 0 ≤ x01 ∧ 0 ≤ x10 ∧ 0 ≤ x11 ∧ x00 + x01 = r0 ∧ x10 + x11 = r1 ∧ x00 + x10 + c0 = k0 ∧ 0 ≤ c0 ∧ x01 + x11 + c1 = k1 ∧ 0 ≤ c1 ∧ r0 ≤ 20 ∧ r1 ≤ 20 ∧ k0 ≤ 20 ∧ k1 ≤ 20) :
    VCalls Tryd.prog 56 ([I 2, I 0] ++ caps22 K) (C s ++ L22 K k a0 a1 c0 c1 x00 x01 x10 x11) (fun v h' => v = B true ∧ ∃ ys : List Int, h' = C (((tabE [] [c0, c1]).map fun rest => [x00, x01] :: [x10, x11] :: rest).foldl upd s) ++ L22 K k a0 a1 c0 c1 x00 x01 x10 x11) := by
  have kb := kbeq K
  by_cases hz : c0 = 0 ∧ c1 = 0
  · obtain ⟨rfl, rfl⟩ := hz
    refine vcalls_fn hmix h56 rfl ?_
    simp -implicitDefEqProofs only [c56, caps22, gK1 hK, gK2 hK, gK3 hK, gK4 hK, gK5 hK, gK6 hK, gK7 hK, gK8 hK, sK1 hK, sK2 hK, sK3 hK, sK4 hK, sK5 hK, sK6 hK, sK7 hK, sK8 hK, kb, List.length_append, beq_self_eq_true, L22, push_cast, Nat.reduceBEq, Nat.reduceLT, Nat.reduceLeDiff, Nat.reduceAdd, Nat.reduceSub, Nat.reduceMul, Nat.reduceEqDiff, reduceCtorEq, ↓reduceIte, Int.reduceEq, Int.reduceLT, Int.reduceLE, Int.reduceNe, Int.reduceAdd, Int.reduceSub, Int.reduceMul, Int.reduceToNat, Nat.reduceShiftRight, Nat.reduceAnd, Nat.reduceBNe]
    refine yld_rule (hY s a0 a1 0 0 x00 x01 x10 x11 hJ.1 (by omega) (by omega) (by omega)) ?_
    rintro v h' ⟨rfl, rfl⟩
    simp -implicitDefEqProofs only [L22, push_cast, Nat.reduceBEq, Nat.reduceLT, Nat.reduceLeDiff, Nat.reduceAdd, Nat.reduceSub, Nat.reduceMul, Nat.reduceEqDiff, reduceCtorEq, ↓reduceIte, Int.reduceEq, Int.reduceLT, Int.reduceLE, Int.reduceNe, Int.reduceAdd, Int.reduceSub, Int.reduceMul, Int.reduceToNat, Nat.reduceShiftRight, Nat.reduceAnd, Nat.reduceBNe]
    refine fin_app (n := K + 9) (by simp [hK]) (by simp [hK] <;> omega) rfl (hR _ _ (by omega)) ?_ ⟨rfl, [], ?_⟩
    · simp [rowsRefs, rowRefs, refsLtL, refsLt, NatBlt]; omega
    · rfl
  · have hz2 : (decide (c0 = 0) && decide (c1 = 0)) = false := by simp only [Bool.and_eq_false_iff, decide_eq_false_iff_not]; omega
    refine vcalls_fn hmix h56 rfl ?_
    simp -implicitDefEqProofs only [c56, caps22, gK1 hK, gK2 hK, gK3 hK, gK4 hK, gK5 hK, gK6 hK, gK7 hK, gK8 hK, sK1 hK, sK2 hK, sK3 hK, sK4 hK, sK5 hK, sK6 hK, sK7 hK, sK8 hK, kb, List.length_append, beq_self_eq_true, L22, hz2, push_cast, Nat.reduceBEq, Nat.reduceLT, Nat.reduceLeDiff, Nat.reduceAdd, Nat.reduceSub, Nat.reduceMul, Nat.reduceEqDiff, reduceCtorEq, ↓reduceIte, Int.reduceEq, Int.reduceLT, Int.reduceLE, Int.reduceNe, Int.reduceAdd, Int.reduceSub, Int.reduceMul, Int.reduceToNat, Nat.reduceShiftRight, Nat.reduceAnd, Nat.reduceBNe]
    refine fin_app (n := K + 9) (by simp [hK]) (by simp [hK] <;> omega) rfl (hR _ _ (by omega)) ?_ ⟨rfl, [], ?_⟩
    · simp [rowsRefs, rowRefs, refsLtL, refsLt, NatBlt]; omega
    · rw [tabE_no (by simp; omega)]; rfl
theorem fill22_11 (hK : ∀ s, (C s).length = K + 1) (hR : ∀ s n, K + 1 ≤ n → rowsRefs n (C s) = true) (hk : k < K + 1) (hY : Yields22 J C K k upd r0 r1 k0 k1) (s : σ) (a0 a1 c0 c1 x00 x01 x10 x11 : Int) (hJ : Pre J upd s ((rowE (a1) [c1]).flatMap fun tl => (tabE [] (c0 :: subC [c1] tl)).map fun rest => [x00, x01] :: (x10 :: tl) :: rest)) (hi : 0 ≤ x00 ∧ 0 ≤ x01 ∧ 0 ≤ x10 ∧ x00 + x01 = r0 ∧ x10 + a1 = r1 ∧ 0 ≤ a1 ∧ x00 + x10 + c0 = k0 ∧ 0 ≤ c0 ∧ x01 + c1 = k1 ∧ 0 ≤ c1 ∧ r0 ≤ 20 ∧ r1 ≤ 20 ∧ k0 ≤ 20 ∧ k1 ≤ 20) :
    VCalls Tryd.prog 56 ([I 1, I 1] ++ caps22 K) (C s ++ L22 K k a0 a1 c0 c1 x00 x01 x10 x11) (fun v h' => v = B true ∧ ∃ ys : List Int, h' = C (((rowE (a1) [c1]).flatMap fun tl => (tabE [] (c0 :: subC [c1] tl)).map fun rest => [x00, x01] :: (x10 :: tl) :: rest).foldl upd s) ++ L22 K k a0 a1 c0 c1 x00 x01 x10 (ys.getD 0 0)) := by
  have kb := kbeq K
  refine vcalls_fn hmix h56 rfl ?_
  simp -implicitDefEqProofs only [c56, caps22, gK1 hK, gK2 hK, gK3 hK, gK4 hK, gK5 hK, gK6 hK, gK7 hK, gK8 hK, sK1 hK, sK2 hK, sK3 hK, sK4 hK, sK5 hK, sK6 hK, sK7 hK, sK8 hK, kb, List.length_append, beq_self_eq_true, L22, push_cast, Nat.reduceBEq, Nat.reduceLT, Nat.reduceLeDiff, Nat.reduceAdd, Nat.reduceSub, Nat.reduceMul, Nat.reduceEqDiff, reduceCtorEq, ↓reduceIte, Int.reduceEq, Int.reduceLT, Int.reduceLE, Int.reduceNe, Int.reduceAdd, Int.reduceSub, Int.reduceMul, Int.reduceToNat, Nat.reduceShiftRight, Nat.reduceAnd, Nat.reduceBNe]
  refine ⟨by simp only [inR]; omega, fun hlt => ?_, fun hle => ?_⟩
  · skip
    refine fin_app (n := K + 9) (by simp [hK]) (by simp [hK] <;> omega) rfl (hR _ _ (by omega)) ?_ ⟨rfl, [x11], ?_⟩
    · simp [rowsRefs, rowRefs, refsLtL, refsLt, NatBlt]; omega
    · rw [show rowE a1 [c1] = [] from if_neg (by omega)]; rfl
  · refine ⟨by simp only [inR]; omega, by simp only [inR]; omega, ?_⟩
    have e : ((rowE (a1) [c1]).flatMap fun tl => (tabE [] (c0 :: subC [c1] tl)).map fun rest => [x00, x01] :: (x10 :: tl) :: rest) = ((tabE [] [c0, (c1 - a1)]).map fun rest => [x00, x01] :: [x10, a1] :: rest) := by
      rw [show rowE a1 [c1] = [[a1]] from if_pos (by omega)]
      simp only [tabE_cons, subC, List.map_flatMap, List.map_map, List.flatMap_cons, List.flatMap_nil, List.append_nil, Function.comp_def, List.nil_append, List.cons_append]
    rw [e] at hJ
    refine call_rule (fill22_20 hK hR hk hY s a0 a1 c0 (c1 - a1) x00 x01 x10 a1 hJ (by omega)) ?_
    rintro v h' ⟨rfl, ys, rfl⟩
    simp -implicitDefEqProofs only [Int.sub_add_cancel, gK1 hK, gK2 hK, gK3 hK, gK4 hK, gK5 hK, gK6 hK, gK7 hK, gK8 hK, sK1 hK, sK2 hK, sK3 hK, sK4 hK, sK5 hK, sK6 hK, sK7 hK, sK8 hK, kb, List.length_append, beq_self_eq_true, L22, push_cast, Nat.reduceBEq, Nat.reduceLT, Nat.reduceLeDiff, Nat.reduceAdd, Nat.reduceSub, Nat.reduceMul, Nat.reduceEqDiff, reduceCtorEq, ↓reduceIte, Int.reduceEq, Int.reduceLT, Int.reduceLE, Int.reduceNe, Int.reduceAdd, Int.reduceSub, Int.reduceMul, Int.reduceToNat, Nat.reduceShiftRight, Nat.reduceAnd, Nat.reduceBNe]
    refine ⟨by simp only [inR]; omega, ?_⟩
    refine fin_app (n := K + 9) (by simp [hK]) (by simp [hK] <;> omega) rfl (hR _ _ (by omega)) ?_ ⟨rfl, a1 :: ys, ?_⟩
    · simp [rowsRefs, rowRefs, refsLtL, refsLt, NatBlt]; omega
    · rw [e]; rfl
theorem fill22_10 (hK : ∀ s, (C s).length = K + 1) (hR : ∀ s n, K + 1 ≤ n → rowsRefs n (C s) = true) (hk : k < K + 1) (hY : Yields22 J C K k upd r0 r1 k0 k1) (s : σ) (a0 a1 c0 c1 x00 x01 x10 x11 : Int) (hJ : Pre J upd s ((rowE (a1) [c0, c1]).flatMap fun tl => (tabE [] (subC [c0, c1] tl)).map fun rest => [x00, x01] :: (tl) :: rest)) (hi : 0 ≤ x00 ∧ 0 ≤ x01 ∧ x00 + x01 = r0 ∧ a1 = r1 ∧ 0 ≤ a1 ∧ x00 + c0 = k0 ∧ 0 ≤ c0 ∧ x01 + c1 = k1 ∧ 0 ≤ c1 ∧ r0 ≤ 20 ∧ r1 ≤ 20 ∧ k0 ≤ 20 ∧ k1 ≤ 20) :
    VCalls Tryd.prog 56 ([I 1, I 0] ++ caps22 K) (C s ++ L22 K k a0 a1 c0 c1 x00 x01 x10 x11) (fun v h' => v = B true ∧ ∃ ys : List Int, h' = C (((rowE (a1) [c0, c1]).flatMap fun tl => (tabE [] (subC [c0, c1] tl)).map fun rest => [x00, x01] :: (tl) :: rest).foldl upd s) ++ L22 K k a0 a1 c0 c1 x00 x01 (ys.getD 0 0) (ys.getD 1 0)) := by
  have kb := kbeq K
  obtain ⟨Yp, hYp⟩ : ∃ Yp : Nat → List (List (List Int)), Yp = fun N => (List.range N).flatMap fun (q : Nat) => ((rowE ((a1 - ((q : Nat) : Int))) [c1]).flatMap fun tl => (tabE [] ((c0 - ((q : Nat) : Int)) :: subC [c1] tl)).map fun rest => [x00, x01] :: (((q : Nat) : Int) :: tl) :: rest) := ⟨_, rfl⟩
  have hY0 : Yp 0 = [] := by rw [hYp]; rfl
  have hYs : ∀ q : Nat, Yp (q + 1) = Yp q ++ ((rowE ((a1 - ((q : Nat) : Int))) [c1]).flatMap fun tl => (tabE [] ((c0 - ((q : Nat) : Int)) :: subC [c1] tl)).map fun rest => [x00, x01] :: (((q : Nat) : Int) :: tl) :: rest) := by
    intro q
    simp only [hYp, List.range_succ, List.flatMap_append, List.flatMap_cons, List.flatMap_nil, List.append_nil]
  have hYe : ((rowE (a1) [c0, c1]).flatMap fun tl => (tabE [] (subC [c0, c1] tl)).map fun rest => [x00, x01] :: (tl) :: rest) = Yp (min a1 c0 + 1).toNat := by
    rw [hYp]
    simp only [rowE, subC, List.flatMap_assoc, List.flatMap_map]
  rw [hYe] at hJ ⊢
  have hpre := pre_steps hYs _ hJ
  clear hYe hYp
  refine vcalls_fn hmix h56 rfl ?_
  simp -implicitDefEqProofs only [c56, caps22, gK1 hK, gK2 hK, gK3 hK, gK4 hK, gK5 hK, gK6 hK, gK7 hK, gK8 hK, sK1 hK, sK2 hK, sK3 hK, sK4 hK, sK5 hK, sK6 hK, sK7 hK, sK8 hK, kb, List.length_append, beq_self_eq_true, L22, push_cast, Nat.reduceBEq, Nat.reduceLT, Nat.reduceLeDiff, Nat.reduceAdd, Nat.reduceSub, Nat.reduceMul, Nat.reduceEqDiff, reduceCtorEq, ↓reduceIte, Int.reduceEq, Int.reduceLT, Int.reduceLE, Int.reduceNe, Int.reduceAdd, Int.reduceSub, Int.reduceMul, Int.reduceToNat, Nat.reduceShiftRight, Nat.reduceAnd, Nat.reduceBNe]
  refine ⟨by simp only [inR]; omega, by simp only [inR]; omega, ?_⟩
  refine loop_w (α := Nat × List Int) (fun b => ⟨[(77, I b.1), (76, I (min a1 c0 + 1)), (6, .ptr (K + 8) 0), (5, .ptr (K + 2) 0), (3, .ptr (K + 3) 0), (2, .ptr (K + 5) 0), (1, I 0), (0, I 1)], C ((Yp b.1).foldl upd s) ++ L22 K k a0 a1 c0 c1 x00 x01 (b.2.getD 0 0) (b.2.getD 1 0), []⟩)
    (fun b => b.1 ≤ (min a1 c0 + 1).toNat) (fun b => (min a1 c0 + 1).toNat - b.1) (0, [x10, x11]) (by rw [hY0]; exact wk_tk rfl) (by simp only; omega) ?_
  rintro ⟨q, ys⟩ hq
  simp only at hq
  simp -implicitDefEqProofs only [c56L0, gK1 hK, gK2 hK, gK3 hK, gK4 hK, gK5 hK, gK6 hK, gK7 hK, gK8 hK, sK1 hK, sK2 hK, sK3 hK, sK4 hK, sK5 hK, sK6 hK, sK7 hK, sK8 hK, kb, List.length_append, beq_self_eq_true, L22, push_cast, Nat.reduceBEq, Nat.reduceLT, Nat.reduceLeDiff, Nat.reduceAdd, Nat.reduceSub, Nat.reduceMul, Nat.reduceEqDiff, reduceCtorEq, ↓reduceIte, Int.reduceEq, Int.reduceLT, Int.reduceLE, Int.reduceNe, Int.reduceAdd, Int.reduceSub, Int.reduceMul, Int.reduceToNat, Nat.reduceShiftRight, Nat.reduceAnd, Nat.reduceBNe]
  refine ⟨fun hc => ?_, fun hc => ?_⟩
  · refine ⟨by simp only [inR]; omega, by simp only [inR]; omega, by simp only [inR]; omega, ?_⟩
    refine call_rule (fill22_11 hK hR hk hY _ a0 (a1 - (q : Int)) (c0 - (q : Int)) c1 x00 x01 (q : Int) (ys.getD 1 0) (hpre q (by omega)) (by omega)) ?_
    rintro v h' ⟨rfl, ys2, rfl⟩
    simp -implicitDefEqProofs only [Int.sub_add_cancel, gK1 hK, gK2 hK, gK3 hK, gK4 hK, gK5 hK, gK6 hK, gK7 hK, gK8 hK, sK1 hK, sK2 hK, sK3 hK, sK4 hK, sK5 hK, sK6 hK, sK7 hK, sK8 hK, kb, List.length_append, beq_self_eq_true, L22, push_cast, Nat.reduceBEq, Nat.reduceLT, Nat.reduceLeDiff, Nat.reduceAdd, Nat.reduceSub, Nat.reduceMul, Nat.reduceEqDiff, reduceCtorEq, ↓reduceIte, Int.reduceEq, Int.reduceLT, Int.reduceLE, Int.reduceNe, Int.reduceAdd, Int.reduceSub, Int.reduceMul, Int.reduceToNat, Nat.reduceShiftRight, Nat.reduceAnd, Nat.reduceBNe]
    refine ⟨by simp only [inR]; omega, by simp only [inR]; omega, by simp only [inR]; omega, (q + 1, (q : Int) :: ys2), by simp only; omega, by simp only; omega, ?_⟩
    simp only [hYs, List.foldl_append]
    exact wk_tk rfl
  · have hqe : q = (min a1 c0 + 1).toNat := by omega
    subst hqe
    refine fin_app (n := K + 9) (by simp [hK]) (by simp [hK] <;> omega) rfl (hR _ _ (by omega)) ?_ ⟨rfl, ys, ?_⟩
    · simp [rowsRefs, rowRefs, refsLtL, refsLt, NatBlt]; omega
    · rfl
theorem fill22_01 (hK : ∀ s, (C s).length = K + 1) (hR : ∀ s n, K + 1 ≤ n → rowsRefs n (C s) = true) (hk : k < K + 1) (hY : Yields22 J C K k upd r0 r1 k0 k1) (s : σ) (a0 a1 c0 c1 x00 x01 x10 x11 : Int) (hJ : Pre J upd s ((rowE (a0) [c1]).flatMap fun tl => (tabE [a1] (c0 :: subC [c1] tl)).map fun rest => (x00 :: tl) :: rest)) (hi : 0 ≤ x00 ∧ x00 + a0 = r0 ∧ 0 ≤ a0 ∧ a1 = r1 ∧ 0 ≤ a1 ∧ x00 + c0 = k0 ∧ 0 ≤ c0 ∧ c1 = k1 ∧ 0 ≤ c1 ∧ r0 ≤ 20 ∧ r1 ≤ 20 ∧ k0 ≤ 20 ∧ k1 ≤ 20) :
    VCalls Tryd.prog 56 ([I 0, I 1] ++ caps22 K) (C s ++ L22 K k a0 a1 c0 c1 x00 x01 x10 x11) (fun v h' => v = B true ∧ ∃ ys : List Int, h' = C (((rowE (a0) [c1]).flatMap fun tl => (tabE [a1] (c0 :: subC [c1] tl)).map fun rest => (x00 :: tl) :: rest).foldl upd s) ++ L22 K k a0 a1 c0 c1 x00 (ys.getD 0 0) (ys.getD 1 0) (ys.getD 2 0)) := by
  have kb := kbeq K
  refine vcalls_fn hmix h56 rfl ?_
  simp -implicitDefEqProofs only [c56, caps22, gK1 hK, gK2 hK, gK3 hK, gK4 hK, gK5 hK, gK6 hK, gK7 hK, gK8 hK, sK1 hK, sK2 hK, sK3 hK, sK4 hK, sK5 hK, sK6 hK, sK7 hK, sK8 hK, kb, List.length_append, beq_self_eq_true, L22, push_cast, Nat.reduceBEq, Nat.reduceLT, Nat.reduceLeDiff, Nat.reduceAdd, Nat.reduceSub, Nat.reduceMul, Nat.reduceEqDiff, reduceCtorEq, ↓reduceIte, Int.reduceEq, Int.reduceLT, Int.reduceLE, Int.reduceNe, Int.reduceAdd, Int.reduceSub, Int.reduceMul, Int.reduceToNat, Nat.reduceShiftRight, Nat.reduceAnd, Nat.reduceBNe]
  refine ⟨by simp only [inR]; omega, fun hlt => ?_, fun hle => ?_⟩
  · skip
    refine fin_app (n := K + 9) (by simp [hK]) (by simp [hK] <;> omega) rfl (hR _ _ (by omega)) ?_ ⟨rfl, [x01, x10, x11], ?_⟩
    · simp [rowsRefs, rowRefs, refsLtL, refsLt, NatBlt]; omega
    · rw [show rowE a0 [c1] = [] from if_neg (by omega)]; rfl
  · refine ⟨by simp only [inR]; omega, by simp only [inR]; omega, ?_⟩
    have e : ((rowE (a0) [c1]).flatMap fun tl => (tabE [a1] (c0 :: subC [c1] tl)).map fun rest => (x00 :: tl) :: rest) = ((rowE (a1) [c0, (c1 - a0)]).flatMap fun tl => (tabE [] (subC [c0, (c1 - a0)] tl)).map fun rest => [x00, a0] :: (tl) :: rest) := by
      rw [show rowE a0 [c1] = [[a0]] from if_pos (by omega)]
      simp only [tabE_cons, subC, List.map_flatMap, List.map_map, List.flatMap_cons, List.flatMap_nil, List.append_nil, Function.comp_def, List.nil_append, List.cons_append]
    rw [e] at hJ
    refine call_rule (fill22_10 hK hR hk hY s a0 a1 c0 (c1 - a0) x00 a0 x10 x11 hJ (by omega)) ?_
    rintro v h' ⟨rfl, ys, rfl⟩
    simp -implicitDefEqProofs only [Int.sub_add_cancel, gK1 hK, gK2 hK, gK3 hK, gK4 hK, gK5 hK, gK6 hK, gK7 hK, gK8 hK, sK1 hK, sK2 hK, sK3 hK, sK4 hK, sK5 hK, sK6 hK, sK7 hK, sK8 hK, kb, List.length_append, beq_self_eq_true, L22, push_cast, Nat.reduceBEq, Nat.reduceLT, Nat.reduceLeDiff, Nat.reduceAdd, Nat.reduceSub, Nat.reduceMul, Nat.reduceEqDiff, reduceCtorEq, ↓reduceIte, Int.reduceEq, Int.reduceLT, Int.reduceLE, Int.reduceNe, Int.reduceAdd, Int.reduceSub, Int.reduceMul, Int.reduceToNat, Nat.reduceShiftRight, Nat.reduceAnd, Nat.reduceBNe]
    refine ⟨by simp only [inR]; omega, ?_⟩
    refine fin_app (n := K + 9) (by simp [hK]) (by simp [hK] <;> omega) rfl (hR _ _ (by omega)) ?_ ⟨rfl, a0 :: ys, ?_⟩
    · simp [rowsRefs, rowRefs, refsLtL, refsLt, NatBlt]; omega
    · rw [e]; rfl
theorem fill22_00 (hK : ∀ s, (C s).length = K + 1) (hR : ∀ s n, K + 1 ≤ n → rowsRefs n (C s) = true) (hk : k < K + 1) (hY : Yields22 J C K k upd r0 r1 k0 k1) (s : σ) (a0 a1 c0 c1 x00 x01 x10 x11 : Int) (hJ : Pre J upd s ((rowE (a0) [c0, c1]).flatMap fun tl => (tabE [a1] (subC [c0, c1] tl)).map fun rest => (tl) :: rest)) (hi : a0 = r0 ∧ 0 ≤ a0 ∧ a1 = r1 ∧ 0 ≤ a1 ∧ c0 = k0 ∧ 0 ≤ c0 ∧ c1 = k1 ∧ 0 ≤ c1 ∧ r0 ≤ 20 ∧ r1 ≤ 20 ∧ k0 ≤ 20 ∧ k1 ≤ 20) :
    VCalls Tryd.prog 56 ([I 0, I 0] ++ caps22 K) (C s ++ L22 K k a0 a1 c0 c1 x00 x01 x10 x11) (fun v h' => v = B true ∧ ∃ ys : List Int, h' = C (((rowE (a0) [c0, c1]).flatMap fun tl => (tabE [a1] (subC [c0, c1] tl)).map fun rest => (tl) :: rest).foldl upd s) ++ L22 K k a0 a1 c0 c1 (ys.getD 0 0) (ys.getD 1 0) (ys.getD 2 0) (ys.getD 3 0)) := by
  have kb := kbeq K
  obtain ⟨Yp, hYp⟩ : ∃ Yp : Nat → List (List (List Int)), Yp = fun N => (List.range N).flatMap fun (q : Nat) => ((rowE ((a0 - ((q : Nat) : Int))) [c1]).flatMap fun tl => (tabE [a1] ((c0 - ((q : Nat) : Int)) :: subC [c1] tl)).map fun rest => (((q : Nat) : Int) :: tl) :: rest) := ⟨_, rfl⟩
  have hY0 : Yp 0 = [] := by rw [hYp]; rfl
  have hYs : ∀ q : Nat, Yp (q + 1) = Yp q ++ ((rowE ((a0 - ((q : Nat) : Int))) [c1]).flatMap fun tl => (tabE [a1] ((c0 - ((q : Nat) : Int)) :: subC [c1] tl)).map fun rest => (((q : Nat) : Int) :: tl) :: rest) := by
    intro q
    simp only [hYp, List.range_succ, List.flatMap_append, List.flatMap_cons, List.flatMap_nil, List.append_nil]
  have hYe : ((rowE (a0) [c0, c1]).flatMap fun tl => (tabE [a1] (subC [c0, c1] tl)).map fun rest => (tl) :: rest) = Yp (min a0 c0 + 1).toNat := by
    rw [hYp]
    simp only [rowE, subC, List.flatMap_assoc, List.flatMap_map]
  rw [hYe] at hJ ⊢
  have hpre := pre_steps hYs _ hJ
  clear hYe hYp
  refine vcalls_fn hmix h56 rfl ?_
  simp -implicitDefEqProofs only [c56, caps22, gK1 hK, gK2 hK, gK3 hK, gK4 hK, gK5 hK, gK6 hK, gK7 hK, gK8 hK, sK1 hK, sK2 hK, sK3 hK, sK4 hK, sK5 hK, sK6 hK, sK7 hK, sK8 hK, kb, List.length_append, beq_self_eq_true, L22, push_cast, Nat.reduceBEq, Nat.reduceLT, Nat.reduceLeDiff, Nat.reduceAdd, Nat.reduceSub, Nat.reduceMul, Nat.reduceEqDiff, reduceCtorEq, ↓reduceIte, Int.reduceEq, Int.reduceLT, Int.reduceLE, Int.reduceNe, Int.reduceAdd, Int.reduceSub, Int.reduceMul, Int.reduceToNat, Nat.reduceShiftRight, Nat.reduceAnd, Nat.reduceBNe]
  refine ⟨by simp only [inR]; omega, by simp only [inR]; omega, ?_⟩
  refine loop_w (α := Nat × List Int) (fun b => ⟨[(77, I b.1), (76, I (min a0 c0 + 1)), (6, .ptr (K + 8) 0), (5, .ptr (K + 2) 0), (3, .ptr (K + 3) 0), (2, .ptr (K + 5) 0), (1, I 0), (0, I 0)], C ((Yp b.1).foldl upd s) ++ L22 K k a0 a1 c0 c1 (b.2.getD 0 0) (b.2.getD 1 0) (b.2.getD 2 0) (b.2.getD 3 0), []⟩)
    (fun b => b.1 ≤ (min a0 c0 + 1).toNat) (fun b => (min a0 c0 + 1).toNat - b.1) (0, [x00, x01, x10, x11]) (by rw [hY0]; exact wk_tk rfl) (by simp only; omega) ?_
  rintro ⟨q, ys⟩ hq
  simp only at hq
  simp -implicitDefEqProofs only [c56L0, gK1 hK, gK2 hK, gK3 hK, gK4 hK, gK5 hK, gK6 hK, gK7 hK, gK8 hK, sK1 hK, sK2 hK, sK3 hK, sK4 hK, sK5 hK, sK6 hK, sK7 hK, sK8 hK, kb, List.length_append, beq_self_eq_true, L22, push_cast, Nat.reduceBEq, Nat.reduceLT, Nat.reduceLeDiff, Nat.reduceAdd, Nat.reduceSub, Nat.reduceMul, Nat.reduceEqDiff, reduceCtorEq, ↓reduceIte, Int.reduceEq, Int.reduceLT, Int.reduceLE, Int.reduceNe, Int.reduceAdd, Int.reduceSub, Int.reduceMul, Int.reduceToNat, Nat.reduceShiftRight, Nat.reduceAnd, Nat.reduceBNe]
  refine ⟨fun hc => ?_, fun hc => ?_⟩
  · refine ⟨by simp only [inR]; omega, by simp only [inR]; omega, by simp only [inR]; omega, ?_⟩
    refine call_rule (fill22_01 hK hR hk hY _ (a0 - (q : Int)) a1 (c0 - (q : Int)) c1 (q : Int) (ys.getD 1 0) (ys.getD 2 0) (ys.getD 3 0) (hpre q (by omega)) (by omega)) ?_
    rintro v h' ⟨rfl, ys2, rfl⟩
    simp -implicitDefEqProofs only [Int.sub_add_cancel, gK1 hK, gK2 hK, gK3 hK, gK4 hK, gK5 hK, gK6 hK, gK7 hK, gK8 hK, sK1 hK, sK2 hK, sK3 hK, sK4 hK, sK5 hK, sK6 hK, sK7 hK, sK8 hK, kb, List.length_append, beq_self_eq_true, L22, push_cast, Nat.reduceBEq, Nat.reduceLT, Nat.reduceLeDiff, Nat.reduceAdd, Nat.reduceSub, Nat.reduceMul, Nat.reduceEqDiff, reduceCtorEq, ↓reduceIte, Int.reduceEq, Int.reduceLT, Int.reduceLE, Int.reduceNe, Int.reduceAdd, Int.reduceSub, Int.reduceMul, Int.reduceToNat, Nat.reduceShiftRight, Nat.reduceAnd, Nat.reduceBNe]
    refine ⟨by simp only [inR]; omega, by simp only [inR]; omega, by simp only [inR]; omega, (q + 1, (q : Int) :: ys2), by simp only; omega, by simp only; omega, ?_⟩
    simp only [hYs, List.foldl_append]
    exact wk_tk rfl
  · have hqe : q = (min a0 c0 + 1).toNat := by omega
    subst hqe
    refine fin_app (n := K + 9) (by simp [hK]) (by simp [hK] <;> omega) rfl (hR _ _ (by omega)) ?_ ⟨rfl, ys, ?_⟩
    · simp [rowsRefs, rowRefs, refsLtL, refsLt, NatBlt]; omega
    · rfl
end
end Go.Proofs.YtligakiolapkkaaDoor

namespace Go.Proofs.YtligakiolapkkaaDoor
open Go GoV
set_option maxHeartbeats 8000000
set_option maxRecDepth 10000
set_option linter.unusedVariables false
set_option linter.unusedSimpArgs false
def caps23 (K : Nat) : List AV := [.ptr (K + 5) 0, .ptr (K + 3) 0, .ptr (K + 1) 0, .ptr (K + 2) 0, .ptr (K + 8) 0]
def L23 (K k : Nat) (a0 a1 c0 c1 c2 x00 x01 x02 x10 x11 x12 : Int) : Heap := [.box [.yld k], .box [I a0, I a1, I 0], .box [I c0, I c1, I c2], .box [.slc (K + 6) 3 0 3, .slc (K + 7) 3 0 3], .box [.slc (K + 4) 0 0 2], .seq (.int .i64) [x00, x01, x02] true, .seq (.int .i64) [x10, x11, x12] true, .box [.fn 56 [] [.ptr (K + 5) 0, .ptr (K + 3) 0, .ptr (K + 1) 0, .ptr (K + 2) 0, .ptr (K + 8) 0]]]
section
variable {σ : Type} {J : σ → Prop} {C : σ → Heap} {K k : Nat} {upd : σ → List (List Int) → σ} {r0 r1 k0 k1 k2 : Int}
def Yields23 (J : σ → Prop) (C : σ → Heap) (K k : Nat) (upd : σ → List (List Int) → σ) (r0 r1 k0 k1 k2 : Int) : Prop := ∀ (s : σ) (a0 a1 c0 c1 c2 x00 x01 x02 x10 x11 x12 : Int), J s → (0 ≤ x00 ∧ 0 ≤ x01 ∧ 0 ≤ x02 ∧ 0 ≤ x10 ∧ 0 ≤ x11 ∧ 0 ≤ x12) → (x00 + x01 + x02 = r0 ∧ x10 + x11 + x12 = r1) → (x00 + x10 = k0 ∧ x01 + x11 = k1 ∧ x02 + x12 = k2) →
    VYield Tryd.prog k [.slc (K + 4) 0 0 2] (C s ++ L23 K k a0 a1 c0 c1 c2 x00 x01 x02 x10 x11 x12) (fun v h' => v = B true ∧ h' = C (upd s [[x00, x01, x02], [x10, x11, x12]]) ++ L23 K k a0 a1 c0 c1 c2 x00 x01 x02 x10 x11 x12)
theorem fill23_20 (hK : ∀ s, (C s).length = K + 1) (hR : ∀ s n, K + 1 ≤ n → rowsRefs n (C s) = true) (hk : k < K + 1) (hY : Yields23 J C K k upd r0 r1 k0 k1 k2) (s : σ) (a0 a1 c0 c1 c2 x00 x01 x02 x10 x11 x12 : Int) (hJ : Pre J upd s ((tabE [] [c0, c1, c2]).map fun rest => [x00, x01, x02] :: [x10, x11, x12] :: rest)) (hi : 0 ≤ x00 ∧ 0 ≤ x01 ∧ 0 ≤ x02 ∧ 0 ≤ x10 ∧ 0 ≤ x11 ∧ 0 ≤ x12 ∧ x00 + x01 + x02 = r0 ∧ x10 + x11 + x12 = r1 ∧ x00 + x10 + c0 = k0 ∧ 0 ≤ c0 ∧ x01 + x11 + c1 = k1 ∧ 0 ≤ c1 ∧ x02 + x12 + c2 = k2 ∧ 0 ≤ c2 ∧ r0 ≤ 20 ∧ r1 ≤ 20 ∧ k0 ≤ 20 ∧ k1 ≤ 20 ∧ k2 ≤ 20) :
    VCalls Tryd.prog 56 ([I 2, I 0] ++ caps23 K) (C s ++ L23 K k a0 a1 c0 c1 c2 x00 x01 x02 x10 x11 x12) (fun v h' => v = B true ∧ ∃ ys : List Int, h' = C (((tabE [] [c0, c1, c2]).map fun rest => [x00, x01, x02] :: [x10, x11, x12] :: rest).foldl upd s) ++ L23 K k a0 a1 c0 c1 c2 x00 x01 x02 x10 x11 x12) := by
  have kb := kbeq K
  by_cases hz : c0 = 0 ∧ c1 = 0 ∧ c2 = 0
  · obtain ⟨rfl, rfl, rfl⟩ := hz
    refine vcalls_fn hmix h56 rfl ?_
    simp -implicitDefEqProofs only [c56, caps23, gK1 hK, gK2 hK, gK3 hK, gK4 hK, gK5 hK, gK6 hK, gK7 hK, gK8 hK, sK1 hK, sK2 hK, sK3 hK, sK4 hK, sK5 hK, sK6 hK, sK7 hK, sK8 hK, kb, List.length_append, beq_self_eq_true, L23, push_cast, Nat.reduceBEq, Nat.reduceLT, Nat.reduceLeDiff, Nat.reduceAdd, Nat.reduceSub, Nat.reduceMul, Nat.reduceEqDiff, reduceCtorEq, ↓reduceIte, Int.reduceEq, Int.reduceLT, Int.reduceLE, Int.reduceNe, Int.reduceAdd, Int.reduceSub, Int.reduceMul, Int.reduceToNat, Nat.reduceShiftRight, Nat.reduceAnd, Nat.reduceBNe]
    refine yld_rule (hY s a0 a1 0 0 0 x00 x01 x02 x10 x11 x12 hJ.1 (by omega) (by omega) (by omega)) ?_
    rintro v h' ⟨rfl, rfl⟩
    simp -implicitDefEqProofs only [L23, push_cast, Nat.reduceBEq, Nat.reduceLT, Nat.reduceLeDiff, Nat.reduceAdd, Nat.reduceSub, Nat.reduceMul, Nat.reduceEqDiff, reduceCtorEq, ↓reduceIte, Int.reduceEq, Int.reduceLT, Int.reduceLE, Int.reduceNe, Int.reduceAdd, Int.reduceSub, Int.reduceMul, Int.reduceToNat, Nat.reduceShiftRight, Nat.reduceAnd, Nat.reduceBNe]
    refine fin_app (n := K + 9) (by simp [hK]) (by simp [hK] <;> omega) rfl (hR _ _ (by omega)) ?_ ⟨rfl, [], ?_⟩
    · simp [rowsRefs, rowRefs, refsLtL, refsLt, NatBlt]; omega
    · rfl
  · have hz2 : (decide (c0 = 0) && (decide (c1 = 0) && decide (c2 = 0))) = false := by simp only [Bool.and_eq_false_iff, decide_eq_false_iff_not]; omega
    refine vcalls_fn hmix h56 rfl ?_
    simp -implicitDefEqProofs only [c56, caps23, gK1 hK, gK2 hK, gK3 hK, gK4 hK, gK5 hK, gK6 hK, gK7 hK, gK8 hK, sK1 hK, sK2 hK, sK3 hK, sK4 hK, sK5 hK, sK6 hK, sK7 hK, sK8 hK, kb, List.length_append, beq_self_eq_true, L23, hz2, push_cast, Nat.reduceBEq, Nat.reduceLT, Nat.reduceLeDiff, Nat.reduceAdd, Nat.reduceSub, Nat.reduceMul, Nat.reduceEqDiff, reduceCtorEq, ↓reduceIte, Int.reduceEq, Int.reduceLT, Int.reduceLE, Int.reduceNe, Int.reduceAdd, Int.reduceSub, Int.reduceMul, Int.reduceToNat, Nat.reduceShiftRight, Nat.reduceAnd, Nat.reduceBNe]
    refine fin_app (n := K + 9) (by simp [hK]) (by simp [hK] <;> omega) rfl (hR _ _ (by omega)) ?_ ⟨rfl, [], ?_⟩
    · simp [rowsRefs, rowRefs, refsLtL, refsLt, NatBlt]; omega
    · rw [tabE_no (by simp; omega)]; rfl
theorem fill23_12 (hK : ∀ s, (C s).length = K + 1) (hR : ∀ s n, K + 1 ≤ n → rowsRefs n (C s) = true) (hk : k < K + 1) (hY : Yields23 J C K k upd r0 r1 k0 k1 k2) (s : σ) (a0 a1 c0 c1 c2 x00 x01 x02 x10 x11 x12 : Int) (hJ : Pre J upd s ((rowE (a1) [c2]).flatMap fun tl => (tabE [] (c0 :: c1 :: subC [c2] tl)).map fun rest => [x00, x01, x02] :: (x10 :: x11 :: tl) :: rest)) (hi : 0 ≤ x00 ∧ 0 ≤ x01 ∧ 0 ≤ x02 ∧ 0 ≤ x10 ∧ 0 ≤ x11 ∧ x00 + x01 + x02 = r0 ∧ x10 + x11 + a1 = r1 ∧ 0 ≤ a1 ∧ x00 + x10 + c0 = k0 ∧ 0 ≤ c0 ∧ x01 + x11 + c1 = k1 ∧ 0 ≤ c1 ∧ x02 + c2 = k2 ∧ 0 ≤ c2 ∧ r0 ≤ 20 ∧ r1 ≤ 20 ∧ k0 ≤ 20 ∧ k1 ≤ 20 ∧ k2 ≤ 20) :
    VCalls Tryd.prog 56 ([I 1, I 2] ++ caps23 K) (C s ++ L23 K k a0 a1 c0 c1 c2 x00 x01 x02 x10 x11 x12) (fun v h' => v = B true ∧ ∃ ys : List Int, h' = C (((rowE (a1) [c2]).flatMap fun tl => (tabE [] (c0 :: c1 :: subC [c2] tl)).map fun rest => [x00, x01, x02] :: (x10 :: x11 :: tl) :: rest).foldl upd s) ++ L23 K k a0 a1 c0 c1 c2 x00 x01 x02 x10 x11 (ys.getD 0 0)) := by
  have kb := kbeq K
  refine vcalls_fn hmix h56 rfl ?_
  simp -implicitDefEqProofs only [c56, caps23, gK1 hK, gK2 hK, gK3 hK, gK4 hK, gK5 hK, gK6 hK, gK7 hK, gK8 hK, sK1 hK, sK2 hK, sK3 hK, sK4 hK, sK5 hK, sK6 hK, sK7 hK, sK8 hK, kb, List.length_append, beq_self_eq_true, L23, push_cast, Nat.reduceBEq, Nat.reduceLT, Nat.reduceLeDiff, Nat.reduceAdd, Nat.reduceSub, Nat.reduceMul, Nat.reduceEqDiff, reduceCtorEq, ↓reduceIte, Int.reduceEq, Int.reduceLT, Int.reduceLE, Int.reduceNe, Int.reduceAdd, Int.reduceSub, Int.reduceMul, Int.reduceToNat, Nat.reduceShiftRight, Nat.reduceAnd, Nat.reduceBNe]
  refine ⟨by simp only [inR]; omega, fun hlt => ?_, fun hle => ?_⟩
  · skip
    refine fin_app (n := K + 9) (by simp [hK]) (by simp [hK] <;> omega) rfl (hR _ _ (by omega)) ?_ ⟨rfl, [x12], ?_⟩
    · simp [rowsRefs, rowRefs, refsLtL, refsLt, NatBlt]; omega
    · rw [show rowE a1 [c2] = [] from if_neg (by omega)]; rfl
  · refine ⟨by simp only [inR]; omega, by simp only [inR]; omega, ?_⟩
    have e : ((rowE (a1) [c2]).flatMap fun tl => (tabE [] (c0 :: c1 :: subC [c2] tl)).map fun rest => [x00, x01, x02] :: (x10 :: x11 :: tl) :: rest) = ((tabE [] [c0, c1, (c2 - a1)]).map fun rest => [x00, x01, x02] :: [x10, x11, a1] :: rest) := by
      rw [show rowE a1 [c2] = [[a1]] from if_pos (by omega)]
      simp only [tabE_cons, subC, List.map_flatMap, List.map_map, List.flatMap_cons, List.flatMap_nil, List.append_nil, Function.comp_def, List.nil_append, List.cons_append]
    rw [e] at hJ
    refine call_rule (fill23_20 hK hR hk hY s a0 a1 c0 c1 (c2 - a1) x00 x01 x02 x10 x11 a1 hJ (by omega)) ?_
    rintro v h' ⟨rfl, ys, rfl⟩
    simp -implicitDefEqProofs only [Int.sub_add_cancel, gK1 hK, gK2 hK, gK3 hK, gK4 hK, gK5 hK, gK6 hK, gK7 hK, gK8 hK, sK1 hK, sK2 hK, sK3 hK, sK4 hK, sK5 hK, sK6 hK, sK7 hK, sK8 hK, kb, List.length_append, beq_self_eq_true, L23, push_cast, Nat.reduceBEq, Nat.reduceLT, Nat.reduceLeDiff, Nat.reduceAdd, Nat.reduceSub, Nat.reduceMul, Nat.reduceEqDiff, reduceCtorEq, ↓reduceIte, Int.reduceEq, Int.reduceLT, Int.reduceLE, Int.reduceNe, Int.reduceAdd, Int.reduceSub, Int.reduceMul, Int.reduceToNat, Nat.reduceShiftRight, Nat.reduceAnd, Nat.reduceBNe]
    refine ⟨by simp only [inR]; omega, ?_⟩
    refine fin_app (n := K + 9) (by simp [hK]) (by simp [hK] <;> omega) rfl (hR _ _ (by omega)) ?_ ⟨rfl, a1 :: ys, ?_⟩
    · simp [rowsRefs, rowRefs, refsLtL, refsLt, NatBlt]; omega
    · rw [e]; rfl
theorem fill23_11 (hK : ∀ s, (C s).length = K + 1) (hR : ∀ s n, K + 1 ≤ n → rowsRefs n (C s) = true) (hk : k < K + 1) (hY : Yields23 J C K k upd r0 r1 k0 k1 k2) (s : σ) (a0 a1 c0 c1 c2 x00 x01 x02 x10 x11 x12 : Int) (hJ : Pre J upd s ((rowE (a1) [c1, c2]).flatMap fun tl => (tabE [] (c0 :: subC [c1, c2] tl)).map fun rest => [x00, x01, x02] :: (x10 :: tl) :: rest)) (hi : 0 ≤ x00 ∧ 0 ≤ x01 ∧ 0 ≤ x02 ∧ 0 ≤ x10 ∧ x00 + x01 + x02 = r0 ∧ x10 + a1 = r1 ∧ 0 ≤ a1 ∧ x00 + x10 + c0 = k0 ∧ 0 ≤ c0 ∧ x01 + c1 = k1 ∧ 0 ≤ c1 ∧ x02 + c2 = k2 ∧ 0 ≤ c2 ∧ r0 ≤ 20 ∧ r1 ≤ 20 ∧ k0 ≤ 20 ∧ k1 ≤ 20 ∧ k2 ≤ 20) :
    VCalls Tryd.prog 56 ([I 1, I 1] ++ caps23 K) (C s ++ L23 K k a0 a1 c0 c1 c2 x00 x01 x02 x10 x11 x12) (fun v h' => v = B true ∧ ∃ ys : List Int, h' = C (((rowE (a1) [c1, c2]).flatMap fun tl => (tabE [] (c0 :: subC [c1, c2] tl)).map fun rest => [x00, x01, x02] :: (x10 :: tl) :: rest).foldl upd s) ++ L23 K k a0 a1 c0 c1 c2 x00 x01 x02 x10 (ys.getD 0 0) (ys.getD 1 0)) := by
  have kb := kbeq K
  obtain ⟨Yp, hYp⟩ : ∃ Yp : Nat → List (List (List Int)), Yp = fun N => (List.range N).flatMap fun (q : Nat) => ((rowE ((a1 - ((q : Nat) : Int))) [c2]).flatMap fun tl => (tabE [] (c0 :: (c1 - ((q : Nat) : Int)) :: subC [c2] tl)).map fun rest => [x00, x01, x02] :: (x10 :: ((q : Nat) : Int) :: tl) :: rest) := ⟨_, rfl⟩
  have hY0 : Yp 0 = [] := by rw [hYp]; rfl
  have hYs : ∀ q : Nat, Yp (q + 1) = Yp q ++ ((rowE ((a1 - ((q : Nat) : Int))) [c2]).flatMap fun tl => (tabE [] (c0 :: (c1 - ((q : Nat) : Int)) :: subC [c2] tl)).map fun rest => [x00, x01, x02] :: (x10 :: ((q : Nat) : Int) :: tl) :: rest) := by
    intro q
    simp only [hYp, List.range_succ, List.flatMap_append, List.flatMap_cons, List.flatMap_nil, List.append_nil]
  have hYe : ((rowE (a1) [c1, c2]).flatMap fun tl => (tabE [] (c0 :: subC [c1, c2] tl)).map fun rest => [x00, x01, x02] :: (x10 :: tl) :: rest) = Yp (min a1 c1 + 1).toNat := by
    rw [hYp]
    simp only [rowE, subC, List.flatMap_assoc, List.flatMap_map]
  rw [hYe] at hJ ⊢
  have hpre := pre_steps hYs _ hJ
  clear hYe hYp
  refine vcalls_fn hmix h56 rfl ?_
  simp -implicitDefEqProofs only [c56, caps23, gK1 hK, gK2 hK, gK3 hK, gK4 hK, gK5 hK, gK6 hK, gK7 hK, gK8 hK, sK1 hK, sK2 hK, sK3 hK, sK4 hK, sK5 hK, sK6 hK, sK7 hK, sK8 hK, kb, List.length_append, beq_self_eq_true, L23, push_cast, Nat.reduceBEq, Nat.reduceLT, Nat.reduceLeDiff, Nat.reduceAdd, Nat.reduceSub, Nat.reduceMul, Nat.reduceEqDiff, reduceCtorEq, ↓reduceIte, Int.reduceEq, Int.reduceLT, Int.reduceLE, Int.reduceNe, Int.reduceAdd, Int.reduceSub, Int.reduceMul, Int.reduceToNat, Nat.reduceShiftRight, Nat.reduceAnd, Nat.reduceBNe]
  refine ⟨by simp only [inR]; omega, by simp only [inR]; omega, ?_⟩
  refine loop_w (α := Nat × List Int) (fun b => ⟨[(77, I b.1), (76, I (min a1 c1 + 1)), (6, .ptr (K + 8) 0), (5, .ptr (K + 2) 0), (3, .ptr (K + 3) 0), (2, .ptr (K + 5) 0), (1, I 1), (0, I 1)], C ((Yp b.1).foldl upd s) ++ L23 K k a0 a1 c0 c1 c2 x00 x01 x02 x10 (b.2.getD 0 0) (b.2.getD 1 0), []⟩)
    (fun b => b.1 ≤ (min a1 c1 + 1).toNat) (fun b => (min a1 c1 + 1).toNat - b.1) (0, [x11, x12]) (by rw [hY0]; exact wk_tk rfl) (by simp only; omega) ?_
  rintro ⟨q, ys⟩ hq
  simp only at hq
  simp -implicitDefEqProofs only [c56L0, gK1 hK, gK2 hK, gK3 hK, gK4 hK, gK5 hK, gK6 hK, gK7 hK, gK8 hK, sK1 hK, sK2 hK, sK3 hK, sK4 hK, sK5 hK, sK6 hK, sK7 hK, sK8 hK, kb, List.length_append, beq_self_eq_true, L23, push_cast, Nat.reduceBEq, Nat.reduceLT, Nat.reduceLeDiff, Nat.reduceAdd, Nat.reduceSub, Nat.reduceMul, Nat.reduceEqDiff, reduceCtorEq, ↓reduceIte, Int.reduceEq, Int.reduceLT, Int.reduceLE, Int.reduceNe, Int.reduceAdd, Int.reduceSub, Int.reduceMul, Int.reduceToNat, Nat.reduceShiftRight, Nat.reduceAnd, Nat.reduceBNe]
  refine ⟨fun hc => ?_, fun hc => ?_⟩
  · refine ⟨by simp only [inR]; omega, by simp only [inR]; omega, by simp only [inR]; omega, ?_⟩
    refine call_rule (fill23_12 hK hR hk hY _ a0 (a1 - (q : Int)) c0 (c1 - (q : Int)) c2 x00 x01 x02 x10 (q : Int) (ys.getD 1 0) (hpre q (by omega)) (by omega)) ?_
    rintro v h' ⟨rfl, ys2, rfl⟩
    simp -implicitDefEqProofs only [Int.sub_add_cancel, gK1 hK, gK2 hK, gK3 hK, gK4 hK, gK5 hK, gK6 hK, gK7 hK, gK8 hK, sK1 hK, sK2 hK, sK3 hK, sK4 hK, sK5 hK, sK6 hK, sK7 hK, sK8 hK, kb, List.length_append, beq_self_eq_true, L23, push_cast, Nat.reduceBEq, Nat.reduceLT, Nat.reduceLeDiff, Nat.reduceAdd, Nat.reduceSub, Nat.reduceMul, Nat.reduceEqDiff, reduceCtorEq, ↓reduceIte, Int.reduceEq, Int.reduceLT, Int.reduceLE, Int.reduceNe, Int.reduceAdd, Int.reduceSub, Int.reduceMul, Int.reduceToNat, Nat.reduceShiftRight, Nat.reduceAnd, Nat.reduceBNe]
    refine ⟨by simp only [inR]; omega, by simp only [inR]; omega, by simp only [inR]; omega, (q + 1, (q : Int) :: ys2), by simp only; omega, by simp only; omega, ?_⟩
    simp only [hYs, List.foldl_append]
    exact wk_tk rfl
  · have hqe : q = (min a1 c1 + 1).toNat := by omega
    subst hqe
    refine fin_app (n := K + 9) (by simp [hK]) (by simp [hK] <;> omega) rfl (hR _ _ (by omega)) ?_ ⟨rfl, ys, ?_⟩
    · simp [rowsRefs, rowRefs, refsLtL, refsLt, NatBlt]; omega
    · rfl
theorem fill23_10 (hK : ∀ s, (C s).length = K + 1) (hR : ∀ s n, K + 1 ≤ n → rowsRefs n (C s) = true) (hk : k < K + 1) (hY : Yields23 J C K k upd r0 r1 k0 k1 k2) (s : σ) (a0 a1 c0 c1 c2 x00 x01 x02 x10 x11 x12 : Int) (hJ : Pre J upd s ((rowE (a1) [c0, c1, c2]).flatMap fun tl => (tabE [] (subC [c0, c1, c2] tl)).map fun rest => [x00, x01, x02] :: (tl) :: rest)) (hi : 0 ≤ x00 ∧ 0 ≤ x01 ∧ 0 ≤ x02 ∧ x00 + x01 + x02 = r0 ∧ a1 = r1 ∧ 0 ≤ a1 ∧ x00 + c0 = k0 ∧ 0 ≤ c0 ∧ x01 + c1 = k1 ∧ 0 ≤ c1 ∧ x02 + c2 = k2 ∧ 0 ≤ c2 ∧ r0 ≤ 20 ∧ r1 ≤ 20 ∧ k0 ≤ 20 ∧ k1 ≤ 20 ∧ k2 ≤ 20) :
    VCalls Tryd.prog 56 ([I 1, I 0] ++ caps23 K) (C s ++ L23 K k a0 a1 c0 c1 c2 x00 x01 x02 x10 x11 x12) (fun v h' => v = B true ∧ ∃ ys : List Int, h' = C (((rowE (a1) [c0, c1, c2]).flatMap fun tl => (tabE [] (subC [c0, c1, c2] tl)).map fun rest => [x00, x01, x02] :: (tl) :: rest).foldl upd s) ++ L23 K k a0 a1 c0 c1 c2 x00 x01 x02 (ys.getD 0 0) (ys.getD 1 0) (ys.getD 2 0)) := by
  have kb := kbeq K
  obtain ⟨Yp, hYp⟩ : ∃ Yp : Nat → List (List (List Int)), Yp = fun N => (List.range N).flatMap fun (q : Nat) => ((rowE ((a1 - ((q : Nat) : Int))) [c1, c2]).flatMap fun tl => (tabE [] ((c0 - ((q : Nat) : Int)) :: subC [c1, c2] tl)).map fun rest => [x00, x01, x02] :: (((q : Nat) : Int) :: tl) :: rest) := ⟨_, rfl⟩
  have hY0 : Yp 0 = [] := by rw [hYp]; rfl
  have hYs : ∀ q : Nat, Yp (q + 1) = Yp q ++ ((rowE ((a1 - ((q : Nat) : Int))) [c1, c2]).flatMap fun tl => (tabE [] ((c0 - ((q : Nat) : Int)) :: subC [c1, c2] tl)).map fun rest => [x00, x01, x02] :: (((q : Nat) : Int) :: tl) :: rest) := by
    intro q
    simp only [hYp, List.range_succ, List.flatMap_append, List.flatMap_cons, List.flatMap_nil, List.append_nil]
  have hYe : ((rowE (a1) [c0, c1, c2]).flatMap fun tl => (tabE [] (subC [c0, c1, c2] tl)).map fun rest => [x00, x01, x02] :: (tl) :: rest) = Yp (min a1 c0 + 1).toNat := by
    rw [hYp]
    simp only [rowE, subC, List.flatMap_assoc, List.flatMap_map]
  rw [hYe] at hJ ⊢
  have hpre := pre_steps hYs _ hJ
  clear hYe hYp
  refine vcalls_fn hmix h56 rfl ?_
  simp -implicitDefEqProofs only [c56, caps23, gK1 hK, gK2 hK, gK3 hK, gK4 hK, gK5 hK, gK6 hK, gK7 hK, gK8 hK, sK1 hK, sK2 hK, sK3 hK, sK4 hK, sK5 hK, sK6 hK, sK7 hK, sK8 hK, kb, List.length_append, beq_self_eq_true, L23, push_cast, Nat.reduceBEq, Nat.reduceLT, Nat.reduceLeDiff, Nat.reduceAdd, Nat.reduceSub, Nat.reduceMul, Nat.reduceEqDiff, reduceCtorEq, ↓reduceIte, Int.reduceEq, Int.reduceLT, Int.reduceLE, Int.reduceNe, Int.reduceAdd, Int.reduceSub, Int.reduceMul, Int.reduceToNat, Nat.reduceShiftRight, Nat.reduceAnd, Nat.reduceBNe]
  refine ⟨by simp only [inR]; omega, by simp only [inR]; omega, ?_⟩
  refine loop_w (α := Nat × List Int) (fun b => ⟨[(77, I b.1), (76, I (min a1 c0 + 1)), (6, .ptr (K + 8) 0), (5, .ptr (K + 2) 0), (3, .ptr (K + 3) 0), (2, .ptr (K + 5) 0), (1, I 0), (0, I 1)], C ((Yp b.1).foldl upd s) ++ L23 K k a0 a1 c0 c1 c2 x00 x01 x02 (b.2.getD 0 0) (b.2.getD 1 0) (b.2.getD 2 0), []⟩)
    (fun b => b.1 ≤ (min a1 c0 + 1).toNat) (fun b => (min a1 c0 + 1).toNat - b.1) (0, [x10, x11, x12]) (by rw [hY0]; exact wk_tk rfl) (by simp only; omega) ?_
  rintro ⟨q, ys⟩ hq
  simp only at hq
  simp -implicitDefEqProofs only [c56L0, gK1 hK, gK2 hK, gK3 hK, gK4 hK, gK5 hK, gK6 hK, gK7 hK, gK8 hK, sK1 hK, sK2 hK, sK3 hK, sK4 hK, sK5 hK, sK6 hK, sK7 hK, sK8 hK, kb, List.length_append, beq_self_eq_true, L23, push_cast, Nat.reduceBEq, Nat.reduceLT, Nat.reduceLeDiff, Nat.reduceAdd, Nat.reduceSub, Nat.reduceMul, Nat.reduceEqDiff, reduceCtorEq, ↓reduceIte, Int.reduceEq, Int.reduceLT, Int.reduceLE, Int.reduceNe, Int.reduceAdd, Int.reduceSub, Int.reduceMul, Int.reduceToNat, Nat.reduceShiftRight, Nat.reduceAnd, Nat.reduceBNe]
  refine ⟨fun hc => ?_, fun hc => ?_⟩
  · refine ⟨by simp only [inR]; omega, by simp only [inR]; omega, by simp only [inR]; omega, ?_⟩
    refine call_rule (fill23_11 hK hR hk hY _ a0 (a1 - (q : Int)) (c0 - (q : Int)) c1 c2 x00 x01 x02 (q : Int) (ys.getD 1 0) (ys.getD 2 0) (hpre q (by omega)) (by omega)) ?_
    rintro v h' ⟨rfl, ys2, rfl⟩
    simp -implicitDefEqProofs only [Int.sub_add_cancel, gK1 hK, gK2 hK, gK3 hK, gK4 hK, gK5 hK, gK6 hK, gK7 hK, gK8 hK, sK1 hK, sK2 hK, sK3 hK, sK4 hK, sK5 hK, sK6 hK, sK7 hK, sK8 hK, kb, List.length_append, beq_self_eq_true, L23, push_cast, Nat.reduceBEq, Nat.reduceLT, Nat.reduceLeDiff, Nat.reduceAdd, Nat.reduceSub, Nat.reduceMul, Nat.reduceEqDiff, reduceCtorEq, ↓reduceIte, Int.reduceEq, Int.reduceLT, Int.reduceLE, Int.reduceNe, Int.reduceAdd, Int.reduceSub, Int.reduceMul, Int.reduceToNat, Nat.reduceShiftRight, Nat.reduceAnd, Nat.reduceBNe]
    refine ⟨by simp only [inR]; omega, by simp only [inR]; omega, by simp only [inR]; omega, (q + 1, (q : Int) :: ys2), by simp only; omega, by simp only; omega, ?_⟩
    simp only [hYs, List.foldl_append]
    exact wk_tk rfl
  · have hqe : q = (min a1 c0 + 1).toNat := by omega
    subst hqe
    refine fin_app (n := K + 9) (by simp [hK]) (by simp [hK] <;> omega) rfl (hR _ _ (by omega)) ?_ ⟨rfl, ys, ?_⟩
    · simp [rowsRefs, rowRefs, refsLtL, refsLt, NatBlt]; omega
    · rfl
theorem fill23_02 (hK : ∀ s, (C s).length = K + 1) (hR : ∀ s n, K + 1 ≤ n → rowsRefs n (C s) = true) (hk : k < K + 1) (hY : Yields23 J C K k upd r0 r1 k0 k1 k2) (s : σ) (a0 a1 c0 c1 c2 x00 x01 x02 x10 x11 x12 : Int) (hJ : Pre J upd s ((rowE (a0) [c2]).flatMap fun tl => (tabE [a1] (c0 :: c1 :: subC [c2] tl)).map fun rest => (x00 :: x01 :: tl) :: rest)) (hi : 0 ≤ x00 ∧ 0 ≤ x01 ∧ x00 + x01 + a0 = r0 ∧ 0 ≤ a0 ∧ a1 = r1 ∧ 0 ≤ a1 ∧ x00 + c0 = k0 ∧ 0 ≤ c0 ∧ x01 + c1 = k1 ∧ 0 ≤ c1 ∧ c2 = k2 ∧ 0 ≤ c2 ∧ r0 ≤ 20 ∧ r1 ≤ 20 ∧ k0 ≤ 20 ∧ k1 ≤ 20 ∧ k2 ≤ 20) :
    VCalls Tryd.prog 56 ([I 0, I 2] ++ caps23 K) (C s ++ L23 K k a0 a1 c0 c1 c2 x00 x01 x02 x10 x11 x12) (fun v h' => v = B true ∧ ∃ ys : List Int, h' = C (((rowE (a0) [c2]).flatMap fun tl => (tabE [a1] (c0 :: c1 :: subC [c2] tl)).map fun rest => (x00 :: x01 :: tl) :: rest).foldl upd s) ++ L23 K k a0 a1 c0 c1 c2 x00 x01 (ys.getD 0 0) (ys.getD 1 0) (ys.getD 2 0) (ys.getD 3 0)) := by
  have kb := kbeq K
  refine vcalls_fn hmix h56 rfl ?_
  simp -implicitDefEqProofs only [c56, caps23, gK1 hK, gK2 hK, gK3 hK, gK4 hK, gK5 hK, gK6 hK, gK7 hK, gK8 hK, sK1 hK, sK2 hK, sK3 hK, sK4 hK, sK5 hK, sK6 hK, sK7 hK, sK8 hK, kb, List.length_append, beq_self_eq_true, L23, push_cast, Nat.reduceBEq, Nat.reduceLT, Nat.reduceLeDiff, Nat.reduceAdd, Nat.reduceSub, Nat.reduceMul, Nat.reduceEqDiff, reduceCtorEq, ↓reduceIte, Int.reduceEq, Int.reduceLT, Int.reduceLE, Int.reduceNe, Int.reduceAdd, Int.reduceSub, Int.reduceMul, Int.reduceToNat, Nat.reduceShiftRight, Nat.reduceAnd, Nat.reduceBNe]
  refine ⟨by simp only [inR]; omega, fun hlt => ?_, fun hle => ?_⟩
  · skip
    refine fin_app (n := K + 9) (by simp [hK]) (by simp [hK] <;> omega) rfl (hR _ _ (by omega)) ?_ ⟨rfl, [x02, x10, x11, x12], ?_⟩
    · simp [rowsRefs, rowRefs, refsLtL, refsLt, NatBlt]; omega
    · rw [show rowE a0 [c2] = [] from if_neg (by omega)]; rfl
  · refine ⟨by simp only [inR]; omega, by simp only [inR]; omega, ?_⟩
    have e : ((rowE (a0) [c2]).flatMap fun tl => (tabE [a1] (c0 :: c1 :: subC [c2] tl)).map fun rest => (x00 :: x01 :: tl) :: rest) = ((rowE (a1) [c0, c1, (c2 - a0)]).flatMap fun tl => (tabE [] (subC [c0, c1, (c2 - a0)] tl)).map fun rest => [x00, x01, a0] :: (tl) :: rest) := by
      rw [show rowE a0 [c2] = [[a0]] from if_pos (by omega)]
      simp only [tabE_cons, subC, List.map_flatMap, List.map_map, List.flatMap_cons, List.flatMap_nil, List.append_nil, Function.comp_def, List.nil_append, List.cons_append]
    rw [e] at hJ
    refine call_rule (fill23_10 hK hR hk hY s a0 a1 c0 c1 (c2 - a0) x00 x01 a0 x10 x11 x12 hJ (by omega)) ?_
    rintro v h' ⟨rfl, ys, rfl⟩
    simp -implicitDefEqProofs only [Int.sub_add_cancel, gK1 hK, gK2 hK, gK3 hK, gK4 hK, gK5 hK, gK6 hK, gK7 hK, gK8 hK, sK1 hK, sK2 hK, sK3 hK, sK4 hK, sK5 hK, sK6 hK, sK7 hK, sK8 hK, kb, List.length_append, beq_self_eq_true, L23, push_cast, Nat.reduceBEq, Nat.reduceLT, Nat.reduceLeDiff, Nat.reduceAdd, Nat.reduceSub, Nat.reduceMul, Nat.reduceEqDiff, reduceCtorEq, ↓reduceIte, Int.reduceEq, Int.reduceLT, Int.reduceLE, Int.reduceNe, Int.reduceAdd, Int.reduceSub, Int.reduceMul, Int.reduceToNat, Nat.reduceShiftRight, Nat.reduceAnd, Nat.reduceBNe]
    refine ⟨by simp only [inR]; omega, ?_⟩
    refine fin_app (n := K + 9) (by simp [hK]) (by simp [hK] <;> omega) rfl (hR _ _ (by omega)) ?_ ⟨rfl, a0 :: ys, ?_⟩
    · simp [rowsRefs, rowRefs, refsLtL, refsLt, NatBlt]; omega
    · rw [e]; rfl
theorem fill23_01 (hK : ∀ s, (C s).length = K + 1) (hR : ∀ s n, K + 1 ≤ n → rowsRefs n (C s) = true) (hk : k < K + 1) (hY : Yields23 J C K k upd r0 r1 k0 k1 k2) (s : σ) (a0 a1 c0 c1 c2 x00 x01 x02 x10 x11 x12 : Int) (hJ : Pre J upd s ((rowE (a0) [c1, c2]).flatMap fun tl => (tabE [a1] (c0 :: subC [c1, c2] tl)).map fun rest => (x00 :: tl) :: rest)) (hi : 0 ≤ x00 ∧ x00 + a0 = r0 ∧ 0 ≤ a0 ∧ a1 = r1 ∧ 0 ≤ a1 ∧ x00 + c0 = k0 ∧ 0 ≤ c0 ∧ c1 = k1 ∧ 0 ≤ c1 ∧ c2 = k2 ∧ 0 ≤ c2 ∧ r0 ≤ 20 ∧ r1 ≤ 20 ∧ k0 ≤ 20 ∧ k1 ≤ 20 ∧ k2 ≤ 20) :
    VCalls Tryd.prog 56 ([I 0, I 1] ++ caps23 K) (C s ++ L23 K k a0 a1 c0 c1 c2 x00 x01 x02 x10 x11 x12) (fun v h' => v = B true ∧ ∃ ys : List Int, h' = C (((rowE (a0) [c1, c2]).flatMap fun tl => (tabE [a1] (c0 :: subC [c1, c2] tl)).map fun rest => (x00 :: tl) :: rest).foldl upd s) ++ L23 K k a0 a1 c0 c1 c2 x00 (ys.getD 0 0) (ys.getD 1 0) (ys.getD 2 0) (ys.getD 3 0) (ys.getD 4 0)) := by
  have kb := kbeq K
  obtain ⟨Yp, hYp⟩ : ∃ Yp : Nat → List (List (List Int)), Yp = fun N => (List.range N).flatMap fun (q : Nat) => ((rowE ((a0 - ((q : Nat) : Int))) [c2]).flatMap fun tl => (tabE [a1] (c0 :: (c1 - ((q : Nat) : Int)) :: subC [c2] tl)).map fun rest => (x00 :: ((q : Nat) : Int) :: tl) :: rest) := ⟨_, rfl⟩
  have hY0 : Yp 0 = [] := by rw [hYp]; rfl
  have hYs : ∀ q : Nat, Yp (q + 1) = Yp q ++ ((rowE ((a0 - ((q : Nat) : Int))) [c2]).flatMap fun tl => (tabE [a1] (c0 :: (c1 - ((q : Nat) : Int)) :: subC [c2] tl)).map fun rest => (x00 :: ((q : Nat) : Int) :: tl) :: rest) := by
    intro q
    simp only [hYp, List.range_succ, List.flatMap_append, List.flatMap_cons, List.flatMap_nil, List.append_nil]
  have hYe : ((rowE (a0) [c1, c2]).flatMap fun tl => (tabE [a1] (c0 :: subC [c1, c2] tl)).map fun rest => (x00 :: tl) :: rest) = Yp (min a0 c1 + 1).toNat := by
    rw [hYp]
    simp only [rowE, subC, List.flatMap_assoc, List.flatMap_map]
  rw [hYe] at hJ ⊢
  have hpre := pre_steps hYs _ hJ
  clear hYe hYp
  refine vcalls_fn hmix h56 rfl ?_
  simp -implicitDefEqProofs only [c56, caps23, gK1 hK, gK2 hK, gK3 hK, gK4 hK, gK5 hK, gK6 hK, gK7 hK, gK8 hK, sK1 hK, sK2 hK, sK3 hK, sK4 hK, sK5 hK, sK6 hK, sK7 hK, sK8 hK, kb, List.length_append, beq_self_eq_true, L23, push_cast, Nat.reduceBEq, Nat.reduceLT, Nat.reduceLeDiff, Nat.reduceAdd, Nat.reduceSub, Nat.reduceMul, Nat.reduceEqDiff, reduceCtorEq, ↓reduceIte, Int.reduceEq, Int.reduceLT, Int.reduceLE, Int.reduceNe, Int.reduceAdd, Int.reduceSub, Int.reduceMul, Int.reduceToNat, Nat.reduceShiftRight, Nat.reduceAnd, Nat.reduceBNe]
  refine ⟨by simp only [inR]; omega, by simp only [inR]; omega, ?_⟩
  refine loop_w (α := Nat × List Int) (fun b => ⟨[(77, I b.1), (76, I (min a0 c1 + 1)), (6, .ptr (K + 8) 0), (5, .ptr (K + 2) 0), (3, .ptr (K + 3) 0), (2, .ptr (K + 5) 0), (1, I 1), (0, I 0)], C ((Yp b.1).foldl upd s) ++ L23 K k a0 a1 c0 c1 c2 x00 (b.2.getD 0 0) (b.2.getD 1 0) (b.2.getD 2 0) (b.2.getD 3 0) (b.2.getD 4 0), []⟩)
    (fun b => b.1 ≤ (min a0 c1 + 1).toNat) (fun b => (min a0 c1 + 1).toNat - b.1) (0, [x01, x02, x10, x11, x12]) (by rw [hY0]; exact wk_tk rfl) (by simp only; omega) ?_
  rintro ⟨q, ys⟩ hq
  simp only at hq
  simp -implicitDefEqProofs only [c56L0, gK1 hK, gK2 hK, gK3 hK, gK4 hK, gK5 hK, gK6 hK, gK7 hK, gK8 hK, sK1 hK, sK2 hK, sK3 hK, sK4 hK, sK5 hK, sK6 hK, sK7 hK, sK8 hK, kb, List.length_append, beq_self_eq_true, L23, push_cast, Nat.reduceBEq, Nat.reduceLT, Nat.reduceLeDiff, Nat.reduceAdd, Nat.reduceSub, Nat.reduceMul, Nat.reduceEqDiff, reduceCtorEq, ↓reduceIte, Int.reduceEq, Int.reduceLT, Int.reduceLE, Int.reduceNe, Int.reduceAdd, Int.reduceSub, Int.reduceMul, Int.reduceToNat, Nat.reduceShiftRight, Nat.reduceAnd, Nat.reduceBNe]
  refine ⟨fun hc => ?_, fun hc => ?_⟩
  · refine ⟨by simp only [inR]; omega, by simp only [inR]; omega, by simp only [inR]; omega, ?_⟩
    refine call_rule (fill23_02 hK hR hk hY _ (a0 - (q : Int)) a1 c0 (c1 - (q : Int)) c2 x00 (q : Int) (ys.getD 1 0) (ys.getD 2 0) (ys.getD 3 0) (ys.getD 4 0) (hpre q (by omega)) (by omega)) ?_
    rintro v h' ⟨rfl, ys2, rfl⟩
    simp -implicitDefEqProofs only [Int.sub_add_cancel, gK1 hK, gK2 hK, gK3 hK, gK4 hK, gK5 hK, gK6 hK, gK7 hK, gK8 hK, sK1 hK, sK2 hK, sK3 hK, sK4 hK, sK5 hK, sK6 hK, sK7 hK, sK8 hK, kb, List.length_append, beq_self_eq_true, L23, push_cast, Nat.reduceBEq, Nat.reduceLT, Nat.reduceLeDiff, Nat.reduceAdd, Nat.reduceSub, Nat.reduceMul, Nat.reduceEqDiff, reduceCtorEq, ↓reduceIte, Int.reduceEq, Int.reduceLT, Int.reduceLE, Int.reduceNe, Int.reduceAdd, Int.reduceSub, Int.reduceMul, Int.reduceToNat, Nat.reduceShiftRight, Nat.reduceAnd, Nat.reduceBNe]
    refine ⟨by simp only [inR]; omega, by simp only [inR]; omega, by simp only [inR]; omega, (q + 1, (q : Int) :: ys2), by simp only; omega, by simp only; omega, ?_⟩
    simp only [hYs, List.foldl_append]
    exact wk_tk rfl
  · have hqe : q = (min a0 c1 + 1).toNat := by omega
    subst hqe
    refine fin_app (n := K + 9) (by simp [hK]) (by simp [hK] <;> omega) rfl (hR _ _ (by omega)) ?_ ⟨rfl, ys, ?_⟩
    · simp [rowsRefs, rowRefs, refsLtL, refsLt, NatBlt]; omega
    · rfl
theorem fill23_00 (hK : ∀ s, (C s).length = K + 1) (hR : ∀ s n, K + 1 ≤ n → rowsRefs n (C s) = true) (hk : k < K + 1) (hY : Yields23 J C K k upd r0 r1 k0 k1 k2) (s : σ) (a0 a1 c0 c1 c2 x00 x01 x02 x10 x11 x12 : Int) (hJ : Pre J upd s ((rowE (a0) [c0, c1, c2]).flatMap fun tl => (tabE [a1] (subC [c0, c1, c2] tl)).map fun rest => (tl) :: rest)) (hi : a0 = r0 ∧ 0 ≤ a0 ∧ a1 = r1 ∧ 0 ≤ a1 ∧ c0 = k0 ∧ 0 ≤ c0 ∧ c1 = k1 ∧ 0 ≤ c1 ∧ c2 = k2 ∧ 0 ≤ c2 ∧ r0 ≤ 20 ∧ r1 ≤ 20 ∧ k0 ≤ 20 ∧ k1 ≤ 20 ∧ k2 ≤ 20) :
    VCalls Tryd.prog 56 ([I 0, I 0] ++ caps23 K) (C s ++ L23 K k a0 a1 c0 c1 c2 x00 x01 x02 x10 x11 x12) (fun v h' => v = B true ∧ ∃ ys : List Int, h' = C (((rowE (a0) [c0, c1, c2]).flatMap fun tl => (tabE [a1] (subC [c0, c1, c2] tl)).map fun rest => (tl) :: rest).foldl upd s) ++ L23 K k a0 a1 c0 c1 c2 (ys.getD 0 0) (ys.getD 1 0) (ys.getD 2 0) (ys.getD 3 0) (ys.getD 4 0) (ys.getD 5 0)) := by
  have kb := kbeq K
  obtain ⟨Yp, hYp⟩ : ∃ Yp : Nat → List (List (List Int)), Yp = fun N => (List.range N).flatMap fun (q : Nat) => ((rowE ((a0 - ((q : Nat) : Int))) [c1, c2]).flatMap fun tl => (tabE [a1] ((c0 - ((q : Nat) : Int)) :: subC [c1, c2] tl)).map fun rest => (((q : Nat) : Int) :: tl) :: rest) := ⟨_, rfl⟩
  have hY0 : Yp 0 = [] := by rw [hYp]; rfl
  have hYs : ∀ q : Nat, Yp (q + 1) = Yp q ++ ((rowE ((a0 - ((q : Nat) : Int))) [c1, c2]).flatMap fun tl => (tabE [a1] ((c0 - ((q : Nat) : Int)) :: subC [c1, c2] tl)).map fun rest => (((q : Nat) : Int) :: tl) :: rest) := by
    intro q
    simp only [hYp, List.range_succ, List.flatMap_append, List.flatMap_cons, List.flatMap_nil, List.append_nil]
  have hYe : ((rowE (a0) [c0, c1, c2]).flatMap fun tl => (tabE [a1] (subC [c0, c1, c2] tl)).map fun rest => (tl) :: rest) = Yp (min a0 c0 + 1).toNat := by
    rw [hYp]
    simp only [rowE, subC, List.flatMap_assoc, List.flatMap_map]
  rw [hYe] at hJ ⊢
  have hpre := pre_steps hYs _ hJ
  clear hYe hYp
  refine vcalls_fn hmix h56 rfl ?_
  simp -implicitDefEqProofs only [c56, caps23, gK1 hK, gK2 hK, gK3 hK, gK4 hK, gK5 hK, gK6 hK, gK7 hK, gK8 hK, sK1 hK, sK2 hK, sK3 hK, sK4 hK, sK5 hK, sK6 hK, sK7 hK, sK8 hK, kb, List.length_append, beq_self_eq_true, L23, push_cast, Nat.reduceBEq, Nat.reduceLT, Nat.reduceLeDiff, Nat.reduceAdd, Nat.reduceSub, Nat.reduceMul, Nat.reduceEqDiff, reduceCtorEq, ↓reduceIte, Int.reduceEq, Int.reduceLT, Int.reduceLE, Int.reduceNe, Int.reduceAdd, Int.reduceSub, Int.reduceMul, Int.reduceToNat, Nat.reduceShiftRight, Nat.reduceAnd, Nat.reduceBNe]
  refine ⟨by simp only [inR]; omega, by simp only [inR]; omega, ?_⟩
  refine loop_w (α := Nat × List Int) (fun b => ⟨[(77, I b.1), (76, I (min a0 c0 + 1)), (6, .ptr (K + 8) 0), (5, .ptr (K + 2) 0), (3, .ptr (K + 3) 0), (2, .ptr (K + 5) 0), (1, I 0), (0, I 0)], C ((Yp b.1).foldl upd s) ++ L23 K k a0 a1 c0 c1 c2 (b.2.getD 0 0) (b.2.getD 1 0) (b.2.getD 2 0) (b.2.getD 3 0) (b.2.getD 4 0) (b.2.getD 5 0), []⟩)
    (fun b => b.1 ≤ (min a0 c0 + 1).toNat) (fun b => (min a0 c0 + 1).toNat - b.1) (0, [x00, x01, x02, x10, x11, x12]) (by rw [hY0]; exact wk_tk rfl) (by simp only; omega) ?_
  rintro ⟨q, ys⟩ hq
  simp only at hq
  simp -implicitDefEqProofs only [c56L0, gK1 hK, gK2 hK, gK3 hK, gK4 hK, gK5 hK, gK6 hK, gK7 hK, gK8 hK, sK1 hK, sK2 hK, sK3 hK, sK4 hK, sK5 hK, sK6 hK, sK7 hK, sK8 hK, kb, List.length_append, beq_self_eq_true, L23, push_cast, Nat.reduceBEq, Nat.reduceLT, Nat.reduceLeDiff, Nat.reduceAdd, Nat.reduceSub, Nat.reduceMul, Nat.reduceEqDiff, reduceCtorEq, ↓reduceIte, Int.reduceEq, Int.reduceLT, Int.reduceLE, Int.reduceNe, Int.reduceAdd, Int.reduceSub, Int.reduceMul, Int.reduceToNat, Nat.reduceShiftRight, Nat.reduceAnd, Nat.reduceBNe]
  refine ⟨fun hc => ?_, fun hc => ?_⟩
  · refine ⟨by simp only [inR]; omega, by simp only [inR]; omega, by simp only [inR]; omega, ?_⟩
    refine call_rule (fill23_01 hK hR hk hY _ (a0 - (q : Int)) a1 (c0 - (q : Int)) c1 c2 (q : Int) (ys.getD 1 0) (ys.getD 2 0) (ys.getD 3 0) (ys.getD 4 0) (ys.getD 5 0) (hpre q (by omega)) (by omega)) ?_
    rintro v h' ⟨rfl, ys2, rfl⟩
    simp -implicitDefEqProofs only [Int.sub_add_cancel, gK1 hK, gK2 hK, gK3 hK, gK4 hK, gK5 hK, gK6 hK, gK7 hK, gK8 hK, sK1 hK, sK2 hK, sK3 hK, sK4 hK, sK5 hK, sK6 hK, sK7 hK, sK8 hK, kb, List.length_append, beq_self_eq_true, L23, push_cast, Nat.reduceBEq, Nat.reduceLT, Nat.reduceLeDiff, Nat.reduceAdd, Nat.reduceSub, Nat.reduceMul, Nat.reduceEqDiff, reduceCtorEq, ↓reduceIte, Int.reduceEq, Int.reduceLT, Int.reduceLE, Int.reduceNe, Int.reduceAdd, Int.reduceSub, Int.reduceMul, Int.reduceToNat, Nat.reduceShiftRight, Nat.reduceAnd, Nat.reduceBNe]
    refine ⟨by simp only [inR]; omega, by simp only [inR]; omega, by simp only [inR]; omega, (q + 1, (q : Int) :: ys2), by simp only; omega, by simp only; omega, ?_⟩
    simp only [hYs, List.foldl_append]
    exact wk_tk rfl
  · have hqe : q = (min a0 c0 + 1).toNat := by omega
    subst hqe
    refine fin_app (n := K + 9) (by simp [hK]) (by simp [hK] <;> omega) rfl (hR _ _ (by omega)) ?_ ⟨rfl, ys, ?_⟩
    · simp [rowsRefs, rowRefs, refsLtL, refsLt, NatBlt]; omega
    · rfl
end
end Go.Proofs.YtligakiolapkkaaDoor
