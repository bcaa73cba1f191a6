/- Texts of this claim, joined: an abstract machine over the model, proved sound; contracts of functions. -/
import Derived.KernelRfl
import Derived.Test.YtcplbmlebogffaaM2
set_option linter.unusedSimpArgs false
set_option linter.unusedVariables false

namespace Go.Proofs.Ytcplbmlebogffaa
open Go GoV

def c6L0 : AC := (AC.reg false [{ dst := some 40, ins := GoV.Instr.bin BinOp.lss (Opd.t 39) (Opd.t 38), guard := none }]).seq ((AC.cond (Opd.t 40) AC.skip (AC.exit 0)).seq ((AC.block 1 ((AC.reg false [{ dst := some 41, ins := GoV.Instr.mov (Opd.t 39), guard := none }, { dst := some 42, ins := GoV.Instr.idxA 1 (Opd.t 37) (Opd.t 39), guard := none }, { dst := some 43, ins := GoV.Instr.load 1 false (Opd.t 42), guard := none }, { dst := some 10, ins := GoV.Instr.mov (Opd.t 41), guard := none }, { dst := some 11, ins := GoV.Instr.mov (Opd.t 43), guard := none }]).seq (AC.reg false [{ dst := some 44, ins := GoV.Instr.mov (Opd.t 8), guard := none }, { dst := some 45, ins := GoV.Instr.mov (Opd.t 10), guard := none }, { dst := some 46, ins := GoV.Instr.mov (Opd.t 9), guard := none }, { dst := some 47, ins := GoV.Instr.mov (Opd.t 11), guard := none }, { dst := some 48, ins := GoV.Instr.mov (Opd.t 5), guard := none }, { dst := some 49, ins := GoV.Instr.mov (Opd.t 11), guard := none }, { dst := some 50, ins := GoV.Instr.idxA 1 (Opd.t 48) (Opd.t 49), guard := none }, { dst := some 51, ins := GoV.Instr.load 1 false (Opd.t 50), guard := none }, { dst := some 52, ins := GoV.Instr.mov (Opd.t 10), guard := none }, { dst := some 53, ins := GoV.Instr.idxA 1 (Opd.t 44) (Opd.t 45), guard := none }, { dst := none, ins := GoV.Instr.store 1 (Opd.t 53) (Opd.t 51), guard := none }, { dst := some 54, ins := GoV.Instr.idxA 1 (Opd.t 46) (Opd.t 47), guard := none }, { dst := none, ins := GoV.Instr.store 1 (Opd.t 54) (Opd.t 52), guard := none }]))).seq (AC.reg false [{ dst := some 55, ins := GoV.Instr.bin BinOp.add (Opd.t 39) (Opd.c (AV.dat (Ty.int IntKind.i64) (1 : Int))), guard := none }, { dst := some 39, ins := GoV.Instr.mov (Opd.t 55), guard := none }])))
def c6L1 : AC := (AC.reg false [{ dst := some 102, ins := GoV.Instr.bin BinOp.lss (Opd.t 101) (Opd.t 100), guard := none }]).seq ((AC.cond (Opd.t 102) AC.skip (AC.exit 2)).seq ((AC.block 3 ((AC.reg false [{ dst := some 103, ins := GoV.Instr.mov (Opd.t 101), guard := none }, { dst := some 104, ins := GoV.Instr.idxA 1 (Opd.t 99) (Opd.t 101), guard := none }, { dst := some 105, ins := GoV.Instr.load 1 false (Opd.t 104), guard := none }, { dst := some 18, ins := GoV.Instr.mov (Opd.t 103), guard := none }, { dst := some 19, ins := GoV.Instr.mov (Opd.t 105), guard := none }]).seq ((AC.reg true [{ dst := some 106, ins := GoV.Instr.mov (Opd.t 16), guard := none }, { dst := some 107, ins := GoV.Instr.mov (Opd.t 18), guard := none }, { dst := some 108, ins := GoV.Instr.idxA 1 (Opd.t 106) (Opd.t 107), guard := none }, { dst := some 109, ins := GoV.Instr.load 1 false (Opd.t 108), guard := none }, { dst := some 110, ins := GoV.Instr.mov (Opd.t 14), guard := none }, { dst := some 111, ins := GoV.Instr.mov (Opd.t 19), guard := none }, { dst := some 112, ins := GoV.Instr.idxA 1 (Opd.t 110) (Opd.t 111), guard := none }, { dst := some 113, ins := GoV.Instr.load 1 false (Opd.t 112), guard := none }, { dst := some 114, ins := GoV.Instr.bin BinOp.neq (Opd.t 109) (Opd.t 113), guard := none }]).seq (AC.cond (Opd.t 114) ((AC.reg false [{ dst := some 4, ins := GoV.Instr.mov (Opd.c (AV.dat Ty.bool false)), guard := none }]).seq AC.ret) AC.skip)))).seq (AC.reg false [{ dst := some 115, ins := GoV.Instr.bin BinOp.add (Opd.t 101) (Opd.c (AV.dat (Ty.int IntKind.i64) (1 : Int))), guard := none }, { dst := some 101, ins := GoV.Instr.mov (Opd.t 115), guard := none }])))
def c6 : FnC := { n := 125, body := (AC.reg false [{ dst := some 2, ins := GoV.Instr.box (Opd.t 0), guard := none }, { dst := some 4, ins := GoV.Instr.mov (Opd.c (AV.dat Ty.bool false)), guard := none }]).seq (((AC.reg false [{ dst := some 20, ins := GoV.Instr.call (Opd.c (AV.fn 10 [] [])) [], guard := none }, { dst := some 21, ins := GoV.Instr.un UnOp.not (Opd.t 20), guard := none }]).seq (AC.cond (Opd.t 21) ((AC.reg false [{ dst := some 4, ins := GoV.Instr.mov (Opd.c (AV.dat Ty.bool false)), guard := none }]).seq AC.ret) AC.skip)).seq ((AC.reg true [{ dst := some 22, ins := GoV.Instr.load 3 true (Opd.t 2), guard := none }, { dst := some 23, ins := GoV.Instr.callp (Opd.c (AV.fn 12 [] [])) [Opd.t 22], guard := none }, { dst := some 24, ins := GoV.Instr.load 3 true (Opd.t 2), guard := none }, { dst := some 25, ins := GoV.Instr.callp (Opd.c (AV.fn 33 [] [])) [Opd.t 24], guard := none }, { dst := some 5, ins := GoV.Instr.mov (Opd.t 23), guard := none }, { dst := some 6, ins := GoV.Instr.mov (Opd.t 25), guard := none }]).seq ((AC.reg false [{ dst := some 26, ins := GoV.Instr.mov (Opd.t 1), guard := none }, { dst := some 27, ins := GoV.Instr.conv IntKind.i64 (Opd.t 26), guard := none }, { dst := some 28, ins := GoV.Instr.mov (Opd.t 5), guard := none }, { dst := some 29, ins := GoV.Instr.call (Opd.c (AV.fn 36 [] [])) [Opd.t 28], guard := none }, { dst := some 30, ins := GoV.Instr.bin BinOp.rem (Opd.t 27) (Opd.t 29), guard := none }, { dst := some 7, ins := GoV.Instr.mov (Opd.t 30), guard := none }]).seq ((AC.regG 2 [0, 1, 3, 0, 8, 24, 7, 127] [{ dst := some 31, ins := GoV.Instr.mov (Opd.t 5), guard := none }, { dst := some 32, ins := GoV.Instr.len (Opd.t 31), guard := none }, { dst := some 33, ins := GoV.Instr.mkR 2 (Ty.int IntKind.i64) 8 (Opd.t 32) (Opd.t 32), guard := none }, { dst := some 34, ins := GoV.Instr.mov (Opd.t 5), guard := none }, { dst := some 35, ins := GoV.Instr.len (Opd.t 34), guard := none }, { dst := some 36, ins := GoV.Instr.mkR 1 (Ty.int IntKind.i64) 8 (Opd.t 35) (Opd.t 35), guard := none }, { dst := some 8, ins := GoV.Instr.mov (Opd.t 33), guard := none }, { dst := some 9, ins := GoV.Instr.mov (Opd.t 36), guard := none }]).seq (((AC.reg false [{ dst := some 37, ins := GoV.Instr.mov (Opd.t 6), guard := none }, { dst := some 38, ins := GoV.Instr.len (Opd.t 37), guard := none }, { dst := some 39, ins := GoV.Instr.mov (Opd.c (AV.dat (Ty.int IntKind.i64) (0 : Int))), guard := none }]).seq (AC.block 0 (AC.loop c6L0))).seq ((AC.reg false [{ dst := some 57, ins := GoV.Instr.mov (Opd.t 5), guard := none }, { dst := some 58, ins := GoV.Instr.mov (Opd.t 6), guard := none }, { dst := some 59, ins := GoV.Instr.mov (Opd.t 7), guard := none }, { dst := some 60, ins := GoV.Instr.call (Opd.c (AV.fn 34 [] [])) [Opd.t 57, Opd.t 58, Opd.t 59], guard := none }, { dst := some 56, ins := GoV.Instr.mov (Opd.t 60), guard := none }, { dst := some 61, ins := GoV.Instr.ext (Opd.t 56) 0, guard := none }, { dst := some 62, ins := GoV.Instr.ext (Opd.t 56) 1, guard := none }, { dst := some 12, ins := GoV.Instr.mov (Opd.t 61), guard := none }, { dst := some 13, ins := GoV.Instr.mov (Opd.t 62), guard := none }]).seq ((AC.reg false [{ dst := some 64, ins := GoV.Instr.mov (Opd.t 5), guard := none }, { dst := some 65, ins := GoV.Instr.mov (Opd.t 7), guard := none }, { dst := some 66, ins := GoV.Instr.call (Opd.c (AV.fn 18 [] [])) [Opd.t 64, Opd.t 65], guard := none }, { dst := some 63, ins := GoV.Instr.mov (Opd.t 66), guard := none }, { dst := some 67, ins := GoV.Instr.ext (Opd.t 63) 0, guard := none }, { dst := some 68, ins := GoV.Instr.ext (Opd.t 63) 1, guard := none }, { dst := some 14, ins := GoV.Instr.mov (Opd.t 67), guard := none }, { dst := some 15, ins := GoV.Instr.mov (Opd.t 68), guard := none }]).seq ((AC.reg false [{ dst := some 70, ins := GoV.Instr.mov (Opd.t 8), guard := none }, { dst := some 71, ins := GoV.Instr.mov (Opd.t 12), guard := none }, { dst := some 72, ins := GoV.Instr.call (Opd.c (AV.fn 18 [] [])) [Opd.t 70, Opd.t 71], guard := none }, { dst := some 69, ins := GoV.Instr.mov (Opd.t 72), guard := none }, { dst := some 73, ins := GoV.Instr.ext (Opd.t 69) 0, guard := none }, { dst := some 74, ins := GoV.Instr.ext (Opd.t 69) 1, guard := none }, { dst := some 16, ins := GoV.Instr.mov (Opd.t 73), guard := none }, { dst := some 17, ins := GoV.Instr.mov (Opd.t 74), guard := none }]).seq (((AC.reg false [{ dst := some 75, ins := GoV.Instr.mov (Opd.t 13), guard := none }, { dst := some 76, ins := GoV.Instr.bin BinOp.neq (Opd.t 75) (Opd.c (AV.dat (Ty.int IntKind.i64) (0 : Int))), guard := none }, { dst := some 77, ins := GoV.Instr.mov (Opd.t 76), guard := none }, { dst := some 78, ins := GoV.Instr.mov (Opd.t 15), guard := some (77, false) }, { dst := some 79, ins := GoV.Instr.bin BinOp.neq (Opd.t 78) (Opd.c (AV.dat (Ty.int IntKind.i64) (0 : Int))), guard := some (77, false) }, { dst := some 80, ins := GoV.Instr.pick (Opd.t 77) (Opd.c (AV.dat Ty.bool true)) (Opd.t 79), guard := none }, { dst := some 81, ins := GoV.Instr.mov (Opd.t 80), guard := none }, { dst := some 82, ins := GoV.Instr.mov (Opd.t 17), guard := some (81, false) }, { dst := some 83, ins := GoV.Instr.bin BinOp.neq (Opd.t 82) (Opd.c (AV.dat (Ty.int IntKind.i64) (0 : Int))), guard := some (81, false) }, { dst := some 84, ins := GoV.Instr.pick (Opd.t 81) (Opd.c (AV.dat Ty.bool true)) (Opd.t 83), guard := none }, { dst := some 85, ins := GoV.Instr.mov (Opd.t 84), guard := none }, { dst := some 86, ins := GoV.Instr.mov (Opd.t 14), guard := some (85, false) }, { dst := some 87, ins := GoV.Instr.len (Opd.t 86), guard := some (85, false) }, { dst := some 88, ins := GoV.Instr.mov (Opd.t 5), guard := some (85, false) }, { dst := some 89, ins := GoV.Instr.len (Opd.t 88), guard := some (85, false) }, { dst := some 90, ins := GoV.Instr.bin BinOp.neq (Opd.t 87) (Opd.t 89), guard := some (85, false) }, { dst := some 91, ins := GoV.Instr.pick (Opd.t 85) (Opd.c (AV.dat Ty.bool true)) (Opd.t 90), guard := none }, { dst := some 92, ins := GoV.Instr.mov (Opd.t 91), guard := none }, { dst := some 93, ins := GoV.Instr.mov (Opd.t 16), guard := some (92, false) }, { dst := some 94, ins := GoV.Instr.len (Opd.t 93), guard := some (92, false) }, { dst := some 95, ins := GoV.Instr.mov (Opd.t 5), guard := some (92, false) }, { dst := some 96, ins := GoV.Instr.len (Opd.t 95), guard := some (92, false) }, { dst := some 97, ins := GoV.Instr.bin BinOp.neq (Opd.t 94) (Opd.t 96), guard := some (92, false) }, { dst := some 98, ins := GoV.Instr.pick (Opd.t 92) (Opd.c (AV.dat Ty.bool true)) (Opd.t 97), guard := none }]).seq (AC.cond (Opd.t 98) ((AC.reg false [{ dst := some 4, ins := GoV.Instr.mov (Opd.c (AV.dat Ty.bool false)), guard := none }]).seq AC.ret) AC.skip)).seq (((AC.reg false [{ dst := some 99, ins := GoV.Instr.mov (Opd.t 6), guard := none }, { dst := some 100, ins := GoV.Instr.len (Opd.t 99), guard := none }, { dst := some 101, ins := GoV.Instr.mov (Opd.c (AV.dat (Ty.int IntKind.i64) (0 : Int))), guard := none }]).seq (AC.block 2 (AC.loop c6L1))).seq ((AC.reg false [{ dst := some 116, ins := GoV.Instr.mov (Opd.t 7), guard := none }, { dst := some 117, ins := GoV.Instr.call (Opd.c (AV.fn 37 [] [])) [Opd.t 116], guard := none }, { dst := some 118, ins := GoV.Instr.mov (Opd.t 8), guard := none }, { dst := some 119, ins := GoV.Instr.mov (Opd.t 9), guard := none }, { dst := some 120, ins := GoV.Instr.mov (Opd.t 12), guard := none }, { dst := some 121, ins := GoV.Instr.call (Opd.c (AV.fn 34 [] [])) [Opd.t 118, Opd.t 119, Opd.t 120], guard := none }, { dst := some 122, ins := GoV.Instr.ext (Opd.t 121) 0, guard := none }, { dst := some 123, ins := GoV.Instr.ext (Opd.t 121) 1, guard := none }, { dst := some 124, ins := GoV.Instr.call (Opd.t 117) [Opd.t 122, Opd.t 123], guard := none }, { dst := some 4, ins := GoV.Instr.mov (Opd.t 124), guard := none }]).seq AC.ret))))))))))), res := [RV.tmp 4] }
set_option maxRecDepth 100000 in
theorem h6 : fnOf Try.prog 6 = some c6 := by kernel_rfl
def c42 : FnC := { n := 8, body := (AC.reg false [{ dst := some 2, ins := GoV.Instr.mov (Opd.c AV.nils), guard := none }]).seq (((AC.reg false [{ dst := some 3, ins := GoV.Instr.mov (Opd.t 0), guard := none }, { dst := some 4, ins := GoV.Instr.isnil true (Opd.t 3), guard := none }]).seq (AC.cond (Opd.t 4) ((AC.reg false [{ dst := some 2, ins := GoV.Instr.mov (Opd.c AV.nils), guard := none }]).seq AC.ret) AC.skip)).seq ((AC.reg false [{ dst := some 5, ins := GoV.Instr.bslice (Ty.int IntKind.i64) 0 [], guard := none }, { dst := some 6, ins := GoV.Instr.mov (Opd.t 0), guard := none }, { dst := some 7, ins := GoV.Instr.app (Ty.int IntKind.i64) 8 (Opd.t 5) (Opd.t 6), guard := none }, { dst := some 2, ins := GoV.Instr.mov (Opd.t 7), guard := none }]).seq AC.ret)), res := [RV.tmp 2] }
set_option maxRecDepth 100000 in
theorem h42 : fnOf Try.prog 42 = some c42 := by kernel_rfl
end Go.Proofs.Ytcplbmlebogffaa

namespace Go.Proofs.Ytcplbmlebogffaa
open Go GoV
set_option maxHeartbeats 2000000

theorem is_pc (n : Int) : PC Try.prog 37 [I n] (.fn 49 [] [.imm (.int .i64) n]) := by
  refine pc_fn hmix h37 rfl ?_
  simp -implicitDefEqProofs only [c37, push_cast, Nat.reduceBEq, Nat.reduceLT, Nat.reduceLeDiff, Nat.reduceAdd, Nat.reduceSub, Nat.reduceMul, Nat.reduceEqDiff, reduceCtorEq, ↓reduceIte, Int.reduceEq, Int.reduceLT, Int.reduceLE, Int.reduceNe, Int.reduceAdd, Int.reduceSub, Int.reduceMul, Int.reduceToNat, Nat.reduceShiftRight, Nat.reduceAnd, Nat.reduceBNe]
  exact finR 1 rfl ⟨rfl, trivial, ⟨Nat.le_refl 1, rfl, rfl⟩, trivial⟩

theorem fails_pc (n : Int) : PC Try.prog 38 [I n] (.fn 50 [] [.imm (.int .i64) n]) := by
  refine pc_fn hmix h38 rfl ?_
  simp -implicitDefEqProofs only [c38, push_cast, Nat.reduceBEq, Nat.reduceLT, Nat.reduceLeDiff, Nat.reduceAdd, Nat.reduceSub, Nat.reduceMul, Nat.reduceEqDiff, reduceCtorEq, ↓reduceIte, Int.reduceEq, Int.reduceLT, Int.reduceLE, Int.reduceNe, Int.reduceAdd, Int.reduceSub, Int.reduceMul, Int.reduceToNat, Nat.reduceShiftRight, Nat.reduceAnd, Nat.reduceBNe]
  exact finR 1 rfl ⟨rfl, trivial, ⟨Nat.le_refl 1, rfl, rfl⟩, trivial⟩

theorem isC_pc (n e want : Int) : PC Try.prog 49 [I n, I e, .imm (.int .i64) want] (B (decide (n = want ∧ e = 0))) := by
  refine pc_fn hmix h49 rfl ?_
  simp -implicitDefEqProofs only [c49, push_cast, Nat.reduceBEq, Nat.reduceLT, Nat.reduceLeDiff, Nat.reduceAdd, Nat.reduceSub, Nat.reduceMul, Nat.reduceEqDiff, reduceCtorEq, ↓reduceIte, Int.reduceEq, Int.reduceLT, Int.reduceLE, Int.reduceNe, Int.reduceAdd, Int.reduceSub, Int.reduceMul, Int.reduceToNat, Nat.reduceShiftRight, Nat.reduceAnd, Nat.reduceBNe]
  refine ⟨fun h => ?_, fun h => ?_⟩
  · subst h
    simp -implicitDefEqProofs only [push_cast, Nat.reduceBEq, Nat.reduceLT, Nat.reduceLeDiff, Nat.reduceAdd, Nat.reduceSub, Nat.reduceMul, Nat.reduceEqDiff, reduceCtorEq, ↓reduceIte, Int.reduceEq, Int.reduceLT, Int.reduceLE, Int.reduceNe, Int.reduceAdd, Int.reduceSub, Int.reduceMul, Int.reduceToNat, Nat.reduceShiftRight, Nat.reduceAnd, Nat.reduceBNe]
    exact finC (by simp) rfl
  · exact finC (by simp [h]) rfl

theorem failsC_pc (n e want : Int) : PC Try.prog 50 [I n, I e, .imm (.int .i64) want] (B (decide (n = 0 ∧ e = want))) := by
  refine pc_fn hmix h50 rfl ?_
  simp -implicitDefEqProofs only [c50, push_cast, Nat.reduceBEq, Nat.reduceLT, Nat.reduceLeDiff, Nat.reduceAdd, Nat.reduceSub, Nat.reduceMul, Nat.reduceEqDiff, reduceCtorEq, ↓reduceIte, Int.reduceEq, Int.reduceLT, Int.reduceLE, Int.reduceNe, Int.reduceAdd, Int.reduceSub, Int.reduceMul, Int.reduceToNat, Nat.reduceShiftRight, Nat.reduceAnd, Nat.reduceBNe]
  refine ⟨fun h => ?_, fun h => ?_⟩
  · subst h
    simp -implicitDefEqProofs only [push_cast, Nat.reduceBEq, Nat.reduceLT, Nat.reduceLeDiff, Nat.reduceAdd, Nat.reduceSub, Nat.reduceMul, Nat.reduceEqDiff, reduceCtorEq, ↓reduceIte, Int.reduceEq, Int.reduceLT, Int.reduceLE, Int.reduceNe, Int.reduceAdd, Int.reduceSub, Int.reduceMul, Int.reduceToNat, Nat.reduceShiftRight, Nat.reduceAnd, Nat.reduceBNe]
    exact finC (by simp) rfl
  · exact finC (by simp [h]) rfl
end Go.Proofs.Ytcplbmlebogffaa

namespace Go.Proofs.Ytcplbmlebogffaa
open Go GoV
set_option maxHeartbeats 4000000
set_option maxRecDepth 10000

/-- drafted cards are right -/
theorem cards_ok (dc : List Int) (hdc : ∀ x ∈ dc, 0 ≤ x ∧ x ≤ 255) : (cardsL dc).length ≤ 5 ∧ (∀ c ∈ cardsL dc, 1 ≤ c ∧ c ≤ 4) ∧ sizeS (cardsL dc) = some (prodL (cardsL dc)) ∧ sizeL (cardsL dc) 1 = some (prodL (cardsL dc)) ∧ 1 ≤ prodL (cardsL dc) ∧ prodL (cardsL dc) ≤ 1024 := by
  have hl : (cardsL dc).length ≤ 5 := by simp [cardsL]; omega
  have hc : ∀ c ∈ cardsL dc, 1 ≤ c ∧ c ≤ 4 := by
    intro c h
    simp only [cardsL, List.mem_map] at h
    obtain ⟨x, hx, rfl⟩ := h
    have h0 := (hdc x (List.mem_of_mem_take hx)).1
    have h1 := Int.tmod_nonneg 4 h0
    have h2 := Int.tmod_lt_of_pos x (show (0 : Int) < 4 by omega)
    omega
  have hb : ∀ (l : List Int), (∀ c ∈ l, 1 ≤ c ∧ c ≤ 4) → prodL l ≤ 4 ^ l.length := by
    intro l
    induction l with
    | nil => intro _; simp [prodL]
    | cons c l ih =>
      intro h
      have h1 := ih (fun x hx => h x (by simp [hx]))
      have h2 := h c (by simp)
      have h3 := prodL_pos l (fun x hx => (h x (by simp [hx])).1)
      simp only [prodL, List.length_cons, Int.pow_succ]
      have h4 : c * prodL l ≤ 4 * prodL l := Int.mul_le_mul_of_nonneg_right h2.2 (by omega)
      omega
  have hp := prodL_pos (cardsL dc) (fun x hx => (hc x hx).1)
  have hm : prodL (cardsL dc) ≤ 1024 := by
    have h1 := hb _ hc
    have h2 : ∀ n : Nat, n ≤ 5 → (4 : Int) ^ n ≤ 1024 := by decide
    have h2 := h2 _ hl
    omega
  have hs := sizeL_mk (cardsL dc) 1 (fun c h => by have := hc c h; omega) (by omega) (by omega)
  rw [Int.one_mul] at hs
  refine ⟨hl, hc, ?_, hs, hp, hm⟩
  unfold sizeS
  rw [if_neg (by omega)]
  exact hs

theorem law6_pc (dc : List Int) (dw : Int) (dof : List Int) (k : Int) (hk : 0 ≤ k ∧ k ≤ 65535) (hdc : ∀ x ∈ dc, 0 ≤ x ∧ x ≤ 255) (hdo : dof.length ≤ 9223372036854775807 ∧ ∀ x ∈ dof, 0 ≤ x ∧ x ≤ 255) :
    PC Try.prog 6 [DA dc dw dof, .dat (.int .u16) k] (B true) := by
  obtain ⟨hl, hc, hs, hsz, hn1, hn2⟩ := cards_ok dc hdc
  refine pc_fn hmix h6 rfl ?_
  simp -implicitDefEqProofs only [c6, push_cast, Nat.reduceBEq, Nat.reduceLT, Nat.reduceLeDiff, Nat.reduceAdd, Nat.reduceSub, Nat.reduceMul, Nat.reduceEqDiff, reduceCtorEq, ↓reduceIte, Int.reduceEq, Int.reduceLT, Int.reduceLE, Int.reduceNe, Int.reduceAdd, Int.reduceSub, Int.reduceMul, Int.reduceToNat, Nat.reduceShiftRight, Nat.reduceAnd, Nat.reduceBNe]
  refine callF works_pc trivial rfl rfl ?_
  simp -implicitDefEqProofs only [push_cast, Nat.reduceBEq, Nat.reduceLT, Nat.reduceLeDiff, Nat.reduceAdd, Nat.reduceSub, Nat.reduceMul, Nat.reduceEqDiff, reduceCtorEq, ↓reduceIte, Int.reduceEq, Int.reduceLT, Int.reduceLE, Int.reduceNe, Int.reduceAdd, Int.reduceSub, Int.reduceMul, Int.reduceToNat, Nat.reduceShiftRight, Nat.reduceAnd, Nat.reduceBNe]
  refine ppF (cards_pc dc dw dof hdc) ⟨⟨rfl, ⟨rfl, rfl⟩, ⟨rfl, rfl⟩, ⟨rfl, rfl⟩, rfl⟩, trivial⟩ rfl rfl ?_
  simp -implicitDefEqProofs only [push_cast, Nat.reduceBEq, Nat.reduceLT, Nat.reduceLeDiff, Nat.reduceAdd, Nat.reduceSub, Nat.reduceMul, Nat.reduceEqDiff, reduceCtorEq, ↓reduceIte, Int.reduceEq, Int.reduceLT, Int.reduceLE, Int.reduceNe, Int.reduceAdd, Int.reduceSub, Int.reduceMul, Int.reduceToNat, Nat.reduceShiftRight, Nat.reduceAnd, Nat.reduceBNe]
  refine ppF (draftperm_pc dc dw dof hdc hdo) ⟨⟨rfl, ⟨rfl, rfl⟩, ⟨rfl, rfl⟩, ⟨rfl, rfl⟩, rfl⟩, trivial⟩ rfl rfl ?_
  simp -implicitDefEqProofs only [push_cast, Nat.reduceBEq, Nat.reduceLT, Nat.reduceLeDiff, Nat.reduceAdd, Nat.reduceSub, Nat.reduceMul, Nat.reduceEqDiff, reduceCtorEq, ↓reduceIte, Int.reduceEq, Int.reduceLT, Int.reduceLE, Int.reduceNe, Int.reduceAdd, Int.reduceSub, Int.reduceMul, Int.reduceToNat, Nat.reduceShiftRight, Nat.reduceAnd, Nat.reduceBNe]
  obtain ⟨c, hce⟩ : ∃ c, cardsL dc = c := ⟨_, rfl⟩
  obtain ⟨p, hpe⟩ : ∃ p, permD dof c.length = p := ⟨_, rfl⟩
  rw [hce] at hl hc hs hsz hn1 hn2 ⊢
  rw [hpe]
  have hpl : p.length = c.length := by rw [← hpe, permD_length dof hdo.2]
  have hpm : ∀ x ∈ p, 0 ≤ x ∧ x < c.length := fun x hx => (permD_mem dof c.length x).1 (by rw [hpe]; exact hx)
  have hpa : ∀ x : Int, 0 ≤ x ∧ x < c.length → x ∈ p := fun x hx => by rw [← hpe]; exact (permD_mem dof c.length x).2 hx
  have hpd : p.Nodup := by rw [← hpe]; exact permD_nodup dof c.length
  refine ⟨by simp only [inR]; omega, ?_⟩
  refine callF (lawsize_vc c (prodL c) hsz (by omega)) ⟨rfl, trivial⟩ rfl rfl ?_
  simp -implicitDefEqProofs only [push_cast, Nat.reduceBEq, Nat.reduceLT, Nat.reduceLeDiff, Nat.reduceAdd, Nat.reduceSub, Nat.reduceMul, Nat.reduceEqDiff, reduceCtorEq, ↓reduceIte, Int.reduceEq, Int.reduceLT, Int.reduceLE, Int.reduceNe, Int.reduceAdd, Int.reduceSub, Int.reduceMul, Int.reduceToNat, Nat.reduceShiftRight, Nat.reduceAnd, Nat.reduceBNe]
  obtain ⟨i, hie⟩ : ∃ i, k.tmod (prodL c) = i := ⟨_, rfl⟩
  have hi0 : 0 ≤ i := by rw [← hie]; exact Int.tmod_nonneg _ hk.1
  have hi1 : i < prodL c := by rw [← hie]; exact Int.tmod_lt_of_pos _ (by omega)
  rw [hie]
  refine ⟨by omega, ⟨⟨by omega, by omega⟩, by simp only [two47]; omega, by simp only [two47]; omega⟩, ⟨⟨by omega, by omega⟩, by simp only [two47]; omega, by simp only [two47]; omega⟩, ?_⟩
  have frz : ∀ (q : Int) (T U : List Int), T.length = c.length → U.length = c.length → T = pickL c p → U = backD p c.length c.length → Wk 0 (⟨[(39, I q), (38, I c.length), (37, IL p), (9, .slc 2 c.length 0 c.length), (8, .slc 1 c.length 0 c.length), (7, I i), (6, IL p), (5, IL c)], [boxD dc dw dof, .seq (.int .i64) T true, .seq (.int .i64) U true], []⟩ : St)
      (⟨[(39, I q), (38, I c.length), (37, IL p), (9, IL (backD p c.length c.length)), (8, IL (pickL c p)), (7, I i), (6, IL p), (5, IL c)], [boxD dc dw dof], []⟩ : St) := by
    intro q T U h1 h2 h3 h4
    rw [← h3, ← h4]
    exact (wk_frz 8 1 c.length rfl (.inl ⟨true, rfl⟩) h1).trans ((wk_frz 9 2 c.length rfl (.inl ⟨true, rfl⟩) h2).trans (wk_cut [39, 38, 37, 9, 8, 7, 6, 5] 1 rfl ⟨rfl, rfl, rfl⟩ rfl))
  refine loop_w (α := Nat) (fun q => if q < c.length then ⟨[(39, I q), (38, I c.length), (37, IL p), (9, .slc 2 c.length 0 c.length), (8, .slc 1 c.length 0 c.length), (7, I i), (6, IL p), (5, IL c)], [boxD dc dw dof, .seq (.int .i64) (turnD c p q) true, .seq (.int .i64) (backD p c.length q) true], []⟩
    else ⟨[(39, I q), (38, I c.length), (37, IL p), (9, IL (backD p c.length c.length)), (8, IL (pickL c p)), (7, I i), (6, IL p), (5, IL c)], [boxD dc dw dof], []⟩) (fun q => q ≤ c.length) (fun q => c.length - q) 0 ?_ (by omega) ?_
  · rw [hpl]
    refine (wk_cut [39, 38, 37, 9, 8, 7, 6, 5] 3 rfl ⟨rfl, rfl, rfl⟩ rfl).trans (s' := ⟨[(39, I 0), (38, I c.length), (37, IL p), (9, .slc 2 c.length 0 c.length), (8, .slc 1 c.length 0 c.length), (7, I i), (6, IL p), (5, IL c)], [boxD dc dw dof, .seq (.int .i64) (List.replicate c.length 0) true, .seq (.int .i64) (List.replicate c.length 0) true], []⟩) ?_
    by_cases h0 : 0 < c.length
    · rw [if_pos h0, turnD_zero, hpl]
      exact Wk.refl _ _
    · rw [if_neg h0]
      have h0 : c.length = 0 := by omega
      refine frz 0 _ _ (by simp) (by simp) ?_ ?_
      · have : p = [] := List.eq_nil_of_length_eq_zero (by omega)
        rw [h0, this]; rfl
      · rw [h0]; rfl
  intro q hq
  by_cases hqm : q < c.length
  · rw [if_pos hqm]
    have hql : q < p.length := by omega
    have hg : 0 ≤ p.getD q 0 ∧ p.getD q 0 < c.length := by
      have e : p.getD q 0 = p[q] := by simp [hql]
      rw [e]; exact hpm _ (List.getElem_mem hql)
    have hT : (turnD c p q).length = c.length := by rw [turnD_length c p q (by omega), hpl]
    have hU := backD_length p c.length q
    simp -implicitDefEqProofs only [c6L0, push_cast, Nat.reduceBEq, Nat.reduceLT, Nat.reduceLeDiff, Nat.reduceAdd, Nat.reduceSub, Nat.reduceMul, Nat.reduceEqDiff, reduceCtorEq, ↓reduceIte, Int.reduceEq, Int.reduceLT, Int.reduceLE, Int.reduceNe, Int.reduceAdd, Int.reduceSub, Int.reduceMul, Int.reduceToNat, Nat.reduceShiftRight, Nat.reduceAnd, Nat.reduceBNe]
    refine ⟨fun _ => ⟨by omega, hg, by omega, hT, ⟨hT, by omega⟩, hg, hU, ⟨hU, by omega⟩, by simp only [inR]; omega, q + 1, by omega, by omega, ?_⟩, fun h => by omega⟩
    rw [turnD_succ c p q hql]
    refine (wk_cut [39, 38, 37, 9, 8, 7, 6, 5] 3 rfl ⟨rfl, rfl, rfl⟩ rfl).trans (s' := ⟨[(39, I (q + 1 : Nat)), (38, I c.length), (37, IL p), (9, .slc 2 c.length 0 c.length), (8, .slc 1 c.length 0 c.length), (7, I i), (6, IL p), (5, IL c)], [boxD dc dw dof, .seq (.int .i64) (turnD c p (q + 1)) true, .seq (.int .i64) (backD p c.length (q + 1)) true], []⟩) ?_
    by_cases h1 : q + 1 < c.length
    · rw [if_pos h1]
      exact Wk.refl _ _
    · rw [if_neg h1]
      have e : q + 1 = c.length := by omega
      refine frz _ _ _ (by rw [turnD_length c p _ (by omega), hpl]) (backD_length _ _ _) ?_ (by rw [e])
      rw [e, ← hpl, turnD_all]
  · have : q = c.length := by omega
    subst this
    rw [if_neg hqm]
    obtain ⟨hb1, hb2, hb3⟩ := back_spec hpl hpm hpd hpa
    have hbl := backD_length p c.length c.length
    obtain ⟨bk, hbe⟩ : ∃ bk, backD p c.length c.length = bk := ⟨_, rfl⟩
    rw [hbe] at hb1 hb2 hb3 hbl ⊢
    obtain ⟨v, hve⟩ : ∃ v, (digs c i).1 = v := ⟨_, rfl⟩
    have hvl : v.length = c.length := by rw [← hve, digs_length]
    have hc1 : ∀ x ∈ c, 1 ≤ x := fun x hx => (hc x hx).1
    have hvw : withinL v c = true := by rw [← hve]; exact digs_within i hi0 c hc1
    have hd1 : distinctL c.length false F12 (-1) p = true := distinct_of _ (by omega) p F12 (-1) rfl hpd (fun x hx => ⟨hpm x hx, F12_get _⟩)
    obtain ⟨tu, hte⟩ : ∃ tu, pickL c p = tu := ⟨_, rfl⟩
    rw [hte]
    have htl : tu.length = c.length := by rw [← hte]; simp [pickL, hpl]
    have ht1 : ∀ x ∈ tu, 1 ≤ x := by
      intro x hx
      rw [← hte] at hx
      obtain ⟨y, hy, rfl⟩ := List.mem_map.1 hx
      have := hpm y hy
      have hlt : y.toNat < c.length := by omega
      have e : c.getD y.toNat 0 = c[y.toNat] := by simp [hlt]
      rw [e]; exact hc1 _ (List.getElem_mem hlt)
    have hts := (pick_size hs hd1).2
    rw [hte] at hts
    have hww : withinL (pickL v p) tu = true := by rw [← hte]; exact withinL_pick c v p hvl hpm hvw
    obtain ⟨j, hje⟩ : ∃ j, partN c p i = j := ⟨_, rfl⟩
    have hje2 : (idxR tu (pickL v p)).1 = j := by rw [← hje, ← hte, ← hve]; rfl
    have hj := idxR_lt tu (pickL v p) ht1 hww
    rw [hje2] at hj
    have hwe : (digs tu j).1 = pickL v p := by rw [← hje2]; exact digs_num ht1 hww
    have hp1 : PC Try.prog 34 [IL c, IL p, I i] (.tup [I j, I 0]) := by
      have := permute_pc c p i (by omega)
      unfold permS at this
      rw [hs] at this
      simp only [decide_eq_true hpl, hd1, decide_eq_true (And.intro hi0 hi1), hje] at this
      exact this
    have hv1 : PC Try.prog 18 [IL c, I i] (.tup [IL v, I 0]) := by
      have := values_pc c i
      unfold valuesS at this
      rw [hs] at this
      simp only [decide_eq_true (And.intro hi0 hi1), hve] at this
      exact this
    have hv2 : PC Try.prog 18 [IL tu, I j] (.tup [IL (pickL v p), I 0]) := by
      have := values_pc tu j
      unfold valuesS at this
      rw [hts] at this
      simp only [decide_eq_true hj, hwe] at this
      exact this
    have hd2 : distinctL tu.length false F12 (-1) bk = true := distinct_of _ (by omega) bk F12 (-1) rfl hb2 (fun x hx => ⟨by have := hb1 x hx; omega, F12_get _⟩)
    have hp2 : PC Try.prog 34 [IL tu, IL bk, I j] (.tup [I i, I 0]) := by
      have := permute_pc tu bk j (by omega)
      unfold permS at this
      rw [hts] at this
      have e : partN tu bk j = i := by
        unfold partN
        rw [hwe, ← hte, hb3 c rfl, hb3 v hvl, ← hve]
        exact num_digs hc1 ⟨hi0, hi1⟩
      simp only [decide_eq_true (show bk.length = tu.length by omega), hd2, decide_eq_true hj, e] at this
      exact this
    simp -implicitDefEqProofs only [c6L0, push_cast, Nat.reduceBEq, Nat.reduceLT, Nat.reduceLeDiff, Nat.reduceAdd, Nat.reduceSub, Nat.reduceMul, Nat.reduceEqDiff, reduceCtorEq, ↓reduceIte, Int.reduceEq, Int.reduceLT, Int.reduceLE, Int.reduceNe, Int.reduceAdd, Int.reduceSub, Int.reduceMul, Int.reduceToNat, Nat.reduceShiftRight, Nat.reduceAnd, Nat.reduceBNe]
    refine ⟨fun h => absurd h (by omega), fun _ => ?_⟩
    refine callF hp1 ⟨rfl, rfl, rfl, trivial⟩ rfl rfl ?_
    simp -implicitDefEqProofs only [push_cast, Nat.reduceBEq, Nat.reduceLT, Nat.reduceLeDiff, Nat.reduceAdd, Nat.reduceSub, Nat.reduceMul, Nat.reduceEqDiff, reduceCtorEq, ↓reduceIte, Int.reduceEq, Int.reduceLT, Int.reduceLE, Int.reduceNe, Int.reduceAdd, Int.reduceSub, Int.reduceMul, Int.reduceToNat, Nat.reduceShiftRight, Nat.reduceAnd, Nat.reduceBNe]
    refine callF hv1 ⟨rfl, rfl, trivial⟩ rfl rfl ?_
    simp -implicitDefEqProofs only [push_cast, Nat.reduceBEq, Nat.reduceLT, Nat.reduceLeDiff, Nat.reduceAdd, Nat.reduceSub, Nat.reduceMul, Nat.reduceEqDiff, reduceCtorEq, ↓reduceIte, Int.reduceEq, Int.reduceLT, Int.reduceLE, Int.reduceNe, Int.reduceAdd, Int.reduceSub, Int.reduceMul, Int.reduceToNat, Nat.reduceShiftRight, Nat.reduceAnd, Nat.reduceBNe]
    refine callF hv2 ⟨rfl, rfl, trivial⟩ rfl rfl ?_
    simp -implicitDefEqProofs only [push_cast, Nat.reduceBEq, Nat.reduceLT, Nat.reduceLeDiff, Nat.reduceAdd, Nat.reduceSub, Nat.reduceMul, Nat.reduceEqDiff, reduceCtorEq, ↓reduceIte, Int.reduceEq, Int.reduceLT, Int.reduceLE, Int.reduceNe, Int.reduceAdd, Int.reduceSub, Int.reduceMul, Int.reduceToNat, Nat.reduceShiftRight, Nat.reduceAnd, Nat.reduceBNe]
    have hwl : (pickL v p).length = c.length := by simp [pickL, hpl]
    refine ⟨fun h => absurd (by omega) h, fun _ => ⟨fun h => absurd (by omega) h, fun _ => ?_⟩⟩
    rw [hpl]
    refine loop_w (α := Nat) (fun q => ⟨[(101, I q), (100, I c.length), (99, IL p), (16, IL (pickL v p)), (14, IL v), (12, I j), (9, IL bk), (8, IL tu), (7, I i)], [boxD dc dw dof], []⟩) (fun q => q ≤ c.length) (fun q => c.length - q) 0 (wk_cut [101, 100, 99, 16, 14, 12, 9, 8, 7] 1 rfl ⟨rfl, rfl, rfl⟩ rfl) (by omega) ?_
    intro q hq
    by_cases hqc : q < c.length
    · have hql : q < p.length := by omega
      have hg : 0 ≤ p.getD q 0 ∧ p.getD q 0 < c.length := by
        have e : p.getD q 0 = p[q] := by simp [hql]
        rw [e]; exact hpm _ (List.getElem_mem hql)
      have he : (pickL v p).getD q 0 = v.getD (Int.toNat (p.getD q 0)) 0 := by simp [pickL, hql]
      simp -implicitDefEqProofs only [c6L1, he, push_cast, Nat.reduceBEq, Nat.reduceLT, Nat.reduceLeDiff, Nat.reduceAdd, Nat.reduceSub, Nat.reduceMul, Nat.reduceEqDiff, reduceCtorEq, ↓reduceIte, Int.reduceEq, Int.reduceLT, Int.reduceLE, Int.reduceNe, Int.reduceAdd, Int.reduceSub, Int.reduceMul, Int.reduceToNat, Nat.reduceShiftRight, Nat.reduceAnd, Nat.reduceBNe]
      refine ⟨fun _ => ⟨by omega, by omega, by omega, by simp only [inR]; omega, q + 1, by omega, by omega, wk_cut [101, 100, 99, 16, 14, 12, 9, 8, 7] 1 rfl ⟨rfl, rfl, rfl⟩ rfl⟩, fun h => by omega⟩
    · have : q = c.length := by omega
      subst this
      simp -implicitDefEqProofs only [c6L1, push_cast, Nat.reduceBEq, Nat.reduceLT, Nat.reduceLeDiff, Nat.reduceAdd, Nat.reduceSub, Nat.reduceMul, Nat.reduceEqDiff, reduceCtorEq, ↓reduceIte, Int.reduceEq, Int.reduceLT, Int.reduceLE, Int.reduceNe, Int.reduceAdd, Int.reduceSub, Int.reduceMul, Int.reduceToNat, Nat.reduceShiftRight, Nat.reduceAnd, Nat.reduceBNe]
      refine ⟨fun h => absurd h (by omega), fun _ => ?_⟩
      refine callF (is_pc i) ⟨rfl, trivial⟩ rfl rfl ?_
      simp -implicitDefEqProofs only [push_cast, Nat.reduceBEq, Nat.reduceLT, Nat.reduceLeDiff, Nat.reduceAdd, Nat.reduceSub, Nat.reduceMul, Nat.reduceEqDiff, reduceCtorEq, ↓reduceIte, Int.reduceEq, Int.reduceLT, Int.reduceLE, Int.reduceNe, Int.reduceAdd, Int.reduceSub, Int.reduceMul, Int.reduceToNat, Nat.reduceShiftRight, Nat.reduceAnd, Nat.reduceBNe]
      refine callF hp2 ⟨rfl, rfl, rfl, trivial⟩ rfl rfl ?_
      simp -implicitDefEqProofs only [push_cast, Nat.reduceBEq, Nat.reduceLT, Nat.reduceLeDiff, Nat.reduceAdd, Nat.reduceSub, Nat.reduceMul, Nat.reduceEqDiff, reduceCtorEq, ↓reduceIte, Int.reduceEq, Int.reduceLT, Int.reduceLE, Int.reduceNe, Int.reduceAdd, Int.reduceSub, Int.reduceMul, Int.reduceToNat, Nat.reduceShiftRight, Nat.reduceAnd, Nat.reduceBNe]
      refine callF (isC_pc i 0 i) ⟨rfl, rfl, rfl, trivial⟩ rfl rfl ?_
      simp -implicitDefEqProofs only [push_cast, Nat.reduceBEq, Nat.reduceLT, Nat.reduceLeDiff, Nat.reduceAdd, Nat.reduceSub, Nat.reduceMul, Nat.reduceEqDiff, reduceCtorEq, ↓reduceIte, Int.reduceEq, Int.reduceLT, Int.reduceLE, Int.reduceNe, Int.reduceAdd, Int.reduceSub, Int.reduceMul, Int.reduceToNat, Nat.reduceShiftRight, Nat.reduceAnd, Nat.reduceBNe]
      exact finC (by simp) rfl
end Go.Proofs.Ytcplbmlebogffaa

namespace Go.Proofs.Ytcplbmlebogffaa
open Go GoV
set_option maxHeartbeats 2000000
set_option maxRecDepth 10000

def cmpI (x y : Int) : Int := if x < y then -1 else if y < x then 1 else 0
def cmpL : List Int → List Int → Int
  | [], [] => 0
  | [], _ :: _ => -1
  | _ :: _, [] => 1
  | x :: a, y :: b => if cmpI x y = 0 then cmpL a b else cmpI x y

theorem isNaN_pc (x : Int) : PC Try.prog 56 [I x] (B false) := by
  refine pc_fn hmix h56 rfl ?_
  simp -implicitDefEqProofs only [c56, push_cast, Nat.reduceBEq, Nat.reduceLT, Nat.reduceLeDiff, Nat.reduceAdd, Nat.reduceSub, Nat.reduceMul, Nat.reduceEqDiff, reduceCtorEq, ↓reduceIte, Int.reduceEq, Int.reduceLT, Int.reduceLE, Int.reduceNe, Int.reduceAdd, Int.reduceSub, Int.reduceMul, Int.reduceToNat, Nat.reduceShiftRight, Nat.reduceAnd, Nat.reduceBNe]
  exact finC (by simp) rfl

theorem compare_pc (x y : Int) : PC Try.prog 54 [I x, I y] (I (cmpI x y)) := by
  refine pc_fn hmix h54 rfl ?_
  simp -implicitDefEqProofs only [c54, push_cast, Nat.reduceBEq, Nat.reduceLT, Nat.reduceLeDiff, Nat.reduceAdd, Nat.reduceSub, Nat.reduceMul, Nat.reduceEqDiff, reduceCtorEq, ↓reduceIte, Int.reduceEq, Int.reduceLT, Int.reduceLE, Int.reduceNe, Int.reduceAdd, Int.reduceSub, Int.reduceMul, Int.reduceToNat, Nat.reduceShiftRight, Nat.reduceAnd, Nat.reduceBNe]
  refine callF (isNaN_pc x) ⟨rfl, trivial⟩ rfl rfl ?_
  simp -implicitDefEqProofs only [push_cast, Nat.reduceBEq, Nat.reduceLT, Nat.reduceLeDiff, Nat.reduceAdd, Nat.reduceSub, Nat.reduceMul, Nat.reduceEqDiff, reduceCtorEq, ↓reduceIte, Int.reduceEq, Int.reduceLT, Int.reduceLE, Int.reduceNe, Int.reduceAdd, Int.reduceSub, Int.reduceMul, Int.reduceToNat, Nat.reduceShiftRight, Nat.reduceAnd, Nat.reduceBNe]
  refine callF (isNaN_pc y) ⟨rfl, trivial⟩ rfl rfl ?_
  simp -implicitDefEqProofs only [push_cast, Nat.reduceBEq, Nat.reduceLT, Nat.reduceLeDiff, Nat.reduceAdd, Nat.reduceSub, Nat.reduceMul, Nat.reduceEqDiff, reduceCtorEq, ↓reduceIte, Int.reduceEq, Int.reduceLT, Int.reduceLE, Int.reduceNe, Int.reduceAdd, Int.reduceSub, Int.reduceMul, Int.reduceToNat, Nat.reduceShiftRight, Nat.reduceAnd, Nat.reduceBNe]
  unfold cmpI
  refine ⟨fun h => finC (by rw [if_pos h]) rfl, fun h => ⟨fun h2 => finC (by rw [if_neg h, if_pos h2]) rfl, fun h2 => finC (by rw [if_neg h, if_neg h2]) rfl⟩⟩

theorem cmplist_pc (a b : List Int) (ha : a.length ≤ 100000) : PC Try.prog 41 [IL a, IL b] (I (cmpL a b)) := by
  refine pc_fn hmix h41 rfl ?_
  simp -implicitDefEqProofs only [c41, push_cast, Nat.reduceBEq, Nat.reduceLT, Nat.reduceLeDiff, Nat.reduceAdd, Nat.reduceSub, Nat.reduceMul, Nat.reduceEqDiff, reduceCtorEq, ↓reduceIte, Int.reduceEq, Int.reduceLT, Int.reduceLE, Int.reduceNe, Int.reduceAdd, Int.reduceSub, Int.reduceMul, Int.reduceToNat, Nat.reduceShiftRight, Nat.reduceAnd, Nat.reduceBNe]
  refine loop_w (α := Nat) (fun q => ⟨[(11, I q), (10, I a.length), (9, IL a), (1, IL b), (0, IL a)], [], []⟩) (fun q => (q ≤ a.length ∧ q ≤ b.length) ∧ cmpL (a.drop q) (b.drop q) = cmpL a b) (fun q => a.length - q) 0 (wk_cut [11, 10, 9, 1, 0] 0 rfl ⟨rfl, rfl, rfl⟩ rfl) ⟨⟨by omega, by omega⟩, rfl⟩ ?_
  rintro q ⟨⟨hqa, hqb⟩, hinv⟩
  simp -implicitDefEqProofs only [c41L0, push_cast, Nat.reduceBEq, Nat.reduceLT, Nat.reduceLeDiff, Nat.reduceAdd, Nat.reduceSub, Nat.reduceMul, Nat.reduceEqDiff, reduceCtorEq, ↓reduceIte, Int.reduceEq, Int.reduceLT, Int.reduceLE, Int.reduceNe, Int.reduceAdd, Int.reduceSub, Int.reduceMul, Int.reduceToNat, Nat.reduceShiftRight, Nat.reduceAnd, Nat.reduceBNe]
  refine ⟨fun h => ?_, fun h => ?_⟩
  · have hq : q < a.length := by omega
    have ea : a.drop q = a.getD q 0 :: a.drop (q + 1) := by rw [List.drop_eq_getElem_cons hq]; simp [hq]
    refine ⟨by omega, ?_⟩
    refine ⟨fun h2 => ?_, fun h2 => ?_⟩
    · have : b.drop q = [] := List.drop_eq_nil_of_le (by omega)
      rw [ea, this] at hinv
      exact finC (by rw [← hinv]; rfl) rfl
    · have hqb : q < b.length := by omega
      have eb : b.drop q = b.getD q 0 :: b.drop (q + 1) := by rw [List.drop_eq_getElem_cons hqb]; simp [hqb]
      rw [ea, eb] at hinv
      simp only [cmpL] at hinv
      refine ⟨by omega, ?_⟩
      refine callF (compare_pc (a.getD q 0) (b.getD q 0)) ⟨rfl, rfl, trivial⟩ rfl rfl ?_
      simp -implicitDefEqProofs only [push_cast, Nat.reduceBEq, Nat.reduceLT, Nat.reduceLeDiff, Nat.reduceAdd, Nat.reduceSub, Nat.reduceMul, Nat.reduceEqDiff, reduceCtorEq, ↓reduceIte, Int.reduceEq, Int.reduceLT, Int.reduceLE, Int.reduceNe, Int.reduceAdd, Int.reduceSub, Int.reduceMul, Int.reduceToNat, Nat.reduceShiftRight, Nat.reduceAnd, Nat.reduceBNe]
      refine ⟨fun h3 => ?_, fun h3 => ?_⟩
      · rw [if_neg h3] at hinv
        exact finC (by rw [hinv]) rfl
      · rw [if_pos h3] at hinv
        exact ⟨by simp only [inR]; omega, q + 1, ⟨⟨by omega, by omega⟩, hinv⟩, by omega, wk_cut [11, 10, 9, 1, 0] 0 rfl ⟨rfl, rfl, rfl⟩ rfl⟩
  · have e : a.drop q = [] := List.drop_eq_nil_of_le (by omega)
    rw [e] at hinv
    refine ⟨fun h2 => ?_, fun h2 => ?_⟩
    · have hqb : q < b.length := by omega
      have eb : b.drop q = b.getD q 0 :: b.drop (q + 1) := by rw [List.drop_eq_getElem_cons hqb]; simp [hqb]
      rw [eb] at hinv
      exact finC (by rw [← hinv]; rfl) rfl
    · have : b.drop q = [] := List.drop_eq_nil_of_le (by omega)
      rw [this] at hinv
      exact finC (by rw [← hinv]; rfl) rfl

theorem cmp_lt : ∀ (cs u v : List Int), (∀ c ∈ cs, 1 ≤ c) → withinL u cs = true → withinL v cs = true → (idxR cs u).1 < (idxR cs v).1 → cmpL u v = -1
  | [], [], [], _, _, _, h => by simp [idxR] at h
  | c :: cs, x :: u, y :: v, hc, hu, hv, h => by
    simp only [withinL, Bool.and_eq_true, decide_eq_true_eq] at hu hv
    have hc' : ∀ z ∈ cs, 1 ≤ z := fun z hz => hc z (by simp [hz])
    obtain ⟨a1, a2⟩ := idxR_lt cs u hc' hu.2
    obtain ⟨b1, b2⟩ := idxR_lt cs v hc' hv.2
    simp only [idxR] at h
    rw [idxR_snd cs u (withinL_len hu.2).symm, idxR_snd cs v (withinL_len hv.2).symm] at h
    have hp := prodL_pos cs hc'
    simp only [cmpL]
    rcases Int.lt_trichotomy x y with h1 | h1 | h1
    · have e : cmpI x y = -1 := by simp [cmpI, h1]
      rw [e]; rfl
    · subst h1
      have e : cmpI x x = 0 := by simp [cmpI]
      rw [e, if_pos rfl]
      exact cmp_lt cs u v hc' hu.2 hv.2 (by omega)
    · exfalso
      have : (y + 1) * prodL cs ≤ x * prodL cs := Int.mul_le_mul_of_nonneg_right (by omega) (by omega)
      rw [Int.add_mul, Int.one_mul] at this
      omega
  | [], _ :: _, _, _, h, _, _ => by simp [withinL] at h
  | [], [], _ :: _, _, _, h, _ => by simp [withinL] at h
  | _ :: _, [], _, _, h, _, _ => by simp [withinL] at h
  | _ :: _, _ :: _, [], _, _, h, _ => by simp [withinL] at h

/-- a clone is nil, or a list of its own -/
def cloneQ (s : List Int) (v : AV) (fr : Heap) : Prop := (s = [] ∧ v = .nils ∧ fr = []) ∨ (s = [] ∧ v = .slc 0 0 0 0 ∧ fr = [.seq (.int .i64) [] true]) ∨ (s ≠ [] ∧ v = .slc 1 s.length 0 s.length ∧ fr = [.seq (.int .i64) [] true, .seq (.int .i64) s false])

theorem clone_vc (s : List Int) (hs : s.length ≤ 100000) : VCalls Try.prog 42 [IL s] [] (cloneQ s) := by
  refine vcalls_fn hmix h42 rfl ?_
  cases s with
  | nil =>
    simp -implicitDefEqProofs only [c42, push_cast, Nat.reduceBEq, Nat.reduceLT, Nat.reduceLeDiff, Nat.reduceAdd, Nat.reduceSub, Nat.reduceMul, Nat.reduceEqDiff, reduceCtorEq, ↓reduceIte, Int.reduceEq, Int.reduceLT, Int.reduceLE, Int.reduceNe, Int.reduceAdd, Int.reduceSub, Int.reduceMul, Int.reduceToNat, Nat.reduceShiftRight, Nat.reduceAnd, Nat.reduceBNe]
    exact ⟨fin1 0 rfl (.inl ⟨rfl, rfl, rfl⟩), by simp only [two47]; omega, fin1 1 rfl (.inr (.inl ⟨rfl, rfl, rfl⟩))⟩
  | cons y ys =>
    simp -implicitDefEqProofs only [c42, push_cast, Nat.reduceBEq, Nat.reduceLT, Nat.reduceLeDiff, Nat.reduceAdd, Nat.reduceSub, Nat.reduceMul, Nat.reduceEqDiff, reduceCtorEq, ↓reduceIte, Int.reduceEq, Int.reduceLT, Int.reduceLE, Int.reduceNe, Int.reduceAdd, Int.reduceSub, Int.reduceMul, Int.reduceToNat, Nat.reduceShiftRight, Nat.reduceAnd, Nat.reduceBNe]
    simp only [List.length_cons] at hs
    exact ⟨⟨by simp only [two47]; omega, by simp only [two47]; omega⟩, fin1 2 rfl (.inr (.inr ⟨by simp, rfl, rfl⟩))⟩
end Go.Proofs.Ytcplbmlebogffaa

namespace Go.Proofs.Ytcplbmlebogffaa
open Go GoV
set_option maxHeartbeats 4000000
set_option maxRecDepth 10000

theorem withinL_get : ∀ (v c : List Int) (q : Nat), withinL v c = true → q < v.length → 0 ≤ v.getD q 0 ∧ v.getD q 0 < c.getD q 0
  | x :: v, y :: c, 0, h, _ => by simp only [withinL, Bool.and_eq_true, decide_eq_true_eq] at h; simpa using h.1
  | x :: v, y :: c, q + 1, h, hq => by
    simp only [withinL, Bool.and_eq_true] at h
    simpa using withinL_get v c q h.2 (by simpa using hq)
  | [], _, _, _, h => by simp at h
  | _ :: _, [], _, h, _ => by simp [withinL] at h

def lastV (c : List Int) : Nat → AV
  | 0 => .nils
  | q + 1 => IL (digs c q).1

theorem law9_pc (dc : List Int) (dw : Int) (dof : List Int) (hdc : ∀ x ∈ dc, 0 ≤ x ∧ x ≤ 255) : PC Try.prog 9 [DA dc dw dof] (B true) := by
  obtain ⟨hl, hc, hs, hsz, hn1, hn2⟩ := cards_ok dc hdc
  refine pc_fn hmix h9 rfl ?_
  simp -implicitDefEqProofs only [c9, push_cast, Nat.reduceBEq, Nat.reduceLT, Nat.reduceLeDiff, Nat.reduceAdd, Nat.reduceSub, Nat.reduceMul, Nat.reduceEqDiff, reduceCtorEq, ↓reduceIte, Int.reduceEq, Int.reduceLT, Int.reduceLE, Int.reduceNe, Int.reduceAdd, Int.reduceSub, Int.reduceMul, Int.reduceToNat, Nat.reduceShiftRight, Nat.reduceAnd, Nat.reduceBNe]
  refine callF works_pc trivial rfl rfl ?_
  simp -implicitDefEqProofs only [push_cast, Nat.reduceBEq, Nat.reduceLT, Nat.reduceLeDiff, Nat.reduceAdd, Nat.reduceSub, Nat.reduceMul, Nat.reduceEqDiff, reduceCtorEq, ↓reduceIte, Int.reduceEq, Int.reduceLT, Int.reduceLE, Int.reduceNe, Int.reduceAdd, Int.reduceSub, Int.reduceMul, Int.reduceToNat, Nat.reduceShiftRight, Nat.reduceAnd, Nat.reduceBNe]
  refine callF (cards_pc dc dw dof hdc) ⟨⟨rfl, ⟨rfl, rfl⟩, ⟨rfl, rfl⟩, ⟨rfl, rfl⟩, rfl⟩, trivial⟩ rfl rfl ?_
  simp -implicitDefEqProofs only [push_cast, Nat.reduceBEq, Nat.reduceLT, Nat.reduceLeDiff, Nat.reduceAdd, Nat.reduceSub, Nat.reduceMul, Nat.reduceEqDiff, reduceCtorEq, ↓reduceIte, Int.reduceEq, Int.reduceLT, Int.reduceLE, Int.reduceNe, Int.reduceAdd, Int.reduceSub, Int.reduceMul, Int.reduceToNat, Nat.reduceShiftRight, Nat.reduceAnd, Nat.reduceBNe]
  obtain ⟨c, hce⟩ : ∃ c, cardsL dc = c := ⟨_, rfl⟩
  rw [hce] at hl hc hs hsz hn1 hn2 ⊢
  have hc1 : ∀ x ∈ c, 1 ≤ x := fun x hx => (hc x hx).1
  obtain ⟨n, hne⟩ : ∃ n : Nat, prodL c = n := ⟨(prodL c).toNat, by omega⟩
  refine callF (lawsize_vc c (prodL c) hsz (by omega)) ⟨rfl, trivial⟩ rfl rfl ?_
  rw [hne] at hs hsz hn1 hn2 ⊢
  simp -implicitDefEqProofs only [push_cast, Nat.reduceBEq, Nat.reduceLT, Nat.reduceLeDiff, Nat.reduceAdd, Nat.reduceSub, Nat.reduceMul, Nat.reduceEqDiff, reduceCtorEq, ↓reduceIte, Int.reduceEq, Int.reduceLT, Int.reduceLE, Int.reduceNe, Int.reduceAdd, Int.reduceSub, Int.reduceMul, Int.reduceToNat, Nat.reduceShiftRight, Nat.reduceAnd, Nat.reduceBNe]
  have hv : ∀ i : Nat, i < n → PC Try.prog 18 [IL c, I i] (.tup [IL (digs c i).1, I 0]) := by
    intro i hi
    have := values_pc c i
    unfold valuesS at this
    rw [hs] at this
    simp only [decide_eq_true (show (0 : Int) ≤ i ∧ (i : Int) < n by omega)] at this
    exact this
  have hw : ∀ i : Nat, withinL (digs c i).1 c = true := fun i => digs_within i (by omega) c hc1
  have hnum : ∀ i : Nat, i < n → (idxR c (digs c i).1).1 = i := fun i hi => num_digs hc1 ⟨by omega, by omega⟩
  have hix : ∀ i : Nat, i < n → PC Try.prog 23 [IL c, IL (digs c i).1] (.tup [I i, I 0]) := by
    intro i hi
    have := index_vc c (digs c i).1 (by rw [digs_length]; omega)
    unfold indexS at this
    rw [hs] at this
    simp only [hw i, if_true] at this
    rw [numL_idx _ _ 0 (digs_length c i).symm, Int.zero_mul, Int.zero_add, hnum i hi] at this
    exact this
  refine loop_w (α := Nat) (fun q => ⟨[(16, I q), (15, I n), (4, lastV c q), (3, IL c)], [boxD dc dw dof], []⟩) (fun q => q ≤ n) (fun q => n - q) 0 (wk_cut [16, 15, 4, 3] 1 rfl ⟨rfl, rfl, rfl⟩ rfl) (by omega) ?_
  intro q hq
  by_cases hqn : q < n
  · obtain ⟨v, hve⟩ : ∃ v, (digs c q).1 = v := ⟨_, rfl⟩
    have hvq := hv q hqn
    have hwq := hw q
    have hxq := hix q hqn
    rw [hve] at hvq hwq hxq
    have hvl : v.length = c.length := by rw [← hve, digs_length]
    have hlast : 0 < q → ∃ u, lastV c q = IL u ∧ cmpL u v = -1 ∧ u.length ≤ 100000 := by
      intro h0
      obtain ⟨q, rfl⟩ : ∃ q', q = q' + 1 := ⟨q - 1, by omega⟩
      refine ⟨(digs c q).1, rfl, ?_, by rw [digs_length]; omega⟩
      refine cmp_lt c _ _ hc1 (hw q) hwq ?_
      rw [hnum q (by omega), ← hve, hnum (q + 1) hqn]
      omega
    simp -implicitDefEqProofs only [c9L1, push_cast, Nat.reduceBEq, Nat.reduceLT, Nat.reduceLeDiff, Nat.reduceAdd, Nat.reduceSub, Nat.reduceMul, Nat.reduceEqDiff, reduceCtorEq, ↓reduceIte, Int.reduceEq, Int.reduceLT, Int.reduceLE, Int.reduceNe, Int.reduceAdd, Int.reduceSub, Int.reduceMul, Int.reduceToNat, Nat.reduceShiftRight, Nat.reduceAnd, Nat.reduceBNe]
    refine ⟨fun _ => ?_, fun h => absurd h (by omega)⟩
    refine callF hvq ⟨rfl, rfl, trivial⟩ rfl rfl ?_
    simp -implicitDefEqProofs only [push_cast, Nat.reduceBEq, Nat.reduceLT, Nat.reduceLeDiff, Nat.reduceAdd, Nat.reduceSub, Nat.reduceMul, Nat.reduceEqDiff, reduceCtorEq, ↓reduceIte, Int.reduceEq, Int.reduceLT, Int.reduceLE, Int.reduceNe, Int.reduceAdd, Int.reduceSub, Int.reduceMul, Int.reduceToNat, Nat.reduceShiftRight, Nat.reduceAnd, Nat.reduceBNe]
    refine ⟨fun h => absurd (by omega) h, fun _ => ⟨fun hpos => ?_, fun hz => ?_⟩⟩
    · obtain ⟨u, hu, hcmp, hul⟩ := hlast (by omega)
      rw [hu]
      refine callF (cmplist_pc u v hul) ⟨rfl, rfl, trivial⟩ rfl rfl ?_
      rw [hcmp]
      simp -implicitDefEqProofs only [push_cast, Nat.reduceBEq, Nat.reduceLT, Nat.reduceLeDiff, Nat.reduceAdd, Nat.reduceSub, Nat.reduceMul, Nat.reduceEqDiff, reduceCtorEq, ↓reduceIte, Int.reduceEq, Int.reduceLT, Int.reduceLE, Int.reduceNe, Int.reduceAdd, Int.reduceSub, Int.reduceMul, Int.reduceToNat, Nat.reduceShiftRight, Nat.reduceAnd, Nat.reduceBNe]
      refine callF (is_pc q) ⟨rfl, trivial⟩ rfl rfl ?_
      simp -implicitDefEqProofs only [push_cast, Nat.reduceBEq, Nat.reduceLT, Nat.reduceLeDiff, Nat.reduceAdd, Nat.reduceSub, Nat.reduceMul, Nat.reduceEqDiff, reduceCtorEq, ↓reduceIte, Int.reduceEq, Int.reduceLT, Int.reduceLE, Int.reduceNe, Int.reduceAdd, Int.reduceSub, Int.reduceMul, Int.reduceToNat, Nat.reduceShiftRight, Nat.reduceAnd, Nat.reduceBNe]
      refine callF hxq ⟨rfl, rfl, trivial⟩ rfl rfl ?_
      simp -implicitDefEqProofs only [push_cast, Nat.reduceBEq, Nat.reduceLT, Nat.reduceLeDiff, Nat.reduceAdd, Nat.reduceSub, Nat.reduceMul, Nat.reduceEqDiff, reduceCtorEq, ↓reduceIte, Int.reduceEq, Int.reduceLT, Int.reduceLE, Int.reduceNe, Int.reduceAdd, Int.reduceSub, Int.reduceMul, Int.reduceToNat, Nat.reduceShiftRight, Nat.reduceAnd, Nat.reduceBNe]
      refine callF (isC_pc q 0 q) ⟨rfl, rfl, rfl, trivial⟩ rfl rfl ?_
      simp -implicitDefEqProofs only [show decide ((q : Int) = q ∧ (0 : Int) = 0) = true from by simp, push_cast, Nat.reduceBEq, Nat.reduceLT, Nat.reduceLeDiff, Nat.reduceAdd, Nat.reduceSub, Nat.reduceMul, Nat.reduceEqDiff, reduceCtorEq, ↓reduceIte, Int.reduceEq, Int.reduceLT, Int.reduceLE, Int.reduceNe, Int.reduceAdd, Int.reduceSub, Int.reduceMul, Int.reduceToNat, Nat.reduceShiftRight, Nat.reduceAnd, Nat.reduceBNe]
      rw [hvl]
      refine loop_w (α := Nat) (fun k => ⟨[(57, I k), (56, I c.length), (55, IL v), (16, I q), (15, I n), (6, IL v), (3, IL c)], [boxD dc dw dof], []⟩) (fun k => k ≤ c.length) (fun k => c.length - k) 0 (wk_cut [57, 56, 55, 16, 15, 6, 3] 1 rfl ⟨rfl, rfl, rfl⟩ rfl) (by omega) ?_
      intro k hk
      by_cases hkc : k < c.length
      · have hb := withinL_get v c k hwq (by omega)
        simp -implicitDefEqProofs only [c9L0, push_cast, Nat.reduceBEq, Nat.reduceLT, Nat.reduceLeDiff, Nat.reduceAdd, Nat.reduceSub, Nat.reduceMul, Nat.reduceEqDiff, reduceCtorEq, ↓reduceIte, Int.reduceEq, Int.reduceLT, Int.reduceLE, Int.reduceNe, Int.reduceAdd, Int.reduceSub, Int.reduceMul, Int.reduceToNat, Nat.reduceShiftRight, Nat.reduceAnd, Nat.reduceBNe]
        exact ⟨fun _ => ⟨by omega, fun h => absurd h (by omega), fun _ => ⟨by omega, fun h => absurd h (by omega), fun _ => ⟨by simp only [inR]; omega, k + 1, by omega, by omega, wk_cut [57, 56, 55, 16, 15, 6, 3] 1 rfl ⟨rfl, rfl, rfl⟩ rfl⟩⟩⟩, fun h => absurd hkc (by omega)⟩
      · simp -implicitDefEqProofs only [c9L0, push_cast, Nat.reduceBEq, Nat.reduceLT, Nat.reduceLeDiff, Nat.reduceAdd, Nat.reduceSub, Nat.reduceMul, Nat.reduceEqDiff, reduceCtorEq, ↓reduceIte, Int.reduceEq, Int.reduceLT, Int.reduceLE, Int.reduceNe, Int.reduceAdd, Int.reduceSub, Int.reduceMul, Int.reduceToNat, Nat.reduceShiftRight, Nat.reduceAnd, Nat.reduceBNe]
        refine ⟨fun h => absurd h (by omega), fun _ => ⟨by simp only [inR]; omega, q + 1, by omega, by omega, ?_⟩⟩
        show Wk 0 _ ⟨[(16, I (q + 1 : Nat)), (15, I n), (4, IL (digs c q).1), (3, IL c)], [boxD dc dw dof], []⟩
        rw [hve]
        exact wk_cut [16, 15, 4, 3] 1 rfl ⟨rfl, rfl, rfl⟩ rfl
    · skip
      refine callF (is_pc q) ⟨rfl, trivial⟩ rfl rfl ?_
      simp -implicitDefEqProofs only [push_cast, Nat.reduceBEq, Nat.reduceLT, Nat.reduceLeDiff, Nat.reduceAdd, Nat.reduceSub, Nat.reduceMul, Nat.reduceEqDiff, reduceCtorEq, ↓reduceIte, Int.reduceEq, Int.reduceLT, Int.reduceLE, Int.reduceNe, Int.reduceAdd, Int.reduceSub, Int.reduceMul, Int.reduceToNat, Nat.reduceShiftRight, Nat.reduceAnd, Nat.reduceBNe]
      refine callF hxq ⟨rfl, rfl, trivial⟩ rfl rfl ?_
      simp -implicitDefEqProofs only [push_cast, Nat.reduceBEq, Nat.reduceLT, Nat.reduceLeDiff, Nat.reduceAdd, Nat.reduceSub, Nat.reduceMul, Nat.reduceEqDiff, reduceCtorEq, ↓reduceIte, Int.reduceEq, Int.reduceLT, Int.reduceLE, Int.reduceNe, Int.reduceAdd, Int.reduceSub, Int.reduceMul, Int.reduceToNat, Nat.reduceShiftRight, Nat.reduceAnd, Nat.reduceBNe]
      refine callF (isC_pc q 0 q) ⟨rfl, rfl, rfl, trivial⟩ rfl rfl ?_
      simp -implicitDefEqProofs only [show decide ((q : Int) = q ∧ (0 : Int) = 0) = true from by simp, push_cast, Nat.reduceBEq, Nat.reduceLT, Nat.reduceLeDiff, Nat.reduceAdd, Nat.reduceSub, Nat.reduceMul, Nat.reduceEqDiff, reduceCtorEq, ↓reduceIte, Int.reduceEq, Int.reduceLT, Int.reduceLE, Int.reduceNe, Int.reduceAdd, Int.reduceSub, Int.reduceMul, Int.reduceToNat, Nat.reduceShiftRight, Nat.reduceAnd, Nat.reduceBNe]
      rw [hvl]
      refine loop_w (α := Nat) (fun k => ⟨[(57, I k), (56, I c.length), (55, IL v), (16, I q), (15, I n), (6, IL v), (3, IL c)], [boxD dc dw dof], []⟩) (fun k => k ≤ c.length) (fun k => c.length - k) 0 (wk_cut [57, 56, 55, 16, 15, 6, 3] 1 rfl ⟨rfl, rfl, rfl⟩ rfl) (by omega) ?_
      intro k hk
      by_cases hkc : k < c.length
      · have hb := withinL_get v c k hwq (by omega)
        simp -implicitDefEqProofs only [c9L0, push_cast, Nat.reduceBEq, Nat.reduceLT, Nat.reduceLeDiff, Nat.reduceAdd, Nat.reduceSub, Nat.reduceMul, Nat.reduceEqDiff, reduceCtorEq, ↓reduceIte, Int.reduceEq, Int.reduceLT, Int.reduceLE, Int.reduceNe, Int.reduceAdd, Int.reduceSub, Int.reduceMul, Int.reduceToNat, Nat.reduceShiftRight, Nat.reduceAnd, Nat.reduceBNe]
        exact ⟨fun _ => ⟨by omega, fun h => absurd h (by omega), fun _ => ⟨by omega, fun h => absurd h (by omega), fun _ => ⟨by simp only [inR]; omega, k + 1, by omega, by omega, wk_cut [57, 56, 55, 16, 15, 6, 3] 1 rfl ⟨rfl, rfl, rfl⟩ rfl⟩⟩⟩, fun h => absurd hkc (by omega)⟩
      · simp -implicitDefEqProofs only [c9L0, push_cast, Nat.reduceBEq, Nat.reduceLT, Nat.reduceLeDiff, Nat.reduceAdd, Nat.reduceSub, Nat.reduceMul, Nat.reduceEqDiff, reduceCtorEq, ↓reduceIte, Int.reduceEq, Int.reduceLT, Int.reduceLE, Int.reduceNe, Int.reduceAdd, Int.reduceSub, Int.reduceMul, Int.reduceToNat, Nat.reduceShiftRight, Nat.reduceAnd, Nat.reduceBNe]
        refine ⟨fun h => absurd h (by omega), fun _ => ⟨by simp only [inR]; omega, q + 1, by omega, by omega, ?_⟩⟩
        show Wk 0 _ ⟨[(16, I (q + 1 : Nat)), (15, I n), (4, IL (digs c q).1), (3, IL c)], [boxD dc dw dof], []⟩
        rw [hve]
        exact wk_cut [16, 15, 4, 3] 1 rfl ⟨rfl, rfl, rfl⟩ rfl
  · have : q = n := by omega
    subst this
    obtain ⟨l, hle, hll⟩ : ∃ l, lastV c q = IL l ∧ l.length = c.length := by
      obtain ⟨q, rfl⟩ : ∃ q', q = q' + 1 := ⟨q - 1, by omega⟩
      exact ⟨(digs c q).1, rfl, digs_length _ _⟩
    have hsi := size_vc c
    rw [hs] at hsi
    have hsi : PC Try.prog 14 [IL c] (.tup [I q, I 0]) := hsi
    have hbad : PC Try.prog 23 [IL c, IL (l ++ [0])] (.tup [I 0, I 2]) := by
      have := index_vc c (l ++ [0]) (by simp; omega)
      unfold indexS at this
      rw [hs, withinL_ne (l ++ [0]) c (by simp; omega)] at this
      exact this
    rw [hle]
    simp -implicitDefEqProofs only [c9L1, push_cast, Nat.reduceBEq, Nat.reduceLT, Nat.reduceLeDiff, Nat.reduceAdd, Nat.reduceSub, Nat.reduceMul, Nat.reduceEqDiff, reduceCtorEq, ↓reduceIte, Int.reduceEq, Int.reduceLT, Int.reduceLE, Int.reduceNe, Int.reduceAdd, Int.reduceSub, Int.reduceMul, Int.reduceToNat, Nat.reduceShiftRight, Nat.reduceAnd, Nat.reduceBNe]
    refine ⟨fun h => absurd h (by omega), fun _ => ?_⟩
    refine callF (lawsize_vc c q hsz (by omega)) ⟨rfl, trivial⟩ rfl rfl ?_
    simp -implicitDefEqProofs only [push_cast, Nat.reduceBEq, Nat.reduceLT, Nat.reduceLeDiff, Nat.reduceAdd, Nat.reduceSub, Nat.reduceMul, Nat.reduceEqDiff, reduceCtorEq, ↓reduceIte, Int.reduceEq, Int.reduceLT, Int.reduceLE, Int.reduceNe, Int.reduceAdd, Int.reduceSub, Int.reduceMul, Int.reduceToNat, Nat.reduceShiftRight, Nat.reduceAnd, Nat.reduceBNe]
    refine callF (is_pc q) ⟨rfl, trivial⟩ rfl rfl ?_
    simp -implicitDefEqProofs only [push_cast, Nat.reduceBEq, Nat.reduceLT, Nat.reduceLeDiff, Nat.reduceAdd, Nat.reduceSub, Nat.reduceMul, Nat.reduceEqDiff, reduceCtorEq, ↓reduceIte, Int.reduceEq, Int.reduceLT, Int.reduceLE, Int.reduceNe, Int.reduceAdd, Int.reduceSub, Int.reduceMul, Int.reduceToNat, Nat.reduceShiftRight, Nat.reduceAnd, Nat.reduceBNe]
    refine callF hsi ⟨rfl, trivial⟩ rfl rfl ?_
    simp -implicitDefEqProofs only [push_cast, Nat.reduceBEq, Nat.reduceLT, Nat.reduceLeDiff, Nat.reduceAdd, Nat.reduceSub, Nat.reduceMul, Nat.reduceEqDiff, reduceCtorEq, ↓reduceIte, Int.reduceEq, Int.reduceLT, Int.reduceLE, Int.reduceNe, Int.reduceAdd, Int.reduceSub, Int.reduceMul, Int.reduceToNat, Nat.reduceShiftRight, Nat.reduceAnd, Nat.reduceBNe]
    refine callF (isC_pc q 0 q) ⟨rfl, rfl, rfl, trivial⟩ rfl rfl ?_
    simp -implicitDefEqProofs only [show decide ((q : Int) = q ∧ (0 : Int) = 0) = true from by simp, push_cast, Nat.reduceBEq, Nat.reduceLT, Nat.reduceLeDiff, Nat.reduceAdd, Nat.reduceSub, Nat.reduceMul, Nat.reduceEqDiff, reduceCtorEq, ↓reduceIte, Int.reduceEq, Int.reduceLT, Int.reduceLE, Int.reduceNe, Int.reduceAdd, Int.reduceSub, Int.reduceMul, Int.reduceToNat, Nat.reduceShiftRight, Nat.reduceAnd, Nat.reduceBNe]
    refine callF (fails_pc 2) ⟨rfl, trivial⟩ rfl rfl ?_
    simp -implicitDefEqProofs only [push_cast, Nat.reduceBEq, Nat.reduceLT, Nat.reduceLeDiff, Nat.reduceAdd, Nat.reduceSub, Nat.reduceMul, Nat.reduceEqDiff, reduceCtorEq, ↓reduceIte, Int.reduceEq, Int.reduceLT, Int.reduceLE, Int.reduceNe, Int.reduceAdd, Int.reduceSub, Int.reduceMul, Int.reduceToNat, Nat.reduceShiftRight, Nat.reduceAnd, Nat.reduceBNe]
    refine callAQ (clone_vc l (by omega)) ⟨rfl, trivial⟩ rfl ?_
    rintro v0 fr0 (⟨rfl, rfl, rfl⟩ | ⟨rfl, rfl, rfl⟩ | ⟨hne0, rfl, rfl⟩)
    · simp -implicitDefEqProofs only [push_cast, Nat.reduceBEq, Nat.reduceLT, Nat.reduceLeDiff, Nat.reduceAdd, Nat.reduceSub, Nat.reduceMul, Nat.reduceEqDiff, reduceCtorEq, ↓reduceIte, Int.reduceEq, Int.reduceLT, Int.reduceLE, Int.reduceNe, Int.reduceAdd, Int.reduceSub, Int.reduceMul, Int.reduceToNat, Nat.reduceShiftRight, Nat.reduceAnd, Nat.reduceBNe]
      refine ⟨by simp only [two47]; omega, ?_⟩
      refine callB hbad ⟨rfl, rd_seq rfl rfl, trivial⟩ rfl rfl ?_
      simp -implicitDefEqProofs only [push_cast, Nat.reduceBEq, Nat.reduceLT, Nat.reduceLeDiff, Nat.reduceAdd, Nat.reduceSub, Nat.reduceMul, Nat.reduceEqDiff, reduceCtorEq, ↓reduceIte, Int.reduceEq, Int.reduceLT, Int.reduceLE, Int.reduceNe, Int.reduceAdd, Int.reduceSub, Int.reduceMul, Int.reduceToNat, Nat.reduceShiftRight, Nat.reduceAnd, Nat.reduceBNe]
      refine callF (failsC_pc 0 2 2) ⟨rfl, rfl, rfl, trivial⟩ rfl rfl ?_
      simp -implicitDefEqProofs only [push_cast, Nat.reduceBEq, Nat.reduceLT, Nat.reduceLeDiff, Nat.reduceAdd, Nat.reduceSub, Nat.reduceMul, Nat.reduceEqDiff, reduceCtorEq, ↓reduceIte, Int.reduceEq, Int.reduceLT, Int.reduceLE, Int.reduceNe, Int.reduceAdd, Int.reduceSub, Int.reduceMul, Int.reduceToNat, Nat.reduceShiftRight, Nat.reduceAnd, Nat.reduceBNe]
      exact finC (by simp) rfl
    · simp -implicitDefEqProofs only [push_cast, Nat.reduceBEq, Nat.reduceLT, Nat.reduceLeDiff, Nat.reduceAdd, Nat.reduceSub, Nat.reduceMul, Nat.reduceEqDiff, reduceCtorEq, ↓reduceIte, Int.reduceEq, Int.reduceLT, Int.reduceLE, Int.reduceNe, Int.reduceAdd, Int.reduceSub, Int.reduceMul, Int.reduceToNat, Nat.reduceShiftRight, Nat.reduceAnd, Nat.reduceBNe]
      refine ⟨by simp only [two47]; omega, ?_⟩
      refine callB hbad ⟨rfl, rd_seq rfl rfl, trivial⟩ rfl rfl ?_
      simp -implicitDefEqProofs only [push_cast, Nat.reduceBEq, Nat.reduceLT, Nat.reduceLeDiff, Nat.reduceAdd, Nat.reduceSub, Nat.reduceMul, Nat.reduceEqDiff, reduceCtorEq, ↓reduceIte, Int.reduceEq, Int.reduceLT, Int.reduceLE, Int.reduceNe, Int.reduceAdd, Int.reduceSub, Int.reduceMul, Int.reduceToNat, Nat.reduceShiftRight, Nat.reduceAnd, Nat.reduceBNe]
      refine callF (failsC_pc 0 2 2) ⟨rfl, rfl, rfl, trivial⟩ rfl rfl ?_
      simp -implicitDefEqProofs only [push_cast, Nat.reduceBEq, Nat.reduceLT, Nat.reduceLeDiff, Nat.reduceAdd, Nat.reduceSub, Nat.reduceMul, Nat.reduceEqDiff, reduceCtorEq, ↓reduceIte, Int.reduceEq, Int.reduceLT, Int.reduceLE, Int.reduceNe, Int.reduceAdd, Int.reduceSub, Int.reduceMul, Int.reduceToNat, Nat.reduceShiftRight, Nat.reduceAnd, Nat.reduceBNe]
      exact finC (by simp) rfl
    · simp -implicitDefEqProofs only [push_cast, Nat.reduceBEq, Nat.reduceLT, Nat.reduceLeDiff, Nat.reduceAdd, Nat.reduceSub, Nat.reduceMul, Nat.reduceEqDiff, reduceCtorEq, ↓reduceIte, Int.reduceEq, Int.reduceLT, Int.reduceLE, Int.reduceNe, Int.reduceAdd, Int.reduceSub, Int.reduceMul, Int.reduceToNat, Nat.reduceShiftRight, Nat.reduceAnd, Nat.reduceBNe]
      refine ⟨Nat.le_refl _, ⟨by simp only [two47]; omega, by simp only [two47]; omega⟩, ?_⟩
      refine callB hbad ⟨rfl, rd_seq rfl rfl, trivial⟩ rfl rfl ?_
      simp -implicitDefEqProofs only [push_cast, Nat.reduceBEq, Nat.reduceLT, Nat.reduceLeDiff, Nat.reduceAdd, Nat.reduceSub, Nat.reduceMul, Nat.reduceEqDiff, reduceCtorEq, ↓reduceIte, Int.reduceEq, Int.reduceLT, Int.reduceLE, Int.reduceNe, Int.reduceAdd, Int.reduceSub, Int.reduceMul, Int.reduceToNat, Nat.reduceShiftRight, Nat.reduceAnd, Nat.reduceBNe]
      refine callF (failsC_pc 0 2 2) ⟨rfl, rfl, rfl, trivial⟩ rfl rfl ?_
      simp -implicitDefEqProofs only [push_cast, Nat.reduceBEq, Nat.reduceLT, Nat.reduceLeDiff, Nat.reduceAdd, Nat.reduceSub, Nat.reduceMul, Nat.reduceEqDiff, reduceCtorEq, ↓reduceIte, Int.reduceEq, Int.reduceLT, Int.reduceLE, Int.reduceNe, Int.reduceAdd, Int.reduceSub, Int.reduceMul, Int.reduceToNat, Nat.reduceShiftRight, Nat.reduceAnd, Nat.reduceBNe]
      exact finC (by simp) rfl
end Go.Proofs.Ytcplbmlebogffaa
