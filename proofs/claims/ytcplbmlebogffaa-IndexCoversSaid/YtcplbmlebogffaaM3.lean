/- Texts of this claim, joined: an abstract machine over the model, proved sound; contracts of functions. -/
import Derived.KernelRfl
import Derived.Test.YtcplbmlebogffaaM2
set_option linter.unusedSimpArgs false
set_option linter.unusedVariables false

namespace Go.Proofs.Ytcplbmlebogffaa
open Go GoV

def c6L0 : AC := (AC.reg false [{ dst := some 40, ins := GoV.Instr.bin BinOp.lss (Opd.t 39) (Opd.t 38), guard := none }]).seq ((AC.cond (Opd.t 40) AC.skip (AC.exit 0)).seq ((AC.block 1 ((AC.reg false [{ dst := some 41, ins := GoV.Instr.mov (Opd.t 39), guard := none }, { dst := some 42, ins := GoV.Instr.idxA 1 (Opd.t 37) (Opd.t 39), guard := none }, { dst := some 43, ins := GoV.Instr.load 1 false (Opd.t 42), guard := none }, { dst := some 10, ins := GoV.Instr.mov (Opd.t 41), guard := none }, { dst := some 11, ins := GoV.Instr.mov (Opd.t 43), guard := none }]).seq (AC.reg false [{ dst := some 44, ins := GoV.Instr.mov (Opd.t 8), guard := none }, { dst := some 45, ins := GoV.Instr.mov (Opd.t 10), guard := none }, { dst := some 46, ins := GoV.Instr.mov (Opd.t 9), guard := none }, { dst := some 47, ins := GoV.Instr.mov (Opd.t 11), guard := none }, { dst := some 48, ins := GoV.Instr.mov (Opd.t 5), guard := none }, { dst := some 49, ins := GoV.Instr.mov (Opd.t 11), guard := none }, { dst := some 50, ins := GoV.Instr.idxA 1 (Opd.t 48) (Opd.t 49), guard := none }, { dst := some 51, ins := GoV.Instr.load 1 false (Opd.t 50), guard := none }, { dst := some 52, ins := GoV.Instr.mov (Opd.t 10), guard := none }, { dst := some 53, ins := GoV.Instr.idxA 1 (Opd.t 44) (Opd.t 45), guard := none }, { dst := none, ins := GoV.Instr.store 1 (Opd.t 53) (Opd.t 51), guard := none }, { dst := some 54, ins := GoV.Instr.idxA 1 (Opd.t 46) (Opd.t 47), guard := none }, { dst := none, ins := GoV.Instr.store 1 (Opd.t 54) (Opd.t 52), guard := none }]))).seq (AC.reg false [{ dst := some 55, ins := GoV.Instr.bin BinOp.add (Opd.t 39) (Opd.c (AV.dat (Ty.int IntKind.i64) (1 : Int))), guard := none }, { dst := some 39, ins := GoV.Instr.mov (Opd.t 55), guard := none }])))
def c6L1 : AC := (AC.reg false [{ dst := some 102, ins := GoV.Instr.bin BinOp.lss (Opd.t 101) (Opd.t 100), guard := none }]).seq ((AC.cond (Opd.t 102) AC.skip (AC.exit 2)).seq ((AC.block 3 ((AC.reg false [{ dst := some 103, ins := GoV.Instr.mov (Opd.t 101), guard := none }, { dst := some 104, ins := GoV.Instr.idxA 1 (Opd.t 99) (Opd.t 101), guard := none }, { dst := some 105, ins := GoV.Instr.load 1 false (Opd.t 104), guard := none }, { dst := some 18, ins := GoV.Instr.mov (Opd.t 103), guard := none }, { dst := some 19, ins := GoV.Instr.mov (Opd.t 105), guard := none }]).seq ((AC.reg true [{ dst := some 106, ins := GoV.Instr.mov (Opd.t 16), guard := none }, { dst := some 107, ins := GoV.Instr.mov (Opd.t 18), guard := none }, { dst := some 108, ins := GoV.Instr.idxA 1 (Opd.t 106) (Opd.t 107), guard := none }, { dst := some 109, ins := GoV.Instr.load 1 false (Opd.t 108), guard := none }, { dst := some 110, ins := GoV.Instr.mov (Opd.t 14), guard := none }, { dst := some 111, ins := GoV.Instr.mov (Opd.t 19), guard := none }, { dst := some 112, ins := GoV.Instr.idxA 1 (Opd.t 110) (Opd.t 111), guard := none }, { dst := some 113, ins := GoV.Instr.load 1 false (Opd.t 112), guard := none }, { dst := some 114, ins := GoV.Instr.bin BinOp.neq (Opd.t 109) (Opd.t 113), guard := none }]).seq (AC.cond (Opd.t 114) ((AC.reg false [{ dst := some 4, ins := GoV.Instr.mov (Opd.c (AV.dat Ty.bool false)), guard := none }]).seq AC.ret) AC.skip)))).seq (AC.reg false [{ dst := some 115, ins := GoV.Instr.bin BinOp.add (Opd.t 101) (Opd.c (AV.dat (Ty.int IntKind.i64) (1 : Int))), guard := none }, { dst := some 101, ins := GoV.Instr.mov (Opd.t 115), guard := none }])))
def c6 : FnC := { n := 125, body := (AC.reg false [{ dst := some 2, ins := GoV.Instr.box (Opd.t 0), guard := none }, { dst := some 4, ins := GoV.Instr.mov (Opd.c (AV.dat Ty.bool false)), guard := none }]).seq (((AC.reg false [{ dst := some 20, ins := GoV.Instr.call (Opd.c (AV.fn 10 [] [])) [], guard := none }, { dst := some 21, ins := GoV.Instr.un UnOp.not (Opd.t 20), guard := none }]).seq (AC.cond (Opd.t 21) ((AC.reg false [{ dst := some 4, ins := GoV.Instr.mov (Opd.c (AV.dat Ty.bool false)), guard := none }]).seq AC.ret) AC.skip)).seq ((AC.reg true [{ dst := some 22, ins := GoV.Instr.load 3 true (Opd.t 2), guard := none }, { dst := some 23, ins := GoV.Instr.callp (Opd.c (AV.fn 12 [] [])) [Opd.t 22], guard := none }, { dst := some 24, ins := GoV.Instr.load 3 true (Opd.t 2), guard := none }, { dst := some 25, ins := GoV.Instr.callp (Opd.c (AV.fn 33 [] [])) [Opd.t 24], guard := none }, { dst := some 5, ins := GoV.Instr.mov (Opd.t 23), guard := none }, { dst := some 6, ins := GoV.Instr.mov (Opd.t 25), guard := none }]).seq ((AC.reg false [{ dst := some 26, ins := GoV.Instr.mov (Opd.t 1), guard := none }, { dst := some 27, ins := GoV.Instr.conv IntKind.i64 (Opd.t 26), guard := none }, { dst := some 28, ins := GoV.Instr.mov (Opd.t 5), guard := none }, { dst := some 29, ins := GoV.Instr.call (Opd.c (AV.fn 36 [] [])) [Opd.t 28], guard := none }, { dst := some 30, ins := GoV.Instr.bin BinOp.rem (Opd.t 27) (Opd.t 29), guard := none }, { dst := some 7, ins := GoV.Instr.mov (Opd.t 30), guard := none }]).seq ((AC.regG 2 [0, 1, 3, 0, 8, 24, 7, 127] [{ dst := some 31, ins := GoV.Instr.mov (Opd.t 5), guard := none }, { dst := some 32, ins := GoV.Instr.len (Opd.t 31), guard := none }, { dst := some 33, ins := GoV.Instr.mkR 2 (Ty.int IntKind.i64) 8 (Opd.t 32) (Opd.t 32), guard := none }, { dst := some 34, ins := GoV.Instr.mov (Opd.t 5), guard := none }, { dst := some 35, ins := GoV.Instr.len (Opd.t 34), guard := none }, { dst := some 36, ins := GoV.Instr.mkR 1 (Ty.int IntKind.i64) 8 (Opd.t 35) (Opd.t 35), guard := none }, { dst := some 8, ins := GoV.Instr.mov (Opd.t 33), guard := none }, { dst := some 9, ins := GoV.Instr.mov (Opd.t 36), guard := none }]).seq (((AC.reg false [{ dst := some 37, ins := GoV.Instr.mov (Opd.t 6), guard := none }, { dst := some 38, ins := GoV.Instr.len (Opd.t 37), guard := none }, { dst := some 39, ins := GoV.Instr.mov (Opd.c (AV.dat (Ty.int IntKind.i64) (0 : Int))), guard := none }]).seq (AC.block 0 (AC.loop c6L0))).seq ((AC.reg false [{ dst := some 57, ins := GoV.Instr.mov (Opd.t 5), guard := none }, { dst := some 58, ins := GoV.Instr.mov (Opd.t 6), guard := none }, { dst := some 59, ins := GoV.Instr.mov (Opd.t 7), guard := none }, { dst := some 60, ins := GoV.Instr.call (Opd.c (AV.fn 34 [] [])) [Opd.t 57, Opd.t 58, Opd.t 59], guard := none }, { dst := some 56, ins := GoV.Instr.mov (Opd.t 60), guard := none }, { dst := some 61, ins := GoV.Instr.ext (Opd.t 56) 0, guard := none }, { dst := some 62, ins := GoV.Instr.ext (Opd.t 56) 1, guard := none }, { dst := some 12, ins := GoV.Instr.mov (Opd.t 61), guard := none }, { dst := some 13, ins := GoV.Instr.mov (Opd.t 62), guard := none }]).seq ((AC.reg false [{ dst := some 64, ins := GoV.Instr.mov (Opd.t 5), guard := none }, { dst := some 65, ins := GoV.Instr.mov (Opd.t 7), guard := none }, { dst := some 66, ins := GoV.Instr.call (Opd.c (AV.fn 18 [] [])) [Opd.t 64, Opd.t 65], guard := none }, { dst := some 63, ins := GoV.Instr.mov (Opd.t 66), guard := none }, { dst := some 67, ins := GoV.Instr.ext (Opd.t 63) 0, guard := none }, { dst := some 68, ins := GoV.Instr.ext (Opd.t 63) 1, guard := none }, { dst := some 14, ins := GoV.Instr.mov (Opd.t 67), guard := none }, { dst := some 15, ins := GoV.Instr.mov (Opd.t 68), guard := none }]).seq ((AC.reg false [{ dst := some 70, ins := GoV.Instr.mov (Opd.t 8), guard := none }, { dst := some 71, ins := GoV.Instr.mov (Opd.t 12), guard := none }, { dst := some 72, ins := GoV.Instr.call (Opd.c (AV.fn 18 [] [])) [Opd.t 70, Opd.t 71], guard := none }, { dst := some 69, ins := GoV.Instr.mov (Opd.t 72), guard := none }, { dst := some 73, ins := GoV.Instr.ext (Opd.t 69) 0, guard := none }, { dst := some 74, ins := GoV.Instr.ext (Opd.t 69) 1, guard := none }, { dst := some 16, ins := GoV.Instr.mov (Opd.t 73), guard := none }, { dst := some 17, ins := GoV.Instr.mov (Opd.t 74), guard := none }]).seq (((AC.reg false [{ dst := some 75, ins := GoV.Instr.mov (Opd.t 13), guard := none }, { dst := some 76, ins := GoV.Instr.bin BinOp.neq (Opd.t 75) (Opd.c (AV.dat (Ty.int IntKind.i64) (0 : Int))), guard := none }, { dst := some 77, ins := GoV.Instr.mov (Opd.t 76), guard := none }, { dst := some 78, ins := GoV.Instr.mov (Opd.t 15), guard := some (77, false) }, { dst := some 79, ins := GoV.Instr.bin BinOp.neq (Opd.t 78) (Opd.c (AV.dat (Ty.int IntKind.i64) (0 : Int))), guard := some (77, false) }, { dst := some 80, ins := GoV.Instr.pick (Opd.t 77) (Opd.c (AV.dat Ty.bool true)) (Opd.t 79), guard := none }, { dst := some 81, ins := GoV.Instr.mov (Opd.t 80), guard := none }, { dst := some 82, ins := GoV.Instr.mov (Opd.t 17), guard := some (81, false) }, { dst := some 83, ins := GoV.Instr.bin BinOp.neq (Opd.t 82) (Opd.c (AV.dat (Ty.int IntKind.i64) (0 : Int))), guard := some (81, false) }, { dst := some 84, ins := GoV.Instr.pick (Opd.t 81) (Opd.c (AV.dat Ty.bool true)) (Opd.t 83), guard := none }, { dst := some 85, ins := GoV.Instr.mov (Opd.t 84), guard := none }, { dst := some 86, ins := GoV.Instr.mov (Opd.t 14), guard := some (85, false) }, { dst := some 87, ins := GoV.Instr.len (Opd.t 86), guard := some (85, false) }, { dst := some 88, ins := GoV.Instr.mov (Opd.t 5), guard := some (85, false) }, { dst := some 89, ins := GoV.Instr.len (Opd.t 88), guard := some (85, false) }, { dst := some 90, ins := GoV.Instr.bin BinOp.neq (Opd.t 87) (Opd.t 89), guard := some (85, false) }, { dst := some 91, ins := GoV.Instr.pick (Opd.t 85) (Opd.c (AV.dat Ty.bool true)) (Opd.t 90), guard := none }, { dst := some 92, ins := GoV.Instr.mov (Opd.t 91), guard := none }, { dst := some 93, ins := GoV.Instr.mov (Opd.t 16), guard := some (92, false) }, { dst := some 94, ins := GoV.Instr.len (Opd.t 93), guard := some (92, false) }, { dst := some 95, ins := GoV.Instr.mov (Opd.t 5), guard := some (92, false) }, { dst := some 96, ins := GoV.Instr.len (Opd.t 95), guard := some (92, false) }, { dst := some 97, ins := GoV.Instr.bin BinOp.neq (Opd.t 94) (Opd.t 96), guard := some (92, false) }, { dst := some 98, ins := GoV.Instr.pick (Opd.t 92) (Opd.c (AV.dat Ty.bool true)) (Opd.t 97), guard := none }]).seq (AC.cond (Opd.t 98) ((AC.reg false [{ dst := some 4, ins := GoV.Instr.mov (Opd.c (AV.dat Ty.bool false)), guard := none }]).seq AC.ret) AC.skip)).seq (((AC.reg false [{ dst := some 99, ins := GoV.Instr.mov (Opd.t 6), guard := none }, { dst := some 100, ins := GoV.Instr.len (Opd.t 99), guard := none }, { dst := some 101, ins := GoV.Instr.mov (Opd.c (AV.dat (Ty.int IntKind.i64) (0 : Int))), guard := none }]).seq (AC.block 2 (AC.loop c6L1))).seq ((AC.reg false [{ dst := some 116, ins := GoV.Instr.mov (Opd.t 7), guard := none }, { dst := some 117, ins := GoV.Instr.call (Opd.c (AV.fn 37 [] [])) [Opd.t 116], guard := none }, { dst := some 118, ins := GoV.Instr.mov (Opd.t 8), guard := none }, { dst := some 119, ins := GoV.Instr.mov (Opd.t 9), guard := none }, { dst := some 120, ins := GoV.Instr.mov (Opd.t 12), guard := none }, { dst := some 121, ins := GoV.Instr.call (Opd.c (AV.fn 34 [] [])) [Opd.t 118, Opd.t 119, Opd.t 120], guard := none }, { dst := some 122, ins := GoV.Instr.ext (Opd.t 121) 0, guard := none }, { dst := some 123, ins := GoV.Instr.ext (Opd.t 121) 1, guard := none }, { dst := some 124, ins := GoV.Instr.call (Opd.t 117) [Opd.t 122, Opd.t 123], guard := none }, { dst := some 4, ins := GoV.Instr.mov (Opd.t 124), guard := none }]).seq AC.ret))))))))))), res := [RV.tmp 4] }
set_option maxRecDepth 100000 in
theorem h6 : fnOf Try.prog 6 = some c6 := by kernel_rfl
def c42 : FnC := { n := 8, body := (AC.reg false [{ dst := some 2, ins := GoV.Instr.mov (Opd.c AV.nils), guard := none }]).seq (((AC.reg false [{ dst := some 3, ins := GoV.Instr.mov (Opd.t 0), guard := none }, { dst := some 4, ins := GoV.Instr.isnil true (Opd.t 3), guard := none }]).seq (AC.cond (Opd.t 4) ((AC.reg false [{ dst := some 2, ins := GoV.Instr.mov (Opd.c AV.nils), guard := none }]).seq AC.ret) AC.skip)).seq ((AC.reg false [{ dst := some 5, ins := GoV.Instr.bslice (Ty.int IntKind.i64) 0 [], guard := none }, { dst := some 6, ins := GoV.Instr.mov (Opd.t 0), guard := none }, { dst := some 7, ins := GoV.Instr.app (Ty.int IntKind.i64) 8 (Opd.t 5) (Opd.t 6), guard := none }, { dst := some 2, ins := GoV.Instr.mov (Opd.t 7), guard := none }]).seq AC.ret)), res := [RV.tmp 2] }
set_option maxRecDepth 100000 in
theorem h42 : fnOf Try.prog 42 = some c42 := by kernel_rfl
end Go.Proofs.Ytcplbmlebogffaa

namespace Go.Proofs.Ytcplbmlebogffaa
open Go GoV
set_option maxHeartbeats 2000000

theorem is_pc (n : Int) : PC Try.prog 37 [I n] (.fn 49 [] [.imm (.int .i64) n]) := by
  refine pc_fn hmix h37 rfl ?_
  simp -implicitDefEqProofs only [c37, push_cast, Nat.reduceBEq, Nat.reduceLT, Nat.reduceLeDiff, Nat.reduceAdd, Nat.reduceSub, Nat.reduceMul, Nat.reduceEqDiff, reduceCtorEq, ↓reduceIte, Int.reduceEq, Int.reduceLT, Int.reduceLE, Int.reduceNe, Int.reduceAdd, Int.reduceSub, Int.reduceMul, Int.reduceToNat, Nat.reduceShiftRight, Nat.reduceAnd, Nat.reduceBNe]
  exact finR 1 rfl ⟨rfl, trivial, ⟨Nat.le_refl 1, rfl, rfl⟩, trivial⟩

theorem fails_pc (n : Int) : PC Try.prog 38 [I n] (.fn 50 [] [.imm (.int .i64) n]) := by
  refine pc_fn hmix h38 rfl ?_
  simp -implicitDefEqProofs only [c38, push_cast, Nat.reduceBEq, Nat.reduceLT, Nat.reduceLeDiff, Nat.reduceAdd, Nat.reduceSub, Nat.reduceMul, Nat.reduceEqDiff, reduceCtorEq, ↓reduceIte, Int.reduceEq, Int.reduceLT, Int.reduceLE, Int.reduceNe, Int.reduceAdd, Int.reduceSub, Int.reduceMul, Int.reduceToNat, Nat.reduceShiftRight, Nat.reduceAnd, Nat.reduceBNe]
  exact finR 1 rfl ⟨rfl, trivial, ⟨Nat.le_refl 1, rfl, rfl⟩, trivial⟩

theorem isC_pc (n e want : Int) : PC Try.prog 49 [I n, I e, .imm (.int .i64) want] (B (decide (n = want ∧ e = 0))) := by
  refine pc_fn hmix h49 rfl ?_
  simp -implicitDefEqProofs only [c49, push_cast, Nat.reduceBEq, Nat.reduceLT, Nat.reduceLeDiff, Nat.reduceAdd, Nat.reduceSub, Nat.reduceMul, Nat.reduceEqDiff, reduceCtorEq, ↓reduceIte, Int.reduceEq, Int.reduceLT, Int.reduceLE, Int.reduceNe, Int.reduceAdd, Int.reduceSub, Int.reduceMul, Int.reduceToNat, Nat.reduceShiftRight, Nat.reduceAnd, Nat.reduceBNe]
  refine ⟨fun h => ?_, fun h => ?_⟩
  · subst h
    simp -implicitDefEqProofs only [push_cast, Nat.reduceBEq, Nat.reduceLT, Nat.reduceLeDiff, Nat.reduceAdd, Nat.reduceSub, Nat.reduceMul, Nat.reduceEqDiff, reduceCtorEq, ↓reduceIte, Int.reduceEq, Int.reduceLT, Int.reduceLE, Int.reduceNe, Int.reduceAdd, Int.reduceSub, Int.reduceMul, Int.reduceToNat, Nat.reduceShiftRight, Nat.reduceAnd, Nat.reduceBNe]
    exact finC (by simp) rfl
  · exact finC (by simp [h]) rfl

theorem failsC_pc (n e want : Int) : PC Try.prog 50 [I n, I e, .imm (.int .i64) want] (B (decide (n = 0 ∧ e = want))) := by
  refine pc_fn hmix h50 rfl ?_
  simp -implicitDefEqProofs only [c50, push_cast, Nat.reduceBEq, Nat.reduceLT, Nat.reduceLeDiff, Nat.reduceAdd, Nat.reduceSub, Nat.reduceMul, Nat.reduceEqDiff, reduceCtorEq, ↓reduceIte, Int.reduceEq, Int.reduceLT, Int.reduceLE, Int.reduceNe, Int.reduceAdd, Int.reduceSub, Int.reduceMul, Int.reduceToNat, Nat.reduceShiftRight, Nat.reduceAnd, Nat.reduceBNe]
  refine ⟨fun h => ?_, fun h => ?_⟩
  · subst h
    simp -implicitDefEqProofs only [push_cast, Nat.reduceBEq, Nat.reduceLT, Nat.reduceLeDiff, Nat.reduceAdd, Nat.reduceSub, Nat.reduceMul, Nat.reduceEqDiff, reduceCtorEq, ↓reduceIte, Int.reduceEq, Int.reduceLT, Int.reduceLE, Int.reduceNe, Int.reduceAdd, Int.reduceSub, Int.reduceMul, Int.reduceToNat, Nat.reduceShiftRight, Nat.reduceAnd, Nat.reduceBNe]
    exact finC (by simp) rfl
  · exact finC (by simp [h]) rfl
end Go.Proofs.Ytcplbmlebogffaa

namespace Go.Proofs.Ytcplbmlebogffaa
open Go GoV
set_option maxHeartbeats 4000000
set_option maxRecDepth 10000

/-- drafted cards are right -/
theorem cards_ok (dc : List Int) (hdc : ∀ x ∈ dc, 0 ≤ x ∧ x ≤ 255) : (cardsL dc).length ≤ 5 ∧ (∀ c ∈ cardsL dc, 1 ≤ c ∧ c ≤ 4) ∧ sizeS (cardsL dc) = some (prodL (cardsL dc)) ∧ sizeL (cardsL dc) 1 = some (prodL (cardsL dc)) ∧ 1 ≤ prodL (cardsL dc) ∧ prodL (cardsL dc) ≤ 1024 := by
  have hl : (cardsL dc).length ≤ 5 := by simp [cardsL]; omega
  have hc : ∀ c ∈ cardsL dc, 1 ≤ c ∧ c ≤ 4 := by
    intro c h
    simp only [cardsL, List.mem_map] at h
    obtain ⟨x, hx, rfl⟩ := h
    have h0 := (hdc x (List.mem_of_mem_take hx)).1
    have h1 := Int.tmod_nonneg 4 h0
    have h2 := Int.tmod_lt_of_pos x (show (0 : Int) < 4 by omega)
    omega
  have hb : ∀ (l : List Int), (∀ c ∈ l, 1 ≤ c ∧ c ≤ 4) → prodL l ≤ 4 ^ l.length := by
    intro l
    induction l with
    | nil => intro _; simp [prodL]
    | cons c l ih =>
      intro h
      have h1 := ih (fun x hx => h x (by simp [hx]))
      have h2 := h c (by simp)
      have h3 := prodL_pos l (fun x hx => (h x (by simp [hx])).1)
      simp only [prodL, List.length_cons, Int.pow_succ]
      have h4 : c * prodL l ≤ 4 * prodL l := Int.mul_le_mul_of_nonneg_right h2.2 (by omega)
      omega
  have hp := prodL_pos (cardsL dc) (fun x hx => (hc x hx).1)
  have hm : prodL (cardsL dc) ≤ 1024 := by
    have h1 := hb _ hc
    have h2 : ∀ n : Nat, n ≤ 5 → (4 : Int) ^ n ≤ 1024 := by decide
    have h2 := h2 _ hl
    omega
  have hs := sizeL_mk (cardsL dc) 1 (fun c h => by have := hc c h; omega) (by omega) (by omega)
  rw [Int.one_mul] at hs
  refine ⟨hl, hc, ?_, hs, hp, hm⟩
  unfold sizeS
  rw [if_neg (by omega)]
  exact hs

theorem law6_pc (dc : List Int) (dw : Int) (dof : List Int) (k : Int) (hk : 0 ≤ k ∧ k ≤ 65535) (hdc : ∀ x ∈ dc, 0 ≤ x ∧ x ≤ 255) (hdo : dof.length ≤ 9223372036854775807 ∧ ∀ x ∈ dof, 0 ≤ x ∧ x ≤ 255) :
    PC Try.prog 6 [DA dc dw dof, .dat (.int .u16) k] (B true) := by
  obtain ⟨hl, hc, hs, hsz, hn1, hn2⟩ := cards_ok dc hdc
  refine pc_fn hmix h6 rfl ?_
  simp -implicitDefEqProofs only [c6, push_cast, Nat.reduceBEq, Nat.reduceLT, Nat.reduceLeDiff, Nat.reduceAdd, Nat.reduceSub, Nat.reduceMul, Nat.reduceEqDiff, reduceCtorEq, ↓reduceIte, Int.reduceEq, Int.reduceLT, Int.reduceLE, Int.reduceNe, Int.reduceAdd, Int.reduceSub, Int.reduceMul, Int.reduceToNat, Nat.reduceShiftRight, Nat.reduceAnd, Nat.reduceBNe]
  refine callF works_pc trivial rfl rfl ?_
  simp -implicitDefEqProofs only [push_cast, Nat.reduceBEq, Nat.reduceLT, Nat.reduceLeDiff, Nat.reduceAdd, Nat.reduceSub, Nat.reduceMul, Nat.reduceEqDiff, reduceCtorEq, ↓reduceIte, Int.reduceEq, Int.reduceLT, Int.reduceLE, Int.reduceNe, Int.reduceAdd, Int.reduceSub, Int.reduceMul, Int.reduceToNat, Nat.reduceShiftRight, Nat.reduceAnd, Nat.reduceBNe]
  refine ppF (cards_pc dc dw dof hdc) ⟨⟨rfl, ⟨rfl, rfl⟩, ⟨rfl, rfl⟩, ⟨rfl, rfl⟩, rfl⟩, trivial⟩ rfl rfl ?_
  simp -implicitDefEqProofs only [push_cast, Nat.reduceBEq, Nat.reduceLT, Nat.reduceLeDiff, Nat.reduceAdd, Nat.reduceSub, Nat.reduceMul, Nat.reduceEqDiff, reduceCtorEq, ↓reduceIte, Int.reduceEq, Int.reduceLT, Int.reduceLE, Int.reduceNe, Int.reduceAdd, Int.reduceSub, Int.reduceMul, Int.reduceToNat, Nat.reduceShiftRight, Nat.reduceAnd, Nat.reduceBNe]
  refine ppF (draftperm_pc dc dw dof hdc hdo) ⟨⟨rfl, ⟨rfl, rfl⟩, ⟨rfl, rfl⟩, ⟨rfl, rfl⟩, rfl⟩, trivial⟩ rfl rfl ?_
  simp -implicitDefEqProofs only [push_cast, Nat.reduceBEq, Nat.reduceLT, Nat.reduceLeDiff, Nat.reduceAdd, Nat.reduceSub, Nat.reduceMul, Nat.reduceEqDiff, reduceCtorEq, ↓reduceIte, Int.reduceEq, Int.reduceLT, Int.reduceLE, Int.reduceNe, Int.reduceAdd, Int.reduceSub, Int.reduceMul, Int.reduceToNat, Nat.reduceShiftRight, Nat.reduceAnd, Nat.reduceBNe]
  obtain ⟨c, hce⟩ : ∃ c, cardsL dc = c := ⟨_, rfl⟩
  obtain ⟨p, hpe⟩ : ∃ p, permD dof c.length = p := ⟨_, rfl⟩
  rw [hce] at hl hc hs hsz hn1 hn2 ⊢
  rw [hpe]
  have hpl : p.length = c.length := by rw [← hpe, permD_length dof hdo.2]
  have hpm : ∀ x ∈ p, 0 ≤ x ∧ x < c.length := fun x hx => (permD_mem dof c.length x).1 (by rw [hpe]; exact hx)
  have hpa : ∀ x : Int, 0 ≤ x ∧ x < c.length → x ∈ p := fun x hx => by rw [← hpe]; exact (permD_mem dof c.length x).2 hx
  have hpd : p.Nodup := by rw [← hpe]; exact permD_nodup dof c.length
  refine ⟨by simp only [inR]; omega, ?_⟩
  refine callF (lawsize_vc c (prodL c) hsz (by omega)) ⟨rfl, trivial⟩ rfl rfl ?_
  simp -implicitDefEqProofs only [push_cast, Nat.reduceBEq, Nat.reduceLT, Nat.reduceLeDiff, Nat.reduceAdd, Nat.reduceSub, Nat.reduceMul, Nat.reduceEqDiff, reduceCtorEq, ↓reduceIte, Int.reduceEq, Int.reduceLT, Int.reduceLE, Int.reduceNe, Int.reduceAdd, Int.reduceSub, Int.reduceMul, Int.reduceToNat, Nat.reduceShiftRight, Nat.reduceAnd, Nat.reduceBNe]
  obtain ⟨i, hie⟩ : ∃ i, k.tmod (prodL c) = i := ⟨_, rfl⟩
  have hi0 : 0 ≤ i := by rw [← hie]; exact Int.tmod_nonneg _ hk.1
  have hi1 : i < prodL c := by rw [← hie]; exact Int.tmod_lt_of_pos _ (by omega)
  rw [hie]
  refine ⟨by omega, ⟨⟨by omega, by omega⟩, by simp only [two47]; omega, by simp only [two47]; omega⟩, ⟨⟨by omega, by omega⟩, by simp only [two47]; omega, by simp only [two47]; omega⟩, ?_⟩
  have frz : ∀ (q : Int) (T U : List Int), T.length = c.length → U.length = c.length → T = pickL c p → U = backD p c.length c.length → Wk 0 (⟨[(39, I q), (38, I c.length), (37, IL p), (9, .slc 2 c.length 0 c.length), (8, .slc 1 c.length 0 c.length), (7, I i), (6, IL p), (5, IL c)], [boxD dc dw dof, .seq (.int .i64) T true, .seq (.int .i64) U true], []⟩ : St)
      (⟨[(39, I q), (38, I c.length), (37, IL p), (9, IL (backD p c.length c.length)), (8, IL (pickL c p)), (7, I i), (6, IL p), (5, IL c)], [boxD dc dw dof], []⟩ : St) := by
    intro q T U h1 h2 h3 h4
    rw [← h3, ← h4]
    exact (wk_frz 8 1 c.length rfl (.inl ⟨true, rfl⟩) h1).trans ((wk_frz 9 2 c.length rfl (.inl ⟨true, rfl⟩) h2).trans (wk_cut [39, 38, 37, 9, 8, 7, 6, 5] 1 rfl ⟨rfl, rfl, rfl⟩ rfl))
  refine loop_w (α := Nat) (fun q => if q < c.length then ⟨[(39, I q), (38, I c.length), (37, IL p), (9, .slc 2 c.length 0 c.length), (8, .slc 1 c.length 0 c.length), (7, I i), (6, IL p), (5, IL c)], [boxD dc dw dof, .seq (.int .i64) (turnD c p q) true, .seq (.int .i64) (backD p c.length q) true], []⟩
    else ⟨[(39, I q), (38, I c.length), (37, IL p), (9, IL (backD p c.length c.length)), (8, IL (pickL c p)), (7, I i), (6, IL p), (5, IL c)], [boxD dc dw dof], []⟩) (fun q => q ≤ c.length) (fun q => c.length - q) 0 ?_ (by omega) ?_
  · rw [hpl]
    refine (wk_cut [39, 38, 37, 9, 8, 7, 6, 5] 3 rfl ⟨rfl, rfl, rfl⟩ rfl).trans (s' := ⟨[(39, I 0), (38, I c.length), (37, IL p), (9, .slc 2 c.length 0 c.length), (8, .slc 1 c.length 0 c.length), (7, I i), (6, IL p), (5, IL c)], [boxD dc dw dof, .seq (.int .i64) (List.replicate c.length 0) true, .seq (.int .i64) (List.replicate c.length 0) true], []⟩) ?_
    by_cases h0 : 0 < c.length
    · rw [if_pos h0, turnD_zero, hpl]
      exact Wk.refl _ _
    · rw [if_neg h0]
      have h0 : c.length = 0 := by omega
      refine frz 0 _ _ (by simp) (by simp) ?_ ?_
      · have : p = [] := List.eq_nil_of_length_eq_zero (by omega)
        rw [h0, this]; rfl
      · rw [h0]; rfl
  intro q hq
  by_cases hqm : q < c.length
  · rw [if_pos hqm]
    have hql : q < p.length := by omega
    have hg : 0 ≤ p.getD q 0 ∧ p.getD q 0 < c.length := by
      have e : p.getD q 0 = p[q] := by simp [hql]
      rw [e]; exact hpm _ (List.getElem_mem hql)
    have hT : (turnD c p q).length = c.length := by rw [turnD_length c p q (by omega), hpl]
    have hU := backD_length p c.length q
    simp -implicitDefEqProofs only [c6L0, push_cast, Nat.reduceBEq, Nat.reduceLT, Nat.reduceLeDiff, Nat.reduceAdd, Nat.reduceSub, Nat.reduceMul, Nat.reduceEqDiff, reduceCtorEq, ↓reduceIte, Int.reduceEq, Int.reduceLT, Int.reduceLE, Int.reduceNe, Int.reduceAdd, Int.reduceSub, Int.reduceMul, Int.reduceToNat, Nat.reduceShiftRight, Nat.reduceAnd, Nat.reduceBNe]
    refine ⟨fun _ => ⟨by omega, hg, by omega, hT, ⟨hT, by omega⟩, hg, hU, ⟨hU, by omega⟩, by simp only [inR]; omega, q + 1, by omega, by omega, ?_⟩, fun h => by omega⟩
    rw [turnD_succ c p q hql]
    refine (wk_cut [39, 38, 37, 9, 8, 7, 6, 5] 3 rfl ⟨rfl, rfl, rfl⟩ rfl).trans (s' := ⟨[(39, I (q + 1 : Nat)), (38, I c.length), (37, IL p), (9, .slc 2 c.length 0 c.length), (8, .slc 1 c.length 0 c.length), (7, I i), (6, IL p), (5, IL c)], [boxD dc dw dof, .seq (.int .i64) (turnD c p (q + 1)) true, .seq (.int .i64) (backD p c.length (q + 1)) true], []⟩) ?_
    by_cases h1 : q + 1 < c.length
    · rw [if_pos h1]
      exact Wk.refl _ _
    · rw [if_neg h1]
      have e : q + 1 = c.length := by omega
      refine frz _ _ _ (by rw [turnD_length c p _ (by omega), hpl]) (backD_length _ _ _) ?_ (by rw [e])
      rw [e, ← hpl, turnD_all]
  · have : q = c.length := by omega
    subst this
    rw [if_neg hqm]
    obtain ⟨hb1, hb2, hb3⟩ := back_spec hpl hpm hpd hpa
    have hbl := backD_length p c.length c.length
    obtain ⟨bk, hbe⟩ : ∃ bk, backD p c.length c.length = bk := ⟨_, rfl⟩
    rw [hbe] at hb1 hb2 hb3 hbl ⊢
    obtain ⟨v, hve⟩ : ∃ v, (digs c i).1 = v := ⟨_, rfl⟩
    have hvl : v.length = c.length := by rw [← hve, digs_length]
    have hc1 : ∀ x ∈ c, 1 ≤ x := fun x hx => (hc x hx).1
    have hvw : withinL v c = true := by rw [← hve]; exact digs_within i hi0 c hc1
    have hd1 : distinctL c.length false F12 (-1) p = true := distinct_of _ (by omega) p F12 (-1) rfl hpd (fun x hx => ⟨hpm x hx, F12_get _⟩)
    obtain ⟨tu, hte⟩ : ∃ tu, pickL c p = tu := ⟨_, rfl⟩
    rw [hte]
    have htl : tu.length = c.length := by rw [← hte]; simp [pickL, hpl]
    have ht1 : ∀ x ∈ tu, 1 ≤ x := by
      intro x hx
      rw [← hte] at hx
      obtain ⟨y, hy, rfl⟩ := List.mem_map.1 hx
      have := hpm y hy
      have hlt : y.toNat < c.length := by omega
      have e : c.getD y.toNat 0 = c[y.toNat] := by simp [hlt]
      rw [e]; exact hc1 _ (List.getElem_mem hlt)
    have hts := (pick_size hs hd1).2
    rw [hte] at hts
    have hww : withinL (pickL v p) tu = true := by rw [← hte]; exact withinL_pick c v p hvl hpm hvw
    obtain ⟨j, hje⟩ : ∃ j, partN c p i = j := ⟨_, rfl⟩
    have hje2 : (idxR tu (pickL v p)).1 = j := by rw [← hje, ← hte, ← hve]; rfl
    have hj := idxR_lt tu (pickL v p) ht1 hww
    rw [hje2] at hj
    have hwe : (digs tu j).1 = pickL v p := by rw [← hje2]; exact digs_num ht1 hww
    have hp1 : PC Try.prog 34 [IL c, IL p, I i] (.tup [I j, I 0]) := by
      have := permute_pc c p i (by omega)
      unfold permS at this
      rw [hs] at this
      simp only [decide_eq_true hpl, hd1, decide_eq_true (And.intro hi0 hi1), hje] at this
      exact this
    have hv1 : PC Try.prog 18 [IL c, I i] (.tup [IL v, I 0]) := by
      have := values_pc c i
      unfold valuesS at this
      rw [hs] at this
      simp only [decide_eq_true (And.intro hi0 hi1), hve] at this
      exact this
    have hv2 : PC Try.prog 18 [IL tu, I j] (.tup [IL (pickL v p), I 0]) := by
      have := values_pc tu j
      unfold valuesS at this
      rw [hts] at this
      simp only [decide_eq_true hj, hwe] at this
      exact this
    have hd2 : distinctL tu.length false F12 (-1) bk = true := distinct_of _ (by omega) bk F12 (-1) rfl hb2 (fun x hx => ⟨by have := hb1 x hx; omega, F12_get _⟩)
    have hp2 : PC Try.prog 34 [IL tu, IL bk, I j] (.tup [I i, I 0]) := by
      have := permute_pc tu bk j (by omega)
      unfold permS at this
      rw [hts] at this
      have e : partN tu bk j = i := by
        unfold partN
        rw [hwe, ← hte, hb3 c rfl, hb3 v hvl, ← hve]
        exact num_digs hc1 ⟨hi0, hi1⟩
      simp only [decide_eq_true (show bk.length = tu.length by omega), hd2, decide_eq_true hj, e] at this
      exact this
    simp -implicitDefEqProofs only [c6L0, push_cast, Nat.reduceBEq, Nat.reduceLT, Nat.reduceLeDiff, Nat.reduceAdd, Nat.reduceSub, Nat.reduceMul, Nat.reduceEqDiff, reduceCtorEq, ↓reduceIte, Int.reduceEq, Int.reduceLT, Int.reduceLE, Int.reduceNe, Int.reduceAdd, Int.reduceSub, Int.reduceMul, Int.reduceToNat, Nat.reduceShiftRight, Nat.reduceAnd, Nat.reduceBNe]
    refine ⟨fun h => absurd h (by omega), fun _ => ?_⟩
    refine callF hp1 ⟨rfl, rfl, rfl, trivial⟩ rfl rfl ?_
    simp -implicitDefEqProofs only [push_cast, Nat.reduceBEq, Nat.reduceLT, Nat.reduceLeDiff, Nat.reduceAdd, Nat.reduceSub, Nat.reduceMul, Nat.reduceEqDiff, reduceCtorEq, ↓reduceIte, Int.reduceEq, Int.reduceLT, Int.reduceLE, Int.reduceNe, Int.reduceAdd, Int.reduceSub, Int.reduceMul, Int.reduceToNat, Nat.reduceShiftRight, Nat.reduceAnd, Nat.reduceBNe]
    refine callF hv1 ⟨rfl, rfl, trivial⟩ rfl rfl ?_
    simp -implicitDefEqProofs only [push_cast, Nat.reduceBEq, Nat.reduceLT, Nat.reduceLeDiff, Nat.reduceAdd, Nat.reduceSub, Nat.reduceMul, Nat.reduceEqDiff, reduceCtorEq, ↓reduceIte, Int.reduceEq, Int.reduceLT, Int.reduceLE, Int.reduceNe, Int.reduceAdd, Int.reduceSub, Int.reduceMul, Int.reduceToNat, Nat.reduceShiftRight, Nat.reduceAnd, Nat.reduceBNe]
    refine callF hv2 ⟨rfl, rfl, trivial⟩ rfl rfl ?_
    simp -implicitDefEqProofs only [push_cast, Nat.reduceBEq, Nat.reduceLT, Nat.reduceLeDiff, Nat.reduceAdd, Nat.reduceSub, Nat.reduceMul, Nat.reduceEqDiff, reduceCtorEq, ↓reduceIte, Int.reduceEq, Int.reduceLT, Int.reduceLE, Int.reduceNe, Int.reduceAdd, Int.reduceSub, Int.reduceMul, Int.reduceToNat, Nat.reduceShiftRight, Nat.reduceAnd, Nat.reduceBNe]
    have hwl : (pickL v p).length = c.length := by simp [pickL, hpl]
    refine ⟨fun h => absurd (by omega) h, fun _ => ⟨fun h => absurd (by omega) h, fun _ => ?_⟩⟩
    rw [hpl]
    refine loop_w (α := Nat) (fun q => ⟨[(101, I q), (100, I c.length), (99, IL p), (16, IL (pickL v p)), (14, IL v), (12, I j), (9, IL bk), (8, IL tu), (7, I i)], [boxD dc dw dof], []⟩) (fun q => q ≤ c.length) (fun q => c.length - q) 0 (wk_cut [101, 100, 99, 16, 14, 12, 9, 8, 7] 1 rfl ⟨rfl, rfl, rfl⟩ rfl) (by omega) ?_
    intro q hq
    by_cases hqc : q < c.length
    · have hql : q < p.length := by omega
      have hg : 0 ≤ p.getD q 0 ∧ p.getD q 0 < c.length := by
        have e : p.getD q 0 = p[q] := by simp [hql]
        rw [e]; exact hpm _ (List.getElem_mem hql)
      have he : (pickL v p).getD q 0 = v.getD (Int.toNat (p.getD q 0)) 0 := by simp [pickL, hql]
      simp -implicitDefEqProofs only [c6L1, he, push_cast, Nat.reduceBEq, Nat.reduceLT, Nat.reduceLeDiff, Nat.reduceAdd, Nat.reduceSub, Nat.reduceMul, Nat.reduceEqDiff, reduceCtorEq, ↓reduceIte, Int.reduceEq, Int.reduceLT, Int.reduceLE, Int.reduceNe, Int.reduceAdd, Int.reduceSub, Int.reduceMul, Int.reduceToNat, Nat.reduceShiftRight, Nat.reduceAnd, Nat.reduceBNe]
      refine ⟨fun _ => ⟨by omega, by omega, by omega, by simp only [inR]; omega, q + 1, by omega, by omega, wk_cut [101, 100, 99, 16, 14, 12, 9, 8, 7] 1 rfl ⟨rfl, rfl, rfl⟩ rfl⟩, fun h => by omega⟩
    · have : q = c.length := by omega
      subst this
      simp -implicitDefEqProofs only [c6L1, push_cast, Nat.reduceBEq, Nat.reduceLT, Nat.reduceLeDiff, Nat.reduceAdd, Nat.reduceSub, Nat.reduceMul, Nat.reduceEqDiff, reduceCtorEq, ↓reduceIte, Int.reduceEq, Int.reduceLT, Int.reduceLE, Int.reduceNe, Int.reduceAdd, Int.reduceSub, Int.reduceMul, Int.reduceToNat, Nat.reduceShiftRight, Nat.reduceAnd, Nat.reduceBNe]
      refine ⟨fun h => absurd h (by omega), fun _ => ?_⟩
      refine callF (is_pc i) ⟨rfl, trivial⟩ rfl rfl ?_
      simp -implicitDefEqProofs only [push_cast, Nat.reduceBEq, Nat.reduceLT, Nat.reduceLeDiff, Nat.reduceAdd, Nat.reduceSub, Nat.reduceMul, Nat.reduceEqDiff, reduceCtorEq, ↓reduceIte, Int.reduceEq, Int.reduceLT, Int.reduceLE, Int.reduceNe, Int.reduceAdd, Int.reduceSub, Int.reduceMul, Int.reduceToNat, Nat.reduceShiftRight, Nat.reduceAnd, Nat.reduceBNe]
      refine callF hp2 ⟨rfl, rfl, rfl, trivial⟩ rfl rfl ?_
      simp -implicitDefEqProofs only [push_cast, Nat.reduceBEq, Nat.reduceLT, Nat.reduceLeDiff, Nat.reduceAdd, Nat.reduceSub, Nat.reduceMul, Nat.reduceEqDiff, reduceCtorEq, ↓reduceIte, Int.reduceEq, Int.reduceLT, Int.reduceLE, Int.reduceNe, Int.reduceAdd, Int.reduceSub, Int.reduceMul, Int.reduceToNat, Nat.reduceShiftRight, Nat.reduceAnd, Nat.reduceBNe]
      refine callF (isC_pc i 0 i) ⟨rfl, rfl, rfl, trivial⟩ rfl rfl ?_
      simp -implicitDefEqProofs only [push_cast, Nat.reduceBEq, Nat.reduceLT, Nat.reduceLeDiff, Nat.reduceAdd, Nat.reduceSub, Nat.reduceMul, Nat.reduceEqDiff, reduceCtorEq, ↓reduceIte, Int.reduceEq, Int.reduceLT, Int.reduceLE, Int.reduceNe, Int.reduceAdd, Int.reduceSub, Int.reduceMul, Int.reduceToNat, Nat.reduceShiftRight, Nat.reduceAnd, Nat.reduceBNe]
      exact finC (by simp) rfl
end Go.Proofs.Ytcplbmlebogffaa

namespace Go.Proofs.Ytcplbmlebogffaa
open Go GoV
set_option maxHeartbeats 2000000

def cnt (f : Nat → Bool) : Nat → Nat
  | 0 => 0
  | n + 1 => cnt f n + (match f n with | true => 1 | false => 0)

theorem cnt_congr {f g : Nat → Bool} : ∀ (n : Nat), (∀ i, i < n → f i = g i) → cnt f n = cnt g n
  | 0, _ => rfl
  | n + 1, h => by simp only [cnt]; rw [cnt_congr n (fun i hi => h i (by omega)), h n (by omega)]
theorem cnt_add (f : Nat → Bool) (a : Nat) : ∀ (b : Nat), cnt f (a + b) = cnt f a + cnt (fun v => f (a + v)) b
  | 0 => rfl
  | b + 1 => by
    rw [← Nat.add_assoc]
    simp only [cnt]
    rw [cnt_add f a b]
    omega
theorem cnt_false : ∀ (n : Nat), cnt (fun _ => false) n = 0
  | 0 => rfl
  | n + 1 => by simp only [cnt]; rw [cnt_false n]
theorem cnt_true : ∀ (n : Nat), cnt (fun _ => true) n = n
  | 0 => rfl
  | n + 1 => by simp only [cnt]; rw [cnt_true n]
theorem cnt_eq (t : Nat) : ∀ (n : Nat), cnt (fun v => decide (v = t)) n = if t < n then 1 else 0
  | 0 => rfl
  | n + 1 => by
    have e : cnt (fun v => decide (v = t)) (n + 1) = (if t < n then 1 else 0) + (match decide (n = t) with | true => 1 | false => 0) := by
      simp only [cnt]; rw [cnt_eq t n]
    rw [e]
    by_cases h : n = t
    · subst h
      simp
    · rw [decide_eq_false h]
      by_cases h2 : t < n
      · rw [if_pos h2, if_pos (by omega)]; rfl
      · rw [if_neg h2, if_neg (by omega)]; rfl

/-- the last digit counts -/
theorem cnt_bit (g : Nat → Nat) (x j : Nat) (hx : 0 < x) : ∀ (a : Nat), cnt (fun i => decide (g (i / x) * x + i % x = j)) (a * x) = cnt (fun i => decide (g i = j / x)) a
  | 0 => by simp [cnt]
  | a + 1 => by
    rw [Nat.add_mul, Nat.one_mul, cnt_add, cnt_bit g x j hx a]
    simp only [cnt]
    congr 1
    have e : cnt (fun v => decide (g ((a * x + v) / x) * x + (a * x + v) % x = j)) x = cnt (fun v => match decide (g a = j / x) with | true => decide (v = j % x) | false => false) x := by
      refine cnt_congr x (fun v hv => ?_)
      have e1 : (a * x + v) / x = a := by
        rw [Nat.mul_comm, Nat.mul_add_div hx, Nat.div_eq_of_lt hv, Nat.add_zero]
      have e2 : (a * x + v) % x = v := by
        rw [Nat.mul_comm, Nat.mul_add_mod, Nat.mod_eq_of_lt hv]
      rw [e1, e2]
      by_cases h : g a = j / x
      · rw [decide_eq_true h]
        simp only
        have := Nat.div_add_mod j x
        rw [h, Nat.mul_comm]
        by_cases h2 : v = j % x
        · rw [decide_eq_true h2, decide_eq_true (by omega)]
        · rw [decide_eq_false h2, decide_eq_false (by omega)]
      · rw [decide_eq_false h]
        simp only
        refine decide_eq_false (fun h2 => h ?_)
        rw [← h2, Nat.mul_comm, Nat.mul_add_div hx, Nat.div_eq_of_lt hv, Nat.add_zero]
    rw [e]
    cases hd : decide (g a = j / x) with
    | true =>
      simp only
      rw [cnt_eq, if_pos (Nat.mod_lt _ hx)]
    | false => exact cnt_false x
theorem cnt_skip (g : Nat → Nat) (x j : Nat) (hx : 0 < x) : ∀ (a : Nat), cnt (fun i => decide (g (i / x) = j)) (a * x) = cnt (fun i => decide (g i = j)) a * x
  | 0 => by simp [cnt]
  | a + 1 => by
    rw [Nat.add_mul, Nat.one_mul, cnt_add, cnt_skip g x j hx a]
    simp only [cnt]
    rw [Nat.add_mul]
    congr 1
    have e : cnt (fun v => decide (g ((a * x + v) / x) = j)) x = cnt (fun _ => decide (g a = j)) x := by
      refine cnt_congr x (fun v hv => ?_)
      have e1 : (a * x + v) / x = a := by
        rw [Nat.mul_comm, Nat.mul_add_div hx, Nat.div_eq_of_lt hv, Nat.add_zero]
      rw [e1]
    rw [e]
    cases decide (g a = j) with
    | true => simp only; rw [cnt_true, Nat.one_mul]
    | false => simp only; rw [cnt_false, Nat.zero_mul]

theorem spreadL_cnt (cards places : List Int) (j : Int) : ∀ n, (spreadL cards places j n).length = cnt (fun i => decide (partN cards places i = j)) n
  | 0 => rfl
  | k + 1 => by
    simp only [spreadL, cnt]
    rw [← spreadL_cnt cards places j k]
    cases decide (partN cards places k = j) with
    | true => simp
    | false => simp

theorem prodL_snoc (x : Int) : ∀ (cs : List Int), prodL (cs ++ [x]) = prodL cs * x
  | [] => by simp [prodL]
  | c :: cs => by simp only [List.cons_append, prodL]; rw [prodL_snoc x cs, Int.mul_assoc]
theorem digs_snoc (x i : Int) : ∀ (cs : List Int), digs (cs ++ [x]) i = ((digs cs (i.tdiv x)).1 ++ [i.tmod x], (digs cs (i.tdiv x)).2)
  | [] => by simp [digs]
  | c :: cs => by
    simp only [List.cons_append, digs]
    rw [digs_snoc x i cs]
theorem numL_snoc (x v : Int) : ∀ (cs vs : List Int) (a : Int), cs.length = vs.length → numL a (cs ++ [x]) (vs ++ [v]) = numL a cs vs * x + v
  | [], [], a, _ => by simp [numL]
  | c :: cs, w :: vs, a, h => by simp only [List.cons_append, numL]; exact numL_snoc x v cs vs _ (by simpa using h)
  | [], _ :: _, _, h => by simp at h
  | _ :: _, [], _, h => by simp at h

theorem placesD_lt (w : Int) : ∀ (k : Nat), ∀ p ∈ placesD w k, 0 ≤ p ∧ p < k
  | 0, p, h => by simp [placesD] at h
  | k + 1, p, h => by
    simp only [placesD] at h
    split at h
    · rcases List.mem_append.1 h with h | h
      · have := placesD_lt w k p h; omega
      · simp only [List.mem_singleton] at h; omega
    · have := placesD_lt w k p h; omega

theorem pickL_snoc (x : Int) (l ps : List Int) (h : ∀ p ∈ ps, 0 ≤ p ∧ p < l.length) : pickL (l ++ [x]) ps = pickL l ps := by
  refine List.map_congr_left (fun p hp => ?_)
  have := h p hp
  have hlt : p.toNat < l.length := by omega
  simp [hlt, List.getElem?_append_left hlt]

theorem partN_num (cs ps : List Int) (i : Int) : partN cs ps i = numL 0 (pickL cs ps) (pickL (digs cs i).1 ps) := by
  rw [numL_idx _ _ 0 (by simp [pickL]), Int.zero_mul, Int.zero_add]; rfl

def bitD (w : Int) (k : Nat) : Bool := decide ((((w / 2 ^ k).toNat &&& 1 : Nat) : Int) = 1)

theorem partN_snoc (w x i : Int) (cs : List Int) : partN (cs ++ [x]) (placesD w (cs.length + 1)) i =
    match bitD w cs.length with
    | true => partN cs (placesD w cs.length) (i.tdiv x) * x + i.tmod x
    | false => partN cs (placesD w cs.length) (i.tdiv x) := by
  have hlt := placesD_lt w cs.length
  have hdl : (digs cs (i.tdiv x)).1.length = cs.length := digs_length _ _
  rw [partN_num, digs_snoc]
  simp only [placesD]
  show numL 0 (pickL (cs ++ [x]) (match bitD w cs.length with | true => placesD w cs.length ++ [(cs.length : Int)] | false => placesD w cs.length)) (pickL ((digs cs (i.tdiv x)).1 ++ [i.tmod x]) (match bitD w cs.length with | true => placesD w cs.length ++ [(cs.length : Int)] | false => placesD w cs.length)) = _
  cases bitD w cs.length with
  | true =>
    simp only
    have e1 : pickL (cs ++ [x]) (placesD w cs.length ++ [(cs.length : Int)]) = pickL cs (placesD w cs.length) ++ [x] := by
      have := pickL_snoc x cs _ hlt
      unfold pickL at this ⊢
      rw [List.map_append, this]
      simp
    have e2 : pickL ((digs cs (i.tdiv x)).1 ++ [i.tmod x]) (placesD w cs.length ++ [(cs.length : Int)]) = pickL (digs cs (i.tdiv x)).1 (placesD w cs.length) ++ [i.tmod x] := by
      have := pickL_snoc (i.tmod x) (digs cs (i.tdiv x)).1 (placesD w cs.length) (by rw [hdl]; exact hlt)
      unfold pickL at this ⊢
      rw [List.map_append, this]
      have e : ((cs.length : Int)).toNat = (digs cs (i.tdiv x)).1.length := by rw [hdl]; simp
      simp only [List.map_cons, List.map_nil, e]
      simp
    rw [e1, e2, numL_snoc _ _ _ _ _ (by simp [pickL]), partN_num]
  | false =>
    simp only
    rw [pickL_snoc x cs _ hlt, pickL_snoc _ _ _ (by rw [hdl]; exact hlt), partN_num]

theorem prodP_snoc (w x : Int) (cs : List Int) : prodL (pickL (cs ++ [x]) (placesD w (cs.length + 1))) = match bitD w cs.length with
    | true => prodL (pickL cs (placesD w cs.length)) * x
    | false => prodL (pickL cs (placesD w cs.length)) := by
  have hlt := placesD_lt w cs.length
  simp only [placesD]
  show prodL (pickL (cs ++ [x]) (match bitD w cs.length with | true => placesD w cs.length ++ [(cs.length : Int)] | false => placesD w cs.length)) = _
  cases bitD w cs.length with
  | true =>
    have := pickL_snoc x cs _ hlt
    simp only
    have e1 : pickL (cs ++ [x]) (placesD w cs.length ++ [(cs.length : Int)]) = pickL cs (placesD w cs.length) ++ [x] := by
      unfold pickL at this ⊢
      rw [List.map_append, this]
      simp
    rw [e1, prodL_snoc]
  | false =>
    simp only
    rw [pickL_snoc x cs _ hlt]

/-- Each number stands equally often. -/
theorem count_all (w : Int) : ∀ (m : Nat) (cs : List Int), cs.length = m → (∀ c ∈ cs, 1 ≤ c) → ∃ (g : Nat → Nat) (N M : Nat), prodL cs = N ∧ prodL (pickL cs (placesD w m)) = M ∧ (∀ i : Nat, partN cs (placesD w m) i = g i) ∧ ∀ j : Nat, j < M → cnt (fun i => decide (g i = j)) N * M = N
  | 0, [], _, _ => ⟨fun _ => 0, 1, 1, rfl, rfl, fun i => rfl, fun j hj => by
      have : j = 0 := by omega
      subst this; rfl⟩
  | m + 1, cs, hl, hc => by
    obtain ⟨r, x, rfl⟩ : ∃ r x, cs = r ++ [x] := ⟨cs.dropLast, cs.getLast (by intro e; subst e; simp at hl), (List.dropLast_concat_getLast _).symm⟩
    have hr : r.length = m := by simpa using hl
    have hx : 1 ≤ x := hc x (by simp)
    obtain ⟨g, N, M, h1, h2, h3, h4⟩ := count_all w m r hr (fun c h => hc c (by simp [h]))
    subst hr
    obtain ⟨y, rfl⟩ : ∃ y : Nat, x = y := ⟨x.toNat, by omega⟩
    have hy : 0 < y := by omega
    have td : ∀ i : Nat, (i : Int).tdiv (y : Int) = ((i / y : Nat) : Int) := fun i => by rw [Int.tdiv_eq_ediv_of_nonneg (by omega)]; rfl
    have tm : ∀ i : Nat, (i : Int).tmod (y : Int) = ((i % y : Nat) : Int) := fun i => by rw [Int.tmod_eq_emod_of_nonneg (by omega)]; rfl
    cases hb : bitD w r.length with
    | true =>
      refine ⟨fun i => g (i / y) * y + i % y, N * y, M * y, by rw [prodL_snoc, h1]; simp, ?_, fun i => ?_, fun j hj => ?_⟩
      · rw [prodP_snoc, hb]
        simp only
        rw [h2]; simp
      · rw [partN_snoc, hb]
        simp only
        rw [td, tm, h3]
        simp
      · rw [cnt_bit g y j hy N]
        have hj2 : j / y < M := Nat.div_lt_of_lt_mul (by rw [Nat.mul_comm]; exact hj)
        rw [← Nat.mul_assoc, h4 _ hj2]
    | false =>
      refine ⟨fun i => g (i / y), N * y, M, by rw [prodL_snoc, h1]; simp, ?_, fun i => ?_, fun j hj => ?_⟩
      · rw [prodP_snoc, hb]
        exact h2
      · rw [partN_snoc, hb]
        simp only
        rw [td, h3]
      · rw [cnt_skip g y j hy N, Nat.mul_right_comm, h4 j hj]
  | 0, _ :: _, h, _ => by simp at h

/-! ### the lists -/
theorem spreadL_mem (cards places : List Int) (j : Int) : ∀ (n : Nat) (x : Int), x ∈ spreadL cards places j n ↔ (0 ≤ x ∧ x < n) ∧ partN cards places x = j
  | 0, x => by simp [spreadL]; omega
  | k + 1, x => by
    have ih := spreadL_mem cards places j k x
    simp only [spreadL]
    by_cases h : partN cards places k = j
    · rw [decide_eq_true h]
      simp only [List.mem_append, List.mem_singleton, ih]
      constructor
      · rintro (⟨h1, h2⟩ | rfl)
        · exact ⟨by omega, h2⟩
        · exact ⟨by omega, h⟩
      · rintro ⟨h1, h2⟩
        by_cases e : x = k
        · exact .inr e
        · exact .inl ⟨by omega, h2⟩
    · rw [decide_eq_false h]
      simp only [ih]
      constructor
      · rintro ⟨h1, h2⟩; exact ⟨by omega, h2⟩
      · rintro ⟨h1, h2⟩
        refine ⟨⟨h1.1, ?_⟩, h2⟩
        rcases Int.lt_or_eq_of_le (show x ≤ k by omega) with h3 | h3
        · exact h3
        · subst h3; exact absurd h2 h
theorem spreadL_sorted (cards places : List Int) (j : Int) : ∀ (n : Nat), (spreadL cards places j n).Pairwise (· < ·)
  | 0 => by simp [spreadL]
  | k + 1 => by
    have ih := spreadL_sorted cards places j k
    simp only [spreadL]
    split
    · rw [List.pairwise_append]
      refine ⟨ih, by simp, fun a ha b hb => ?_⟩
      have := (spreadL_mem cards places j k a).1 ha
      simp only [List.mem_singleton] at hb
      omega
    · exact ih
end Go.Proofs.Ytcplbmlebogffaa

namespace Go.Proofs.Ytcplbmlebogffaa
open Go GoV
set_option maxHeartbeats 4000000
set_option maxRecDepth 10000

abbrev BL (l : List Bool) : AV := .dat (.list .bool) l

def idxB : List Bool → Bool → Nat → Int
  | [], _, _ => -1
  | y :: l, x, k => match x == y with | true => k | false => idxB l x (k + 1)
theorem idxB_all (x : Bool) : ∀ (l : List Bool) (k : Nat), (∀ y ∈ l, y = !x) → idxB l x k = -1
  | [], _, _ => rfl
  | y :: l, k, h => by
    have := h y (by simp)
    subst this
    simp only [idxB]
    have e : (x == !x) = false := by cases x <;> rfl
    rw [e]
    exact idxB_all x l (k + 1) (fun y hy => h y (by simp [hy]))

theorem indexB_pc (l : List Bool) (x : Bool) (hl : l.length ≤ 100000) : PC Try.prog 53 [BL l, B x] (I (idxB l x 0)) := by
  refine pc_fn hmix h53 rfl ?_
  simp -implicitDefEqProofs only [c53, push_cast, Nat.reduceBEq, Nat.reduceLT, Nat.reduceLeDiff, Nat.reduceAdd, Nat.reduceSub, Nat.reduceMul, Nat.reduceEqDiff, reduceCtorEq, ↓reduceIte, Int.reduceEq, Int.reduceLT, Int.reduceLE, Int.reduceNe, Int.reduceAdd, Int.reduceSub, Int.reduceMul, Int.reduceToNat, Nat.reduceShiftRight, Nat.reduceAnd, Nat.reduceBNe]
  refine loop_w (α := Nat) (fun q => ⟨[(8, I q), (7, I l.length), (1, B x), (0, BL l)], [], []⟩) (fun q => q ≤ l.length ∧ idxB (l.drop q) x q = idxB l x 0) (fun q => l.length - q) 0 (wk_cut [8, 7, 1, 0] 0 rfl ⟨rfl, rfl, rfl⟩ rfl) ⟨by omega, rfl⟩ ?_
  rintro q ⟨hq, hinv⟩
  simp -implicitDefEqProofs only [c53L0, push_cast, Nat.reduceBEq, Nat.reduceLT, Nat.reduceLeDiff, Nat.reduceAdd, Nat.reduceSub, Nat.reduceMul, Nat.reduceEqDiff, reduceCtorEq, ↓reduceIte, Int.reduceEq, Int.reduceLT, Int.reduceLE, Int.reduceNe, Int.reduceAdd, Int.reduceSub, Int.reduceMul, Int.reduceToNat, Nat.reduceShiftRight, Nat.reduceAnd, Nat.reduceBNe]
  refine ⟨fun h => ?_, fun h => ?_⟩
  · have hq : q < l.length := by omega
    have el : l.drop q = l.getD q false :: l.drop (q + 1) := by rw [List.drop_eq_getElem_cons hq]; simp [hq]
    rw [el] at hinv
    simp only [idxB] at hinv
    refine ⟨by omega, ?_⟩
    cases hxy : x == l.getD q false with
    | true =>
      rw [hxy] at hinv
      simp -implicitDefEqProofs only [push_cast, Nat.reduceBEq, Nat.reduceLT, Nat.reduceLeDiff, Nat.reduceAdd, Nat.reduceSub, Nat.reduceMul, Nat.reduceEqDiff, reduceCtorEq, ↓reduceIte, Int.reduceEq, Int.reduceLT, Int.reduceLE, Int.reduceNe, Int.reduceAdd, Int.reduceSub, Int.reduceMul, Int.reduceToNat, Nat.reduceShiftRight, Nat.reduceAnd, Nat.reduceBNe]
      exact finC (by rw [← hinv]) rfl
    | false =>
      rw [hxy] at hinv
      simp -implicitDefEqProofs only [push_cast, Nat.reduceBEq, Nat.reduceLT, Nat.reduceLeDiff, Nat.reduceAdd, Nat.reduceSub, Nat.reduceMul, Nat.reduceEqDiff, reduceCtorEq, ↓reduceIte, Int.reduceEq, Int.reduceLT, Int.reduceLE, Int.reduceNe, Int.reduceAdd, Int.reduceSub, Int.reduceMul, Int.reduceToNat, Nat.reduceShiftRight, Nat.reduceAnd, Nat.reduceBNe]
      exact ⟨by simp only [inR]; omega, q + 1, ⟨by omega, hinv⟩, by omega, wk_cut [8, 7, 1, 0] 0 rfl ⟨rfl, rfl, rfl⟩ rfl⟩
  · have : l.drop q = [] := List.drop_eq_nil_of_le (by omega)
    rw [this] at hinv
    exact finC (by rw [← hinv]; rfl) rfl

theorem contains_pc (l : List Bool) (x : Bool) (hl : l.length ≤ 100000) : PC Try.prog 40 [BL l, B x] (B (decide (0 ≤ idxB l x 0))) := by
  refine pc_fn hmix h40 rfl ?_
  simp -implicitDefEqProofs only [c40, push_cast, Nat.reduceBEq, Nat.reduceLT, Nat.reduceLeDiff, Nat.reduceAdd, Nat.reduceSub, Nat.reduceMul, Nat.reduceEqDiff, reduceCtorEq, ↓reduceIte, Int.reduceEq, Int.reduceLT, Int.reduceLE, Int.reduceNe, Int.reduceAdd, Int.reduceSub, Int.reduceMul, Int.reduceToNat, Nat.reduceShiftRight, Nat.reduceAnd, Nat.reduceBNe]
  refine callF (indexB_pc l x hl) ⟨rfl, rfl, trivial⟩ rfl rfl ?_
  simp -implicitDefEqProofs only [push_cast, Nat.reduceBEq, Nat.reduceLT, Nat.reduceLeDiff, Nat.reduceAdd, Nat.reduceSub, Nat.reduceMul, Nat.reduceEqDiff, reduceCtorEq, ↓reduceIte, Int.reduceEq, Int.reduceLT, Int.reduceLE, Int.reduceNe, Int.reduceAdd, Int.reduceSub, Int.reduceMul, Int.reduceToNat, Nat.reduceShiftRight, Nat.reduceAnd, Nat.reduceBNe]
  exact finC rfl rfl

theorem prodL_take (l : List Int) (q : Nat) (hq : q < l.length) : prodL (l.take (q + 1)) = prodL (l.take q) * l.getD q 0 := by
  rw [List.take_add_one]
  have : l[q]?.toList = [l.getD q 0] := by simp [hq]
  rw [this, prodL_snoc]
theorem prodL_take_le (l : List Int) (h : ∀ c ∈ l, 1 ≤ c) (q : Nat) : 1 ≤ prodL (l.take q) ∧ prodL (l.take q) ≤ prodL l := by
  have h1 := prodL_pos (l.take q) (fun c hc => h c (List.mem_of_mem_take hc))
  have h2 := prodL_pos (l.drop q) (fun c hc => h c (List.mem_of_mem_drop hc))
  have e : ∀ (a b : List Int), prodL (a ++ b) = prodL a * prodL b := by
    intro a b
    induction a with
    | nil => simp [prodL]
    | cons x a ih => simp only [List.cons_append, prodL]; rw [ih, Int.mul_assoc]
  have e2 := e (l.take q) (l.drop q)
  rw [List.take_append_drop] at e2
  refine ⟨h1, ?_⟩
  rw [e2]
  have : prodL (l.take q) * 1 ≤ prodL (l.take q) * prodL (l.drop q) := Int.mul_le_mul_of_nonneg_left h2 (by omega)
  omega

theorem placesD_sorted (w : Int) : ∀ (k : Nat), (placesD w k).Pairwise (· < ·)
  | 0 => by simp [placesD]
  | k + 1 => by
    have ih := placesD_sorted w k
    simp only [placesD]
    split
    · rw [List.pairwise_append]
      refine ⟨ih, by simp, fun a ha b hb => ?_⟩
      have := placesD_lt w k a ha
      simp only [List.mem_singleton] at hb
      omega
    · exact ih
theorem placesL_of (n : Int) : ∀ (l : List Int) (last : Int), l.Pairwise (· < ·) → (∀ k ∈ l, 0 ≤ k ∧ last < k ∧ k < n) → placesL n last l = true
  | [], _, _, _ => rfl
  | k :: r, last, hp, h => by
    have hk := h k (by simp)
    rw [List.pairwise_cons] at hp
    have ih := placesL_of n r k hp.2 (fun x hx => ⟨(h x (by simp [hx])).1, hp.1 x hx, (h x (by simp [hx])).2.2⟩)
    simp only [placesL, ih, Bool.and_true]
    exact decide_eq_true ⟨⟨hk.1, hk.2.2⟩, hk.2.1⟩

def SL (n : Nat) (g : Nat → Nat) (j : Nat) : List Bool := (List.range n).map fun m => decide (g m < j)
def SI (n : Nat) (g : Nat → Nat) (j : Nat) (t : List Int) : List Bool := (List.range n).map fun m => decide (g m < j ∨ (m : Int) ∈ t)
theorem SI_nil (n : Nat) (g : Nat → Nat) (j : Nat) : SI n g j [] = SL n g j := by simp [SI, SL]
theorem SI_all {n : Nat} {g : Nat → Nat} {j : Nat} {l : List Int} (h : ∀ m : Nat, m < n → ((m : Int) ∈ l ↔ g m = j)) : SI n g j l = SL n g (j + 1) := by
  refine List.map_congr_left (fun m hm => ?_)
  have := h m (List.mem_range.1 hm)
  refine decide_eq_decide.2 ?_
  rw [this]
  omega
theorem SI_get {n : Nat} {g : Nat → Nat} {j : Nat} {t : List Int} {x : Nat} (hx : x < n) : (SI n g j t).getD x false = decide (g x < j ∨ (x : Int) ∈ t) := by
  simp [SI, hx]
theorem SI_set {n : Nat} {g : Nat → Nat} {j : Nat} {t : List Int} {x : Nat} (hx : x < n) : (SI n g j t).set x true = SI n g j (t ++ [(x : Int)]) := by
  refine List.ext_getElem (by simp [SI]) (fun m h1 h2 => ?_)
  have hm : m < n := by simpa [SI] using h2
  rw [List.getElem_set]
  by_cases e : x = m
  · subst e
    simp [SI]
  · rw [if_neg e]
    simp only [SI, List.getElem_map, List.getElem_range, List.mem_append, List.mem_singleton]
    refine decide_eq_decide.2 ⟨?_, ?_⟩
    · rintro (h | h)
      · exact .inl h
      · exact .inr (.inl h)
    · rintro (h | h | h)
      · exact .inl h
      · exact .inr h
      · exact absurd h (by omega)
theorem SI_len (n : Nat) (g : Nat → Nat) (j : Nat) (t : List Int) : (SI n g j t).length = n := by simp [SI]
theorem SL_len (n : Nat) (g : Nat → Nat) (j : Nat) : (SL n g j).length = n := by simp [SL]

theorem law8_pc (dc : List Int) (dw : Int) (dof : List Int) (hdc : ∀ x ∈ dc, 0 ≤ x ∧ x ≤ 255) (hdw : 0 ≤ dw ∧ dw ≤ 65535) : PC Try.prog 8 [DA dc dw dof] (B true) := by
  obtain ⟨hl, hc, hs, hsz, hn1, hn2⟩ := cards_ok dc hdc
  refine pc_fn hmix h8 rfl ?_
  simp -implicitDefEqProofs only [c8, push_cast, Nat.reduceBEq, Nat.reduceLT, Nat.reduceLeDiff, Nat.reduceAdd, Nat.reduceSub, Nat.reduceMul, Nat.reduceEqDiff, reduceCtorEq, ↓reduceIte, Int.reduceEq, Int.reduceLT, Int.reduceLE, Int.reduceNe, Int.reduceAdd, Int.reduceSub, Int.reduceMul, Int.reduceToNat, Nat.reduceShiftRight, Nat.reduceAnd, Nat.reduceBNe]
  refine callF works_pc trivial rfl rfl ?_
  simp -implicitDefEqProofs only [push_cast, Nat.reduceBEq, Nat.reduceLT, Nat.reduceLeDiff, Nat.reduceAdd, Nat.reduceSub, Nat.reduceMul, Nat.reduceEqDiff, reduceCtorEq, ↓reduceIte, Int.reduceEq, Int.reduceLT, Int.reduceLE, Int.reduceNe, Int.reduceAdd, Int.reduceSub, Int.reduceMul, Int.reduceToNat, Nat.reduceShiftRight, Nat.reduceAnd, Nat.reduceBNe]
  refine ppF (cards_pc dc dw dof hdc) ⟨⟨rfl, ⟨rfl, rfl⟩, ⟨rfl, rfl⟩, ⟨rfl, rfl⟩, rfl⟩, trivial⟩ rfl rfl ?_
  simp -implicitDefEqProofs only [push_cast, Nat.reduceBEq, Nat.reduceLT, Nat.reduceLeDiff, Nat.reduceAdd, Nat.reduceSub, Nat.reduceMul, Nat.reduceEqDiff, reduceCtorEq, ↓reduceIte, Int.reduceEq, Int.reduceLT, Int.reduceLE, Int.reduceNe, Int.reduceAdd, Int.reduceSub, Int.reduceMul, Int.reduceToNat, Nat.reduceShiftRight, Nat.reduceAnd, Nat.reduceBNe]
  refine ppF (draftplaces_pc dc dw dof hdc hdw) ⟨⟨rfl, ⟨rfl, rfl⟩, ⟨rfl, rfl⟩, ⟨rfl, rfl⟩, rfl⟩, trivial⟩ rfl rfl ?_
  simp -implicitDefEqProofs only [push_cast, Nat.reduceBEq, Nat.reduceLT, Nat.reduceLeDiff, Nat.reduceAdd, Nat.reduceSub, Nat.reduceMul, Nat.reduceEqDiff, reduceCtorEq, ↓reduceIte, Int.reduceEq, Int.reduceLT, Int.reduceLE, Int.reduceNe, Int.reduceAdd, Int.reduceSub, Int.reduceMul, Int.reduceToNat, Nat.reduceShiftRight, Nat.reduceAnd, Nat.reduceBNe]
  obtain ⟨c, hce⟩ : ∃ c, cardsL dc = c := ⟨_, rfl⟩
  rw [hce] at hl hc hs hsz hn1 hn2 ⊢
  have hc1 : ∀ x ∈ c, 1 ≤ x := fun x hx => (hc x hx).1
  obtain ⟨g, n, M, hN, hM, hg, hcnt⟩ := count_all dw c.length c rfl hc1
  have hpl0 := placesD_length dw c.length
  have hplt := placesD_lt dw c.length
  obtain ⟨p, hpe⟩ : ∃ p, placesD dw c.length = p := ⟨_, rfl⟩
  rw [hpe] at hM hg hpl0 hplt ⊢
  rw [hN] at hs hsz hn1 hn2
  have hpk1 : ∀ x ∈ pickL c p, 1 ≤ x := by
    intro x hx
    obtain ⟨y, hy, rfl⟩ := List.mem_map.1 hx
    have := hplt y hy
    have hlt : y.toNat < c.length := by omega
    have e : c.getD y.toNat 0 = c[y.toNat] := by simp [hlt]
    rw [e]; exact hc1 _ (List.getElem_mem hlt)
  have hM1 : 1 ≤ prodL (pickL c p) := prodL_pos _ hpk1
  have hpart : ∀ i : Nat, i < n → g i < M := by
    intro i hi
    have hw := withinL_pick c (digs c i).1 p (digs_length _ _) hplt (digs_within i (by omega) c hc1)
    have := (idxR_lt _ _ hpk1 hw).2
    have e : partN c p i = g i := hg i
    unfold partN at e
    rw [e, hM] at this
    omega
  have hMn : M ≤ n := by
    have h1 := hcnt 0 (by omega)
    rcases Nat.eq_zero_or_pos (cnt (fun i => decide (g i = 0)) n) with h | h
    · rw [h] at h1; omega
    · have : 1 * M ≤ cnt (fun i => decide (g i = 0)) n * M := Nat.mul_le_mul_right _ h
      omega
  refine loop_w (α := Nat) (fun q => ⟨[(22, I q), (21, I p.length), (20, IL p), (5, I (prodL ((pickL c p).take q))), (4, IL p), (3, IL c)], [boxD dc dw dof], []⟩) (fun q => q ≤ p.length) (fun q => p.length - q) 0 (wk_cut [22, 21, 20, 5, 4, 3] 1 rfl ⟨rfl, rfl, rfl⟩ rfl) (by omega) ?_
  intro q hq
  by_cases hqp : q < p.length
  · have hg0 : 0 ≤ p.getD q 0 ∧ p.getD q 0 < c.length := by
      have e : p.getD q 0 = p[q] := by simp [hqp]
      rw [e]; exact hplt _ (List.getElem_mem hqp)
    have hpt := prodL_take (pickL c p) q (by simp [pickL]; omega)
    have hpe2 : (pickL c p).getD q 0 = c.getD (Int.toNat (p.getD q 0)) 0 := by simp [pickL, hqp]
    have hle := prodL_take_le (pickL c p) hpk1 (q + 1)
    rw [hpe2] at hpt
    simp -implicitDefEqProofs only [c8L0, push_cast, Nat.reduceBEq, Nat.reduceLT, Nat.reduceLeDiff, Nat.reduceAdd, Nat.reduceSub, Nat.reduceMul, Nat.reduceEqDiff, reduceCtorEq, ↓reduceIte, Int.reduceEq, Int.reduceLT, Int.reduceLE, Int.reduceNe, Int.reduceAdd, Int.reduceSub, Int.reduceMul, Int.reduceToNat, Nat.reduceShiftRight, Nat.reduceAnd, Nat.reduceBNe]
    rw [← hpt]
    exact ⟨fun _ => ⟨by omega, hg0, by simp only [inR]; omega, by simp only [inR]; omega, q + 1, by omega, by omega, wk_cut [22, 21, 20, 5, 4, 3] 1 rfl ⟨rfl, rfl, rfl⟩ rfl⟩, fun h => absurd hqp (by omega)⟩
  have e : q = p.length := by omega
  subst e
  have hta : (pickL c p).take p.length = pickL c p := List.take_of_length_le (by simp [pickL])
  rw [hta, hM]
  have hdis : distinctL c.length true F12 (-1) p = true := by
    rw [distinct_places c.length (by omega) p F12 (-1) rfl (by omega) (fun j hj => by rw [F12_get] at hj; cases hj)]
    exact placesL_of _ p (-1) (by rw [← hpe]; exact placesD_sorted _ _) (fun k hk => by have := hplt k hk; omega)
  have hspread : ∀ j : Nat, j < M → PC Try.prog 31 [IL c, IL p, I j] (.tup [IL (spreadL c p j n), I 0]) := by
    intro j hj
    have := spread_pc c p j (by omega)
    unfold spreadS at this
    rw [hs] at this
    simp only [hdis, hM, decide_eq_true (show (0 : Int) ≤ j ∧ (j : Int) < M by omega), Int.toNat_natCast] at this
    exact this
  have hpart2 : ∀ i : Nat, i < n → PC Try.prog 29 [IL c, IL p, I i] (.tup [I (g i), I 0]) := by
    intro i hi
    have := part_pc c p i (by omega)
    unfold partS at this
    rw [hs] at this
    simp only [hdis, decide_eq_true (show (0 : Int) ≤ i ∧ (i : Int) < n by omega), hg] at this
    exact this
  simp -implicitDefEqProofs only [c8L0, push_cast, Nat.reduceBEq, Nat.reduceLT, Nat.reduceLeDiff, Nat.reduceAdd, Nat.reduceSub, Nat.reduceMul, Nat.reduceEqDiff, reduceCtorEq, ↓reduceIte, Int.reduceEq, Int.reduceLT, Int.reduceLE, Int.reduceNe, Int.reduceAdd, Int.reduceSub, Int.reduceMul, Int.reduceToNat, Nat.reduceShiftRight, Nat.reduceAnd, Nat.reduceBNe]
  refine ⟨fun h => absurd h (by omega), fun _ => ?_⟩
  refine callF (lawsize_vc c n hsz (by omega)) ⟨rfl, trivial⟩ rfl rfl ?_
  simp -implicitDefEqProofs only [push_cast, Nat.reduceBEq, Nat.reduceLT, Nat.reduceLeDiff, Nat.reduceAdd, Nat.reduceSub, Nat.reduceMul, Nat.reduceEqDiff, reduceCtorEq, ↓reduceIte, Int.reduceEq, Int.reduceLT, Int.reduceLE, Int.reduceNe, Int.reduceAdd, Int.reduceSub, Int.reduceMul, Int.reduceToNat, Nat.reduceShiftRight, Nat.reduceAnd, Nat.reduceBNe]
  refine ⟨⟨⟨by omega, by omega⟩, by simp only [two47]; omega, by simp only [two47]; omega⟩, ?_⟩
  have h0 : List.replicate n false = SL n g 0 := by
    refine List.ext_getElem (by simp [SL]) (fun m h1 h2 => ?_)
    simp [SL]
  rw [h0]
  refine loop_w (α := Nat) (fun j => ⟨[(37, I j), (36, I M), (8, .slc 1 n 0 n), (5, I M), (4, IL p), (3, IL c)], [boxD dc dw dof, .seq .bool (SL n g j) true], []⟩) (fun j => j ≤ M) (fun j => M - j) 0 (wk_cut [37, 36, 8, 5, 4, 3] 2 rfl ⟨rfl, rfl, rfl⟩ rfl) (by omega) ?_
  intro j hj
  by_cases hjM : j < M
  · obtain ⟨l, hle⟩ : ∃ l, spreadL c p j n = l := ⟨_, rfl⟩
    have hsp := hspread j hjM
    have hlm := spreadL_mem c p j n
    have hls := spreadL_sorted c p j n
    have hll := spreadL_cnt c p j n
    rw [hle] at hsp hlm hls hll
    have hln : l.length * M = n := by
      have e : cnt (fun i => decide (partN c p i = j)) n = cnt (fun i => decide (g i = j)) n := cnt_congr n (fun i _ => by
        rw [hg i]
        refine decide_eq_decide.2 ?_
        omega)
      rw [hll, e]
      exact hcnt j hjM
    have hl1 : l.length ≤ n := by rw [← hln]; exact Nat.le_mul_of_pos_right _ (by omega)
    have hmem : ∀ m : Nat, m < n → ((m : Int) ∈ l ↔ g m = j) := fun m hm => by
      rw [hlm m, hg m]; omega
    have hat : ∀ q, q < l.length → ∃ x : Nat, l.getD q 0 = x ∧ x < n ∧ g x = j := by
      intro q hq
      have e : l.getD q 0 = l[q] := by simp [hq]
      have := (hlm _).1 (List.getElem_mem hq)
      refine ⟨l[q].toNat, by rw [e]; omega, by omega, ?_⟩
      have h2 := this.2
      have e2 : l[q] = ((l[q].toNat : Nat) : Int) := by omega
      rw [e2, hg] at h2
      omega
    simp -implicitDefEqProofs only [c8L2, push_cast, Nat.reduceBEq, Nat.reduceLT, Nat.reduceLeDiff, Nat.reduceAdd, Nat.reduceSub, Nat.reduceMul, Nat.reduceEqDiff, reduceCtorEq, ↓reduceIte, Int.reduceEq, Int.reduceLT, Int.reduceLE, Int.reduceNe, Int.reduceAdd, Int.reduceSub, Int.reduceMul, Int.reduceToNat, Nat.reduceShiftRight, Nat.reduceAnd, Nat.reduceBNe]
    refine ⟨fun _ => ?_, fun h => absurd hjM (by omega)⟩
    refine callF hsp ⟨rfl, rfl, rfl, trivial⟩ rfl rfl ?_
    simp -implicitDefEqProofs only [push_cast, Nat.reduceBEq, Nat.reduceLT, Nat.reduceLeDiff, Nat.reduceAdd, Nat.reduceSub, Nat.reduceMul, Nat.reduceEqDiff, reduceCtorEq, ↓reduceIte, Int.reduceEq, Int.reduceLT, Int.reduceLE, Int.reduceNe, Int.reduceAdd, Int.reduceSub, Int.reduceMul, Int.reduceToNat, Nat.reduceShiftRight, Nat.reduceAnd, Nat.reduceBNe]
    have hlM : (l.length : Int) * M = n := by exact_mod_cast hln
    rw [hlM]
    refine ⟨by simp only [inR]; omega, SL_len _ _ _, fun h => absurd rfl h, fun _ => ?_⟩
    refine loop_w (α := Nat) (fun q => ⟨[(60, I q), (59, I l.length), (58, IL l), (37, I j), (36, I M), (10, IL l), (9, I j), (8, .slc 1 n 0 n), (5, I M), (4, IL p), (3, IL c)], [boxD dc dw dof, .seq .bool (SI n g j (l.take q)) true], []⟩) (fun q => q ≤ l.length) (fun q => l.length - q) 0 ?_ (by omega) ?_
    · rw [← SI_nil n g j]
      exact wk_cut [60, 59, 58, 37, 36, 10, 9, 8, 5, 4, 3] 2 rfl ⟨rfl, rfl, rfl⟩ rfl
    intro q hq
    by_cases hql : q < l.length
    · obtain ⟨x, hx1, hx2, hx3⟩ := hat q hql
      have hxl : l[q] = (x : Int) := by rw [← hx1]; simp [hql]
      have hget : (SI n g j (l.take q)).getD x false = false := by
        rw [SI_get hx2]
        refine decide_eq_false ?_
        rintro (h | h)
        · omega
        · obtain ⟨r, hr, e⟩ := List.getElem_of_mem h
          have hrq : r < q := by simp at hr; omega
          have := List.pairwise_iff_getElem.1 hls r q (by omega) hql hrq
          rw [List.getElem_take] at e
          omega
      have hset : (SI n g j (l.take q)).set x true = SI n g j (l.take (q + 1)) := by
        rw [SI_set hx2, List.take_add_one]
        simp [hql, hxl]
      have hlen := SI_len n g j (l.take q)
      have hprev : 0 < q → l.getD (q - 1) 0 < x := by
        intro h
        have := List.pairwise_iff_getElem.1 hls (q - 1) q (by omega) hql (by omega)
        have e : l.getD (q - 1) 0 = l[q - 1] := by simp [show q - 1 < l.length by omega]
        rw [e]; omega
      simp -implicitDefEqProofs only [c8L1, push_cast, Nat.reduceBEq, Nat.reduceLT, Nat.reduceLeDiff, Nat.reduceAdd, Nat.reduceSub, Nat.reduceMul, Nat.reduceEqDiff, reduceCtorEq, ↓reduceIte, Int.reduceEq, Int.reduceLT, Int.reduceLE, Int.reduceNe, Int.reduceAdd, Int.reduceSub, Int.reduceMul, Int.reduceToNat, Nat.reduceShiftRight, Nat.reduceAnd, Nat.reduceBNe]
      rw [hx1]
      simp -implicitDefEqProofs only [hget, push_cast, Nat.reduceBEq, Nat.reduceLT, Nat.reduceLeDiff, Nat.reduceAdd, Nat.reduceSub, Nat.reduceMul, Nat.reduceEqDiff, reduceCtorEq, ↓reduceIte, Int.reduceEq, Int.reduceLT, Int.reduceLE, Int.reduceNe, Int.reduceAdd, Int.reduceSub, Int.reduceMul, Int.reduceToNat, Nat.reduceShiftRight, Nat.reduceAnd, Nat.reduceBNe]
      have hp3 := hpart2 x hx2
      rw [hx3] at hp3
      refine ⟨fun _ => ⟨by omega, fun h => absurd h (by omega), fun _ => ⟨hlen, fun h => absurd h (by omega), fun _ => ⟨by omega, hlen, ⟨hlen, by rw [hlen]; exact hx2⟩, fun hq0 => ⟨by simp only [inR]; omega, by omega, ?_⟩, fun hz => ?_⟩⟩⟩, fun h => absurd hql (by omega)⟩
      · have hp := hprev (by omega)
        have e : ((q : Int) - 1).toNat = q - 1 := by omega
        rw [e]
        refine ⟨fun h => absurd h (by omega), fun _ => ?_⟩
        refine callF (is_pc j) ⟨rfl, trivial⟩ rfl rfl ?_
        simp -implicitDefEqProofs only [push_cast, Nat.reduceBEq, Nat.reduceLT, Nat.reduceLeDiff, Nat.reduceAdd, Nat.reduceSub, Nat.reduceMul, Nat.reduceEqDiff, reduceCtorEq, ↓reduceIte, Int.reduceEq, Int.reduceLT, Int.reduceLE, Int.reduceNe, Int.reduceAdd, Int.reduceSub, Int.reduceMul, Int.reduceToNat, Nat.reduceShiftRight, Nat.reduceAnd, Nat.reduceBNe]
        refine callF hp3 ⟨rfl, rfl, rfl, trivial⟩ rfl rfl ?_
        simp -implicitDefEqProofs only [push_cast, Nat.reduceBEq, Nat.reduceLT, Nat.reduceLeDiff, Nat.reduceAdd, Nat.reduceSub, Nat.reduceMul, Nat.reduceEqDiff, reduceCtorEq, ↓reduceIte, Int.reduceEq, Int.reduceLT, Int.reduceLE, Int.reduceNe, Int.reduceAdd, Int.reduceSub, Int.reduceMul, Int.reduceToNat, Nat.reduceShiftRight, Nat.reduceAnd, Nat.reduceBNe]
        refine callF (isC_pc j 0 j) ⟨rfl, rfl, rfl, trivial⟩ rfl rfl ?_
        simp -implicitDefEqProofs only [show decide ((j : Int) = j ∧ (0 : Int) = 0) = true from by simp, hset, push_cast, Nat.reduceBEq, Nat.reduceLT, Nat.reduceLeDiff, Nat.reduceAdd, Nat.reduceSub, Nat.reduceMul, Nat.reduceEqDiff, reduceCtorEq, ↓reduceIte, Int.reduceEq, Int.reduceLT, Int.reduceLE, Int.reduceNe, Int.reduceAdd, Int.reduceSub, Int.reduceMul, Int.reduceToNat, Nat.reduceShiftRight, Nat.reduceAnd, Nat.reduceBNe]
        exact ⟨by omega, hlen, ⟨hlen, by rw [hlen]; exact hx2⟩, by simp only [inR]; omega, q + 1, by omega, by omega, wk_cut [60, 59, 58, 37, 36, 10, 9, 8, 5, 4, 3] 2 rfl ⟨rfl, rfl, rfl⟩ rfl⟩
      · skip
        refine callF (is_pc j) ⟨rfl, trivial⟩ rfl rfl ?_
        simp -implicitDefEqProofs only [push_cast, Nat.reduceBEq, Nat.reduceLT, Nat.reduceLeDiff, Nat.reduceAdd, Nat.reduceSub, Nat.reduceMul, Nat.reduceEqDiff, reduceCtorEq, ↓reduceIte, Int.reduceEq, Int.reduceLT, Int.reduceLE, Int.reduceNe, Int.reduceAdd, Int.reduceSub, Int.reduceMul, Int.reduceToNat, Nat.reduceShiftRight, Nat.reduceAnd, Nat.reduceBNe]
        refine callF hp3 ⟨rfl, rfl, rfl, trivial⟩ rfl rfl ?_
        simp -implicitDefEqProofs only [push_cast, Nat.reduceBEq, Nat.reduceLT, Nat.reduceLeDiff, Nat.reduceAdd, Nat.reduceSub, Nat.reduceMul, Nat.reduceEqDiff, reduceCtorEq, ↓reduceIte, Int.reduceEq, Int.reduceLT, Int.reduceLE, Int.reduceNe, Int.reduceAdd, Int.reduceSub, Int.reduceMul, Int.reduceToNat, Nat.reduceShiftRight, Nat.reduceAnd, Nat.reduceBNe]
        refine callF (isC_pc j 0 j) ⟨rfl, rfl, rfl, trivial⟩ rfl rfl ?_
        simp -implicitDefEqProofs only [show decide ((j : Int) = j ∧ (0 : Int) = 0) = true from by simp, hset, push_cast, Nat.reduceBEq, Nat.reduceLT, Nat.reduceLeDiff, Nat.reduceAdd, Nat.reduceSub, Nat.reduceMul, Nat.reduceEqDiff, reduceCtorEq, ↓reduceIte, Int.reduceEq, Int.reduceLT, Int.reduceLE, Int.reduceNe, Int.reduceAdd, Int.reduceSub, Int.reduceMul, Int.reduceToNat, Nat.reduceShiftRight, Nat.reduceAnd, Nat.reduceBNe]
        exact ⟨by omega, hlen, ⟨hlen, by rw [hlen]; exact hx2⟩, by simp only [inR]; omega, q + 1, by omega, by omega, wk_cut [60, 59, 58, 37, 36, 10, 9, 8, 5, 4, 3] 2 rfl ⟨rfl, rfl, rfl⟩ rfl⟩
    · have : q = l.length := by omega
      subst this
      rw [List.take_length, SI_all hmem]
      simp -implicitDefEqProofs only [c8L1, push_cast, Nat.reduceBEq, Nat.reduceLT, Nat.reduceLeDiff, Nat.reduceAdd, Nat.reduceSub, Nat.reduceMul, Nat.reduceEqDiff, reduceCtorEq, ↓reduceIte, Int.reduceEq, Int.reduceLT, Int.reduceLE, Int.reduceNe, Int.reduceAdd, Int.reduceSub, Int.reduceMul, Int.reduceToNat, Nat.reduceShiftRight, Nat.reduceAnd, Nat.reduceBNe]
      exact ⟨fun h => absurd h (by omega), fun _ => ⟨by simp only [inR]; omega, j + 1, by omega, by omega, wk_cut [37, 36, 8, 5, 4, 3] 2 rfl ⟨rfl, rfl, rfl⟩ rfl⟩⟩
  · have : j = M := by omega
    subst this
    simp -implicitDefEqProofs only [c8L2, push_cast, Nat.reduceBEq, Nat.reduceLT, Nat.reduceLeDiff, Nat.reduceAdd, Nat.reduceSub, Nat.reduceMul, Nat.reduceEqDiff, reduceCtorEq, ↓reduceIte, Int.reduceEq, Int.reduceLT, Int.reduceLE, Int.reduceNe, Int.reduceAdd, Int.reduceSub, Int.reduceMul, Int.reduceToNat, Nat.reduceShiftRight, Nat.reduceAnd, Nat.reduceBNe]
    refine ⟨fun h => absurd h (by omega), fun _ => ?_⟩
    have hall : ∀ y ∈ SL n g j, y = !false := by
      intro y hy
      obtain ⟨m, hm, rfl⟩ := List.mem_map.1 hy
      exact decide_eq_true (hpart m (List.mem_range.1 hm))
    have hcon := contains_pc (SL n g j) false (by rw [SL_len]; omega)
    rw [idxB_all false _ _ hall] at hcon
    refine callB hcon ⟨rd_seq rfl (SL_len _ _ _), rfl, trivial⟩ rfl rfl ?_
    simp -implicitDefEqProofs only [show decide ((0 : Int) ≤ -1) = false from rfl, push_cast, Nat.reduceBEq, Nat.reduceLT, Nat.reduceLeDiff, Nat.reduceAdd, Nat.reduceSub, Nat.reduceMul, Nat.reduceEqDiff, reduceCtorEq, ↓reduceIte, Int.reduceEq, Int.reduceLT, Int.reduceLE, Int.reduceNe, Int.reduceAdd, Int.reduceSub, Int.reduceMul, Int.reduceToNat, Nat.reduceShiftRight, Nat.reduceAnd, Nat.reduceBNe]
    exact finC rfl rfl
end Go.Proofs.Ytcplbmlebogffaa
