/-
  Steps towards the claim of this seat (B1).
-/
import Derived.Test.YtofghbnaofcpdaaDoorAb23
import Derived.Test.YtofghbnaofcpdaaDoorProg
import Derived.KernelRfl
set_option linter.unusedVariables false
set_option linter.unusedSimpArgs false
namespace Go.Proofs.YtofghbnaofcpdaaDoor.Ab
open Go
def h3 : Hints := ⟨[], []⟩
def h4 : Hints := ⟨[], [(3, [5, 6], [2, 3])]⟩
def h5 : Hints := ⟨[], []⟩
def h6 : Hints := ⟨[], []⟩
def h7 : Hints := ⟨[], []⟩
def h8 : Hints := ⟨[(6, 0), (6, 3), (6, 4), (8, 0), (8, 1)], [(3, [3, 5], [1])]⟩
def h9 : Hints := ⟨[], [(3, [3, 6, 7], [1])]⟩
def h10 : Hints := ⟨[], []⟩
def h11 : Hints := ⟨[], [(2, [5, 6], [1])]⟩
def h12 : Hints := ⟨[], [(2, [3], [1])]⟩
def h13 : Hints := ⟨[], [(4, [0, 1, 5], [])]⟩
def h14 : Hints := ⟨[(6, 0), (6, 3), (6, 4), (7, 0), (7, 1)], [(3, [3, 4], [1])]⟩
def h15 : Hints := ⟨[], [(3, [6, 7, 8], [2, 3])]⟩
def h16 : Hints := ⟨[], []⟩
def h17 : Hints := ⟨[], []⟩
def h18 : Hints := ⟨[], [(3, [0, 4], [2, 3])]⟩
def h19 : Hints := ⟨[], [(3, [7, 8], [2, 3])]⟩
def h20 : Hints := ⟨[], [(3, [0, 4], [2, 3])]⟩
def h21 : Hints := ⟨[], []⟩
def h22 : Hints := ⟨[], []⟩
def h23 : Hints := ⟨[], []⟩
def h24 : Hints := ⟨[], []⟩
def h25 : Hints := ⟨[], []⟩
def h26 : Hints := ⟨[], [(2, [6], [2, 3, 4])]⟩
def h27 : Hints := ⟨[], [(2, [5], [2, 3, 4])]⟩
def h28 : Hints := ⟨[], [(2, [6], [2, 3, 4])]⟩
def h29 : Hints := ⟨[], [(2, [5], [2, 3, 4])]⟩
def h30 : Hints := ⟨[], [(2, [6], [2, 3, 4])]⟩
def h31 : Hints := ⟨[], [(2, [5], [2, 3, 4])]⟩
def h32 : Hints := ⟨[], []⟩
def h33 : Hints := ⟨[], []⟩
def h34 : Hints := ⟨[], []⟩
def h35 : Hints := ⟨[], []⟩
def h36 : Hints := ⟨[], []⟩
def h37 : Hints := ⟨[], []⟩
def tz64 : List Int := [0, 1, 56, 2, 57, 49, 28, 3, 61, 58, 42, 50, 38, 29, 17, 4, 62, 47, 59, 36, 45, 43, 51, 22, 53, 39, 33, 30, 24, 18, 12, 5, 63, 55, 48, 27, 60, 41, 37, 16, 46, 35, 44, 21, 52, 32, 23, 11, 54, 26, 40, 15, 34, 20, 31, 10, 25, 14, 19, 9, 13, 8, 7, 6]
def tab64 : D := .agg (tz64.map (.int .u8))
def gl : Nat → Option D := fun n => bif Nat.beq n 0 then some tab64 else none
theorem body3 (C : Con) (x0 : SV) (K : SV → Prop) : body Go.Proofs.Tryd.prog gl C h3 3 [x0] K = (
  wfP [x0] (
  bindO (cellsV (demote x0)) fun r0 =>
  (List.length r0) = 4 ∧
  bindO (partV true 4 0 r0) fun r1 =>
  callP C 8 [(demote (demote (demote r1)))] fun r2 =>
  bindO (partV true 4 0 r0) fun r3 =>
  callP C 9 [(demote (demote (demote r3)))] fun r4 =>
  bindO (partV true 4 0 r0) fun r5 =>
  callP C 10 [(demote (demote (demote r5)))] fun r6 =>
  bindO (binV (some (false, [.int])) .eql (demote r4) (demote r6)) fun r7 =>
  ifP (demote r7)
    (bindO (partV true 4 0 r0) fun r8 =>
    callP C 11 [(demote (demote (demote r8)))] fun r9 =>
    bindO (partV true 4 0 r0) fun r10 =>
    callP C 12 [(demote (demote (demote r10)))] fun r11 =>
    bindO (binV (some (false, [.int])) .eql (demote r9) (demote r11)) fun r12 =>
    ifP (demote (demote r12))
      (bindO (partV true 4 0 r0) fun r13 =>
      callP C 14 [(demote (demote (demote r13)))] fun r14 =>
      callP C 13 [(demote (demote (demote (demote r2)))), (demote (demote r14))] fun r15 =>
      ifP (demote (demote r15))
        (callP C 15 [(demote (demote (demote (demote r2))))] fun r16 =>
        bindO (partV true 4 0 r0) fun r17 =>
        bindO (binV (some (true, [.int, .int, .int, .int])) .eql (demote r16) (demote (demote r17))) fun r18 =>
        ifP (demote (demote r18))
          (callP C 16 [] fun r19 =>
          (SV.noRef (demote (demote r19))) = true ∧
          (K (demote (demote r19))))
          ((SV.noRef (.d (.bool false))) = true ∧
          (K (.d (.bool false)))))
        ((SV.noRef (.d (.bool false))) = true ∧
        (K (.d (.bool false)))))
      ((SV.noRef (.d (.bool false))) = true ∧
      (K (.d (.bool false)))))
    ((SV.noRef (.d (.bool false))) = true ∧
    (K (.d (.bool false)))))) := by kernel_rfl

theorem body4 (C : Con) (x0 x1 : SV) (K : SV → Prop) : body Go.Proofs.Tryd.prog gl C h4 4 [x0, x1] K = (
  wfP [x0, x1] (
  bindO (cellsV (demote x0)) fun r0 =>
  (List.length r0) = 4 ∧
  bindO (cellsV (demote x1)) fun r1 =>
  (List.length r1) = 4 ∧
  loopP (fun vs2 bs3 I4 =>
    bindO (binV none .leq (demote (demote (vget vs2 1))) (.d (.int .i64 256))) fun r5 =>
    ifP r5
      (ifP (demote (demote (vget vs2 0)))
        (bindO (partV true 4 0 (bget bs3 0)) fun r6 =>
        callP C 17 [(demote (demote (demote r6))), (demote (demote (demote (vget vs2 1))))] fun r7 =>
        bindO (partV true 4 0 (bget bs3 1)) fun r8 =>
        callP C 17 [(demote (demote (demote r8))), (demote (demote (demote (vget vs2 1))))] fun r9 =>
        bindO (binV (some (false, [.bool])) .eql (demote r7) (demote r9)) fun r10 =>
        bindO (binV none .add (demote (demote (vget vs2 1))) (.d (.int .i64 1))) fun r11 =>
        (I4 [(demote (demote r10)), (demote r11)] [(Box.vals (Box.cells (bget bs3 0))), (Box.vals (Box.cells (bget bs3 1)))]))
        (bindO (binV none .add (demote (demote (vget vs2 1))) (.d (.int .i64 1))) fun r12 =>
        (I4 [(.d (.bool false)), (demote r12)] [(Box.vals (Box.cells (bget bs3 0))), (Box.vals (Box.cells (bget bs3 1)))])))
      (bindO (partV true 4 0 (bget bs3 0)) fun r13 =>
      bindO (partV true 4 0 (bget bs3 1)) fun r14 =>
      bindO (binV (some (true, [.int, .int, .int, .int])) .eql (demote (demote r13)) (demote (demote r14))) fun r15 =>
      bindO (binV (some (false, [.bool])) .eql (demote (demote (vget vs2 0))) (demote r15)) fun r16 =>
      ifP (demote r16)
        (callP C 16 [] fun r17 =>
        (SV.noRef (demote (demote r17))) = true ∧
        (K (demote (demote r17))))
        ((SV.noRef (.d (.bool false))) = true ∧
        (K (.d (.bool false))))))
  [(.d (.bool true)), (.d (.int .i64 (-1)))] [(Box.vals (Box.cells r0)), (Box.vals (Box.cells r1))])) := by kernel_rfl

theorem body5 (C : Con) (x0 x1 x2 : SV) (K : SV → Prop) : body Go.Proofs.Tryd.prog gl C h5 5 [x0, x1, x2] K = (
  wfP [x0, x1, x2] (
  bindO (cellsV (demote x0)) fun r0 =>
  (List.length r0) = 4 ∧
  bindO (lenL (demote (demote x1))) fun r1 =>
  bindO (binV none .gtr (demote r1) (.d (.int .i64 1000))) fun r2 =>
  ifP r2
    (callP C 16 [] fun r3 =>
    (SV.noRef (demote r3)) = true ∧
    (K (demote r3)))
    (callP C 15 [(demote (demote (demote x1)))] fun r4 =>
    callP C 18 [(demote (demote (demote x1)))] fun r5 =>
    bindO (binV (some (true, [.int, .int, .int, .int])) .eql (demote r4) (demote r5)) fun r6 =>
    ifP (demote r6)
      (callP C 19 [(demote (demote (demote x2)))] fun r7 =>
      callP C 20 [(demote (demote (demote x2)))] fun r8 =>
      bindO (binV (some (true, [.int, .int, .int, .int])) .eql (demote r7) (demote r8)) fun r9 =>
      ifP (demote (demote r9))
        (bindO (partV true 4 0 r0) fun r10 =>
        callP C 17 [(demote (demote (demote r10))), (demote (demote (demote x2)))] fun r11 =>
        bindO (partV true 4 0 r0) fun r12 =>
        callP C 21 [(demote (demote (demote r12))), (demote (demote (demote x2)))] fun r13 =>
        bindO (binV (some (false, [.bool])) .eql (demote r11) (demote r13)) fun r14 =>
        ifP (demote (demote r14))
          (bindO (partV true 4 0 r0) fun r15 =>
          callP C 22 [(demote (demote (demote r15))), (demote (demote (demote x2)))] fun r16 =>
          bindO (partV true 4 0 r0) fun r17 =>
          callP C 23 [(demote (demote (demote r17))), (demote (demote (demote x2)))] fun r18 =>
          bindO (binV (some (true, [.int, .int, .int, .int])) .eql (demote r16) (demote r18)) fun r19 =>
          ifP (demote (demote r19))
            (bindO (partV true 4 0 r0) fun r20 =>
            callP C 24 [(demote (demote (demote r20))), (demote (demote (demote x2)))] fun r21 =>
            bindO (partV true 4 0 r0) fun r22 =>
            callP C 25 [(demote (demote (demote r22))), (demote (demote (demote x2)))] fun r23 =>
            bindO (binV (some (true, [.int, .int, .int, .int])) .eql (demote r21) (demote r23)) fun r24 =>
            ifP (demote (demote r24))
              (callP C 16 [] fun r25 =>
              (SV.noRef (demote (demote r25))) = true ∧
              (K (demote (demote r25))))
              ((SV.noRef (.d (.bool false))) = true ∧
              (K (.d (.bool false)))))
            ((SV.noRef (.d (.bool false))) = true ∧
            (K (.d (.bool false)))))
          ((SV.noRef (.d (.bool false))) = true ∧
          (K (.d (.bool false)))))
        ((SV.noRef (.d (.bool false))) = true ∧
        (K (.d (.bool false)))))
      ((SV.noRef (.d (.bool false))) = true ∧
      (K (.d (.bool false))))))) := by kernel_rfl

theorem body6 (C : Con) (x0 x1 : SV) (K : SV → Prop) : body Go.Proofs.Tryd.prog gl C h6 6 [x0, x1] K = (
  wfP [x0, x1] (
  bindO (cellsV (demote x0)) fun r0 =>
  (List.length r0) = 4 ∧
  bindO (cellsV (demote x1)) fun r1 =>
  (List.length r1) = 4 ∧
  bindO (partV true 4 0 r0) fun r2 =>
  bindO (partV true 4 0 r1) fun r3 =>
  callP C 26 [(demote (demote (demote r2))), (demote (demote (demote r3)))] fun r4 =>
  bindO (partV true 4 0 r0) fun r5 =>
  bindO (partV true 4 0 r1) fun r6 =>
  callP C 27 [(demote (demote (demote r5))), (demote (demote (demote r6)))] fun r7 =>
  bindO (binV (some (true, [.int, .int, .int, .int])) .eql (demote r4) (demote r7)) fun r8 =>
  ifP (demote r8)
    (bindO (partV true 4 0 r0) fun r9 =>
    bindO (partV true 4 0 r1) fun r10 =>
    callP C 28 [(demote (demote (demote r9))), (demote (demote (demote r10)))] fun r11 =>
    bindO (partV true 4 0 r0) fun r12 =>
    bindO (partV true 4 0 r1) fun r13 =>
    callP C 29 [(demote (demote (demote r12))), (demote (demote (demote r13)))] fun r14 =>
    bindO (binV (some (true, [.int, .int, .int, .int])) .eql (demote r11) (demote r14)) fun r15 =>
    ifP (demote (demote r15))
      (bindO (partV true 4 0 r0) fun r16 =>
      bindO (partV true 4 0 r1) fun r17 =>
      callP C 30 [(demote (demote (demote r16))), (demote (demote (demote r17)))] fun r18 =>
      bindO (partV true 4 0 r0) fun r19 =>
      bindO (partV true 4 0 r1) fun r20 =>
      callP C 31 [(demote (demote (demote r19))), (demote (demote (demote r20)))] fun r21 =>
      bindO (binV (some (true, [.int, .int, .int, .int])) .eql (demote r18) (demote r21)) fun r22 =>
      ifP (demote (demote r22))
        (bindO (partV true 4 0 r0) fun r23 =>
        bindO (partV true 4 0 r1) fun r24 =>
        callP C 32 [(demote (demote (demote r23))), (demote (demote (demote r24)))] fun r25 =>
        bindO (partV true 4 0 r0) fun r26 =>
        bindO (partV true 4 0 r1) fun r27 =>
        callP C 33 [(demote (demote (demote r26))), (demote (demote (demote r27)))] fun r28 =>
        bindO (binV (some (false, [.bool])) .eql (demote r25) (demote r28)) fun r29 =>
        ifP (demote (demote r29))
          (bindO (partV true 4 0 r0) fun r30 =>
          bindO (partV true 4 0 r1) fun r31 =>
          callP C 28 [(demote (demote (demote r30))), (demote (demote (demote r31)))] fun r32 =>
          bindO (partV true 4 0 r0) fun r33 =>
          callP C 32 [(demote (demote r32)), (demote (demote (demote r33)))] fun r34 =>
          ifP (demote (demote r34))
            (callP C 16 [] fun r35 =>
            (SV.noRef (demote (demote r35))) = true ∧
            (K (demote (demote r35))))
            ((SV.noRef (.d (.bool false))) = true ∧
            (K (.d (.bool false)))))
          ((SV.noRef (.d (.bool false))) = true ∧
          (K (.d (.bool false)))))
        ((SV.noRef (.d (.bool false))) = true ∧
        (K (.d (.bool false)))))
      ((SV.noRef (.d (.bool false))) = true ∧
      (K (.d (.bool false)))))
    ((SV.noRef (.d (.bool false))) = true ∧
    (K (.d (.bool false)))))) := by kernel_rfl

theorem body7 (C : Con) (x0 x1 x2 : SV) (K : SV → Prop) : body Go.Proofs.Tryd.prog gl C h7 7 [x0, x1, x2] K = (
  wfP [x0, x1, x2] (
  bindO (cellsV (demote x0)) fun r0 =>
  (List.length r0) = 4 ∧
  bindO (cellsV (demote x1)) fun r1 =>
  (List.length r1) = 4 ∧
  bindO (cellsV (demote x2)) fun r2 =>
  (List.length r2) = 4 ∧
  bindO (partV true 4 0 r0) fun r3 =>
  bindO (partV true 4 0 r1) fun r4 =>
  callP C 26 [(demote (demote (demote r3))), (demote (demote (demote r4)))] fun r5 =>
  bindO (partV true 4 0 r0) fun r6 =>
  bindO (partV true 4 0 r1) fun r7 =>
  callP C 28 [(demote (demote (demote r6))), (demote (demote (demote r7)))] fun r8 =>
  bindO (cellsV (demote r5)) fun r9 =>
  (List.length r9) = 4 ∧
  4 ≤ 4 ∧
  bindO (cellsV (demote r8)) fun r10 =>
  (List.length r10) = 4 ∧
  4 ≤ 4 ∧
  bindO (partV true 4 0 (setAt [(.d (.int .u64 0)), (.d (.int .u64 0)), (.d (.int .u64 0)), (.d (.int .u64 0))] 0 r9)) fun r11 =>
  bindO (partV true 4 0 r1) fun r12 =>
  bindO (partV true 4 0 r0) fun r13 =>
  callP C 26 [(demote (demote (demote r12))), (demote (demote (demote r13)))] fun r14 =>
  bindO (binV (some (true, [.int, .int, .int, .int])) .neq (demote (demote r11)) (demote r14)) fun r15 =>
  ifP (demote r15)
    ((SV.noRef (.d (.bool false))) = true ∧
    (K (.d (.bool false))))
    (bindO (partV true 4 0 (setAt [(.d (.int .u64 0)), (.d (.int .u64 0)), (.d (.int .u64 0)), (.d (.int .u64 0))] 0 r10)) fun r16 =>
    bindO (partV true 4 0 r1) fun r17 =>
    bindO (partV true 4 0 r0) fun r18 =>
    callP C 28 [(demote (demote (demote r17))), (demote (demote (demote r18)))] fun r19 =>
    bindO (binV (some (true, [.int, .int, .int, .int])) .neq (demote (demote r16)) (demote r19)) fun r20 =>
    ifP (demote (demote r20))
      ((SV.noRef (.d (.bool false))) = true ∧
      (K (.d (.bool false))))
      (bindO (partV true 4 0 (setAt [(.d (.int .u64 0)), (.d (.int .u64 0)), (.d (.int .u64 0)), (.d (.int .u64 0))] 0 r9)) fun r21 =>
      bindO (partV true 4 0 r2) fun r22 =>
      callP C 26 [(demote (demote (demote r21))), (demote (demote (demote r22)))] fun r23 =>
      bindO (partV true 4 0 r0) fun r24 =>
      bindO (partV true 4 0 r1) fun r25 =>
      bindO (partV true 4 0 r2) fun r26 =>
      callP C 26 [(demote (demote (demote r25))), (demote (demote (demote r26)))] fun r27 =>
      callP C 26 [(demote (demote (demote r24))), (demote (demote r27))] fun r28 =>
      bindO (binV (some (true, [.int, .int, .int, .int])) .neq (demote r23) (demote r28)) fun r29 =>
      ifP (demote (demote r29))
        ((SV.noRef (.d (.bool false))) = true ∧
        (K (.d (.bool false))))
        (bindO (partV true 4 0 (setAt [(.d (.int .u64 0)), (.d (.int .u64 0)), (.d (.int .u64 0)), (.d (.int .u64 0))] 0 r10)) fun r30 =>
        bindO (partV true 4 0 r2) fun r31 =>
        callP C 28 [(demote (demote (demote r30))), (demote (demote (demote r31)))] fun r32 =>
        bindO (partV true 4 0 r0) fun r33 =>
        bindO (partV true 4 0 r1) fun r34 =>
        bindO (partV true 4 0 r2) fun r35 =>
        callP C 28 [(demote (demote (demote r34))), (demote (demote (demote r35)))] fun r36 =>
        callP C 28 [(demote (demote (demote r33))), (demote (demote r36))] fun r37 =>
        bindO (binV (some (true, [.int, .int, .int, .int])) .neq (demote r32) (demote r37)) fun r38 =>
        ifP (demote r38)
          ((SV.noRef (.d (.bool false))) = true ∧
          (K (.d (.bool false))))
          (bindO (partV true 4 0 r0) fun r39 =>
          bindO (partV true 4 0 r1) fun r40 =>
          bindO (partV true 4 0 r2) fun r41 =>
          callP C 26 [(demote (demote (demote r40))), (demote (demote (demote r41)))] fun r42 =>
          callP C 28 [(demote (demote (demote r39))), (demote (demote r42))] fun r43 =>
          bindO (partV true 4 0 (setAt [(.d (.int .u64 0)), (.d (.int .u64 0)), (.d (.int .u64 0)), (.d (.int .u64 0))] 0 r10)) fun r44 =>
          bindO (partV true 4 0 r0) fun r45 =>
          bindO (partV true 4 0 r2) fun r46 =>
          callP C 28 [(demote (demote (demote r45))), (demote (demote (demote r46)))] fun r47 =>
          callP C 26 [(demote (demote (demote r44))), (demote (demote r47))] fun r48 =>
          bindO (binV (some (true, [.int, .int, .int, .int])) .neq (demote r43) (demote r48)) fun r49 =>
          ifP (demote r49)
            ((SV.noRef (.d (.bool false))) = true ∧
            (K (.d (.bool false))))
            (bindO (partV true 4 0 r0) fun r50 =>
            bindO (partV true 4 0 r1) fun r51 =>
            bindO (partV true 4 0 r2) fun r52 =>
            callP C 28 [(demote (demote (demote r51))), (demote (demote (demote r52)))] fun r53 =>
            callP C 26 [(demote (demote (demote r50))), (demote (demote r53))] fun r54 =>
            bindO (partV true 4 0 (setAt [(.d (.int .u64 0)), (.d (.int .u64 0)), (.d (.int .u64 0)), (.d (.int .u64 0))] 0 r9)) fun r55 =>
            bindO (partV true 4 0 r0) fun r56 =>
            bindO (partV true 4 0 r2) fun r57 =>
            callP C 26 [(demote (demote (demote r56))), (demote (demote (demote r57)))] fun r58 =>
            callP C 28 [(demote (demote (demote r55))), (demote (demote r58))] fun r59 =>
            bindO (binV (some (true, [.int, .int, .int, .int])) .neq (demote r54) (demote r59)) fun r60 =>
            ifP (demote r60)
              ((SV.noRef (.d (.bool false))) = true ∧
              (K (.d (.bool false))))
              (bindO (partV true 4 0 r0) fun r61 =>
              bindO (partV true 4 0 r1) fun r62 =>
              callP C 30 [(demote (demote (demote r61))), (demote (demote (demote r62)))] fun r63 =>
              bindO (cellsV (demote r63)) fun r64 =>
              (List.length r64) = 4 ∧
              4 ≤ 4 ∧
              bindO (partV true 4 0 (setAt [(.d (.int .u64 0)), (.d (.int .u64 0)), (.d (.int .u64 0)), (.d (.int .u64 0))] 0 r64)) fun r65 =>
              bindO (partV true 4 0 (setAt [(.d (.int .u64 0)), (.d (.int .u64 0)), (.d (.int .u64 0)), (.d (.int .u64 0))] 0 r10)) fun r66 =>
              callP C 28 [(demote (demote (demote r65))), (demote (demote (demote r66)))] fun r67 =>
              bindO (partsS []) fun r68 =>
              bindO (buildD Proofs.Tryd.prog 24 r68) fun r69 =>
              bindO (binV (some (true, [.int, .int, .int, .int])) .eql (demote r67) (.d r69)) fun r70 =>
              ifP (demote r70)
                (bindO (partV true 4 0 (setAt [(.d (.int .u64 0)), (.d (.int .u64 0)), (.d (.int .u64 0)), (.d (.int .u64 0))] 0 r64)) fun r71 =>
                bindO (partV true 4 0 (setAt [(.d (.int .u64 0)), (.d (.int .u64 0)), (.d (.int .u64 0)), (.d (.int .u64 0))] 0 r10)) fun r72 =>
                callP C 26 [(demote (demote (demote r71))), (demote (demote (demote r72)))] fun r73 =>
                bindO (partV true 4 0 r0) fun r74 =>
                bindO (binV (some (true, [.int, .int, .int, .int])) .eql (demote r73) (demote (demote r74))) fun r75 =>
                ifP (demote (demote r75))
                  (bindO (partV true 4 0 (setAt [(.d (.int .u64 0)), (.d (.int .u64 0)), (.d (.int .u64 0)), (.d (.int .u64 0))] 0 r9)) fun r76 =>
                  callP C 9 [(demote (demote (demote r76)))] fun r77 =>
                  bindO (partV true 4 0 (setAt [(.d (.int .u64 0)), (.d (.int .u64 0)), (.d (.int .u64 0)), (.d (.int .u64 0))] 0 r10)) fun r78 =>
                  callP C 9 [(demote (demote (demote r78)))] fun r79 =>
                  bindO (binV none .add (demote r77) (demote r79)) fun r80 =>
                  bindO (partV true 4 0 r0) fun r81 =>
                  callP C 9 [(demote (demote (demote r81)))] fun r82 =>
                  bindO (partV true 4 0 r1) fun r83 =>
                  callP C 9 [(demote (demote (demote r83)))] fun r84 =>
                  bindO (binV none .add (demote r82) (demote r84)) fun r85 =>
                  bindO (binV (some (false, [.int])) .eql (demote r80) (demote r85)) fun r86 =>
                  ifP (demote (demote r86))
                    (bindO (partV true 4 0 r0) fun r87 =>
                    bindO (partV true 4 0 r1) fun r88 =>
                    callP C 32 [(demote (demote (demote r87))), (demote (demote (demote r88)))] fun r89 =>
                    bindO (partV true 4 0 (setAt [(.d (.int .u64 0)), (.d (.int .u64 0)), (.d (.int .u64 0)), (.d (.int .u64 0))] 0 r64)) fun r90 =>
                    bindO (partsS []) fun r91 =>
                    bindO (buildD Proofs.Tryd.prog 24 r91) fun r92 =>
                    bindO (binV (some (true, [.int, .int, .int, .int])) .eql (demote (demote r90)) (.d r92)) fun r93 =>
                    bindO (binV (some (false, [.bool])) .eql (demote r89) (demote r93)) fun r94 =>
                    ifP (demote (demote r94))
                      (callP C 16 [] fun r95 =>
                      (SV.noRef (demote (demote r95))) = true ∧
                      (K (demote (demote r95))))
                      ((SV.noRef (.d (.bool false))) = true ∧
                      (K (.d (.bool false)))))
                    ((SV.noRef (.d (.bool false))) = true ∧
                    (K (.d (.bool false)))))
                  ((SV.noRef (.d (.bool false))) = true ∧
                  (K (.d (.bool false)))))
                ((SV.noRef (.d (.bool false))) = true ∧
                (K (.d (.bool false)))))))))))) := by kernel_rfl

theorem body8 (C : Con) (x0 : SV) (K : SV → Prop) : body Go.Proofs.Tryd.prog gl C h8 8 [x0] K = (
  wfP [x0] (
  bindO (cellsV (demote x0)) fun r0 =>
  (List.length r0) = 4 ∧
  loopP (fun vs1 bs2 I3 =>
    bindO (binV none .lss (demote (vget vs1 1)) (.d (.int .i64 256))) fun r4 =>
    ifP r4
      (bindO (partV true 4 0 (bget bs2 0)) fun r5 =>
      callP C 17 [(demote (demote (demote r5))), (demote (demote (demote (demote (demote (vget vs1 1))))))] fun r6 =>
      ifP r6
        (bindO (partsS [(0, (.v (demote (demote (demote (demote (vget vs1 1)))))))]) fun r7 =>
        (partsFit 1 1 r7) = true ∧
        appP 1 8 (vget vs1 0) (.full 1 (buildElems (mkElem false [(.int .i64 0)]) r7 1 0)) fun r8 =>
        bindO (binV none .add (demote (vget vs1 1)) (.d (.int .i64 1))) fun r9 =>
        (I3 [r8, (demote r9)] [(Box.vals (Box.cells (bget bs2 0)))]))
        (bindO (binV none .add (demote (vget vs1 1)) (.d (.int .i64 1))) fun r10 =>
        (I3 [(vget vs1 0), (demote r10)] [(Box.vals (Box.cells (bget bs2 0)))])))
      ((SV.noRef (vget vs1 0)) = true ∧
      (K (vget vs1 0))))
  [(.d (.sl .nil 0 [])), (.d (.int .i64 0))] [(Box.vals (Box.cells r0))])) := by kernel_rfl

theorem body9 (C : Con) (x0 : SV) (K : SV → Prop) : body Go.Proofs.Tryd.prog gl C h9 9 [x0] K = (
  wfP [x0] (
  bindO (cellsV (demote x0)) fun r0 =>
  (List.length r0) = 4 ∧
  bindO (partV true 4 0 r0) fun r1 =>
  loopP (fun vs2 bs3 I4 =>
    bindO (binV none .lss (demote (vget vs2 2)) (.d (.int .i64 4))) fun r5 =>
    ifP r5
      (bindO (indexV false 1 4 (demote (vget vs2 1)) (demote (vget vs2 2))) fun r6 =>
      callP C 34 [(demote (demote (demote (demote r6))))] fun r7 =>
      bindO (binV none .add (demote (demote (vget vs2 0))) (demote r7)) fun r8 =>
      bindO (binV none .add (demote (vget vs2 2)) (.d (.int .i64 1))) fun r9 =>
      (I4 [(demote r8), (vget vs2 1), (demote r9)] [(Box.vals (Box.cells (bget bs3 0)))]))
      ((SV.noRef (demote (demote (vget vs2 0)))) = true ∧
      (K (demote (demote (vget vs2 0))))))
  [(.d (.int .i64 0)), (demote r1), (.d (.int .i64 0))] [(Box.vals (Box.cells r0))])) := by kernel_rfl

theorem body10 (C : Con) (x0 : SV) (K : SV → Prop) : body Go.Proofs.Tryd.prog gl C h10 10 [x0] K = (
  wfP [x0] (
  bindO (cellsV (demote x0)) fun r0 =>
  (List.length r0) = 4 ∧
  bindO (partV true 4 0 r0) fun r1 =>
  callP C 14 [(demote (demote (demote r1)))] fun r2 =>
  bindO (lenL (demote r2)) fun r3 =>
  (SV.noRef (demote r3)) = true ∧
  (K (demote r3)))) := by kernel_rfl

theorem body11 (C : Con) (x0 : SV) (K : SV → Prop) : body Go.Proofs.Tryd.prog gl C h11 11 [x0] K = (
  wfP [x0] (
  bindO (cellsV (demote x0)) fun r0 =>
  (List.length r0) = 4 ∧
  bindO (partV true 4 0 r0) fun r1 =>
  loopP (fun vs2 bs3 I4 =>
    bindO (binV none .lss (demote (vget vs2 1)) (.d (.int .i64 4))) fun r5 =>
    ifP r5
      (bindO (indexV false 1 4 (demote (vget vs2 0)) (demote (vget vs2 1))) fun r6 =>
      bindO (binV (some (false, [.int])) .neq (demote (demote (demote r6))) (.d (.int .u64 0))) fun r7 =>
      ifP r7
        (bindO (binV none .mul (demote (demote (demote (demote (vget vs2 1))))) (.d (.int .i64 64))) fun r8 =>
        callP C 35 [(demote (demote (demote (demote r6))))] fun r9 =>
        bindO (binV none .add (demote r8) (demote r9)) fun r10 =>
        (SV.noRef (demote r10)) = true ∧
        (K (demote r10)))
        (bindO (binV none .add (demote (vget vs2 1)) (.d (.int .i64 1))) fun r11 =>
        (I4 [(vget vs2 0), (demote r11)] [(Box.vals (Box.cells (bget bs3 0)))])))
      ((SV.noRef (.d (.int .i64 (-1)))) = true ∧
      (K (.d (.int .i64 (-1))))))
  [(demote r1), (.d (.int .i64 0))] [(Box.vals (Box.cells r0))])) := by kernel_rfl

theorem body12 (C : Con) (x0 : SV) (K : SV → Prop) : body Go.Proofs.Tryd.prog gl C h12 12 [x0] K = (
  wfP [x0] (
  bindO (cellsV (demote x0)) fun r0 =>
  (List.length r0) = 4 ∧
  loopP (fun vs1 bs2 I3 =>
    bindO (binV none .lss (demote (demote (vget vs1 0))) (.d (.int .i64 256))) fun r4 =>
    ifP r4
      (bindO (partV true 4 0 (bget bs2 0)) fun r5 =>
      callP C 21 [(demote (demote (demote r5))), (demote (demote (demote (vget vs1 0))))] fun r6 =>
      ifP r6
        ((SV.noRef (demote (demote (vget vs1 0)))) = true ∧
        (K (demote (demote (vget vs1 0)))))
        (bindO (binV none .add (demote (demote (vget vs1 0))) (.d (.int .i64 1))) fun r7 =>
        (I3 [(demote r7)] [(Box.vals (Box.cells (bget bs2 0)))])))
      ((SV.noRef (.d (.int .i64 (-1)))) = true ∧
      (K (.d (.int .i64 (-1))))))
  [(.d (.int .i64 0))] [(Box.vals (Box.cells r0))])) := by kernel_rfl

theorem body13 (C : Con) (x0 x1 : SV) (K : SV → Prop) : body Go.Proofs.Tryd.prog gl C h13 13 [x0, x1] K = (
  wfP [x0, x1] (
  bindO (lenL (demote (demote x0))) fun r0 =>
  bindO (lenL (demote (demote x1))) fun r1 =>
  bindO (binV (some (false, [.int])) .neq (demote r0) (demote r1)) fun r2 =>
  ifP r2
    ((SV.noRef (.d (.bool false))) = true ∧
    (K (.d (.bool false))))
    (loopP (fun vs3 bs4 I5 =>
      bindO (lenL (demote (demote (vget vs3 0)))) fun r6 =>
      bindO (binV none .lss (demote (demote (vget vs3 2))) (demote r6)) fun r7 =>
      ifP r7
        (bindO (elemPtr 1 (demote (demote (vget vs3 0))) (demote (demote (vget vs3 2)))) fun r8 =>
        bindO (loadV false 1 (demote r8)) fun r9 =>
        bindO (elemPtr 1 (demote (demote (vget vs3 1))) (demote (demote (vget vs3 2)))) fun r10 =>
        bindO (loadV false 1 (demote r10)) fun r11 =>
        bindO (binV (some (false, [.int])) .neq (demote r9) (demote r11)) fun r12 =>
        ifP r12
          ((SV.noRef (.d (.bool false))) = true ∧
          (K (.d (.bool false))))
          (bindO (binV none .add (demote (demote (vget vs3 2))) (.d (.int .i64 1))) fun r13 =>
          (I5 [(vget vs3 0), (vget vs3 1), (demote r13)] [])))
        ((SV.noRef (.d (.bool true))) = true ∧
        (K (.d (.bool true)))))
    [x0, x1, (.d (.int .i64 0))] []))) := by kernel_rfl

theorem body14 (C : Con) (x0 : SV) (K : SV → Prop) : body Go.Proofs.Tryd.prog gl C h14 14 [x0] K = (
  wfP [x0] (
  bindO (cellsV (demote x0)) fun r0 =>
  (List.length r0) = 4 ∧
  loopP (fun vs1 bs2 I3 =>
    bindO (binV none .lss (demote (demote (vget vs1 1))) (.d (.int .i64 256))) fun r4 =>
    ifP r4
      (bindO (partV true 4 0 (bget bs2 0)) fun r5 =>
      callP C 21 [(demote (demote (demote r5))), (demote (demote (demote (vget vs1 1))))] fun r6 =>
      ifP r6
        (bindO (partsS [(0, (.v (demote (demote (vget vs1 1)))))]) fun r7 =>
        (partsFit 1 1 r7) = true ∧
        appP 1 8 (vget vs1 0) (.full 1 (buildElems (mkElem false [(.int .i64 0)]) r7 1 0)) fun r8 =>
        bindO (binV none .add (demote (demote (vget vs1 1))) (.d (.int .i64 1))) fun r9 =>
        (I3 [r8, (demote r9)] [(Box.vals (Box.cells (bget bs2 0)))]))
        (bindO (binV none .add (demote (demote (vget vs1 1))) (.d (.int .i64 1))) fun r10 =>
        (I3 [(vget vs1 0), (demote r10)] [(Box.vals (Box.cells (bget bs2 0)))])))
      ((SV.noRef (vget vs1 0)) = true ∧
      (K (vget vs1 0))))
  [(.d (.sl .nil 0 [])), (.d (.int .i64 0))] [(Box.vals (Box.cells r0))])) := by kernel_rfl

theorem body15 (C : Con) (x0 : SV) (K : SV → Prop) : body Go.Proofs.Tryd.prog gl C h15 15 [x0] K = (
  wfP [x0] (
  bindO (lenL (demote (demote x0))) fun r0 =>
  loopP (fun vs1 bs2 I3 =>
    bindO (binV none .lss (demote (vget vs1 2)) (demote (vget vs1 1))) fun r4 =>
    ifP r4
      (bindO (elemPtr 1 (demote (vget vs1 0)) (demote (vget vs1 2))) fun r5 =>
      bindO (loadV false 1 (demote r5)) fun r6 =>
      bindO (partV true 4 0 (bget bs2 1)) fun r7 =>
      callP C 22 [(demote (demote (demote r7))), (demote (demote (demote (demote r6))))] fun r8 =>
      bindO (cellsV (demote r8)) fun r9 =>
      (List.length r9) = 4 ∧
      4 ≤ (List.length (bget bs2 1)) ∧
      bindO (binV none .add (demote (vget vs1 2)) (.d (.int .i64 1))) fun r10 =>
      (I3 [(vget vs1 0), (vget vs1 1), (demote r10)] [(Box.vals (Box.cells (bget bs2 0))), (Box.vals (Box.cells (setAt (bget bs2 1) 0 r9)))]))
      (bindO (partV true 4 0 (bget bs2 1)) fun r11 =>
      bindO (cellsV (demote (demote r11))) fun r12 =>
      (List.length r12) = 4 ∧
      4 ≤ (List.length (bget bs2 0)) ∧
      bindO (partV true 4 0 (setAt (bget bs2 0) 0 r12)) fun r13 =>
      (SV.noRef (demote r13)) = true ∧
      (K (demote r13))))
  [(demote x0), r0, (.d (.int .i64 0))] [[(.d (.int .u64 0)), (.d (.int .u64 0)), (.d (.int .u64 0)), (.d (.int .u64 0))], [(.d (.int .u64 0)), (.d (.int .u64 0)), (.d (.int .u64 0)), (.d (.int .u64 0))]])) := by kernel_rfl

theorem body16 (C : Con) (K : SV → Prop) : body Go.Proofs.Tryd.prog gl C h16 16 [] K = (
  wfP [] (
  bindO (partsS [(0, (.v (.d (.int .i64 3)))), (1, (.v (.d (.int .i64 64)))), (2, (.v (.d (.int .i64 (-1))))), (3, (.v (.d (.int .i64 256)))), (4, (.v (.d (.int .i64 3))))]) fun r0 =>
  (partsFit 1 5 r0) = true ∧
  callP C 15 [(.full 1 (buildElems (mkElem false [(.int .i64 0)]) r0 5 0))] fun r1 =>
  bindO (cellsV (demote r1)) fun r2 =>
  (List.length r2) = 4 ∧
  4 ≤ 4 ∧
  bindO (partV true 4 0 (setAt [(.d (.int .u64 0)), (.d (.int .u64 0)), (.d (.int .u64 0)), (.d (.int .u64 0))] 0 r2)) fun r3 =>
  bindO (partsS [(0, (.v (.d (.int .u64 8)))), (1, (.v (.d (.int .u64 1))))]) fun r4 =>
  bindO (buildD Proofs.Tryd.prog 24 r4) fun r5 =>
  bindO (binV (some (true, [.int, .int, .int, .int])) .eql (demote (demote r3)) (.d r5)) fun r6 =>
  ifP (demote r6)
    (bindO (partV true 4 0 (setAt [(.d (.int .u64 0)), (.d (.int .u64 0)), (.d (.int .u64 0)), (.d (.int .u64 0))] 0 r2)) fun r7 =>
    callP C 9 [(demote (demote (demote r7)))] fun r8 =>
    bindO (binV (some (false, [.int])) .eql (demote r8) (.d (.int .i64 2))) fun r9 =>
    ifP (demote (demote r9))
      (bindO (partV true 4 0 (setAt [(.d (.int .u64 0)), (.d (.int .u64 0)), (.d (.int .u64 0)), (.d (.int .u64 0))] 0 r2)) fun r10 =>
      callP C 11 [(demote (demote (demote r10)))] fun r11 =>
      bindO (binV (some (false, [.int])) .eql (demote r11) (.d (.int .i64 3))) fun r12 =>
      ifP (demote (demote r12))
        (callP C 19 [(.d (.int .i64 65))] fun r13 =>
        bindO (partsS [(0, (.v (.d (.int .u64 18446744073709551615)))), (1, (.v (.d (.int .u64 1))))]) fun r14 =>
        bindO (buildD Proofs.Tryd.prog 24 r14) fun r15 =>
        bindO (binV (some (true, [.int, .int, .int, .int])) .eql (demote r13) (.d r15)) fun r16 =>
        ifP (demote (demote r16))
          (bindO (partV true 4 0 (setAt [(.d (.int .u64 0)), (.d (.int .u64 0)), (.d (.int .u64 0)), (.d (.int .u64 0))] 0 r2)) fun r17 =>
          callP C 8 [(demote (demote (demote r17)))] fun r18 =>
          bindO (partsS [(0, (.v (.d (.int .i64 3)))), (1, (.v (.d (.int .i64 64))))]) fun r19 =>
          (partsFit 1 2 r19) = true ∧
          callP C 13 [(demote (demote r18)), (.full 1 (buildElems (mkElem false [(.int .i64 0)]) r19 2 0))] fun r20 =>
          (SV.noRef (demote (demote r20))) = true ∧
          (K (demote (demote r20))))
          ((SV.noRef (.d (.bool false))) = true ∧
          (K (.d (.bool false)))))
        ((SV.noRef (.d (.bool false))) = true ∧
        (K (.d (.bool false)))))
      ((SV.noRef (.d (.bool false))) = true ∧
      (K (.d (.bool false)))))
    ((SV.noRef (.d (.bool false))) = true ∧
    (K (.d (.bool false)))))) := by kernel_rfl

theorem body17 (C : Con) (x0 x1 : SV) (K : SV → Prop) : body Go.Proofs.Tryd.prog gl C h17 17 [x0, x1] K = (
  wfP [x0, x1] (
  bindO (cellsV (demote x0)) fun r0 =>
  (List.length r0) = 4 ∧
  callP C 36 [(demote (demote (demote x1)))] fun r1 =>
  ifP (demote r1)
    (bindO (binV none .quo (demote (demote x1)) (.d (.int .i64 64))) fun r2 =>
    bindO (indexOk (demote r2) 4) fun r3 =>
    bindO (partV false 1 (0 + (r3 * 1)) r0) fun r4 =>
    bindO (binV none .rem (demote (demote x1)) (.d (.int .i64 64))) fun r5 =>
    bindO (binV none .shr (demote (demote r4)) (demote r5)) fun r6 =>
    bindO (binV none .and (demote r6) (.d (.int .u64 1))) fun r7 =>
    bindO (binV (some (false, [.int])) .eql (demote r7) (.d (.int .u64 1))) fun r8 =>
    (SV.noRef (demote (demote r8))) = true ∧
    (K (demote (demote r8))))
    ((SV.noRef (.d (.bool false))) = true ∧
    (K (.d (.bool false)))))) := by kernel_rfl

theorem body18 (C : Con) (x0 : SV) (K : SV → Prop) : body Go.Proofs.Tryd.prog gl C h18 18 [x0] K = (
  wfP [x0] (
  bindO (partsS []) fun r0 =>
  bindO (buildD Proofs.Tryd.prog 24 r0) fun r1 =>
  bindO (cellsV (.d r1)) fun r2 =>
  (List.length r2) = 4 ∧
  4 ≤ 4 ∧
  loopP (fun vs3 bs4 I5 =>
    bindO (lenL (demote (demote (vget vs3 0)))) fun r6 =>
    bindO (binV none .lss (demote (demote (vget vs3 1))) (demote r6)) fun r7 =>
    ifP r7
      (bindO (partV true 4 0 (bget bs4 1)) fun r8 =>
      bindO (elemPtr 1 (demote (demote (vget vs3 0))) (demote (demote (vget vs3 1)))) fun r9 =>
      bindO (loadV false 1 (demote r9)) fun r10 =>
      callP C 23 [(demote (demote (demote r8))), (demote (demote r10))] fun r11 =>
      bindO (cellsV (demote r11)) fun r12 =>
      (List.length r12) = 4 ∧
      4 ≤ (List.length (bget bs4 1)) ∧
      bindO (binV none .add (demote (demote (vget vs3 1))) (.d (.int .i64 1))) fun r13 =>
      (I5 [(vget vs3 0), (demote r13)] [(Box.vals (Box.cells (bget bs4 0))), (Box.vals (Box.cells (setAt (bget bs4 1) 0 r12)))]))
      (bindO (partV true 4 0 (bget bs4 1)) fun r14 =>
      bindO (cellsV (demote (demote r14))) fun r15 =>
      (List.length r15) = 4 ∧
      4 ≤ (List.length (bget bs4 0)) ∧
      bindO (partV true 4 0 (setAt (bget bs4 0) 0 r15)) fun r16 =>
      (SV.noRef (demote r16)) = true ∧
      (K (demote r16))))
  [x0, (.d (.int .i64 0))] [[(.d (.int .u64 0)), (.d (.int .u64 0)), (.d (.int .u64 0)), (.d (.int .u64 0))], (Box.vals (Box.cells (setAt [(.d (.int .u64 0)), (.d (.int .u64 0)), (.d (.int .u64 0)), (.d (.int .u64 0))] 0 r2)))])) := by kernel_rfl

theorem body19 (C : Con) (x0 : SV) (K : SV → Prop) : body Go.Proofs.Tryd.prog gl C h19 19 [x0] K = (
  wfP [x0] (
  bindO (foldIntV maxD (demote (demote x0)) [(.d (.int .i64 0))]) fun r0 =>
  bindO (foldIntV minD (demote r0) [(.d (.int .i64 256))]) fun r1 =>
  loopP (fun vs2 bs3 I4 =>
    bindO (binV none .lss (demote (vget vs2 1)) (demote (vget vs2 0))) fun r5 =>
    ifP r5
      (bindO (partV true 4 0 (bget bs3 1)) fun r6 =>
      callP C 22 [(demote (demote (demote r6))), (demote (demote (demote (demote (demote (vget vs2 1))))))] fun r7 =>
      bindO (cellsV (demote r7)) fun r8 =>
      (List.length r8) = 4 ∧
      4 ≤ (List.length (bget bs3 1)) ∧
      bindO (binV none .add (demote (vget vs2 1)) (.d (.int .i64 1))) fun r9 =>
      (I4 [(vget vs2 0), (demote r9)] [(Box.vals (Box.cells (bget bs3 0))), (Box.vals (Box.cells (setAt (bget bs3 1) 0 r8)))]))
      (bindO (partV true 4 0 (bget bs3 1)) fun r10 =>
      bindO (cellsV (demote (demote r10))) fun r11 =>
      (List.length r11) = 4 ∧
      4 ≤ (List.length (bget bs3 0)) ∧
      bindO (partV true 4 0 (setAt (bget bs3 0) 0 r11)) fun r12 =>
      (SV.noRef (demote r12)) = true ∧
      (K (demote r12))))
  [r1, (.d (.int .i64 0))] [[(.d (.int .u64 0)), (.d (.int .u64 0)), (.d (.int .u64 0)), (.d (.int .u64 0))], [(.d (.int .u64 0)), (.d (.int .u64 0)), (.d (.int .u64 0)), (.d (.int .u64 0))]])) := by kernel_rfl

theorem body20 (C : Con) (x0 : SV) (K : SV → Prop) : body Go.Proofs.Tryd.prog gl C h20 20 [x0] K = (
  wfP [x0] (
  bindO (partsS []) fun r0 =>
  bindO (buildD Proofs.Tryd.prog 24 r0) fun r1 =>
  bindO (cellsV (.d r1)) fun r2 =>
  (List.length r2) = 4 ∧
  4 ≤ 4 ∧
  loopP (fun vs3 bs4 I5 =>
    bindO (binV none .lss (demote (demote (vget vs3 1))) (demote (demote (vget vs3 0)))) fun r6 =>
    ifP (demote r6)
      (bindO (binV none .lss (demote (demote (vget vs3 1))) (.d (.int .i64 256))) fun r7 =>
      ifP (demote r7)
        (bindO (partV true 4 0 (bget bs4 1)) fun r8 =>
        callP C 23 [(demote (demote (demote r8))), (demote (demote (demote (vget vs3 1))))] fun r9 =>
        bindO (cellsV (demote r9)) fun r10 =>
        (List.length r10) = 4 ∧
        4 ≤ (List.length (bget bs4 1)) ∧
        bindO (binV none .add (demote (demote (vget vs3 1))) (.d (.int .i64 1))) fun r11 =>
        (I5 [(vget vs3 0), (demote r11)] [(Box.vals (Box.cells (bget bs4 0))), (Box.vals (Box.cells (setAt (bget bs4 1) 0 r10)))]))
        (bindO (partV true 4 0 (bget bs4 1)) fun r12 =>
        bindO (cellsV (demote (demote r12))) fun r13 =>
        (List.length r13) = 4 ∧
        4 ≤ (List.length (bget bs4 0)) ∧
        bindO (partV true 4 0 (setAt (bget bs4 0) 0 r13)) fun r14 =>
        (SV.noRef (demote r14)) = true ∧
        (K (demote r14))))
      (bindO (partV true 4 0 (bget bs4 1)) fun r15 =>
      bindO (cellsV (demote (demote r15))) fun r16 =>
      (List.length r16) = 4 ∧
      4 ≤ (List.length (bget bs4 0)) ∧
      bindO (partV true 4 0 (setAt (bget bs4 0) 0 r16)) fun r17 =>
      (SV.noRef (demote r17)) = true ∧
      (K (demote r17))))
  [x0, (.d (.int .i64 0))] [[(.d (.int .u64 0)), (.d (.int .u64 0)), (.d (.int .u64 0)), (.d (.int .u64 0))], (Box.vals (Box.cells (setAt [(.d (.int .u64 0)), (.d (.int .u64 0)), (.d (.int .u64 0)), (.d (.int .u64 0))] 0 r2)))])) := by kernel_rfl

theorem body21 (C : Con) (x0 x1 : SV) (K : SV → Prop) : body Go.Proofs.Tryd.prog gl C h21 21 [x0, x1] K = (
  wfP [x0, x1] (
  bindO (cellsV (demote x0)) fun r0 =>
  (List.length r0) = 4 ∧
  bindO (binV none .geq (demote (demote x1)) (.d (.int .i64 0))) fun r1 =>
  ifP (demote r1)
    (bindO (binV none .lss (demote (demote x1)) (.d (.int .i64 256))) fun r2 =>
    ifP (demote (demote r2))
      (bindO (binV none .quo (demote (demote x1)) (.d (.int .i64 64))) fun r3 =>
      bindO (indexOk (demote r3) 4) fun r4 =>
      bindO (partV false 1 (0 + (r4 * 1)) r0) fun r5 =>
      callP C 37 [(demote (demote (demote x1)))] fun r6 =>
      bindO (binV none .and (demote (demote r5)) (demote r6)) fun r7 =>
      bindO (binV (some (false, [.int])) .neq (demote r7) (.d (.int .u64 0))) fun r8 =>
      (SV.noRef (demote (demote r8))) = true ∧
      (K (demote (demote r8))))
      ((SV.noRef (.d (.bool false))) = true ∧
      (K (.d (.bool false)))))
    ((SV.noRef (.d (.bool false))) = true ∧
    (K (.d (.bool false)))))) := by kernel_rfl

theorem body22 (C : Con) (x0 x1 : SV) (K : SV → Prop) : body Go.Proofs.Tryd.prog gl C h22 22 [x0, x1] K = (
  wfP [x0, x1] (
  bindO (cellsV (demote x0)) fun r0 =>
  (List.length r0) = 4 ∧
  callP C 36 [(demote (demote (demote x1)))] fun r1 =>
  ifP r1
    (bindO (binV none .quo (demote (demote x1)) (.d (.int .i64 64))) fun r2 =>
    bindO (indexOk (demote r2) 4) fun r3 =>
    bindO (partV false 1 (0 + (r3 * 1)) r0) fun r4 =>
    bindO (binV none .rem (demote (demote x1)) (.d (.int .i64 64))) fun r5 =>
    bindO (binV none .shl (.d (.int .u64 1)) (demote r5)) fun r6 =>
    bindO (binV none .or (demote (demote r4)) (demote r6)) fun r7 =>
    bindO (indexOk (demote r2) 4) fun r8 =>
    bindO (cellsV (demote r7)) fun r9 =>
    (List.length r9) = 1 ∧
    ((0 + (r8 * 1)) + 1) ≤ (List.length r0) ∧
    bindO (partV true 4 0 (setAt r0 (0 + (r8 * 1)) r9)) fun r10 =>
    bindO (cellsV (demote (demote r10))) fun r11 =>
    (List.length r11) = 4 ∧
    4 ≤ 4 ∧
    bindO (partV true 4 0 (setAt [(.d (.int .u64 0)), (.d (.int .u64 0)), (.d (.int .u64 0)), (.d (.int .u64 0))] 0 r11)) fun r12 =>
    (SV.noRef (demote r12)) = true ∧
    (K (demote r12)))
    (bindO (partV true 4 0 r0) fun r13 =>
    bindO (cellsV (demote (demote r13))) fun r14 =>
    (List.length r14) = 4 ∧
    4 ≤ 4 ∧
    bindO (partV true 4 0 (setAt [(.d (.int .u64 0)), (.d (.int .u64 0)), (.d (.int .u64 0)), (.d (.int .u64 0))] 0 r14)) fun r15 =>
    (SV.noRef (demote r15)) = true ∧
    (K (demote r15))))) := by kernel_rfl

theorem body23 (C : Con) (x0 x1 : SV) (K : SV → Prop) : body Go.Proofs.Tryd.prog gl C h23 23 [x0, x1] K = (
  wfP [x0, x1] (
  bindO (cellsV (demote x0)) fun r0 =>
  (List.length r0) = 4 ∧
  bindO (binV none .geq (demote (demote x1)) (.d (.int .i64 0))) fun r1 =>
  ifP (demote r1)
    (bindO (binV none .lss (demote (demote x1)) (.d (.int .i64 256))) fun r2 =>
    ifP (demote r2)
      (bindO (binV none .quo (demote (demote x1)) (.d (.int .i64 64))) fun r3 =>
      bindO (binV none .quo (demote (demote x1)) (.d (.int .i64 64))) fun r4 =>
      bindO (indexOk (demote r4) 4) fun r5 =>
      bindO (partV false 1 (0 + (r5 * 1)) r0) fun r6 =>
      callP C 37 [(demote (demote (demote x1)))] fun r7 =>
      bindO (binV none .or (demote (demote r6)) (demote r7)) fun r8 =>
      bindO (indexOk (demote r3) 4) fun r9 =>
      bindO (cellsV (demote r8)) fun r10 =>
      (List.length r10) = 1 ∧
      ((0 + (r9 * 1)) + 1) ≤ (List.length r0) ∧
      bindO (partV true 4 0 (setAt r0 (0 + (r9 * 1)) r10)) fun r11 =>
      bindO (cellsV (demote (demote r11))) fun r12 =>
      (List.length r12) = 4 ∧
      4 ≤ 4 ∧
      bindO (partV true 4 0 (setAt [(.d (.int .u64 0)), (.d (.int .u64 0)), (.d (.int .u64 0)), (.d (.int .u64 0))] 0 r12)) fun r13 =>
      (SV.noRef (demote r13)) = true ∧
      (K (demote r13)))
      (bindO (partV true 4 0 r0) fun r14 =>
      bindO (cellsV (demote (demote r14))) fun r15 =>
      (List.length r15) = 4 ∧
      4 ≤ 4 ∧
      bindO (partV true 4 0 (setAt [(.d (.int .u64 0)), (.d (.int .u64 0)), (.d (.int .u64 0)), (.d (.int .u64 0))] 0 r15)) fun r16 =>
      (SV.noRef (demote r16)) = true ∧
      (K (demote r16))))
    (bindO (partV true 4 0 r0) fun r17 =>
    bindO (cellsV (demote (demote r17))) fun r18 =>
    (List.length r18) = 4 ∧
    4 ≤ 4 ∧
    bindO (partV true 4 0 (setAt [(.d (.int .u64 0)), (.d (.int .u64 0)), (.d (.int .u64 0)), (.d (.int .u64 0))] 0 r18)) fun r19 =>
    (SV.noRef (demote r19)) = true ∧
    (K (demote r19))))) := by kernel_rfl

theorem body24 (C : Con) (x0 x1 : SV) (K : SV → Prop) : body Go.Proofs.Tryd.prog gl C h24 24 [x0, x1] K = (
  wfP [x0, x1] (
  bindO (cellsV (demote x0)) fun r0 =>
  (List.length r0) = 4 ∧
  callP C 36 [(demote (demote (demote x1)))] fun r1 =>
  ifP r1
    (bindO (binV none .quo (demote (demote x1)) (.d (.int .i64 64))) fun r2 =>
    bindO (indexOk (demote r2) 4) fun r3 =>
    bindO (partV false 1 (0 + (r3 * 1)) r0) fun r4 =>
    bindO (binV none .rem (demote (demote x1)) (.d (.int .i64 64))) fun r5 =>
    bindO (binV none .shl (.d (.int .u64 1)) (demote r5)) fun r6 =>
    bindO (binV none .andNot (demote (demote r4)) (demote r6)) fun r7 =>
    bindO (indexOk (demote r2) 4) fun r8 =>
    bindO (cellsV (demote r7)) fun r9 =>
    (List.length r9) = 1 ∧
    ((0 + (r8 * 1)) + 1) ≤ (List.length r0) ∧
    bindO (partV true 4 0 (setAt r0 (0 + (r8 * 1)) r9)) fun r10 =>
    bindO (cellsV (demote (demote r10))) fun r11 =>
    (List.length r11) = 4 ∧
    4 ≤ 4 ∧
    bindO (partV true 4 0 (setAt [(.d (.int .u64 0)), (.d (.int .u64 0)), (.d (.int .u64 0)), (.d (.int .u64 0))] 0 r11)) fun r12 =>
    (SV.noRef (demote r12)) = true ∧
    (K (demote r12)))
    (bindO (partV true 4 0 r0) fun r13 =>
    bindO (cellsV (demote (demote r13))) fun r14 =>
    (List.length r14) = 4 ∧
    4 ≤ 4 ∧
    bindO (partV true 4 0 (setAt [(.d (.int .u64 0)), (.d (.int .u64 0)), (.d (.int .u64 0)), (.d (.int .u64 0))] 0 r14)) fun r15 =>
    (SV.noRef (demote r15)) = true ∧
    (K (demote r15))))) := by kernel_rfl

theorem body25 (C : Con) (x0 x1 : SV) (K : SV → Prop) : body Go.Proofs.Tryd.prog gl C h25 25 [x0, x1] K = (
  wfP [x0, x1] (
  bindO (cellsV (demote x0)) fun r0 =>
  (List.length r0) = 4 ∧
  bindO (binV none .geq (demote (demote x1)) (.d (.int .i64 0))) fun r1 =>
  ifP (demote r1)
    (bindO (binV none .lss (demote (demote x1)) (.d (.int .i64 256))) fun r2 =>
    ifP (demote r2)
      (bindO (binV none .quo (demote (demote x1)) (.d (.int .i64 64))) fun r3 =>
      bindO (binV none .quo (demote (demote x1)) (.d (.int .i64 64))) fun r4 =>
      bindO (indexOk (demote r4) 4) fun r5 =>
      bindO (partV false 1 (0 + (r5 * 1)) r0) fun r6 =>
      callP C 37 [(demote (demote (demote x1)))] fun r7 =>
      bindO (binV none .andNot (demote (demote r6)) (demote r7)) fun r8 =>
      bindO (indexOk (demote r3) 4) fun r9 =>
      bindO (cellsV (demote r8)) fun r10 =>
      (List.length r10) = 1 ∧
      ((0 + (r9 * 1)) + 1) ≤ (List.length r0) ∧
      bindO (partV true 4 0 (setAt r0 (0 + (r9 * 1)) r10)) fun r11 =>
      bindO (cellsV (demote (demote r11))) fun r12 =>
      (List.length r12) = 4 ∧
      4 ≤ 4 ∧
      bindO (partV true 4 0 (setAt [(.d (.int .u64 0)), (.d (.int .u64 0)), (.d (.int .u64 0)), (.d (.int .u64 0))] 0 r12)) fun r13 =>
      (SV.noRef (demote r13)) = true ∧
      (K (demote r13)))
      (bindO (partV true 4 0 r0) fun r14 =>
      bindO (cellsV (demote (demote r14))) fun r15 =>
      (List.length r15) = 4 ∧
      4 ≤ 4 ∧
      bindO (partV true 4 0 (setAt [(.d (.int .u64 0)), (.d (.int .u64 0)), (.d (.int .u64 0)), (.d (.int .u64 0))] 0 r15)) fun r16 =>
      (SV.noRef (demote r16)) = true ∧
      (K (demote r16))))
    (bindO (partV true 4 0 r0) fun r17 =>
    bindO (cellsV (demote (demote r17))) fun r18 =>
    (List.length r18) = 4 ∧
    4 ≤ 4 ∧
    bindO (partV true 4 0 (setAt [(.d (.int .u64 0)), (.d (.int .u64 0)), (.d (.int .u64 0)), (.d (.int .u64 0))] 0 r18)) fun r19 =>
    (SV.noRef (demote r19)) = true ∧
    (K (demote r19))))) := by kernel_rfl

theorem body26 (C : Con) (x0 x1 : SV) (K : SV → Prop) : body Go.Proofs.Tryd.prog gl C h26 26 [x0, x1] K = (
  wfP [x0, x1] (
  bindO (cellsV (demote x0)) fun r0 =>
  (List.length r0) = 4 ∧
  bindO (cellsV (demote x1)) fun r1 =>
  (List.length r1) = 4 ∧
  loopP (fun vs2 bs3 I4 =>
    bindO (binV none .lss (demote (vget vs2 0)) (.d (.int .i64 4))) fun r5 =>
    ifP r5
      (bindO (indexOk (demote (demote (demote (demote (vget vs2 0))))) 4) fun r6 =>
      bindO (partV false 1 (0 + (r6 * 1)) (bget bs3 0)) fun r7 =>
      bindO (indexOk (demote (demote (demote (demote (vget vs2 0))))) 4) fun r8 =>
      bindO (partV false 1 (0 + (r8 * 1)) (bget bs3 1)) fun r9 =>
      bindO (binV none .or (demote (demote r7)) (demote (demote r9))) fun r10 =>
      bindO (indexOk (demote (demote (demote (demote (vget vs2 0))))) 4) fun r11 =>
      bindO (cellsV (demote r10)) fun r12 =>
      (List.length r12) = 1 ∧
      ((0 + (r11 * 1)) + 1) ≤ (List.length (bget bs3 0)) ∧
      bindO (binV none .add (demote (vget vs2 0)) (.d (.int .i64 1))) fun r13 =>
      (I4 [(demote r13)] [(Box.vals (Box.cells (setAt (bget bs3 0) (0 + (r11 * 1)) r12))), (Box.vals (Box.cells (bget bs3 1))), (Box.vals (Box.cells (bget bs3 2)))]))
      (bindO (partV true 4 0 (bget bs3 0)) fun r14 =>
      bindO (cellsV (demote (demote r14))) fun r15 =>
      (List.length r15) = 4 ∧
      4 ≤ (List.length (bget bs3 2)) ∧
      bindO (partV true 4 0 (setAt (bget bs3 2) 0 r15)) fun r16 =>
      (SV.noRef (demote r16)) = true ∧
      (K (demote r16))))
  [(.d (.int .i64 0))] [(Box.vals (Box.cells r0)), (Box.vals (Box.cells r1)), [(.d (.int .u64 0)), (.d (.int .u64 0)), (.d (.int .u64 0)), (.d (.int .u64 0))]])) := by kernel_rfl

theorem body27 (C : Con) (x0 x1 : SV) (K : SV → Prop) : body Go.Proofs.Tryd.prog gl C h27 27 [x0, x1] K = (
  wfP [x0, x1] (
  bindO (cellsV (demote x0)) fun r0 =>
  (List.length r0) = 4 ∧
  bindO (cellsV (demote x1)) fun r1 =>
  (List.length r1) = 4 ∧
  loopP (fun vs2 bs3 I4 =>
    bindO (binV none .lss (demote (demote (vget vs2 0))) (.d (.int .i64 4))) fun r5 =>
    ifP r5
      (bindO (indexOk (demote (demote (vget vs2 0))) 4) fun r6 =>
      bindO (partV false 1 (0 + (r6 * 1)) (bget bs3 0)) fun r7 =>
      bindO (indexOk (demote (demote (vget vs2 0))) 4) fun r8 =>
      bindO (partV false 1 (0 + (r8 * 1)) (bget bs3 1)) fun r9 =>
      bindO (binV none .or (demote (demote r7)) (demote (demote r9))) fun r10 =>
      bindO (indexOk (demote (demote (vget vs2 0))) 4) fun r11 =>
      bindO (cellsV (demote r10)) fun r12 =>
      (List.length r12) = 1 ∧
      ((0 + (r11 * 1)) + 1) ≤ (List.length (bget bs3 0)) ∧
      bindO (binV none .add (demote (demote (vget vs2 0))) (.d (.int .i64 1))) fun r13 =>
      (I4 [(demote r13)] [(Box.vals (Box.cells (setAt (bget bs3 0) (0 + (r11 * 1)) r12))), (Box.vals (Box.cells (bget bs3 1))), (Box.vals (Box.cells (bget bs3 2)))]))
      (bindO (partV true 4 0 (bget bs3 0)) fun r14 =>
      bindO (cellsV (demote (demote r14))) fun r15 =>
      (List.length r15) = 4 ∧
      4 ≤ (List.length (bget bs3 2)) ∧
      bindO (partV true 4 0 (setAt (bget bs3 2) 0 r15)) fun r16 =>
      (SV.noRef (demote r16)) = true ∧
      (K (demote r16))))
  [(.d (.int .i64 0))] [(Box.vals (Box.cells r0)), (Box.vals (Box.cells r1)), [(.d (.int .u64 0)), (.d (.int .u64 0)), (.d (.int .u64 0)), (.d (.int .u64 0))]])) := by kernel_rfl

theorem body28 (C : Con) (x0 x1 : SV) (K : SV → Prop) : body Go.Proofs.Tryd.prog gl C h28 28 [x0, x1] K = (
  wfP [x0, x1] (
  bindO (cellsV (demote x0)) fun r0 =>
  (List.length r0) = 4 ∧
  bindO (cellsV (demote x1)) fun r1 =>
  (List.length r1) = 4 ∧
  loopP (fun vs2 bs3 I4 =>
    bindO (binV none .lss (demote (vget vs2 0)) (.d (.int .i64 4))) fun r5 =>
    ifP r5
      (bindO (indexOk (demote (demote (demote (demote (vget vs2 0))))) 4) fun r6 =>
      bindO (partV false 1 (0 + (r6 * 1)) (bget bs3 0)) fun r7 =>
      bindO (indexOk (demote (demote (demote (demote (vget vs2 0))))) 4) fun r8 =>
      bindO (partV false 1 (0 + (r8 * 1)) (bget bs3 1)) fun r9 =>
      bindO (binV none .and (demote (demote r7)) (demote (demote r9))) fun r10 =>
      bindO (indexOk (demote (demote (demote (demote (vget vs2 0))))) 4) fun r11 =>
      bindO (cellsV (demote r10)) fun r12 =>
      (List.length r12) = 1 ∧
      ((0 + (r11 * 1)) + 1) ≤ (List.length (bget bs3 0)) ∧
      bindO (binV none .add (demote (vget vs2 0)) (.d (.int .i64 1))) fun r13 =>
      (I4 [(demote r13)] [(Box.vals (Box.cells (setAt (bget bs3 0) (0 + (r11 * 1)) r12))), (Box.vals (Box.cells (bget bs3 1))), (Box.vals (Box.cells (bget bs3 2)))]))
      (bindO (partV true 4 0 (bget bs3 0)) fun r14 =>
      bindO (cellsV (demote (demote r14))) fun r15 =>
      (List.length r15) = 4 ∧
      4 ≤ (List.length (bget bs3 2)) ∧
      bindO (partV true 4 0 (setAt (bget bs3 2) 0 r15)) fun r16 =>
      (SV.noRef (demote r16)) = true ∧
      (K (demote r16))))
  [(.d (.int .i64 0))] [(Box.vals (Box.cells r0)), (Box.vals (Box.cells r1)), [(.d (.int .u64 0)), (.d (.int .u64 0)), (.d (.int .u64 0)), (.d (.int .u64 0))]])) := by kernel_rfl

theorem body29 (C : Con) (x0 x1 : SV) (K : SV → Prop) : body Go.Proofs.Tryd.prog gl C h29 29 [x0, x1] K = (
  wfP [x0, x1] (
  bindO (cellsV (demote x0)) fun r0 =>
  (List.length r0) = 4 ∧
  bindO (cellsV (demote x1)) fun r1 =>
  (List.length r1) = 4 ∧
  loopP (fun vs2 bs3 I4 =>
    bindO (binV none .lss (demote (demote (vget vs2 0))) (.d (.int .i64 4))) fun r5 =>
    ifP r5
      (bindO (indexOk (demote (demote (vget vs2 0))) 4) fun r6 =>
      bindO (partV false 1 (0 + (r6 * 1)) (bget bs3 0)) fun r7 =>
      bindO (indexOk (demote (demote (vget vs2 0))) 4) fun r8 =>
      bindO (partV false 1 (0 + (r8 * 1)) (bget bs3 1)) fun r9 =>
      bindO (binV none .and (demote (demote r7)) (demote (demote r9))) fun r10 =>
      bindO (indexOk (demote (demote (vget vs2 0))) 4) fun r11 =>
      bindO (cellsV (demote r10)) fun r12 =>
      (List.length r12) = 1 ∧
      ((0 + (r11 * 1)) + 1) ≤ (List.length (bget bs3 0)) ∧
      bindO (binV none .add (demote (demote (vget vs2 0))) (.d (.int .i64 1))) fun r13 =>
      (I4 [(demote r13)] [(Box.vals (Box.cells (setAt (bget bs3 0) (0 + (r11 * 1)) r12))), (Box.vals (Box.cells (bget bs3 1))), (Box.vals (Box.cells (bget bs3 2)))]))
      (bindO (partV true 4 0 (bget bs3 0)) fun r14 =>
      bindO (cellsV (demote (demote r14))) fun r15 =>
      (List.length r15) = 4 ∧
      4 ≤ (List.length (bget bs3 2)) ∧
      bindO (partV true 4 0 (setAt (bget bs3 2) 0 r15)) fun r16 =>
      (SV.noRef (demote r16)) = true ∧
      (K (demote r16))))
  [(.d (.int .i64 0))] [(Box.vals (Box.cells r0)), (Box.vals (Box.cells r1)), [(.d (.int .u64 0)), (.d (.int .u64 0)), (.d (.int .u64 0)), (.d (.int .u64 0))]])) := by kernel_rfl

theorem body30 (C : Con) (x0 x1 : SV) (K : SV → Prop) : body Go.Proofs.Tryd.prog gl C h30 30 [x0, x1] K = (
  wfP [x0, x1] (
  bindO (cellsV (demote x0)) fun r0 =>
  (List.length r0) = 4 ∧
  bindO (cellsV (demote x1)) fun r1 =>
  (List.length r1) = 4 ∧
  loopP (fun vs2 bs3 I4 =>
    bindO (binV none .lss (demote (vget vs2 0)) (.d (.int .i64 4))) fun r5 =>
    ifP r5
      (bindO (indexOk (demote (demote (demote (demote (vget vs2 0))))) 4) fun r6 =>
      bindO (partV false 1 (0 + (r6 * 1)) (bget bs3 0)) fun r7 =>
      bindO (indexOk (demote (demote (demote (demote (vget vs2 0))))) 4) fun r8 =>
      bindO (partV false 1 (0 + (r8 * 1)) (bget bs3 1)) fun r9 =>
      bindO (binV none .andNot (demote (demote r7)) (demote (demote r9))) fun r10 =>
      bindO (indexOk (demote (demote (demote (demote (vget vs2 0))))) 4) fun r11 =>
      bindO (cellsV (demote r10)) fun r12 =>
      (List.length r12) = 1 ∧
      ((0 + (r11 * 1)) + 1) ≤ (List.length (bget bs3 0)) ∧
      bindO (binV none .add (demote (vget vs2 0)) (.d (.int .i64 1))) fun r13 =>
      (I4 [(demote r13)] [(Box.vals (Box.cells (setAt (bget bs3 0) (0 + (r11 * 1)) r12))), (Box.vals (Box.cells (bget bs3 1))), (Box.vals (Box.cells (bget bs3 2)))]))
      (bindO (partV true 4 0 (bget bs3 0)) fun r14 =>
      bindO (cellsV (demote (demote r14))) fun r15 =>
      (List.length r15) = 4 ∧
      4 ≤ (List.length (bget bs3 2)) ∧
      bindO (partV true 4 0 (setAt (bget bs3 2) 0 r15)) fun r16 =>
      (SV.noRef (demote r16)) = true ∧
      (K (demote r16))))
  [(.d (.int .i64 0))] [(Box.vals (Box.cells r0)), (Box.vals (Box.cells r1)), [(.d (.int .u64 0)), (.d (.int .u64 0)), (.d (.int .u64 0)), (.d (.int .u64 0))]])) := by kernel_rfl

theorem body31 (C : Con) (x0 x1 : SV) (K : SV → Prop) : body Go.Proofs.Tryd.prog gl C h31 31 [x0, x1] K = (
  wfP [x0, x1] (
  bindO (cellsV (demote x0)) fun r0 =>
  (List.length r0) = 4 ∧
  bindO (cellsV (demote x1)) fun r1 =>
  (List.length r1) = 4 ∧
  loopP (fun vs2 bs3 I4 =>
    bindO (binV none .lss (demote (demote (vget vs2 0))) (.d (.int .i64 4))) fun r5 =>
    ifP r5
      (bindO (indexOk (demote (demote (vget vs2 0))) 4) fun r6 =>
      bindO (partV false 1 (0 + (r6 * 1)) (bget bs3 0)) fun r7 =>
      bindO (indexOk (demote (demote (vget vs2 0))) 4) fun r8 =>
      bindO (partV false 1 (0 + (r8 * 1)) (bget bs3 1)) fun r9 =>
      bindO (binV none .andNot (demote (demote r7)) (demote (demote r9))) fun r10 =>
      bindO (indexOk (demote (demote (vget vs2 0))) 4) fun r11 =>
      bindO (cellsV (demote r10)) fun r12 =>
      (List.length r12) = 1 ∧
      ((0 + (r11 * 1)) + 1) ≤ (List.length (bget bs3 0)) ∧
      bindO (binV none .add (demote (demote (vget vs2 0))) (.d (.int .i64 1))) fun r13 =>
      (I4 [(demote r13)] [(Box.vals (Box.cells (setAt (bget bs3 0) (0 + (r11 * 1)) r12))), (Box.vals (Box.cells (bget bs3 1))), (Box.vals (Box.cells (bget bs3 2)))]))
      (bindO (partV true 4 0 (bget bs3 0)) fun r14 =>
      bindO (cellsV (demote (demote r14))) fun r15 =>
      (List.length r15) = 4 ∧
      4 ≤ (List.length (bget bs3 2)) ∧
      bindO (partV true 4 0 (setAt (bget bs3 2) 0 r15)) fun r16 =>
      (SV.noRef (demote r16)) = true ∧
      (K (demote r16))))
  [(.d (.int .i64 0))] [(Box.vals (Box.cells r0)), (Box.vals (Box.cells r1)), [(.d (.int .u64 0)), (.d (.int .u64 0)), (.d (.int .u64 0)), (.d (.int .u64 0))]])) := by kernel_rfl

theorem body32 (C : Con) (x0 x1 : SV) (K : SV → Prop) : body Go.Proofs.Tryd.prog gl C h32 32 [x0, x1] K = (
  wfP [x0, x1] (
  bindO (cellsV (demote x0)) fun r0 =>
  (List.length r0) = 4 ∧
  bindO (cellsV (demote x1)) fun r1 =>
  (List.length r1) = 4 ∧
  bindO (partV true 4 0 r0) fun r2 =>
  bindO (partV true 4 0 r1) fun r3 =>
  callP C 28 [(demote (demote (demote r2))), (demote (demote (demote r3)))] fun r4 =>
  bindO (partV true 4 0 r0) fun r5 =>
  bindO (binV (some (true, [.int, .int, .int, .int])) .eql (demote r4) (demote (demote r5))) fun r6 =>
  (SV.noRef (demote r6)) = true ∧
  (K (demote r6)))) := by kernel_rfl

theorem body33 (C : Con) (x0 x1 : SV) (K : SV → Prop) : body Go.Proofs.Tryd.prog gl C h33 33 [x0, x1] K = (
  wfP [x0, x1] (
  bindO (cellsV (demote x0)) fun r0 =>
  (List.length r0) = 4 ∧
  bindO (cellsV (demote x1)) fun r1 =>
  (List.length r1) = 4 ∧
  bindO (partV true 4 0 r0) fun r2 =>
  bindO (partV true 4 0 r1) fun r3 =>
  callP C 31 [(demote (demote (demote r2))), (demote (demote (demote r3)))] fun r4 =>
  bindO (partsS []) fun r5 =>
  bindO (buildD Proofs.Tryd.prog 24 r5) fun r6 =>
  bindO (binV (some (true, [.int, .int, .int, .int])) .eql (demote r4) (.d r6)) fun r7 =>
  (SV.noRef (demote r7)) = true ∧
  (K (demote r7)))) := by kernel_rfl

theorem body34 (C : Con) (x0 : SV) (K : SV → Prop) : body Go.Proofs.Tryd.prog gl C h34 34 [x0] K = (
  wfP [x0] (
  bindO (binV none .shr (demote (demote x0)) (.d (.int .u64 1))) fun r0 =>
  bindO (binV none .and (demote r0) (.d (.int .u64 6148914691236517205))) fun r1 =>
  bindO (binV none .and (demote (demote x0)) (.d (.int .u64 6148914691236517205))) fun r2 =>
  bindO (binV none .add (demote r1) (demote r2)) fun r3 =>
  bindO (binV none .shr (demote (demote (demote r3))) (.d (.int .u64 2))) fun r4 =>
  bindO (binV none .and (demote r4) (.d (.int .u64 3689348814741910323))) fun r5 =>
  bindO (binV none .and (demote (demote (demote r3))) (.d (.int .u64 3689348814741910323))) fun r6 =>
  bindO (binV none .add (demote r5) (demote r6)) fun r7 =>
  bindO (binV none .shr (demote (demote (demote r7))) (.d (.int .u64 4))) fun r8 =>
  bindO (binV none .add (demote r8) (demote (demote (demote r7)))) fun r9 =>
  bindO (binV none .and (demote r9) (.d (.int .u64 1085102592571150095))) fun r10 =>
  bindO (binV none .shr (demote (demote (demote r10))) (.d (.int .u64 8))) fun r11 =>
  bindO (binV none .add (demote (demote (demote r10))) (demote r11)) fun r12 =>
  bindO (binV none .shr (demote (demote (demote r12))) (.d (.int .u64 16))) fun r13 =>
  bindO (binV none .add (demote (demote (demote r12))) (demote r13)) fun r14 =>
  bindO (binV none .shr (demote (demote (demote r14))) (.d (.int .u64 32))) fun r15 =>
  bindO (binV none .add (demote (demote (demote r14))) (demote r15)) fun r16 =>
  bindO (convI .i64 (demote (demote (demote r16)))) fun r17 =>
  bindO (binV none .and (demote r17) (.d (.int .i64 127))) fun r18 =>
  (SV.noRef (demote r18)) = true ∧
  (K (demote r18)))) := by kernel_rfl

theorem body35 (C : Con) (x0 : SV) (K : SV → Prop) : body Go.Proofs.Tryd.prog gl C h35 35 [x0] K = (
  wfP [x0] (
  bindO (binV (some (false, [.int])) .eql (demote (demote x0)) (.d (.int .u64 0))) fun r0 =>
  ifP r0
    ((SV.noRef (.d (.int .i64 64))) = true ∧
    (K (.d (.int .i64 64))))
    (bindO (unV .neg (demote (demote x0))) fun r1 =>
    bindO (binV none .and (demote (demote x0)) (demote r1)) fun r2 =>
    bindO (binV none .mul (demote r2) (.d (.int .u64 285870213051353865))) fun r3 =>
    bindO (binV none .shr (demote r3) (.d (.int .u64 58))) fun r4 =>
    bindO (indexOk (demote r4) 64) fun r5 =>
    bindO (addOffV (.dptr tab64 0) (r5 * 1)) fun r6 =>
    bindO (loadV false 1 (demote r6)) fun r7 =>
    bindO (convI .i64 (demote r7)) fun r8 =>
    (SV.noRef (demote r8)) = true ∧
    (K (demote r8))))) := by kernel_rfl

theorem body36 (C : Con) (x0 : SV) (K : SV → Prop) : body Go.Proofs.Tryd.prog gl C h36 36 [x0] K = (
  wfP [x0] (
  bindO (binV none .geq (demote (demote x0)) (.d (.int .i64 0))) fun r0 =>
  ifP (demote r0)
    (bindO (binV none .lss (demote (demote x0)) (.d (.int .i64 256))) fun r1 =>
    (SV.noRef (demote (demote r1))) = true ∧
    (K (demote (demote r1))))
    ((SV.noRef (.d (.bool false))) = true ∧
    (K (.d (.bool false)))))) := by kernel_rfl

theorem body37 (C : Con) (x0 : SV) (K : SV → Prop) : body Go.Proofs.Tryd.prog gl C h37 37 [x0] K = (
  wfP [x0] (
  bindO (binV none .rem (demote (demote x0)) (.d (.int .i64 64))) fun r0 =>
  bindO (binV none .shl (.d (.int .u64 1)) (demote r0)) fun r1 =>
  (SV.noRef (demote r1)) = true ∧
  (K (demote r1)))) := by kernel_rfl

end Go.Proofs.YtofghbnaofcpdaaDoor.Ab
