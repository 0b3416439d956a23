/-
  Steps towards the claim of this seat (B9).
-/
import Derived.Test.YtfeepndphaboeaaAb23
import Derived.Test.YtfeepndphaboeaaProg
import Derived.KernelRfl
set_option linter.unusedVariables false
set_option linter.unusedSimpArgs false
namespace Go.Proofs.Ytfeepndphaboeaa.Ab
open Go
def h3 : Hints := ⟨[], []⟩
def h4 : Hints := ⟨[], []⟩
def h5 : Hints := ⟨[(7, 0), (7, 7), (7, 8)], [(5, [1, 5, 30, 31], [2, 7, 9, 11, 13])]⟩
def h6 : Hints := ⟨[(11, 0), (11, 8), (11, 9)], [(7, [1, 8, 9, 35, 36], [3, 5, 7, 13, 15, 26, 29, 33, 71, 74, 81, 87, 91, 95, 133])]⟩
def h7 : Hints := ⟨[(12, 1), (12, 17), (12, 19), (17, 1), (17, 17), (17, 19), (29, 3), (29, 6)], [(10, [6, 9, 48, 49], [2, 3, 5, 7, 8, 10, 13, 15, 16, 17, 19, 33, 36, 44, 45, 46, 72, 78, 80, 82, 90, 96, 125, 142, 144, 147, 150, 158]), (15, [6, 9, 74, 75], [2, 3, 5, 7, 8, 10, 13, 15, 16, 17, 19, 33, 36, 44, 45, 46, 52, 54, 56, 64, 70, 72, 125, 142, 144, 147, 150, 158])]⟩
def h8 : Hints := ⟨[], [(4, [30, 31], [2, 3, 6, 11, 17, 23, 28])]⟩
def h9 : Hints := ⟨[], []⟩
def h10 : Hints := ⟨[], [(2, [0, 9, 10, 11], [3, 8])]⟩
def h11 : Hints := ⟨[], [(2, [0, 6], [3])]⟩
def h12 : Hints := ⟨[], [(2, [0, 9, 10, 11], [3, 4, 8])]⟩
def h13 : Hints := ⟨[], [(2, [0, 6], [3, 4])]⟩
def h14 : Hints := ⟨[], []⟩
def h15 : Hints := ⟨[], []⟩
def h16 : Hints := ⟨[], []⟩
def h17 : Hints := ⟨[], []⟩
def h18 : Hints := ⟨[(5, 0), (5, 4), (5, 5)], [(3, [6, 11, 12, 13], [2, 4, 9])]⟩
def h19 : Hints := ⟨[(5, 0), (5, 7), (5, 8)], [(3, [1, 6, 7], [2, 4, 8])]⟩
def h20 : Hints := ⟨[], []⟩
def h21 : Hints := ⟨[], []⟩
def h22 : Hints := ⟨[(6, 1), (6, 5), (6, 7)], [(3, [8, 9, 10], [2, 4, 5])]⟩
def h23 : Hints := ⟨[(6, 0), (6, 3), (6, 4), (8, 0), (8, 1)], [(3, [0, 5, 9, 10, 11], [3, 8])]⟩
def h24 : Hints := ⟨[], [(4, [0, 1, 5], [])]⟩
def h25 : Hints := ⟨[(6, 1), (6, 8), (6, 10)], [(3, [1, 6], [2, 4, 5])]⟩
def h26 : Hints := ⟨[(6, 0), (6, 7), (6, 8), (7, 0), (7, 1)], [(3, [0, 5, 6], [3])]⟩
def h27 : Hints := ⟨[], [(3, [0, 4], [2, 3])]⟩
def h28 : Hints := ⟨[], [(2, [5], [2, 3, 4])]⟩
def h29 : Hints := ⟨[], [(2, [5], [2, 3, 4])]⟩
def h30 : Hints := ⟨[], []⟩
def h31 : Hints := ⟨[], []⟩
def h32 : Hints := ⟨[], [(3, [0, 4], [2, 3])]⟩
def h33 : Hints := ⟨[], []⟩
def h34 : Hints := ⟨[], [(2, [0, 1, 5], [])]⟩
def h35 : Hints := ⟨[], [(2, [6], [2, 3, 4])]⟩
def h36 : Hints := ⟨[], [(3, [7, 8], [2, 3])]⟩
def h37 : Hints := ⟨[], [(5, [2, 21, 22, 23], [3, 4, 6, 8, 15, 17, 20, 40, 60]), (13, [2, 41, 42, 43], [3, 4, 6, 8, 11, 17, 20, 40, 60])]⟩
def h38 : Hints := ⟨[], []⟩
def h39 : Hints := ⟨[], [(3, [6, 7, 8], [2, 3])]⟩
def h40 : Hints := ⟨[], [(3, [0, 7], [3, 4, 6])]⟩
def h41 : Hints := ⟨[], []⟩
def h42 : Hints := ⟨[], []⟩
def h43 : Hints := ⟨[], []⟩
def h44 : Hints := ⟨[], []⟩
def h45 : Hints := ⟨[], []⟩
def h46 : Hints := ⟨[], []⟩
def h47 : Hints := ⟨[], [(2, [0, 1, 7, 8], [])]⟩
def h48 : Hints := ⟨[], []⟩
def h49 : Hints := ⟨[], [(2, [6], [2, 3, 4])]⟩
def h50 : Hints := ⟨[], [(2, [6], [2, 3, 4])]⟩
def h51 : Hints := ⟨[], []⟩
def h52 : Hints := ⟨[], [(2, [5], [2, 3, 4])]⟩
def h53 : Hints := ⟨[], []⟩
def h54 : Hints := ⟨[], [(3, [0, 1, 2, 9], [6, 8])]⟩
def h55 : Hints := ⟨[], []⟩
def h56 : Hints := ⟨[], []⟩
def gl : Nat → Option D := fun _ => none
theorem body3 (C : Con) (x0 x1 : SV) (K : SV → Prop) : body Go.Proofs.Try.prog gl C h3 3 [x0, x1] K = (
  wfP [x0, x1] (
  bindO (cellsV (demote x1)) fun r0 =>
  (List.length r0) = 2 ∧
  bindO (partsS []) fun r1 =>
  bindO (buildD Proofs.Try.prog 29 r1) fun r2 =>
  bindO (partV true 2 0 r0) fun r3 =>
  callP C 8 [(.d r2), (demote (demote (demote r3)))] fun r4 =>
  bindO (unV .not (demote r4)) fun r5 =>
  ifP r5
    (callP C 9 [] fun r6 =>
    (SV.noRef (demote r6)) = true ∧
    (K (demote r6)))
    (bindO (partV true 2 0 r0) fun r7 =>
    ∃ r8,
    ∃ r9,
    (C 10 [(demote (demote (demote x0))), (demote (demote (demote r7)))] (.tup [r8, r9])) ∧
    bindO (partV true 2 0 r0) fun r10 =>
    ∃ r11,
    ∃ r12,
    (C 11 [(demote (demote (demote x0))), (demote (demote (demote r10)))] (.tup [r11, r12])) ∧
    bindO (partV true 2 0 r0) fun r13 =>
    ∃ r14,
    ∃ r15,
    (C 12 [(demote (demote (demote x0))), (demote (demote (demote r13)))] (.tup [r14, r15])) ∧
    bindO (cellsV (demote (demote (demote r14)))) fun r16 =>
    (List.length r16) = 4 ∧
    4 ≤ 4 ∧
    bindO (partV true 2 0 r0) fun r17 =>
    ∃ r18,
    ∃ r19,
    (C 13 [(demote (demote (demote x0))), (demote (demote (demote r17)))] (.tup [r18, r19])) ∧
    bindO (cellsV (demote (demote (demote r18)))) fun r20 =>
    (List.length r20) = 4 ∧
    4 ≤ 4 ∧
    bindO (binV (some (false, [.int])) .eql (demote (demote (demote (demote (demote r8))))) (demote (demote (demote (demote (demote r11)))))) fun r21 =>
    ifP (demote r21)
      (bindO (binV (some (false, [.bool])) .eql (demote (demote (demote (demote (demote r9))))) (demote (demote (demote (demote (demote r12)))))) fun r22 =>
      ifP (demote (demote r22))
        (bindO (partV true 4 0 (setAt [(.d (.int .u64 0)), (.d (.int .u64 0)), (.d (.int .u64 0)), (.d (.int .u64 0))] 0 r16)) fun r23 =>
        bindO (partV true 4 0 (setAt [(.d (.int .u64 0)), (.d (.int .u64 0)), (.d (.int .u64 0)), (.d (.int .u64 0))] 0 r20)) fun r24 =>
        bindO (binV (some (true, [.int, .int, .int, .int])) .eql (demote (demote r23)) (demote (demote r24))) fun r25 =>
        ifP (demote (demote r25))
          (bindO (binV (some (false, [.bool])) .eql (demote (demote (demote (demote (demote r15))))) (demote (demote (demote (demote (demote r19)))))) fun r26 =>
          ifP (demote (demote r26))
            (callP C 9 [] fun r27 =>
            (SV.noRef (demote (demote r27))) = true ∧
            (K (demote (demote r27))))
            ((SV.noRef (.d (.bool false))) = true ∧
            (K (.d (.bool false)))))
          ((SV.noRef (.d (.bool false))) = true ∧
          (K (.d (.bool false)))))
        ((SV.noRef (.d (.bool false))) = true ∧
        (K (.d (.bool false)))))
      ((SV.noRef (.d (.bool false))) = true ∧
      (K (.d (.bool false))))))) := by kernel_rfl

theorem body4 (C : Con) (x0 x1 : SV) (K : SV → Prop) : body Go.Proofs.Try.prog gl C h4 4 [x0, x1] K = (
  wfP [x0, x1] (
  bindO (cellsV (demote x0)) fun r0 =>
  (List.length r0) = 5 ∧
  bindO (cellsV (demote x1)) fun r1 =>
  (List.length r1) = 2 ∧
  bindO (partV true 5 0 r0) fun r2 =>
  bindO (partV true 2 0 r1) fun r3 =>
  callP C 8 [(demote (demote (demote r2))), (demote (demote (demote r3)))] fun r4 =>
  bindO (unV .not (demote r4)) fun r5 =>
  ifP r5
    (callP C 9 [] fun r6 =>
    (SV.noRef (demote r6)) = true ∧
    (K (demote r6)))
    (bindO (partV true 5 0 r0) fun r7 =>
    bindO (partV true 2 0 r1) fun r8 =>
    ∃ r9,
    ∃ r10,
    (C 14 [(demote (demote (demote r7))), (demote (demote (demote r8)))] (.tup [r9, r10])) ∧
    bindO (cellsV (demote (demote (demote r9)))) fun r11 =>
    (List.length r11) = 4 ∧
    4 ≤ 4 ∧
    bindO (partV true 5 0 r0) fun r12 =>
    bindO (partV true 2 0 r1) fun r13 =>
    ∃ r14,
    ∃ r15,
    (C 15 [(demote (demote (demote r12))), (demote (demote (demote r13)))] (.tup [r14, r15])) ∧
    bindO (cellsV (demote (demote (demote r14)))) fun r16 =>
    (List.length r16) = 4 ∧
    4 ≤ 4 ∧
    bindO (partV true 4 0 (setAt [(.d (.int .u64 0)), (.d (.int .u64 0)), (.d (.int .u64 0)), (.d (.int .u64 0))] 0 r11)) fun r17 =>
    bindO (partV true 4 0 (setAt [(.d (.int .u64 0)), (.d (.int .u64 0)), (.d (.int .u64 0)), (.d (.int .u64 0))] 0 r16)) fun r18 =>
    bindO (binV (some (true, [.int, .int, .int, .int])) .eql (demote (demote r17)) (demote (demote r18))) fun r19 =>
    ifP (demote r19)
      (bindO (binV (some (false, [.int])) .eql (demote (demote (demote (demote (demote r10))))) (demote (demote (demote (demote (demote r15)))))) fun r20 =>
      ifP (demote (demote r20))
        (callP C 9 [] fun r21 =>
        (SV.noRef (demote (demote r21))) = true ∧
        (K (demote (demote r21))))
        ((SV.noRef (.d (.bool false))) = true ∧
        (K (.d (.bool false)))))
      ((SV.noRef (.d (.bool false))) = true ∧
      (K (.d (.bool false))))))) := by kernel_rfl

theorem body5 (C : Con) (x0 x1 : SV) (K : SV → Prop) : body Go.Proofs.Try.prog gl C h5 5 [x0, x1] K = (
  wfP [x0, x1] (
  bindO (cellsV (demote x0)) fun r0 =>
  (List.length r0) = 5 ∧
  bindO (partV true 5 0 r0) fun r1 =>
  bindO (partsS []) fun r2 =>
  bindO (buildD Proofs.Try.prog 25 r2) fun r3 =>
  callP C 8 [(demote (demote (demote r1))), (.d r3)] fun r4 =>
  bindO (unV .not (demote r4)) fun r5 =>
  ifP (demote r5)
    (callP C 9 [] fun r6 =>
    (SV.noRef (demote r6)) = true ∧
    (K (demote r6)))
    (bindO (lenL (demote (demote x1))) fun r7 =>
    bindO (binV none .gtr (demote r7) (.d (.int .i64 300))) fun r8 =>
    ifP (demote r8)
      (callP C 9 [] fun r9 =>
      (SV.noRef (demote r9)) = true ∧
      (K (demote r9)))
      (bindO (lenL (demote (demote x1))) fun r10 =>
      loopP (fun vs11 bs12 I13 =>
        bindO (binV none .lss (demote (vget vs11 3)) (demote (vget vs11 2))) fun r14 =>
        ifP r14
          (bindO (elemPtr 1 (demote (demote (vget vs11 0))) (demote (demote (demote (demote (vget vs11 3)))))) fun r15 =>
          bindO (loadV false 1 (demote r15)) fun r16 =>
          bindO (partsS [(0, (.v (demote r16)))]) fun r17 =>
          bindO (buildD Proofs.Try.prog 44 r17) fun r18 =>
          bindO (partsS [(0, (.v (.d r18)))]) fun r19 =>
          (partsFit 2 1 r19) = true ∧
          appP 2 40 (vget vs11 1) (.full 2 (buildElems (mkElem true [(.str []), (.sl .nil 0 [])]) r19 1 0)) fun r20 =>
          bindO (binV none .add (demote (vget vs11 3)) (.d (.int .i64 1))) fun r21 =>
          (I13 [(vget vs11 0), r20, (vget vs11 2), (demote r21)] [(Box.vals (Box.cells (bget bs12 0)))]))
          (bindO (partV true 5 0 (bget bs12 0)) fun r22 =>
          ∃ r23,
          ∃ r24,
          (C 16 [(demote (demote (demote r22))), (demote (demote (demote (vget vs11 0))))] (.tup [r23, r24])) ∧
          bindO (cellsV (demote (demote (demote r23)))) fun r25 =>
          (List.length r25) = 4 ∧
          4 ≤ 4 ∧
          bindO (partV true 5 0 (bget bs12 0)) fun r26 =>
          ∃ r27,
          ∃ r28,
          (C 17 [(demote (demote (demote r26))), (demote (demote (demote (vget vs11 0))))] (.tup [r27, r28])) ∧
          bindO (cellsV (demote (demote (demote r27)))) fun r29 =>
          (List.length r29) = 4 ∧
          4 ≤ 4 ∧
          bindO (partV true 5 0 (bget bs12 0)) fun r30 =>
          ∃ r31,
          ∃ r32,
          (C 18 [(demote (demote (demote r30))), (demote (demote (demote (vget vs11 1))))] (.tup [r31, r32])) ∧
          bindO (cellsV (demote (demote (demote r31)))) fun r33 =>
          (List.length r33) = 4 ∧
          4 ≤ 4 ∧
          bindO (partV true 5 0 (bget bs12 0)) fun r34 =>
          ∃ r35,
          ∃ r36,
          (C 19 [(demote (demote (demote r34))), (demote (demote (demote (vget vs11 1))))] (.tup [r35, r36])) ∧
          bindO (cellsV (demote (demote (demote r35)))) fun r37 =>
          (List.length r37) = 4 ∧
          4 ≤ 4 ∧
          bindO (partV true 5 0 (bget bs12 0)) fun r38 =>
          bindO (partsS [(1, (.v (demote (demote (vget vs11 0)))))]) fun r39 =>
          bindO (buildD Proofs.Try.prog 44 r39) fun r40 =>
          ∃ r41,
          ∃ r42,
          (C 20 [(demote (demote (demote r38))), (.d r40)] (.tup [r41, r42])) ∧
          bindO (partV true 5 0 (bget bs12 0)) fun r43 =>
          bindO (partsS [(1, (.v (demote (demote (vget vs11 0)))))]) fun r44 =>
          bindO (buildD Proofs.Try.prog 44 r44) fun r45 =>
          ∃ r46,
          ∃ r47,
          (C 21 [(demote (demote (demote r43))), (.d r45)] (.tup [r46, r47])) ∧
          bindO (partV true 4 0 (setAt [(.d (.int .u64 0)), (.d (.int .u64 0)), (.d (.int .u64 0)), (.d (.int .u64 0))] 0 r25)) fun r48 =>
          bindO (partV true 4 0 (setAt [(.d (.int .u64 0)), (.d (.int .u64 0)), (.d (.int .u64 0)), (.d (.int .u64 0))] 0 r29)) fun r49 =>
          bindO (binV (some (true, [.int, .int, .int, .int])) .eql (demote (demote r48)) (demote (demote r49))) fun r50 =>
          ifP (demote r50)
            (bindO (binV (some (false, [.int])) .eql (demote (demote (demote (demote (demote r24))))) (demote (demote (demote (demote (demote r28)))))) fun r51 =>
            ifP (demote (demote r51))
              (bindO (partV true 4 0 (setAt [(.d (.int .u64 0)), (.d (.int .u64 0)), (.d (.int .u64 0)), (.d (.int .u64 0))] 0 r33)) fun r52 =>
              bindO (partV true 4 0 (setAt [(.d (.int .u64 0)), (.d (.int .u64 0)), (.d (.int .u64 0)), (.d (.int .u64 0))] 0 r37)) fun r53 =>
              bindO (binV (some (true, [.int, .int, .int, .int])) .eql (demote (demote r52)) (demote (demote r53))) fun r54 =>
              ifP (demote (demote r54))
                (bindO (binV (some (false, [.int])) .eql (demote (demote (demote (demote (demote r32))))) (demote (demote (demote (demote (demote r36)))))) fun r55 =>
                ifP (demote (demote r55))
                  (bindO (binV (some (false, [.int])) .eql (demote (demote (demote (demote (demote r41))))) (demote (demote (demote (demote (demote r46)))))) fun r56 =>
                  ifP (demote (demote r56))
                    (bindO (binV (some (false, [.int])) .eql (demote (demote (demote (demote (demote r42))))) (demote (demote (demote (demote (demote r47)))))) fun r57 =>
                    ifP (demote (demote r57))
                      (callP C 9 [] fun r58 =>
                      (SV.noRef (demote (demote r58))) = true ∧
                      (K (demote (demote r58))))
                      ((SV.noRef (.d (.bool false))) = true ∧
                      (K (.d (.bool false)))))
                    ((SV.noRef (.d (.bool false))) = true ∧
                    (K (.d (.bool false)))))
                  ((SV.noRef (.d (.bool false))) = true ∧
                  (K (.d (.bool false)))))
                ((SV.noRef (.d (.bool false))) = true ∧
                (K (.d (.bool false)))))
              ((SV.noRef (.d (.bool false))) = true ∧
              (K (.d (.bool false)))))
            ((SV.noRef (.d (.bool false))) = true ∧
            (K (.d (.bool false))))))
      [x1, (.d (.sl .nil 0 [])), r10, (.d (.int .i64 0))] [(Box.vals (Box.cells r0))])))) := by kernel_rfl

theorem body6 (C : Con) (x0 x1 x2 : SV) (K : SV → Prop) : body Go.Proofs.Try.prog gl C h6 6 [x0, x1, x2] K = (
  wfP [x0, x1, x2] (
  bindO (cellsV (demote x0)) fun r0 =>
  (List.length r0) = 4 ∧
  bindO (cellsV (demote x2)) fun r1 =>
  (List.length r1) = 2 ∧
  bindO (partsS []) fun r2 =>
  bindO (buildD Proofs.Try.prog 29 r2) fun r3 =>
  bindO (partV true 2 0 r1) fun r4 =>
  callP C 8 [(.d r3), (demote (demote (demote r4)))] fun r5 =>
  bindO (unV .not (demote r5)) fun r6 =>
  ifP r6
    (callP C 9 [] fun r7 =>
    (SV.noRef (demote r7)) = true ∧
    (K (demote r7)))
    (bindO (partV true 4 0 r0) fun r8 =>
    bindO (partV false 1 0 r1) fun r9 =>
    callP C 22 [(demote (demote (demote r8))), (demote (demote (demote r9)))] fun r10 =>
    bindO (cellsV (demote r10)) fun r11 =>
    (List.length r11) = 5 ∧
    5 ≤ 5 ∧
    bindO (partV false 1 0 r1) fun r12 =>
    bindO (lenL (demote (demote r12))) fun r13 =>
    bindO (binV none .leq (demote r13) (.d (.int .i64 256))) fun r14 =>
    bindO (partV false 1 0 r1) fun r15 =>
    bindO (lenL (demote (demote r15))) fun r16 =>
    loopP (fun vs17 bs18 I19 =>
      bindO (binV none .lss (demote (vget vs17 4)) (demote (vget vs17 3))) fun r20 =>
      ifP r20
        (bindO (partV false 1 0 (bget bs18 1)) fun r21 =>
        bindO (elemPtr 3 (demote (demote r21)) (demote (demote (demote (demote (vget vs17 4)))))) fun r22 =>
        bindO (addOffV (demote r22) 0) fun r23 =>
        bindO (loadV false 1 (demote r23)) fun r24 =>
        bindO (partV true 2 0 (bget bs18 1)) fun r25 =>
        ∃ r26,
        ∃ r27,
        (C 11 [(demote (demote r24)), (demote (demote (demote r25)))] (.tup [r26, r27])) ∧
        ifP (demote (demote (vget vs17 2)))
          (bindO (binV (some (false, [.int])) .eql (demote (demote (demote (demote (demote r26))))) (demote (demote (demote (demote (vget vs17 4)))))) fun r28 =>
          bindO (partV false 1 0 (bget bs18 1)) fun r29 =>
          bindO (elemPtr 3 (demote (demote r29)) (demote (demote (demote (demote (vget vs17 4)))))) fun r30 =>
          bindO (addOffV (demote r30) 0) fun r31 =>
          bindO (loadV false 1 (demote r31)) fun r32 =>
          bindO (partsS [(0, (.v (demote r32)))]) fun r33 =>
          (partsFit 1 1 r33) = true ∧
          appP 1 16 (vget vs17 1) (.full 1 (buildElems (mkElem false [(.str [])]) r33 1 0)) fun r34 =>
          bindO (binV none .add (demote (vget vs17 4)) (.d (.int .i64 1))) fun r35 =>
          (I19 [(vget vs17 0), r34, (demote (demote r28)), (vget vs17 3), (demote r35)] [(Box.vals (Box.cells (bget bs18 0))), (Box.vals (Box.cells (bget bs18 1))), (Box.vals (Box.cells (bget bs18 2)))]))
          (bindO (partV false 1 0 (bget bs18 1)) fun r36 =>
          bindO (elemPtr 3 (demote (demote r36)) (demote (demote (demote (demote (vget vs17 4)))))) fun r37 =>
          bindO (addOffV (demote r37) 0) fun r38 =>
          bindO (loadV false 1 (demote r38)) fun r39 =>
          bindO (partsS [(0, (.v (demote r39)))]) fun r40 =>
          (partsFit 1 1 r40) = true ∧
          appP 1 16 (vget vs17 1) (.full 1 (buildElems (mkElem false [(.str [])]) r40 1 0)) fun r41 =>
          bindO (binV none .add (demote (vget vs17 4)) (.d (.int .i64 1))) fun r42 =>
          (I19 [(vget vs17 0), r41, (.d (.bool false)), (vget vs17 3), (demote r42)] [(Box.vals (Box.cells (bget bs18 0))), (Box.vals (Box.cells (bget bs18 1))), (Box.vals (Box.cells (bget bs18 2)))])))
        (bindO (partsS [(1, (.v (demote (demote (vget vs17 1)))))]) fun r43 =>
        bindO (buildD Proofs.Try.prog 44 r43) fun r44 =>
        bindO (cellsV (.d r44)) fun r45 =>
        (List.length r45) = 2 ∧
        2 ≤ 2 ∧
        bindO (partV true 2 0 (setAt [(.d (.str [])), (.d (.sl .nil 0 []))] 0 r45)) fun r46 =>
        callP C 23 [(demote (demote (demote (vget vs17 0)))), (demote (demote (demote r46)))] fun r47 =>
        bindO (partV false 1 3 (bget bs18 2)) fun r48 =>
        bindO (partV true 4 0 (bget bs18 0)) fun r49 =>
        bindO (partV false 1 0 (bget bs18 1)) fun r50 =>
        callP C 25 [(demote (demote (demote r49))), (demote (demote (demote r50)))] fun r51 =>
        bindO (fieldV false 1 3 (demote r51)) fun r52 =>
        callP C 24 [(demote (demote (demote r48))), (demote (demote r52))] fun r53 =>
        bindO (unV .not (demote r53)) fun r54 =>
        ifP (demote r54)
          ((SV.noRef (.d (.bool false))) = true ∧
          (K (.d (.bool false))))
          (bindO (partV false 1 4 (bget bs18 2)) fun r55 =>
          bindO (lenL (demote (demote r55))) fun r56 =>
          bindO (binV none .gtr (demote r56) (.d (.int .i64 0))) fun r57 =>
          ifP (demote (demote r57))
            ((SV.noRef (.d (.bool false))) = true ∧
            (K (.d (.bool false))))
            (bindO (partV false 1 0 (bget bs18 2)) fun r58 =>
            ifP (demote (demote (demote r58)))
              ((SV.noRef (.d (.bool false))) = true ∧
              (K (.d (.bool false))))
              (bindO (partV false 1 1 (bget bs18 2)) fun r59 =>
              ifP (demote (demote (demote r59)))
                ((SV.noRef (.d (.bool false))) = true ∧
                (K (.d (.bool false))))
                (bindO (partV false 1 2 (bget bs18 2)) fun r60 =>
                ifP (demote (demote (demote r60)))
                  ((SV.noRef (.d (.bool false))) = true ∧
                  (K (.d (.bool false))))
                  (bindO (partV true 2 0 (setAt [(.d (.str [])), (.d (.sl .nil 0 []))] 0 r45)) fun r61 =>
                  callP C 26 [(demote (demote (demote (vget vs17 0)))), (demote (demote (demote r61)))] fun r62 =>
                  callP C 24 [(demote (demote (demote (demote r47)))), (demote (demote r62))] fun r63 =>
                  bindO (unV .not (demote r63)) fun r64 =>
                  ifP (demote r64)
                    ((SV.noRef (.d (.bool false))) = true ∧
                    (K (.d (.bool false))))
                    (bindO (unV .not (demote (demote (vget vs17 2)))) fun r65 =>
                    ifP r65
                      (callP C 9 [] fun r66 =>
                      (SV.noRef (demote r66)) = true ∧
                      (K (demote r66)))
                      (bindO (partV true 5 0 (bget bs18 2)) fun r67 =>
                      bindO (partV true 2 0 (bget bs18 1)) fun r68 =>
                      ∃ r69,
                      ∃ r70,
                      (C 14 [(demote (demote (demote r67))), (demote (demote (demote r68)))] (.tup [r69, r70])) ∧
                      bindO (cellsV (demote (demote (demote r69)))) fun r71 =>
                      (List.length r71) = 4 ∧
                      4 ≤ 4 ∧
                      bindO (partsS [(3, (.v (demote (demote (demote r47)))))]) fun r72 =>
                      bindO (buildD Proofs.Try.prog 29 r72) fun r73 =>
                      bindO (partV true 2 0 (setAt [(.d (.str [])), (.d (.sl .nil 0 []))] 0 r45)) fun r74 =>
                      ∃ r75,
                      ∃ r76,
                      (C 20 [(.d r73), (demote (demote (demote r74)))] (.tup [r75, r76])) ∧
                      bindO (lenL (demote (demote (vget vs17 1)))) fun r77 =>
                      bindO (foldIntV minD (demote r77) [(.d (.int .i64 32))]) fun r78 =>
                      callP C 27 [(demote (demote r78))] fun r79 =>
                      bindO (indexV false 1 4 (demote r79) (.d (.int .i64 0))) fun r80 =>
                      bindO (convI .u32 (demote r80)) fun r81 =>
                      bindO (binV (some (false, [.int])) .eql (demote (demote (demote (demote (demote r70))))) (.d (.int .i64 0))) fun r82 =>
                      ifP (demote r82)
                        (bindO (partV true 4 0 (setAt [(.d (.int .u64 0)), (.d (.int .u64 0)), (.d (.int .u64 0)), (.d (.int .u64 0))] 0 r71)) fun r83 =>
                        bindO (partV true 4 0 (bget bs18 0)) fun r84 =>
                        bindO (partV false 1 0 (bget bs18 1)) fun r85 =>
                        bindO (lenL (demote (demote r85))) fun r86 =>
                        callP C 27 [(demote (demote r86))] fun r87 =>
                        callP C 28 [(demote (demote (demote r84))), (demote (demote r87))] fun r88 =>
                        bindO (binV (some (true, [.int, .int, .int, .int])) .eql (demote (demote r83)) (demote r88)) fun r89 =>
                        ifP (demote (demote r89))
                          (bindO (binV (some (false, [.int])) .eql (demote (demote (demote (demote (demote r76))))) (.d (.int .i64 0))) fun r90 =>
                          ifP (demote (demote r90))
                            (bindO (binV none .and (demote (demote (vget vs17 0))) (demote (demote (demote r81)))) fun r91 =>
                            bindO (binV (some (false, [.int])) .eql (demote (demote (demote (demote (demote r75))))) (demote r91)) fun r92 =>
                            ifP (demote (demote r92))
                              (callP C 9 [] fun r93 =>
                              (SV.noRef (demote (demote r93))) = true ∧
                              (K (demote (demote r93))))
                              ((SV.noRef (.d (.bool false))) = true ∧
                              (K (.d (.bool false)))))
                            ((SV.noRef (.d (.bool false))) = true ∧
                            (K (.d (.bool false)))))
                          ((SV.noRef (.d (.bool false))) = true ∧
                          (K (.d (.bool false)))))
                        ((SV.noRef (.d (.bool false))) = true ∧
                        (K (.d (.bool false)))))))))))))
    [x1, (.d (.sl .nil 0 [])), (demote r14), r16, (.d (.int .i64 0))] [(Box.vals (Box.cells r0)), (Box.vals (Box.cells r1)), (Box.vals (Box.cells (setAt [(.d (.bool false)), (.d (.bool false)), (.d (.bool false)), (.d (.sl .nil 0 [])), (.d (.sl .nil 0 []))] 0 r11)))]))) := by kernel_rfl

theorem body7 (C : Con) (x0 x1 : SV) (K : SV → Prop) : body Go.Proofs.Try.prog gl C h7 7 [x0, x1] K = (
  wfP [x0, x1] (
  bindO (cellsV (demote x0)) fun r0 =>
  (List.length r0) = 5 ∧
  bindO (cellsV (demote x1)) fun r1 =>
  (List.length r1) = 2 ∧
  bindO (partV true 5 0 r0) fun r2 =>
  bindO (partV true 2 0 r1) fun r3 =>
  callP C 8 [(demote (demote (demote r2))), (demote (demote (demote r3)))] fun r4 =>
  bindO (unV .not (demote r4)) fun r5 =>
  ifP r5
    (callP C 9 [] fun r6 =>
    (SV.noRef (demote r6)) = true ∧
    (K (demote r6)))
    (bindO (partV true 5 0 r0) fun r7 =>
    bindO (partV true 2 0 r1) fun r8 =>
    ∃ r9,
    ∃ r10,
    (C 14 [(demote (demote (demote r7))), (demote (demote (demote r8)))] (.tup [r9, r10])) ∧
    bindO (cellsV (demote (demote (demote r9)))) fun r11 =>
    (List.length r11) = 4 ∧
    4 ≤ 4 ∧
    bindO (partV true 5 0 r0) fun r12 =>
    bindO (cellsV (demote (demote r12))) fun r13 =>
    (List.length r13) = 5 ∧
    5 ≤ 5 ∧
    bindO (partV false 1 1 r0) fun r14 =>
    bindO (unV .not (demote (demote r14))) fun r15 =>
    bindO (cellsV (demote r15)) fun r16 =>
    (List.length r16) = 1 ∧
    2 ≤ (List.length (setAt [(.d (.bool false)), (.d (.bool false)), (.d (.bool false)), (.d (.sl .nil 0 [])), (.d (.sl .nil 0 []))] 0 r13)) ∧
    bindO (partV true 5 0 (setAt (setAt [(.d (.bool false)), (.d (.bool false)), (.d (.bool false)), (.d (.sl .nil 0 [])), (.d (.sl .nil 0 []))] 0 r13) 1 r16)) fun r17 =>
    bindO (partV true 2 0 r1) fun r18 =>
    ∃ r19,
    ∃ r20,
    (C 14 [(demote (demote (demote r17))), (demote (demote (demote r18)))] (.tup [r19, r20])) ∧
    bindO (cellsV (demote (demote (demote r19)))) fun r21 =>
    (List.length r21) = 4 ∧
    4 ≤ 4 ∧
    bindO (partV true 5 0 r0) fun r22 =>
    bindO (cellsV (demote (demote r22))) fun r23 =>
    (List.length r23) = 5 ∧
    5 ≤ 5 ∧
    bindO (cellsV (.d (.sl .nil 0 []))) fun r24 =>
    (List.length r24) = 1 ∧
    4 ≤ (List.length (setAt [(.d (.bool false)), (.d (.bool false)), (.d (.bool false)), (.d (.sl .nil 0 [])), (.d (.sl .nil 0 []))] 0 r23)) ∧
    bindO (cellsV (.d (.sl .nil 0 []))) fun r25 =>
    (List.length r25) = 1 ∧
    5 ≤ (List.length (setAt (setAt [(.d (.bool false)), (.d (.bool false)), (.d (.bool false)), (.d (.sl .nil 0 [])), (.d (.sl .nil 0 []))] 0 r23) 3 r24)) ∧
    bindO (partV false 1 3 r0) fun r26 =>
    bindO (lenL (demote (demote r26))) fun r27 =>
    loopP (fun vs28 bs29 I30 =>
      bindO (binV none .lss (demote (vget vs28 3)) (demote (vget vs28 2))) fun r31 =>
      ifP r31
        (bindO ((bget bs29 5)[3]?) fun r32 =>
        bindO (partV false 1 3 (bget bs29 0)) fun r33 =>
        bindO (partV false 1 3 (bget bs29 0)) fun r34 =>
        bindO (lenL (demote (demote r34))) fun r35 =>
        bindO (binV none .sub (demote r35) (.d (.int .i64 1))) fun r36 =>
        bindO (binV none .sub (demote r36) (demote (demote (demote (demote (vget vs28 3)))))) fun r37 =>
        bindO (elemPtr 1 (demote (demote r33)) (demote r37)) fun r38 =>
        bindO (loadV false 1 (demote r38)) fun r39 =>
        bindO (partV false 1 3 (bget bs29 0)) fun r40 =>
        bindO (elemPtr 1 (demote (demote r40)) (.d (.int .i64 0))) fun r41 =>
        bindO (loadV false 1 (demote r41)) fun r42 =>
        bindO (partsS [(0, (.v (demote r39))), (1, (.v (demote r42)))]) fun r43 =>
        (partsFit 1 2 r43) = true ∧
        appP 1 16 r32 (.full 1 (buildElems (mkElem false [(.str [])]) r43 2 0)) fun r44 =>
        bindO (cellsV r44) fun r45 =>
        (List.length r45) = 1 ∧
        3 < (List.length (List.set (bget bs29 5) 3 (demote r32))) ∧
        bindO (binV none .add (demote (vget vs28 3)) (.d (.int .i64 1))) fun r46 =>
        (I30 [(vget vs28 0), (vget vs28 1), (vget vs28 2), (demote r46)] [(Box.vals (Box.cells (bget bs29 0))), (Box.vals (Box.cells (bget bs29 1))), (Box.vals (Box.cells (bget bs29 2))), (Box.vals (Box.cells (bget bs29 3))), (Box.vals (Box.cells (bget bs29 4))), (Box.vals (Box.cells (setAt (List.set (bget bs29 5) 3 (demote r32)) 3 r45)))]))
        (bindO (partV false 1 4 (bget bs29 0)) fun r47 =>
        bindO (lenL (demote (demote r47))) fun r48 =>
        loopP (fun vs49 bs50 I51 =>
          bindO (binV none .lss (demote (vget vs49 3)) (demote (vget vs49 2))) fun r52 =>
          ifP r52
            (bindO ((bget bs50 5)[4]?) fun r53 =>
            bindO (partV false 1 4 (bget bs50 0)) fun r54 =>
            bindO (partV false 1 4 (bget bs50 0)) fun r55 =>
            bindO (lenL (demote (demote r55))) fun r56 =>
            bindO (binV none .sub (demote r56) (.d (.int .i64 1))) fun r57 =>
            bindO (binV none .sub (demote r57) (demote (demote (demote (demote (vget vs49 3)))))) fun r58 =>
            bindO (elemPtr 1 (demote (demote r54)) (demote r58)) fun r59 =>
            bindO (loadV false 1 (demote r59)) fun r60 =>
            bindO (partV false 1 4 (bget bs50 0)) fun r61 =>
            bindO (elemPtr 1 (demote (demote r61)) (.d (.int .i64 0))) fun r62 =>
            bindO (loadV false 1 (demote r62)) fun r63 =>
            bindO (partsS [(0, (.v (demote r60))), (1, (.v (demote r63)))]) fun r64 =>
            (partsFit 1 2 r64) = true ∧
            appP 1 16 r53 (.full 1 (buildElems (mkElem false [(.str [])]) r64 2 0)) fun r65 =>
            bindO (cellsV r65) fun r66 =>
            (List.length r66) = 1 ∧
            4 < (List.length (List.set (bget bs50 5) 4 (demote r53))) ∧
            bindO (binV none .add (demote (vget vs49 3)) (.d (.int .i64 1))) fun r67 =>
            (I51 [(vget vs49 0), (vget vs49 1), (vget vs49 2), (demote r67)] [(Box.vals (Box.cells (bget bs50 0))), (Box.vals (Box.cells (bget bs50 1))), (Box.vals (Box.cells (bget bs50 2))), (Box.vals (Box.cells (bget bs50 3))), (Box.vals (Box.cells (bget bs50 4))), (Box.vals (Box.cells (setAt (List.set (bget bs50 5) 4 (demote r53)) 4 r66)))]))
            (bindO (partV true 5 0 (bget bs50 5)) fun r68 =>
            bindO (partV true 2 0 (bget bs50 1)) fun r69 =>
            ∃ r70,
            ∃ r71,
            (C 14 [(demote (demote (demote r68))), (demote (demote (demote r69)))] (.tup [r70, r71])) ∧
            bindO (cellsV (demote (demote (demote r70)))) fun r72 =>
            (List.length r72) = 4 ∧
            4 ≤ 4 ∧
            bindO (binV (some (false, [.int])) .neq (demote (demote (vget vs49 0))) (demote (demote (vget vs49 1)))) fun r73 =>
            ifP (demote r73)
              ((SV.noRef (.d (.bool false))) = true ∧
              (K (.d (.bool false))))
              (bindO (binV (some (false, [.int])) .neq (demote (demote (vget vs49 0))) (demote (demote (demote (demote (demote r71)))))) fun r74 =>
              ifP (demote (demote r74))
                ((SV.noRef (.d (.bool false))) = true ∧
                (K (.d (.bool false))))
                (bindO (partV true 4 0 (bget bs50 2)) fun r75 =>
                bindO (partV true 4 0 (setAt [(.d (.int .u64 0)), (.d (.int .u64 0)), (.d (.int .u64 0)), (.d (.int .u64 0))] 0 r72)) fun r76 =>
                bindO (binV (some (true, [.int, .int, .int, .int])) .neq (demote (demote r75)) (demote (demote r76))) fun r77 =>
                ifP (demote r77)
                  ((SV.noRef (.d (.bool false))) = true ∧
                  (K (.d (.bool false))))
                  (bindO (binV (some (false, [.int])) .neq (demote (demote (vget vs49 0))) (.d (.int .i64 0))) fun r78 =>
                  ifP r78
                    (bindO (partV true 4 0 (bget bs50 2)) fun r79 =>
                    bindO (partsS []) fun r80 =>
                    bindO (buildD Proofs.Try.prog 35 r80) fun r81 =>
                    bindO (binV (some (true, [.int, .int, .int, .int])) .eql (demote (demote r79)) (.d r81)) fun r82 =>
                    ifP (demote r82)
                      (callP C 9 [] fun r83 =>
                      (SV.noRef (demote (demote r83))) = true ∧
                      (K (demote (demote r83))))
                      ((SV.noRef (.d (.bool false))) = true ∧
                      (K (.d (.bool false)))))
                    (bindO (partV false 1 0 (bget bs50 1)) fun r84 =>
                    bindO (lenL (demote (demote r84))) fun r85 =>
                    callP C 27 [(demote (demote r85))] fun r86 =>
                    bindO (cellsV (demote r86)) fun r87 =>
                    (List.length r87) = 4 ∧
                    4 ≤ 4 ∧
                    bindO (partV true 4 0 (bget bs50 2)) fun r88 =>
                    bindO (partV true 4 0 (bget bs50 4)) fun r89 =>
                    callP C 29 [(demote (demote (demote r88))), (demote (demote (demote r89)))] fun r90 =>
                    bindO (partV true 4 0 (setAt [(.d (.int .u64 0)), (.d (.int .u64 0)), (.d (.int .u64 0)), (.d (.int .u64 0))] 0 r87)) fun r91 =>
                    bindO (binV (some (true, [.int, .int, .int, .int])) .neq (demote r90) (demote (demote r91))) fun r92 =>
                    ifP (demote r92)
                      ((SV.noRef (.d (.bool false))) = true ∧
                      (K (.d (.bool false))))
                      (bindO (partV true 4 0 (bget bs50 2)) fun r93 =>
                      bindO (partV true 4 0 (bget bs50 4)) fun r94 =>
                      callP C 28 [(demote (demote (demote r93))), (demote (demote (demote r94)))] fun r95 =>
                      bindO (partsS []) fun r96 =>
                      bindO (buildD Proofs.Try.prog 35 r96) fun r97 =>
                      bindO (binV (some (true, [.int, .int, .int, .int])) .neq (demote r95) (.d r97)) fun r98 =>
                      ifP (demote r98)
                        ((SV.noRef (.d (.bool false))) = true ∧
                        (K (.d (.bool false))))
                        (bindO (partV true 5 0 (bget bs50 0)) fun r99 =>
                        bindO (cellsV (demote (demote r99))) fun r100 =>
                        (List.length r100) = 5 ∧
                        5 ≤ 5 ∧
                        bindO (cellsV (.d (.bool false))) fun r101 =>
                        (List.length r101) = 1 ∧
                        2 ≤ (List.length (setAt [(.d (.bool false)), (.d (.bool false)), (.d (.bool false)), (.d (.sl .nil 0 [])), (.d (.sl .nil 0 []))] 0 r100)) ∧
                        bindO (partsS []) fun r102 =>
                        (partsFit 1 0 r102) = true ∧
                        bindO (partV false 1 3 (bget bs50 0)) fun r103 =>
                        appP 1 16 (.full 1 (buildElems (mkElem false [(.str [])]) r102 0 0)) (demote (demote r103)) fun r104 =>
                        bindO (partV false 1 4 (bget bs50 0)) fun r105 =>
                        appP 1 16 r104 (demote (demote r105)) fun r106 =>
                        bindO (cellsV (demote r106)) fun r107 =>
                        (List.length r107) = 1 ∧
                        4 ≤ (List.length (setAt (setAt [(.d (.bool false)), (.d (.bool false)), (.d (.bool false)), (.d (.sl .nil 0 [])), (.d (.sl .nil 0 []))] 0 r100) 1 r101)) ∧
                        bindO (partV true 5 0 (setAt (setAt (setAt [(.d (.bool false)), (.d (.bool false)), (.d (.bool false)), (.d (.sl .nil 0 [])), (.d (.sl .nil 0 []))] 0 r100) 1 r101) 3 r107)) fun r108 =>
                        bindO (partV true 2 0 (bget bs50 1)) fun r109 =>
                        ∃ r110,
                        ∃ r111,
                        (C 14 [(demote (demote (demote r108))), (demote (demote (demote r109)))] (.tup [r110, r111])) ∧
                        bindO (cellsV (demote (demote (demote r110)))) fun r112 =>
                        (List.length r112) = 4 ∧
                        4 ≤ 4 ∧
                        bindO (partV false 1 4 (bget bs50 0)) fun r113 =>
                        bindO (partsS [(3, (.v (demote (demote r113))))]) fun r114 =>
                        bindO (buildD Proofs.Try.prog 29 r114) fun r115 =>
                        bindO (partV true 2 0 (bget bs50 1)) fun r116 =>
                        ∃ r117,
                        ∃ r118,
                        (C 14 [(.d r115), (demote (demote (demote r116)))] (.tup [r117, r118])) ∧
                        bindO (cellsV (demote (demote (demote r117)))) fun r119 =>
                        (List.length r119) = 4 ∧
                        4 ≤ 4 ∧
                        bindO (binV (some (false, [.int])) .eql (demote (demote (demote (demote (demote r111))))) (.d (.int .i64 0))) fun r120 =>
                        ifP (demote r120)
                          (bindO (binV (some (false, [.int])) .eql (demote (demote (demote (demote (demote r118))))) (.d (.int .i64 0))) fun r121 =>
                          ifP (demote (demote r121))
                            (bindO (partV true 4 0 (setAt [(.d (.int .u64 0)), (.d (.int .u64 0)), (.d (.int .u64 0)), (.d (.int .u64 0))] 0 r112)) fun r122 =>
                            bindO (partV true 4 0 (setAt [(.d (.int .u64 0)), (.d (.int .u64 0)), (.d (.int .u64 0)), (.d (.int .u64 0))] 0 r119)) fun r123 =>
                            callP C 28 [(demote (demote (demote r122))), (demote (demote (demote r123)))] fun r124 =>
                            bindO (partsS []) fun r125 =>
                            bindO (buildD Proofs.Try.prog 35 r125) fun r126 =>
                            bindO (binV (some (true, [.int, .int, .int, .int])) .eql (demote r124) (.d r126)) fun r127 =>
                            ifP (demote (demote r127))
                              (callP C 9 [] fun r128 =>
                              (SV.noRef (demote (demote r128))) = true ∧
                              (K (demote (demote r128))))
                              ((SV.noRef (.d (.bool false))) = true ∧
                              (K (.d (.bool false)))))
                            ((SV.noRef (.d (.bool false))) = true ∧
                            (K (.d (.bool false)))))
                          ((SV.noRef (.d (.bool false))) = true ∧
                          (K (.d (.bool false))))))))))))
        [(vget vs28 0), (vget vs28 1), r48, (.d (.int .i64 0))] [(Box.vals (Box.cells (bget bs29 0))), (Box.vals (Box.cells (bget bs29 1))), (Box.vals (Box.cells (bget bs29 2))), (Box.vals (Box.cells (bget bs29 3))), (Box.vals (Box.cells (bget bs29 4))), (Box.vals (Box.cells (bget bs29 5)))]))
    [(demote (demote (demote r10))), (demote (demote (demote r20))), r27, (.d (.int .i64 0))] [(Box.vals (Box.cells r0)), (Box.vals (Box.cells r1)), (Box.vals (Box.cells (setAt [(.d (.int .u64 0)), (.d (.int .u64 0)), (.d (.int .u64 0)), (.d (.int .u64 0))] 0 r11))), (Box.vals (Box.cells (setAt (setAt [(.d (.bool false)), (.d (.bool false)), (.d (.bool false)), (.d (.sl .nil 0 [])), (.d (.sl .nil 0 []))] 0 r13) 1 r16))), (Box.vals (Box.cells (setAt [(.d (.int .u64 0)), (.d (.int .u64 0)), (.d (.int .u64 0)), (.d (.int .u64 0))] 0 r21))), (Box.vals (Box.cells (setAt (setAt (setAt [(.d (.bool false)), (.d (.bool false)), (.d (.bool false)), (.d (.sl .nil 0 [])), (.d (.sl .nil 0 []))] 0 r23) 3 r24) 4 r25)))]))) := by kernel_rfl

theorem body8 (C : Con) (x0 x1 : SV) (K : SV → Prop) : body Go.Proofs.Try.prog gl C h8 8 [x0, x1] K = (
  wfP [x0, x1] (
  bindO (cellsV (demote x0)) fun r0 =>
  (List.length r0) = 5 ∧
  bindO (cellsV (demote x1)) fun r1 =>
  (List.length r1) = 2 ∧
  bindO (partV false 1 3 r0) fun r2 =>
  bindO (lenL (demote (demote r2))) fun r3 =>
  bindO (binV none .gtr (demote r3) (.d (.int .i64 60))) fun r4 =>
  ifP (demote r4)
    ((SV.noRef (.d (.bool false))) = true ∧
    (K (.d (.bool false))))
    (bindO (partV false 1 4 r0) fun r5 =>
    bindO (lenL (demote (demote r5))) fun r6 =>
    bindO (binV none .gtr (demote r6) (.d (.int .i64 60))) fun r7 =>
    ifP (demote (demote r7))
      ((SV.noRef (.d (.bool false))) = true ∧
      (K (.d (.bool false))))
      (bindO (partV false 1 0 r1) fun r8 =>
      bindO (lenL (demote (demote r8))) fun r9 =>
      bindO (binV none .gtr (demote r9) (.d (.int .i64 300))) fun r10 =>
      ifP (demote (demote r10))
        ((SV.noRef (.d (.bool false))) = true ∧
        (K (.d (.bool false))))
        (bindO (partV false 1 1 r1) fun r11 =>
        bindO (lenL (demote (demote r11))) fun r12 =>
        bindO (binV none .gtr (demote r12) (.d (.int .i64 60))) fun r13 =>
        ifP (demote r13)
          ((SV.noRef (.d (.bool false))) = true ∧
          (K (.d (.bool false))))
          (bindO (partV false 1 0 r1) fun r14 =>
          bindO (lenL (demote (demote r14))) fun r15 =>
          loopP (fun vs16 bs17 I18 =>
            bindO (binV none .lss (demote (vget vs16 1)) (demote (vget vs16 0))) fun r19 =>
            ifP r19
              (bindO (partV false 1 0 (bget bs17 1)) fun r20 =>
              bindO (elemPtr 3 (demote (demote r20)) (demote (demote (demote (demote (vget vs16 1)))))) fun r21 =>
              bindO (addOffV (demote r21) 1) fun r22 =>
              bindO (loadV false 1 (demote r22)) fun r23 =>
              bindO (lenL (demote r23)) fun r24 =>
              bindO (binV none .gtr (demote r24) (.d (.int .i64 20))) fun r25 =>
              ifP r25
                ((SV.noRef (.d (.bool false))) = true ∧
                (K (.d (.bool false))))
                (bindO (binV none .add (demote (vget vs16 1)) (.d (.int .i64 1))) fun r26 =>
                (I18 [(vget vs16 0), (demote r26)] [(Box.vals (Box.cells (bget bs17 0))), (Box.vals (Box.cells (bget bs17 1)))])))
              ((SV.noRef (.d (.bool true))) = true ∧
              (K (.d (.bool true)))))
          [r15, (.d (.int .i64 0))] [(Box.vals (Box.cells r0)), (Box.vals (Box.cells r1))])))))) := by kernel_rfl

theorem body9 (C : Con) (K : SV → Prop) : body Go.Proofs.Try.prog gl C h9 9 [] K = (
  wfP [] (
  bindO (partsS [(0, (.v (.d (.str [101]))))]) fun r0 =>
  (partsFit 1 1 r0) = true ∧
  bindO (partsS [(3, (.v (.full 1 (buildElems (mkElem false [(.str [])]) r0 1 0))))]) fun r1 =>
  bindO (buildD Proofs.Try.prog 29 r1) fun r2 =>
  callP C 30 [] fun r3 =>
  ∃ r4,
  ∃ r5,
  (C 14 [(.d r2), (demote (demote r3))] (.tup [r4, r5])) ∧
  bindO (cellsV (demote (demote (demote r4)))) fun r6 =>
  (List.length r6) = 4 ∧
  4 ≤ 4 ∧
  bindO (partsS [(0, (.v (.d (.str [114, 101, 97, 100])))), (1, (.v (.d (.str [119, 114, 105, 116, 101]))))]) fun r7 =>
  (partsFit 1 2 r7) = true ∧
  bindO (partsS [(1, (.v (.full 1 (buildElems (mkElem false [(.str [])]) r7 2 0))))]) fun r8 =>
  bindO (buildD Proofs.Try.prog 44 r8) fun r9 =>
  bindO (cellsV (.d r9)) fun r10 =>
  (List.length r10) = 2 ∧
  2 ≤ 2 ∧
  bindO (partsS [(0, (.v (.d (.str [114, 101, 97, 100]))))]) fun r11 =>
  (partsFit 1 1 r11) = true ∧
  bindO (partsS [(0, (.v (.d (.bool true)))), (4, (.v (.full 1 (buildElems (mkElem false [(.str [])]) r11 1 0))))]) fun r12 =>
  bindO (buildD Proofs.Try.prog 29 r12) fun r13 =>
  bindO (partV true 2 0 (setAt [(.d (.str [])), (.d (.sl .nil 0 []))] 0 r10)) fun r14 =>
  ∃ r15,
  ∃ r16,
  (C 20 [(.d r13), (demote (demote (demote r14)))] (.tup [r15, r16])) ∧
  callP C 30 [] fun r17 =>
  ∃ r18,
  ∃ r19,
  (C 10 [(.d (.str [120])), (demote (demote r17))] (.tup [r18, r19])) ∧
  callP C 30 [] fun r20 =>
  ∃ r21,
  ∃ r22,
  (C 12 [(.d (.str [100])), (demote (demote r20))] (.tup [r21, r22])) ∧
  bindO (cellsV (demote (demote (demote r21)))) fun r23 =>
  (List.length r23) = 4 ∧
  4 ≤ 4 ∧
  bindO (partsS [(0, (.v (.d (.str [113]))))]) fun r24 =>
  (partsFit 1 1 r24) = true ∧
  bindO (partsS [(3, (.v (.full 1 (buildElems (mkElem false [(.str [])]) r24 1 0)))), (1, (.v (.d (.bool true))))]) fun r25 =>
  bindO (buildD Proofs.Try.prog 29 r25) fun r26 =>
  bindO (partsS [(0, (.v (.d (.str [112])))), (1, (.v (.d (.str [113])))), (2, (.v (.d (.str [114]))))]) fun r27 =>
  (partsFit 1 3 r27) = true ∧
  ∃ r28,
  ∃ r29,
  (C 16 [(.d r26), (.full 1 (buildElems (mkElem false [(.str [])]) r27 3 0))] (.tup [r28, r29])) ∧
  bindO (cellsV (demote (demote (demote r28)))) fun r30 =>
  (List.length r30) = 4 ∧
  4 ≤ 4 ∧
  bindO (partsS [(0, (.v (.d (.str [102, 105, 108, 101]))))]) fun r31 =>
  (partsFit 1 1 r31) = true ∧
  bindO (partsS [(3, (.v (.full 1 (buildElems (mkElem false [(.str [])]) r31 1 0))))]) fun r32 =>
  bindO (buildD Proofs.Try.prog 29 r32) fun r33 =>
  bindO (partsS [(0, (.v (.d (.str [100, 105, 114]))))]) fun r34 =>
  bindO (buildD Proofs.Try.prog 44 r34) fun r35 =>
  bindO (partsS [(0, (.v (.d (.str [102, 105, 108, 101]))))]) fun r36 =>
  bindO (buildD Proofs.Try.prog 44 r36) fun r37 =>
  bindO (partsS [(0, (.v (.d r35))), (1, (.v (.d r37)))]) fun r38 =>
  (partsFit 2 2 r38) = true ∧
  ∃ r39,
  ∃ r40,
  (C 18 [(.d r33), (.full 2 (buildElems (mkElem true [(.str []), (.sl .nil 0 [])]) r38 2 0))] (.tup [r39, r40])) ∧
  bindO (cellsV (demote (demote (demote r39)))) fun r41 =>
  (List.length r41) = 4 ∧
  4 ≤ 4 ∧
  bindO (partsS [(0, (.v (.d (.str [108, 105, 110, 107]))))]) fun r42 =>
  (partsFit 1 1 r42) = true ∧
  bindO (partsS [(3, (.v (.full 1 (buildElems (mkElem false [(.str [])]) r42 1 0))))]) fun r43 =>
  bindO (buildD Proofs.Try.prog 29 r43) fun r44 =>
  ∃ r45,
  ∃ r46,
  (C 18 [(.d r44), (.d (.sl .nil 0 []))] (.tup [r45, r46])) ∧
  bindO (cellsV (demote (demote (demote r45)))) fun r47 =>
  (List.length r47) = 4 ∧
  4 ≤ 4 ∧
  bindO (partsS [(0, (.v (.d (.str [97])))), (1, (.v (.d (.str [100]))))]) fun r48 =>
  (partsFit 1 2 r48) = true ∧
  bindO (partsS [(3, (.v (.full 1 (buildElems (mkElem false [(.str [])]) r48 2 0))))]) fun r49 =>
  bindO (buildD Proofs.Try.prog 29 r49) fun r50 =>
  bindO (partsS [(0, (.v (.d (.int .i64 0)))), (1, (.v (.d (.int .i64 1)))), (2, (.v (.d (.int .i64 2))))]) fun r51 =>
  (partsFit 1 3 r51) = true ∧
  callP C 31 [(.d r50), (.full 1 (buildElems (mkElem false [(.int .i64 0)]) r51 3 0))] fun r52 =>
  ifP (demote r52)
    (bindO (partsS [(0, (.v (.d (.str [100]))))]) fun r53 =>
    (partsFit 1 1 r53) = true ∧
    bindO (partsS [(0, (.v (.d (.bool true)))), (4, (.v (.full 1 (buildElems (mkElem false [(.str [])]) r53 1 0))))]) fun r54 =>
    bindO (buildD Proofs.Try.prog 29 r54) fun r55 =>
    bindO (partsS [(0, (.v (.d (.int .i64 0))))]) fun r56 =>
    (partsFit 1 1 r56) = true ∧
    callP C 31 [(.d r55), (.full 1 (buildElems (mkElem false [(.int .i64 0)]) r56 1 0))] fun r57 =>
    ifP (demote (demote r57))
      (bindO (partsS [(0, (.v (.d (.str [100]))))]) fun r58 =>
      (partsFit 1 1 r58) = true ∧
      bindO (partsS [(1, (.v (.d (.bool true)))), (3, (.v (.full 1 (buildElems (mkElem false [(.str [])]) r58 1 0))))]) fun r59 =>
      bindO (buildD Proofs.Try.prog 29 r59) fun r60 =>
      bindO (partsS [(0, (.v (.d (.int .i64 0))))]) fun r61 =>
      (partsFit 1 1 r61) = true ∧
      callP C 31 [(.d r60), (.full 1 (buildElems (mkElem false [(.int .i64 0)]) r61 1 0))] fun r62 =>
      ifP (demote (demote r62))
        (bindO (partsS [(0, (.v (.d (.str [100]))))]) fun r63 =>
        (partsFit 1 1 r63) = true ∧
        bindO (partsS [(0, (.v (.d (.str [99]))))]) fun r64 =>
        (partsFit 1 1 r64) = true ∧
        bindO (partsS [(3, (.v (.full 1 (buildElems (mkElem false [(.str [])]) r63 1 0)))), (4, (.v (.full 1 (buildElems (mkElem false [(.str [])]) r64 1 0))))]) fun r65 =>
        bindO (buildD Proofs.Try.prog 29 r65) fun r66 =>
        bindO (partsS [(0, (.v (.d (.int .i64 1))))]) fun r67 =>
        (partsFit 1 1 r67) = true ∧
        callP C 31 [(.d r66), (.full 1 (buildElems (mkElem false [(.int .i64 0)]) r67 1 0))] fun r68 =>
        ifP (demote (demote r68))
          (bindO (partsS [(0, (.v (.d (.str [97]))))]) fun r69 =>
          (partsFit 1 1 r69) = true ∧
          bindO (partsS [(4, (.v (.full 1 (buildElems (mkElem false [(.str [])]) r69 1 0))))]) fun r70 =>
          bindO (buildD Proofs.Try.prog 29 r70) fun r71 =>
          callP C 31 [(.d r71), (.d (.sl .nil 0 []))] fun r72 =>
          ifP (demote (demote r72))
            (bindO (partsS [(0, (.v (.d (.str [97]))))]) fun r73 =>
            (partsFit 1 1 r73) = true ∧
            bindO (partsS [(1, (.v (.d (.bool true)))), (4, (.v (.full 1 (buildElems (mkElem false [(.str [])]) r73 1 0))))]) fun r74 =>
            bindO (buildD Proofs.Try.prog 29 r74) fun r75 =>
            bindO (partsS [(0, (.v (.d (.int .i64 0)))), (1, (.v (.d (.int .i64 1)))), (2, (.v (.d (.int .i64 2))))]) fun r76 =>
            (partsFit 1 3 r76) = true ∧
            callP C 31 [(.d r75), (.full 1 (buildElems (mkElem false [(.int .i64 0)]) r76 3 0))] fun r77 =>
            ifP (demote (demote r77))
              (bindO (binV (some (false, [.int])) .eql (demote (demote (demote (demote (demote r5))))) (.d (.int .i64 11))) fun r78 =>
              ifP (demote (demote r78))
                (bindO (binV (some (false, [.int])) .eql (demote (demote (demote (demote (demote r15))))) (.d (.int .u32 2))) fun r79 =>
                ifP (demote (demote r79))
                  (bindO (binV (some (false, [.int])) .eql (demote (demote (demote (demote (demote r16))))) (.d (.int .i64 0))) fun r80 =>
                  ifP (demote (demote r80))
                    (bindO (binV (some (false, [.int])) .eql (demote (demote (demote (demote (demote r18))))) (.d (.int .i64 0))) fun r81 =>
                    ifP (demote (demote r81))
                      (ifP (demote (demote (demote (demote (demote (demote r19))))))
                        (bindO (partV true 4 0 (setAt [(.d (.int .u64 0)), (.d (.int .u64 0)), (.d (.int .u64 0)), (.d (.int .u64 0))] 0 r23)) fun r82 =>
                        bindO (partsS [(0, (.v (.d (.int .i64 1)))), (1, (.v (.d (.int .i64 2))))]) fun r83 =>
                        (partsFit 1 2 r83) = true ∧
                        callP C 32 [(.full 1 (buildElems (mkElem false [(.int .i64 0)]) r83 2 0))] fun r84 =>
                        bindO (binV (some (true, [.int, .int, .int, .int])) .eql (demote (demote r82)) (demote r84)) fun r85 =>
                        ifP (demote (demote r85))
                          (ifP (demote (demote (demote (demote (demote (demote r22))))))
                            (bindO (partV true 4 0 (setAt [(.d (.int .u64 0)), (.d (.int .u64 0)), (.d (.int .u64 0)), (.d (.int .u64 0))] 0 r30)) fun r86 =>
                            bindO (partsS [(0, (.v (.d (.int .i64 0)))), (1, (.v (.d (.int .i64 2))))]) fun r87 =>
                            (partsFit 1 2 r87) = true ∧
                            callP C 32 [(.full 1 (buildElems (mkElem false [(.int .i64 0)]) r87 2 0))] fun r88 =>
                            bindO (binV (some (true, [.int, .int, .int, .int])) .eql (demote (demote r86)) (demote r88)) fun r89 =>
                            ifP (demote (demote r89))
                              (bindO (binV (some (false, [.int])) .eql (demote (demote (demote (demote (demote r29))))) (.d (.int .i64 0))) fun r90 =>
                              ifP (demote (demote r90))
                                (bindO (partV true 4 0 (setAt [(.d (.int .u64 0)), (.d (.int .u64 0)), (.d (.int .u64 0)), (.d (.int .u64 0))] 0 r41)) fun r91 =>
                                bindO (partsS [(0, (.v (.d (.int .i64 1))))]) fun r92 =>
                                (partsFit 1 1 r92) = true ∧
                                callP C 32 [(.full 1 (buildElems (mkElem false [(.int .i64 0)]) r92 1 0))] fun r93 =>
                                bindO (binV (some (true, [.int, .int, .int, .int])) .eql (demote (demote r91)) (demote r93)) fun r94 =>
                                ifP (demote (demote r94))
                                  (bindO (binV (some (false, [.int])) .eql (demote (demote (demote (demote (demote r40))))) (.d (.int .i64 0))) fun r95 =>
                                  ifP (demote (demote r95))
                                    (bindO (binV (some (false, [.int])) .eql (demote (demote (demote (demote (demote r46))))) (.d (.int .i64 20))) fun r96 =>
                                    ifP (demote (demote r96))
                                      (bindO (partsS [(0, (.v (.d (.int .i64 0)))), (1, (.v (.d (.int .i64 2)))), (2, (.v (.d (.int .i64 9))))]) fun r97 =>
                                      (partsFit 1 3 r97) = true ∧
                                      callP C 32 [(.full 1 (buildElems (mkElem false [(.int .i64 0)]) r97 3 0))] fun r98 =>
                                      callP C 30 [] fun r99 =>
                                      bindO (fieldV false 1 0 (demote r99)) fun r100 =>
                                      callP C 22 [(demote (demote r98)), (demote (demote r100))] fun r101 =>
                                      bindO (fieldV false 1 3 (demote r101)) fun r102 =>
                                      bindO (partsS [(0, (.v (.d (.str [97])))), (1, (.v (.d (.str [99]))))]) fun r103 =>
                                      (partsFit 1 2 r103) = true ∧
                                      callP C 24 [(demote (demote r102)), (.full 1 (buildElems (mkElem false [(.str [])]) r103 2 0))] fun r104 =>
                                      ifP (demote (demote r104))
                                        (bindO (partV true 2 0 (setAt [(.d (.str [])), (.d (.sl .nil 0 []))] 0 r10)) fun r105 =>
                                        callP C 23 [(.d (.int .u32 6)), (demote (demote (demote r105)))] fun r106 =>
                                        bindO (partsS [(0, (.v (.d (.str [119, 114, 105, 116, 101]))))]) fun r107 =>
                                        (partsFit 1 1 r107) = true ∧
                                        callP C 24 [(demote (demote r106)), (.full 1 (buildElems (mkElem false [(.str [])]) r107 1 0))] fun r108 =>
                                        (SV.noRef (demote (demote r108))) = true ∧
                                        (K (demote (demote r108))))
                                        ((SV.noRef (.d (.bool false))) = true ∧
                                        (K (.d (.bool false)))))
                                      ((SV.noRef (.d (.bool false))) = true ∧
                                      (K (.d (.bool false)))))
                                    ((SV.noRef (.d (.bool false))) = true ∧
                                    (K (.d (.bool false)))))
                                  ((SV.noRef (.d (.bool false))) = true ∧
                                  (K (.d (.bool false)))))
                                ((SV.noRef (.d (.bool false))) = true ∧
                                (K (.d (.bool false)))))
                              ((SV.noRef (.d (.bool false))) = true ∧
                              (K (.d (.bool false)))))
                            ((SV.noRef (.d (.bool false))) = true ∧
                            (K (.d (.bool false)))))
                          ((SV.noRef (.d (.bool false))) = true ∧
                          (K (.d (.bool false)))))
                        ((SV.noRef (.d (.bool false))) = true ∧
                        (K (.d (.bool false)))))
                      ((SV.noRef (.d (.bool false))) = true ∧
                      (K (.d (.bool false)))))
                    ((SV.noRef (.d (.bool false))) = true ∧
                    (K (.d (.bool false)))))
                  ((SV.noRef (.d (.bool false))) = true ∧
                  (K (.d (.bool false)))))
                ((SV.noRef (.d (.bool false))) = true ∧
                (K (.d (.bool false)))))
              ((SV.noRef (.d (.bool false))) = true ∧
              (K (.d (.bool false)))))
            ((SV.noRef (.d (.bool false))) = true ∧
            (K (.d (.bool false)))))
          ((SV.noRef (.d (.bool false))) = true ∧
          (K (.d (.bool false)))))
        ((SV.noRef (.d (.bool false))) = true ∧
        (K (.d (.bool false)))))
      ((SV.noRef (.d (.bool false))) = true ∧
      (K (.d (.bool false)))))
    ((SV.noRef (.d (.bool false))) = true ∧
    (K (.d (.bool false)))))) := by kernel_rfl

theorem body10 (C : Con) (x0 x1 : SV) (K : SV → Prop) : body Go.Proofs.Try.prog gl C h10 10 [x0, x1] K = (
  wfP [x0, x1] (
  bindO (cellsV (demote x1)) fun r0 =>
  (List.length r0) = 2 ∧
  bindO (partV false 1 0 r0) fun r1 =>
  bindO (lenL (demote (demote r1))) fun r2 =>
  loopP (fun vs3 bs4 I5 =>
    bindO (binV none .lss (demote (vget vs3 3)) (demote (vget vs3 2))) fun r6 =>
    ifP r6
      (bindO (elemPtr 3 (demote (vget vs3 1)) (demote (vget vs3 3))) fun r7 =>
      bindO (loadV true 3 (demote r7)) fun r8 =>
      bindO (cellsV (demote r8)) fun r9 =>
      (List.length r9) = 3 ∧
      3 ≤ 3 ∧
      bindO (partV false 1 0 (setAt [(.d (.str [])), (.d (.sl .nil 0 [])), (.d (.bool false))] 0 r9)) fun r10 =>
      bindO (binV (some (false, [.str])) .eql (demote (demote r10)) (demote (demote (vget vs3 0)))) fun r11 =>
      ifP (demote r11)
        ((SV.noRef (demote (demote (demote (demote (vget vs3 3)))))) = true ∧
        (SV.noRef (.d (.bool true))) = true ∧
        (K (.tup [(demote (demote (demote (demote (vget vs3 3))))), (.d (.bool true))])))
        (bindO (partV false 1 1 (setAt [(.d (.str [])), (.d (.sl .nil 0 [])), (.d (.bool false))] 0 r9)) fun r12 =>
        callP C 33 [(demote (demote (demote r12))), (demote (demote (demote (vget vs3 0))))] fun r13 =>
        ifP (demote r13)
          ((SV.noRef (demote (demote (demote (demote (vget vs3 3)))))) = true ∧
          (SV.noRef (.d (.bool true))) = true ∧
          (K (.tup [(demote (demote (demote (demote (vget vs3 3))))), (.d (.bool true))])))
          (bindO (binV none .add (demote (vget vs3 3)) (.d (.int .i64 1))) fun r14 =>
          (I5 [(vget vs3 0), (vget vs3 1), (vget vs3 2), (demote r14)] [(Box.vals (Box.cells (bget bs4 0)))]))))
      ((SV.noRef (.d (.int .i64 0))) = true ∧
      (SV.noRef (.d (.bool false))) = true ∧
      (K (.tup [(.d (.int .i64 0)), (.d (.bool false))]))))
  [x0, (demote r1), r2, (.d (.int .i64 0))] [(Box.vals (Box.cells r0))])) := by kernel_rfl

theorem body11 (C : Con) (x0 x1 : SV) (K : SV → Prop) : body Go.Proofs.Try.prog gl C h11 11 [x0, x1] K = (
  wfP [x0, x1] (
  bindO (cellsV (demote x1)) fun r0 =>
  (List.length r0) = 2 ∧
  loopP (fun vs1 bs2 I3 =>
    bindO (partV false 1 0 (bget bs2 0)) fun r4 =>
    bindO (lenL (demote (demote r4))) fun r5 =>
    bindO (binV none .lss (demote (demote (vget vs1 1))) (demote r5)) fun r6 =>
    ifP r6
      (bindO (partV false 1 0 (bget bs2 0)) fun r7 =>
      bindO (elemPtr 3 (demote (demote r7)) (demote (demote (vget vs1 1)))) fun r8 =>
      bindO (addOffV (demote r8) 0) fun r9 =>
      bindO (loadV false 1 (demote r9)) fun r10 =>
      bindO (binV (some (false, [.str])) .eql (demote r10) (demote (demote (vget vs1 0)))) fun r11 =>
      ifP (demote r11)
        ((SV.noRef (demote (demote (vget vs1 1)))) = true ∧
        (SV.noRef (.d (.bool true))) = true ∧
        (K (.tup [(demote (demote (vget vs1 1))), (.d (.bool true))])))
        (bindO (partV false 1 0 (bget bs2 0)) fun r12 =>
        bindO (elemPtr 3 (demote (demote r12)) (demote (demote (vget vs1 1)))) fun r13 =>
        bindO (addOffV (demote r13) 1) fun r14 =>
        bindO (loadV false 1 (demote r14)) fun r15 =>
        callP C 34 [(demote (demote r15)), (demote (demote (demote (vget vs1 0))))] fun r16 =>
        bindO (binV none .geq (demote r16) (.d (.int .i64 0))) fun r17 =>
        ifP (demote r17)
          ((SV.noRef (demote (demote (vget vs1 1)))) = true ∧
          (SV.noRef (.d (.bool true))) = true ∧
          (K (.tup [(demote (demote (vget vs1 1))), (.d (.bool true))])))
          (bindO (binV none .add (demote (demote (vget vs1 1))) (.d (.int .i64 1))) fun r18 =>
          (I3 [(vget vs1 0), (demote r18)] [(Box.vals (Box.cells (bget bs2 0)))]))))
      ((SV.noRef (.d (.int .i64 0))) = true ∧
      (SV.noRef (.d (.bool false))) = true ∧
      (K (.tup [(.d (.int .i64 0)), (.d (.bool false))]))))
  [x0, (.d (.int .i64 0))] [(Box.vals (Box.cells r0))])) := by kernel_rfl

theorem body12 (C : Con) (x0 x1 : SV) (K : SV → Prop) : body Go.Proofs.Try.prog gl C h12 12 [x0, x1] K = (
  wfP [x0, x1] (
  bindO (cellsV (demote x1)) fun r0 =>
  (List.length r0) = 2 ∧
  bindO (partV false 1 1 r0) fun r1 =>
  bindO (lenL (demote (demote r1))) fun r2 =>
  loopP (fun vs3 bs4 I5 =>
    bindO (binV none .lss (demote (vget vs3 3)) (demote (vget vs3 2))) fun r6 =>
    ifP r6
      (bindO (elemPtr 5 (demote (vget vs3 1)) (demote (vget vs3 3))) fun r7 =>
      bindO (loadV true 5 (demote r7)) fun r8 =>
      bindO (cellsV (demote r8)) fun r9 =>
      (List.length r9) = 5 ∧
      5 ≤ 5 ∧
      bindO (partV false 1 0 (setAt [(.d (.str [])), (.d (.int .u64 0)), (.d (.int .u64 0)), (.d (.int .u64 0)), (.d (.int .u64 0))] 0 r9)) fun r10 =>
      bindO (binV (some (false, [.str])) .eql (demote (demote r10)) (demote (demote (vget vs3 0)))) fun r11 =>
      ifP r11
        (bindO (partV true 4 1 (setAt [(.d (.str [])), (.d (.int .u64 0)), (.d (.int .u64 0)), (.d (.int .u64 0)), (.d (.int .u64 0))] 0 r9)) fun r12 =>
        bindO (partV false 1 0 (bget bs4 0)) fun r13 =>
        bindO (lenL (demote (demote r13))) fun r14 =>
        callP C 36 [(demote (demote r14))] fun r15 =>
        callP C 35 [(demote (demote (demote r12))), (demote (demote r15))] fun r16 =>
        bindO (cellsV (demote r16)) fun r17 =>
        (List.length r17) = 4 ∧
        4 ≤ (List.length (bget bs4 1)) ∧
        bindO (partV true 4 0 (setAt (bget bs4 1) 0 r17)) fun r18 =>
        (SV.noRef (demote r18)) = true ∧
        (SV.noRef (.d (.bool true))) = true ∧
        (K (.tup [(demote r18), (.d (.bool true))])))
        (bindO (binV none .add (demote (vget vs3 3)) (.d (.int .i64 1))) fun r19 =>
        (I5 [(vget vs3 0), (vget vs3 1), (vget vs3 2), (demote r19)] [(Box.vals (Box.cells (bget bs4 0))), (Box.vals (Box.cells (bget bs4 1)))])))
      (bindO (partsS []) fun r20 =>
      bindO (buildD Proofs.Try.prog 35 r20) fun r21 =>
      bindO (cellsV (.d r21)) fun r22 =>
      (List.length r22) = 4 ∧
      4 ≤ (List.length (bget bs4 1)) ∧
      bindO (partV true 4 0 (setAt (bget bs4 1) 0 r22)) fun r23 =>
      (SV.noRef (demote r23)) = true ∧
      (SV.noRef (.d (.bool false))) = true ∧
      (K (.tup [(demote r23), (.d (.bool false))]))))
  [x0, (demote r1), r2, (.d (.int .i64 0))] [(Box.vals (Box.cells r0)), [(.d (.int .u64 0)), (.d (.int .u64 0)), (.d (.int .u64 0)), (.d (.int .u64 0))]])) := by kernel_rfl

theorem body13 (C : Con) (x0 x1 : SV) (K : SV → Prop) : body Go.Proofs.Try.prog gl C h13 13 [x0, x1] K = (
  wfP [x0, x1] (
  bindO (cellsV (demote x1)) fun r0 =>
  (List.length r0) = 2 ∧
  loopP (fun vs1 bs2 I3 =>
    bindO (partV false 1 1 (bget bs2 0)) fun r4 =>
    bindO (lenL (demote (demote r4))) fun r5 =>
    bindO (binV none .lss (demote (demote (vget vs1 1))) (demote r5)) fun r6 =>
    ifP r6
      (bindO (partV false 1 1 (bget bs2 0)) fun r7 =>
      bindO (elemPtr 5 (demote (demote r7)) (demote (demote (vget vs1 1)))) fun r8 =>
      bindO (addOffV (demote r8) 0) fun r9 =>
      bindO (loadV false 1 (demote r9)) fun r10 =>
      bindO (binV (some (false, [.str])) .eql (demote r10) (demote (demote (vget vs1 0)))) fun r11 =>
      ifP r11
        (bindO (partV false 1 1 (bget bs2 0)) fun r12 =>
        bindO (elemPtr 5 (demote (demote r12)) (demote (demote (vget vs1 1)))) fun r13 =>
        bindO (addOffV (demote r13) 1) fun r14 =>
        bindO (loadV true 4 (demote r14)) fun r15 =>
        bindO (partV false 1 0 (bget bs2 0)) fun r16 =>
        bindO (lenL (demote (demote r16))) fun r17 =>
        callP C 27 [(demote (demote r17))] fun r18 =>
        callP C 28 [(demote (demote r15)), (demote (demote r18))] fun r19 =>
        bindO (cellsV (demote r19)) fun r20 =>
        (List.length r20) = 4 ∧
        4 ≤ (List.length (bget bs2 1)) ∧
        bindO (partV true 4 0 (setAt (bget bs2 1) 0 r20)) fun r21 =>
        (SV.noRef (demote r21)) = true ∧
        (SV.noRef (.d (.bool true))) = true ∧
        (K (.tup [(demote r21), (.d (.bool true))])))
        (bindO (binV none .add (demote (demote (vget vs1 1))) (.d (.int .i64 1))) fun r22 =>
        (I3 [(vget vs1 0), (demote r22)] [(Box.vals (Box.cells (bget bs2 0))), (Box.vals (Box.cells (bget bs2 1)))])))
      (bindO (partsS []) fun r23 =>
      bindO (buildD Proofs.Try.prog 35 r23) fun r24 =>
      bindO (cellsV (.d r24)) fun r25 =>
      (List.length r25) = 4 ∧
      4 ≤ (List.length (bget bs2 1)) ∧
      bindO (partV true 4 0 (setAt (bget bs2 1) 0 r25)) fun r26 =>
      (SV.noRef (demote r26)) = true ∧
      (SV.noRef (.d (.bool false))) = true ∧
      (K (.tup [(demote r26), (.d (.bool false))]))))
  [x0, (.d (.int .i64 0))] [(Box.vals (Box.cells r0)), [(.d (.int .u64 0)), (.d (.int .u64 0)), (.d (.int .u64 0)), (.d (.int .u64 0))]])) := by kernel_rfl

theorem body14 (C : Con) (x0 x1 : SV) (K : SV → Prop) : body Go.Proofs.Try.prog gl C h14 14 [x0, x1] K = (
  wfP [x0, x1] (
  bindO (cellsV (demote x0)) fun r0 =>
  (List.length r0) = 5 ∧
  bindO (cellsV (demote x1)) fun r1 =>
  (List.length r1) = 2 ∧
  bindO (partV true 5 0 r0) fun r2 =>
  bindO (partV false 1 0 r1) fun r3 =>
  bindO (lenL (demote (demote r3))) fun r4 =>
  callP C 36 [(demote (demote r4))] fun r5 =>
  ∃ r6,
  ∃ r7,
  (C 37 [(demote (demote (demote r2))), (demote (demote r5)), (.clo (.func 38) [] [(.ref (List.map demote r1) 0)])] (.tup [r6, r7])) ∧
  bindO (cellsV (demote (demote (demote r6)))) fun r8 =>
  (List.length r8) = 4 ∧
  4 ≤ 4 ∧
  bindO (unV .not (demote (demote (demote (demote (demote r7)))))) fun r9 =>
  ifP r9
    (bindO (partsS []) fun r10 =>
    bindO (buildD Proofs.Try.prog 35 r10) fun r11 =>
    bindO (cellsV (.d r11)) fun r12 =>
    (List.length r12) = 4 ∧
    4 ≤ 4 ∧
    bindO (partV true 4 0 (setAt [(.d (.int .u64 0)), (.d (.int .u64 0)), (.d (.int .u64 0)), (.d (.int .u64 0))] 0 r12)) fun r13 =>
    (SV.noRef (demote r13)) = true ∧
    (SV.noRef (.d (.int .i64 11))) = true ∧
    (K (.tup [(demote r13), (.d (.int .i64 11))])))
    (bindO (partV true 4 0 (setAt [(.d (.int .u64 0)), (.d (.int .u64 0)), (.d (.int .u64 0)), (.d (.int .u64 0))] 0 r8)) fun r14 =>
    bindO (cellsV (demote (demote r14))) fun r15 =>
    (List.length r15) = 4 ∧
    4 ≤ 4 ∧
    bindO (partV true 4 0 (setAt [(.d (.int .u64 0)), (.d (.int .u64 0)), (.d (.int .u64 0)), (.d (.int .u64 0))] 0 r15)) fun r16 =>
    (SV.noRef (demote r16)) = true ∧
    (SV.noRef (.d (.int .i64 0))) = true ∧
    (K (.tup [(demote r16), (.d (.int .i64 0))]))))) := by kernel_rfl

theorem body15 (C : Con) (x0 x1 : SV) (K : SV → Prop) : body Go.Proofs.Try.prog gl C h15 15 [x0, x1] K = (
  wfP [x0, x1] (
  bindO (cellsV (demote x0)) fun r0 =>
  (List.length r0) = 5 ∧
  bindO (cellsV (demote x1)) fun r1 =>
  (List.length r1) = 2 ∧
  bindO (partV false 1 3 r0) fun r2 =>
  bindO (partV true 2 0 r1) fun r3 =>
  ∃ r4,
  ∃ r5,
  (C 40 [(demote (demote (demote r2))), (demote (demote (demote r3)))] (.tup [r4, r5])) ∧
  bindO (cellsV (demote (demote (demote r4)))) fun r6 =>
  (List.length r6) = 4 ∧
  4 ≤ 4 ∧
  bindO (partV false 1 4 r0) fun r7 =>
  bindO (partV true 2 0 r1) fun r8 =>
  ∃ r9,
  ∃ r10,
  (C 40 [(demote (demote (demote r7))), (demote (demote (demote r8)))] (.tup [r9, r10])) ∧
  bindO (cellsV (demote (demote (demote r9)))) fun r11 =>
  (List.length r11) = 4 ∧
  4 ≤ 4 ∧
  bindO (unV .not (demote (demote (demote (demote (demote r5)))))) fun r12 =>
  ifP (demote r12)
    (bindO (partsS []) fun r13 =>
    bindO (buildD Proofs.Try.prog 35 r13) fun r14 =>
    bindO (cellsV (.d r14)) fun r15 =>
    (List.length r15) = 4 ∧
    4 ≤ 4 ∧
    bindO (partV true 4 0 (setAt [(.d (.int .u64 0)), (.d (.int .u64 0)), (.d (.int .u64 0)), (.d (.int .u64 0))] 0 r15)) fun r16 =>
    (SV.noRef (demote r16)) = true ∧
    (SV.noRef (.d (.int .i64 11))) = true ∧
    (K (.tup [(demote r16), (.d (.int .i64 11))])))
    (bindO (unV .not (demote (demote (demote (demote (demote r10)))))) fun r17 =>
    ifP (demote r17)
      (bindO (partsS []) fun r18 =>
      bindO (buildD Proofs.Try.prog 35 r18) fun r19 =>
      bindO (cellsV (.d r19)) fun r20 =>
      (List.length r20) = 4 ∧
      4 ≤ 4 ∧
      bindO (partV true 4 0 (setAt [(.d (.int .u64 0)), (.d (.int .u64 0)), (.d (.int .u64 0)), (.d (.int .u64 0))] 0 r20)) fun r21 =>
      (SV.noRef (demote r21)) = true ∧
      (SV.noRef (.d (.int .i64 11))) = true ∧
      (K (.tup [(demote r21), (.d (.int .i64 11))])))
      (bindO (partV true 5 0 r0) fun r22 =>
      bindO (partV true 4 0 (setAt [(.d (.int .u64 0)), (.d (.int .u64 0)), (.d (.int .u64 0)), (.d (.int .u64 0))] 0 r6)) fun r23 =>
      bindO (partV true 4 0 (setAt [(.d (.int .u64 0)), (.d (.int .u64 0)), (.d (.int .u64 0)), (.d (.int .u64 0))] 0 r11)) fun r24 =>
      bindO (partV false 1 0 r1) fun r25 =>
      bindO (lenL (demote (demote r25))) fun r26 =>
      callP C 41 [(demote (demote (demote r22))), (demote (demote (demote r23))), (demote (demote (demote r24))), (demote (demote r26))] fun r27 =>
      bindO (cellsV (demote r27)) fun r28 =>
      (List.length r28) = 4 ∧
      4 ≤ 4 ∧
      bindO (partV true 4 0 (setAt [(.d (.int .u64 0)), (.d (.int .u64 0)), (.d (.int .u64 0)), (.d (.int .u64 0))] 0 r28)) fun r29 =>
      (SV.noRef (demote r29)) = true ∧
      (SV.noRef (.d (.int .i64 0))) = true ∧
      (K (.tup [(demote r29), (.d (.int .i64 0))])))))) := by kernel_rfl

theorem body16 (C : Con) (x0 x1 : SV) (K : SV → Prop) : body Go.Proofs.Try.prog gl C h16 16 [x0, x1] K = (
  wfP [x0, x1] (
  bindO (cellsV (demote x0)) fun r0 =>
  (List.length r0) = 5 ∧
  bindO (partV true 5 0 r0) fun r1 =>
  ∃ r2,
  ∃ r3,
  (C 42 [(demote (demote (demote r1))), (demote (demote (demote x1))), (.d (.int .i64 256))] (.tup [r2, r3])) ∧
  bindO (cellsV (demote (demote (demote r2)))) fun r4 =>
  (List.length r4) = 4 ∧
  4 ≤ 4 ∧
  bindO (unV .not (demote (demote (demote (demote (demote r3)))))) fun r5 =>
  ifP r5
    (bindO (partsS []) fun r6 =>
    bindO (buildD Proofs.Try.prog 35 r6) fun r7 =>
    bindO (cellsV (.d r7)) fun r8 =>
    (List.length r8) = 4 ∧
    4 ≤ 4 ∧
    bindO (partV true 4 0 (setAt [(.d (.int .u64 0)), (.d (.int .u64 0)), (.d (.int .u64 0)), (.d (.int .u64 0))] 0 r8)) fun r9 =>
    (SV.noRef (demote r9)) = true ∧
    (SV.noRef (.d (.int .i64 11))) = true ∧
    (K (.tup [(demote r9), (.d (.int .i64 11))])))
    (bindO (partV true 4 0 (setAt [(.d (.int .u64 0)), (.d (.int .u64 0)), (.d (.int .u64 0)), (.d (.int .u64 0))] 0 r4)) fun r10 =>
    bindO (cellsV (demote (demote r10))) fun r11 =>
    (List.length r11) = 4 ∧
    4 ≤ 4 ∧
    bindO (partV true 4 0 (setAt [(.d (.int .u64 0)), (.d (.int .u64 0)), (.d (.int .u64 0)), (.d (.int .u64 0))] 0 r11)) fun r12 =>
    (SV.noRef (demote r12)) = true ∧
    (SV.noRef (.d (.int .i64 0))) = true ∧
    (K (.tup [(demote r12), (.d (.int .i64 0))]))))) := by kernel_rfl

theorem body17 (C : Con) (x0 x1 : SV) (K : SV → Prop) : body Go.Proofs.Try.prog gl C h17 17 [x0, x1] K = (
  wfP [x0, x1] (
  bindO (cellsV (demote x0)) fun r0 =>
  (List.length r0) = 5 ∧
  bindO (partV true 5 0 r0) fun r1 =>
  ∃ r2,
  ∃ r3,
  (C 43 [(demote (demote (demote r1))), (demote (demote (demote x1))), (.d (.int .i64 256))] (.tup [r2, r3])) ∧
  bindO (cellsV (demote (demote (demote r2)))) fun r4 =>
  (List.length r4) = 4 ∧
  4 ≤ 4 ∧
  bindO (unV .not (demote (demote (demote (demote (demote r3)))))) fun r5 =>
  ifP r5
    (bindO (partsS []) fun r6 =>
    bindO (buildD Proofs.Try.prog 35 r6) fun r7 =>
    bindO (cellsV (.d r7)) fun r8 =>
    (List.length r8) = 4 ∧
    4 ≤ 4 ∧
    bindO (partV true 4 0 (setAt [(.d (.int .u64 0)), (.d (.int .u64 0)), (.d (.int .u64 0)), (.d (.int .u64 0))] 0 r8)) fun r9 =>
    (SV.noRef (demote r9)) = true ∧
    (SV.noRef (.d (.int .i64 11))) = true ∧
    (K (.tup [(demote r9), (.d (.int .i64 11))])))
    (bindO (partV true 4 0 (setAt [(.d (.int .u64 0)), (.d (.int .u64 0)), (.d (.int .u64 0)), (.d (.int .u64 0))] 0 r4)) fun r10 =>
    bindO (cellsV (demote (demote r10))) fun r11 =>
    (List.length r11) = 4 ∧
    4 ≤ 4 ∧
    bindO (partV true 4 0 (setAt [(.d (.int .u64 0)), (.d (.int .u64 0)), (.d (.int .u64 0)), (.d (.int .u64 0))] 0 r11)) fun r12 =>
    (SV.noRef (demote r12)) = true ∧
    (SV.noRef (.d (.int .i64 0))) = true ∧
    (K (.tup [(demote r12), (.d (.int .i64 0))]))))) := by kernel_rfl

theorem body18 (C : Con) (x0 x1 : SV) (K : SV → Prop) : body Go.Proofs.Try.prog gl C h18 18 [x0, x1] K = (
  wfP [x0, x1] (
  bindO (cellsV (demote x0)) fun r0 =>
  (List.length r0) = 5 ∧
  bindO (lenL (demote (demote x1))) fun r1 =>
  loopP (fun vs2 bs3 I4 =>
    bindO (binV none .lss (demote (vget vs2 3)) (demote (vget vs2 2))) fun r5 =>
    ifP r5
      (bindO (elemPtr 2 (demote (vget vs2 1)) (demote (vget vs2 3))) fun r6 =>
      bindO (loadV true 2 (demote r6)) fun r7 =>
      bindO (cellsV (demote r7)) fun r8 =>
      (List.length r8) = 2 ∧
      2 ≤ 2 ∧
      bindO (partV false 1 0 (setAt [(.d (.str [])), (.d (.sl .nil 0 []))] 0 r8)) fun r9 =>
      bindO (partsS [(0, (.v (demote (demote r9))))]) fun r10 =>
      (partsFit 1 1 r10) = true ∧
      appP 1 16 (vget vs2 0) (.full 1 (buildElems (mkElem false [(.str [])]) r10 1 0)) fun r11 =>
      bindO (binV none .add (demote (vget vs2 3)) (.d (.int .i64 1))) fun r12 =>
      (I4 [r11, (vget vs2 1), (vget vs2 2), (demote r12)] [(Box.vals (Box.cells (bget bs3 0))), (Box.vals (Box.cells (bget bs3 1)))]))
      (bindO (partV true 5 0 (bget bs3 0)) fun r13 =>
      ∃ r14,
      ∃ r15,
      (C 42 [(demote (demote (demote r13))), (demote (demote (demote (vget vs2 0)))), (.d (.int .i64 256))] (.tup [r14, r15])) ∧
      bindO (cellsV (demote (demote (demote r14)))) fun r16 =>
      (List.length r16) = 4 ∧
      4 ≤ 4 ∧
      bindO (unV .not (demote (demote (demote (demote (demote r15)))))) fun r17 =>
      ifP r17
        (bindO (partsS []) fun r18 =>
        bindO (buildD Proofs.Try.prog 35 r18) fun r19 =>
        bindO (cellsV (.d r19)) fun r20 =>
        (List.length r20) = 4 ∧
        4 ≤ (List.length (bget bs3 1)) ∧
        bindO (partV true 4 0 (setAt (bget bs3 1) 0 r20)) fun r21 =>
        (SV.noRef (demote r21)) = true ∧
        (SV.noRef (.d (.int .i64 20))) = true ∧
        (K (.tup [(demote r21), (.d (.int .i64 20))])))
        (bindO (partV true 4 0 (setAt [(.d (.int .u64 0)), (.d (.int .u64 0)), (.d (.int .u64 0)), (.d (.int .u64 0))] 0 r16)) fun r22 =>
        bindO (cellsV (demote (demote r22))) fun r23 =>
        (List.length r23) = 4 ∧
        4 ≤ (List.length (bget bs3 1)) ∧
        bindO (partV true 4 0 (setAt (bget bs3 1) 0 r23)) fun r24 =>
        (SV.noRef (demote r24)) = true ∧
        (SV.noRef (.d (.int .i64 0))) = true ∧
        (K (.tup [(demote r24), (.d (.int .i64 0))])))))
  [(.d (.sl .nil 0 [])), (demote x1), r1, (.d (.int .i64 0))] [(Box.vals (Box.cells r0)), [(.d (.int .u64 0)), (.d (.int .u64 0)), (.d (.int .u64 0)), (.d (.int .u64 0))]])) := by kernel_rfl

theorem body19 (C : Con) (x0 x1 : SV) (K : SV → Prop) : body Go.Proofs.Try.prog gl C h19 19 [x0, x1] K = (
  wfP [x0, x1] (
  bindO (cellsV (demote x0)) fun r0 =>
  (List.length r0) = 5 ∧
  loopP (fun vs1 bs2 I3 =>
    bindO (lenL (demote (demote (vget vs1 0)))) fun r4 =>
    bindO (binV none .lss (demote (demote (vget vs1 2))) (demote r4)) fun r5 =>
    ifP r5
      (bindO (elemPtr 2 (demote (demote (vget vs1 0))) (demote (demote (vget vs1 2)))) fun r6 =>
      bindO (addOffV (demote r6) 0) fun r7 =>
      bindO (loadV false 1 (demote r7)) fun r8 =>
      bindO (partsS [(0, (.v (demote r8)))]) fun r9 =>
      (partsFit 1 1 r9) = true ∧
      appP 1 16 (vget vs1 1) (.full 1 (buildElems (mkElem false [(.str [])]) r9 1 0)) fun r10 =>
      bindO (binV none .add (demote (demote (vget vs1 2))) (.d (.int .i64 1))) fun r11 =>
      (I3 [(vget vs1 0), r10, (demote r11)] [(Box.vals (Box.cells (bget bs2 0))), (Box.vals (Box.cells (bget bs2 1)))]))
      (bindO (partV true 5 0 (bget bs2 0)) fun r12 =>
      ∃ r13,
      ∃ r14,
      (C 43 [(demote (demote (demote r12))), (demote (demote (demote (vget vs1 1)))), (.d (.int .i64 256))] (.tup [r13, r14])) ∧
      bindO (cellsV (demote (demote (demote r13)))) fun r15 =>
      (List.length r15) = 4 ∧
      4 ≤ 4 ∧
      bindO (unV .not (demote (demote (demote (demote (demote r14)))))) fun r16 =>
      ifP r16
        (bindO (partsS []) fun r17 =>
        bindO (buildD Proofs.Try.prog 35 r17) fun r18 =>
        bindO (cellsV (.d r18)) fun r19 =>
        (List.length r19) = 4 ∧
        4 ≤ (List.length (bget bs2 1)) ∧
        bindO (partV true 4 0 (setAt (bget bs2 1) 0 r19)) fun r20 =>
        (SV.noRef (demote r20)) = true ∧
        (SV.noRef (.d (.int .i64 20))) = true ∧
        (K (.tup [(demote r20), (.d (.int .i64 20))])))
        (bindO (partV true 4 0 (setAt [(.d (.int .u64 0)), (.d (.int .u64 0)), (.d (.int .u64 0)), (.d (.int .u64 0))] 0 r15)) fun r21 =>
        bindO (cellsV (demote (demote r21))) fun r22 =>
        (List.length r22) = 4 ∧
        4 ≤ (List.length (bget bs2 1)) ∧
        bindO (partV true 4 0 (setAt (bget bs2 1) 0 r22)) fun r23 =>
        (SV.noRef (demote r23)) = true ∧
        (SV.noRef (.d (.int .i64 0))) = true ∧
        (K (.tup [(demote r23), (.d (.int .i64 0))])))))
  [x1, (.d (.sl .nil 0 [])), (.d (.int .i64 0))] [(Box.vals (Box.cells r0)), [(.d (.int .u64 0)), (.d (.int .u64 0)), (.d (.int .u64 0)), (.d (.int .u64 0))]])) := by kernel_rfl

theorem body20 (C : Con) (x0 x1 : SV) (K : SV → Prop) : body Go.Proofs.Try.prog gl C h20 20 [x0, x1] K = (
  wfP [x0, x1] (
  bindO (cellsV (demote x0)) fun r0 =>
  (List.length r0) = 5 ∧
  bindO (cellsV (demote x1)) fun r1 =>
  (List.length r1) = 2 ∧
  bindO (partV true 5 0 r0) fun r2 =>
  bindO (partV false 1 1 r1) fun r3 =>
  ∃ r4,
  ∃ r5,
  (C 42 [(demote (demote (demote r2))), (demote (demote (demote r3))), (.d (.int .i64 32))] (.tup [r4, r5])) ∧
  bindO (cellsV (demote (demote (demote r4)))) fun r6 =>
  (List.length r6) = 4 ∧
  4 ≤ 4 ∧
  bindO (unV .not (demote (demote (demote (demote (demote r5)))))) fun r7 =>
  ifP r7
    ((SV.noRef (.d (.int .u32 0))) = true ∧
    (SV.noRef (.d (.int .i64 21))) = true ∧
    (K (.tup [(.d (.int .u32 0)), (.d (.int .i64 21))])))
    (bindO (indexOk (.d (.int .i64 0)) 4) fun r8 =>
    bindO (partV false 1 (0 + (r8 * 1)) (setAt [(.d (.int .u64 0)), (.d (.int .u64 0)), (.d (.int .u64 0)), (.d (.int .u64 0))] 0 r6)) fun r9 =>
    bindO (convI .u32 (demote (demote r9))) fun r10 =>
    (SV.noRef (demote r10)) = true ∧
    (SV.noRef (.d (.int .i64 0))) = true ∧
    (K (.tup [(demote r10), (.d (.int .i64 0))]))))) := by kernel_rfl

theorem body21 (C : Con) (x0 x1 : SV) (K : SV → Prop) : body Go.Proofs.Try.prog gl C h21 21 [x0, x1] K = (
  wfP [x0, x1] (
  bindO (cellsV (demote x0)) fun r0 =>
  (List.length r0) = 5 ∧
  bindO (cellsV (demote x1)) fun r1 =>
  (List.length r1) = 2 ∧
  bindO (partV true 5 0 r0) fun r2 =>
  bindO (partV false 1 1 r1) fun r3 =>
  ∃ r4,
  ∃ r5,
  (C 43 [(demote (demote (demote r2))), (demote (demote (demote r3))), (.d (.int .i64 32))] (.tup [r4, r5])) ∧
  bindO (cellsV (demote (demote (demote r4)))) fun r6 =>
  (List.length r6) = 4 ∧
  4 ≤ 4 ∧
  bindO (unV .not (demote (demote (demote (demote (demote r5)))))) fun r7 =>
  ifP r7
    ((SV.noRef (.d (.int .u32 0))) = true ∧
    (SV.noRef (.d (.int .i64 21))) = true ∧
    (K (.tup [(.d (.int .u32 0)), (.d (.int .i64 21))])))
    (bindO (indexOk (.d (.int .i64 0)) 4) fun r8 =>
    bindO (partV false 1 (0 + (r8 * 1)) (setAt [(.d (.int .u64 0)), (.d (.int .u64 0)), (.d (.int .u64 0)), (.d (.int .u64 0))] 0 r6)) fun r9 =>
    bindO (convI .u32 (demote (demote r9))) fun r10 =>
    (SV.noRef (demote r10)) = true ∧
    (SV.noRef (.d (.int .i64 0))) = true ∧
    (K (.tup [(demote r10), (.d (.int .i64 0))]))))) := by kernel_rfl

theorem body22 (C : Con) (x0 x1 : SV) (K : SV → Prop) : body Go.Proofs.Try.prog gl C h22 22 [x0, x1] K = (
  wfP [x0, x1] (
  bindO (cellsV (demote x0)) fun r0 =>
  (List.length r0) = 4 ∧
  bindO (lenL (demote (demote x1))) fun r1 =>
  loopP (fun vs2 bs3 I4 =>
    bindO (binV none .lss (demote (vget vs2 2)) (demote (vget vs2 1))) fun r5 =>
    ifP r5
      (bindO (elemPtr 3 (demote (vget vs2 0)) (demote (vget vs2 2))) fun r6 =>
      bindO (loadV true 3 (demote r6)) fun r7 =>
      bindO (cellsV (demote r7)) fun r8 =>
      (List.length r8) = 3 ∧
      3 ≤ 3 ∧
      bindO (partV true 4 0 (bget bs3 0)) fun r9 =>
      callP C 44 [(demote (demote (demote r9))), (demote (demote (demote (demote (demote (vget vs2 2))))))] fun r10 =>
      ifP r10
        (bindO ((bget bs3 2)[3]?) fun r11 =>
        bindO (partV false 1 0 (setAt [(.d (.str [])), (.d (.sl .nil 0 [])), (.d (.bool false))] 0 r8)) fun r12 =>
        bindO (partsS [(0, (.v (demote (demote r12))))]) fun r13 =>
        (partsFit 1 1 r13) = true ∧
        appP 1 16 r11 (.full 1 (buildElems (mkElem false [(.str [])]) r13 1 0)) fun r14 =>
        bindO (cellsV r14) fun r15 =>
        (List.length r15) = 1 ∧
        3 < (List.length (List.set (bget bs3 2) 3 (demote r11))) ∧
        bindO (binV none .add (demote (vget vs2 2)) (.d (.int .i64 1))) fun r16 =>
        (I4 [(vget vs2 0), (vget vs2 1), (demote r16)] [(Box.vals (Box.cells (bget bs3 0))), (Box.vals (Box.cells (bget bs3 1))), (Box.vals (Box.cells (setAt (List.set (bget bs3 2) 3 (demote r11)) 3 r15)))]))
        (bindO (binV none .add (demote (vget vs2 2)) (.d (.int .i64 1))) fun r17 =>
        (I4 [(vget vs2 0), (vget vs2 1), (demote r17)] [(Box.vals (Box.cells (bget bs3 0))), (Box.vals (Box.cells (bget bs3 1))), (Box.vals (Box.cells (bget bs3 2)))])))
      (bindO (partV true 5 0 (bget bs3 2)) fun r18 =>
      bindO (cellsV (demote (demote r18))) fun r19 =>
      (List.length r19) = 5 ∧
      5 ≤ (List.length (bget bs3 1)) ∧
      bindO (partV true 5 0 (setAt (bget bs3 1) 0 r19)) fun r20 =>
      (SV.noRef (demote r20)) = true ∧
      (K (demote r20))))
  [(demote x1), r1, (.d (.int .i64 0))] [(Box.vals (Box.cells r0)), [(.d (.bool false)), (.d (.bool false)), (.d (.bool false)), (.d (.sl .nil 0 [])), (.d (.sl .nil 0 []))], [(.d (.bool false)), (.d (.bool false)), (.d (.bool false)), (.d (.sl .nil 0 [])), (.d (.sl .nil 0 []))]])) := by kernel_rfl

theorem body23 (C : Con) (x0 x1 : SV) (K : SV → Prop) : body Go.Proofs.Try.prog gl C h23 23 [x0, x1] K = (
  wfP [x0, x1] (
  bindO (cellsV (demote x1)) fun r0 =>
  (List.length r0) = 2 ∧
  bindO (partV false 1 1 r0) fun r1 =>
  bindO (lenL (demote (demote r1))) fun r2 =>
  loopP (fun vs3 bs4 I5 =>
    bindO (binV none .lss (demote (vget vs3 4)) (demote (vget vs3 3))) fun r6 =>
    ifP r6
      (bindO (elemPtr 1 (demote (vget vs3 2)) (demote (vget vs3 4))) fun r7 =>
      bindO (loadV false 1 (demote r7)) fun r8 =>
      bindO (binV none .lss (demote (demote (demote (demote (vget vs3 4))))) (.d (.int .i64 32))) fun r9 =>
      ifP (demote r9)
        (bindO (binV none .shr (demote (demote (vget vs3 0))) (demote (demote (demote (demote (vget vs3 4)))))) fun r10 =>
        bindO (binV none .and (demote r10) (.d (.int .u32 1))) fun r11 =>
        bindO (binV (some (false, [.int])) .eql (demote r11) (.d (.int .u32 1))) fun r12 =>
        ifP (demote r12)
          (bindO (partsS [(0, (.v (demote (demote (demote r8)))))]) fun r13 =>
          (partsFit 1 1 r13) = true ∧
          appP 1 16 (vget vs3 1) (.full 1 (buildElems (mkElem false [(.str [])]) r13 1 0)) fun r14 =>
          bindO (binV none .add (demote (vget vs3 4)) (.d (.int .i64 1))) fun r15 =>
          (I5 [(vget vs3 0), r14, (vget vs3 2), (vget vs3 3), (demote r15)] [(Box.vals (Box.cells (bget bs4 0)))]))
          (bindO (binV none .add (demote (vget vs3 4)) (.d (.int .i64 1))) fun r16 =>
          (I5 [(vget vs3 0), (vget vs3 1), (vget vs3 2), (vget vs3 3), (demote r16)] [(Box.vals (Box.cells (bget bs4 0)))])))
        (bindO (binV none .add (demote (vget vs3 4)) (.d (.int .i64 1))) fun r17 =>
        (I5 [(vget vs3 0), (vget vs3 1), (vget vs3 2), (vget vs3 3), (demote r17)] [(Box.vals (Box.cells (bget bs4 0)))])))
      ((SV.noRef (vget vs3 1)) = true ∧
      (K (vget vs3 1))))
  [x0, (.d (.sl .nil 0 [])), (demote r1), r2, (.d (.int .i64 0))] [(Box.vals (Box.cells r0))])) := by kernel_rfl

theorem body24 (C : Con) (x0 x1 : SV) (K : SV → Prop) : body Go.Proofs.Try.prog gl C h24 24 [x0, x1] K = (
  wfP [x0, x1] (
  bindO (lenL (demote (demote x0))) fun r0 =>
  bindO (lenL (demote (demote x1))) fun r1 =>
  bindO (binV (some (false, [.int])) .neq (demote r0) (demote r1)) fun r2 =>
  ifP r2
    ((SV.noRef (.d (.bool false))) = true ∧
    (K (.d (.bool false))))
    (loopP (fun vs3 bs4 I5 =>
      bindO (lenL (demote (demote (vget vs3 0)))) fun r6 =>
      bindO (binV none .lss (demote (demote (vget vs3 2))) (demote r6)) fun r7 =>
      ifP r7
        (bindO (elemPtr 1 (demote (demote (vget vs3 0))) (demote (demote (vget vs3 2)))) fun r8 =>
        bindO (loadV false 1 (demote r8)) fun r9 =>
        bindO (elemPtr 1 (demote (demote (vget vs3 1))) (demote (demote (vget vs3 2)))) fun r10 =>
        bindO (loadV false 1 (demote r10)) fun r11 =>
        bindO (binV (some (false, [.str])) .neq (demote r9) (demote r11)) fun r12 =>
        ifP r12
          ((SV.noRef (.d (.bool false))) = true ∧
          (K (.d (.bool false))))
          (bindO (binV none .add (demote (demote (vget vs3 2))) (.d (.int .i64 1))) fun r13 =>
          (I5 [(vget vs3 0), (vget vs3 1), (demote r13)] [])))
        ((SV.noRef (.d (.bool true))) = true ∧
        (K (.d (.bool true)))))
    [x0, x1, (.d (.int .i64 0))] []))) := by kernel_rfl

theorem body25 (C : Con) (x0 x1 : SV) (K : SV → Prop) : body Go.Proofs.Try.prog gl C h25 25 [x0, x1] K = (
  wfP [x0, x1] (
  bindO (cellsV (demote x0)) fun r0 =>
  (List.length r0) = 4 ∧
  loopP (fun vs1 bs2 I3 =>
    bindO (lenL (demote (demote (vget vs1 0)))) fun r4 =>
    bindO (binV none .lss (demote (demote (vget vs1 1))) (demote r4)) fun r5 =>
    ifP r5
      (bindO (partV true 4 0 (bget bs2 0)) fun r6 =>
      callP C 45 [(demote (demote (demote r6))), (demote (demote (demote (vget vs1 1))))] fun r7 =>
      ifP r7
        (bindO ((bget bs2 2)[3]?) fun r8 =>
        bindO (elemPtr 3 (demote (demote (vget vs1 0))) (demote (demote (vget vs1 1)))) fun r9 =>
        bindO (addOffV (demote r9) 0) fun r10 =>
        bindO (loadV false 1 (demote r10)) fun r11 =>
        bindO (partsS [(0, (.v (demote r11)))]) fun r12 =>
        (partsFit 1 1 r12) = true ∧
        appP 1 16 r8 (.full 1 (buildElems (mkElem false [(.str [])]) r12 1 0)) fun r13 =>
        bindO (cellsV r13) fun r14 =>
        (List.length r14) = 1 ∧
        3 < (List.length (List.set (bget bs2 2) 3 (demote r8))) ∧
        bindO (binV none .add (demote (demote (vget vs1 1))) (.d (.int .i64 1))) fun r15 =>
        (I3 [(vget vs1 0), (demote r15)] [(Box.vals (Box.cells (bget bs2 0))), (Box.vals (Box.cells (bget bs2 1))), (Box.vals (Box.cells (setAt (List.set (bget bs2 2) 3 (demote r8)) 3 r14)))]))
        (bindO (binV none .add (demote (demote (vget vs1 1))) (.d (.int .i64 1))) fun r16 =>
        (I3 [(vget vs1 0), (demote r16)] [(Box.vals (Box.cells (bget bs2 0))), (Box.vals (Box.cells (bget bs2 1))), (Box.vals (Box.cells (bget bs2 2)))])))
      (bindO (partV true 5 0 (bget bs2 2)) fun r17 =>
      bindO (cellsV (demote (demote r17))) fun r18 =>
      (List.length r18) = 5 ∧
      5 ≤ (List.length (bget bs2 1)) ∧
      bindO (partV true 5 0 (setAt (bget bs2 1) 0 r18)) fun r19 =>
      (SV.noRef (demote r19)) = true ∧
      (K (demote r19))))
  [x1, (.d (.int .i64 0))] [(Box.vals (Box.cells r0)), [(.d (.bool false)), (.d (.bool false)), (.d (.bool false)), (.d (.sl .nil 0 [])), (.d (.sl .nil 0 []))], [(.d (.bool false)), (.d (.bool false)), (.d (.bool false)), (.d (.sl .nil 0 [])), (.d (.sl .nil 0 []))]])) := by kernel_rfl

theorem body26 (C : Con) (x0 x1 : SV) (K : SV → Prop) : body Go.Proofs.Try.prog gl C h26 26 [x0, x1] K = (
  wfP [x0, x1] (
  bindO (cellsV (demote x1)) fun r0 =>
  (List.length r0) = 2 ∧
  loopP (fun vs1 bs2 I3 =>
    bindO (partV false 1 1 (bget bs2 0)) fun r4 =>
    bindO (lenL (demote (demote r4))) fun r5 =>
    bindO (binV none .lss (demote (demote (vget vs1 2))) (demote r5)) fun r6 =>
    ifP (demote r6)
      (bindO (binV none .lss (demote (demote (vget vs1 2))) (.d (.int .i64 32))) fun r7 =>
      ifP (demote r7)
        (bindO (convI .u64 (demote (demote (vget vs1 2)))) fun r8 =>
        bindO (binV none .shr (demote (demote (vget vs1 0))) (demote r8)) fun r9 =>
        bindO (binV none .and (demote r9) (.d (.int .u32 1))) fun r10 =>
        bindO (binV (some (false, [.int])) .eql (demote r10) (.d (.int .u32 1))) fun r11 =>
        ifP r11
          (bindO (partV false 1 1 (bget bs2 0)) fun r12 =>
          bindO (elemPtr 1 (demote (demote r12)) (demote (demote (vget vs1 2)))) fun r13 =>
          bindO (loadV false 1 (demote r13)) fun r14 =>
          bindO (partsS [(0, (.v (demote r14)))]) fun r15 =>
          (partsFit 1 1 r15) = true ∧
          appP 1 16 (vget vs1 1) (.full 1 (buildElems (mkElem false [(.str [])]) r15 1 0)) fun r16 =>
          bindO (binV none .add (demote (demote (vget vs1 2))) (.d (.int .i64 1))) fun r17 =>
          (I3 [(vget vs1 0), r16, (demote r17)] [(Box.vals (Box.cells (bget bs2 0)))]))
          (bindO (binV none .add (demote (demote (vget vs1 2))) (.d (.int .i64 1))) fun r18 =>
          (I3 [(vget vs1 0), (vget vs1 1), (demote r18)] [(Box.vals (Box.cells (bget bs2 0)))])))
        ((SV.noRef (vget vs1 1)) = true ∧
        (K (vget vs1 1))))
      ((SV.noRef (vget vs1 1)) = true ∧
      (K (vget vs1 1))))
  [x0, (.d (.sl .nil 0 [])), (.d (.int .i64 0))] [(Box.vals (Box.cells r0))])) := by kernel_rfl

theorem body27 (C : Con) (x0 : SV) (K : SV → Prop) : body Go.Proofs.Try.prog gl C h27 27 [x0] K = (
  wfP [x0] (
  bindO (partsS []) fun r0 =>
  bindO (buildD Proofs.Try.prog 35 r0) fun r1 =>
  bindO (cellsV (.d r1)) fun r2 =>
  (List.length r2) = 4 ∧
  4 ≤ 4 ∧
  loopP (fun vs3 bs4 I5 =>
    bindO (binV none .lss (demote (demote (vget vs3 1))) (demote (demote (vget vs3 0)))) fun r6 =>
    ifP (demote r6)
      (bindO (binV none .lss (demote (demote (vget vs3 1))) (.d (.int .i64 256))) fun r7 =>
      ifP (demote r7)
        (bindO (partV true 4 0 (bget bs4 1)) fun r8 =>
        callP C 46 [(demote (demote (demote r8))), (demote (demote (demote (vget vs3 1))))] fun r9 =>
        bindO (cellsV (demote r9)) fun r10 =>
        (List.length r10) = 4 ∧
        4 ≤ (List.length (bget bs4 1)) ∧
        bindO (binV none .add (demote (demote (vget vs3 1))) (.d (.int .i64 1))) fun r11 =>
        (I5 [(vget vs3 0), (demote r11)] [(Box.vals (Box.cells (bget bs4 0))), (Box.vals (Box.cells (setAt (bget bs4 1) 0 r10)))]))
        (bindO (partV true 4 0 (bget bs4 1)) fun r12 =>
        bindO (cellsV (demote (demote r12))) fun r13 =>
        (List.length r13) = 4 ∧
        4 ≤ (List.length (bget bs4 0)) ∧
        bindO (partV true 4 0 (setAt (bget bs4 0) 0 r13)) fun r14 =>
        (SV.noRef (demote r14)) = true ∧
        (K (demote r14))))
      (bindO (partV true 4 0 (bget bs4 1)) fun r15 =>
      bindO (cellsV (demote (demote r15))) fun r16 =>
      (List.length r16) = 4 ∧
      4 ≤ (List.length (bget bs4 0)) ∧
      bindO (partV true 4 0 (setAt (bget bs4 0) 0 r16)) fun r17 =>
      (SV.noRef (demote r17)) = true ∧
      (K (demote r17))))
  [x0, (.d (.int .i64 0))] [[(.d (.int .u64 0)), (.d (.int .u64 0)), (.d (.int .u64 0)), (.d (.int .u64 0))], (Box.vals (Box.cells (setAt [(.d (.int .u64 0)), (.d (.int .u64 0)), (.d (.int .u64 0)), (.d (.int .u64 0))] 0 r2)))])) := by kernel_rfl

theorem body28 (C : Con) (x0 x1 : SV) (K : SV → Prop) : body Go.Proofs.Try.prog gl C h28 28 [x0, x1] K = (
  wfP [x0, x1] (
  bindO (cellsV (demote x0)) fun r0 =>
  (List.length r0) = 4 ∧
  bindO (cellsV (demote x1)) fun r1 =>
  (List.length r1) = 4 ∧
  loopP (fun vs2 bs3 I4 =>
    bindO (binV none .lss (demote (demote (vget vs2 0))) (.d (.int .i64 4))) fun r5 =>
    ifP r5
      (bindO (indexOk (demote (demote (vget vs2 0))) 4) fun r6 =>
      bindO (partV false 1 (0 + (r6 * 1)) (bget bs3 0)) fun r7 =>
      bindO (indexOk (demote (demote (vget vs2 0))) 4) fun r8 =>
      bindO (partV false 1 (0 + (r8 * 1)) (bget bs3 1)) fun r9 =>
      bindO (binV none .and (demote (demote r7)) (demote (demote r9))) fun r10 =>
      bindO (indexOk (demote (demote (vget vs2 0))) 4) fun r11 =>
      bindO (cellsV (demote r10)) fun r12 =>
      (List.length r12) = 1 ∧
      ((0 + (r11 * 1)) + 1) ≤ (List.length (bget bs3 0)) ∧
      bindO (binV none .add (demote (demote (vget vs2 0))) (.d (.int .i64 1))) fun r13 =>
      (I4 [(demote r13)] [(Box.vals (Box.cells (setAt (bget bs3 0) (0 + (r11 * 1)) r12))), (Box.vals (Box.cells (bget bs3 1))), (Box.vals (Box.cells (bget bs3 2)))]))
      (bindO (partV true 4 0 (bget bs3 0)) fun r14 =>
      bindO (cellsV (demote (demote r14))) fun r15 =>
      (List.length r15) = 4 ∧
      4 ≤ (List.length (bget bs3 2)) ∧
      bindO (partV true 4 0 (setAt (bget bs3 2) 0 r15)) fun r16 =>
      (SV.noRef (demote r16)) = true ∧
      (K (demote r16))))
  [(.d (.int .i64 0))] [(Box.vals (Box.cells r0)), (Box.vals (Box.cells r1)), [(.d (.int .u64 0)), (.d (.int .u64 0)), (.d (.int .u64 0)), (.d (.int .u64 0))]])) := by kernel_rfl

theorem body29 (C : Con) (x0 x1 : SV) (K : SV → Prop) : body Go.Proofs.Try.prog gl C h29 29 [x0, x1] K = (
  wfP [x0, x1] (
  bindO (cellsV (demote x0)) fun r0 =>
  (List.length r0) = 4 ∧
  bindO (cellsV (demote x1)) fun r1 =>
  (List.length r1) = 4 ∧
  loopP (fun vs2 bs3 I4 =>
    bindO (binV none .lss (demote (demote (vget vs2 0))) (.d (.int .i64 4))) fun r5 =>
    ifP r5
      (bindO (indexOk (demote (demote (vget vs2 0))) 4) fun r6 =>
      bindO (partV false 1 (0 + (r6 * 1)) (bget bs3 0)) fun r7 =>
      bindO (indexOk (demote (demote (vget vs2 0))) 4) fun r8 =>
      bindO (partV false 1 (0 + (r8 * 1)) (bget bs3 1)) fun r9 =>
      bindO (binV none .or (demote (demote r7)) (demote (demote r9))) fun r10 =>
      bindO (indexOk (demote (demote (vget vs2 0))) 4) fun r11 =>
      bindO (cellsV (demote r10)) fun r12 =>
      (List.length r12) = 1 ∧
      ((0 + (r11 * 1)) + 1) ≤ (List.length (bget bs3 0)) ∧
      bindO (binV none .add (demote (demote (vget vs2 0))) (.d (.int .i64 1))) fun r13 =>
      (I4 [(demote r13)] [(Box.vals (Box.cells (setAt (bget bs3 0) (0 + (r11 * 1)) r12))), (Box.vals (Box.cells (bget bs3 1))), (Box.vals (Box.cells (bget bs3 2)))]))
      (bindO (partV true 4 0 (bget bs3 0)) fun r14 =>
      bindO (cellsV (demote (demote r14))) fun r15 =>
      (List.length r15) = 4 ∧
      4 ≤ (List.length (bget bs3 2)) ∧
      bindO (partV true 4 0 (setAt (bget bs3 2) 0 r15)) fun r16 =>
      (SV.noRef (demote r16)) = true ∧
      (K (demote r16))))
  [(.d (.int .i64 0))] [(Box.vals (Box.cells r0)), (Box.vals (Box.cells r1)), [(.d (.int .u64 0)), (.d (.int .u64 0)), (.d (.int .u64 0)), (.d (.int .u64 0))]])) := by kernel_rfl

theorem body30 (C : Con) (K : SV → Prop) : body Go.Proofs.Try.prog gl C h30 30 [] K = (
  wfP [] (
  bindO (partsS [(0, (.v (.d (.str [120]))))]) fun r0 =>
  (partsFit 1 1 r0) = true ∧
  bindO (partsS [(0, (.v (.d (.str [97])))), (1, (.v (.full 1 (buildElems (mkElem false [(.str [])]) r0 1 0))))]) fun r1 =>
  bindO (buildD Proofs.Try.prog 53 r1) fun r2 =>
  bindO (partsS [(0, (.v (.d (.str [98]))))]) fun r3 =>
  bindO (buildD Proofs.Try.prog 53 r3) fun r4 =>
  bindO (partsS [(0, (.v (.d (.str [99]))))]) fun r5 =>
  bindO (buildD Proofs.Try.prog 53 r5) fun r6 =>
  bindO (partsS [(0, (.v (.d r2))), (1, (.v (.d r4))), (2, (.v (.d r6)))]) fun r7 =>
  (partsFit 3 3 r7) = true ∧
  bindO (partsS [(0, (.v (.d (.int .i64 1)))), (1, (.v (.d (.int .i64 2))))]) fun r8 =>
  (partsFit 1 2 r8) = true ∧
  callP C 32 [(.full 1 (buildElems (mkElem false [(.int .i64 0)]) r8 2 0))] fun r9 =>
  bindO (partsS [(0, (.v (.d (.str [100])))), (1, (.v (demote r9)))]) fun r10 =>
  bindO (buildD Proofs.Try.prog 65 r10) fun r11 =>
  bindO (partsS [(0, (.v (.d r11)))]) fun r12 =>
  (partsFit 5 1 r12) = true ∧
  bindO (partsS [(0, (.v (.full 3 (buildElems (mkElem true [(.str []), (.sl .nil 0 []), (.bool false)]) r7 3 0)))), (1, (.v (.full 5 (buildElems (mkElem true [(.str []), (.int .u64 0), (.int .u64 0), (.int .u64 0), (.int .u64 0)]) r12 1 0))))]) fun r13 =>
  bindO (buildD Proofs.Try.prog 25 r13) fun r14 =>
  bindO (cellsV (.d r14)) fun r15 =>
  (List.length r15) = 2 ∧
  2 ≤ 2 ∧
  bindO (partV true 2 0 (setAt [(.d (.sl .nil 0 [])), (.d (.sl .nil 0 []))] 0 r15)) fun r16 =>
  (SV.noRef (demote r16)) = true ∧
  (K (demote r16)))) := by kernel_rfl

theorem body31 (C : Con) (x0 x1 : SV) (K : SV → Prop) : body Go.Proofs.Try.prog gl C h31 31 [x0, x1] K = (
  wfP [x0, x1] (
  bindO (cellsV (demote x0)) fun r0 =>
  (List.length r0) = 5 ∧
  bindO (partV true 5 0 r0) fun r1 =>
  callP C 30 [] fun r2 =>
  ∃ r3,
  ∃ r4,
  (C 14 [(demote (demote (demote r1))), (demote (demote r2))] (.tup [r3, r4])) ∧
  bindO (cellsV (demote (demote (demote r3)))) fun r5 =>
  (List.length r5) = 4 ∧
  4 ≤ 4 ∧
  bindO (binV (some (false, [.int])) .eql (demote (demote (demote (demote (demote r4))))) (.d (.int .i64 0))) fun r6 =>
  ifP (demote r6)
    (bindO (partV true 4 0 (setAt [(.d (.int .u64 0)), (.d (.int .u64 0)), (.d (.int .u64 0)), (.d (.int .u64 0))] 0 r5)) fun r7 =>
    callP C 32 [(demote (demote (demote x1)))] fun r8 =>
    bindO (binV (some (true, [.int, .int, .int, .int])) .eql (demote (demote r7)) (demote r8)) fun r9 =>
    (SV.noRef (demote (demote r9))) = true ∧
    (K (demote (demote r9))))
    ((SV.noRef (.d (.bool false))) = true ∧
    (K (.d (.bool false)))))) := by kernel_rfl

theorem body32 (C : Con) (x0 : SV) (K : SV → Prop) : body Go.Proofs.Try.prog gl C h32 32 [x0] K = (
  wfP [x0] (
  bindO (partsS []) fun r0 =>
  bindO (buildD Proofs.Try.prog 35 r0) fun r1 =>
  bindO (cellsV (.d r1)) fun r2 =>
  (List.length r2) = 4 ∧
  4 ≤ 4 ∧
  loopP (fun vs3 bs4 I5 =>
    bindO (lenL (demote (demote (vget vs3 0)))) fun r6 =>
    bindO (binV none .lss (demote (demote (vget vs3 1))) (demote r6)) fun r7 =>
    ifP r7
      (bindO (partV true 4 0 (bget bs4 1)) fun r8 =>
      bindO (elemPtr 1 (demote (demote (vget vs3 0))) (demote (demote (vget vs3 1)))) fun r9 =>
      bindO (loadV false 1 (demote r9)) fun r10 =>
      callP C 46 [(demote (demote (demote r8))), (demote (demote r10))] fun r11 =>
      bindO (cellsV (demote r11)) fun r12 =>
      (List.length r12) = 4 ∧
      4 ≤ (List.length (bget bs4 1)) ∧
      bindO (binV none .add (demote (demote (vget vs3 1))) (.d (.int .i64 1))) fun r13 =>
      (I5 [(vget vs3 0), (demote r13)] [(Box.vals (Box.cells (bget bs4 0))), (Box.vals (Box.cells (setAt (bget bs4 1) 0 r12)))]))
      (bindO (partV true 4 0 (bget bs4 1)) fun r14 =>
      bindO (cellsV (demote (demote r14))) fun r15 =>
      (List.length r15) = 4 ∧
      4 ≤ (List.length (bget bs4 0)) ∧
      bindO (partV true 4 0 (setAt (bget bs4 0) 0 r15)) fun r16 =>
      (SV.noRef (demote r16)) = true ∧
      (K (demote r16))))
  [x0, (.d (.int .i64 0))] [[(.d (.int .u64 0)), (.d (.int .u64 0)), (.d (.int .u64 0)), (.d (.int .u64 0))], (Box.vals (Box.cells (setAt [(.d (.int .u64 0)), (.d (.int .u64 0)), (.d (.int .u64 0)), (.d (.int .u64 0))] 0 r2)))])) := by kernel_rfl

theorem body33 (C : Con) (x0 x1 : SV) (K : SV → Prop) : body Go.Proofs.Try.prog gl C h33 33 [x0, x1] K = (
  wfP [x0, x1] (
  callP C 47 [(demote (demote (demote x0))), (demote (demote (demote x1)))] fun r0 =>
  bindO (binV none .geq (demote r0) (.d (.int .i64 0))) fun r1 =>
  (SV.noRef (demote r1)) = true ∧
  (K (demote r1)))) := by kernel_rfl

theorem body34 (C : Con) (x0 x1 : SV) (K : SV → Prop) : body Go.Proofs.Try.prog gl C h34 34 [x0, x1] K = (
  wfP [x0, x1] (
  loopP (fun vs0 bs1 I2 =>
    bindO (lenL (demote (demote (vget vs0 0)))) fun r3 =>
    bindO (binV none .lss (demote (demote (vget vs0 2))) (demote r3)) fun r4 =>
    ifP r4
      (bindO (elemPtr 1 (demote (demote (vget vs0 0))) (demote (demote (vget vs0 2)))) fun r5 =>
      bindO (loadV false 1 (demote r5)) fun r6 =>
      bindO (binV (some (false, [.str])) .eql (demote r6) (demote (demote (vget vs0 1)))) fun r7 =>
      ifP r7
        ((SV.noRef (demote (demote (vget vs0 2)))) = true ∧
        (K (demote (demote (vget vs0 2)))))
        (bindO (binV none .add (demote (demote (vget vs0 2))) (.d (.int .i64 1))) fun r8 =>
        (I2 [(vget vs0 0), (vget vs0 1), (demote r8)] [])))
      ((SV.noRef (.d (.int .i64 (-1)))) = true ∧
      (K (.d (.int .i64 (-1))))))
  [x0, x1, (.d (.int .i64 0))] [])) := by kernel_rfl

theorem body35 (C : Con) (x0 x1 : SV) (K : SV → Prop) : body Go.Proofs.Try.prog gl C h35 35 [x0, x1] K = (
  wfP [x0, x1] (
  bindO (cellsV (demote x0)) fun r0 =>
  (List.length r0) = 4 ∧
  bindO (cellsV (demote x1)) fun r1 =>
  (List.length r1) = 4 ∧
  loopP (fun vs2 bs3 I4 =>
    bindO (binV none .lss (demote (vget vs2 0)) (.d (.int .i64 4))) fun r5 =>
    ifP r5
      (bindO (indexOk (demote (demote (demote (demote (vget vs2 0))))) 4) fun r6 =>
      bindO (partV false 1 (0 + (r6 * 1)) (bget bs3 0)) fun r7 =>
      bindO (indexOk (demote (demote (demote (demote (vget vs2 0))))) 4) fun r8 =>
      bindO (partV false 1 (0 + (r8 * 1)) (bget bs3 1)) fun r9 =>
      bindO (binV none .and (demote (demote r7)) (demote (demote r9))) fun r10 =>
      bindO (indexOk (demote (demote (demote (demote (vget vs2 0))))) 4) fun r11 =>
      bindO (cellsV (demote r10)) fun r12 =>
      (List.length r12) = 1 ∧
      ((0 + (r11 * 1)) + 1) ≤ (List.length (bget bs3 0)) ∧
      bindO (binV none .add (demote (vget vs2 0)) (.d (.int .i64 1))) fun r13 =>
      (I4 [(demote r13)] [(Box.vals (Box.cells (setAt (bget bs3 0) (0 + (r11 * 1)) r12))), (Box.vals (Box.cells (bget bs3 1))), (Box.vals (Box.cells (bget bs3 2)))]))
      (bindO (partV true 4 0 (bget bs3 0)) fun r14 =>
      bindO (cellsV (demote (demote r14))) fun r15 =>
      (List.length r15) = 4 ∧
      4 ≤ (List.length (bget bs3 2)) ∧
      bindO (partV true 4 0 (setAt (bget bs3 2) 0 r15)) fun r16 =>
      (SV.noRef (demote r16)) = true ∧
      (K (demote r16))))
  [(.d (.int .i64 0))] [(Box.vals (Box.cells r0)), (Box.vals (Box.cells r1)), [(.d (.int .u64 0)), (.d (.int .u64 0)), (.d (.int .u64 0)), (.d (.int .u64 0))]])) := by kernel_rfl

theorem body36 (C : Con) (x0 : SV) (K : SV → Prop) : body Go.Proofs.Try.prog gl C h36 36 [x0] K = (
  wfP [x0] (
  bindO (foldIntV maxD (demote (demote x0)) [(.d (.int .i64 0))]) fun r0 =>
  bindO (foldIntV minD (demote r0) [(.d (.int .i64 256))]) fun r1 =>
  loopP (fun vs2 bs3 I4 =>
    bindO (binV none .lss (demote (vget vs2 1)) (demote (vget vs2 0))) fun r5 =>
    ifP r5
      (bindO (partV true 4 0 (bget bs3 1)) fun r6 =>
      callP C 48 [(demote (demote (demote r6))), (demote (demote (demote (demote (demote (vget vs2 1))))))] fun r7 =>
      bindO (cellsV (demote r7)) fun r8 =>
      (List.length r8) = 4 ∧
      4 ≤ (List.length (bget bs3 1)) ∧
      bindO (binV none .add (demote (vget vs2 1)) (.d (.int .i64 1))) fun r9 =>
      (I4 [(vget vs2 0), (demote r9)] [(Box.vals (Box.cells (bget bs3 0))), (Box.vals (Box.cells (setAt (bget bs3 1) 0 r8)))]))
      (bindO (partV true 4 0 (bget bs3 1)) fun r10 =>
      bindO (cellsV (demote (demote r10))) fun r11 =>
      (List.length r11) = 4 ∧
      4 ≤ (List.length (bget bs3 0)) ∧
      bindO (partV true 4 0 (setAt (bget bs3 0) 0 r11)) fun r12 =>
      (SV.noRef (demote r12)) = true ∧
      (K (demote r12))))
  [r1, (.d (.int .i64 0))] [[(.d (.int .u64 0)), (.d (.int .u64 0)), (.d (.int .u64 0)), (.d (.int .u64 0))], [(.d (.int .u64 0)), (.d (.int .u64 0)), (.d (.int .u64 0)), (.d (.int .u64 0))]])) := by kernel_rfl

theorem body37 (C : Con) (x0 x1 x2 : SV) (K : SV → Prop) : body Go.Proofs.Try.prog gl C h37 37 [x0, x1, x2] K = (
  wfP [x0, x1, x2] (
  bindO (cellsV (demote x0)) fun r0 =>
  (List.length r0) = 5 ∧
  bindO (cellsV (demote x1)) fun r1 =>
  (List.length r1) = 4 ∧
  bindO (partV false 1 0 r0) fun r2 =>
  ifP (demote r2)
    (bindO (partV true 4 0 r1) fun r3 =>
    bindO (cellsV (demote (demote r3))) fun r4 =>
    (List.length r4) = 4 ∧
    4 ≤ 4 ∧
    bindO (partV false 1 3 r0) fun r5 =>
    bindO (lenL (demote (demote r5))) fun r6 =>
    loopP (fun vs7 bs8 I9 =>
      bindO (binV none .lss (demote (vget vs7 3)) (demote (vget vs7 2))) fun r10 =>
      ifP r10
        (bindO (elemPtr 1 (demote (vget vs7 1)) (demote (vget vs7 3))) fun r11 =>
        bindO (loadV false 1 (demote r11)) fun r12 =>
        withFn (demote (demote (vget vs7 0))) [(demote (demote (demote (demote r12))))] fun f13 l14 =>
        ∃ r15,
        ∃ r16,
        (C f13 l14 (.tup [r15, r16])) ∧
        bindO (cellsV (demote (demote (demote r15)))) fun r17 =>
        (List.length r17) = 4 ∧
        4 ≤ 4 ∧
        bindO (unV .not (demote (demote (demote (demote (demote r16)))))) fun r18 =>
        ifP r18
          (bindO (partsS []) fun r19 =>
          bindO (buildD Proofs.Try.prog 35 r19) fun r20 =>
          bindO (cellsV (.d r20)) fun r21 =>
          (List.length r21) = 4 ∧
          4 ≤ (List.length (bget bs8 2)) ∧
          bindO (partV true 4 0 (setAt (bget bs8 2) 0 r21)) fun r22 =>
          (SV.noRef (demote r22)) = true ∧
          (SV.noRef (.d (.bool false))) = true ∧
          (K (.tup [(demote r22), (.d (.bool false))])))
          (bindO (partV true 4 0 (bget bs8 3)) fun r23 =>
          bindO (partV true 4 0 (setAt [(.d (.int .u64 0)), (.d (.int .u64 0)), (.d (.int .u64 0)), (.d (.int .u64 0))] 0 r17)) fun r24 =>
          callP C 49 [(demote (demote (demote r23))), (demote (demote (demote r24)))] fun r25 =>
          bindO (cellsV (demote r25)) fun r26 =>
          (List.length r26) = 4 ∧
          4 ≤ (List.length (bget bs8 3)) ∧
          bindO (binV none .add (demote (vget vs7 3)) (.d (.int .i64 1))) fun r27 =>
          (I9 [(vget vs7 0), (vget vs7 1), (vget vs7 2), (demote r27)] [(Box.vals (Box.cells (bget bs8 0))), (Box.vals (Box.cells (bget bs8 1))), (Box.vals (Box.cells (bget bs8 2))), (Box.vals (Box.cells (setAt (bget bs8 3) 0 r26)))])))
        (bindO (partV false 1 4 (bget bs8 0)) fun r28 =>
        bindO (lenL (demote (demote r28))) fun r29 =>
        loopP (fun vs30 bs31 I32 =>
          bindO (binV none .lss (demote (vget vs30 3)) (demote (vget vs30 2))) fun r33 =>
          ifP r33
            (bindO (elemPtr 1 (demote (vget vs30 1)) (demote (vget vs30 3))) fun r34 =>
            bindO (loadV false 1 (demote r34)) fun r35 =>
            withFn (demote (demote (vget vs30 0))) [(demote (demote (demote (demote r35))))] fun f36 l37 =>
            ∃ r38,
            ∃ r39,
            (C f36 l37 (.tup [r38, r39])) ∧
            bindO (cellsV (demote (demote (demote r38)))) fun r40 =>
            (List.length r40) = 4 ∧
            4 ≤ 4 ∧
            bindO (unV .not (demote (demote (demote (demote (demote r39)))))) fun r41 =>
            ifP r41
              (bindO (partsS []) fun r42 =>
              bindO (buildD Proofs.Try.prog 35 r42) fun r43 =>
              bindO (cellsV (.d r43)) fun r44 =>
              (List.length r44) = 4 ∧
              4 ≤ (List.length (bget bs31 2)) ∧
              bindO (partV true 4 0 (setAt (bget bs31 2) 0 r44)) fun r45 =>
              (SV.noRef (demote r45)) = true ∧
              (SV.noRef (.d (.bool false))) = true ∧
              (K (.tup [(demote r45), (.d (.bool false))])))
              (bindO (partV true 4 0 (bget bs31 3)) fun r46 =>
              bindO (partV true 4 0 (setAt [(.d (.int .u64 0)), (.d (.int .u64 0)), (.d (.int .u64 0)), (.d (.int .u64 0))] 0 r40)) fun r47 =>
              callP C 50 [(demote (demote (demote r46))), (demote (demote (demote r47)))] fun r48 =>
              bindO (cellsV (demote r48)) fun r49 =>
              (List.length r49) = 4 ∧
              4 ≤ (List.length (bget bs31 3)) ∧
              bindO (binV none .add (demote (vget vs30 3)) (.d (.int .i64 1))) fun r50 =>
              (I32 [(vget vs30 0), (vget vs30 1), (vget vs30 2), (demote r50)] [(Box.vals (Box.cells (bget bs31 0))), (Box.vals (Box.cells (bget bs31 1))), (Box.vals (Box.cells (bget bs31 2))), (Box.vals (Box.cells (setAt (bget bs31 3) 0 r49)))])))
            (bindO (partV false 1 1 (bget bs31 0)) fun r51 =>
            ifP (demote r51)
              (bindO (partV true 4 0 (bget bs31 1)) fun r52 =>
              bindO (partV true 4 0 (bget bs31 3)) fun r53 =>
              callP C 50 [(demote (demote (demote r52))), (demote (demote (demote r53)))] fun r54 =>
              bindO (cellsV (demote r54)) fun r55 =>
              (List.length r55) = 4 ∧
              4 ≤ (List.length (bget bs31 3)) ∧
              bindO (partV true 4 0 (setAt (bget bs31 3) 0 r55)) fun r56 =>
              bindO (cellsV (demote (demote r56))) fun r57 =>
              (List.length r57) = 4 ∧
              4 ≤ (List.length (bget bs31 2)) ∧
              bindO (partV true 4 0 (setAt (bget bs31 2) 0 r57)) fun r58 =>
              (SV.noRef (demote r58)) = true ∧
              (SV.noRef (.d (.bool true))) = true ∧
              (K (.tup [(demote r58), (.d (.bool true))])))
              (bindO (partV true 4 0 (bget bs31 3)) fun r59 =>
              bindO (cellsV (demote (demote r59))) fun r60 =>
              (List.length r60) = 4 ∧
              4 ≤ (List.length (bget bs31 2)) ∧
              bindO (partV true 4 0 (setAt (bget bs31 2) 0 r60)) fun r61 =>
              (SV.noRef (demote r61)) = true ∧
              (SV.noRef (.d (.bool true))) = true ∧
              (K (.tup [(demote r61), (.d (.bool true))])))))
        [(vget vs7 0), (demote r28), r29, (.d (.int .i64 0))] [(Box.vals (Box.cells (bget bs8 0))), (Box.vals (Box.cells (bget bs8 1))), (Box.vals (Box.cells (bget bs8 2))), (Box.vals (Box.cells (bget bs8 3)))]))
    [x2, (demote r5), r6, (.d (.int .i64 0))] [(Box.vals (Box.cells r0)), (Box.vals (Box.cells r1)), [(.d (.int .u64 0)), (.d (.int .u64 0)), (.d (.int .u64 0)), (.d (.int .u64 0))], (Box.vals (Box.cells (setAt [(.d (.int .u64 0)), (.d (.int .u64 0)), (.d (.int .u64 0)), (.d (.int .u64 0))] 0 r4)))])
    (bindO (partV false 1 3 r0) fun r62 =>
    bindO (lenL (demote (demote r62))) fun r63 =>
    loopP (fun vs64 bs65 I66 =>
      bindO (binV none .lss (demote (vget vs64 3)) (demote (vget vs64 2))) fun r67 =>
      ifP r67
        (bindO (elemPtr 1 (demote (vget vs64 1)) (demote (vget vs64 3))) fun r68 =>
        bindO (loadV false 1 (demote r68)) fun r69 =>
        withFn (demote (demote (vget vs64 0))) [(demote (demote (demote (demote r69))))] fun f70 l71 =>
        ∃ r72,
        ∃ r73,
        (C f70 l71 (.tup [r72, r73])) ∧
        bindO (cellsV (demote (demote (demote r72)))) fun r74 =>
        (List.length r74) = 4 ∧
        4 ≤ 4 ∧
        bindO (unV .not (demote (demote (demote (demote (demote r73)))))) fun r75 =>
        ifP r75
          (bindO (partsS []) fun r76 =>
          bindO (buildD Proofs.Try.prog 35 r76) fun r77 =>
          bindO (cellsV (.d r77)) fun r78 =>
          (List.length r78) = 4 ∧
          4 ≤ (List.length (bget bs65 2)) ∧
          bindO (partV true 4 0 (setAt (bget bs65 2) 0 r78)) fun r79 =>
          (SV.noRef (demote r79)) = true ∧
          (SV.noRef (.d (.bool false))) = true ∧
          (K (.tup [(demote r79), (.d (.bool false))])))
          (bindO (partV true 4 0 (bget bs65 3)) fun r80 =>
          bindO (partV true 4 0 (setAt [(.d (.int .u64 0)), (.d (.int .u64 0)), (.d (.int .u64 0)), (.d (.int .u64 0))] 0 r74)) fun r81 =>
          callP C 49 [(demote (demote (demote r80))), (demote (demote (demote r81)))] fun r82 =>
          bindO (cellsV (demote r82)) fun r83 =>
          (List.length r83) = 4 ∧
          4 ≤ (List.length (bget bs65 3)) ∧
          bindO (binV none .add (demote (vget vs64 3)) (.d (.int .i64 1))) fun r84 =>
          (I66 [(vget vs64 0), (vget vs64 1), (vget vs64 2), (demote r84)] [(Box.vals (Box.cells (bget bs65 0))), (Box.vals (Box.cells (bget bs65 1))), (Box.vals (Box.cells (bget bs65 2))), (Box.vals (Box.cells (setAt (bget bs65 3) 0 r83)))])))
        (bindO (partV false 1 4 (bget bs65 0)) fun r85 =>
        bindO (lenL (demote (demote r85))) fun r86 =>
        loopP (fun vs87 bs88 I89 =>
          bindO (binV none .lss (demote (vget vs87 3)) (demote (vget vs87 2))) fun r90 =>
          ifP r90
            (bindO (elemPtr 1 (demote (vget vs87 1)) (demote (vget vs87 3))) fun r91 =>
            bindO (loadV false 1 (demote r91)) fun r92 =>
            withFn (demote (demote (vget vs87 0))) [(demote (demote (demote (demote r92))))] fun f93 l94 =>
            ∃ r95,
            ∃ r96,
            (C f93 l94 (.tup [r95, r96])) ∧
            bindO (cellsV (demote (demote (demote r95)))) fun r97 =>
            (List.length r97) = 4 ∧
            4 ≤ 4 ∧
            bindO (unV .not (demote (demote (demote (demote (demote r96)))))) fun r98 =>
            ifP r98
              (bindO (partsS []) fun r99 =>
              bindO (buildD Proofs.Try.prog 35 r99) fun r100 =>
              bindO (cellsV (.d r100)) fun r101 =>
              (List.length r101) = 4 ∧
              4 ≤ (List.length (bget bs88 2)) ∧
              bindO (partV true 4 0 (setAt (bget bs88 2) 0 r101)) fun r102 =>
              (SV.noRef (demote r102)) = true ∧
              (SV.noRef (.d (.bool false))) = true ∧
              (K (.tup [(demote r102), (.d (.bool false))])))
              (bindO (partV true 4 0 (bget bs88 3)) fun r103 =>
              bindO (partV true 4 0 (setAt [(.d (.int .u64 0)), (.d (.int .u64 0)), (.d (.int .u64 0)), (.d (.int .u64 0))] 0 r97)) fun r104 =>
              callP C 50 [(demote (demote (demote r103))), (demote (demote (demote r104)))] fun r105 =>
              bindO (cellsV (demote r105)) fun r106 =>
              (List.length r106) = 4 ∧
              4 ≤ (List.length (bget bs88 3)) ∧
              bindO (binV none .add (demote (vget vs87 3)) (.d (.int .i64 1))) fun r107 =>
              (I89 [(vget vs87 0), (vget vs87 1), (vget vs87 2), (demote r107)] [(Box.vals (Box.cells (bget bs88 0))), (Box.vals (Box.cells (bget bs88 1))), (Box.vals (Box.cells (bget bs88 2))), (Box.vals (Box.cells (setAt (bget bs88 3) 0 r106)))])))
            (bindO (partV false 1 1 (bget bs88 0)) fun r108 =>
            ifP (demote r108)
              (bindO (partV true 4 0 (bget bs88 1)) fun r109 =>
              bindO (partV true 4 0 (bget bs88 3)) fun r110 =>
              callP C 50 [(demote (demote (demote r109))), (demote (demote (demote r110)))] fun r111 =>
              bindO (cellsV (demote r111)) fun r112 =>
              (List.length r112) = 4 ∧
              4 ≤ (List.length (bget bs88 3)) ∧
              bindO (partV true 4 0 (setAt (bget bs88 3) 0 r112)) fun r113 =>
              bindO (cellsV (demote (demote r113))) fun r114 =>
              (List.length r114) = 4 ∧
              4 ≤ (List.length (bget bs88 2)) ∧
              bindO (partV true 4 0 (setAt (bget bs88 2) 0 r114)) fun r115 =>
              (SV.noRef (demote r115)) = true ∧
              (SV.noRef (.d (.bool true))) = true ∧
              (K (.tup [(demote r115), (.d (.bool true))])))
              (bindO (partV true 4 0 (bget bs88 3)) fun r116 =>
              bindO (cellsV (demote (demote r116))) fun r117 =>
              (List.length r117) = 4 ∧
              4 ≤ (List.length (bget bs88 2)) ∧
              bindO (partV true 4 0 (setAt (bget bs88 2) 0 r117)) fun r118 =>
              (SV.noRef (demote r118)) = true ∧
              (SV.noRef (.d (.bool true))) = true ∧
              (K (.tup [(demote r118), (.d (.bool true))])))))
        [(vget vs64 0), (demote r85), r86, (.d (.int .i64 0))] [(Box.vals (Box.cells (bget bs65 0))), (Box.vals (Box.cells (bget bs65 1))), (Box.vals (Box.cells (bget bs65 2))), (Box.vals (Box.cells (bget bs65 3)))]))
    [x2, (demote r62), r63, (.d (.int .i64 0))] [(Box.vals (Box.cells r0)), (Box.vals (Box.cells r1)), [(.d (.int .u64 0)), (.d (.int .u64 0)), (.d (.int .u64 0)), (.d (.int .u64 0))], [(.d (.int .u64 0)), (.d (.int .u64 0)), (.d (.int .u64 0)), (.d (.int .u64 0))]]))) := by kernel_rfl

theorem body38 (C : Con) (x0 x1 : SV) (K : SV → Prop) : body Go.Proofs.Try.prog gl C h38 38 [x0, x1] K = (
  wfP [x0, x1] (
  bindO (loadV true 2 (demote x1)) fun r0 =>
  ∃ r1,
  ∃ r2,
  (C 10 [(demote (demote (demote x0))), (demote (demote r0))] (.tup [r1, r2])) ∧
  ifP (demote (demote (demote (demote (demote r2)))))
    (bindO (binV none .lss (demote (demote (demote (demote (demote r1))))) (.d (.int .i64 256))) fun r3 =>
    ifP (demote r3)
      (bindO (partsS [(0, (.v (demote (demote (demote (demote (demote r1)))))))]) fun r4 =>
      (partsFit 1 1 r4) = true ∧
      callP C 39 [(.full 1 (buildElems (mkElem false [(.int .i64 0)]) r4 1 0))] fun r5 =>
      bindO (cellsV (demote r5)) fun r6 =>
      (List.length r6) = 4 ∧
      4 ≤ 4 ∧
      bindO (partV true 4 0 (setAt [(.d (.int .u64 0)), (.d (.int .u64 0)), (.d (.int .u64 0)), (.d (.int .u64 0))] 0 r6)) fun r7 =>
      (SV.noRef (demote r7)) = true ∧
      (SV.noRef (.d (.bool true))) = true ∧
      (K (.tup [(demote r7), (.d (.bool true))])))
      (bindO (loadV true 2 (demote x1)) fun r8 =>
      ∃ r9,
      ∃ r10,
      (C 12 [(demote (demote (demote x0))), (demote (demote r8))] (.tup [r9, r10])) ∧
      bindO (cellsV (demote (demote r9))) fun r11 =>
      (List.length r11) = 4 ∧
      4 ≤ 4 ∧
      bindO (partV true 4 0 (setAt [(.d (.int .u64 0)), (.d (.int .u64 0)), (.d (.int .u64 0)), (.d (.int .u64 0))] 0 r11)) fun r12 =>
      (SV.noRef (demote r12)) = true ∧
      (SV.noRef (demote (demote r10))) = true ∧
      (K (.tup [(demote r12), (demote (demote r10))]))))
    (bindO (loadV true 2 (demote x1)) fun r13 =>
    ∃ r14,
    ∃ r15,
    (C 12 [(demote (demote (demote x0))), (demote (demote r13))] (.tup [r14, r15])) ∧
    bindO (cellsV (demote (demote r14))) fun r16 =>
    (List.length r16) = 4 ∧
    4 ≤ 4 ∧
    bindO (partV true 4 0 (setAt [(.d (.int .u64 0)), (.d (.int .u64 0)), (.d (.int .u64 0)), (.d (.int .u64 0))] 0 r16)) fun r17 =>
    (SV.noRef (demote r17)) = true ∧
    (SV.noRef (demote (demote r15))) = true ∧
    (K (.tup [(demote r17), (demote (demote r15))]))))) := by kernel_rfl

theorem body39 (C : Con) (x0 : SV) (K : SV → Prop) : body Go.Proofs.Try.prog gl C h39 39 [x0] K = (
  wfP [x0] (
  bindO (lenL (demote (demote x0))) fun r0 =>
  loopP (fun vs1 bs2 I3 =>
    bindO (binV none .lss (demote (vget vs1 2)) (demote (vget vs1 1))) fun r4 =>
    ifP r4
      (bindO (elemPtr 1 (demote (vget vs1 0)) (demote (vget vs1 2))) fun r5 =>
      bindO (loadV false 1 (demote r5)) fun r6 =>
      bindO (partV true 4 0 (bget bs2 1)) fun r7 =>
      callP C 48 [(demote (demote (demote r7))), (demote (demote (demote (demote r6))))] fun r8 =>
      bindO (cellsV (demote r8)) fun r9 =>
      (List.length r9) = 4 ∧
      4 ≤ (List.length (bget bs2 1)) ∧
      bindO (binV none .add (demote (vget vs1 2)) (.d (.int .i64 1))) fun r10 =>
      (I3 [(vget vs1 0), (vget vs1 1), (demote r10)] [(Box.vals (Box.cells (bget bs2 0))), (Box.vals (Box.cells (setAt (bget bs2 1) 0 r9)))]))
      (bindO (partV true 4 0 (bget bs2 1)) fun r11 =>
      bindO (cellsV (demote (demote r11))) fun r12 =>
      (List.length r12) = 4 ∧
      4 ≤ (List.length (bget bs2 0)) ∧
      bindO (partV true 4 0 (setAt (bget bs2 0) 0 r12)) fun r13 =>
      (SV.noRef (demote r13)) = true ∧
      (K (demote r13))))
  [(demote x0), r0, (.d (.int .i64 0))] [[(.d (.int .u64 0)), (.d (.int .u64 0)), (.d (.int .u64 0)), (.d (.int .u64 0))], [(.d (.int .u64 0)), (.d (.int .u64 0)), (.d (.int .u64 0)), (.d (.int .u64 0))]])) := by kernel_rfl

theorem body40 (C : Con) (x0 x1 : SV) (K : SV → Prop) : body Go.Proofs.Try.prog gl C h40 40 [x0, x1] K = (
  wfP [x0, x1] (
  bindO (cellsV (demote x1)) fun r0 =>
  (List.length r0) = 2 ∧
  loopP (fun vs1 bs2 I3 =>
    bindO (lenL (demote (demote (vget vs1 0)))) fun r4 =>
    bindO (binV none .lss (demote (demote (vget vs1 1))) (demote r4)) fun r5 =>
    ifP r5
      (bindO (elemPtr 1 (demote (demote (vget vs1 0))) (demote (demote (vget vs1 1)))) fun r6 =>
      bindO (loadV false 1 (demote r6)) fun r7 =>
      bindO (partV true 2 0 (bget bs2 0)) fun r8 =>
      ∃ r9,
      ∃ r10,
      (C 51 [(demote (demote r7)), (demote (demote (demote r8)))] (.tup [r9, r10])) ∧
      bindO (cellsV (demote (demote (demote r9)))) fun r11 =>
      (List.length r11) = 4 ∧
      4 ≤ 4 ∧
      bindO (unV .not (demote (demote (demote (demote (demote r10)))))) fun r12 =>
      ifP r12
        (bindO (partsS []) fun r13 =>
        bindO (buildD Proofs.Try.prog 35 r13) fun r14 =>
        bindO (cellsV (.d r14)) fun r15 =>
        (List.length r15) = 4 ∧
        4 ≤ (List.length (bget bs2 1)) ∧
        bindO (partV true 4 0 (setAt (bget bs2 1) 0 r15)) fun r16 =>
        (SV.noRef (demote r16)) = true ∧
        (SV.noRef (.d (.bool false))) = true ∧
        (K (.tup [(demote r16), (.d (.bool false))])))
        (bindO (partV true 4 0 (bget bs2 2)) fun r17 =>
        bindO (partV true 4 0 (setAt [(.d (.int .u64 0)), (.d (.int .u64 0)), (.d (.int .u64 0)), (.d (.int .u64 0))] 0 r11)) fun r18 =>
        callP C 29 [(demote (demote (demote r17))), (demote (demote (demote r18)))] fun r19 =>
        bindO (cellsV (demote r19)) fun r20 =>
        (List.length r20) = 4 ∧
        4 ≤ (List.length (bget bs2 2)) ∧
        bindO (binV none .add (demote (demote (vget vs1 1))) (.d (.int .i64 1))) fun r21 =>
        (I3 [(vget vs1 0), (demote r21)] [(Box.vals (Box.cells (bget bs2 0))), (Box.vals (Box.cells (bget bs2 1))), (Box.vals (Box.cells (setAt (bget bs2 2) 0 r20)))])))
      (bindO (partV true 4 0 (bget bs2 2)) fun r22 =>
      bindO (cellsV (demote (demote r22))) fun r23 =>
      (List.length r23) = 4 ∧
      4 ≤ (List.length (bget bs2 1)) ∧
      bindO (partV true 4 0 (setAt (bget bs2 1) 0 r23)) fun r24 =>
      (SV.noRef (demote r24)) = true ∧
      (SV.noRef (.d (.bool true))) = true ∧
      (K (.tup [(demote r24), (.d (.bool true))]))))
  [x0, (.d (.int .i64 0))] [(Box.vals (Box.cells r0)), [(.d (.int .u64 0)), (.d (.int .u64 0)), (.d (.int .u64 0)), (.d (.int .u64 0))], [(.d (.int .u64 0)), (.d (.int .u64 0)), (.d (.int .u64 0)), (.d (.int .u64 0))]])) := by kernel_rfl

theorem body41 (C : Con) (x0 x1 x2 x3 : SV) (K : SV → Prop) : body Go.Proofs.Try.prog gl C h41 41 [x0, x1, x2, x3] K = (
  wfP [x0, x1, x2, x3] (
  bindO (cellsV (demote x0)) fun r0 =>
  (List.length r0) = 5 ∧
  bindO (cellsV (demote x1)) fun r1 =>
  (List.length r1) = 4 ∧
  bindO (cellsV (demote x2)) fun r2 =>
  (List.length r2) = 4 ∧
  callP C 27 [(demote (demote (demote x3)))] fun r3 =>
  bindO (cellsV (demote r3)) fun r4 =>
  (List.length r4) = 4 ∧
  4 ≤ 4 ∧
  bindO (partV false 1 0 r0) fun r5 =>
  ifP (demote r5)
    (bindO (partV true 4 0 (setAt [(.d (.int .u64 0)), (.d (.int .u64 0)), (.d (.int .u64 0)), (.d (.int .u64 0))] 0 r4)) fun r6 =>
    bindO (cellsV (demote (demote r6))) fun r7 =>
    (List.length r7) = 4 ∧
    4 ≤ 4 ∧
    bindO (partV true 4 0 (setAt [(.d (.int .u64 0)), (.d (.int .u64 0)), (.d (.int .u64 0)), (.d (.int .u64 0))] 0 r7)) fun r8 =>
    bindO (partV true 4 0 r1) fun r9 =>
    callP C 29 [(demote (demote (demote r8))), (demote (demote (demote r9)))] fun r10 =>
    bindO (partV true 4 0 r2) fun r11 =>
    callP C 52 [(demote (demote r10)), (demote (demote (demote r11)))] fun r12 =>
    bindO (cellsV (demote r12)) fun r13 =>
    (List.length r13) = 4 ∧
    4 ≤ (List.length (setAt [(.d (.int .u64 0)), (.d (.int .u64 0)), (.d (.int .u64 0)), (.d (.int .u64 0))] 0 r7)) ∧
    bindO (partV false 1 1 r0) fun r14 =>
    ifP (demote r14)
      (bindO (partV true 4 0 (setAt [(.d (.int .u64 0)), (.d (.int .u64 0)), (.d (.int .u64 0)), (.d (.int .u64 0))] 0 r4)) fun r15 =>
      bindO (partV true 4 0 (setAt (setAt [(.d (.int .u64 0)), (.d (.int .u64 0)), (.d (.int .u64 0)), (.d (.int .u64 0))] 0 r7) 0 r13)) fun r16 =>
      callP C 52 [(demote (demote (demote r15))), (demote (demote (demote r16)))] fun r17 =>
      bindO (cellsV (demote r17)) fun r18 =>
      (List.length r18) = 4 ∧
      4 ≤ (List.length (setAt (setAt [(.d (.int .u64 0)), (.d (.int .u64 0)), (.d (.int .u64 0)), (.d (.int .u64 0))] 0 r7) 0 r13)) ∧
      bindO (partV true 4 0 (setAt (setAt (setAt [(.d (.int .u64 0)), (.d (.int .u64 0)), (.d (.int .u64 0)), (.d (.int .u64 0))] 0 r7) 0 r13) 0 r18)) fun r19 =>
      bindO (cellsV (demote (demote r19))) fun r20 =>
      (List.length r20) = 4 ∧
      4 ≤ 4 ∧
      bindO (partV true 4 0 (setAt [(.d (.int .u64 0)), (.d (.int .u64 0)), (.d (.int .u64 0)), (.d (.int .u64 0))] 0 r20)) fun r21 =>
      (SV.noRef (demote r21)) = true ∧
      (K (demote r21)))
      (bindO (partV true 4 0 (setAt (setAt [(.d (.int .u64 0)), (.d (.int .u64 0)), (.d (.int .u64 0)), (.d (.int .u64 0))] 0 r7) 0 r13)) fun r22 =>
      bindO (cellsV (demote (demote r22))) fun r23 =>
      (List.length r23) = 4 ∧
      4 ≤ 4 ∧
      bindO (partV true 4 0 (setAt [(.d (.int .u64 0)), (.d (.int .u64 0)), (.d (.int .u64 0)), (.d (.int .u64 0))] 0 r23)) fun r24 =>
      (SV.noRef (demote r24)) = true ∧
      (K (demote r24))))
    (bindO (partV true 4 0 [(.d (.int .u64 0)), (.d (.int .u64 0)), (.d (.int .u64 0)), (.d (.int .u64 0))]) fun r25 =>
    bindO (partV true 4 0 r1) fun r26 =>
    callP C 29 [(demote (demote (demote r25))), (demote (demote (demote r26)))] fun r27 =>
    bindO (partV true 4 0 r2) fun r28 =>
    callP C 52 [(demote (demote r27)), (demote (demote (demote r28)))] fun r29 =>
    bindO (cellsV (demote r29)) fun r30 =>
    (List.length r30) = 4 ∧
    4 ≤ 4 ∧
    bindO (partV false 1 1 r0) fun r31 =>
    ifP (demote r31)
      (bindO (partV true 4 0 (setAt [(.d (.int .u64 0)), (.d (.int .u64 0)), (.d (.int .u64 0)), (.d (.int .u64 0))] 0 r4)) fun r32 =>
      bindO (partV true 4 0 (setAt [(.d (.int .u64 0)), (.d (.int .u64 0)), (.d (.int .u64 0)), (.d (.int .u64 0))] 0 r30)) fun r33 =>
      callP C 52 [(demote (demote (demote r32))), (demote (demote (demote r33)))] fun r34 =>
      bindO (cellsV (demote r34)) fun r35 =>
      (List.length r35) = 4 ∧
      4 ≤ (List.length (setAt [(.d (.int .u64 0)), (.d (.int .u64 0)), (.d (.int .u64 0)), (.d (.int .u64 0))] 0 r30)) ∧
      bindO (partV true 4 0 (setAt (setAt [(.d (.int .u64 0)), (.d (.int .u64 0)), (.d (.int .u64 0)), (.d (.int .u64 0))] 0 r30) 0 r35)) fun r36 =>
      bindO (cellsV (demote (demote r36))) fun r37 =>
      (List.length r37) = 4 ∧
      4 ≤ 4 ∧
      bindO (partV true 4 0 (setAt [(.d (.int .u64 0)), (.d (.int .u64 0)), (.d (.int .u64 0)), (.d (.int .u64 0))] 0 r37)) fun r38 =>
      (SV.noRef (demote r38)) = true ∧
      (K (demote r38)))
      (bindO (partV true 4 0 (setAt [(.d (.int .u64 0)), (.d (.int .u64 0)), (.d (.int .u64 0)), (.d (.int .u64 0))] 0 r30)) fun r39 =>
      bindO (cellsV (demote (demote r39))) fun r40 =>
      (List.length r40) = 4 ∧
      4 ≤ 4 ∧
      bindO (partV true 4 0 (setAt [(.d (.int .u64 0)), (.d (.int .u64 0)), (.d (.int .u64 0)), (.d (.int .u64 0))] 0 r40)) fun r41 =>
      (SV.noRef (demote r41)) = true ∧
      (K (demote r41)))))) := by kernel_rfl

theorem body42 (C : Con) (x0 x1 x2 : SV) (K : SV → Prop) : body Go.Proofs.Try.prog gl C h42 42 [x0, x1, x2] K = (
  wfP [x0, x1, x2] (
  bindO (cellsV (demote x0)) fun r0 =>
  (List.length r0) = 5 ∧
  bindO (cellsV (demote x1)) fun r1 =>
  (List.length r1) = 1 ∧
  bindO (partV false 1 0 r1) fun r2 =>
  bindO (partV false 1 0 r1) fun r3 =>
  bindO (lenL (demote (demote r3))) fun r4 =>
  bindO (foldIntV minD (demote r4) [(demote (demote x2))]) fun r5 =>
  bindO (sliceL 1 (demote (demote (demote r2))) none (some (demote r5)) none) fun r6 =>
  bindO (cellsV (demote r6)) fun r7 =>
  (List.length r7) = 1 ∧
  1 ≤ (List.length r1) ∧
  bindO (partV true 5 0 r0) fun r8 =>
  bindO (partV false 1 0 (setAt r1 0 r7)) fun r9 =>
  bindO (lenL (demote (demote r9))) fun r10 =>
  callP C 36 [(demote (demote r10))] fun r11 =>
  ∃ r12,
  ∃ r13,
  (C 37 [(demote (demote (demote r8))), (demote (demote r11)), (.clo (.func 53) [] [(.ref (List.map demote (setAt r1 0 r7)) 0)])] (.tup [r12, r13])) ∧
  bindO (cellsV (demote (demote r12))) fun r14 =>
  (List.length r14) = 4 ∧
  4 ≤ 4 ∧
  bindO (partV true 4 0 (setAt [(.d (.int .u64 0)), (.d (.int .u64 0)), (.d (.int .u64 0)), (.d (.int .u64 0))] 0 r14)) fun r15 =>
  (SV.noRef (demote r15)) = true ∧
  (SV.noRef (demote (demote r13))) = true ∧
  (K (.tup [(demote r15), (demote (demote r13))])))) := by kernel_rfl

theorem body43 (C : Con) (x0 x1 x2 : SV) (K : SV → Prop) : body Go.Proofs.Try.prog gl C h43 43 [x0, x1, x2] K = (
  wfP [x0, x1, x2] (
  bindO (cellsV (demote x0)) fun r0 =>
  (List.length r0) = 5 ∧
  bindO (partV false 1 3 r0) fun r1 =>
  ∃ r2,
  ∃ r3,
  (C 54 [(demote (demote (demote r1))), (demote (demote (demote x1))), (demote (demote (demote x2)))] (.tup [r2, r3])) ∧
  bindO (cellsV (demote (demote (demote r2)))) fun r4 =>
  (List.length r4) = 4 ∧
  4 ≤ 4 ∧
  bindO (partV false 1 4 r0) fun r5 =>
  ∃ r6,
  ∃ r7,
  (C 54 [(demote (demote (demote r5))), (demote (demote (demote x1))), (demote (demote (demote x2)))] (.tup [r6, r7])) ∧
  bindO (cellsV (demote (demote (demote r6)))) fun r8 =>
  (List.length r8) = 4 ∧
  4 ≤ 4 ∧
  bindO (unV .not (demote (demote (demote (demote (demote r3)))))) fun r9 =>
  ifP (demote r9)
    (bindO (partsS []) fun r10 =>
    bindO (buildD Proofs.Try.prog 35 r10) fun r11 =>
    bindO (cellsV (.d r11)) fun r12 =>
    (List.length r12) = 4 ∧
    4 ≤ 4 ∧
    bindO (partV true 4 0 (setAt [(.d (.int .u64 0)), (.d (.int .u64 0)), (.d (.int .u64 0)), (.d (.int .u64 0))] 0 r12)) fun r13 =>
    (SV.noRef (demote r13)) = true ∧
    (SV.noRef (.d (.bool false))) = true ∧
    (K (.tup [(demote r13), (.d (.bool false))])))
    (bindO (unV .not (demote (demote (demote (demote (demote r7)))))) fun r14 =>
    ifP (demote r14)
      (bindO (partsS []) fun r15 =>
      bindO (buildD Proofs.Try.prog 35 r15) fun r16 =>
      bindO (cellsV (.d r16)) fun r17 =>
      (List.length r17) = 4 ∧
      4 ≤ 4 ∧
      bindO (partV true 4 0 (setAt [(.d (.int .u64 0)), (.d (.int .u64 0)), (.d (.int .u64 0)), (.d (.int .u64 0))] 0 r17)) fun r18 =>
      (SV.noRef (demote r18)) = true ∧
      (SV.noRef (.d (.bool false))) = true ∧
      (K (.tup [(demote r18), (.d (.bool false))])))
      (bindO (partV true 5 0 r0) fun r19 =>
      bindO (partV true 4 0 (setAt [(.d (.int .u64 0)), (.d (.int .u64 0)), (.d (.int .u64 0)), (.d (.int .u64 0))] 0 r4)) fun r20 =>
      bindO (partV true 4 0 (setAt [(.d (.int .u64 0)), (.d (.int .u64 0)), (.d (.int .u64 0)), (.d (.int .u64 0))] 0 r8)) fun r21 =>
      bindO (lenL (demote (demote x1))) fun r22 =>
      bindO (foldIntV minD (demote r22) [(demote (demote x2))]) fun r23 =>
      callP C 41 [(demote (demote (demote r19))), (demote (demote (demote r20))), (demote (demote (demote r21))), (demote (demote r23))] fun r24 =>
      bindO (cellsV (demote r24)) fun r25 =>
      (List.length r25) = 4 ∧
      4 ≤ 4 ∧
      bindO (partV true 4 0 (setAt [(.d (.int .u64 0)), (.d (.int .u64 0)), (.d (.int .u64 0)), (.d (.int .u64 0))] 0 r25)) fun r26 =>
      (SV.noRef (demote r26)) = true ∧
      (SV.noRef (.d (.bool true))) = true ∧
      (K (.tup [(demote r26), (.d (.bool true))])))))) := by kernel_rfl

theorem body44 (C : Con) (x0 x1 : SV) (K : SV → Prop) : body Go.Proofs.Try.prog gl C h44 44 [x0, x1] K = (
  wfP [x0, x1] (
  bindO (cellsV (demote x0)) fun r0 =>
  (List.length r0) = 4 ∧
  callP C 55 [(demote (demote (demote x1)))] fun r1 =>
  ifP (demote r1)
    (bindO (binV none .quo (demote (demote x1)) (.d (.int .i64 64))) fun r2 =>
    bindO (indexOk (demote r2) 4) fun r3 =>
    bindO (partV false 1 (0 + (r3 * 1)) r0) fun r4 =>
    bindO (binV none .rem (demote (demote x1)) (.d (.int .i64 64))) fun r5 =>
    bindO (binV none .shr (demote (demote r4)) (demote r5)) fun r6 =>
    bindO (binV none .and (demote r6) (.d (.int .u64 1))) fun r7 =>
    bindO (binV (some (false, [.int])) .eql (demote r7) (.d (.int .u64 1))) fun r8 =>
    (SV.noRef (demote (demote r8))) = true ∧
    (K (demote (demote r8))))
    ((SV.noRef (.d (.bool false))) = true ∧
    (K (.d (.bool false)))))) := by kernel_rfl

theorem body45 (C : Con) (x0 x1 : SV) (K : SV → Prop) : body Go.Proofs.Try.prog gl C h45 45 [x0, x1] K = (
  wfP [x0, x1] (
  bindO (cellsV (demote x0)) fun r0 =>
  (List.length r0) = 4 ∧
  bindO (binV none .geq (demote (demote x1)) (.d (.int .i64 0))) fun r1 =>
  ifP (demote r1)
    (bindO (binV none .lss (demote (demote x1)) (.d (.int .i64 256))) fun r2 =>
    ifP (demote (demote r2))
      (bindO (binV none .quo (demote (demote x1)) (.d (.int .i64 64))) fun r3 =>
      bindO (indexOk (demote r3) 4) fun r4 =>
      bindO (partV false 1 (0 + (r4 * 1)) r0) fun r5 =>
      callP C 56 [(demote (demote (demote x1)))] fun r6 =>
      bindO (binV none .and (demote (demote r5)) (demote r6)) fun r7 =>
      bindO (binV (some (false, [.int])) .neq (demote r7) (.d (.int .u64 0))) fun r8 =>
      (SV.noRef (demote (demote r8))) = true ∧
      (K (demote (demote r8))))
      ((SV.noRef (.d (.bool false))) = true ∧
      (K (.d (.bool false)))))
    ((SV.noRef (.d (.bool false))) = true ∧
    (K (.d (.bool false)))))) := by kernel_rfl

theorem body46 (C : Con) (x0 x1 : SV) (K : SV → Prop) : body Go.Proofs.Try.prog gl C h46 46 [x0, x1] K = (
  wfP [x0, x1] (
  bindO (cellsV (demote x0)) fun r0 =>
  (List.length r0) = 4 ∧
  bindO (binV none .geq (demote (demote x1)) (.d (.int .i64 0))) fun r1 =>
  ifP (demote r1)
    (bindO (binV none .lss (demote (demote x1)) (.d (.int .i64 256))) fun r2 =>
    ifP (demote r2)
      (bindO (binV none .quo (demote (demote x1)) (.d (.int .i64 64))) fun r3 =>
      bindO (binV none .quo (demote (demote x1)) (.d (.int .i64 64))) fun r4 =>
      bindO (indexOk (demote r4) 4) fun r5 =>
      bindO (partV false 1 (0 + (r5 * 1)) r0) fun r6 =>
      callP C 56 [(demote (demote (demote x1)))] fun r7 =>
      bindO (binV none .or (demote (demote r6)) (demote r7)) fun r8 =>
      bindO (indexOk (demote r3) 4) fun r9 =>
      bindO (cellsV (demote r8)) fun r10 =>
      (List.length r10) = 1 ∧
      ((0 + (r9 * 1)) + 1) ≤ (List.length r0) ∧
      bindO (partV true 4 0 (setAt r0 (0 + (r9 * 1)) r10)) fun r11 =>
      bindO (cellsV (demote (demote r11))) fun r12 =>
      (List.length r12) = 4 ∧
      4 ≤ 4 ∧
      bindO (partV true 4 0 (setAt [(.d (.int .u64 0)), (.d (.int .u64 0)), (.d (.int .u64 0)), (.d (.int .u64 0))] 0 r12)) fun r13 =>
      (SV.noRef (demote r13)) = true ∧
      (K (demote r13)))
      (bindO (partV true 4 0 r0) fun r14 =>
      bindO (cellsV (demote (demote r14))) fun r15 =>
      (List.length r15) = 4 ∧
      4 ≤ 4 ∧
      bindO (partV true 4 0 (setAt [(.d (.int .u64 0)), (.d (.int .u64 0)), (.d (.int .u64 0)), (.d (.int .u64 0))] 0 r15)) fun r16 =>
      (SV.noRef (demote r16)) = true ∧
      (K (demote r16))))
    (bindO (partV true 4 0 r0) fun r17 =>
    bindO (cellsV (demote (demote r17))) fun r18 =>
    (List.length r18) = 4 ∧
    4 ≤ 4 ∧
    bindO (partV true 4 0 (setAt [(.d (.int .u64 0)), (.d (.int .u64 0)), (.d (.int .u64 0)), (.d (.int .u64 0))] 0 r18)) fun r19 =>
    (SV.noRef (demote r19)) = true ∧
    (K (demote r19))))) := by kernel_rfl

theorem body47 (C : Con) (x0 x1 : SV) (K : SV → Prop) : body Go.Proofs.Try.prog gl C h47 47 [x0, x1] K = (
  wfP [x0, x1] (
  bindO (lenL (demote (demote x0))) fun r0 =>
  loopP (fun vs1 bs2 I3 =>
    bindO (binV none .lss (demote (vget vs1 3)) (demote (vget vs1 2))) fun r4 =>
    ifP r4
      (bindO (elemPtr 1 (demote (demote (vget vs1 0))) (demote (demote (demote (demote (vget vs1 3)))))) fun r5 =>
      bindO (loadV false 1 (demote r5)) fun r6 =>
      bindO (binV (some (false, [.str])) .eql (demote (demote (vget vs1 1))) (demote r6)) fun r7 =>
      ifP r7
        ((SV.noRef (demote (demote (demote (demote (vget vs1 3)))))) = true ∧
        (K (demote (demote (demote (demote (vget vs1 3)))))))
        (bindO (binV none .add (demote (vget vs1 3)) (.d (.int .i64 1))) fun r8 =>
        (I3 [(vget vs1 0), (vget vs1 1), (vget vs1 2), (demote r8)] [])))
      ((SV.noRef (.d (.int .i64 (-1)))) = true ∧
      (K (.d (.int .i64 (-1))))))
  [x0, x1, r0, (.d (.int .i64 0))] [])) := by kernel_rfl

theorem body48 (C : Con) (x0 x1 : SV) (K : SV → Prop) : body Go.Proofs.Try.prog gl C h48 48 [x0, x1] K = (
  wfP [x0, x1] (
  bindO (cellsV (demote x0)) fun r0 =>
  (List.length r0) = 4 ∧
  callP C 55 [(demote (demote (demote x1)))] fun r1 =>
  ifP r1
    (bindO (binV none .quo (demote (demote x1)) (.d (.int .i64 64))) fun r2 =>
    bindO (indexOk (demote r2) 4) fun r3 =>
    bindO (partV false 1 (0 + (r3 * 1)) r0) fun r4 =>
    bindO (binV none .rem (demote (demote x1)) (.d (.int .i64 64))) fun r5 =>
    bindO (binV none .shl (.d (.int .u64 1)) (demote r5)) fun r6 =>
    bindO (binV none .or (demote (demote r4)) (demote r6)) fun r7 =>
    bindO (indexOk (demote r2) 4) fun r8 =>
    bindO (cellsV (demote r7)) fun r9 =>
    (List.length r9) = 1 ∧
    ((0 + (r8 * 1)) + 1) ≤ (List.length r0) ∧
    bindO (partV true 4 0 (setAt r0 (0 + (r8 * 1)) r9)) fun r10 =>
    bindO (cellsV (demote (demote r10))) fun r11 =>
    (List.length r11) = 4 ∧
    4 ≤ 4 ∧
    bindO (partV true 4 0 (setAt [(.d (.int .u64 0)), (.d (.int .u64 0)), (.d (.int .u64 0)), (.d (.int .u64 0))] 0 r11)) fun r12 =>
    (SV.noRef (demote r12)) = true ∧
    (K (demote r12)))
    (bindO (partV true 4 0 r0) fun r13 =>
    bindO (cellsV (demote (demote r13))) fun r14 =>
    (List.length r14) = 4 ∧
    4 ≤ 4 ∧
    bindO (partV true 4 0 (setAt [(.d (.int .u64 0)), (.d (.int .u64 0)), (.d (.int .u64 0)), (.d (.int .u64 0))] 0 r14)) fun r15 =>
    (SV.noRef (demote r15)) = true ∧
    (K (demote r15))))) := by kernel_rfl

theorem body49 (C : Con) (x0 x1 : SV) (K : SV → Prop) : body Go.Proofs.Try.prog gl C h49 49 [x0, x1] K = (
  wfP [x0, x1] (
  bindO (cellsV (demote x0)) fun r0 =>
  (List.length r0) = 4 ∧
  bindO (cellsV (demote x1)) fun r1 =>
  (List.length r1) = 4 ∧
  loopP (fun vs2 bs3 I4 =>
    bindO (binV none .lss (demote (vget vs2 0)) (.d (.int .i64 4))) fun r5 =>
    ifP r5
      (bindO (indexOk (demote (demote (demote (demote (vget vs2 0))))) 4) fun r6 =>
      bindO (partV false 1 (0 + (r6 * 1)) (bget bs3 0)) fun r7 =>
      bindO (indexOk (demote (demote (demote (demote (vget vs2 0))))) 4) fun r8 =>
      bindO (partV false 1 (0 + (r8 * 1)) (bget bs3 1)) fun r9 =>
      bindO (binV none .or (demote (demote r7)) (demote (demote r9))) fun r10 =>
      bindO (indexOk (demote (demote (demote (demote (vget vs2 0))))) 4) fun r11 =>
      bindO (cellsV (demote r10)) fun r12 =>
      (List.length r12) = 1 ∧
      ((0 + (r11 * 1)) + 1) ≤ (List.length (bget bs3 0)) ∧
      bindO (binV none .add (demote (vget vs2 0)) (.d (.int .i64 1))) fun r13 =>
      (I4 [(demote r13)] [(Box.vals (Box.cells (setAt (bget bs3 0) (0 + (r11 * 1)) r12))), (Box.vals (Box.cells (bget bs3 1))), (Box.vals (Box.cells (bget bs3 2)))]))
      (bindO (partV true 4 0 (bget bs3 0)) fun r14 =>
      bindO (cellsV (demote (demote r14))) fun r15 =>
      (List.length r15) = 4 ∧
      4 ≤ (List.length (bget bs3 2)) ∧
      bindO (partV true 4 0 (setAt (bget bs3 2) 0 r15)) fun r16 =>
      (SV.noRef (demote r16)) = true ∧
      (K (demote r16))))
  [(.d (.int .i64 0))] [(Box.vals (Box.cells r0)), (Box.vals (Box.cells r1)), [(.d (.int .u64 0)), (.d (.int .u64 0)), (.d (.int .u64 0)), (.d (.int .u64 0))]])) := by kernel_rfl

theorem body50 (C : Con) (x0 x1 : SV) (K : SV → Prop) : body Go.Proofs.Try.prog gl C h50 50 [x0, x1] K = (
  wfP [x0, x1] (
  bindO (cellsV (demote x0)) fun r0 =>
  (List.length r0) = 4 ∧
  bindO (cellsV (demote x1)) fun r1 =>
  (List.length r1) = 4 ∧
  loopP (fun vs2 bs3 I4 =>
    bindO (binV none .lss (demote (vget vs2 0)) (.d (.int .i64 4))) fun r5 =>
    ifP r5
      (bindO (indexOk (demote (demote (demote (demote (vget vs2 0))))) 4) fun r6 =>
      bindO (partV false 1 (0 + (r6 * 1)) (bget bs3 0)) fun r7 =>
      bindO (indexOk (demote (demote (demote (demote (vget vs2 0))))) 4) fun r8 =>
      bindO (partV false 1 (0 + (r8 * 1)) (bget bs3 1)) fun r9 =>
      bindO (binV none .andNot (demote (demote r7)) (demote (demote r9))) fun r10 =>
      bindO (indexOk (demote (demote (demote (demote (vget vs2 0))))) 4) fun r11 =>
      bindO (cellsV (demote r10)) fun r12 =>
      (List.length r12) = 1 ∧
      ((0 + (r11 * 1)) + 1) ≤ (List.length (bget bs3 0)) ∧
      bindO (binV none .add (demote (vget vs2 0)) (.d (.int .i64 1))) fun r13 =>
      (I4 [(demote r13)] [(Box.vals (Box.cells (setAt (bget bs3 0) (0 + (r11 * 1)) r12))), (Box.vals (Box.cells (bget bs3 1))), (Box.vals (Box.cells (bget bs3 2)))]))
      (bindO (partV true 4 0 (bget bs3 0)) fun r14 =>
      bindO (cellsV (demote (demote r14))) fun r15 =>
      (List.length r15) = 4 ∧
      4 ≤ (List.length (bget bs3 2)) ∧
      bindO (partV true 4 0 (setAt (bget bs3 2) 0 r15)) fun r16 =>
      (SV.noRef (demote r16)) = true ∧
      (K (demote r16))))
  [(.d (.int .i64 0))] [(Box.vals (Box.cells r0)), (Box.vals (Box.cells r1)), [(.d (.int .u64 0)), (.d (.int .u64 0)), (.d (.int .u64 0)), (.d (.int .u64 0))]])) := by kernel_rfl

theorem body51 (C : Con) (x0 x1 : SV) (K : SV → Prop) : body Go.Proofs.Try.prog gl C h51 51 [x0, x1] K = (
  wfP [x0, x1] (
  bindO (cellsV (demote x1)) fun r0 =>
  (List.length r0) = 2 ∧
  bindO (partV true 2 0 r0) fun r1 =>
  ∃ r2,
  ∃ r3,
  (C 11 [(demote (demote (demote x0))), (demote (demote (demote r1)))] (.tup [r2, r3])) ∧
  ifP (demote (demote (demote (demote (demote r3)))))
    (bindO (binV none .lss (demote (demote (demote (demote (demote r2))))) (.d (.int .i64 256))) fun r4 =>
    ifP (demote r4)
      (bindO (partsS [(0, (.v (demote (demote (demote (demote (demote r2)))))))]) fun r5 =>
      (partsFit 1 1 r5) = true ∧
      callP C 32 [(.full 1 (buildElems (mkElem false [(.int .i64 0)]) r5 1 0))] fun r6 =>
      bindO (cellsV (demote r6)) fun r7 =>
      (List.length r7) = 4 ∧
      4 ≤ 4 ∧
      bindO (partV true 4 0 (setAt [(.d (.int .u64 0)), (.d (.int .u64 0)), (.d (.int .u64 0)), (.d (.int .u64 0))] 0 r7)) fun r8 =>
      (SV.noRef (demote r8)) = true ∧
      (SV.noRef (.d (.bool true))) = true ∧
      (K (.tup [(demote r8), (.d (.bool true))])))
      (bindO (partV true 2 0 r0) fun r9 =>
      ∃ r10,
      ∃ r11,
      (C 13 [(demote (demote (demote x0))), (demote (demote (demote r9)))] (.tup [r10, r11])) ∧
      bindO (cellsV (demote (demote r10))) fun r12 =>
      (List.length r12) = 4 ∧
      4 ≤ 4 ∧
      bindO (partV true 4 0 (setAt [(.d (.int .u64 0)), (.d (.int .u64 0)), (.d (.int .u64 0)), (.d (.int .u64 0))] 0 r12)) fun r13 =>
      (SV.noRef (demote r13)) = true ∧
      (SV.noRef (demote (demote r11))) = true ∧
      (K (.tup [(demote r13), (demote (demote r11))]))))
    (bindO (partV true 2 0 r0) fun r14 =>
    ∃ r15,
    ∃ r16,
    (C 13 [(demote (demote (demote x0))), (demote (demote (demote r14)))] (.tup [r15, r16])) ∧
    bindO (cellsV (demote (demote r15))) fun r17 =>
    (List.length r17) = 4 ∧
    4 ≤ 4 ∧
    bindO (partV true 4 0 (setAt [(.d (.int .u64 0)), (.d (.int .u64 0)), (.d (.int .u64 0)), (.d (.int .u64 0))] 0 r17)) fun r18 =>
    (SV.noRef (demote r18)) = true ∧
    (SV.noRef (demote (demote r16))) = true ∧
    (K (.tup [(demote r18), (demote (demote r16))]))))) := by kernel_rfl

theorem body52 (C : Con) (x0 x1 : SV) (K : SV → Prop) : body Go.Proofs.Try.prog gl C h52 52 [x0, x1] K = (
  wfP [x0, x1] (
  bindO (cellsV (demote x0)) fun r0 =>
  (List.length r0) = 4 ∧
  bindO (cellsV (demote x1)) fun r1 =>
  (List.length r1) = 4 ∧
  loopP (fun vs2 bs3 I4 =>
    bindO (binV none .lss (demote (demote (vget vs2 0))) (.d (.int .i64 4))) fun r5 =>
    ifP r5
      (bindO (indexOk (demote (demote (vget vs2 0))) 4) fun r6 =>
      bindO (partV false 1 (0 + (r6 * 1)) (bget bs3 0)) fun r7 =>
      bindO (indexOk (demote (demote (vget vs2 0))) 4) fun r8 =>
      bindO (partV false 1 (0 + (r8 * 1)) (bget bs3 1)) fun r9 =>
      bindO (binV none .andNot (demote (demote r7)) (demote (demote r9))) fun r10 =>
      bindO (indexOk (demote (demote (vget vs2 0))) 4) fun r11 =>
      bindO (cellsV (demote r10)) fun r12 =>
      (List.length r12) = 1 ∧
      ((0 + (r11 * 1)) + 1) ≤ (List.length (bget bs3 0)) ∧
      bindO (binV none .add (demote (demote (vget vs2 0))) (.d (.int .i64 1))) fun r13 =>
      (I4 [(demote r13)] [(Box.vals (Box.cells (setAt (bget bs3 0) (0 + (r11 * 1)) r12))), (Box.vals (Box.cells (bget bs3 1))), (Box.vals (Box.cells (bget bs3 2)))]))
      (bindO (partV true 4 0 (bget bs3 0)) fun r14 =>
      bindO (cellsV (demote (demote r14))) fun r15 =>
      (List.length r15) = 4 ∧
      4 ≤ (List.length (bget bs3 2)) ∧
      bindO (partV true 4 0 (setAt (bget bs3 2) 0 r15)) fun r16 =>
      (SV.noRef (demote r16)) = true ∧
      (K (demote r16))))
  [(.d (.int .i64 0))] [(Box.vals (Box.cells r0)), (Box.vals (Box.cells r1)), [(.d (.int .u64 0)), (.d (.int .u64 0)), (.d (.int .u64 0)), (.d (.int .u64 0))]])) := by kernel_rfl

theorem body53 (C : Con) (x0 x1 : SV) (K : SV → Prop) : body Go.Proofs.Try.prog gl C h53 53 [x0, x1] K = (
  wfP [x0, x1] (
  bindO (loadV false 1 (demote x1)) fun r0 =>
  callP C 47 [(demote (demote r0)), (demote (demote (demote x0)))] fun r1 =>
  bindO (partsS [(0, (.v (demote (demote (demote r1)))))]) fun r2 =>
  (partsFit 1 1 r2) = true ∧
  callP C 39 [(.full 1 (buildElems (mkElem false [(.int .i64 0)]) r2 1 0))] fun r3 =>
  bindO (binV none .geq (demote (demote (demote r1))) (.d (.int .i64 0))) fun r4 =>
  bindO (cellsV (demote r3)) fun r5 =>
  (List.length r5) = 4 ∧
  4 ≤ 4 ∧
  bindO (partV true 4 0 (setAt [(.d (.int .u64 0)), (.d (.int .u64 0)), (.d (.int .u64 0)), (.d (.int .u64 0))] 0 r5)) fun r6 =>
  (SV.noRef (demote r6)) = true ∧
  (SV.noRef (demote r4)) = true ∧
  (K (.tup [(demote r6), (demote r4)])))) := by kernel_rfl

theorem body54 (C : Con) (x0 x1 x2 : SV) (K : SV → Prop) : body Go.Proofs.Try.prog gl C h54 54 [x0, x1, x2] K = (
  wfP [x0, x1, x2] (
  loopP (fun vs0 bs1 I2 =>
    bindO (lenL (demote (demote (vget vs0 0)))) fun r3 =>
    bindO (binV none .lss (demote (demote (vget vs0 3))) (demote r3)) fun r4 =>
    ifP r4
      (bindO (elemPtr 1 (demote (demote (vget vs0 0))) (demote (demote (vget vs0 3)))) fun r5 =>
      bindO (loadV false 1 (demote r5)) fun r6 =>
      callP C 34 [(demote (demote (demote (vget vs0 1)))), (demote (demote r6))] fun r7 =>
      bindO (binV none .lss (demote (demote (demote r7))) (.d (.int .i64 0))) fun r8 =>
      ifP (demote r8)
        (bindO (partsS []) fun r9 =>
        bindO (buildD Proofs.Try.prog 35 r9) fun r10 =>
        bindO (cellsV (.d r10)) fun r11 =>
        (List.length r11) = 4 ∧
        4 ≤ (List.length (bget bs1 0)) ∧
        bindO (partV true 4 0 (setAt (bget bs1 0) 0 r11)) fun r12 =>
        (SV.noRef (demote r12)) = true ∧
        (SV.noRef (.d (.bool false))) = true ∧
        (K (.tup [(demote r12), (.d (.bool false))])))
        (bindO (binV none .geq (demote (demote (demote r7))) (demote (demote (vget vs0 2)))) fun r13 =>
        ifP (demote r13)
          (bindO (partsS []) fun r14 =>
          bindO (buildD Proofs.Try.prog 35 r14) fun r15 =>
          bindO (cellsV (.d r15)) fun r16 =>
          (List.length r16) = 4 ∧
          4 ≤ (List.length (bget bs1 0)) ∧
          bindO (partV true 4 0 (setAt (bget bs1 0) 0 r16)) fun r17 =>
          (SV.noRef (demote r17)) = true ∧
          (SV.noRef (.d (.bool false))) = true ∧
          (K (.tup [(demote r17), (.d (.bool false))])))
          (bindO (partV true 4 0 (bget bs1 1)) fun r18 =>
          callP C 46 [(demote (demote (demote r18))), (demote (demote (demote (demote r7))))] fun r19 =>
          bindO (cellsV (demote r19)) fun r20 =>
          (List.length r20) = 4 ∧
          4 ≤ (List.length (bget bs1 1)) ∧
          bindO (binV none .add (demote (demote (vget vs0 3))) (.d (.int .i64 1))) fun r21 =>
          (I2 [(vget vs0 0), (vget vs0 1), (vget vs0 2), (demote r21)] [(Box.vals (Box.cells (bget bs1 0))), (Box.vals (Box.cells (setAt (bget bs1 1) 0 r20)))]))))
      (bindO (partV true 4 0 (bget bs1 1)) fun r22 =>
      bindO (cellsV (demote (demote r22))) fun r23 =>
      (List.length r23) = 4 ∧
      4 ≤ (List.length (bget bs1 0)) ∧
      bindO (partV true 4 0 (setAt (bget bs1 0) 0 r23)) fun r24 =>
      (SV.noRef (demote r24)) = true ∧
      (SV.noRef (.d (.bool true))) = true ∧
      (K (.tup [(demote r24), (.d (.bool true))]))))
  [x0, x1, x2, (.d (.int .i64 0))] [[(.d (.int .u64 0)), (.d (.int .u64 0)), (.d (.int .u64 0)), (.d (.int .u64 0))], [(.d (.int .u64 0)), (.d (.int .u64 0)), (.d (.int .u64 0)), (.d (.int .u64 0))]])) := by kernel_rfl

theorem body55 (C : Con) (x0 : SV) (K : SV → Prop) : body Go.Proofs.Try.prog gl C h55 55 [x0] K = (
  wfP [x0] (
  bindO (binV none .geq (demote (demote x0)) (.d (.int .i64 0))) fun r0 =>
  ifP (demote r0)
    (bindO (binV none .lss (demote (demote x0)) (.d (.int .i64 256))) fun r1 =>
    (SV.noRef (demote (demote r1))) = true ∧
    (K (demote (demote r1))))
    ((SV.noRef (.d (.bool false))) = true ∧
    (K (.d (.bool false)))))) := by kernel_rfl

theorem body56 (C : Con) (x0 : SV) (K : SV → Prop) : body Go.Proofs.Try.prog gl C h56 56 [x0] K = (
  wfP [x0] (
  bindO (binV none .rem (demote (demote x0)) (.d (.int .i64 64))) fun r0 =>
  bindO (binV none .shl (.d (.int .u64 1)) (demote r0)) fun r1 =>
  (SV.noRef (demote r1)) = true ∧
  (K (demote r1)))) := by kernel_rfl

end Go.Proofs.Ytfeepndphaboeaa.Ab
