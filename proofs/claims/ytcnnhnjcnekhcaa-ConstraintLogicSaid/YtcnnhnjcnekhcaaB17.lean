/-
  Steps towards the claim of this seat (B17).
-/
import Derived.Test.YtcnnhnjcnekhcaaWc
import Derived.Test.YtcnnhnjcnekhcaaWd
import Derived.Test.YtcnnhnjcnekhcaaProg
import Derived.KernelRfl
set_option linter.unusedVariables false
set_option linter.unusedSimpArgs false
namespace Go.Proofs.Ytcnnhnjcnekhcaa.Ab
open Go
def h3 : Hints := ⟨[], []⟩
def h4 : Hints := ⟨[], [(9, [11], [3, 4, 5, 10, 79, 81, 84, 89, 91, 97, 99, 103])]⟩
def h5 : Hints := ⟨[], []⟩
def h6 : Hints := ⟨[], [(4, [1, 5], [2, 9, 15])]⟩
def h8 : Hints := ⟨[], []⟩
def h9 : Hints := ⟨[], []⟩
def h10 : Hints := ⟨[], [(4, [1, 5], [2])]⟩
def h11 : Hints := ⟨[], []⟩
def h12 : Hints := ⟨[], [(4, [1, 5], [2, 6, 10, 15, 22, 26])]⟩
def h13 : Hints := ⟨[], []⟩
def h20 : Hints := ⟨[], []⟩
def h21 : Hints := ⟨[], []⟩
def h22 : Hints := ⟨[], []⟩
def h23 : Hints := ⟨[], [(3, [3, 7, 8, 9], [1, 6])]⟩
def h24 : Hints := ⟨[], [(5, [1, 16, 17, 18], [2, 15])]⟩
def h25 : Hints := ⟨[], []⟩
def h26 : Hints := ⟨[], []⟩
def h27 : Hints := ⟨[], []⟩
def h28 : Hints := ⟨[], []⟩
def h29 : Hints := ⟨[], []⟩
def h37 : Hints := ⟨[], []⟩
def h38 : Hints := ⟨[], []⟩
def h39 : Hints := ⟨[], []⟩
def h40 : Hints := ⟨[], []⟩
def h41 : Hints := ⟨[], []⟩
def h42 : Hints := ⟨[], []⟩
def h43 : Hints := ⟨[], []⟩
def h44 : Hints := ⟨[], []⟩
def h45 : Hints := ⟨[], []⟩
def h46 : Hints := ⟨[], []⟩
def h47 : Hints := ⟨[], []⟩
def h48 : Hints := ⟨[], []⟩
def h49 : Hints := ⟨[], []⟩
def h50 : Hints := ⟨[], []⟩
def h51 : Hints := ⟨[], []⟩
def h52 : Hints := ⟨[], [(2, [0, 1, 7, 8], [])]⟩
def h59 : Hints := ⟨[], []⟩
def h60 : Hints := ⟨[], []⟩
def h61 : Hints := ⟨[], []⟩
def h62 : Hints := ⟨[], []⟩
def h63 : Hints := ⟨[], []⟩
def h64 : Hints := ⟨[], [(2, [5], [2, 3, 19, 21])]⟩
def h77 : Hints := ⟨[], []⟩
def h78 : Hints := ⟨[], []⟩
def h95 : Hints := ⟨[], []⟩
def h96 : Hints := ⟨[], []⟩
def h97 : Hints := ⟨[], []⟩
def h98 : Hints := ⟨[], []⟩
def h99 : Hints := ⟨[], []⟩
def h100 : Hints := ⟨[], []⟩
def h101 : Hints := ⟨[], []⟩
def h102 : Hints := ⟨[], []⟩
def gl : Nat → Option D := fun _ => none
theorem body3 (C : Con) (x0 x1 : SV) (K : SV → Prop) : body Go.Proofs.Try.prog gl C h3 3 [x0, x1] K = (
  wfP [x0, x1] (
  bindO (cellsV (demote x0)) fun r0 =>
  (List.length r0) = 10 ∧
  bindO (cellsV (demote x1)) fun r1 =>
  (List.length r1) = 21 ∧
  bindO (partV true 10 0 r0) fun r2 =>
  callP C 6 [(demote (demote (demote r2))), (.d (.int .i64 15))] fun r3 =>
  bindO (unV .not (demote r3)) fun r4 =>
  ifP r4
    (callP C 7 [] fun r5 =>
    (SV.noRef (demote r5)) = true ∧
    (K (demote r5)))
    (bindO (partV true 10 0 r0) fun r6 =>
    bindO (partV true 21 0 r1) fun r7 =>
    callP C 8 [(demote (demote (demote r6))), (demote (demote (demote r7)))] fun r8 =>
    bindO (partV true 10 0 r0) fun r9 =>
    bindO (partV true 21 0 r1) fun r10 =>
    callP C 9 [(demote (demote (demote r9))), (demote (demote (demote r10)))] fun r11 =>
    bindO (binV (some (false, [.bool])) .eql (demote r8) (demote r11)) fun r12 =>
    ifP (demote r12)
      (callP C 7 [] fun r13 =>
      (SV.noRef (demote (demote r13))) = true ∧
      (K (demote (demote r13))))
      ((SV.noRef (.d (.bool false))) = true ∧
      (K (.d (.bool false))))))) := by kernel_rfl

theorem body4 (C : Con) (x0 x1 x2 : SV) (K : SV → Prop) : body Go.Proofs.Try.prog gl C h4 4 [x0, x1, x2] K = (
  wfP [x0, x1, x2] (
  bindO (cellsV (demote x0)) fun r0 =>
  (List.length r0) = 10 ∧
  bindO (cellsV (demote x1)) fun r1 =>
  (List.length r1) = 10 ∧
  bindO (cellsV (demote x2)) fun r2 =>
  (List.length r2) = 21 ∧
  bindO (partV true 10 0 r0) fun r3 =>
  callP C 6 [(demote (demote (demote r3))), (.d (.int .i64 15))] fun r4 =>
  bindO (unV .not (demote r4)) fun r5 =>
  ifP (demote r5)
    (callP C 7 [] fun r6 =>
    (SV.noRef (demote r6)) = true ∧
    (K (demote r6)))
    (bindO (partV true 10 0 r1) fun r7 =>
    callP C 6 [(demote (demote (demote r7))), (.d (.int .i64 15))] fun r8 =>
    bindO (unV .not (demote r8)) fun r9 =>
    ifP (demote (demote r9))
      (callP C 7 [] fun r10 =>
      (SV.noRef (demote r10)) = true ∧
      (K (demote r10)))
      (bindO (partV true 10 0 r0) fun r11 =>
      callP C 10 [(demote (demote (demote r11))), (.d (.int .i64 11))] fun r12 =>
      bindO (unV .not (demote r12)) fun r13 =>
      ifP (demote (demote r13))
        (callP C 7 [] fun r14 =>
        (SV.noRef (demote r14)) = true ∧
        (K (demote r14)))
        (bindO (partV true 10 0 r1) fun r15 =>
        callP C 10 [(demote (demote (demote r15))), (.d (.int .i64 11))] fun r16 =>
        bindO (unV .not (demote r16)) fun r17 =>
        ifP (demote r17)
          (callP C 7 [] fun r18 =>
          (SV.noRef (demote r18)) = true ∧
          (K (demote r18)))
          (bindO (partV true 10 0 r0) fun r19 =>
          bindO (partV true 21 0 r2) fun r20 =>
          callP C 8 [(demote (demote (demote r19))), (demote (demote (demote r20)))] fun r21 =>
          bindO (partV true 10 0 r1) fun r22 =>
          bindO (partV true 21 0 r2) fun r23 =>
          callP C 8 [(demote (demote (demote r22))), (demote (demote (demote r23)))] fun r24 =>
          bindO (partV true 10 0 r0) fun r25 =>
          bindO (partV true 10 0 r1) fun r26 =>
          bindO (partsS [(0, (.v (demote (demote r25)))), (1, (.v (demote (demote r26))))]) fun r27 =>
          (partsFit 10 2 r27) = true ∧
          bindO (partV true 10 0 r0) fun r28 =>
          bindO (partsS [(0, (.v (demote (demote r28))))]) fun r29 =>
          (partsFit 10 1 r29) = true ∧
          bindO (partsS [(0, (.v (.d (.int .i64 2)))), (6, (.v (.full 10 (buildElems (mkElem true [(.int .i64 0), (.int .i64 0), (.int .i64 0), (.int .i64 0), (.sl .nil 0 []), (.int .u64 0), (.int .u64 0), (.int .u64 0), (.int .u64 0), (.sl .nil 0 [])]) r29 1 0))))]) fun r30 =>
          bindO (buildD Proofs.Try.prog 28 r30) fun r31 =>
          bindO (partV true 21 0 r2) fun r32 =>
          callP C 8 [(.d r31), (demote (demote (demote r32)))] fun r33 =>
          bindO (binV (some (false, [.bool])) .eql (demote r33) (demote (demote (demote r21)))) fun r34 =>
          ifP (demote r34)
            ((SV.noRef (.d (.bool false))) = true ∧
            (K (.d (.bool false))))
            (bindO (partsS [(0, (.v (.d (.int .i64 3)))), (6, (.v (.full 10 (buildElems (mkElem true [(.int .i64 0), (.int .i64 0), (.int .i64 0), (.int .i64 0), (.sl .nil 0 []), (.int .u64 0), (.int .u64 0), (.int .u64 0), (.int .u64 0), (.sl .nil 0 [])]) r27 2 0))))]) fun r35 =>
            bindO (buildD Proofs.Try.prog 28 r35) fun r36 =>
            bindO (partV true 21 0 r2) fun r37 =>
            callP C 8 [(.d r36), (demote (demote (demote r37)))] fun r38 =>
            ifP (demote (demote (demote r21)))
              (bindO (binV (some (false, [.bool])) .neq (demote r38) (demote (demote (demote (demote r24))))) fun r39 =>
              ifP (demote (demote r39))
                ((SV.noRef (.d (.bool false))) = true ∧
                (K (.d (.bool false))))
                (bindO (partsS [(0, (.v (.d (.int .i64 4)))), (6, (.v (.full 10 (buildElems (mkElem true [(.int .i64 0), (.int .i64 0), (.int .i64 0), (.int .i64 0), (.sl .nil 0 []), (.int .u64 0), (.int .u64 0), (.int .u64 0), (.int .u64 0), (.sl .nil 0 [])]) r27 2 0))))]) fun r40 =>
                bindO (buildD Proofs.Try.prog 28 r40) fun r41 =>
                bindO (partV true 21 0 r2) fun r42 =>
                callP C 8 [(.d r41), (demote (demote (demote r42)))] fun r43 =>
                ifP (demote (demote (demote r21)))
                  (bindO (binV (some (false, [.bool])) .neq (demote r43) (.d (.bool true))) fun r44 =>
                  ifP (demote r44)
                    ((SV.noRef (.d (.bool false))) = true ∧
                    (K (.d (.bool false))))
                    (loopP (fun vs45 bs46 I47 =>
                      bindO (binV none .lss (demote (demote (vget vs45 0))) (.d (.int .i64 5))) fun r48 =>
                      ifP r48
                        (bindO (partsS [(0, (.v (.d (.int .i64 8)))), (1, (.v (.d (.int .i64 3)))), (2, (.v (demote (demote (vget vs45 0))))), (3, (.v (.d (.int .i64 9))))]) fun r49 =>
                        bindO (buildD Proofs.Try.prog 28 r49) fun r50 =>
                        bindO (partV true 21 0 (bget bs46 2)) fun r51 =>
                        callP C 8 [(.d r50), (demote (demote (demote r51)))] fun r52 =>
                        bindO (indexOk (demote (demote (vget vs45 0))) 5) fun r53 =>
                        bindO (cellsV (demote r52)) fun r54 =>
                        (List.length r54) = 1 ∧
                        ((0 + (r53 * 1)) + 1) ≤ (List.length (bget bs46 3)) ∧
                        bindO (binV none .add (demote (demote (vget vs45 0))) (.d (.int .i64 1))) fun r55 =>
                        (I47 [(demote r55)] [(Box.vals (Box.cells (bget bs46 0))), (Box.vals (Box.cells (bget bs46 1))), (Box.vals (Box.cells (bget bs46 2))), (Box.vals (Box.cells (setAt (bget bs46 3) (0 + (r53 * 1)) r54)))]))
                        (bindO (indexOk (.d (.int .i64 0)) 5) fun r56 =>
                        bindO (partV false 1 (0 + (r56 * 1)) (bget bs46 3)) fun r57 =>
                        bindO (indexOk (.d (.int .i64 2)) 5) fun r58 =>
                        bindO (partV false 1 (0 + (r58 * 1)) (bget bs46 3)) fun r59 =>
                        ifP (demote (demote r59))
                          (bindO (indexOk (.d (.int .i64 3)) 5) fun r60 =>
                          bindO (partV false 1 (0 + (r60 * 1)) (bget bs46 3)) fun r61 =>
                          bindO (binV (some (false, [.bool])) .eql (demote (demote r57)) (demote (demote (demote r61)))) fun r62 =>
                          ifP (demote r62)
                            (bindO (indexOk (.d (.int .i64 1)) 5) fun r63 =>
                            bindO (partV false 1 (0 + (r63 * 1)) (bget bs46 3)) fun r64 =>
                            bindO (indexOk (.d (.int .i64 0)) 5) fun r65 =>
                            bindO (partV false 1 (0 + (r65 * 1)) (bget bs46 3)) fun r66 =>
                            bindO (unV .not (demote (demote r66))) fun r67 =>
                            bindO (binV (some (false, [.bool])) .eql (demote (demote r64)) (demote r67)) fun r68 =>
                            ifP (demote (demote r68))
                              (bindO (indexOk (.d (.int .i64 4)) 5) fun r69 =>
                              bindO (partV false 1 (0 + (r69 * 1)) (bget bs46 3)) fun r70 =>
                              bindO (indexOk (.d (.int .i64 2)) 5) fun r71 =>
                              bindO (partV false 1 (0 + (r71 * 1)) (bget bs46 3)) fun r72 =>
                              bindO (unV .not (demote (demote r72))) fun r73 =>
                              ifP (demote r73)
                                (bindO (indexOk (.d (.int .i64 3)) 5) fun r74 =>
                                bindO (partV false 1 (0 + (r74 * 1)) (bget bs46 3)) fun r75 =>
                                bindO (unV .not (demote (demote r75))) fun r76 =>
                                bindO (binV (some (false, [.bool])) .eql (demote (demote r70)) (demote (demote r76))) fun r77 =>
                                ifP (demote (demote r77))
                                  (callP C 7 [] fun r78 =>
                                  (SV.noRef (demote (demote r78))) = true ∧
                                  (K (demote (demote r78))))
                                  ((SV.noRef (.d (.bool false))) = true ∧
                                  (K (.d (.bool false)))))
                                (bindO (binV (some (false, [.bool])) .eql (demote (demote r70)) (.d (.bool false))) fun r79 =>
                                ifP (demote (demote r79))
                                  (callP C 7 [] fun r80 =>
                                  (SV.noRef (demote (demote r80))) = true ∧
                                  (K (demote (demote r80))))
                                  ((SV.noRef (.d (.bool false))) = true ∧
                                  (K (.d (.bool false))))))
                              ((SV.noRef (.d (.bool false))) = true ∧
                              (K (.d (.bool false)))))
                            ((SV.noRef (.d (.bool false))) = true ∧
                            (K (.d (.bool false)))))
                          (bindO (binV (some (false, [.bool])) .eql (demote (demote r57)) (.d (.bool false))) fun r81 =>
                          ifP (demote r81)
                            (bindO (indexOk (.d (.int .i64 1)) 5) fun r82 =>
                            bindO (partV false 1 (0 + (r82 * 1)) (bget bs46 3)) fun r83 =>
                            bindO (indexOk (.d (.int .i64 0)) 5) fun r84 =>
                            bindO (partV false 1 (0 + (r84 * 1)) (bget bs46 3)) fun r85 =>
                            bindO (unV .not (demote (demote r85))) fun r86 =>
                            bindO (binV (some (false, [.bool])) .eql (demote (demote r83)) (demote r86)) fun r87 =>
                            ifP (demote (demote r87))
                              (bindO (indexOk (.d (.int .i64 4)) 5) fun r88 =>
                              bindO (partV false 1 (0 + (r88 * 1)) (bget bs46 3)) fun r89 =>
                              bindO (indexOk (.d (.int .i64 2)) 5) fun r90 =>
                              bindO (partV false 1 (0 + (r90 * 1)) (bget bs46 3)) fun r91 =>
                              bindO (unV .not (demote (demote r91))) fun r92 =>
                              ifP (demote r92)
                                (bindO (indexOk (.d (.int .i64 3)) 5) fun r93 =>
                                bindO (partV false 1 (0 + (r93 * 1)) (bget bs46 3)) fun r94 =>
                                bindO (unV .not (demote (demote r94))) fun r95 =>
                                bindO (binV (some (false, [.bool])) .eql (demote (demote r89)) (demote (demote r95))) fun r96 =>
                                ifP (demote (demote r96))
                                  (callP C 7 [] fun r97 =>
                                  (SV.noRef (demote (demote r97))) = true ∧
                                  (K (demote (demote r97))))
                                  ((SV.noRef (.d (.bool false))) = true ∧
                                  (K (.d (.bool false)))))
                                (bindO (binV (some (false, [.bool])) .eql (demote (demote r89)) (.d (.bool false))) fun r98 =>
                                ifP (demote (demote r98))
                                  (callP C 7 [] fun r99 =>
                                  (SV.noRef (demote (demote r99))) = true ∧
                                  (K (demote (demote r99))))
                                  ((SV.noRef (.d (.bool false))) = true ∧
                                  (K (.d (.bool false))))))
                              ((SV.noRef (.d (.bool false))) = true ∧
                              (K (.d (.bool false)))))
                            ((SV.noRef (.d (.bool false))) = true ∧
                            (K (.d (.bool false)))))))
                    [(.d (.int .i64 0))] [(Box.vals (Box.cells r0)), (Box.vals (Box.cells r1)), (Box.vals (Box.cells r2)), [(.d (.bool false)), (.d (.bool false)), (.d (.bool false)), (.d (.bool false)), (.d (.bool false))]]))
                  (bindO (binV (some (false, [.bool])) .neq (demote r43) (demote (demote (demote (demote r24))))) fun r100 =>
                  ifP (demote r100)
                    ((SV.noRef (.d (.bool false))) = true ∧
                    (K (.d (.bool false))))
                    (loopP (fun vs101 bs102 I103 =>
                      bindO (binV none .lss (demote (demote (vget vs101 0))) (.d (.int .i64 5))) fun r104 =>
                      ifP r104
                        (bindO (partsS [(0, (.v (.d (.int .i64 8)))), (1, (.v (.d (.int .i64 3)))), (2, (.v (demote (demote (vget vs101 0))))), (3, (.v (.d (.int .i64 9))))]) fun r105 =>
                        bindO (buildD Proofs.Try.prog 28 r105) fun r106 =>
                        bindO (partV true 21 0 (bget bs102 2)) fun r107 =>
                        callP C 8 [(.d r106), (demote (demote (demote r107)))] fun r108 =>
                        bindO (indexOk (demote (demote (vget vs101 0))) 5) fun r109 =>
                        bindO (cellsV (demote r108)) fun r110 =>
                        (List.length r110) = 1 ∧
                        ((0 + (r109 * 1)) + 1) ≤ (List.length (bget bs102 3)) ∧
                        bindO (binV none .add (demote (demote (vget vs101 0))) (.d (.int .i64 1))) fun r111 =>
                        (I103 [(demote r111)] [(Box.vals (Box.cells (bget bs102 0))), (Box.vals (Box.cells (bget bs102 1))), (Box.vals (Box.cells (bget bs102 2))), (Box.vals (Box.cells (setAt (bget bs102 3) (0 + (r109 * 1)) r110)))]))
                        (bindO (indexOk (.d (.int .i64 0)) 5) fun r112 =>
                        bindO (partV false 1 (0 + (r112 * 1)) (bget bs102 3)) fun r113 =>
                        bindO (indexOk (.d (.int .i64 2)) 5) fun r114 =>
                        bindO (partV false 1 (0 + (r114 * 1)) (bget bs102 3)) fun r115 =>
                        ifP (demote (demote r115))
                          (bindO (indexOk (.d (.int .i64 3)) 5) fun r116 =>
                          bindO (partV false 1 (0 + (r116 * 1)) (bget bs102 3)) fun r117 =>
                          bindO (binV (some (false, [.bool])) .eql (demote (demote r113)) (demote (demote (demote r117)))) fun r118 =>
                          ifP (demote r118)
                            (bindO (indexOk (.d (.int .i64 1)) 5) fun r119 =>
                            bindO (partV false 1 (0 + (r119 * 1)) (bget bs102 3)) fun r120 =>
                            bindO (indexOk (.d (.int .i64 0)) 5) fun r121 =>
                            bindO (partV false 1 (0 + (r121 * 1)) (bget bs102 3)) fun r122 =>
                            bindO (unV .not (demote (demote r122))) fun r123 =>
                            bindO (binV (some (false, [.bool])) .eql (demote (demote r120)) (demote r123)) fun r124 =>
                            ifP (demote (demote r124))
                              (bindO (indexOk (.d (.int .i64 4)) 5) fun r125 =>
                              bindO (partV false 1 (0 + (r125 * 1)) (bget bs102 3)) fun r126 =>
                              bindO (indexOk (.d (.int .i64 2)) 5) fun r127 =>
                              bindO (partV false 1 (0 + (r127 * 1)) (bget bs102 3)) fun r128 =>
                              bindO (unV .not (demote (demote r128))) fun r129 =>
                              ifP (demote r129)
                                (bindO (indexOk (.d (.int .i64 3)) 5) fun r130 =>
                                bindO (partV false 1 (0 + (r130 * 1)) (bget bs102 3)) fun r131 =>
                                bindO (unV .not (demote (demote r131))) fun r132 =>
                                bindO (binV (some (false, [.bool])) .eql (demote (demote r126)) (demote (demote r132))) fun r133 =>
                                ifP (demote (demote r133))
                                  (callP C 7 [] fun r134 =>
                                  (SV.noRef (demote (demote r134))) = true ∧
                                  (K (demote (demote r134))))
                                  ((SV.noRef (.d (.bool false))) = true ∧
                                  (K (.d (.bool false)))))
                                (bindO (binV (some (false, [.bool])) .eql (demote (demote r126)) (.d (.bool false))) fun r135 =>
                                ifP (demote (demote r135))
                                  (callP C 7 [] fun r136 =>
                                  (SV.noRef (demote (demote r136))) = true ∧
                                  (K (demote (demote r136))))
                                  ((SV.noRef (.d (.bool false))) = true ∧
                                  (K (.d (.bool false))))))
                              ((SV.noRef (.d (.bool false))) = true ∧
                              (K (.d (.bool false)))))
                            ((SV.noRef (.d (.bool false))) = true ∧
                            (K (.d (.bool false)))))
                          (bindO (binV (some (false, [.bool])) .eql (demote (demote r113)) (.d (.bool false))) fun r137 =>
                          ifP (demote r137)
                            (bindO (indexOk (.d (.int .i64 1)) 5) fun r138 =>
                            bindO (partV false 1 (0 + (r138 * 1)) (bget bs102 3)) fun r139 =>
                            bindO (indexOk (.d (.int .i64 0)) 5) fun r140 =>
                            bindO (partV false 1 (0 + (r140 * 1)) (bget bs102 3)) fun r141 =>
                            bindO (unV .not (demote (demote r141))) fun r142 =>
                            bindO (binV (some (false, [.bool])) .eql (demote (demote r139)) (demote r142)) fun r143 =>
                            ifP (demote (demote r143))
                              (bindO (indexOk (.d (.int .i64 4)) 5) fun r144 =>
                              bindO (partV false 1 (0 + (r144 * 1)) (bget bs102 3)) fun r145 =>
                              bindO (indexOk (.d (.int .i64 2)) 5) fun r146 =>
                              bindO (partV false 1 (0 + (r146 * 1)) (bget bs102 3)) fun r147 =>
                              bindO (unV .not (demote (demote r147))) fun r148 =>
                              ifP (demote r148)
                                (bindO (indexOk (.d (.int .i64 3)) 5) fun r149 =>
                                bindO (partV false 1 (0 + (r149 * 1)) (bget bs102 3)) fun r150 =>
                                bindO (unV .not (demote (demote r150))) fun r151 =>
                                bindO (binV (some (false, [.bool])) .eql (demote (demote r145)) (demote (demote r151))) fun r152 =>
                                ifP (demote (demote r152))
                                  (callP C 7 [] fun r153 =>
                                  (SV.noRef (demote (demote r153))) = true ∧
                                  (K (demote (demote r153))))
                                  ((SV.noRef (.d (.bool false))) = true ∧
                                  (K (.d (.bool false)))))
                                (bindO (binV (some (false, [.bool])) .eql (demote (demote r145)) (.d (.bool false))) fun r154 =>
                                ifP (demote (demote r154))
                                  (callP C 7 [] fun r155 =>
                                  (SV.noRef (demote (demote r155))) = true ∧
                                  (K (demote (demote r155))))
                                  ((SV.noRef (.d (.bool false))) = true ∧
                                  (K (.d (.bool false))))))
                              ((SV.noRef (.d (.bool false))) = true ∧
                              (K (.d (.bool false)))))
                            ((SV.noRef (.d (.bool false))) = true ∧
                            (K (.d (.bool false)))))))
                    [(.d (.int .i64 0))] [(Box.vals (Box.cells r0)), (Box.vals (Box.cells r1)), (Box.vals (Box.cells r2)), [(.d (.bool false)), (.d (.bool false)), (.d (.bool false)), (.d (.bool false)), (.d (.bool false))]]))))
              (bindO (binV (some (false, [.bool])) .neq (demote r38) (.d (.bool false))) fun r156 =>
              ifP (demote (demote r156))
                ((SV.noRef (.d (.bool false))) = true ∧
                (K (.d (.bool false))))
                (bindO (partsS [(0, (.v (.d (.int .i64 4)))), (6, (.v (.full 10 (buildElems (mkElem true [(.int .i64 0), (.int .i64 0), (.int .i64 0), (.int .i64 0), (.sl .nil 0 []), (.int .u64 0), (.int .u64 0), (.int .u64 0), (.int .u64 0), (.sl .nil 0 [])]) r27 2 0))))]) fun r157 =>
                bindO (buildD Proofs.Try.prog 28 r157) fun r158 =>
                bindO (partV true 21 0 r2) fun r159 =>
                callP C 8 [(.d r158), (demote (demote (demote r159)))] fun r160 =>
                ifP (demote (demote (demote r21)))
                  (bindO (binV (some (false, [.bool])) .neq (demote r160) (.d (.bool true))) fun r161 =>
                  ifP (demote r161)
                    ((SV.noRef (.d (.bool false))) = true ∧
                    (K (.d (.bool false))))
                    (loopP (fun vs162 bs163 I164 =>
                      bindO (binV none .lss (demote (demote (vget vs162 0))) (.d (.int .i64 5))) fun r165 =>
                      ifP r165
                        (bindO (partsS [(0, (.v (.d (.int .i64 8)))), (1, (.v (.d (.int .i64 3)))), (2, (.v (demote (demote (vget vs162 0))))), (3, (.v (.d (.int .i64 9))))]) fun r166 =>
                        bindO (buildD Proofs.Try.prog 28 r166) fun r167 =>
                        bindO (partV true 21 0 (bget bs163 2)) fun r168 =>
                        callP C 8 [(.d r167), (demote (demote (demote r168)))] fun r169 =>
                        bindO (indexOk (demote (demote (vget vs162 0))) 5) fun r170 =>
                        bindO (cellsV (demote r169)) fun r171 =>
                        (List.length r171) = 1 ∧
                        ((0 + (r170 * 1)) + 1) ≤ (List.length (bget bs163 3)) ∧
                        bindO (binV none .add (demote (demote (vget vs162 0))) (.d (.int .i64 1))) fun r172 =>
                        (I164 [(demote r172)] [(Box.vals (Box.cells (bget bs163 0))), (Box.vals (Box.cells (bget bs163 1))), (Box.vals (Box.cells (bget bs163 2))), (Box.vals (Box.cells (setAt (bget bs163 3) (0 + (r170 * 1)) r171)))]))
                        (bindO (indexOk (.d (.int .i64 0)) 5) fun r173 =>
                        bindO (partV false 1 (0 + (r173 * 1)) (bget bs163 3)) fun r174 =>
                        bindO (indexOk (.d (.int .i64 2)) 5) fun r175 =>
                        bindO (partV false 1 (0 + (r175 * 1)) (bget bs163 3)) fun r176 =>
                        ifP (demote (demote r176))
                          (bindO (indexOk (.d (.int .i64 3)) 5) fun r177 =>
                          bindO (partV false 1 (0 + (r177 * 1)) (bget bs163 3)) fun r178 =>
                          bindO (binV (some (false, [.bool])) .eql (demote (demote r174)) (demote (demote (demote r178)))) fun r179 =>
                          ifP (demote r179)
                            (bindO (indexOk (.d (.int .i64 1)) 5) fun r180 =>
                            bindO (partV false 1 (0 + (r180 * 1)) (bget bs163 3)) fun r181 =>
                            bindO (indexOk (.d (.int .i64 0)) 5) fun r182 =>
                            bindO (partV false 1 (0 + (r182 * 1)) (bget bs163 3)) fun r183 =>
                            bindO (unV .not (demote (demote r183))) fun r184 =>
                            bindO (binV (some (false, [.bool])) .eql (demote (demote r181)) (demote r184)) fun r185 =>
                            ifP (demote (demote r185))
                              (bindO (indexOk (.d (.int .i64 4)) 5) fun r186 =>
                              bindO (partV false 1 (0 + (r186 * 1)) (bget bs163 3)) fun r187 =>
                              bindO (indexOk (.d (.int .i64 2)) 5) fun r188 =>
                              bindO (partV false 1 (0 + (r188 * 1)) (bget bs163 3)) fun r189 =>
                              bindO (unV .not (demote (demote r189))) fun r190 =>
                              ifP (demote r190)
                                (bindO (indexOk (.d (.int .i64 3)) 5) fun r191 =>
                                bindO (partV false 1 (0 + (r191 * 1)) (bget bs163 3)) fun r192 =>
                                bindO (unV .not (demote (demote r192))) fun r193 =>
                                bindO (binV (some (false, [.bool])) .eql (demote (demote r187)) (demote (demote r193))) fun r194 =>
                                ifP (demote (demote r194))
                                  (callP C 7 [] fun r195 =>
                                  (SV.noRef (demote (demote r195))) = true ∧
                                  (K (demote (demote r195))))
                                  ((SV.noRef (.d (.bool false))) = true ∧
                                  (K (.d (.bool false)))))
                                (bindO (binV (some (false, [.bool])) .eql (demote (demote r187)) (.d (.bool false))) fun r196 =>
                                ifP (demote (demote r196))
                                  (callP C 7 [] fun r197 =>
                                  (SV.noRef (demote (demote r197))) = true ∧
                                  (K (demote (demote r197))))
                                  ((SV.noRef (.d (.bool false))) = true ∧
                                  (K (.d (.bool false))))))
                              ((SV.noRef (.d (.bool false))) = true ∧
                              (K (.d (.bool false)))))
                            ((SV.noRef (.d (.bool false))) = true ∧
                            (K (.d (.bool false)))))
                          (bindO (binV (some (false, [.bool])) .eql (demote (demote r174)) (.d (.bool false))) fun r198 =>
                          ifP (demote r198)
                            (bindO (indexOk (.d (.int .i64 1)) 5) fun r199 =>
                            bindO (partV false 1 (0 + (r199 * 1)) (bget bs163 3)) fun r200 =>
                            bindO (indexOk (.d (.int .i64 0)) 5) fun r201 =>
                            bindO (partV false 1 (0 + (r201 * 1)) (bget bs163 3)) fun r202 =>
                            bindO (unV .not (demote (demote r202))) fun r203 =>
                            bindO (binV (some (false, [.bool])) .eql (demote (demote r200)) (demote r203)) fun r204 =>
                            ifP (demote (demote r204))
                              (bindO (indexOk (.d (.int .i64 4)) 5) fun r205 =>
                              bindO (partV false 1 (0 + (r205 * 1)) (bget bs163 3)) fun r206 =>
                              bindO (indexOk (.d (.int .i64 2)) 5) fun r207 =>
                              bindO (partV false 1 (0 + (r207 * 1)) (bget bs163 3)) fun r208 =>
                              bindO (unV .not (demote (demote r208))) fun r209 =>
                              ifP (demote r209)
                                (bindO (indexOk (.d (.int .i64 3)) 5) fun r210 =>
                                bindO (partV false 1 (0 + (r210 * 1)) (bget bs163 3)) fun r211 =>
                                bindO (unV .not (demote (demote r211))) fun r212 =>
                                bindO (binV (some (false, [.bool])) .eql (demote (demote r206)) (demote (demote r212))) fun r213 =>
                                ifP (demote (demote r213))
                                  (callP C 7 [] fun r214 =>
                                  (SV.noRef (demote (demote r214))) = true ∧
                                  (K (demote (demote r214))))
                                  ((SV.noRef (.d (.bool false))) = true ∧
                                  (K (.d (.bool false)))))
                                (bindO (binV (some (false, [.bool])) .eql (demote (demote r206)) (.d (.bool false))) fun r215 =>
                                ifP (demote (demote r215))
                                  (callP C 7 [] fun r216 =>
                                  (SV.noRef (demote (demote r216))) = true ∧
                                  (K (demote (demote r216))))
                                  ((SV.noRef (.d (.bool false))) = true ∧
                                  (K (.d (.bool false))))))
                              ((SV.noRef (.d (.bool false))) = true ∧
                              (K (.d (.bool false)))))
                            ((SV.noRef (.d (.bool false))) = true ∧
                            (K (.d (.bool false)))))))
                    [(.d (.int .i64 0))] [(Box.vals (Box.cells r0)), (Box.vals (Box.cells r1)), (Box.vals (Box.cells r2)), [(.d (.bool false)), (.d (.bool false)), (.d (.bool false)), (.d (.bool false)), (.d (.bool false))]]))
                  (bindO (binV (some (false, [.bool])) .neq (demote r160) (demote (demote (demote (demote r24))))) fun r217 =>
                  ifP (demote r217)
                    ((SV.noRef (.d (.bool false))) = true ∧
                    (K (.d (.bool false))))
                    (loopP (fun vs218 bs219 I220 =>
                      bindO (binV none .lss (demote (demote (vget vs218 0))) (.d (.int .i64 5))) fun r221 =>
                      ifP r221
                        (bindO (partsS [(0, (.v (.d (.int .i64 8)))), (1, (.v (.d (.int .i64 3)))), (2, (.v (demote (demote (vget vs218 0))))), (3, (.v (.d (.int .i64 9))))]) fun r222 =>
                        bindO (buildD Proofs.Try.prog 28 r222) fun r223 =>
                        bindO (partV true 21 0 (bget bs219 2)) fun r224 =>
                        callP C 8 [(.d r223), (demote (demote (demote r224)))] fun r225 =>
                        bindO (indexOk (demote (demote (vget vs218 0))) 5) fun r226 =>
                        bindO (cellsV (demote r225)) fun r227 =>
                        (List.length r227) = 1 ∧
                        ((0 + (r226 * 1)) + 1) ≤ (List.length (bget bs219 3)) ∧
                        bindO (binV none .add (demote (demote (vget vs218 0))) (.d (.int .i64 1))) fun r228 =>
                        (I220 [(demote r228)] [(Box.vals (Box.cells (bget bs219 0))), (Box.vals (Box.cells (bget bs219 1))), (Box.vals (Box.cells (bget bs219 2))), (Box.vals (Box.cells (setAt (bget bs219 3) (0 + (r226 * 1)) r227)))]))
                        (bindO (indexOk (.d (.int .i64 0)) 5) fun r229 =>
                        bindO (partV false 1 (0 + (r229 * 1)) (bget bs219 3)) fun r230 =>
                        bindO (indexOk (.d (.int .i64 2)) 5) fun r231 =>
                        bindO (partV false 1 (0 + (r231 * 1)) (bget bs219 3)) fun r232 =>
                        ifP (demote (demote r232))
                          (bindO (indexOk (.d (.int .i64 3)) 5) fun r233 =>
                          bindO (partV false 1 (0 + (r233 * 1)) (bget bs219 3)) fun r234 =>
                          bindO (binV (some (false, [.bool])) .eql (demote (demote r230)) (demote (demote (demote r234)))) fun r235 =>
                          ifP (demote r235)
                            (bindO (indexOk (.d (.int .i64 1)) 5) fun r236 =>
                            bindO (partV false 1 (0 + (r236 * 1)) (bget bs219 3)) fun r237 =>
                            bindO (indexOk (.d (.int .i64 0)) 5) fun r238 =>
                            bindO (partV false 1 (0 + (r238 * 1)) (bget bs219 3)) fun r239 =>
                            bindO (unV .not (demote (demote r239))) fun r240 =>
                            bindO (binV (some (false, [.bool])) .eql (demote (demote r237)) (demote r240)) fun r241 =>
                            ifP (demote (demote r241))
                              (bindO (indexOk (.d (.int .i64 4)) 5) fun r242 =>
                              bindO (partV false 1 (0 + (r242 * 1)) (bget bs219 3)) fun r243 =>
                              bindO (indexOk (.d (.int .i64 2)) 5) fun r244 =>
                              bindO (partV false 1 (0 + (r244 * 1)) (bget bs219 3)) fun r245 =>
                              bindO (unV .not (demote (demote r245))) fun r246 =>
                              ifP (demote r246)
                                (bindO (indexOk (.d (.int .i64 3)) 5) fun r247 =>
                                bindO (partV false 1 (0 + (r247 * 1)) (bget bs219 3)) fun r248 =>
                                bindO (unV .not (demote (demote r248))) fun r249 =>
                                bindO (binV (some (false, [.bool])) .eql (demote (demote r243)) (demote (demote r249))) fun r250 =>
                                ifP (demote (demote r250))
                                  (callP C 7 [] fun r251 =>
                                  (SV.noRef (demote (demote r251))) = true ∧
                                  (K (demote (demote r251))))
                                  ((SV.noRef (.d (.bool false))) = true ∧
                                  (K (.d (.bool false)))))
                                (bindO (binV (some (false, [.bool])) .eql (demote (demote r243)) (.d (.bool false))) fun r252 =>
                                ifP (demote (demote r252))
                                  (callP C 7 [] fun r253 =>
                                  (SV.noRef (demote (demote r253))) = true ∧
                                  (K (demote (demote r253))))
                                  ((SV.noRef (.d (.bool false))) = true ∧
                                  (K (.d (.bool false))))))
                              ((SV.noRef (.d (.bool false))) = true ∧
                              (K (.d (.bool false)))))
                            ((SV.noRef (.d (.bool false))) = true ∧
                            (K (.d (.bool false)))))
                          (bindO (binV (some (false, [.bool])) .eql (demote (demote r230)) (.d (.bool false))) fun r254 =>
                          ifP (demote r254)
                            (bindO (indexOk (.d (.int .i64 1)) 5) fun r255 =>
                            bindO (partV false 1 (0 + (r255 * 1)) (bget bs219 3)) fun r256 =>
                            bindO (indexOk (.d (.int .i64 0)) 5) fun r257 =>
                            bindO (partV false 1 (0 + (r257 * 1)) (bget bs219 3)) fun r258 =>
                            bindO (unV .not (demote (demote r258))) fun r259 =>
                            bindO (binV (some (false, [.bool])) .eql (demote (demote r256)) (demote r259)) fun r260 =>
                            ifP (demote (demote r260))
                              (bindO (indexOk (.d (.int .i64 4)) 5) fun r261 =>
                              bindO (partV false 1 (0 + (r261 * 1)) (bget bs219 3)) fun r262 =>
                              bindO (indexOk (.d (.int .i64 2)) 5) fun r263 =>
                              bindO (partV false 1 (0 + (r263 * 1)) (bget bs219 3)) fun r264 =>
                              bindO (unV .not (demote (demote r264))) fun r265 =>
                              ifP (demote r265)
                                (bindO (indexOk (.d (.int .i64 3)) 5) fun r266 =>
                                bindO (partV false 1 (0 + (r266 * 1)) (bget bs219 3)) fun r267 =>
                                bindO (unV .not (demote (demote r267))) fun r268 =>
                                bindO (binV (some (false, [.bool])) .eql (demote (demote r262)) (demote (demote r268))) fun r269 =>
                                ifP (demote (demote r269))
                                  (callP C 7 [] fun r270 =>
                                  (SV.noRef (demote (demote r270))) = true ∧
                                  (K (demote (demote r270))))
                                  ((SV.noRef (.d (.bool false))) = true ∧
                                  (K (.d (.bool false)))))
                                (bindO (binV (some (false, [.bool])) .eql (demote (demote r262)) (.d (.bool false))) fun r271 =>
                                ifP (demote (demote r271))
                                  (callP C 7 [] fun r272 =>
                                  (SV.noRef (demote (demote r272))) = true ∧
                                  (K (demote (demote r272))))
                                  ((SV.noRef (.d (.bool false))) = true ∧
                                  (K (.d (.bool false))))))
                              ((SV.noRef (.d (.bool false))) = true ∧
                              (K (.d (.bool false)))))
                            ((SV.noRef (.d (.bool false))) = true ∧
                            (K (.d (.bool false)))))))
                    [(.d (.int .i64 0))] [(Box.vals (Box.cells r0)), (Box.vals (Box.cells r1)), (Box.vals (Box.cells r2)), [(.d (.bool false)), (.d (.bool false)), (.d (.bool false)), (.d (.bool false)), (.d (.bool false))]]))))))))))) := by kernel_rfl

theorem body5 (C : Con) (x0 x1 x2 : SV) (K : SV → Prop) : body Go.Proofs.Try.prog gl C h5 5 [x0, x1, x2] K = (
  wfP [x0, x1, x2] (
  bindO (cellsV (demote x0)) fun r0 =>
  (List.length r0) = 10 ∧
  bindO (cellsV (demote x2)) fun r1 =>
  (List.length r1) = 42 ∧
  bindO (partV true 10 0 r0) fun r2 =>
  callP C 6 [(demote (demote (demote r2))), (.d (.int .i64 15))] fun r3 =>
  bindO (unV .not (demote r3)) fun r4 =>
  ifP r4
    (callP C 7 [] fun r5 =>
    (SV.noRef (demote r5)) = true ∧
    (K (demote r5)))
    (bindO (partV true 10 0 r0) fun r6 =>
    callP C 11 [(demote (demote (demote r6))), (demote (demote (demote x1)))] fun r7 =>
    bindO (partV true 10 0 r0) fun r8 =>
    callP C 12 [(demote (demote (demote r8))), (demote (demote (demote x1)))] fun r9 =>
    bindO (binV (some (false, [.bool])) .neq (demote (demote (demote r7))) (demote r9)) fun r10 =>
    ifP r10
      ((SV.noRef (.d (.bool false))) = true ∧
      (K (.d (.bool false))))
      (ifP (demote (demote (demote r7)))
        (callP C 7 [] fun r11 =>
        (SV.noRef (demote r11)) = true ∧
        (K (demote r11)))
        (bindO (binV none .lss (demote (demote x1)) (.d (.int .i64 0))) fun r12 =>
        ifP (demote (demote r12))
          (callP C 7 [] fun r13 =>
          (SV.noRef (demote r13)) = true ∧
          (K (demote r13)))
          (bindO (binV none .geq (demote (demote x1)) (.d (.int .i64 15))) fun r14 =>
          ifP (demote (demote r14))
            (callP C 7 [] fun r15 =>
            (SV.noRef (demote r15)) = true ∧
            (K (demote r15)))
            (bindO (partV true 10 0 r0) fun r16 =>
            callP C 10 [(demote (demote (demote r16))), (.d (.int .i64 12))] fun r17 =>
            bindO (unV .not (demote r17)) fun r18 =>
            ifP (demote r18)
              (callP C 7 [] fun r19 =>
              (SV.noRef (demote r19)) = true ∧
              (K (demote r19)))
              (bindO (indexOk (.d (.int .i64 0)) 2) fun r20 =>
              bindO (partV true 21 (0 + (r20 * 21)) r1) fun r21 =>
              bindO (binV none .rem (demote (demote x1)) (.d (.int .i64 5))) fun r22 =>
              bindO (cellsV (demote (demote r21))) fun r23 =>
              (List.length r23) = 21 ∧
              21 ≤ 21 ∧
              bindO (binV none .quo (demote (demote x1)) (.d (.int .i64 5))) fun r24 =>
              bindO (binV (some (false, [.int])) .eql (demote r24) (.d (.int .i64 0))) fun r25 =>
              ifP (demote r25)
                (bindO (partV true 7 0 (setAt [(.d (.int .i64 0)), (.d (.int .i64 0)), (.d (.int .i64 0)), (.d (.int .i64 0)), (.d (.int .u64 0)), (.d (.int .i64 0)), (.d (.int .u64 0)), (.d (.int .i64 0)), (.d (.int .i64 0)), (.d (.int .i64 0)), (.d (.int .i64 0)), (.d (.int .u64 0)), (.d (.int .i64 0)), (.d (.int .u64 0)), (.d (.int .i64 0)), (.d (.int .i64 0)), (.d (.int .i64 0)), (.d (.int .i64 0)), (.d (.int .u64 0)), (.d (.int .i64 0)), (.d (.int .u64 0))] 0 r23)) fun r26 =>
                bindO (indexOk (.d (.int .i64 1)) 2) fun r27 =>
                bindO (partV true 7 ((0 + (r27 * 21)) + 0) r1) fun r28 =>
                callP C 13 [(demote (demote (demote r26))), (demote (demote (demote (demote r22)))), (demote (demote (demote r28)))] fun r29 =>
                bindO (cellsV (demote r29)) fun r30 =>
                (List.length r30) = 7 ∧
                7 ≤ (List.length (setAt [(.d (.int .i64 0)), (.d (.int .i64 0)), (.d (.int .i64 0)), (.d (.int .i64 0)), (.d (.int .u64 0)), (.d (.int .i64 0)), (.d (.int .u64 0)), (.d (.int .i64 0)), (.d (.int .i64 0)), (.d (.int .i64 0)), (.d (.int .i64 0)), (.d (.int .u64 0)), (.d (.int .i64 0)), (.d (.int .u64 0)), (.d (.int .i64 0)), (.d (.int .i64 0)), (.d (.int .i64 0)), (.d (.int .i64 0)), (.d (.int .u64 0)), (.d (.int .i64 0)), (.d (.int .u64 0))] 0 r23)) ∧
                bindO (partV true 10 0 r0) fun r31 =>
                bindO (partV true 21 0 (setAt (setAt [(.d (.int .i64 0)), (.d (.int .i64 0)), (.d (.int .i64 0)), (.d (.int .i64 0)), (.d (.int .u64 0)), (.d (.int .i64 0)), (.d (.int .u64 0)), (.d (.int .i64 0)), (.d (.int .i64 0)), (.d (.int .i64 0)), (.d (.int .i64 0)), (.d (.int .u64 0)), (.d (.int .i64 0)), (.d (.int .u64 0)), (.d (.int .i64 0)), (.d (.int .i64 0)), (.d (.int .i64 0)), (.d (.int .i64 0)), (.d (.int .u64 0)), (.d (.int .i64 0)), (.d (.int .u64 0))] 0 r23) 0 r30)) fun r32 =>
                callP C 8 [(demote (demote (demote r31))), (demote (demote (demote r32)))] fun r33 =>
                bindO (partV true 10 0 r0) fun r34 =>
                bindO (indexOk (.d (.int .i64 0)) 2) fun r35 =>
                bindO (partV true 21 (0 + (r35 * 21)) r1) fun r36 =>
                callP C 8 [(demote (demote (demote r34))), (demote (demote (demote r36)))] fun r37 =>
                bindO (binV (some (false, [.bool])) .eql (demote r33) (demote r37)) fun r38 =>
                ifP (demote r38)
                  (callP C 7 [] fun r39 =>
                  (SV.noRef (demote (demote r39))) = true ∧
                  (K (demote (demote r39))))
                  ((SV.noRef (.d (.bool false))) = true ∧
                  (K (.d (.bool false)))))
                (bindO (binV (some (false, [.int])) .eql (demote r24) (.d (.int .i64 1))) fun r40 =>
                ifP (demote r40)
                  (bindO (partV true 7 7 (setAt [(.d (.int .i64 0)), (.d (.int .i64 0)), (.d (.int .i64 0)), (.d (.int .i64 0)), (.d (.int .u64 0)), (.d (.int .i64 0)), (.d (.int .u64 0)), (.d (.int .i64 0)), (.d (.int .i64 0)), (.d (.int .i64 0)), (.d (.int .i64 0)), (.d (.int .u64 0)), (.d (.int .i64 0)), (.d (.int .u64 0)), (.d (.int .i64 0)), (.d (.int .i64 0)), (.d (.int .i64 0)), (.d (.int .i64 0)), (.d (.int .u64 0)), (.d (.int .i64 0)), (.d (.int .u64 0))] 0 r23)) fun r41 =>
                  bindO (indexOk (.d (.int .i64 1)) 2) fun r42 =>
                  bindO (partV true 7 ((0 + (r42 * 21)) + 7) r1) fun r43 =>
                  callP C 13 [(demote (demote (demote r41))), (demote (demote (demote (demote r22)))), (demote (demote (demote r43)))] fun r44 =>
                  bindO (cellsV (demote r44)) fun r45 =>
                  (List.length r45) = 7 ∧
                  14 ≤ (List.length (setAt [(.d (.int .i64 0)), (.d (.int .i64 0)), (.d (.int .i64 0)), (.d (.int .i64 0)), (.d (.int .u64 0)), (.d (.int .i64 0)), (.d (.int .u64 0)), (.d (.int .i64 0)), (.d (.int .i64 0)), (.d (.int .i64 0)), (.d (.int .i64 0)), (.d (.int .u64 0)), (.d (.int .i64 0)), (.d (.int .u64 0)), (.d (.int .i64 0)), (.d (.int .i64 0)), (.d (.int .i64 0)), (.d (.int .i64 0)), (.d (.int .u64 0)), (.d (.int .i64 0)), (.d (.int .u64 0))] 0 r23)) ∧
                  bindO (partV true 10 0 r0) fun r46 =>
                  bindO (partV true 21 0 (setAt (setAt [(.d (.int .i64 0)), (.d (.int .i64 0)), (.d (.int .i64 0)), (.d (.int .i64 0)), (.d (.int .u64 0)), (.d (.int .i64 0)), (.d (.int .u64 0)), (.d (.int .i64 0)), (.d (.int .i64 0)), (.d (.int .i64 0)), (.d (.int .i64 0)), (.d (.int .u64 0)), (.d (.int .i64 0)), (.d (.int .u64 0)), (.d (.int .i64 0)), (.d (.int .i64 0)), (.d (.int .i64 0)), (.d (.int .i64 0)), (.d (.int .u64 0)), (.d (.int .i64 0)), (.d (.int .u64 0))] 0 r23) 7 r45)) fun r47 =>
                  callP C 8 [(demote (demote (demote r46))), (demote (demote (demote r47)))] fun r48 =>
                  bindO (partV true 10 0 r0) fun r49 =>
                  bindO (indexOk (.d (.int .i64 0)) 2) fun r50 =>
                  bindO (partV true 21 (0 + (r50 * 21)) r1) fun r51 =>
                  callP C 8 [(demote (demote (demote r49))), (demote (demote (demote r51)))] fun r52 =>
                  bindO (binV (some (false, [.bool])) .eql (demote r48) (demote r52)) fun r53 =>
                  ifP (demote r53)
                    (callP C 7 [] fun r54 =>
                    (SV.noRef (demote (demote r54))) = true ∧
                    (K (demote (demote r54))))
                    ((SV.noRef (.d (.bool false))) = true ∧
                    (K (.d (.bool false)))))
                  (bindO (partV true 7 14 (setAt [(.d (.int .i64 0)), (.d (.int .i64 0)), (.d (.int .i64 0)), (.d (.int .i64 0)), (.d (.int .u64 0)), (.d (.int .i64 0)), (.d (.int .u64 0)), (.d (.int .i64 0)), (.d (.int .i64 0)), (.d (.int .i64 0)), (.d (.int .i64 0)), (.d (.int .u64 0)), (.d (.int .i64 0)), (.d (.int .u64 0)), (.d (.int .i64 0)), (.d (.int .i64 0)), (.d (.int .i64 0)), (.d (.int .i64 0)), (.d (.int .u64 0)), (.d (.int .i64 0)), (.d (.int .u64 0))] 0 r23)) fun r55 =>
                  bindO (indexOk (.d (.int .i64 1)) 2) fun r56 =>
                  bindO (partV true 7 ((0 + (r56 * 21)) + 14) r1) fun r57 =>
                  callP C 13 [(demote (demote (demote r55))), (demote (demote (demote (demote r22)))), (demote (demote (demote r57)))] fun r58 =>
                  bindO (cellsV (demote r58)) fun r59 =>
                  (List.length r59) = 7 ∧
                  21 ≤ (List.length (setAt [(.d (.int .i64 0)), (.d (.int .i64 0)), (.d (.int .i64 0)), (.d (.int .i64 0)), (.d (.int .u64 0)), (.d (.int .i64 0)), (.d (.int .u64 0)), (.d (.int .i64 0)), (.d (.int .i64 0)), (.d (.int .i64 0)), (.d (.int .i64 0)), (.d (.int .u64 0)), (.d (.int .i64 0)), (.d (.int .u64 0)), (.d (.int .i64 0)), (.d (.int .i64 0)), (.d (.int .i64 0)), (.d (.int .i64 0)), (.d (.int .u64 0)), (.d (.int .i64 0)), (.d (.int .u64 0))] 0 r23)) ∧
                  bindO (partV true 10 0 r0) fun r60 =>
                  bindO (partV true 21 0 (setAt (setAt [(.d (.int .i64 0)), (.d (.int .i64 0)), (.d (.int .i64 0)), (.d (.int .i64 0)), (.d (.int .u64 0)), (.d (.int .i64 0)), (.d (.int .u64 0)), (.d (.int .i64 0)), (.d (.int .i64 0)), (.d (.int .i64 0)), (.d (.int .i64 0)), (.d (.int .u64 0)), (.d (.int .i64 0)), (.d (.int .u64 0)), (.d (.int .i64 0)), (.d (.int .i64 0)), (.d (.int .i64 0)), (.d (.int .i64 0)), (.d (.int .u64 0)), (.d (.int .i64 0)), (.d (.int .u64 0))] 0 r23) 14 r59)) fun r61 =>
                  callP C 8 [(demote (demote (demote r60))), (demote (demote (demote r61)))] fun r62 =>
                  bindO (partV true 10 0 r0) fun r63 =>
                  bindO (indexOk (.d (.int .i64 0)) 2) fun r64 =>
                  bindO (partV true 21 (0 + (r64 * 21)) r1) fun r65 =>
                  callP C 8 [(demote (demote (demote r63))), (demote (demote (demote r65)))] fun r66 =>
                  bindO (binV (some (false, [.bool])) .eql (demote r62) (demote r66)) fun r67 =>
                  ifP (demote r67)
                    (callP C 7 [] fun r68 =>
                    (SV.noRef (demote (demote r68))) = true ∧
                    (K (demote (demote r68))))
                    ((SV.noRef (.d (.bool false))) = true ∧
                    (K (.d (.bool false)))))))))))))) := by kernel_rfl

theorem body6 (C : Con) (x0 x1 : SV) (K : SV → Prop) : body Go.Proofs.Try.prog gl C h6 6 [x0, x1] K = (
  wfP [x0, x1] (
  bindO (cellsV (demote x0)) fun r0 =>
  (List.length r0) = 10 ∧
  bindO (binV none .leq (demote (demote x1)) (.d (.int .i64 0))) fun r1 =>
  ifP (demote r1)
    ((SV.noRef (.d (.bool false))) = true ∧
    (K (.d (.bool false))))
    (bindO (partV false 1 9 r0) fun r2 =>
    bindO (lenL (demote (demote r2))) fun r3 =>
    bindO (binV none .gtr (demote r3) (.d (.int .i64 3))) fun r4 =>
    ifP (demote (demote r4))
      ((SV.noRef (.d (.bool false))) = true ∧
      (K (.d (.bool false))))
      (bindO (partV false 1 4 r0) fun r5 =>
      bindO (lenL (demote (demote r5))) fun r6 =>
      bindO (binV none .gtr (demote r6) (.d (.int .i64 20))) fun r7 =>
      ifP (demote r7)
        ((SV.noRef (.d (.bool false))) = true ∧
        (K (.d (.bool false))))
        (loopP (fun vs8 bs9 I10 =>
          bindO (partV false 1 9 (bget bs9 0)) fun r11 =>
          bindO (lenL (demote (demote r11))) fun r12 =>
          bindO (binV none .lss (demote (demote (vget vs8 1))) (demote r12)) fun r13 =>
          ifP r13
            (bindO (partV false 1 9 (bget bs9 0)) fun r14 =>
            bindO (elemPtr 10 (demote (demote r14)) (demote (demote (vget vs8 1)))) fun r15 =>
            bindO (loadV true 10 (demote r15)) fun r16 =>
            bindO (binV none .sub (demote (demote (vget vs8 0))) (.d (.int .i64 1))) fun r17 =>
            callP C 6 [(demote (demote r16)), (demote (demote r17))] fun r18 =>
            bindO (unV .not (demote r18)) fun r19 =>
            ifP r19
              ((SV.noRef (.d (.bool false))) = true ∧
              (K (.d (.bool false))))
              (bindO (binV none .add (demote (demote (vget vs8 1))) (.d (.int .i64 1))) fun r20 =>
              (I10 [(vget vs8 0), (demote r20)] [(Box.vals (Box.cells (bget bs9 0)))])))
            ((SV.noRef (.d (.bool true))) = true ∧
            (K (.d (.bool true)))))
        [x1, (.d (.int .i64 0))] [(Box.vals (Box.cells r0))]))))) := by kernel_rfl

theorem body8 (C : Con) (x0 x1 : SV) (K : SV → Prop) : body Go.Proofs.Try.prog gl C h8 8 [x0, x1] K = (
  wfP [x0, x1] (
  bindO (cellsV (demote x0)) fun r0 =>
  (List.length r0) = 10 ∧
  bindO (cellsV (demote x1)) fun r1 =>
  (List.length r1) = 21 ∧
  bindO (partV true 10 0 r0) fun r2 =>
  callP C 23 [(demote (demote (demote r2)))] fun r3 =>
  bindO (binV none .leq (demote r3) (.d (.int .i64 12))) fun r4 =>
  ifP (demote r4)
    (bindO (partV true 10 0 r0) fun r5 =>
    callP C 24 [(demote (demote (demote r5))), (.d (.fn (.func 20)))] fun r6 =>
    bindO (binV (some (false, [.int])) .eql (demote r6) (.d (.int .i64 0))) fun r7 =>
    ifP (demote (demote r7))
      (bindO (partV true 10 0 r0) fun r8 =>
      bindO (partV true 21 0 r1) fun r9 =>
      callP C 25 [(demote (demote (demote r8))), (demote (demote (demote r9)))] fun r10 =>
      (SV.noRef (demote (demote r10))) = true ∧
      (K (demote (demote r10))))
      ((SV.noRef (.d (.bool false))) = true ∧
      (K (.d (.bool false)))))
    ((SV.noRef (.d (.bool false))) = true ∧
    (K (.d (.bool false)))))) := by kernel_rfl

theorem body9 (C : Con) (x0 x1 : SV) (K : SV → Prop) : body Go.Proofs.Try.prog gl C h9 9 [x0, x1] K = (
  wfP [x0, x1] (
  bindO (cellsV (demote x0)) fun r0 =>
  (List.length r0) = 10 ∧
  bindO (cellsV (demote x1)) fun r1 =>
  (List.length r1) = 21 ∧
  bindO (partV true 10 0 r0) fun r2 =>
  callP C 10 [(demote (demote (demote r2))), (.d (.int .i64 12))] fun r3 =>
  ifP (demote r3)
    (bindO (partV true 10 0 r0) fun r4 =>
    bindO (partV true 21 0 r1) fun r5 =>
    callP C 26 [(demote (demote (demote r4))), (demote (demote (demote r5)))] fun r6 =>
    (SV.noRef (demote (demote r6))) = true ∧
    (K (demote (demote r6))))
    ((SV.noRef (.d (.bool false))) = true ∧
    (K (.d (.bool false)))))) := by kernel_rfl

theorem body10 (C : Con) (x0 x1 : SV) (K : SV → Prop) : body Go.Proofs.Try.prog gl C h10 10 [x0, x1] K = (
  wfP [x0, x1] (
  bindO (cellsV (demote x0)) fun r0 =>
  (List.length r0) = 10 ∧
  bindO (binV none .leq (demote (demote x1)) (.d (.int .i64 0))) fun r1 =>
  ifP (demote r1)
    ((SV.noRef (.d (.bool false))) = true ∧
    (K (.d (.bool false))))
    (bindO (partV true 10 0 r0) fun r2 =>
    callP C 27 [(demote (demote (demote r2))), (.d (.bool false)), (.d (.bool true))] fun r3 =>
    bindO (binV (some (false, [.int])) .neq (demote r3) (.d (.int .i64 0))) fun r4 =>
    ifP (demote r4)
      ((SV.noRef (.d (.bool false))) = true ∧
      (K (.d (.bool false))))
      (loopP (fun vs5 bs6 I7 =>
        bindO (partV false 1 9 (bget bs6 0)) fun r8 =>
        bindO (lenL (demote (demote r8))) fun r9 =>
        bindO (binV none .lss (demote (demote (vget vs5 1))) (demote r9)) fun r10 =>
        ifP r10
          (bindO (partV false 1 9 (bget bs6 0)) fun r11 =>
          bindO (elemPtr 10 (demote (demote r11)) (demote (demote (vget vs5 1)))) fun r12 =>
          bindO (loadV true 10 (demote r12)) fun r13 =>
          bindO (binV none .sub (demote (demote (vget vs5 0))) (.d (.int .i64 1))) fun r14 =>
          callP C 10 [(demote (demote r13)), (demote (demote r14))] fun r15 =>
          bindO (unV .not (demote r15)) fun r16 =>
          ifP r16
            ((SV.noRef (.d (.bool false))) = true ∧
            (K (.d (.bool false))))
            (bindO (binV none .add (demote (demote (vget vs5 1))) (.d (.int .i64 1))) fun r17 =>
            (I7 [(vget vs5 0), (demote r17)] [(Box.vals (Box.cells (bget bs6 0)))])))
          ((SV.noRef (.d (.bool true))) = true ∧
          (K (.d (.bool true)))))
      [x1, (.d (.int .i64 0))] [(Box.vals (Box.cells r0))])))) := by kernel_rfl

theorem body11 (C : Con) (x0 x1 : SV) (K : SV → Prop) : body Go.Proofs.Try.prog gl C h11 11 [x0, x1] K = (
  wfP [x0, x1] (
  bindO (cellsV (demote x0)) fun r0 =>
  (List.length r0) = 10 ∧
  bindO (cellsV (demote x1)) fun r1 =>
  (List.length r1) = 1 ∧
  bindO (partV false 1 0 r0) fun r2 =>
  bindO (binV (some (false, [.int])) .eql (demote (demote r2)) (.d (.int .i64 8))) fun r3 =>
  ifP (demote r3)
    (bindO (partV false 1 1 r0) fun r4 =>
    bindO (partV false 1 0 r1) fun r5 =>
    bindO (binV (some (false, [.int])) .eql (demote (demote r4)) (demote (demote r5))) fun r6 =>
    ifP (demote r6)
      ((SV.noRef (.d (.bool true))) = true ∧
      (K (.d (.bool true))))
      (bindO (partV false 1 3 r0) fun r7 =>
      bindO (partV false 1 0 r1) fun r8 =>
      bindO (binV (some (false, [.int])) .eql (demote (demote r7)) (demote (demote r8))) fun r9 =>
      ifP (demote r9)
        ((SV.noRef (.d (.bool true))) = true ∧
        (K (.d (.bool true))))
        (bindO (partV false 1 9 r0) fun r10 =>
        callP C 28 [(demote (demote (demote r10))), (.clo (.func 29) [] [(.ref (List.map demote r1) 0)])] fun r11 =>
        (SV.noRef (demote r11)) = true ∧
        (K (demote r11)))))
    (bindO (binV (some (false, [.int])) .eql (demote (demote r2)) (.d (.int .i64 9))) fun r12 =>
    ifP (demote r12)
      (bindO (partV false 1 1 r0) fun r13 =>
      bindO (partV false 1 0 r1) fun r14 =>
      bindO (binV (some (false, [.int])) .eql (demote (demote r13)) (demote (demote r14))) fun r15 =>
      ifP r15
        ((SV.noRef (.d (.bool true))) = true ∧
        (K (.d (.bool true))))
        (bindO (partV false 1 9 r0) fun r16 =>
        callP C 28 [(demote (demote (demote r16))), (.clo (.func 29) [] [(.ref (List.map demote r1) 0)])] fun r17 =>
        (SV.noRef (demote r17)) = true ∧
        (K (demote r17))))
      (bindO (partV false 1 9 r0) fun r18 =>
      callP C 28 [(demote (demote (demote r18))), (.clo (.func 29) [] [(.ref (List.map demote r1) 0)])] fun r19 =>
      (SV.noRef (demote r19)) = true ∧
      (K (demote r19)))))) := by kernel_rfl

theorem body12 (C : Con) (x0 x1 : SV) (K : SV → Prop) : body Go.Proofs.Try.prog gl C h12 12 [x0, x1] K = (
  wfP [x0, x1] (
  bindO (cellsV (demote x0)) fun r0 =>
  (List.length r0) = 10 ∧
  bindO (partV false 1 0 r0) fun r1 =>
  bindO (binV (some (false, [.int])) .eql (demote (demote r1)) (.d (.int .i64 8))) fun r2 =>
  ifP (demote r2)
    (bindO (partV false 1 1 r0) fun r3 =>
    bindO (binV (some (false, [.int])) .eql (demote (demote r3)) (demote (demote x1))) fun r4 =>
    ifP (demote r4)
      ((SV.noRef (.d (.bool true))) = true ∧
      (K (.d (.bool true))))
      (bindO (partV false 1 3 r0) fun r5 =>
      bindO (binV (some (false, [.int])) .eql (demote (demote r5)) (demote (demote x1))) fun r6 =>
      ifP (demote (demote (demote r6)))
        ((SV.noRef (.d (.bool true))) = true ∧
        (K (.d (.bool true))))
        (bindO (partV false 1 0 r0) fun r7 =>
        bindO (binV (some (false, [.int])) .eql (demote (demote r7)) (.d (.int .i64 9))) fun r8 =>
        ifP (demote r8)
          (bindO (partV false 1 1 r0) fun r9 =>
          bindO (binV (some (false, [.int])) .eql (demote (demote r9)) (demote (demote x1))) fun r10 =>
          ifP (demote (demote r10))
            ((SV.noRef (.d (.bool true))) = true ∧
            (K (.d (.bool true))))
            (loopP (fun vs11 bs12 I13 =>
              bindO (partV false 1 9 (bget bs12 0)) fun r14 =>
              bindO (lenL (demote (demote r14))) fun r15 =>
              bindO (binV none .lss (demote (demote (vget vs11 1))) (demote r15)) fun r16 =>
              ifP r16
                (bindO (partV false 1 9 (bget bs12 0)) fun r17 =>
                bindO (elemPtr 10 (demote (demote r17)) (demote (demote (vget vs11 1)))) fun r18 =>
                bindO (loadV true 10 (demote r18)) fun r19 =>
                callP C 12 [(demote (demote r19)), (demote (demote (demote (vget vs11 0))))] fun r20 =>
                ifP r20
                  ((SV.noRef (.d (.bool true))) = true ∧
                  (K (.d (.bool true))))
                  (bindO (binV none .add (demote (demote (vget vs11 1))) (.d (.int .i64 1))) fun r21 =>
                  (I13 [(vget vs11 0), (demote r21)] [(Box.vals (Box.cells (bget bs12 0)))])))
                ((SV.noRef (.d (.bool false))) = true ∧
                (K (.d (.bool false)))))
            [x1, (.d (.int .i64 0))] [(Box.vals (Box.cells r0))]))
          (loopP (fun vs22 bs23 I24 =>
            bindO (partV false 1 9 (bget bs23 0)) fun r25 =>
            bindO (lenL (demote (demote r25))) fun r26 =>
            bindO (binV none .lss (demote (demote (vget vs22 1))) (demote r26)) fun r27 =>
            ifP r27
              (bindO (partV false 1 9 (bget bs23 0)) fun r28 =>
              bindO (elemPtr 10 (demote (demote r28)) (demote (demote (vget vs22 1)))) fun r29 =>
              bindO (loadV true 10 (demote r29)) fun r30 =>
              callP C 12 [(demote (demote r30)), (demote (demote (demote (vget vs22 0))))] fun r31 =>
              ifP r31
                ((SV.noRef (.d (.bool true))) = true ∧
                (K (.d (.bool true))))
                (bindO (binV none .add (demote (demote (vget vs22 1))) (.d (.int .i64 1))) fun r32 =>
                (I24 [(vget vs22 0), (demote r32)] [(Box.vals (Box.cells (bget bs23 0)))])))
              ((SV.noRef (.d (.bool false))) = true ∧
              (K (.d (.bool false)))))
          [x1, (.d (.int .i64 0))] [(Box.vals (Box.cells r0))]))))
    (bindO (partV false 1 0 r0) fun r33 =>
    bindO (binV (some (false, [.int])) .eql (demote (demote r33)) (.d (.int .i64 9))) fun r34 =>
    ifP (demote r34)
      (bindO (partV false 1 1 r0) fun r35 =>
      bindO (binV (some (false, [.int])) .eql (demote (demote r35)) (demote (demote x1))) fun r36 =>
      ifP (demote (demote r36))
        ((SV.noRef (.d (.bool true))) = true ∧
        (K (.d (.bool true))))
        (loopP (fun vs37 bs38 I39 =>
          bindO (partV false 1 9 (bget bs38 0)) fun r40 =>
          bindO (lenL (demote (demote r40))) fun r41 =>
          bindO (binV none .lss (demote (demote (vget vs37 1))) (demote r41)) fun r42 =>
          ifP r42
            (bindO (partV false 1 9 (bget bs38 0)) fun r43 =>
            bindO (elemPtr 10 (demote (demote r43)) (demote (demote (vget vs37 1)))) fun r44 =>
            bindO (loadV true 10 (demote r44)) fun r45 =>
            callP C 12 [(demote (demote r45)), (demote (demote (demote (vget vs37 0))))] fun r46 =>
            ifP r46
              ((SV.noRef (.d (.bool true))) = true ∧
              (K (.d (.bool true))))
              (bindO (binV none .add (demote (demote (vget vs37 1))) (.d (.int .i64 1))) fun r47 =>
              (I39 [(vget vs37 0), (demote r47)] [(Box.vals (Box.cells (bget bs38 0)))])))
            ((SV.noRef (.d (.bool false))) = true ∧
            (K (.d (.bool false)))))
        [x1, (.d (.int .i64 0))] [(Box.vals (Box.cells r0))]))
      (loopP (fun vs48 bs49 I50 =>
        bindO (partV false 1 9 (bget bs49 0)) fun r51 =>
        bindO (lenL (demote (demote r51))) fun r52 =>
        bindO (binV none .lss (demote (demote (vget vs48 1))) (demote r52)) fun r53 =>
        ifP r53
          (bindO (partV false 1 9 (bget bs49 0)) fun r54 =>
          bindO (elemPtr 10 (demote (demote r54)) (demote (demote (vget vs48 1)))) fun r55 =>
          bindO (loadV true 10 (demote r55)) fun r56 =>
          callP C 12 [(demote (demote r56)), (demote (demote (demote (vget vs48 0))))] fun r57 =>
          ifP r57
            ((SV.noRef (.d (.bool true))) = true ∧
            (K (.d (.bool true))))
            (bindO (binV none .add (demote (demote (vget vs48 1))) (.d (.int .i64 1))) fun r58 =>
            (I50 [(vget vs48 0), (demote r58)] [(Box.vals (Box.cells (bget bs49 0)))])))
          ((SV.noRef (.d (.bool false))) = true ∧
          (K (.d (.bool false)))))
      [x1, (.d (.int .i64 0))] [(Box.vals (Box.cells r0))])))) := by kernel_rfl

theorem body13 (C : Con) (x0 x1 x2 : SV) (K : SV → Prop) : body Go.Proofs.Try.prog gl C h13 13 [x0, x1, x2] K = (
  wfP [x0, x1, x2] (
  bindO (cellsV (demote x0)) fun r0 =>
  (List.length r0) = 7 ∧
  bindO (cellsV (demote x2)) fun r1 =>
  (List.length r1) = 7 ∧
  bindO (binV (some (false, [.int])) .eql (demote (demote x1)) (.d (.int .i64 0))) fun r2 =>
  ifP (demote r2)
    (bindO (partV false 1 0 r1) fun r3 =>
    bindO (cellsV (demote (demote r3))) fun r4 =>
    (List.length r4) = 1 ∧
    1 ≤ (List.length r0) ∧
    bindO (partV true 7 0 (setAt r0 0 r4)) fun r5 =>
    bindO (cellsV (demote (demote r5))) fun r6 =>
    (List.length r6) = 7 ∧
    7 ≤ 7 ∧
    bindO (partV true 7 0 (setAt [(.d (.int .i64 0)), (.d (.int .i64 0)), (.d (.int .i64 0)), (.d (.int .i64 0)), (.d (.int .u64 0)), (.d (.int .i64 0)), (.d (.int .u64 0))] 0 r6)) fun r7 =>
    (SV.noRef (demote r7)) = true ∧
    (K (demote r7)))
    (bindO (binV (some (false, [.int])) .eql (demote (demote x1)) (.d (.int .i64 1))) fun r8 =>
    ifP (demote r8)
      (bindO (partV false 1 1 r1) fun r9 =>
      bindO (cellsV (demote (demote r9))) fun r10 =>
      (List.length r10) = 1 ∧
      2 ≤ (List.length r0) ∧
      bindO (partV true 7 0 (setAt r0 1 r10)) fun r11 =>
      bindO (cellsV (demote (demote r11))) fun r12 =>
      (List.length r12) = 7 ∧
      7 ≤ 7 ∧
      bindO (partV true 7 0 (setAt [(.d (.int .i64 0)), (.d (.int .i64 0)), (.d (.int .i64 0)), (.d (.int .i64 0)), (.d (.int .u64 0)), (.d (.int .i64 0)), (.d (.int .u64 0))] 0 r12)) fun r13 =>
      (SV.noRef (demote r13)) = true ∧
      (K (demote r13)))
      (bindO (binV (some (false, [.int])) .eql (demote (demote x1)) (.d (.int .i64 2))) fun r14 =>
      ifP (demote r14)
        (bindO (partV false 1 2 r1) fun r15 =>
        bindO (cellsV (demote (demote r15))) fun r16 =>
        (List.length r16) = 1 ∧
        3 ≤ (List.length r0) ∧
        bindO (partV true 7 0 (setAt r0 2 r16)) fun r17 =>
        bindO (cellsV (demote (demote r17))) fun r18 =>
        (List.length r18) = 7 ∧
        7 ≤ 7 ∧
        bindO (partV true 7 0 (setAt [(.d (.int .i64 0)), (.d (.int .i64 0)), (.d (.int .i64 0)), (.d (.int .i64 0)), (.d (.int .u64 0)), (.d (.int .i64 0)), (.d (.int .u64 0))] 0 r18)) fun r19 =>
        (SV.noRef (demote r19)) = true ∧
        (K (demote r19)))
        (bindO (binV (some (false, [.int])) .eql (demote (demote x1)) (.d (.int .i64 3))) fun r20 =>
        ifP (demote r20)
          (bindO (partV true 2 3 r1) fun r21 =>
          bindO (cellsV (demote (demote r21))) fun r22 =>
          (List.length r22) = 2 ∧
          5 ≤ (List.length r0) ∧
          bindO (partV true 7 0 (setAt r0 3 r22)) fun r23 =>
          bindO (cellsV (demote (demote r23))) fun r24 =>
          (List.length r24) = 7 ∧
          7 ≤ 7 ∧
          bindO (partV true 7 0 (setAt [(.d (.int .i64 0)), (.d (.int .i64 0)), (.d (.int .i64 0)), (.d (.int .i64 0)), (.d (.int .u64 0)), (.d (.int .i64 0)), (.d (.int .u64 0))] 0 r24)) fun r25 =>
          (SV.noRef (demote r25)) = true ∧
          (K (demote r25)))
          (bindO (partV true 2 5 r1) fun r26 =>
          bindO (cellsV (demote (demote r26))) fun r27 =>
          (List.length r27) = 2 ∧
          7 ≤ (List.length r0) ∧
          bindO (partV true 7 0 (setAt r0 5 r27)) fun r28 =>
          bindO (cellsV (demote (demote r28))) fun r29 =>
          (List.length r29) = 7 ∧
          7 ≤ 7 ∧
          bindO (partV true 7 0 (setAt [(.d (.int .i64 0)), (.d (.int .i64 0)), (.d (.int .i64 0)), (.d (.int .i64 0)), (.d (.int .u64 0)), (.d (.int .i64 0)), (.d (.int .u64 0))] 0 r29)) fun r30 =>
          (SV.noRef (demote r30)) = true ∧
          (K (demote r30)))))))) := by kernel_rfl

theorem body20 (C : Con) (x0 : SV) (K : SV → Prop) : body Go.Proofs.Try.prog gl C h20 20 [x0] K = (
  wfP [x0] (
  bindO (cellsV (demote x0)) fun r0 =>
  (List.length r0) = 10 ∧
  bindO (partV true 10 0 r0) fun r1 =>
  callP C 21 [(demote (demote (demote r1))), (.d (.bool false))] fun r2 =>
  bindO (binV (some (false, [.int])) .neq (demote (demote (demote r2))) (.d (.int .i64 0))) fun r3 =>
  ifP r3
    ((SV.noRef (demote (demote (demote r2)))) = true ∧
    (K (demote (demote (demote r2)))))
    (bindO (partV true 10 0 r0) fun r4 =>
    callP C 22 [(demote (demote (demote r4))), (.d (.int .i64 15))] fun r5 =>
    (SV.noRef (demote r5)) = true ∧
    (K (demote r5))))) := by kernel_rfl

theorem body21 (C : Con) (x0 x1 : SV) (K : SV → Prop) : body Go.Proofs.Try.prog gl C h21 21 [x0, x1] K = (
  wfP [x0, x1] (
  bindO (cellsV (demote x0)) fun r0 =>
  (List.length r0) = 10 ∧
  bindO (partV false 1 0 r0) fun r1 =>
  bindO (binV (some (false, [.int])) .eql (demote (demote r1)) (.d (.int .i64 2))) fun r2 =>
  ifP (demote r2)
    (bindO (partV true 10 0 r0) fun r3 =>
    callP C 37 [(demote (demote (demote r3))), (.d (.int .i64 1))] fun r4 =>
    bindO (unV .not (demote (demote (demote r4)))) fun r5 =>
    ifP r5
      ((SV.noRef (.d (.int .i64 2))) = true ∧
      (K (.d (.int .i64 2))))
      ((SV.noRef (.d (.int .i64 0))) = true ∧
      (K (.d (.int .i64 0)))))
    (bindO (binV (some (false, [.int])) .eql (demote (demote r1)) (.d (.int .i64 3))) fun r6 =>
    ifP (demote r6)
      (bindO (partV true 10 0 r0) fun r7 =>
      callP C 37 [(demote (demote (demote r7))), (.d (.int .i64 2))] fun r8 =>
      bindO (unV .not (demote (demote (demote r8)))) fun r9 =>
      ifP r9
        ((SV.noRef (.d (.int .i64 2))) = true ∧
        (K (.d (.int .i64 2))))
        ((SV.noRef (.d (.int .i64 0))) = true ∧
        (K (.d (.int .i64 0)))))
      (bindO (binV (some (false, [.int])) .eql (demote (demote r1)) (.d (.int .i64 4))) fun r10 =>
      ifP (demote r10)
        (bindO (partV true 10 0 r0) fun r11 =>
        callP C 37 [(demote (demote (demote r11))), (.d (.int .i64 2))] fun r12 =>
        bindO (unV .not (demote (demote (demote r12)))) fun r13 =>
        ifP r13
          ((SV.noRef (.d (.int .i64 2))) = true ∧
          (K (.d (.int .i64 2))))
          ((SV.noRef (.d (.int .i64 0))) = true ∧
          (K (.d (.int .i64 0)))))
        (bindO (binV (some (false, [.int])) .eql (demote (demote r1)) (.d (.int .i64 8))) fun r14 =>
        ifP (demote r14)
          (bindO (partV true 4 5 r0) fun r15 =>
          bindO (partsS []) fun r16 =>
          bindO (buildD Proofs.Try.prog 25 r16) fun r17 =>
          bindO (binV (some (true, [.int, .int, .int, .int])) .eql (demote (demote r15)) (.d r17)) fun r18 =>
          ifP (demote r18)
            (bindO (partV false 1 4 r0) fun r19 =>
            bindO (lenL (demote (demote r19))) fun r20 =>
            bindO (binV (some (false, [.int])) .eql (demote r20) (.d (.int .i64 0))) fun r21 =>
            ifP (demote (demote r21))
              (bindO (partV false 1 9 r0) fun r22 =>
              bindO (lenL (demote (demote r22))) fun r23 =>
              bindO (binV (some (false, [.int])) .eql (demote r23) (.d (.int .i64 0))) fun r24 =>
              bindO (unV .not (demote (demote (demote (demote r24))))) fun r25 =>
              ifP r25
                ((SV.noRef (.d (.int .i64 2))) = true ∧
                (K (.d (.int .i64 2))))
                ((SV.noRef (.d (.int .i64 0))) = true ∧
                (K (.d (.int .i64 0)))))
              (bindO (unV .not (.d (.bool false))) fun r26 =>
              ifP r26
                ((SV.noRef (.d (.int .i64 2))) = true ∧
                (K (.d (.int .i64 2))))
                ((SV.noRef (.d (.int .i64 0))) = true ∧
                (K (.d (.int .i64 0))))))
            (bindO (unV .not (.d (.bool false))) fun r27 =>
            ifP r27
              ((SV.noRef (.d (.int .i64 2))) = true ∧
              (K (.d (.int .i64 2))))
              ((SV.noRef (.d (.int .i64 0))) = true ∧
              (K (.d (.int .i64 0))))))
          (bindO (binV (some (false, [.int])) .eql (demote (demote r1)) (.d (.int .i64 9))) fun r28 =>
          ifP (demote r28)
            (bindO (partV false 1 3 r0) fun r29 =>
            bindO (binV (some (false, [.int])) .eql (demote (demote r29)) (.d (.int .i64 0))) fun r30 =>
            ifP (demote r30)
              (bindO (partV false 1 2 r0) fun r31 =>
              bindO (binV (some (false, [.int])) .eql (demote (demote r31)) (.d (.int .i64 0))) fun r32 =>
              ifP (demote (demote r32))
                (bindO (partV false 1 9 r0) fun r33 =>
                bindO (lenL (demote (demote r33))) fun r34 =>
                bindO (binV (some (false, [.int])) .eql (demote r34) (.d (.int .i64 0))) fun r35 =>
                ifP (demote (demote r35))
                  (ifP (demote (demote x1))
                    (bindO (partV true 4 5 r0) fun r36 =>
                    bindO (partsS []) fun r37 =>
                    bindO (buildD Proofs.Try.prog 25 r37) fun r38 =>
                    bindO (binV (some (true, [.int, .int, .int, .int])) .eql (demote (demote r36)) (.d r38)) fun r39 =>
                    ifP (demote (demote r39))
                      (bindO (partV false 1 4 r0) fun r40 =>
                      bindO (lenL (demote (demote r40))) fun r41 =>
                      bindO (binV none .gtr (demote r41) (.d (.int .i64 0))) fun r42 =>
                      ifP (demote (demote r42))
                        (bindO (unV .not (.d (.bool true))) fun r43 =>
                        ifP r43
                          ((SV.noRef (.d (.int .i64 2))) = true ∧
                          (K (.d (.int .i64 2))))
                          ((SV.noRef (.d (.int .i64 0))) = true ∧
                          (K (.d (.int .i64 0)))))
                        (bindO (unV .not (demote (demote x1))) fun r44 =>
                        ifP (demote r44)
                          (bindO (partV false 1 4 r0) fun r45 =>
                          bindO (lenL (demote (demote r45))) fun r46 =>
                          bindO (binV (some (false, [.int])) .eql (demote r46) (.d (.int .i64 0))) fun r47 =>
                          bindO (unV .not (demote (demote (demote (demote (demote (demote r47))))))) fun r48 =>
                          ifP r48
                            ((SV.noRef (.d (.int .i64 2))) = true ∧
                            (K (.d (.int .i64 2))))
                            ((SV.noRef (.d (.int .i64 0))) = true ∧
                            (K (.d (.int .i64 0)))))
                          (bindO (unV .not (.d (.bool false))) fun r49 =>
                          ifP r49
                            ((SV.noRef (.d (.int .i64 2))) = true ∧
                            (K (.d (.int .i64 2))))
                            ((SV.noRef (.d (.int .i64 0))) = true ∧
                            (K (.d (.int .i64 0)))))))
                      (bindO (unV .not (demote (demote x1))) fun r50 =>
                      ifP (demote r50)
                        (bindO (partV false 1 4 r0) fun r51 =>
                        bindO (lenL (demote (demote r51))) fun r52 =>
                        bindO (binV (some (false, [.int])) .eql (demote r52) (.d (.int .i64 0))) fun r53 =>
                        bindO (unV .not (demote (demote (demote (demote (demote (demote r53))))))) fun r54 =>
                        ifP r54
                          ((SV.noRef (.d (.int .i64 2))) = true ∧
                          (K (.d (.int .i64 2))))
                          ((SV.noRef (.d (.int .i64 0))) = true ∧
                          (K (.d (.int .i64 0)))))
                        (bindO (unV .not (.d (.bool false))) fun r55 =>
                        ifP r55
                          ((SV.noRef (.d (.int .i64 2))) = true ∧
                          (K (.d (.int .i64 2))))
                          ((SV.noRef (.d (.int .i64 0))) = true ∧
                          (K (.d (.int .i64 0)))))))
                    (bindO (unV .not (demote (demote x1))) fun r56 =>
                    ifP (demote r56)
                      (bindO (partV false 1 4 r0) fun r57 =>
                      bindO (lenL (demote (demote r57))) fun r58 =>
                      bindO (binV (some (false, [.int])) .eql (demote r58) (.d (.int .i64 0))) fun r59 =>
                      bindO (unV .not (demote (demote (demote (demote (demote (demote r59))))))) fun r60 =>
                      ifP r60
                        ((SV.noRef (.d (.int .i64 2))) = true ∧
                        (K (.d (.int .i64 2))))
                        ((SV.noRef (.d (.int .i64 0))) = true ∧
                        (K (.d (.int .i64 0)))))
                      (bindO (unV .not (.d (.bool false))) fun r61 =>
                      ifP r61
                        ((SV.noRef (.d (.int .i64 2))) = true ∧
                        (K (.d (.int .i64 2))))
                        ((SV.noRef (.d (.int .i64 0))) = true ∧
                        (K (.d (.int .i64 0)))))))
                  (bindO (unV .not (.d (.bool false))) fun r62 =>
                  ifP r62
                    ((SV.noRef (.d (.int .i64 2))) = true ∧
                    (K (.d (.int .i64 2))))
                    ((SV.noRef (.d (.int .i64 0))) = true ∧
                    (K (.d (.int .i64 0))))))
                (bindO (unV .not (.d (.bool false))) fun r63 =>
                ifP r63
                  ((SV.noRef (.d (.int .i64 2))) = true ∧
                  (K (.d (.int .i64 2))))
                  ((SV.noRef (.d (.int .i64 0))) = true ∧
                  (K (.d (.int .i64 0))))))
              (bindO (unV .not (.d (.bool false))) fun r64 =>
              ifP r64
                ((SV.noRef (.d (.int .i64 2))) = true ∧
                (K (.d (.int .i64 2))))
                ((SV.noRef (.d (.int .i64 0))) = true ∧
                (K (.d (.int .i64 0))))))
            (bindO (unV .not (.d (.bool false))) fun r65 =>
            ifP r65
              ((SV.noRef (.d (.int .i64 2))) = true ∧
              (K (.d (.int .i64 2))))
              ((SV.noRef (.d (.int .i64 0))) = true ∧
              (K (.d (.int .i64 0))))))))))) := by kernel_rfl

theorem body22 (C : Con) (x0 x1 : SV) (K : SV → Prop) : body Go.Proofs.Try.prog gl C h22 22 [x0, x1] K = (
  wfP [x0, x1] (
  bindO (cellsV (demote x0)) fun r0 =>
  (List.length r0) = 10 ∧
  bindO (cellsV (demote x1)) fun r1 =>
  (List.length r1) = 1 ∧
  bindO (partV false 1 0 r0) fun r2 =>
  bindO (binV (some (false, [.int])) .neq (demote (demote r2)) (.d (.int .i64 8))) fun r3 =>
  ifP (demote r3)
    (bindO (partV false 1 0 r0) fun r4 =>
    bindO (binV (some (false, [.int])) .neq (demote (demote r4)) (.d (.int .i64 9))) fun r5 =>
    ifP (demote (demote r5))
      ((SV.noRef (.d (.int .i64 0))) = true ∧
      (K (.d (.int .i64 0))))
      (bindO (partV false 1 1 r0) fun r6 =>
      callP C 38 [(demote (demote (demote r6))), (.ref (List.map demote r1) 0)] fun r7 =>
      bindO (unV .not (demote r7)) fun r8 =>
      ifP (demote r8)
        ((SV.noRef (.d (.int .i64 3))) = true ∧
        (K (.d (.int .i64 3))))
        (bindO (partV false 1 3 r0) fun r9 =>
        callP C 38 [(demote (demote (demote r9))), (.ref (List.map demote r1) 0)] fun r10 =>
        bindO (unV .not (demote r10)) fun r11 =>
        ifP (demote (demote r11))
          ((SV.noRef (.d (.int .i64 3))) = true ∧
          (K (.d (.int .i64 3))))
          (bindO (partV false 1 2 r0) fun r12 =>
          bindO (binV none .lss (demote (demote r12)) (.d (.int .i64 0))) fun r13 =>
          ifP (demote (demote r13))
            ((SV.noRef (.d (.int .i64 3))) = true ∧
            (K (.d (.int .i64 3))))
            (bindO (partV false 1 2 r0) fun r14 =>
            bindO (binV none .gtr (demote (demote r14)) (.d (.int .i64 4))) fun r15 =>
            ifP (demote (demote r15))
              ((SV.noRef (.d (.int .i64 3))) = true ∧
              (K (.d (.int .i64 3))))
              (bindO (partV false 1 0 r0) fun r16 =>
              bindO (binV (some (false, [.int])) .eql (demote (demote r16)) (.d (.int .i64 9))) fun r17 =>
              ifP (demote r17)
                (bindO (partV false 1 1 r0) fun r18 =>
                callP C 39 [(demote (demote (demote r18)))] fun r19 =>
                ifP (demote (demote r19))
                  ((SV.noRef (.d (.int .i64 13))) = true ∧
                  (K (.d (.int .i64 13))))
                  (bindO (partV false 1 0 r0) fun r20 =>
                  bindO (binV (some (false, [.int])) .eql (demote (demote r20)) (.d (.int .i64 8))) fun r21 =>
                  ifP (demote r21)
                    (bindO (partV false 1 1 r0) fun r22 =>
                    callP C 40 [(demote (demote (demote r22)))] fun r23 =>
                    bindO (partV false 1 3 r0) fun r24 =>
                    callP C 40 [(demote (demote (demote r24)))] fun r25 =>
                    bindO (binV (some (false, [.int])) .neq (demote r23) (demote r25)) fun r26 =>
                    ifP (demote r26)
                      ((SV.noRef (.d (.int .i64 13))) = true ∧
                      (K (.d (.int .i64 13))))
                      (bindO (partV false 1 2 r0) fun r27 =>
                      bindO (binV none .gtr (demote (demote r27)) (.d (.int .i64 1))) fun r28 =>
                      ifP (demote r28)
                        (bindO (partV false 1 1 r0) fun r29 =>
                        callP C 39 [(demote (demote (demote r29)))] fun r30 =>
                        bindO (unV .not (demote r30)) fun r31 =>
                        ifP (demote (demote (demote (demote r31))))
                          ((SV.noRef (.d (.int .i64 13))) = true ∧
                          (K (.d (.int .i64 13))))
                          ((SV.noRef (.d (.int .i64 0))) = true ∧
                          (K (.d (.int .i64 0)))))
                        ((SV.noRef (.d (.int .i64 0))) = true ∧
                        (K (.d (.int .i64 0))))))
                    ((SV.noRef (.d (.int .i64 0))) = true ∧
                    (K (.d (.int .i64 0))))))
                (bindO (partV false 1 0 r0) fun r32 =>
                bindO (binV (some (false, [.int])) .eql (demote (demote r32)) (.d (.int .i64 8))) fun r33 =>
                ifP (demote r33)
                  (bindO (partV false 1 1 r0) fun r34 =>
                  callP C 40 [(demote (demote (demote r34)))] fun r35 =>
                  bindO (partV false 1 3 r0) fun r36 =>
                  callP C 40 [(demote (demote (demote r36)))] fun r37 =>
                  bindO (binV (some (false, [.int])) .neq (demote r35) (demote r37)) fun r38 =>
                  ifP (demote r38)
                    ((SV.noRef (.d (.int .i64 13))) = true ∧
                    (K (.d (.int .i64 13))))
                    (bindO (partV false 1 2 r0) fun r39 =>
                    bindO (binV none .gtr (demote (demote r39)) (.d (.int .i64 1))) fun r40 =>
                    ifP (demote r40)
                      (bindO (partV false 1 1 r0) fun r41 =>
                      callP C 39 [(demote (demote (demote r41)))] fun r42 =>
                      bindO (unV .not (demote r42)) fun r43 =>
                      ifP (demote (demote (demote (demote r43))))
                        ((SV.noRef (.d (.int .i64 13))) = true ∧
                        (K (.d (.int .i64 13))))
                        ((SV.noRef (.d (.int .i64 0))) = true ∧
                        (K (.d (.int .i64 0)))))
                      ((SV.noRef (.d (.int .i64 0))) = true ∧
                      (K (.d (.int .i64 0))))))
                  ((SV.noRef (.d (.int .i64 0))) = true ∧
                  (K (.d (.int .i64 0)))))))))))
    (bindO (partV false 1 1 r0) fun r44 =>
    callP C 38 [(demote (demote (demote r44))), (.ref (List.map demote r1) 0)] fun r45 =>
    bindO (unV .not (demote r45)) fun r46 =>
    ifP (demote r46)
      ((SV.noRef (.d (.int .i64 3))) = true ∧
      (K (.d (.int .i64 3))))
      (bindO (partV false 1 3 r0) fun r47 =>
      callP C 38 [(demote (demote (demote r47))), (.ref (List.map demote r1) 0)] fun r48 =>
      bindO (unV .not (demote r48)) fun r49 =>
      ifP (demote (demote r49))
        ((SV.noRef (.d (.int .i64 3))) = true ∧
        (K (.d (.int .i64 3))))
        (bindO (partV false 1 2 r0) fun r50 =>
        bindO (binV none .lss (demote (demote r50)) (.d (.int .i64 0))) fun r51 =>
        ifP (demote (demote r51))
          ((SV.noRef (.d (.int .i64 3))) = true ∧
          (K (.d (.int .i64 3))))
          (bindO (partV false 1 2 r0) fun r52 =>
          bindO (binV none .gtr (demote (demote r52)) (.d (.int .i64 4))) fun r53 =>
          ifP (demote (demote r53))
            ((SV.noRef (.d (.int .i64 3))) = true ∧
            (K (.d (.int .i64 3))))
            (bindO (partV false 1 0 r0) fun r54 =>
            bindO (binV (some (false, [.int])) .eql (demote (demote r54)) (.d (.int .i64 9))) fun r55 =>
            ifP (demote r55)
              (bindO (partV false 1 1 r0) fun r56 =>
              callP C 39 [(demote (demote (demote r56)))] fun r57 =>
              ifP (demote (demote r57))
                ((SV.noRef (.d (.int .i64 13))) = true ∧
                (K (.d (.int .i64 13))))
                (bindO (partV false 1 0 r0) fun r58 =>
                bindO (binV (some (false, [.int])) .eql (demote (demote r58)) (.d (.int .i64 8))) fun r59 =>
                ifP (demote r59)
                  (bindO (partV false 1 1 r0) fun r60 =>
                  callP C 40 [(demote (demote (demote r60)))] fun r61 =>
                  bindO (partV false 1 3 r0) fun r62 =>
                  callP C 40 [(demote (demote (demote r62)))] fun r63 =>
                  bindO (binV (some (false, [.int])) .neq (demote r61) (demote r63)) fun r64 =>
                  ifP (demote r64)
                    ((SV.noRef (.d (.int .i64 13))) = true ∧
                    (K (.d (.int .i64 13))))
                    (bindO (partV false 1 2 r0) fun r65 =>
                    bindO (binV none .gtr (demote (demote r65)) (.d (.int .i64 1))) fun r66 =>
                    ifP (demote r66)
                      (bindO (partV false 1 1 r0) fun r67 =>
                      callP C 39 [(demote (demote (demote r67)))] fun r68 =>
                      bindO (unV .not (demote r68)) fun r69 =>
                      ifP (demote (demote (demote (demote r69))))
                        ((SV.noRef (.d (.int .i64 13))) = true ∧
                        (K (.d (.int .i64 13))))
                        ((SV.noRef (.d (.int .i64 0))) = true ∧
                        (K (.d (.int .i64 0)))))
                      ((SV.noRef (.d (.int .i64 0))) = true ∧
                      (K (.d (.int .i64 0))))))
                  ((SV.noRef (.d (.int .i64 0))) = true ∧
                  (K (.d (.int .i64 0))))))
              (bindO (partV false 1 0 r0) fun r70 =>
              bindO (binV (some (false, [.int])) .eql (demote (demote r70)) (.d (.int .i64 8))) fun r71 =>
              ifP (demote r71)
                (bindO (partV false 1 1 r0) fun r72 =>
                callP C 40 [(demote (demote (demote r72)))] fun r73 =>
                bindO (partV false 1 3 r0) fun r74 =>
                callP C 40 [(demote (demote (demote r74)))] fun r75 =>
                bindO (binV (some (false, [.int])) .neq (demote r73) (demote r75)) fun r76 =>
                ifP (demote r76)
                  ((SV.noRef (.d (.int .i64 13))) = true ∧
                  (K (.d (.int .i64 13))))
                  (bindO (partV false 1 2 r0) fun r77 =>
                  bindO (binV none .gtr (demote (demote r77)) (.d (.int .i64 1))) fun r78 =>
                  ifP (demote r78)
                    (bindO (partV false 1 1 r0) fun r79 =>
                    callP C 39 [(demote (demote (demote r79)))] fun r80 =>
                    bindO (unV .not (demote r80)) fun r81 =>
                    ifP (demote (demote (demote (demote r81))))
                      ((SV.noRef (.d (.int .i64 13))) = true ∧
                      (K (.d (.int .i64 13))))
                      ((SV.noRef (.d (.int .i64 0))) = true ∧
                      (K (.d (.int .i64 0)))))
                    ((SV.noRef (.d (.int .i64 0))) = true ∧
                    (K (.d (.int .i64 0))))))
                ((SV.noRef (.d (.int .i64 0))) = true ∧
                (K (.d (.int .i64 0)))))))))))) := by kernel_rfl

theorem body23 (C : Con) (x0 : SV) (K : SV → Prop) : body Go.Proofs.Try.prog gl C h23 23 [x0] K = (
  wfP [x0] (
  bindO (cellsV (demote x0)) fun r0 =>
  (List.length r0) = 10 ∧
  bindO (partV false 1 9 r0) fun r1 =>
  bindO (lenL (demote (demote r1))) fun r2 =>
  loopP (fun vs3 bs4 I5 =>
    bindO (binV none .lss (demote (vget vs3 3)) (demote (vget vs3 2))) fun r6 =>
    ifP r6
      (bindO (elemPtr 10 (demote (vget vs3 1)) (demote (vget vs3 3))) fun r7 =>
      bindO (loadV true 10 (demote r7)) fun r8 =>
      bindO (cellsV (demote r8)) fun r9 =>
      (List.length r9) = 10 ∧
      10 ≤ 10 ∧
      bindO (partV true 10 0 (setAt [(.d (.int .i64 0)), (.d (.int .i64 0)), (.d (.int .i64 0)), (.d (.int .i64 0)), (.d (.sl .nil 0 [])), (.d (.int .u64 0)), (.d (.int .u64 0)), (.d (.int .u64 0)), (.d (.int .u64 0)), (.d (.sl .nil 0 []))] 0 r9)) fun r10 =>
      callP C 23 [(demote (demote (demote r10)))] fun r11 =>
      bindO (foldIntV maxD (demote (demote (vget vs3 0))) [(demote r11)]) fun r12 =>
      bindO (binV none .add (demote (vget vs3 3)) (.d (.int .i64 1))) fun r13 =>
      (I5 [(demote r12), (vget vs3 1), (vget vs3 2), (demote r13)] [(Box.vals (Box.cells (bget bs4 0)))]))
      (bindO (binV none .add (demote (demote (vget vs3 0))) (.d (.int .i64 1))) fun r14 =>
      (SV.noRef (demote r14)) = true ∧
      (K (demote r14))))
  [(.d (.int .i64 0)), (demote r1), r2, (.d (.int .i64 0))] [(Box.vals (Box.cells r0))])) := by kernel_rfl

theorem body24 (C : Con) (x0 x1 : SV) (K : SV → Prop) : body Go.Proofs.Try.prog gl C h24 24 [x0, x1] K = (
  wfP [x0, x1] (
  bindO (cellsV (demote x0)) fun r0 =>
  (List.length r0) = 10 ∧
  bindO (partV true 10 0 r0) fun r1 =>
  withFn (demote (demote x1)) [(demote (demote (demote r1)))] fun f2 l3 =>
  callP C f2 l3 fun r4 =>
  bindO (binV (some (false, [.int])) .neq (demote (demote (demote r4))) (.d (.int .i64 0))) fun r5 =>
  ifP r5
    ((SV.noRef (demote (demote (demote r4)))) = true ∧
    (K (demote (demote (demote r4)))))
    (bindO (partV false 1 9 r0) fun r6 =>
    bindO (lenL (demote (demote r6))) fun r7 =>
    loopP (fun vs8 bs9 I10 =>
      bindO (binV none .lss (demote (vget vs8 3)) (demote (vget vs8 2))) fun r11 =>
      ifP r11
        (bindO (elemPtr 10 (demote (vget vs8 1)) (demote (vget vs8 3))) fun r12 =>
        bindO (loadV true 10 (demote r12)) fun r13 =>
        bindO (cellsV (demote r13)) fun r14 =>
        (List.length r14) = 10 ∧
        10 ≤ 10 ∧
        bindO (partV true 10 0 (setAt [(.d (.int .i64 0)), (.d (.int .i64 0)), (.d (.int .i64 0)), (.d (.int .i64 0)), (.d (.sl .nil 0 [])), (.d (.int .u64 0)), (.d (.int .u64 0)), (.d (.int .u64 0)), (.d (.int .u64 0)), (.d (.sl .nil 0 []))] 0 r14)) fun r15 =>
        callP C 24 [(demote (demote (demote r15))), (demote (demote (demote (vget vs8 0))))] fun r16 =>
        bindO (binV (some (false, [.int])) .neq (demote (demote (demote r16))) (.d (.int .i64 0))) fun r17 =>
        ifP r17
          ((SV.noRef (demote (demote (demote r16)))) = true ∧
          (K (demote (demote (demote r16)))))
          (bindO (binV none .add (demote (vget vs8 3)) (.d (.int .i64 1))) fun r18 =>
          (I10 [(vget vs8 0), (vget vs8 1), (vget vs8 2), (demote r18)] [(Box.vals (Box.cells (bget bs9 0)))])))
        ((SV.noRef (.d (.int .i64 0))) = true ∧
        (K (.d (.int .i64 0)))))
    [x1, (demote r6), r7, (.d (.int .i64 0))] [(Box.vals (Box.cells r0))]))) := by kernel_rfl

theorem body25 (C : Con) (x0 x1 : SV) (K : SV → Prop) : body Go.Proofs.Try.prog gl C h25 25 [x0, x1] K = (
  wfP [x0, x1] (
  bindO (cellsV (demote x0)) fun r0 =>
  (List.length r0) = 10 ∧
  bindO (cellsV (demote x1)) fun r1 =>
  (List.length r1) = 21 ∧
  bindO (partV false 1 0 r0) fun r2 =>
  bindO (binV (some (false, [.int])) .eql (demote (demote r2)) (.d (.int .i64 2))) fun r3 =>
  ifP (demote r3)
    (bindO (partV false 1 9 r0) fun r4 =>
    bindO (elemPtr 10 (demote (demote r4)) (.d (.int .i64 0))) fun r5 =>
    bindO (loadV true 10 (demote r5)) fun r6 =>
    bindO (partV true 21 0 r1) fun r7 =>
    callP C 25 [(demote (demote r6)), (demote (demote (demote r7)))] fun r8 =>
    bindO (unV .not (demote r8)) fun r9 =>
    (SV.noRef (demote r9)) = true ∧
    (K (demote r9)))
    (bindO (binV (some (false, [.int])) .eql (demote (demote r2)) (.d (.int .i64 3))) fun r10 =>
    ifP (demote r10)
      (bindO (partV false 1 9 r0) fun r11 =>
      bindO (elemPtr 10 (demote (demote r11)) (.d (.int .i64 0))) fun r12 =>
      bindO (loadV true 10 (demote r12)) fun r13 =>
      bindO (partV true 21 0 r1) fun r14 =>
      callP C 25 [(demote (demote r13)), (demote (demote (demote r14)))] fun r15 =>
      ifP (demote r15)
        (bindO (partV false 1 9 r0) fun r16 =>
        bindO (elemPtr 10 (demote (demote r16)) (.d (.int .i64 1))) fun r17 =>
        bindO (loadV true 10 (demote r17)) fun r18 =>
        bindO (partV true 21 0 r1) fun r19 =>
        callP C 25 [(demote (demote r18)), (demote (demote (demote r19)))] fun r20 =>
        (SV.noRef (demote (demote r20))) = true ∧
        (K (demote (demote r20))))
        ((SV.noRef (.d (.bool false))) = true ∧
        (K (.d (.bool false)))))
      (bindO (binV (some (false, [.int])) .eql (demote (demote r2)) (.d (.int .i64 4))) fun r21 =>
      ifP (demote r21)
        (bindO (partV false 1 9 r0) fun r22 =>
        bindO (elemPtr 10 (demote (demote r22)) (.d (.int .i64 0))) fun r23 =>
        bindO (loadV true 10 (demote r23)) fun r24 =>
        bindO (partV true 21 0 r1) fun r25 =>
        callP C 25 [(demote (demote r24)), (demote (demote (demote r25)))] fun r26 =>
        ifP (demote r26)
          ((SV.noRef (.d (.bool true))) = true ∧
          (K (.d (.bool true))))
          (bindO (partV false 1 9 r0) fun r27 =>
          bindO (elemPtr 10 (demote (demote r27)) (.d (.int .i64 1))) fun r28 =>
          bindO (loadV true 10 (demote r28)) fun r29 =>
          bindO (partV true 21 0 r1) fun r30 =>
          callP C 25 [(demote (demote r29)), (demote (demote (demote r30)))] fun r31 =>
          (SV.noRef (demote (demote r31))) = true ∧
          (K (demote (demote r31)))))
        (bindO (binV (some (false, [.int])) .eql (demote (demote r2)) (.d (.int .i64 9))) fun r32 =>
        ifP (demote r32)
          (bindO (partV true 4 5 r0) fun r33 =>
          bindO (partV false 1 1 r0) fun r34 =>
          callP C 42 [(demote (demote (demote r34)))] fun r35 =>
          bindO (partV true 21 0 r1) fun r36 =>
          bindO (partV false 1 1 r0) fun r37 =>
          callP C 43 [(demote (demote (demote r36))), (demote (demote (demote r37)))] fun r38 =>
          bindO (methV Proofs.Try.prog (demote (demote r35)) "accesscontrol/constraint.number") fun r39 =>
          withMeth Proofs.Try.prog (demote (demote r35)) "accesscontrol/constraint.number" [(demote (demote r38))] fun f40 l41 =>
          callP C f40 l41 fun r42 =>
          callP C 41 [(demote (demote (demote r33))), (demote (demote r42))] fun r43 =>
          (SV.noRef (demote r43)) = true ∧
          (K (demote r43)))
          (bindO (partV true 10 0 r0) fun r44 =>
          bindO (partV true 21 0 r1) fun r45 =>
          callP C 44 [(demote (demote (demote r44))), (demote (demote (demote r45)))] fun r46 =>
          (SV.noRef (demote r46)) = true ∧
          (K (demote r46)))))))) := by kernel_rfl

theorem body26 (C : Con) (x0 x1 : SV) (K : SV → Prop) : body Go.Proofs.Try.prog gl C h26 26 [x0, x1] K = (
  wfP [x0, x1] (
  bindO (cellsV (demote x0)) fun r0 =>
  (List.length r0) = 10 ∧
  bindO (cellsV (demote x1)) fun r1 =>
  (List.length r1) = 21 ∧
  bindO (partV false 1 0 r0) fun r2 =>
  bindO (binV (some (false, [.int])) .eql (demote (demote r2)) (.d (.int .i64 2))) fun r3 =>
  ifP (demote r3)
    (bindO (partV false 1 9 r0) fun r4 =>
    bindO (elemPtr 10 (demote (demote r4)) (.d (.int .i64 0))) fun r5 =>
    bindO (loadV true 10 (demote r5)) fun r6 =>
    bindO (partV true 21 0 r1) fun r7 =>
    callP C 26 [(demote (demote r6)), (demote (demote (demote r7)))] fun r8 =>
    bindO (unV .not (demote r8)) fun r9 =>
    (SV.noRef (demote r9)) = true ∧
    (K (demote r9)))
    (bindO (binV (some (false, [.int])) .eql (demote (demote r2)) (.d (.int .i64 3))) fun r10 =>
    ifP (demote r10)
      (bindO (partV false 1 9 r0) fun r11 =>
      bindO (elemPtr 10 (demote (demote r11)) (.d (.int .i64 0))) fun r12 =>
      bindO (loadV true 10 (demote r12)) fun r13 =>
      bindO (partV true 21 0 r1) fun r14 =>
      callP C 26 [(demote (demote r13)), (demote (demote (demote r14)))] fun r15 =>
      ifP (demote r15)
        (bindO (partV false 1 9 r0) fun r16 =>
        bindO (elemPtr 10 (demote (demote r16)) (.d (.int .i64 1))) fun r17 =>
        bindO (loadV true 10 (demote r17)) fun r18 =>
        bindO (partV true 21 0 r1) fun r19 =>
        callP C 26 [(demote (demote r18)), (demote (demote (demote r19)))] fun r20 =>
        (SV.noRef (demote (demote r20))) = true ∧
        (K (demote (demote r20))))
        ((SV.noRef (.d (.bool false))) = true ∧
        (K (.d (.bool false)))))
      (bindO (binV (some (false, [.int])) .eql (demote (demote r2)) (.d (.int .i64 4))) fun r21 =>
      ifP (demote r21)
        (bindO (partV false 1 9 r0) fun r22 =>
        bindO (elemPtr 10 (demote (demote r22)) (.d (.int .i64 0))) fun r23 =>
        bindO (loadV true 10 (demote r23)) fun r24 =>
        bindO (partV true 21 0 r1) fun r25 =>
        callP C 26 [(demote (demote r24)), (demote (demote (demote r25)))] fun r26 =>
        ifP (demote r26)
          ((SV.noRef (.d (.bool true))) = true ∧
          (K (.d (.bool true))))
          (bindO (partV false 1 9 r0) fun r27 =>
          bindO (elemPtr 10 (demote (demote r27)) (.d (.int .i64 1))) fun r28 =>
          bindO (loadV true 10 (demote r28)) fun r29 =>
          bindO (partV true 21 0 r1) fun r30 =>
          callP C 26 [(demote (demote r29)), (demote (demote (demote r30)))] fun r31 =>
          (SV.noRef (demote (demote r31))) = true ∧
          (K (demote (demote r31)))))
        (bindO (binV (some (false, [.int])) .eql (demote (demote r2)) (.d (.int .i64 9))) fun r32 =>
        ifP (demote r32)
          (bindO (partV true 4 5 r0) fun r33 =>
          bindO (partV true 21 0 r1) fun r34 =>
          bindO (partV false 1 1 r0) fun r35 =>
          callP C 46 [(demote (demote (demote r34))), (demote (demote (demote r35)))] fun r36 =>
          callP C 45 [(demote (demote (demote r33))), (demote (demote r36))] fun r37 =>
          (SV.noRef (demote r37)) = true ∧
          (K (demote r37)))
          (bindO (partV true 10 0 r0) fun r38 =>
          bindO (partV true 21 0 r1) fun r39 =>
          callP C 47 [(demote (demote (demote r38))), (demote (demote (demote r39)))] fun r40 =>
          (SV.noRef (demote r40)) = true ∧
          (K (demote r40)))))))) := by kernel_rfl

theorem body27 (C : Con) (x0 x1 x2 : SV) (K : SV → Prop) : body Go.Proofs.Try.prog gl C h27 27 [x0, x1, x2] K = (
  wfP [x0, x1, x2] (
  bindO (cellsV (demote x0)) fun r0 =>
  (List.length r0) = 10 ∧
  ifP (demote x2)
    (bindO (partV true 10 0 r0) fun r1 =>
    callP C 48 [(demote (demote (demote r1))), (demote (demote (demote x1)))] fun r2 =>
    bindO (unV .not (demote r2)) fun r3 =>
    ifP (demote r3)
      ((SV.noRef (.d (.int .i64 2))) = true ∧
      (K (.d (.int .i64 2))))
      (bindO (partV false 1 0 r0) fun r4 =>
      callP C 49 [(demote (demote (demote r4)))] fun r5 =>
      bindO (binV none .gtr (demote r5) (.d (.int .i64 0))) fun r6 =>
      ifP (demote r6)
        ((SV.noRef (.d (.int .i64 0))) = true ∧
        (K (.d (.int .i64 0))))
        (bindO (partV false 1 1 r0) fun r7 =>
        callP C 50 [(demote (demote (demote r7))), (.d (.int .i64 15))] fun r8 =>
        bindO (unV .not (demote r8)) fun r9 =>
        ifP (demote r9)
          ((SV.noRef (.d (.int .i64 3))) = true ∧
          (K (.d (.int .i64 3))))
          (bindO (partV false 1 3 r0) fun r10 =>
          callP C 50 [(demote (demote (demote r10))), (.d (.int .i64 15))] fun r11 =>
          bindO (unV .not (demote r11)) fun r12 =>
          ifP (demote (demote r12))
            ((SV.noRef (.d (.int .i64 3))) = true ∧
            (K (.d (.int .i64 3))))
            (bindO (partV false 1 2 r0) fun r13 =>
            callP C 50 [(demote (demote (demote r13))), (.d (.int .i64 5))] fun r14 =>
            bindO (unV .not (demote r14)) fun r15 =>
            ifP (demote (demote r15))
              ((SV.noRef (.d (.int .i64 3))) = true ∧
              (K (.d (.int .i64 3))))
              (bindO (partV false 1 0 r0) fun r16 =>
              bindO (binV (some (false, [.int])) .eql (demote (demote r16)) (.d (.int .i64 9))) fun r17 =>
              ifP (demote r17)
                (bindO (partV false 1 1 r0) fun r18 =>
                callP C 51 [(demote (demote (demote r18)))] fun r19 =>
                bindO (binV (some (false, [.int])) .eql (demote r19) (.d (.int .i64 3))) fun r20 =>
                ifP (demote (demote r20))
                  ((SV.noRef (.d (.int .i64 13))) = true ∧
                  (K (.d (.int .i64 13))))
                  (bindO (partV false 1 0 r0) fun r21 =>
                  bindO (binV (some (false, [.int])) .eql (demote (demote r21)) (.d (.int .i64 8))) fun r22 =>
                  ifP (demote r22)
                    (bindO (partV false 1 1 r0) fun r23 =>
                    callP C 51 [(demote (demote (demote r23)))] fun r24 =>
                    bindO (partV false 1 3 r0) fun r25 =>
                    callP C 51 [(demote (demote (demote r25)))] fun r26 =>
                    bindO (binV (some (false, [.int])) .neq (demote r24) (demote r26)) fun r27 =>
                    ifP (demote r27)
                      ((SV.noRef (.d (.int .i64 13))) = true ∧
                      (K (.d (.int .i64 13))))
                      (bindO (partV false 1 1 r0) fun r28 =>
                      callP C 51 [(demote (demote (demote r28)))] fun r29 =>
                      bindO (binV (some (false, [.int])) .neq (demote r29) (.d (.int .i64 3))) fun r30 =>
                      ifP (demote r30)
                        (bindO (partV false 1 2 r0) fun r31 =>
                        bindO (binV none .gtr (demote (demote r31)) (.d (.int .i64 1))) fun r32 =>
                        ifP (demote (demote (demote (demote r32))))
                          ((SV.noRef (.d (.int .i64 13))) = true ∧
                          (K (.d (.int .i64 13))))
                          ((SV.noRef (.d (.int .i64 0))) = true ∧
                          (K (.d (.int .i64 0)))))
                        ((SV.noRef (.d (.int .i64 0))) = true ∧
                        (K (.d (.int .i64 0))))))
                    ((SV.noRef (.d (.int .i64 0))) = true ∧
                    (K (.d (.int .i64 0))))))
                (bindO (partV false 1 0 r0) fun r33 =>
                bindO (binV (some (false, [.int])) .eql (demote (demote r33)) (.d (.int .i64 8))) fun r34 =>
                ifP (demote r34)
                  (bindO (partV false 1 1 r0) fun r35 =>
                  callP C 51 [(demote (demote (demote r35)))] fun r36 =>
                  bindO (partV false 1 3 r0) fun r37 =>
                  callP C 51 [(demote (demote (demote r37)))] fun r38 =>
                  bindO (binV (some (false, [.int])) .neq (demote r36) (demote r38)) fun r39 =>
                  ifP (demote r39)
                    ((SV.noRef (.d (.int .i64 13))) = true ∧
                    (K (.d (.int .i64 13))))
                    (bindO (partV false 1 1 r0) fun r40 =>
                    callP C 51 [(demote (demote (demote r40)))] fun r41 =>
                    bindO (binV (some (false, [.int])) .neq (demote r41) (.d (.int .i64 3))) fun r42 =>
                    ifP (demote r42)
                      (bindO (partV false 1 2 r0) fun r43 =>
                      bindO (binV none .gtr (demote (demote r43)) (.d (.int .i64 1))) fun r44 =>
                      ifP (demote (demote (demote (demote r44))))
                        ((SV.noRef (.d (.int .i64 13))) = true ∧
                        (K (.d (.int .i64 13))))
                        ((SV.noRef (.d (.int .i64 0))) = true ∧
                        (K (.d (.int .i64 0)))))
                      ((SV.noRef (.d (.int .i64 0))) = true ∧
                      (K (.d (.int .i64 0))))))
                  ((SV.noRef (.d (.int .i64 0))) = true ∧
                  (K (.d (.int .i64 0)))))))))))
    (bindO (partV true 10 0 r0) fun r45 =>
    callP C 48 [(demote (demote (demote r45))), (demote (demote (demote x1)))] fun r46 =>
    bindO (unV .not (demote r46)) fun r47 =>
    ifP (demote r47)
      ((SV.noRef (.d (.int .i64 2))) = true ∧
      (K (.d (.int .i64 2))))
      (bindO (partV false 1 0 r0) fun r48 =>
      callP C 49 [(demote (demote (demote r48)))] fun r49 =>
      bindO (binV none .gtr (demote r49) (.d (.int .i64 0))) fun r50 =>
      ifP (demote r50)
        ((SV.noRef (.d (.int .i64 0))) = true ∧
        (K (.d (.int .i64 0))))
        (bindO (partV false 1 1 r0) fun r51 =>
        callP C 50 [(demote (demote (demote r51))), (.d (.int .i64 10))] fun r52 =>
        bindO (unV .not (demote r52)) fun r53 =>
        ifP (demote r53)
          ((SV.noRef (.d (.int .i64 3))) = true ∧
          (K (.d (.int .i64 3))))
          (bindO (partV false 1 3 r0) fun r54 =>
          callP C 50 [(demote (demote (demote r54))), (.d (.int .i64 10))] fun r55 =>
          bindO (unV .not (demote r55)) fun r56 =>
          ifP (demote (demote r56))
            ((SV.noRef (.d (.int .i64 3))) = true ∧
            (K (.d (.int .i64 3))))
            (bindO (partV false 1 2 r0) fun r57 =>
            callP C 50 [(demote (demote (demote r57))), (.d (.int .i64 5))] fun r58 =>
            bindO (unV .not (demote r58)) fun r59 =>
            ifP (demote (demote r59))
              ((SV.noRef (.d (.int .i64 3))) = true ∧
              (K (.d (.int .i64 3))))
              (bindO (partV false 1 0 r0) fun r60 =>
              bindO (binV (some (false, [.int])) .eql (demote (demote r60)) (.d (.int .i64 9))) fun r61 =>
              ifP (demote r61)
                (bindO (partV false 1 1 r0) fun r62 =>
                callP C 51 [(demote (demote (demote r62)))] fun r63 =>
                bindO (binV (some (false, [.int])) .eql (demote r63) (.d (.int .i64 3))) fun r64 =>
                ifP (demote (demote r64))
                  ((SV.noRef (.d (.int .i64 13))) = true ∧
                  (K (.d (.int .i64 13))))
                  (bindO (partV false 1 0 r0) fun r65 =>
                  bindO (binV (some (false, [.int])) .eql (demote (demote r65)) (.d (.int .i64 8))) fun r66 =>
                  ifP (demote r66)
                    (bindO (partV false 1 1 r0) fun r67 =>
                    callP C 51 [(demote (demote (demote r67)))] fun r68 =>
                    bindO (partV false 1 3 r0) fun r69 =>
                    callP C 51 [(demote (demote (demote r69)))] fun r70 =>
                    bindO (binV (some (false, [.int])) .neq (demote r68) (demote r70)) fun r71 =>
                    ifP (demote r71)
                      ((SV.noRef (.d (.int .i64 13))) = true ∧
                      (K (.d (.int .i64 13))))
                      (bindO (partV false 1 1 r0) fun r72 =>
                      callP C 51 [(demote (demote (demote r72)))] fun r73 =>
                      bindO (binV (some (false, [.int])) .neq (demote r73) (.d (.int .i64 3))) fun r74 =>
                      ifP (demote r74)
                        (bindO (partV false 1 2 r0) fun r75 =>
                        bindO (binV none .gtr (demote (demote r75)) (.d (.int .i64 1))) fun r76 =>
                        ifP (demote (demote (demote (demote r76))))
                          ((SV.noRef (.d (.int .i64 13))) = true ∧
                          (K (.d (.int .i64 13))))
                          ((SV.noRef (.d (.int .i64 0))) = true ∧
                          (K (.d (.int .i64 0)))))
                        ((SV.noRef (.d (.int .i64 0))) = true ∧
                        (K (.d (.int .i64 0))))))
                    ((SV.noRef (.d (.int .i64 0))) = true ∧
                    (K (.d (.int .i64 0))))))
                (bindO (partV false 1 0 r0) fun r77 =>
                bindO (binV (some (false, [.int])) .eql (demote (demote r77)) (.d (.int .i64 8))) fun r78 =>
                ifP (demote r78)
                  (bindO (partV false 1 1 r0) fun r79 =>
                  callP C 51 [(demote (demote (demote r79)))] fun r80 =>
                  bindO (partV false 1 3 r0) fun r81 =>
                  callP C 51 [(demote (demote (demote r81)))] fun r82 =>
                  bindO (binV (some (false, [.int])) .neq (demote r80) (demote r82)) fun r83 =>
                  ifP (demote r83)
                    ((SV.noRef (.d (.int .i64 13))) = true ∧
                    (K (.d (.int .i64 13))))
                    (bindO (partV false 1 1 r0) fun r84 =>
                    callP C 51 [(demote (demote (demote r84)))] fun r85 =>
                    bindO (binV (some (false, [.int])) .neq (demote r85) (.d (.int .i64 3))) fun r86 =>
                    ifP (demote r86)
                      (bindO (partV false 1 2 r0) fun r87 =>
                      bindO (binV none .gtr (demote (demote r87)) (.d (.int .i64 1))) fun r88 =>
                      ifP (demote (demote (demote (demote r88))))
                        ((SV.noRef (.d (.int .i64 13))) = true ∧
                        (K (.d (.int .i64 13))))
                        ((SV.noRef (.d (.int .i64 0))) = true ∧
                        (K (.d (.int .i64 0)))))
                      ((SV.noRef (.d (.int .i64 0))) = true ∧
                      (K (.d (.int .i64 0))))))
                  ((SV.noRef (.d (.int .i64 0))) = true ∧
                  (K (.d (.int .i64 0))))))))))))) := by kernel_rfl

theorem body28 (C : Con) (x0 x1 : SV) (K : SV → Prop) : body Go.Proofs.Try.prog gl C h28 28 [x0, x1] K = (
  wfP [x0, x1] (
  callP C 52 [(demote (demote (demote x0))), (demote (demote (demote x1)))] fun r0 =>
  bindO (binV none .geq (demote r0) (.d (.int .i64 0))) fun r1 =>
  (SV.noRef (demote r1)) = true ∧
  (K (demote r1)))) := by kernel_rfl

theorem body29 (C : Con) (x0 x1 : SV) (K : SV → Prop) : body Go.Proofs.Try.prog gl C h29 29 [x0, x1] K = (
  wfP [x0, x1] (
  bindO (cellsV (demote x0)) fun r0 =>
  (List.length r0) = 10 ∧
  bindO (partV true 10 0 r0) fun r1 =>
  bindO (loadV false 1 (demote x1)) fun r2 =>
  callP C 11 [(demote (demote (demote r1))), (demote (demote r2))] fun r3 =>
  (SV.noRef (demote r3)) = true ∧
  (K (demote r3)))) := by kernel_rfl

theorem body37 (C : Con) (x0 x1 : SV) (K : SV → Prop) : body Go.Proofs.Try.prog gl C h37 37 [x0, x1] K = (
  wfP [x0, x1] (
  bindO (cellsV (demote x0)) fun r0 =>
  (List.length r0) = 10 ∧
  bindO (partV false 1 1 r0) fun r1 =>
  bindO (binV (some (false, [.int])) .eql (demote (demote r1)) (.d (.int .i64 0))) fun r2 =>
  ifP (demote r2)
    (bindO (partV false 1 3 r0) fun r3 =>
    bindO (binV (some (false, [.int])) .eql (demote (demote r3)) (.d (.int .i64 0))) fun r4 =>
    ifP (demote (demote r4))
      (bindO (partV false 1 2 r0) fun r5 =>
      bindO (binV (some (false, [.int])) .eql (demote (demote r5)) (.d (.int .i64 0))) fun r6 =>
      ifP (demote (demote r6))
        (bindO (partV true 4 5 r0) fun r7 =>
        bindO (partsS []) fun r8 =>
        bindO (buildD Proofs.Try.prog 25 r8) fun r9 =>
        bindO (binV (some (true, [.int, .int, .int, .int])) .eql (demote (demote r7)) (.d r9)) fun r10 =>
        ifP (demote (demote r10))
          (bindO (partV false 1 4 r0) fun r11 =>
          bindO (lenL (demote (demote r11))) fun r12 =>
          bindO (binV (some (false, [.int])) .eql (demote r12) (.d (.int .i64 0))) fun r13 =>
          ifP (demote (demote r13))
            (bindO (partV false 1 9 r0) fun r14 =>
            bindO (lenL (demote (demote r14))) fun r15 =>
            bindO (binV (some (false, [.int])) .eql (demote r15) (demote (demote x1))) fun r16 =>
            (SV.noRef (demote (demote r16))) = true ∧
            (K (demote (demote r16))))
            ((SV.noRef (.d (.bool false))) = true ∧
            (K (.d (.bool false)))))
          ((SV.noRef (.d (.bool false))) = true ∧
          (K (.d (.bool false)))))
        ((SV.noRef (.d (.bool false))) = true ∧
        (K (.d (.bool false)))))
      ((SV.noRef (.d (.bool false))) = true ∧
      (K (.d (.bool false)))))
    ((SV.noRef (.d (.bool false))) = true ∧
    (K (.d (.bool false)))))) := by kernel_rfl

theorem body38 (C : Con) (x0 x1 : SV) (K : SV → Prop) : body Go.Proofs.Try.prog gl C h38 38 [x0, x1] K = (
  wfP [x0, x1] (
  bindO (binV none .geq (demote (demote x0)) (.d (.int .i64 0))) fun r0 =>
  ifP (demote r0)
    (bindO (loadV false 1 (demote x1)) fun r1 =>
    bindO (binV none .lss (demote (demote x0)) (demote r1)) fun r2 =>
    (SV.noRef (demote (demote r2))) = true ∧
    (K (demote (demote r2))))
    ((SV.noRef (.d (.bool false))) = true ∧
    (K (.d (.bool false)))))) := by kernel_rfl

theorem body39 (C : Con) (x0 : SV) (K : SV → Prop) : body Go.Proofs.Try.prog gl C h39 39 [x0] K = (
  wfP [x0] (
  callP C 40 [(demote (demote (demote x0)))] fun r0 =>
  bindO (binV (some (false, [.int])) .eql (demote r0) (.d (.int .i64 3))) fun r1 =>
  (SV.noRef (demote r1)) = true ∧
  (K (demote r1)))) := by kernel_rfl

theorem body40 (C : Con) (x0 : SV) (K : SV → Prop) : body Go.Proofs.Try.prog gl C h40 40 [x0] K = (
  wfP [x0] (
  bindO (binV none .rem (demote (demote x0)) (.d (.int .i64 5))) fun r0 =>
  bindO (foldIntV minD (demote r0) [(.d (.int .i64 3))]) fun r1 =>
  (SV.noRef (demote r1)) = true ∧
  (K (demote r1)))) := by kernel_rfl

theorem body41 (C : Con) (x0 x1 : SV) (K : SV → Prop) : body Go.Proofs.Try.prog gl C h41 41 [x0, x1] K = (
  wfP [x0, x1] (
  bindO (cellsV (demote x0)) fun r0 =>
  (List.length r0) = 4 ∧
  callP C 59 [(demote (demote (demote x1)))] fun r1 =>
  ifP (demote r1)
    (bindO (binV none .quo (demote (demote x1)) (.d (.int .i64 64))) fun r2 =>
    bindO (indexOk (demote r2) 4) fun r3 =>
    bindO (partV false 1 (0 + (r3 * 1)) r0) fun r4 =>
    bindO (binV none .rem (demote (demote x1)) (.d (.int .i64 64))) fun r5 =>
    bindO (binV none .shr (demote (demote r4)) (demote r5)) fun r6 =>
    bindO (binV none .and (demote r6) (.d (.int .u64 1))) fun r7 =>
    bindO (binV (some (false, [.int])) .eql (demote r7) (.d (.int .u64 1))) fun r8 =>
    (SV.noRef (demote (demote r8))) = true ∧
    (K (demote (demote r8))))
    ((SV.noRef (.d (.bool false))) = true ∧
    (K (.d (.bool false)))))) := by kernel_rfl

theorem body42 (C : Con) (x0 : SV) (K : SV → Prop) : body Go.Proofs.Try.prog gl C h42 42 [x0] K = (
  wfP [x0] (
  bindO (binV none .rem (demote (demote x0)) (.d (.int .i64 5))) fun r0 =>
  bindO (binV (some (false, [.int])) .eql (demote r0) (.d (.int .i64 0))) fun r1 =>
  ifP (demote r1)
    (bindO (partsS []) fun r2 =>
    bindO (buildD Proofs.Try.prog 124 r2) fun r3 =>
    bindO (ifaceV 124 (.d r3)) fun r4 =>
    (SV.noRef (demote r4)) = true ∧
    (K (demote r4)))
    (bindO (binV (some (false, [.int])) .eql (demote r0) (.d (.int .i64 1))) fun r5 =>
    ifP (demote r5)
      (bindO (partsS []) fun r6 =>
      bindO (buildD Proofs.Try.prog 125 r6) fun r7 =>
      bindO (ifaceV 125 (.d r7)) fun r8 =>
      (SV.noRef (demote r8)) = true ∧
      (K (demote r8)))
      (bindO (binV (some (false, [.int])) .eql (demote r0) (.d (.int .i64 2))) fun r9 =>
      ifP (demote r9)
        (bindO (partsS []) fun r10 =>
        bindO (buildD Proofs.Try.prog 126 r10) fun r11 =>
        bindO (ifaceV 126 (.d r11)) fun r12 =>
        (SV.noRef (demote r12)) = true ∧
        (K (demote r12)))
        (bindO (binV none .rem (demote (demote x0)) (.d (.int .i64 5))) fun r13 =>
        bindO (binV (some (false, [.int])) .eql (demote r13) (.d (.int .i64 4))) fun r14 =>
        bindO (partsS [(0, (.v (demote r14)))]) fun r15 =>
        bindO (buildD Proofs.Try.prog 128 r15) fun r16 =>
        bindO (ifaceV 128 (.d r16)) fun r17 =>
        (SV.noRef (demote r17)) = true ∧
        (K (demote r17))))))) := by kernel_rfl

theorem body43 (C : Con) (x0 x1 : SV) (K : SV → Prop) : body Go.Proofs.Try.prog gl C h43 43 [x0, x1] K = (
  wfP [x0, x1] (
  bindO (cellsV (demote x0)) fun r0 =>
  (List.length r0) = 21 ∧
  bindO (binV none .quo (demote (demote x1)) (.d (.int .i64 5))) fun r1 =>
  bindO (binV (some (false, [.int])) .eql (demote r1) (.d (.int .i64 0))) fun r2 =>
  ifP (demote r2)
    (bindO (partV true 7 0 r0) fun r3 =>
    bindO (cellsV (demote (demote r3))) fun r4 =>
    (List.length r4) = 7 ∧
    7 ≤ 7 ∧
    bindO (partV true 7 0 (setAt [(.d (.int .i64 0)), (.d (.int .i64 0)), (.d (.int .i64 0)), (.d (.int .i64 0)), (.d (.int .u64 0)), (.d (.int .i64 0)), (.d (.int .u64 0))] 0 r4)) fun r5 =>
    (SV.noRef (demote r5)) = true ∧
    (K (demote r5)))
    (bindO (binV (some (false, [.int])) .eql (demote r1) (.d (.int .i64 1))) fun r6 =>
    ifP (demote r6)
      (bindO (partV true 7 7 r0) fun r7 =>
      bindO (cellsV (demote (demote r7))) fun r8 =>
      (List.length r8) = 7 ∧
      7 ≤ 7 ∧
      bindO (partV true 7 0 (setAt [(.d (.int .i64 0)), (.d (.int .i64 0)), (.d (.int .i64 0)), (.d (.int .i64 0)), (.d (.int .u64 0)), (.d (.int .i64 0)), (.d (.int .u64 0))] 0 r8)) fun r9 =>
      (SV.noRef (demote r9)) = true ∧
      (K (demote r9)))
      (bindO (partV true 7 14 r0) fun r10 =>
      bindO (cellsV (demote (demote r10))) fun r11 =>
      (List.length r11) = 7 ∧
      7 ≤ 7 ∧
      bindO (partV true 7 0 (setAt [(.d (.int .i64 0)), (.d (.int .i64 0)), (.d (.int .i64 0)), (.d (.int .i64 0)), (.d (.int .u64 0)), (.d (.int .i64 0)), (.d (.int .u64 0))] 0 r11)) fun r12 =>
      (SV.noRef (demote r12)) = true ∧
      (K (demote r12)))))) := by kernel_rfl

theorem body44 (C : Con) (x0 x1 : SV) (K : SV → Prop) : body Go.Proofs.Try.prog gl C h44 44 [x0, x1] K = (
  wfP [x0, x1] (
  bindO (cellsV (demote x0)) fun r0 =>
  (List.length r0) = 10 ∧
  bindO (cellsV (demote x1)) fun r1 =>
  (List.length r1) = 21 ∧
  bindO (partV false 1 1 r0) fun r2 =>
  callP C 42 [(demote (demote (demote r2)))] fun r3 =>
  bindO (partV false 1 3 r0) fun r4 =>
  callP C 42 [(demote (demote (demote r4)))] fun r5 =>
  bindO (partV true 21 0 r1) fun r6 =>
  bindO (partV false 1 1 r0) fun r7 =>
  callP C 43 [(demote (demote (demote r6))), (demote (demote (demote r7)))] fun r8 =>
  bindO (partV true 21 0 r1) fun r9 =>
  bindO (partV false 1 3 r0) fun r10 =>
  callP C 43 [(demote (demote (demote r9))), (demote (demote (demote r10)))] fun r11 =>
  bindO (cellsV (demote r8)) fun r12 =>
  (List.length r12) = 7 ∧
  7 ≤ 7 ∧
  bindO (cellsV (demote r11)) fun r13 =>
  (List.length r13) = 7 ∧
  7 ≤ 7 ∧
  bindO (partV false 1 1 r0) fun r14 =>
  callP C 39 [(demote (demote (demote r14)))] fun r15 =>
  bindO (unV .not (demote r15)) fun r16 =>
  ifP r16
    (bindO (partV true 7 0 (setAt [(.d (.int .i64 0)), (.d (.int .i64 0)), (.d (.int .i64 0)), (.d (.int .i64 0)), (.d (.int .u64 0)), (.d (.int .i64 0)), (.d (.int .u64 0))] 0 r12)) fun r17 =>
    withMeth Proofs.Try.prog (demote (demote (demote r3))) "accesscontrol/constraint.number" [(demote (demote (demote r17)))] fun f18 l19 =>
    callP C f18 l19 fun r20 =>
    bindO (partV true 7 0 (setAt [(.d (.int .i64 0)), (.d (.int .i64 0)), (.d (.int .i64 0)), (.d (.int .i64 0)), (.d (.int .u64 0)), (.d (.int .i64 0)), (.d (.int .u64 0))] 0 r13)) fun r21 =>
    withMeth Proofs.Try.prog (demote (demote (demote r5))) "accesscontrol/constraint.number" [(demote (demote (demote r21)))] fun f22 l23 =>
    callP C f22 l23 fun r24 =>
    bindO (binV (some (false, [.int])) .eql (demote r20) (demote r24)) fun r25 =>
    bindO (partV false 1 2 r0) fun r26 =>
    bindO (binV (some (false, [.int])) .eql (demote (demote r26)) (.d (.int .i64 0))) fun r27 =>
    bindO (binV (some (false, [.bool])) .eql (demote r25) (demote r27)) fun r28 =>
    (SV.noRef (demote r28)) = true ∧
    (K (demote r28)))
    (bindO (partV true 7 0 (setAt [(.d (.int .i64 0)), (.d (.int .i64 0)), (.d (.int .i64 0)), (.d (.int .i64 0)), (.d (.int .u64 0)), (.d (.int .i64 0)), (.d (.int .u64 0))] 0 r12)) fun r29 =>
    withMeth Proofs.Try.prog (demote (demote (demote r3))) "accesscontrol/constraint.grade" [(demote (demote (demote r29)))] fun f30 l31 =>
    callP C f30 l31 fun r32 =>
    bindO (partV true 7 0 (setAt [(.d (.int .i64 0)), (.d (.int .i64 0)), (.d (.int .i64 0)), (.d (.int .i64 0)), (.d (.int .u64 0)), (.d (.int .i64 0)), (.d (.int .u64 0))] 0 r13)) fun r33 =>
    withMeth Proofs.Try.prog (demote (demote (demote r5))) "accesscontrol/constraint.grade" [(demote (demote (demote r33)))] fun f34 l35 =>
    callP C f34 l35 fun r36 =>
    callP C 60 [(demote (demote r32)), (demote (demote r36))] fun r37 =>
    bindO (partV false 1 2 r0) fun r38 =>
    bindO (binV (some (false, [.int])) .eql (demote (demote r38)) (.d (.int .i64 1))) fun r39 =>
    ifP (demote r39)
      (bindO (binV (some (false, [.int])) .neq (demote (demote (demote r37))) (.d (.int .i64 0))) fun r40 =>
      (SV.noRef (demote r40)) = true ∧
      (K (demote r40)))
      (bindO (binV (some (false, [.int])) .eql (demote (demote r38)) (.d (.int .i64 2))) fun r41 =>
      ifP (demote r41)
        (bindO (binV (some (false, [.int])) .eql (demote (demote (demote r37))) (.d (.int .i64 0))) fun r42 =>
        ifP (demote r42)
          ((SV.noRef (.d (.bool true))) = true ∧
          (K (.d (.bool true))))
          (bindO (partV false 1 2 r0) fun r43 =>
          bindO (binV (some (false, [.int])) .eql (demote (demote (demote r37))) (demote (demote r43))) fun r44 =>
          (SV.noRef (demote (demote r44))) = true ∧
          (K (demote (demote r44)))))
        (bindO (binV (some (false, [.int])) .eql (demote (demote r38)) (.d (.int .i64 3))) fun r45 =>
        ifP (demote r45)
          (bindO (binV (some (false, [.int])) .eql (demote (demote (demote r37))) (.d (.int .i64 0))) fun r46 =>
          ifP (demote r46)
            ((SV.noRef (.d (.bool true))) = true ∧
            (K (.d (.bool true))))
            (bindO (partV false 1 2 r0) fun r47 =>
            bindO (binV (some (false, [.int])) .eql (demote (demote (demote r37))) (demote (demote r47))) fun r48 =>
            (SV.noRef (demote (demote r48))) = true ∧
            (K (demote (demote r48)))))
          (bindO (partV false 1 2 r0) fun r49 =>
          bindO (binV (some (false, [.int])) .eql (demote (demote (demote r37))) (demote (demote r49))) fun r50 =>
          (SV.noRef (demote r50)) = true ∧
          (K (demote r50)))))))) := by kernel_rfl

theorem body45 (C : Con) (x0 x1 : SV) (K : SV → Prop) : body Go.Proofs.Try.prog gl C h45 45 [x0, x1] K = (
  wfP [x0, x1] (
  bindO (cellsV (demote x0)) fun r0 =>
  (List.length r0) = 4 ∧
  bindO (binV none .geq (demote (demote x1)) (.d (.int .i64 0))) fun r1 =>
  ifP (demote r1)
    (bindO (binV none .lss (demote (demote x1)) (.d (.int .i64 256))) fun r2 =>
    ifP (demote (demote r2))
      (bindO (binV none .quo (demote (demote x1)) (.d (.int .i64 64))) fun r3 =>
      bindO (indexOk (demote r3) 4) fun r4 =>
      bindO (partV false 1 (0 + (r4 * 1)) r0) fun r5 =>
      callP C 61 [(demote (demote (demote x1)))] fun r6 =>
      bindO (binV none .and (demote (demote r5)) (demote r6)) fun r7 =>
      bindO (binV (some (false, [.int])) .neq (demote r7) (.d (.int .u64 0))) fun r8 =>
      (SV.noRef (demote (demote r8))) = true ∧
      (K (demote (demote r8))))
      ((SV.noRef (.d (.bool false))) = true ∧
      (K (.d (.bool false)))))
    ((SV.noRef (.d (.bool false))) = true ∧
    (K (.d (.bool false)))))) := by kernel_rfl

theorem body46 (C : Con) (x0 x1 : SV) (K : SV → Prop) : body Go.Proofs.Try.prog gl C h46 46 [x0, x1] K = (
  wfP [x0, x1] (
  bindO (cellsV (demote x0)) fun r0 =>
  (List.length r0) = 21 ∧
  bindO (partV true 21 0 r0) fun r1 =>
  callP C 62 [(demote (demote (demote r1))), (demote (demote (demote x1)))] fun r2 =>
  bindO (cellsV (demote r2)) fun r3 =>
  (List.length r3) = 7 ∧
  7 ≤ 7 ∧
  callP C 51 [(demote (demote (demote x1)))] fun r4 =>
  bindO (binV (some (false, [.int])) .eql (demote r4) (.d (.int .i64 0))) fun r5 =>
  ifP (demote r5)
    (bindO (partV false 1 0 (setAt [(.d (.int .i64 0)), (.d (.int .i64 0)), (.d (.int .i64 0)), (.d (.int .i64 0)), (.d (.int .u64 0)), (.d (.int .i64 0)), (.d (.int .u64 0))] 0 r3)) fun r6 =>
    (SV.noRef (demote (demote r6))) = true ∧
    (K (demote (demote r6))))
    (bindO (binV (some (false, [.int])) .eql (demote r4) (.d (.int .i64 1))) fun r7 =>
    ifP (demote r7)
      (bindO (partV false 1 1 (setAt [(.d (.int .i64 0)), (.d (.int .i64 0)), (.d (.int .i64 0)), (.d (.int .i64 0)), (.d (.int .u64 0)), (.d (.int .i64 0)), (.d (.int .u64 0))] 0 r3)) fun r8 =>
      (SV.noRef (demote (demote r8))) = true ∧
      (K (demote (demote r8))))
      (bindO (partV false 1 2 (setAt [(.d (.int .i64 0)), (.d (.int .i64 0)), (.d (.int .i64 0)), (.d (.int .i64 0)), (.d (.int .u64 0)), (.d (.int .i64 0)), (.d (.int .u64 0))] 0 r3)) fun r9 =>
      (SV.noRef (demote (demote r9))) = true ∧
      (K (demote (demote r9))))))) := by kernel_rfl

theorem body47 (C : Con) (x0 x1 : SV) (K : SV → Prop) : body Go.Proofs.Try.prog gl C h47 47 [x0, x1] K = (
  wfP [x0, x1] (
  bindO (cellsV (demote x0)) fun r0 =>
  (List.length r0) = 10 ∧
  bindO (cellsV (demote x1)) fun r1 =>
  (List.length r1) = 21 ∧
  bindO (partV false 1 1 r0) fun r2 =>
  callP C 51 [(demote (demote (demote r2)))] fun r3 =>
  bindO (binV (some (false, [.int])) .neq (demote r3) (.d (.int .i64 3))) fun r4 =>
  ifP r4
    (bindO (partV true 21 0 r1) fun r5 =>
    bindO (partV false 1 1 r0) fun r6 =>
    callP C 46 [(demote (demote (demote r5))), (demote (demote (demote r6)))] fun r7 =>
    bindO (partV true 21 0 r1) fun r8 =>
    bindO (partV false 1 3 r0) fun r9 =>
    callP C 46 [(demote (demote (demote r8))), (demote (demote (demote r9)))] fun r10 =>
    bindO (binV (some (false, [.int])) .eql (demote r7) (demote r10)) fun r11 =>
    bindO (partV false 1 2 r0) fun r12 =>
    bindO (binV (some (false, [.int])) .eql (demote (demote r12)) (.d (.int .i64 0))) fun r13 =>
    bindO (binV (some (false, [.bool])) .eql (demote r11) (demote r13)) fun r14 =>
    (SV.noRef (demote r14)) = true ∧
    (K (demote r14)))
    (bindO (partV true 21 0 r1) fun r15 =>
    bindO (partV false 1 1 r0) fun r16 =>
    callP C 63 [(demote (demote (demote r15))), (demote (demote (demote r16)))] fun r17 =>
    bindO (partV true 21 0 r1) fun r18 =>
    bindO (partV false 1 3 r0) fun r19 =>
    callP C 63 [(demote (demote (demote r18))), (demote (demote (demote r19)))] fun r20 =>
    bindO (cellsV (demote r17)) fun r21 =>
    (List.length r21) = 2 ∧
    2 ≤ 2 ∧
    bindO (cellsV (demote r20)) fun r22 =>
    (List.length r22) = 2 ∧
    2 ≤ 2 ∧
    bindO (partV true 2 0 (setAt [(.d (.int .i64 0)), (.d (.int .u64 0))] 0 r21)) fun r23 =>
    bindO (partV true 2 0 (setAt [(.d (.int .i64 0)), (.d (.int .u64 0))] 0 r22)) fun r24 =>
    callP C 64 [(demote (demote (demote r23))), (demote (demote (demote r24)))] fun r25 =>
    bindO (partV true 2 0 (setAt [(.d (.int .i64 0)), (.d (.int .u64 0))] 0 r22)) fun r26 =>
    bindO (partV true 2 0 (setAt [(.d (.int .i64 0)), (.d (.int .u64 0))] 0 r21)) fun r27 =>
    callP C 64 [(demote (demote (demote r26))), (demote (demote (demote r27)))] fun r28 =>
    bindO (partV false 1 2 r0) fun r29 =>
    bindO (binV (some (false, [.int])) .eql (demote (demote r29)) (.d (.int .i64 0))) fun r30 =>
    ifP (demote r30)
      (bindO (partV true 2 0 (setAt [(.d (.int .i64 0)), (.d (.int .u64 0))] 0 r21)) fun r31 =>
      bindO (partV true 2 0 (setAt [(.d (.int .i64 0)), (.d (.int .u64 0))] 0 r22)) fun r32 =>
      bindO (binV (some (true, [.int, .int])) .eql (demote (demote r31)) (demote (demote r32))) fun r33 =>
      (SV.noRef (demote r33)) = true ∧
      (K (demote r33)))
      (bindO (binV (some (false, [.int])) .eql (demote (demote r29)) (.d (.int .i64 1))) fun r34 =>
      ifP (demote r34)
        (bindO (partV true 2 0 (setAt [(.d (.int .i64 0)), (.d (.int .u64 0))] 0 r21)) fun r35 =>
        bindO (partV true 2 0 (setAt [(.d (.int .i64 0)), (.d (.int .u64 0))] 0 r22)) fun r36 =>
        bindO (binV (some (true, [.int, .int])) .neq (demote (demote r35)) (demote (demote r36))) fun r37 =>
        (SV.noRef (demote r37)) = true ∧
        (K (demote r37)))
        (bindO (binV (some (false, [.int])) .eql (demote (demote r29)) (.d (.int .i64 2))) fun r38 =>
        ifP (demote r38)
          ((SV.noRef (demote (demote (demote r25)))) = true ∧
          (K (demote (demote (demote r25)))))
          (bindO (binV (some (false, [.int])) .eql (demote (demote r29)) (.d (.int .i64 3))) fun r39 =>
          ifP (demote r39)
            ((SV.noRef (demote (demote (demote r28)))) = true ∧
            (K (demote (demote (demote r28)))))
            (bindO (unV .not (demote (demote (demote r25)))) fun r40 =>
            ifP (demote r40)
              (bindO (unV .not (demote (demote (demote r28)))) fun r41 =>
              (SV.noRef (demote (demote r41))) = true ∧
              (K (demote (demote r41))))
              ((SV.noRef (.d (.bool false))) = true ∧
              (K (.d (.bool false))))))))))) := by kernel_rfl

theorem body48 (C : Con) (x0 x1 : SV) (K : SV → Prop) : body Go.Proofs.Try.prog gl C h48 48 [x0, x1] K = (
  wfP [x0, x1] (
  bindO (cellsV (demote x0)) fun r0 =>
  (List.length r0) = 10 ∧
  bindO (partV false 1 0 r0) fun r1 =>
  callP C 49 [(demote (demote (demote r1)))] fun r2 =>
  bindO (partV false 1 9 r0) fun r3 =>
  bindO (lenL (demote (demote r3))) fun r4 =>
  bindO (binV (some (false, [.int])) .neq (demote r2) (demote r4)) fun r5 =>
  ifP (demote r5)
    ((SV.noRef (.d (.bool false))) = true ∧
    (K (.d (.bool false))))
    (bindO (partV false 1 0 r0) fun r6 =>
    bindO (binV (some (false, [.int])) .neq (demote (demote r6)) (.d (.int .i64 8))) fun r7 =>
    ifP (demote r7)
      (bindO (partV false 1 2 r0) fun r8 =>
      bindO (binV (some (false, [.int])) .neq (demote (demote r8)) (.d (.int .i64 0))) fun r9 =>
      ifP (demote r9)
        ((SV.noRef (.d (.bool false))) = true ∧
        (K (.d (.bool false))))
        (bindO (partV false 1 3 r0) fun r10 =>
        bindO (binV (some (false, [.int])) .neq (demote (demote r10)) (.d (.int .i64 0))) fun r11 =>
        ifP (demote (demote (demote (demote r11))))
          ((SV.noRef (.d (.bool false))) = true ∧
          (K (.d (.bool false))))
          (bindO (partV false 1 0 r0) fun r12 =>
          callP C 49 [(demote (demote (demote r12)))] fun r13 =>
          bindO (binV none .gtr (demote r13) (.d (.int .i64 0))) fun r14 =>
          ifP (demote r14)
            (bindO (partV false 1 1 r0) fun r15 =>
            bindO (binV (some (false, [.int])) .neq (demote (demote r15)) (.d (.int .i64 0))) fun r16 =>
            ifP (demote (demote r16))
              ((SV.noRef (.d (.bool false))) = true ∧
              (K (.d (.bool false))))
              (bindO (partV false 1 0 r0) fun r17 =>
              bindO (binV (some (false, [.int])) .eql (demote (demote r17)) (.d (.int .i64 9))) fun r18 =>
              ifP (demote r18)
                (ifP (demote (demote x1))
                  (bindO (partV true 4 5 r0) fun r19 =>
                  bindO (partV true 4 0 [(.d (.int .u64 0)), (.d (.int .u64 0)), (.d (.int .u64 0)), (.d (.int .u64 0))]) fun r20 =>
                  bindO (binV (some (true, [.int, .int, .int, .int])) .eql (demote (demote r19)) (demote (demote r20))) fun r21 =>
                  ifP (demote r21)
                    (bindO (partV false 1 4 r0) fun r22 =>
                    bindO (lenL (demote (demote r22))) fun r23 =>
                    bindO (binV none .gtr (demote r23) (.d (.int .i64 0))) fun r24 =>
                    (SV.noRef (demote (demote r24))) = true ∧
                    (K (demote (demote r24))))
                    ((SV.noRef (.d (.bool false))) = true ∧
                    (K (.d (.bool false)))))
                  (bindO (partV false 1 4 r0) fun r25 =>
                  bindO (lenL (demote (demote r25))) fun r26 =>
                  bindO (binV (some (false, [.int])) .eql (demote r26) (.d (.int .i64 0))) fun r27 =>
                  ifP (demote r27)
                    (bindO (partV false 1 0 r0) fun r28 =>
                    bindO (binV (some (false, [.int])) .eql (demote (demote r28)) (.d (.int .i64 9))) fun r29 =>
                    ifP (demote r29)
                      ((SV.noRef (.d (.bool true))) = true ∧
                      (K (.d (.bool true))))
                      (bindO (partV true 4 5 r0) fun r30 =>
                      bindO (partV true 4 0 [(.d (.int .u64 0)), (.d (.int .u64 0)), (.d (.int .u64 0)), (.d (.int .u64 0))]) fun r31 =>
                      bindO (binV (some (true, [.int, .int, .int, .int])) .eql (demote (demote r30)) (demote (demote r31))) fun r32 =>
                      (SV.noRef (demote (demote (demote r32)))) = true ∧
                      (K (demote (demote (demote r32))))))
                    ((SV.noRef (.d (.bool false))) = true ∧
                    (K (.d (.bool false))))))
                (bindO (partV false 1 4 r0) fun r33 =>
                bindO (lenL (demote (demote r33))) fun r34 =>
                bindO (binV (some (false, [.int])) .eql (demote r34) (.d (.int .i64 0))) fun r35 =>
                ifP (demote r35)
                  (bindO (partV false 1 0 r0) fun r36 =>
                  bindO (binV (some (false, [.int])) .eql (demote (demote r36)) (.d (.int .i64 9))) fun r37 =>
                  ifP (demote r37)
                    ((SV.noRef (.d (.bool true))) = true ∧
                    (K (.d (.bool true))))
                    (bindO (partV true 4 5 r0) fun r38 =>
                    bindO (partV true 4 0 [(.d (.int .u64 0)), (.d (.int .u64 0)), (.d (.int .u64 0)), (.d (.int .u64 0))]) fun r39 =>
                    bindO (binV (some (true, [.int, .int, .int, .int])) .eql (demote (demote r38)) (demote (demote r39))) fun r40 =>
                    (SV.noRef (demote (demote (demote r40)))) = true ∧
                    (K (demote (demote (demote r40))))))
                  ((SV.noRef (.d (.bool false))) = true ∧
                  (K (.d (.bool false)))))))
            (bindO (partV false 1 0 r0) fun r41 =>
            bindO (binV (some (false, [.int])) .eql (demote (demote r41)) (.d (.int .i64 9))) fun r42 =>
            ifP (demote r42)
              (ifP (demote (demote x1))
                (bindO (partV true 4 5 r0) fun r43 =>
                bindO (partV true 4 0 [(.d (.int .u64 0)), (.d (.int .u64 0)), (.d (.int .u64 0)), (.d (.int .u64 0))]) fun r44 =>
                bindO (binV (some (true, [.int, .int, .int, .int])) .eql (demote (demote r43)) (demote (demote r44))) fun r45 =>
                ifP (demote r45)
                  (bindO (partV false 1 4 r0) fun r46 =>
                  bindO (lenL (demote (demote r46))) fun r47 =>
                  bindO (binV none .gtr (demote r47) (.d (.int .i64 0))) fun r48 =>
                  (SV.noRef (demote (demote r48))) = true ∧
                  (K (demote (demote r48))))
                  ((SV.noRef (.d (.bool false))) = true ∧
                  (K (.d (.bool false)))))
                (bindO (partV false 1 4 r0) fun r49 =>
                bindO (lenL (demote (demote r49))) fun r50 =>
                bindO (binV (some (false, [.int])) .eql (demote r50) (.d (.int .i64 0))) fun r51 =>
                ifP (demote r51)
                  (bindO (partV false 1 0 r0) fun r52 =>
                  bindO (binV (some (false, [.int])) .eql (demote (demote r52)) (.d (.int .i64 9))) fun r53 =>
                  ifP (demote r53)
                    ((SV.noRef (.d (.bool true))) = true ∧
                    (K (.d (.bool true))))
                    (bindO (partV true 4 5 r0) fun r54 =>
                    bindO (partV true 4 0 [(.d (.int .u64 0)), (.d (.int .u64 0)), (.d (.int .u64 0)), (.d (.int .u64 0))]) fun r55 =>
                    bindO (binV (some (true, [.int, .int, .int, .int])) .eql (demote (demote r54)) (demote (demote r55))) fun r56 =>
                    (SV.noRef (demote (demote (demote r56)))) = true ∧
                    (K (demote (demote (demote r56))))))
                  ((SV.noRef (.d (.bool false))) = true ∧
                  (K (.d (.bool false))))))
              (bindO (partV false 1 4 r0) fun r57 =>
              bindO (lenL (demote (demote r57))) fun r58 =>
              bindO (binV (some (false, [.int])) .eql (demote r58) (.d (.int .i64 0))) fun r59 =>
              ifP (demote r59)
                (bindO (partV false 1 0 r0) fun r60 =>
                bindO (binV (some (false, [.int])) .eql (demote (demote r60)) (.d (.int .i64 9))) fun r61 =>
                ifP (demote r61)
                  ((SV.noRef (.d (.bool true))) = true ∧
                  (K (.d (.bool true))))
                  (bindO (partV true 4 5 r0) fun r62 =>
                  bindO (partV true 4 0 [(.d (.int .u64 0)), (.d (.int .u64 0)), (.d (.int .u64 0)), (.d (.int .u64 0))]) fun r63 =>
                  bindO (binV (some (true, [.int, .int, .int, .int])) .eql (demote (demote r62)) (demote (demote r63))) fun r64 =>
                  (SV.noRef (demote (demote (demote r64)))) = true ∧
                  (K (demote (demote (demote r64))))))
                ((SV.noRef (.d (.bool false))) = true ∧
                (K (.d (.bool false)))))))))
      (bindO (partV false 1 0 r0) fun r65 =>
      callP C 49 [(demote (demote (demote r65)))] fun r66 =>
      bindO (binV none .gtr (demote r66) (.d (.int .i64 0))) fun r67 =>
      ifP (demote r67)
        (bindO (partV false 1 1 r0) fun r68 =>
        bindO (binV (some (false, [.int])) .neq (demote (demote r68)) (.d (.int .i64 0))) fun r69 =>
        ifP (demote (demote r69))
          ((SV.noRef (.d (.bool false))) = true ∧
          (K (.d (.bool false))))
          (bindO (partV false 1 0 r0) fun r70 =>
          bindO (binV (some (false, [.int])) .eql (demote (demote r70)) (.d (.int .i64 9))) fun r71 =>
          ifP (demote r71)
            (ifP (demote (demote x1))
              (bindO (partV true 4 5 r0) fun r72 =>
              bindO (partV true 4 0 [(.d (.int .u64 0)), (.d (.int .u64 0)), (.d (.int .u64 0)), (.d (.int .u64 0))]) fun r73 =>
              bindO (binV (some (true, [.int, .int, .int, .int])) .eql (demote (demote r72)) (demote (demote r73))) fun r74 =>
              ifP (demote r74)
                (bindO (partV false 1 4 r0) fun r75 =>
                bindO (lenL (demote (demote r75))) fun r76 =>
                bindO (binV none .gtr (demote r76) (.d (.int .i64 0))) fun r77 =>
                (SV.noRef (demote (demote r77))) = true ∧
                (K (demote (demote r77))))
                ((SV.noRef (.d (.bool false))) = true ∧
                (K (.d (.bool false)))))
              (bindO (partV false 1 4 r0) fun r78 =>
              bindO (lenL (demote (demote r78))) fun r79 =>
              bindO (binV (some (false, [.int])) .eql (demote r79) (.d (.int .i64 0))) fun r80 =>
              ifP (demote r80)
                (bindO (partV false 1 0 r0) fun r81 =>
                bindO (binV (some (false, [.int])) .eql (demote (demote r81)) (.d (.int .i64 9))) fun r82 =>
                ifP (demote r82)
                  ((SV.noRef (.d (.bool true))) = true ∧
                  (K (.d (.bool true))))
                  (bindO (partV true 4 5 r0) fun r83 =>
                  bindO (partV true 4 0 [(.d (.int .u64 0)), (.d (.int .u64 0)), (.d (.int .u64 0)), (.d (.int .u64 0))]) fun r84 =>
                  bindO (binV (some (true, [.int, .int, .int, .int])) .eql (demote (demote r83)) (demote (demote r84))) fun r85 =>
                  (SV.noRef (demote (demote (demote r85)))) = true ∧
                  (K (demote (demote (demote r85))))))
                ((SV.noRef (.d (.bool false))) = true ∧
                (K (.d (.bool false))))))
            (bindO (partV false 1 4 r0) fun r86 =>
            bindO (lenL (demote (demote r86))) fun r87 =>
            bindO (binV (some (false, [.int])) .eql (demote r87) (.d (.int .i64 0))) fun r88 =>
            ifP (demote r88)
              (bindO (partV false 1 0 r0) fun r89 =>
              bindO (binV (some (false, [.int])) .eql (demote (demote r89)) (.d (.int .i64 9))) fun r90 =>
              ifP (demote r90)
                ((SV.noRef (.d (.bool true))) = true ∧
                (K (.d (.bool true))))
                (bindO (partV true 4 5 r0) fun r91 =>
                bindO (partV true 4 0 [(.d (.int .u64 0)), (.d (.int .u64 0)), (.d (.int .u64 0)), (.d (.int .u64 0))]) fun r92 =>
                bindO (binV (some (true, [.int, .int, .int, .int])) .eql (demote (demote r91)) (demote (demote r92))) fun r93 =>
                (SV.noRef (demote (demote (demote r93)))) = true ∧
                (K (demote (demote (demote r93))))))
              ((SV.noRef (.d (.bool false))) = true ∧
              (K (.d (.bool false)))))))
        (bindO (partV false 1 0 r0) fun r94 =>
        bindO (binV (some (false, [.int])) .eql (demote (demote r94)) (.d (.int .i64 9))) fun r95 =>
        ifP (demote r95)
          (ifP (demote (demote x1))
            (bindO (partV true 4 5 r0) fun r96 =>
            bindO (partV true 4 0 [(.d (.int .u64 0)), (.d (.int .u64 0)), (.d (.int .u64 0)), (.d (.int .u64 0))]) fun r97 =>
            bindO (binV (some (true, [.int, .int, .int, .int])) .eql (demote (demote r96)) (demote (demote r97))) fun r98 =>
            ifP (demote r98)
              (bindO (partV false 1 4 r0) fun r99 =>
              bindO (lenL (demote (demote r99))) fun r100 =>
              bindO (binV none .gtr (demote r100) (.d (.int .i64 0))) fun r101 =>
              (SV.noRef (demote (demote r101))) = true ∧
              (K (demote (demote r101))))
              ((SV.noRef (.d (.bool false))) = true ∧
              (K (.d (.bool false)))))
            (bindO (partV false 1 4 r0) fun r102 =>
            bindO (lenL (demote (demote r102))) fun r103 =>
            bindO (binV (some (false, [.int])) .eql (demote r103) (.d (.int .i64 0))) fun r104 =>
            ifP (demote r104)
              (bindO (partV false 1 0 r0) fun r105 =>
              bindO (binV (some (false, [.int])) .eql (demote (demote r105)) (.d (.int .i64 9))) fun r106 =>
              ifP (demote r106)
                ((SV.noRef (.d (.bool true))) = true ∧
                (K (.d (.bool true))))
                (bindO (partV true 4 5 r0) fun r107 =>
                bindO (partV true 4 0 [(.d (.int .u64 0)), (.d (.int .u64 0)), (.d (.int .u64 0)), (.d (.int .u64 0))]) fun r108 =>
                bindO (binV (some (true, [.int, .int, .int, .int])) .eql (demote (demote r107)) (demote (demote r108))) fun r109 =>
                (SV.noRef (demote (demote (demote r109)))) = true ∧
                (K (demote (demote (demote r109))))))
              ((SV.noRef (.d (.bool false))) = true ∧
              (K (.d (.bool false))))))
          (bindO (partV false 1 4 r0) fun r110 =>
          bindO (lenL (demote (demote r110))) fun r111 =>
          bindO (binV (some (false, [.int])) .eql (demote r111) (.d (.int .i64 0))) fun r112 =>
          ifP (demote r112)
            (bindO (partV false 1 0 r0) fun r113 =>
            bindO (binV (some (false, [.int])) .eql (demote (demote r113)) (.d (.int .i64 9))) fun r114 =>
            ifP (demote r114)
              ((SV.noRef (.d (.bool true))) = true ∧
              (K (.d (.bool true))))
              (bindO (partV true 4 5 r0) fun r115 =>
              bindO (partV true 4 0 [(.d (.int .u64 0)), (.d (.int .u64 0)), (.d (.int .u64 0)), (.d (.int .u64 0))]) fun r116 =>
              bindO (binV (some (true, [.int, .int, .int, .int])) .eql (demote (demote r115)) (demote (demote r116))) fun r117 =>
              (SV.noRef (demote (demote (demote r117)))) = true ∧
              (K (demote (demote (demote r117))))))
            ((SV.noRef (.d (.bool false))) = true ∧
            (K (.d (.bool false)))))))))) := by kernel_rfl

theorem body49 (C : Con) (x0 : SV) (K : SV → Prop) : body Go.Proofs.Try.prog gl C h49 49 [x0] K = (
  wfP [x0] (
  bindO (binV (some (false, [.int])) .eql (demote (demote x0)) (.d (.int .i64 2))) fun r0 =>
  ifP (demote r0)
    ((SV.noRef (.d (.int .i64 1))) = true ∧
    (K (.d (.int .i64 1))))
    (bindO (binV (some (false, [.int])) .eql (demote (demote x0)) (.d (.int .i64 3))) fun r1 =>
    ifP (demote r1)
      ((SV.noRef (.d (.int .i64 2))) = true ∧
      (K (.d (.int .i64 2))))
      (bindO (binV (some (false, [.int])) .eql (demote (demote x0)) (.d (.int .i64 4))) fun r2 =>
      ifP (demote r2)
        ((SV.noRef (.d (.int .i64 2))) = true ∧
        (K (.d (.int .i64 2))))
        (bindO (binV (some (false, [.int])) .eql (demote (demote x0)) (.d (.int .i64 8))) fun r3 =>
        ifP (demote r3)
          ((SV.noRef (.d (.int .i64 0))) = true ∧
          (K (.d (.int .i64 0))))
          (bindO (binV (some (false, [.int])) .eql (demote (demote x0)) (.d (.int .i64 9))) fun r4 =>
          ifP (demote r4)
            ((SV.noRef (.d (.int .i64 0))) = true ∧
            (K (.d (.int .i64 0))))
            ((SV.noRef (.d (.int .i64 (-1)))) = true ∧
            (K (.d (.int .i64 (-1))))))))))) := by kernel_rfl

theorem body50 (C : Con) (x0 x1 : SV) (K : SV → Prop) : body Go.Proofs.Try.prog gl C h50 50 [x0, x1] K = (
  wfP [x0, x1] (
  bindO (binV none .geq (demote (demote x0)) (.d (.int .i64 0))) fun r0 =>
  ifP (demote r0)
    (bindO (binV none .lss (demote (demote x0)) (demote (demote x1))) fun r1 =>
    (SV.noRef (demote (demote r1))) = true ∧
    (K (demote (demote r1))))
    ((SV.noRef (.d (.bool false))) = true ∧
    (K (.d (.bool false)))))) := by kernel_rfl

theorem body51 (C : Con) (x0 : SV) (K : SV → Prop) : body Go.Proofs.Try.prog gl C h51 51 [x0] K = (
  wfP [x0] (
  bindO (binV none .rem (demote (demote x0)) (.d (.int .i64 5))) fun r0 =>
  bindO (foldIntV minD (demote r0) [(.d (.int .i64 3))]) fun r1 =>
  (SV.noRef (demote r1)) = true ∧
  (K (demote r1)))) := by kernel_rfl

theorem body52 (C : Con) (x0 x1 : SV) (K : SV → Prop) : body Go.Proofs.Try.prog gl C h52 52 [x0, x1] K = (
  wfP [x0, x1] (
  bindO (lenL (demote (demote x0))) fun r0 =>
  loopP (fun vs1 bs2 I3 =>
    bindO (binV none .lss (demote (vget vs1 3)) (demote (vget vs1 2))) fun r4 =>
    ifP r4
      (bindO (elemPtr 10 (demote (demote (vget vs1 0))) (demote (demote (demote (demote (vget vs1 3)))))) fun r5 =>
      bindO (loadV true 10 (demote r5)) fun r6 =>
      withFn (demote (demote (vget vs1 1))) [(demote (demote r6))] fun f7 l8 =>
      callP C f7 l8 fun r9 =>
      ifP r9
        ((SV.noRef (demote (demote (demote (demote (vget vs1 3)))))) = true ∧
        (K (demote (demote (demote (demote (vget vs1 3)))))))
        (bindO (binV none .add (demote (vget vs1 3)) (.d (.int .i64 1))) fun r10 =>
        (I3 [(vget vs1 0), (vget vs1 1), (vget vs1 2), (demote r10)] [])))
      ((SV.noRef (.d (.int .i64 (-1)))) = true ∧
      (K (.d (.int .i64 (-1))))))
  [x0, x1, r0, (.d (.int .i64 0))] [])) := by kernel_rfl

theorem body59 (C : Con) (x0 : SV) (K : SV → Prop) : body Go.Proofs.Try.prog gl C h59 59 [x0] K = (
  wfP [x0] (
  bindO (binV none .geq (demote (demote x0)) (.d (.int .i64 0))) fun r0 =>
  ifP (demote r0)
    (bindO (binV none .lss (demote (demote x0)) (.d (.int .i64 256))) fun r1 =>
    (SV.noRef (demote (demote r1))) = true ∧
    (K (demote (demote r1))))
    ((SV.noRef (.d (.bool false))) = true ∧
    (K (.d (.bool false)))))) := by kernel_rfl

theorem body60 (C : Con) (x0 x1 : SV) (K : SV → Prop) : body Go.Proofs.Try.prog gl C h60 60 [x0, x1] K = (
  wfP [x0, x1] (
  bindO (cellsV (demote x0)) fun r0 =>
  (List.length r0) = 2 ∧
  bindO (cellsV (demote x1)) fun r1 =>
  (List.length r1) = 2 ∧
  bindO (partV true 2 0 r0) fun r2 =>
  bindO (partV true 2 0 r1) fun r3 =>
  bindO (binV (some (true, [.int, .int])) .eql (demote (demote r2)) (demote (demote r3))) fun r4 =>
  ifP (demote r4)
    ((SV.noRef (.d (.int .i64 0))) = true ∧
    (K (.d (.int .i64 0))))
    (bindO (partV true 2 0 r0) fun r5 =>
    bindO (partV true 2 0 r1) fun r6 =>
    callP C 77 [(demote (demote (demote r5))), (demote (demote (demote r6)))] fun r7 =>
    ifP (demote r7)
      ((SV.noRef (.d (.int .i64 2))) = true ∧
      (K (.d (.int .i64 2))))
      (bindO (partV true 2 0 r1) fun r8 =>
      bindO (partV true 2 0 r0) fun r9 =>
      callP C 77 [(demote (demote (demote r8))), (demote (demote (demote r9)))] fun r10 =>
      ifP (demote r10)
        ((SV.noRef (.d (.int .i64 3))) = true ∧
        (K (.d (.int .i64 3))))
        ((SV.noRef (.d (.int .i64 4))) = true ∧
        (K (.d (.int .i64 4)))))))) := by kernel_rfl

theorem body61 (C : Con) (x0 : SV) (K : SV → Prop) : body Go.Proofs.Try.prog gl C h61 61 [x0] K = (
  wfP [x0] (
  bindO (binV none .rem (demote (demote x0)) (.d (.int .i64 64))) fun r0 =>
  bindO (binV none .shl (.d (.int .u64 1)) (demote r0)) fun r1 =>
  (SV.noRef (demote r1)) = true ∧
  (K (demote r1)))) := by kernel_rfl

theorem body62 (C : Con) (x0 x1 : SV) (K : SV → Prop) : body Go.Proofs.Try.prog gl C h62 62 [x0, x1] K = (
  wfP [x0, x1] (
  bindO (cellsV (demote x0)) fun r0 =>
  (List.length r0) = 21 ∧
  bindO (binV none .quo (demote (demote x1)) (.d (.int .i64 5))) fun r1 =>
  bindO (binV (some (false, [.int])) .eql (demote r1) (.d (.int .i64 0))) fun r2 =>
  ifP (demote r2)
    (bindO (partV true 7 0 r0) fun r3 =>
    bindO (cellsV (demote (demote r3))) fun r4 =>
    (List.length r4) = 7 ∧
    7 ≤ 7 ∧
    bindO (partV true 7 0 (setAt [(.d (.int .i64 0)), (.d (.int .i64 0)), (.d (.int .i64 0)), (.d (.int .i64 0)), (.d (.int .u64 0)), (.d (.int .i64 0)), (.d (.int .u64 0))] 0 r4)) fun r5 =>
    (SV.noRef (demote r5)) = true ∧
    (K (demote r5)))
    (bindO (binV (some (false, [.int])) .eql (demote r1) (.d (.int .i64 1))) fun r6 =>
    ifP (demote r6)
      (bindO (partV true 7 7 r0) fun r7 =>
      bindO (cellsV (demote (demote r7))) fun r8 =>
      (List.length r8) = 7 ∧
      7 ≤ 7 ∧
      bindO (partV true 7 0 (setAt [(.d (.int .i64 0)), (.d (.int .i64 0)), (.d (.int .i64 0)), (.d (.int .i64 0)), (.d (.int .u64 0)), (.d (.int .i64 0)), (.d (.int .u64 0))] 0 r8)) fun r9 =>
      (SV.noRef (demote r9)) = true ∧
      (K (demote r9)))
      (bindO (partV true 7 14 r0) fun r10 =>
      bindO (cellsV (demote (demote r10))) fun r11 =>
      (List.length r11) = 7 ∧
      7 ≤ 7 ∧
      bindO (partV true 7 0 (setAt [(.d (.int .i64 0)), (.d (.int .i64 0)), (.d (.int .i64 0)), (.d (.int .i64 0)), (.d (.int .u64 0)), (.d (.int .i64 0)), (.d (.int .u64 0))] 0 r11)) fun r12 =>
      (SV.noRef (demote r12)) = true ∧
      (K (demote r12)))))) := by kernel_rfl

theorem body63 (C : Con) (x0 x1 : SV) (K : SV → Prop) : body Go.Proofs.Try.prog gl C h63 63 [x0, x1] K = (
  wfP [x0, x1] (
  bindO (cellsV (demote x0)) fun r0 =>
  (List.length r0) = 21 ∧
  bindO (binV none .rem (demote (demote x1)) (.d (.int .i64 5))) fun r1 =>
  bindO (binV (some (false, [.int])) .eql (demote r1) (.d (.int .i64 4))) fun r2 =>
  ifP r2
    (bindO (partV true 21 0 r0) fun r3 =>
    callP C 62 [(demote (demote (demote r3))), (demote (demote (demote x1)))] fun r4 =>
    bindO (fieldV true 4 3 (demote r4)) fun r5 =>
    bindO (fieldV true 2 2 (demote r5)) fun r6 =>
    bindO (cellsV (demote r6)) fun r7 =>
    (List.length r7) = 2 ∧
    2 ≤ 2 ∧
    bindO (partV true 2 0 (setAt [(.d (.int .i64 0)), (.d (.int .u64 0))] 0 r7)) fun r8 =>
    (SV.noRef (demote r8)) = true ∧
    (K (demote r8)))
    (bindO (partV true 21 0 r0) fun r9 =>
    callP C 62 [(demote (demote (demote r9))), (demote (demote (demote x1)))] fun r10 =>
    bindO (fieldV true 4 3 (demote r10)) fun r11 =>
    bindO (fieldV true 2 0 (demote r11)) fun r12 =>
    bindO (cellsV (demote r12)) fun r13 =>
    (List.length r13) = 2 ∧
    2 ≤ 2 ∧
    bindO (partV true 2 0 (setAt [(.d (.int .i64 0)), (.d (.int .u64 0))] 0 r13)) fun r14 =>
    (SV.noRef (demote r14)) = true ∧
    (K (demote r14))))) := by kernel_rfl

theorem body64 (C : Con) (x0 x1 : SV) (K : SV → Prop) : body Go.Proofs.Try.prog gl C h64 64 [x0, x1] K = (
  wfP [x0, x1] (
  bindO (cellsV (demote x0)) fun r0 =>
  (List.length r0) = 2 ∧
  bindO (cellsV (demote x1)) fun r1 =>
  (List.length r1) = 2 ∧
  loopP (fun vs2 bs3 I4 =>
    bindO (binV none .lss (demote (demote (vget vs2 0))) (.d (.int .i64 64))) fun r5 =>
    ifP r5
      (bindO (partV true 2 0 (bget bs3 1)) fun r6 =>
      callP C 78 [(demote (demote (demote r6))), (demote (demote (demote (vget vs2 0))))] fun r7 =>
      ifP (demote r7)
        (bindO (partV true 2 0 (bget bs3 0)) fun r8 =>
        callP C 78 [(demote (demote (demote r8))), (demote (demote (demote (vget vs2 0))))] fun r9 =>
        bindO (unV .not (demote r9)) fun r10 =>
        ifP (demote r10)
          ((SV.noRef (.d (.bool false))) = true ∧
          (K (.d (.bool false))))
          (bindO (binV none .add (demote (demote (vget vs2 0))) (.d (.int .i64 1))) fun r11 =>
          (I4 [(demote r11)] [(Box.vals (Box.cells (bget bs3 0))), (Box.vals (Box.cells (bget bs3 1)))])))
        (bindO (binV none .add (demote (demote (vget vs2 0))) (.d (.int .i64 1))) fun r12 =>
        (I4 [(demote r12)] [(Box.vals (Box.cells (bget bs3 0))), (Box.vals (Box.cells (bget bs3 1)))])))
      (bindO (partV false 1 0 (bget bs3 0)) fun r13 =>
      bindO (partV false 1 0 (bget bs3 1)) fun r14 =>
      bindO (binV none .geq (demote (demote r13)) (demote (demote r14))) fun r15 =>
      (SV.noRef (demote r15)) = true ∧
      (K (demote r15))))
  [(.d (.int .i64 0))] [(Box.vals (Box.cells r0)), (Box.vals (Box.cells r1))])) := by kernel_rfl

theorem body77 (C : Con) (x0 x1 : SV) (K : SV → Prop) : body Go.Proofs.Try.prog gl C h77 77 [x0, x1] K = (
  wfP [x0, x1] (
  bindO (cellsV (demote x0)) fun r0 =>
  (List.length r0) = 2 ∧
  bindO (cellsV (demote x1)) fun r1 =>
  (List.length r1) = 2 ∧
  bindO (partV false 1 0 r0) fun r2 =>
  bindO (partV false 1 0 r1) fun r3 =>
  bindO (binV none .geq (demote (demote r2)) (demote (demote r3))) fun r4 =>
  ifP (demote r4)
    (bindO (partV false 1 1 r0) fun r5 =>
    bindO (partV false 1 1 r1) fun r6 =>
    bindO (binV none .and (demote (demote r5)) (demote (demote r6))) fun r7 =>
    bindO (partV false 1 1 r1) fun r8 =>
    bindO (binV (some (false, [.int])) .eql (demote r7) (demote (demote r8))) fun r9 =>
    (SV.noRef (demote (demote r9))) = true ∧
    (K (demote (demote r9))))
    ((SV.noRef (.d (.bool false))) = true ∧
    (K (.d (.bool false)))))) := by kernel_rfl

theorem body78 (C : Con) (x0 x1 : SV) (K : SV → Prop) : body Go.Proofs.Try.prog gl C h78 78 [x0, x1] K = (
  wfP [x0, x1] (
  bindO (cellsV (demote x0)) fun r0 =>
  (List.length r0) = 2 ∧
  bindO (binV none .geq (demote (demote x1)) (.d (.int .i64 0))) fun r1 =>
  ifP (demote r1)
    (bindO (binV none .lss (demote (demote x1)) (.d (.int .i64 64))) fun r2 =>
    ifP (demote (demote r2))
      (bindO (partV false 1 1 r0) fun r3 =>
      bindO (convI .u64 (demote (demote x1))) fun r4 =>
      bindO (binV none .shr (demote (demote r3)) (demote r4)) fun r5 =>
      bindO (binV none .and (demote r5) (.d (.int .u64 1))) fun r6 =>
      bindO (binV (some (false, [.int])) .eql (demote r6) (.d (.int .u64 1))) fun r7 =>
      (SV.noRef (demote (demote r7))) = true ∧
      (K (demote (demote r7))))
      ((SV.noRef (.d (.bool false))) = true ∧
      (K (.d (.bool false)))))
    ((SV.noRef (.d (.bool false))) = true ∧
    (K (.d (.bool false)))))) := by kernel_rfl

theorem body95 (C : Con) (x0 x1 : SV) (K : SV → Prop) : body Go.Proofs.Try.prog gl C h95 95 [x0, x1] K = (
  wfP [x0, x1] (
  bindO (cellsV (demote x0)) fun r0 =>
  (List.length r0) = 0 ∧
  bindO (cellsV (demote x1)) fun r1 =>
  (List.length r1) = 7 ∧
  bindO (partsS []) fun r2 =>
  bindO (buildD Proofs.Try.prog 30 r2) fun r3 =>
  bindO (cellsV (.d r3)) fun r4 =>
  (List.length r4) = 2 ∧
  2 ≤ 2 ∧
  bindO (partV true 2 0 (setAt [(.d (.int .i64 0)), (.d (.int .u64 0))] 0 r4)) fun r5 =>
  (SV.noRef (demote r5)) = true ∧
  (K (demote r5)))) := by kernel_rfl

theorem body96 (C : Con) (x0 x1 : SV) (K : SV → Prop) : body Go.Proofs.Try.prog gl C h96 96 [x0, x1] K = (
  wfP [x0, x1] (
  bindO (cellsV (demote x0)) fun r0 =>
  (List.length r0) = 0 ∧
  bindO (cellsV (demote x1)) fun r1 =>
  (List.length r1) = 7 ∧
  bindO (partV false 1 0 r1) fun r2 =>
  (SV.noRef (demote (demote r2))) = true ∧
  (K (demote (demote r2))))) := by kernel_rfl

theorem body97 (C : Con) (x0 x1 : SV) (K : SV → Prop) : body Go.Proofs.Try.prog gl C h97 97 [x0, x1] K = (
  wfP [x0, x1] (
  bindO (cellsV (demote x0)) fun r0 =>
  (List.length r0) = 0 ∧
  bindO (cellsV (demote x1)) fun r1 =>
  (List.length r1) = 7 ∧
  bindO (partsS []) fun r2 =>
  bindO (buildD Proofs.Try.prog 30 r2) fun r3 =>
  bindO (cellsV (.d r3)) fun r4 =>
  (List.length r4) = 2 ∧
  2 ≤ 2 ∧
  bindO (partV true 2 0 (setAt [(.d (.int .i64 0)), (.d (.int .u64 0))] 0 r4)) fun r5 =>
  (SV.noRef (demote r5)) = true ∧
  (K (demote r5)))) := by kernel_rfl

theorem body98 (C : Con) (x0 x1 : SV) (K : SV → Prop) : body Go.Proofs.Try.prog gl C h98 98 [x0, x1] K = (
  wfP [x0, x1] (
  bindO (cellsV (demote x0)) fun r0 =>
  (List.length r0) = 0 ∧
  bindO (cellsV (demote x1)) fun r1 =>
  (List.length r1) = 7 ∧
  bindO (partV false 1 1 r1) fun r2 =>
  (SV.noRef (demote (demote r2))) = true ∧
  (K (demote (demote r2))))) := by kernel_rfl

theorem body99 (C : Con) (x0 x1 : SV) (K : SV → Prop) : body Go.Proofs.Try.prog gl C h99 99 [x0, x1] K = (
  wfP [x0, x1] (
  bindO (cellsV (demote x0)) fun r0 =>
  (List.length r0) = 0 ∧
  bindO (cellsV (demote x1)) fun r1 =>
  (List.length r1) = 7 ∧
  bindO (partsS []) fun r2 =>
  bindO (buildD Proofs.Try.prog 30 r2) fun r3 =>
  bindO (cellsV (.d r3)) fun r4 =>
  (List.length r4) = 2 ∧
  2 ≤ 2 ∧
  bindO (partV true 2 0 (setAt [(.d (.int .i64 0)), (.d (.int .u64 0))] 0 r4)) fun r5 =>
  (SV.noRef (demote r5)) = true ∧
  (K (demote r5)))) := by kernel_rfl

theorem body100 (C : Con) (x0 x1 : SV) (K : SV → Prop) : body Go.Proofs.Try.prog gl C h100 100 [x0, x1] K = (
  wfP [x0, x1] (
  bindO (cellsV (demote x0)) fun r0 =>
  (List.length r0) = 0 ∧
  bindO (cellsV (demote x1)) fun r1 =>
  (List.length r1) = 7 ∧
  bindO (partV false 1 2 r1) fun r2 =>
  (SV.noRef (demote (demote r2))) = true ∧
  (K (demote (demote r2))))) := by kernel_rfl

theorem body101 (C : Con) (x0 x1 : SV) (K : SV → Prop) : body Go.Proofs.Try.prog gl C h101 101 [x0, x1] K = (
  wfP [x0, x1] (
  bindO (cellsV (demote x0)) fun r0 =>
  (List.length r0) = 1 ∧
  bindO (cellsV (demote x1)) fun r1 =>
  (List.length r1) = 7 ∧
  bindO (partV false 1 0 r0) fun r2 =>
  ifP (demote r2)
    (bindO (partV true 2 5 r1) fun r3 =>
    bindO (cellsV (demote (demote r3))) fun r4 =>
    (List.length r4) = 2 ∧
    2 ≤ 2 ∧
    bindO (partV true 2 0 (setAt [(.d (.int .i64 0)), (.d (.int .u64 0))] 0 r4)) fun r5 =>
    (SV.noRef (demote r5)) = true ∧
    (K (demote r5)))
    (bindO (partV true 2 3 r1) fun r6 =>
    bindO (cellsV (demote (demote r6))) fun r7 =>
    (List.length r7) = 2 ∧
    2 ≤ 2 ∧
    bindO (partV true 2 0 (setAt [(.d (.int .i64 0)), (.d (.int .u64 0))] 0 r7)) fun r8 =>
    (SV.noRef (demote r8)) = true ∧
    (K (demote r8))))) := by kernel_rfl

theorem body102 (C : Con) (x0 x1 : SV) (K : SV → Prop) : body Go.Proofs.Try.prog gl C h102 102 [x0, x1] K = (
  wfP [x0, x1] (
  bindO (cellsV (demote x0)) fun r0 =>
  (List.length r0) = 1 ∧
  bindO (cellsV (demote x1)) fun r1 =>
  (List.length r1) = 7 ∧
  (SV.noRef (.d (.int .i64 (-1)))) = true ∧
  (K (.d (.int .i64 (-1)))))) := by kernel_rfl

end Go.Proofs.Ytcnnhnjcnekhcaa.Ab
