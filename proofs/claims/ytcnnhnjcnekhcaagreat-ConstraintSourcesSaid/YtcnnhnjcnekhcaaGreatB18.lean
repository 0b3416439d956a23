/-
  Steps towards the claim of this seat (B18).
-/
import Derived.Test.YtcnnhnjcnekhcaaGreatB17
set_option linter.unusedVariables false
set_option linter.unusedSimpArgs false
namespace Go.Proofs.YtcnnhnjcnekhcaaGreat.Ab
open Go
theorem body3 (C : Con) (x0 x1 x2 : SV) (K : SV → Prop) : body Go.Proofs.Tryz.prog gl C h3 3 [x0, x1, x2] K = (
 wfP [x0, x1, x2] (
 bindO (cellsV (demote x0)) fun r0 =>
 (List.length r0) = 10 ∧
 bindO (cellsV (demote x1)) fun r1 =>
 (List.length r1) = 17 ∧
 bindO (partV true 17 0 r1) fun r2 =>
 bindO (partV true 10 0 r0) fun r3 =>
 callP C 9 [(demote (demote (demote r2))), (demote (demote (demote r3)))] fun r4 =>
 bindO (unV .not (demote r4)) fun r5 =>
 ifP r5
 (callP C 10 [] fun r6 =>
 (SV.noRef (demote r6)) = true ∧
 (K (demote r6)))
 (bindO (partV true 10 0 r0) fun r7 =>
 bindO (partV true 17 0 r1) fun r8 =>
 callP C 11 [(demote (demote (demote r7))), (demote (demote (demote r8))), (demote (demote (demote x2)))] fun r9 =>
 bindO (partV true 10 0 r0) fun r10 =>
 bindO (partV true 17 0 r1) fun r11 =>
 callP C 12 [(demote (demote (demote r10))), (demote (demote (demote r11))), (demote (demote (demote x2)))] fun r12 =>
 bindO (binV (some (false, [.int])) .eql (demote r9) (demote r12)) fun r13 =>
 ifP (demote r13)
 (callP C 10 [] fun r14 =>
 (SV.noRef (demote (demote r14))) = true ∧
 (K (demote (demote r14))))
 ((SV.noRef (.d (.bool false))) = true ∧
 (K (.d (.bool false))))))) := by kernel_rfl

theorem body4 (C : Con) (x0 x1 x2 : SV) (K : SV → Prop) : body Go.Proofs.Tryz.prog gl C h4 4 [x0, x1, x2] K = (
 wfP [x0, x1, x2] (
 bindO (cellsV (demote x0)) fun r0 =>
 (List.length r0) = 10 ∧
 bindO (cellsV (demote x1)) fun r1 =>
 (List.length r1) = 17 ∧
 bindO (partV true 17 0 r1) fun r2 =>
 bindO (partV true 10 0 r0) fun r3 =>
 callP C 9 [(demote (demote (demote r2))), (demote (demote (demote r3)))] fun r4 =>
 bindO (unV .not (demote r4)) fun r5 =>
 ifP r5
 (callP C 10 [] fun r6 =>
 (SV.noRef (demote r6)) = true ∧
 (K (demote r6)))
 (bindO (partV true 10 0 r0) fun r7 =>
 bindO (partV true 17 0 r1) fun r8 =>
 ∃ r9,
 ∃ r10,
 (C 13 [(demote (demote (demote r7))), (demote (demote (demote r8))), (demote (demote (demote x2)))] (.tup [r9, r10])) ∧
 bindO (cellsV (demote (demote (demote r9)))) fun r11 =>
 (List.length r11) = 10 ∧
 10 ≤ 10 ∧
 bindO (partV true 10 0 r0) fun r12 =>
 bindO (partV true 17 0 r1) fun r13 =>
 ∃ r14,
 ∃ r15,
 (C 14 [(demote (demote (demote r12))), (demote (demote (demote r13))), (demote (demote (demote x2)))] (.tup [r14, r15])) ∧
 bindO (cellsV (demote (demote (demote r14)))) fun r16 =>
 (List.length r16) = 10 ∧
 10 ≤ 10 ∧
 bindO (binV (some (false, [.int])) .eql (demote (demote (demote (demote (demote r10))))) (demote (demote (demote (demote (demote r15)))))) fun r17 =>
 ifP (demote r17)
 (bindO (partV true 10 0 (setAt [(.d (.int .i64 0)), (.d (.int .i64 0)), (.d (.int .i64 0)), (.d (.int .i64 0)), (.d (.sl .nil 0 [])), (.d (.int .u64 0)), (.d (.int .u64 0)), (.d (.int .u64 0)), (.d (.int .u64 0)), (.d (.sl .nil 0 []))] 0 r11)) fun r18 =>
 bindO (partV true 10 0 (setAt [(.d (.int .i64 0)), (.d (.int .i64 0)), (.d (.int .i64 0)), (.d (.int .i64 0)), (.d (.sl .nil 0 [])), (.d (.int .u64 0)), (.d (.int .u64 0)), (.d (.int .u64 0)), (.d (.int .u64 0)), (.d (.sl .nil 0 []))] 0 r16)) fun r19 =>
 callP C 15 [(demote (demote (demote r18))), (demote (demote (demote r19)))] fun r20 =>
 ifP (demote (demote r20))
 (bindO (binV (some (false, [.int])) .neq (demote (demote (demote (demote (demote r10))))) (.d (.int .i64 0))) fun r21 =>
 ifP (demote r21)
 (callP C 10 [] fun r22 =>
 (SV.noRef (demote (demote r22))) = true ∧
 (K (demote (demote r22))))
 (bindO (partV true 10 0 (setAt [(.d (.int .i64 0)), (.d (.int .i64 0)), (.d (.int .i64 0)), (.d (.int .i64 0)), (.d (.sl .nil 0 [])), (.d (.int .u64 0)), (.d (.int .u64 0)), (.d (.int .u64 0)), (.d (.int .u64 0)), (.d (.sl .nil 0 []))] 0 r11)) fun r23 =>
 bindO (partV true 17 0 r1) fun r24 =>
 callP C 11 [(demote (demote (demote r23))), (demote (demote (demote r24))), (demote (demote (demote x2)))] fun r25 =>
 bindO (binV (some (false, [.int])) .eql (demote r25) (.d (.int .i64 0))) fun r26 =>
 ifP (demote (demote (demote r26)))
 (callP C 10 [] fun r27 =>
 (SV.noRef (demote (demote r27))) = true ∧
 (K (demote (demote r27))))
 ((SV.noRef (.d (.bool false))) = true ∧
 (K (.d (.bool false))))))
 ((SV.noRef (.d (.bool false))) = true ∧
 (K (.d (.bool false)))))
 ((SV.noRef (.d (.bool false))) = true ∧
 (K (.d (.bool false))))))) := by kernel_rfl

theorem body5 (C : Con) (x0 x1 x2 : SV) (K : SV → Prop) : body Go.Proofs.Tryz.prog gl C h5 5 [x0, x1, x2] K = (
 wfP [x0, x1, x2] (
 bindO (cellsV (demote x0)) fun r0 =>
 (List.length r0) = 39 ∧
 bindO (cellsV (demote x2)) fun r1 =>
 (List.length r1) = 10 ∧
 bindO (partV true 17 0 r0) fun r2 =>
 bindO (partV true 10 0 r1) fun r3 =>
 callP C 9 [(demote (demote (demote r2))), (demote (demote (demote r3)))] fun r4 =>
 bindO (unV .not (demote r4)) fun r5 =>
 ifP (demote r5)
 (callP C 10 [] fun r6 =>
 (SV.noRef (demote r6)) = true ∧
 (K (demote r6)))
 (bindO (partV false 1 17 r0) fun r7 =>
 bindO (binV none .lss (demote (demote r7)) (.d (.int .i64 0))) fun r8 =>
 ifP (demote (demote r8))
 (callP C 10 [] fun r9 =>
 (SV.noRef (demote r9)) = true ∧
 (K (demote r9)))
 (bindO (partV false 1 17 r0) fun r10 =>
 bindO (partV false 1 0 r0) fun r11 =>
 bindO (lenL (demote (demote r11))) fun r12 =>
 bindO (binV none .geq (demote (demote r10)) (demote r12)) fun r13 =>
 ifP (demote (demote r13))
 (callP C 10 [] fun r14 =>
 (SV.noRef (demote r14)) = true ∧
 (K (demote r14)))
 (bindO (binV (some (false, [.int])) .eql (demote (demote x1)) (.d (.int .u32 0))) fun r15 =>
 ifP (demote (demote r15))
 (callP C 10 [] fun r16 =>
 (SV.noRef (demote r16)) = true ∧
 (K (demote r16)))
 (bindO (partV false 1 0 r0) fun r17 =>
 bindO (partV false 1 17 r0) fun r18 =>
 bindO (elemPtr 2 (demote (demote r17)) (demote (demote r18))) fun r19 =>
 bindO (addOffV (demote r19) 1) fun r20 =>
 bindO (loadV false 1 (demote r20)) fun r21 =>
 bindO (lenL (demote r21)) fun r22 =>
 bindO (binV none .shr (demote (demote x1)) (demote r22)) fun r23 =>
 bindO (binV (some (false, [.int])) .neq (demote r23) (.d (.int .u32 0))) fun r24 =>
 ifP (demote (demote r24))
 (callP C 10 [] fun r25 =>
 (SV.noRef (demote r25)) = true ∧
 (K (demote r25)))
 (bindO (partV true 10 0 r1) fun r26 =>
 bindO (partV true 17 0 r0) fun r27 =>
 callP C 12 [(demote (demote (demote r26))), (demote (demote (demote r27))), (.d (.bool false))] fun r28 =>
 bindO (binV (some (false, [.int])) .neq (demote r28) (.d (.int .i64 0))) fun r29 =>
 ifP (demote r29)
 (callP C 10 [] fun r30 =>
 (SV.noRef (demote r30)) = true ∧
 (K (demote r30)))
 (bindO (partV true 17 0 r0) fun r31 =>
 bindO (cellsV (demote (demote r31))) fun r32 =>
 (List.length r32) = 17 ∧
 17 ≤ 17 ∧
 bindO (cellsV (.d (.sl .nil 0 []))) fun r33 =>
 (List.length r33) = 1 ∧
 14 ≤ (List.length (setAt [(.d (.sl .nil 0 [])), (.d (.sl .nil 0 [])), (.d (.sl .nil 0 [])), (.d (.sl .nil 0 [])), (.d (.sl .nil 0 [])), (.d (.sl .nil 0 [])), (.d (.sl .nil 0 [])), (.d (.sl .nil 0 [])), (.d (.sl .nil 0 [])), (.d (.sl .nil 0 [])), (.d (.sl .nil 0 [])), (.d (.sl .nil 0 [])), (.d (.sl .nil 0 [])), (.d (.sl .nil 0 [])), (.d (.sl .nil 0 [])), (.d (.sl .nil 0 [])), (.d (.sl .nil 0 []))] 0 r32)) ∧
 bindO ((setAt
 (setAt
 (List.map SV.d
 [D.sl SK.nil 0 [], D.sl SK.nil 0 [],
 D.sl SK.nil 0 [], D.sl SK.nil 0 [],
 D.sl SK.nil 0 [], D.sl SK.nil 0 [],
 D.sl SK.nil 0 [], D.sl SK.nil 0 [],
 D.sl SK.nil 0 [], D.sl SK.nil 0 [],
 D.sl SK.nil 0 [], D.sl SK.nil 0 [],
 D.sl SK.nil 0 [], D.sl SK.nil 0 [],
 D.sl SK.nil 0 [], D.sl SK.nil 0 [],
 D.sl SK.nil 0 []])
 0 r32)
 13
 r33)[13]?) fun r34 =>
 bindO (partV false 1 13 r0) fun r35 =>
 appP 13 128 r34 (demote (demote r35)) fun r36 =>
 bindO (cellsV r36) fun r37 =>
 (List.length r37) = 1 ∧
 13 < (List.length (List.set (setAt (setAt [(.d (.sl .nil 0 [])), (.d (.sl .nil 0 [])), (.d (.sl .nil 0 [])), (.d (.sl .nil 0 [])), (.d (.sl .nil 0 [])), (.d (.sl .nil 0 [])), (.d (.sl .nil 0 [])), (.d (.sl .nil 0 [])), (.d (.sl .nil 0 [])), (.d (.sl .nil 0 [])), (.d (.sl .nil 0 [])), (.d (.sl .nil 0 [])), (.d (.sl .nil 0 [])), (.d (.sl .nil 0 [])), (.d (.sl .nil 0 [])), (.d (.sl .nil 0 [])), (.d (.sl .nil 0 []))] 0 r32) 13 r33) 13 (demote r34))) ∧
 bindO ((setAt
 ((setAt
 (setAt
 (List.map SV.d
 [D.sl SK.nil 0 [], D.sl SK.nil 0 [],
 D.sl SK.nil 0 [], D.sl SK.nil 0 [],
 D.sl SK.nil 0 [], D.sl SK.nil 0 [],
 D.sl SK.nil 0 [], D.sl SK.nil 0 [],
 D.sl SK.nil 0 [], D.sl SK.nil 0 [],
 D.sl SK.nil 0 [], D.sl SK.nil 0 [],
 D.sl SK.nil 0 [], D.sl SK.nil 0 [],
 D.sl SK.nil 0 [], D.sl SK.nil 0 [],
 D.sl SK.nil 0 []])
 0 r32)
 13
 r33).set
 13
 (demote r34))
 13
 r37)[13]?) fun r38 =>
 bindO (partV false 1 17 r0) fun r39 =>
 bindO (partV true 10 0 r1) fun r40 =>
 bindO (partsS [(0, (.v (demote (demote r39)))), (1, (.v (demote (demote x1)))), (3, (.v (demote (demote r40))))]) fun r41 =>
 bindO (buildD Proofs.Tryz.prog 67 r41) fun r42 =>
 bindO (partsS [(0, (.v (.d r42)))]) fun r43 =>
 (partsFit 13 1 r43) = true ∧
 appP 13 128 r38 (.full 13 (buildElems (mkElem true [(.int .i64 0), (.int .u32 0), (.bool false), (.int .i64 0), (.int .i64 0), (.int .i64 0), (.int .i64 0), (.sl .nil 0 []), (.int .u64 0), (.int .u64 0), (.int .u64 0), (.int .u64 0), (.sl .nil 0 [])]) r43 1 0)) fun r44 =>
 bindO (cellsV r44) fun r45 =>
 (List.length r45) = 1 ∧
 13 < (List.length (List.set (setAt (List.set (setAt (setAt [(.d (.sl .nil 0 [])), (.d (.sl .nil 0 [])), (.d (.sl .nil 0 [])), (.d (.sl .nil 0 [])), (.d (.sl .nil 0 [])), (.d (.sl .nil 0 [])), (.d (.sl .nil 0 [])), (.d (.sl .nil 0 [])), (.d (.sl .nil 0 [])), (.d (.sl .nil 0 [])), (.d (.sl .nil 0 [])), (.d (.sl .nil 0 [])), (.d (.sl .nil 0 [])), (.d (.sl .nil 0 [])), (.d (.sl .nil 0 [])), (.d (.sl .nil 0 [])), (.d (.sl .nil 0 []))] 0 r32) 13 r33) 13 (demote r34)) 13 r37) 13 (demote r38))) ∧
 bindO (partV true 17 0 r0) fun r46 =>
 bindO (partV false 1 17 r0) fun r47 =>
 bindO (partV true 7 18 r0) fun r48 =>
 bindO (partV true 7 25 r0) fun r49 =>
 ∃ r50,
 ∃ r51,
 (C 16 [(demote (demote (demote r46))), (demote (demote (demote r47))), (demote (demote (demote r48))), (demote (demote (demote r49)))] (.tup [r50, r51])) ∧
 bindO (partV true 17 0 (setAt (List.set (setAt (List.set (setAt (setAt [(.d (.sl .nil 0 [])), (.d (.sl .nil 0 [])), (.d (.sl .nil 0 [])), (.d (.sl .nil 0 [])), (.d (.sl .nil 0 [])), (.d (.sl .nil 0 [])), (.d (.sl .nil 0 [])), (.d (.sl .nil 0 [])), (.d (.sl .nil 0 [])), (.d (.sl .nil 0 [])), (.d (.sl .nil 0 [])), (.d (.sl .nil 0 [])), (.d (.sl .nil 0 [])), (.d (.sl .nil 0 [])), (.d (.sl .nil 0 [])), (.d (.sl .nil 0 [])), (.d (.sl .nil 0 []))] 0 r32) 13 r33) 13 (demote r34)) 13 r37) 13 (demote r38)) 13 r45)) fun r52 =>
 bindO (partV false 1 17 r0) fun r53 =>
 bindO (partV true 7 18 r0) fun r54 =>
 bindO (partV true 7 25 r0) fun r55 =>
 ∃ r56,
 ∃ r57,
 (C 16 [(demote (demote (demote r52))), (demote (demote (demote r53))), (demote (demote (demote r54))), (demote (demote (demote r55)))] (.tup [r56, r57])) ∧
 bindO (partV true 10 0 r1) fun r58 =>
 bindO (partV true 7 18 r0) fun r59 =>
 bindO (partV true 7 25 r0) fun r60 =>
 bindO (partsS [(0, (.v (demote (demote r59)))), (1, (.v (demote (demote r60))))]) fun r61 =>
 bindO (buildD Proofs.Tryz.prog 60 r61) fun r62 =>
 callP C 17 [(demote (demote (demote r58))), (.d r62)] fun r63 =>
 ifP r63
 (bindO (binV (some (false, [.int])) .eql (demote (demote (demote (demote (demote r50))))) (demote (demote (demote (demote (demote r56)))))) fun r64 =>
 ifP (demote r64)
 (bindO (binV (some (false, [.int])) .eql (demote (demote (demote (demote (demote r51))))) (demote (demote (demote (demote (demote r57)))))) fun r65 =>
 ifP (demote (demote r65))
 (callP C 10 [] fun r66 =>
 (SV.noRef (demote (demote r66))) = true ∧
 (K (demote (demote r66))))
 ((SV.noRef (.d (.bool false))) = true ∧
 (K (.d (.bool false)))))
 ((SV.noRef (.d (.bool false))) = true ∧
 (K (.d (.bool false)))))
 (bindO (binV none .or (demote (demote (demote (demote (demote r50))))) (demote (demote x1))) fun r67 =>
 bindO (binV (some (false, [.int])) .eql (demote (demote (demote (demote (demote r56))))) (demote r67)) fun r68 =>
 ifP (demote r68)
 (bindO (binV none .lss (demote (demote (demote (demote (demote r51))))) (.d (.int .i64 0))) fun r69 =>
 ifP (demote r69)
 (bindO (partV false 1 13 (setAt (List.set (setAt (List.set (setAt (setAt [(.d (.sl .nil 0 [])), (.d (.sl .nil 0 [])), (.d (.sl .nil 0 [])), (.d (.sl .nil 0 [])), (.d (.sl .nil 0 [])), (.d (.sl .nil 0 [])), (.d (.sl .nil 0 [])), (.d (.sl .nil 0 [])), (.d (.sl .nil 0 [])), (.d (.sl .nil 0 [])), (.d (.sl .nil 0 [])), (.d (.sl .nil 0 [])), (.d (.sl .nil 0 [])), (.d (.sl .nil 0 [])), (.d (.sl .nil 0 [])), (.d (.sl .nil 0 [])), (.d (.sl .nil 0 []))] 0 r32) 13 r33) 13 (demote r34)) 13 r37) 13 (demote r38)) 13 r45)) fun r70 =>
 bindO (lenL (demote (demote r70))) fun r71 =>
 bindO (binV none .sub (demote r71) (.d (.int .i64 1))) fun r72 =>
 bindO (binV (some (false, [.int])) .eql (demote (demote (demote (demote (demote r57))))) (demote r72)) fun r73 =>
 ifP (demote (demote r73))
 (callP C 10 [] fun r74 =>
 (SV.noRef (demote (demote r74))) = true ∧
 (K (demote (demote r74))))
 (bindO (binV none .geq (demote (demote (demote (demote (demote r51))))) (.d (.int .i64 0))) fun r75 =>
 ifP (demote r75)
 (bindO (binV (some (false, [.int])) .eql (demote (demote (demote (demote (demote r57))))) (demote (demote (demote (demote (demote r51)))))) fun r76 =>
 ifP (demote (demote (demote (demote r76))))
 (callP C 10 [] fun r77 =>
 (SV.noRef (demote (demote r77))) = true ∧
 (K (demote (demote r77))))
 ((SV.noRef (.d (.bool false))) = true ∧
 (K (.d (.bool false)))))
 ((SV.noRef (.d (.bool false))) = true ∧
 (K (.d (.bool false))))))
 (bindO (binV none .geq (demote (demote (demote (demote (demote r51))))) (.d (.int .i64 0))) fun r78 =>
 ifP (demote r78)
 (bindO (binV (some (false, [.int])) .eql (demote (demote (demote (demote (demote r57))))) (demote (demote (demote (demote (demote r51)))))) fun r79 =>
 ifP (demote (demote (demote (demote r79))))
 (callP C 10 [] fun r80 =>
 (SV.noRef (demote (demote r80))) = true ∧
 (K (demote (demote r80))))
 ((SV.noRef (.d (.bool false))) = true ∧
 (K (.d (.bool false)))))
 ((SV.noRef (.d (.bool false))) = true ∧
 (K (.d (.bool false))))))
 ((SV.noRef (.d (.bool false))) = true ∧
 (K (.d (.bool false))))))))))))) := by kernel_rfl

theorem body9 (C : Con) (x0 x1 : SV) (K : SV → Prop) : body Go.Proofs.Tryz.prog gl C h9 9 [x0, x1] K = (
 wfP [x0, x1] (
 bindO (cellsV (demote x0)) fun r0 =>
 (List.length r0) = 17 ∧
 bindO (cellsV (demote x1)) fun r1 =>
 (List.length r1) = 10 ∧
 bindO (partV true 10 0 r1) fun r2 =>
 callP C 23 [(demote (demote (demote r2))), (.d (.int .i64 15))] fun r3 =>
 ifP (demote r3)
 (bindO (partV true 17 0 r0) fun r4 =>
 callP C 24 [(demote (demote (demote r4)))] fun r5 =>
 ifP (demote (demote r5))
 (bindO (partV true 17 0 r0) fun r6 =>
 callP C 25 [(demote (demote (demote r6)))] fun r7 =>
 bindO (binV (some (false, [.int])) .eql (demote r7) (.d (.int .i64 0))) fun r8 =>
 (SV.noRef (demote (demote r8))) = true ∧
 (K (demote (demote r8))))
 ((SV.noRef (.d (.bool false))) = true ∧
 (K (.d (.bool false)))))
 ((SV.noRef (.d (.bool false))) = true ∧
 (K (.d (.bool false)))))) := by kernel_rfl

theorem body6 (C : Con) (x0 : SV) (K : SV → Prop) : body Go.Proofs.Tryz.prog gl C h6 6 [x0] K = (
 wfP [x0] (
 bindO (cellsV (demote x0)) fun r0 =>
 (List.length r0) = 39 ∧
 bindO (partV true 17 0 r0) fun r1 =>
 bindO (partsS []) fun r2 =>
 bindO (buildD Proofs.Tryz.prog 28 r2) fun r3 =>
 callP C 9 [(demote (demote (demote r1))), (.d r3)] fun r4 =>
 bindO (unV .not (demote r4)) fun r5 =>
 ifP r5
 (callP C 10 [] fun r6 =>
 (SV.noRef (demote r6)) = true ∧
 (K (demote r6)))
 (bindO (partV true 17 0 r0) fun r7 =>
 bindO (partV false 1 17 r0) fun r8 =>
 bindO (partV true 7 18 r0) fun r9 =>
 bindO (partV true 7 25 r0) fun r10 =>
 ∃ r11,
 ∃ r12,
 (C 16 [(demote (demote (demote r7))), (demote (demote (demote r8))), (demote (demote (demote r9))), (demote (demote (demote r10)))] (.tup [r11, r12])) ∧
 bindO (partV true 17 0 r0) fun r13 =>
 bindO (partV false 1 17 r0) fun r14 =>
 bindO (partV true 7 18 r0) fun r15 =>
 bindO (partV true 7 25 r0) fun r16 =>
 ∃ r17,
 ∃ r18,
 (C 18 [(demote (demote (demote r13))), (demote (demote (demote r14))), (demote (demote (demote r15))), (demote (demote (demote r16)))] (.tup [r17, r18])) ∧
 bindO (partV true 17 0 r0) fun r19 =>
 bindO (partV false 1 17 r0) fun r20 =>
 bindO (partV true 7 18 r0) fun r21 =>
 bindO (partV true 7 25 r0) fun r22 =>
 bindO (partV true 7 32 r0) fun r23 =>
 ∃ r24,
 ∃ r25,
 (C 19 [(demote (demote (demote r19))), (demote (demote (demote r20))), (demote (demote (demote r21))), (demote (demote (demote r22))), (demote (demote (demote r23)))] (.tup [r24, r25])) ∧
 bindO (partV true 17 0 r0) fun r26 =>
 bindO (partV false 1 17 r0) fun r27 =>
 bindO (partV true 7 18 r0) fun r28 =>
 bindO (partV true 7 25 r0) fun r29 =>
 bindO (partV true 7 32 r0) fun r30 =>
 ∃ r31,
 ∃ r32,
 (C 20 [(demote (demote (demote r26))), (demote (demote (demote r27))), (demote (demote (demote r28))), (demote (demote (demote r29))), (demote (demote (demote r30)))] (.tup [r31, r32])) ∧
 bindO (binV (some (false, [.int])) .eql (demote (demote (demote (demote (demote r11))))) (demote (demote (demote (demote (demote r17)))))) fun r33 =>
 ifP (demote r33)
 (bindO (binV (some (false, [.int])) .eql (demote (demote (demote (demote (demote r12))))) (demote (demote (demote (demote (demote r18)))))) fun r34 =>
 ifP (demote (demote r34))
 (bindO (binV (some (false, [.bool])) .eql (demote (demote (demote (demote (demote r24))))) (demote (demote (demote (demote (demote r31)))))) fun r35 =>
 ifP (demote (demote r35))
 (bindO (binV (some (false, [.int])) .eql (demote (demote (demote (demote (demote r25))))) (demote (demote (demote (demote (demote r32)))))) fun r36 =>
 ifP (demote (demote r36))
 (bindO (binV (some (false, [.int])) .eql (demote (demote (demote (demote (demote r11))))) (.d (.int .u32 0))) fun r37 =>
 bindO (binV none .lss (demote (demote (demote (demote (demote r12))))) (.d (.int .i64 0))) fun r38 =>
 bindO (binV (some (false, [.bool])) .eql (demote r37) (demote r38)) fun r39 =>
 ifP (demote (demote r39))
 (bindO (binV none .lss (demote (demote (demote (demote (demote r25))))) (.d (.int .i64 0))) fun r40 =>
 bindO (binV (some (false, [.bool])) .eql (demote (demote (demote (demote (demote r24))))) (demote r40)) fun r41 =>
 ifP (demote (demote r41))
 (callP C 10 [] fun r42 =>
 (SV.noRef (demote (demote r42))) = true ∧
 (K (demote (demote r42))))
 ((SV.noRef (.d (.bool false))) = true ∧
 (K (.d (.bool false)))))
 ((SV.noRef (.d (.bool false))) = true ∧
 (K (.d (.bool false)))))
 ((SV.noRef (.d (.bool false))) = true ∧
 (K (.d (.bool false)))))
 ((SV.noRef (.d (.bool false))) = true ∧
 (K (.d (.bool false)))))
 ((SV.noRef (.d (.bool false))) = true ∧
 (K (.d (.bool false)))))
 ((SV.noRef (.d (.bool false))) = true ∧
 (K (.d (.bool false))))))) := by kernel_rfl

theorem body7 (C : Con) (x0 x1 : SV) (K : SV → Prop) : body Go.Proofs.Tryz.prog gl C h7 7 [x0, x1] K = (
 wfP [x0, x1] (
 bindO (cellsV (demote x0)) fun r0 =>
 (List.length r0) = 10 ∧
 bindO (cellsV (demote x1)) fun r1 =>
 (List.length r1) = 17 ∧
 bindO (partV true 17 0 r1) fun r2 =>
 bindO (partV true 10 0 r0) fun r3 =>
 callP C 9 [(demote (demote (demote r2))), (demote (demote (demote r3)))] fun r4 =>
 bindO (unV .not (demote r4)) fun r5 =>
 ifP r5
 (callP C 10 [] fun r6 =>
 (SV.noRef (demote r6)) = true ∧
 (K (demote r6)))
 (bindO (partV true 10 0 r0) fun r7 =>
 bindO (partV true 17 0 r1) fun r8 =>
 callP C 21 [(demote (demote (demote r7))), (demote (demote (demote r8)))] fun r9 =>
 bindO (partV true 10 0 r0) fun r10 =>
 bindO (partV true 17 0 r1) fun r11 =>
 callP C 22 [(demote (demote (demote r10))), (demote (demote (demote r11)))] fun r12 =>
 callP C 15 [(demote (demote r9)), (demote (demote r12))] fun r13 =>
 ifP (demote r13)
 (callP C 10 [] fun r14 =>
 (SV.noRef (demote (demote r14))) = true ∧
 (K (demote (demote r14))))
 ((SV.noRef (.d (.bool false))) = true ∧
 (K (.d (.bool false))))))) := by kernel_rfl

theorem body8 (C : Con) (x0 x1 x2 : SV) (K : SV → Prop) : body Go.Proofs.Tryz.prog gl C h8 8 [x0, x1, x2] K = (
 wfP [x0, x1, x2] (
 bindO (cellsV (demote x0)) fun r0 =>
 (List.length r0) = 10 ∧
 bindO (cellsV (demote x1)) fun r1 =>
 (List.length r1) = 17 ∧
 bindO (partV true 17 0 r1) fun r2 =>
 bindO (partV true 10 0 r0) fun r3 =>
 callP C 9 [(demote (demote (demote r2))), (demote (demote (demote r3)))] fun r4 =>
 bindO (unV .not (demote r4)) fun r5 =>
 ifP (demote r5)
 (callP C 10 [] fun r6 =>
 (SV.noRef (demote r6)) = true ∧
 (K (demote r6)))
 (bindO (partV true 10 0 r0) fun r7 =>
 bindO (partV true 17 0 r1) fun r8 =>
 callP C 11 [(demote (demote (demote r7))), (demote (demote (demote r8))), (demote (demote (demote x2)))] fun r9 =>
 bindO (binV (some (false, [.int])) .neq (demote r9) (.d (.int .i64 0))) fun r10 =>
 ifP (demote r10)
 (callP C 10 [] fun r11 =>
 (SV.noRef (demote r11)) = true ∧
 (K (demote r11)))
 (bindO (partV true 10 0 r0) fun r12 =>
 bindO (partV true 17 0 r1) fun r13 =>
 callP C 21 [(demote (demote (demote r12))), (demote (demote (demote r13)))] fun r14 =>
 bindO (partV true 17 0 r1) fun r15 =>
 ∃ r16,
 ∃ r17,
 (C 13 [(demote (demote r14)), (demote (demote (demote r15))), (demote (demote (demote x2)))] (.tup [r16, r17])) ∧
 bindO (cellsV (demote (demote (demote r16)))) fun r18 =>
 (List.length r18) = 10 ∧
 10 ≤ 10 ∧
 bindO (binV (some (false, [.int])) .eql (demote (demote (demote (demote (demote r17))))) (.d (.int .i64 0))) fun r19 =>
 ifP (demote r19)
 (bindO (partV true 10 0 (setAt [(.d (.int .i64 0)), (.d (.int .i64 0)), (.d (.int .i64 0)), (.d (.int .i64 0)), (.d (.sl .nil 0 [])), (.d (.int .u64 0)), (.d (.int .u64 0)), (.d (.int .u64 0)), (.d (.int .u64 0)), (.d (.sl .nil 0 []))] 0 r18)) fun r20 =>
 bindO (partV true 10 0 r0) fun r21 =>
 callP C 15 [(demote (demote (demote r20))), (demote (demote (demote r21)))] fun r22 =>
 ifP (demote (demote r22))
 (callP C 10 [] fun r23 =>
 (SV.noRef (demote (demote r23))) = true ∧
 (K (demote (demote r23))))
 ((SV.noRef (.d (.bool false))) = true ∧
 (K (.d (.bool false)))))
 ((SV.noRef (.d (.bool false))) = true ∧
 (K (.d (.bool false)))))))) := by kernel_rfl

theorem body24 (C : Con) (x0 : SV) (K : SV → Prop) : body Go.Proofs.Tryz.prog gl C h24 24 [x0] K = (
 wfP [x0] (
 bindO (cellsV (demote x0)) fun r0 =>
 (List.length r0) = 17 ∧
 bindO (partV false 1 1 r0) fun r1 =>
 bindO (lenL (demote (demote r1))) fun r2 =>
 bindO (binV none .gtr (demote r2) (.d (.int .i64 12))) fun r3 =>
 ifP (demote r3)
 ((SV.noRef (.d (.bool false))) = true ∧
 (K (.d (.bool false))))
 (bindO (partV false 1 2 r0) fun r4 =>
 bindO (lenL (demote (demote r4))) fun r5 =>
 bindO (binV none .gtr (demote r5) (.d (.int .i64 6))) fun r6 =>
 ifP (demote (demote r6))
 ((SV.noRef (.d (.bool false))) = true ∧
 (K (.d (.bool false))))
 (bindO (partV false 1 0 r0) fun r7 =>
 bindO (lenL (demote (demote r7))) fun r8 =>
 bindO (binV none .gtr (demote r8) (.d (.int .i64 6))) fun r9 =>
 ifP (demote (demote r9))
 ((SV.noRef (.d (.bool false))) = true ∧
 (K (.d (.bool false))))
 (bindO (partV false 1 9 r0) fun r10 =>
 bindO (lenL (demote (demote r10))) fun r11 =>
 bindO (binV none .gtr (demote r11) (.d (.int .i64 40))) fun r12 =>
 ifP (demote (demote r12))
 ((SV.noRef (.d (.bool false))) = true ∧
 (K (.d (.bool false))))
 (bindO (partV false 1 8 r0) fun r13 =>
 bindO (lenL (demote (demote r13))) fun r14 =>
 bindO (binV none .gtr (demote r14) (.d (.int .i64 6))) fun r15 =>
 ifP (demote (demote r15))
 ((SV.noRef (.d (.bool false))) = true ∧
 (K (.d (.bool false))))
 (bindO (partV false 1 5 r0) fun r16 =>
 bindO (lenL (demote (demote r16))) fun r17 =>
 bindO (binV none .gtr (demote r17) (.d (.int .i64 6))) fun r18 =>
 ifP (demote (demote r18))
 ((SV.noRef (.d (.bool false))) = true ∧
 (K (.d (.bool false))))
 (bindO (partV false 1 13 r0) fun r19 =>
 bindO (lenL (demote (demote r19))) fun r20 =>
 bindO (binV none .gtr (demote r20) (.d (.int .i64 12))) fun r21 =>
 ifP (demote (demote r21))
 ((SV.noRef (.d (.bool false))) = true ∧
 (K (.d (.bool false))))
 (bindO (partV false 1 4 r0) fun r22 =>
 bindO (lenL (demote (demote r22))) fun r23 =>
 bindO (binV none .gtr (demote r23) (.d (.int .i64 8))) fun r24 =>
 ifP (demote (demote r24))
 ((SV.noRef (.d (.bool false))) = true ∧
 (K (.d (.bool false))))
 (bindO (partV false 1 3 r0) fun r25 =>
 bindO (lenL (demote (demote r25))) fun r26 =>
 bindO (binV none .gtr (demote r26) (.d (.int .i64 8))) fun r27 =>
 ifP (demote r27)
 ((SV.noRef (.d (.bool false))) = true ∧
 (K (.d (.bool false))))
 (bindO (partV false 1 10 r0) fun r28 =>
 bindO (lenL (demote (demote r28))) fun r29 =>
 bindO (binV none .gtr (demote r29) (.d (.int .i64 36))) fun r30 =>
 ifP (demote r30)
 ((SV.noRef (.d (.bool false))) = true ∧
 (K (.d (.bool false))))
 (bindO (partV false 1 11 r0) fun r31 =>
 bindO (lenL (demote (demote r31))) fun r32 =>
 bindO (binV none .gtr (demote r32) (.d (.int .i64 12))) fun r33 =>
 ifP (demote (demote r33))
 ((SV.noRef (.d (.bool false))) = true ∧
 (K (.d (.bool false))))
 (bindO (partV false 1 12 r0) fun r34 =>
 bindO (lenL (demote (demote r34))) fun r35 =>
 bindO (binV none .gtr (demote r35) (.d (.int .i64 12))) fun r36 =>
 ifP (demote (demote r36))
 ((SV.noRef (.d (.bool false))) = true ∧
 (K (.d (.bool false))))
 (bindO (partV false 1 6 r0) fun r37 =>
 bindO (lenL (demote (demote r37))) fun r38 =>
 bindO (binV none .gtr (demote r38) (.d (.int .i64 6))) fun r39 =>
 ifP (demote (demote r39))
 ((SV.noRef (.d (.bool false))) = true ∧
 (K (.d (.bool false))))
 (bindO (partV false 1 7 r0) fun r40 =>
 bindO (lenL (demote (demote r40))) fun r41 =>
 bindO (binV none .gtr (demote r41) (.d (.int .i64 10))) fun r42 =>
 ifP (demote (demote r42))
 ((SV.noRef (.d (.bool false))) = true ∧
 (K (.d (.bool false))))
 (bindO (partV false 1 14 r0) fun r43 =>
 bindO (lenL (demote (demote r43))) fun r44 =>
 bindO (binV none .gtr (demote r44) (.d (.int .i64 8))) fun r45 =>
 ifP (demote (demote r45))
 ((SV.noRef (.d (.bool false))) = true ∧
 (K (.d (.bool false))))
 (bindO (partV false 1 15 r0) fun r46 =>
 bindO (lenL (demote (demote r46))) fun r47 =>
 bindO (binV none .gtr (demote r47) (.d (.int .i64 12))) fun r48 =>
 ifP (demote (demote r48))
 ((SV.noRef (.d (.bool false))) = true ∧
 (K (.d (.bool false))))
 (bindO (partV false 1 16 r0) fun r49 =>
 bindO (lenL (demote (demote r49))) fun r50 =>
 bindO (binV none .gtr (demote r50) (.d (.int .i64 8))) fun r51 =>
 ifP (demote r51)
 ((SV.noRef (.d (.bool false))) = true ∧
 (K (.d (.bool false))))
 (loopP (fun vs52 bs53 I54 =>
 bindO (partV false 1 10 (bget bs53 0)) fun r55 =>
 bindO (lenL (demote (demote r55))) fun r56 =>
 bindO (binV none .lss (demote (demote (vget vs52 0))) (demote r56)) fun r57 =>
 ifP r57
 (bindO (partV false 1 10 (bget bs53 0)) fun r58 =>
 bindO (elemPtr 13 (demote (demote r58)) (demote (demote (vget vs52 0)))) fun r59 =>
 bindO (addOffV (demote r59) 0) fun r60 =>
 bindO (loadV false 1 (demote r60)) fun r61 =>
 bindO (binV none .gtr (demote (demote (demote r61))) (.d (.int .i64 0))) fun r62 =>
 ifP (demote r62)
 (bindO (binV none .lss (demote (demote (demote r61))) (.d (.int .i64 4))) fun r63 =>
 ifP (demote r63)
 (bindO (indexOk (demote (demote (demote r61))) 4) fun r64 =>
 bindO (partV false 1 (0 + (r64 * 1)) (bget bs53 1)) fun r65 =>
 bindO (binV none .add (demote (demote r65)) (.d (.int .i64 1))) fun r66 =>
 bindO (indexOk (demote (demote (demote r61))) 4) fun r67 =>
 bindO (cellsV (demote r66)) fun r68 =>
 (List.length r68) = 1 ∧
 ((0 + (r67 * 1)) + 1) ≤ (List.length (bget bs53 1)) ∧
 bindO (binV none .add (demote (demote (vget vs52 0))) (.d (.int .i64 1))) fun r69 =>
 (I54 [(demote r69)] [(Box.vals (Box.cells (bget bs53 0))), (Box.vals (Box.cells (setAt (bget bs53 1) (0 + (r67 * 1)) r68)))]))
 (bindO (binV none .add (demote (demote (vget vs52 0))) (.d (.int .i64 1))) fun r70 =>
 (I54 [(demote r70)] [(Box.vals (Box.cells (bget bs53 0))), (Box.vals (Box.cells (bget bs53 1)))])))
 (bindO (binV none .add (demote (demote (vget vs52 0))) (.d (.int .i64 1))) fun r71 =>
 (I54 [(demote r71)] [(Box.vals (Box.cells (bget bs53 0))), (Box.vals (Box.cells (bget bs53 1)))])))
 (loopP (fun vs72 bs73 I74 =>
 bindO (partV false 1 1 (bget bs73 0)) fun r75 =>
 bindO (lenL (demote (demote r75))) fun r76 =>
 bindO (binV none .lss (demote (demote (vget vs72 0))) (demote r76)) fun r77 =>
 ifP r77
 (bindO (partV false 1 1 (bget bs73 0)) fun r78 =>
 bindO (elemPtr 3 (demote (demote r78)) (demote (demote (vget vs72 0)))) fun r79 =>
 bindO (addOffV (demote r79) 1) fun r80 =>
 bindO (loadV false 1 (demote r80)) fun r81 =>
 bindO (lenL (demote r81)) fun r82 =>
 bindO (binV none .gtr (demote r82) (.d (.int .i64 4))) fun r83 =>
 ifP r83
 ((SV.noRef (.d (.bool false))) = true ∧
 (K (.d (.bool false))))
 (bindO (binV none .add (demote (demote (vget vs72 0))) (.d (.int .i64 1))) fun r84 =>
 (I74 [(demote r84)] [(Box.vals (Box.cells (bget bs73 0))), (Box.vals (Box.cells (bget bs73 1)))])))
 (loopP (fun vs85 bs86 I87 =>
 bindO (partV false 1 8 (bget bs86 0)) fun r88 =>
 bindO (lenL (demote (demote r88))) fun r89 =>
 bindO (binV none .lss (demote (demote (vget vs85 0))) (demote r89)) fun r90 =>
 ifP r90
 (bindO (partV false 1 8 (bget bs86 0)) fun r91 =>
 bindO (elemPtr 10 (demote (demote r91)) (demote (demote (vget vs85 0)))) fun r92 =>
 bindO (loadV true 10 (demote r92)) fun r93 =>
 callP C 49 [(demote (demote r93))] fun r94 =>
 bindO (binV none .gtr (demote r94) (.d (.int .i64 6))) fun r95 =>
 ifP r95
 ((SV.noRef (.d (.bool false))) = true ∧
 (K (.d (.bool false))))
 (bindO (binV none .add (demote (demote (vget vs85 0))) (.d (.int .i64 1))) fun r96 =>
 (I87 [(demote r96)] [(Box.vals (Box.cells (bget bs86 0))), (Box.vals (Box.cells (bget bs86 1)))])))
 (loopP (fun vs97 bs98 I99 =>
 bindO (partV false 1 13 (bget bs98 0)) fun r100 =>
 bindO (lenL (demote (demote r100))) fun r101 =>
 bindO (binV none .lss (demote (demote (vget vs97 0))) (demote r101)) fun r102 =>
 ifP r102
 (bindO (partV false 1 13 (bget bs98 0)) fun r103 =>
 bindO (elemPtr 13 (demote (demote r103)) (demote (demote (vget vs97 0)))) fun r104 =>
 bindO (addOffV (demote r104) 3) fun r105 =>
 bindO (loadV true 10 (demote r105)) fun r106 =>
 callP C 49 [(demote (demote r106))] fun r107 =>
 bindO (binV none .gtr (demote r107) (.d (.int .i64 6))) fun r108 =>
 ifP r108
 ((SV.noRef (.d (.bool false))) = true ∧
 (K (.d (.bool false))))
 (bindO (binV none .add (demote (demote (vget vs97 0))) (.d (.int .i64 1))) fun r109 =>
 (I99 [(demote r109)] [(Box.vals (Box.cells (bget bs98 0))), (Box.vals (Box.cells (bget bs98 1)))])))
 (bindO (indexOk (.d (.int .i64 1)) 4) fun r110 =>
 bindO (partV false 1 (0 + (r110 * 1)) (bget bs98 1)) fun r111 =>
 bindO (binV none .leq (demote (demote r111)) (.d (.int .i64 12))) fun r112 =>
 ifP (demote r112)
 (bindO (indexOk (.d (.int .i64 2)) 4) fun r113 =>
 bindO (partV false 1 (0 + (r113 * 1)) (bget bs98 1)) fun r114 =>
 bindO (binV none .leq (demote (demote r114)) (.d (.int .i64 12))) fun r115 =>
 ifP (demote (demote r115))
 (bindO (indexOk (.d (.int .i64 3)) 4) fun r116 =>
 bindO (partV false 1 (0 + (r116 * 1)) (bget bs98 1)) fun r117 =>
 bindO (binV none .leq (demote (demote r117)) (.d (.int .i64 12))) fun r118 =>
 (SV.noRef (demote (demote r118))) = true ∧
 (K (demote (demote r118))))
 ((SV.noRef (.d (.bool false))) = true ∧
 (K (.d (.bool false)))))
 ((SV.noRef (.d (.bool false))) = true ∧
 (K (.d (.bool false))))))
 [(.d (.int .i64 0))] [(Box.vals (Box.cells (bget bs86 0))), (Box.vals (Box.cells (bget bs86 1)))]))
 [(.d (.int .i64 0))] [(Box.vals (Box.cells (bget bs73 0))), (Box.vals (Box.cells (bget bs73 1)))]))
 [(.d (.int .i64 0))] [(Box.vals (Box.cells (bget bs53 0))), (Box.vals (Box.cells (bget bs53 1)))]))
 [(.d (.int .i64 0))] [(Box.vals (Box.cells r0)), [(.d (.int .i64 0)), (.d (.int .i64 0)), (.d (.int .i64 0)), (.d (.int .i64 0))]]))))))))))))))))))) := by kernel_rfl

theorem body25 (C : Con) (x0 : SV) (K : SV → Prop) : body Go.Proofs.Tryz.prog gl C h25 25 [x0] K = (
 wfP [x0] (
 bindO (cellsV (demote x0)) fun r0 =>
 (List.length r0) = 17 ∧
 bindO (partV true 17 0 r0) fun r1 =>
 callP C 51 [(demote (demote (demote r1)))] fun r2 =>
 bindO (partV true 17 0 r0) fun r3 =>
 callP C 52 [(demote (demote (demote r3)))] fun r4 =>
 bindO (partV true 17 0 r0) fun r5 =>
 callP C 53 [(demote (demote (demote r5)))] fun r6 =>
 bindO (partsS [(0, (.v (demote r2))), (1, (.v (demote r4))), (2, (.v (demote r6)))]) fun r7 =>
 (partsFit 1 3 r7) = true ∧
 callP C 50 [(.full 1 (buildElems (mkElem false [(.int .i64 0)]) r7 3 0))] fun r8 =>
 bindO (binV (some (false, [.int])) .neq (demote (demote (demote r8))) (.d (.int .i64 0))) fun r9 =>
 ifP r9
 ((SV.noRef (demote (demote (demote r8)))) = true ∧
 (K (demote (demote (demote r8)))))
 (bindO (partV true 17 0 r0) fun r10 =>
 callP C 54 [(demote (demote (demote r10)))] fun r11 =>
 bindO (partV true 17 0 r0) fun r12 =>
 callP C 55 [(demote (demote (demote r12)))] fun r13 =>
 bindO (partV true 17 0 r0) fun r14 =>
 callP C 56 [(demote (demote (demote r14)))] fun r15 =>
 bindO (partV true 17 0 r0) fun r16 =>
 callP C 57 [(demote (demote (demote r16)))] fun r17 =>
 bindO (partV true 17 0 r0) fun r18 =>
 callP C 58 [(demote (demote (demote r18)))] fun r19 =>
 bindO (partV true 17 0 r0) fun r20 =>
 callP C 59 [(demote (demote (demote r20)))] fun r21 =>
 bindO (partV true 17 0 r0) fun r22 =>
 callP C 60 [(demote (demote (demote r22)))] fun r23 =>
 bindO (partV true 17 0 r0) fun r24 =>
 callP C 61 [(demote (demote (demote r24)))] fun r25 =>
 bindO (partsS [(0, (.v (demote r11))), (1, (.v (demote r13))), (2, (.v (demote r15))), (3, (.v (demote r17))), (4, (.v (demote r19))), (5, (.v (demote r21))), (6, (.v (demote r23))), (7, (.v (demote r25)))]) fun r26 =>
 (partsFit 1 8 r26) = true ∧
 callP C 50 [(.full 1 (buildElems (mkElem false [(.int .i64 0)]) r26 8 0))] fun r27 =>
 (SV.noRef (demote r27)) = true ∧
 (K (demote r27))))) := by kernel_rfl

theorem body49 (C : Con) (x0 : SV) (K : SV → Prop) : body Go.Proofs.Tryz.prog gl C h49 49 [x0] K = (
 wfP [x0] (
 bindO (cellsV (demote x0)) fun r0 =>
 (List.length r0) = 10 ∧
 bindO (partV true 10 0 r0) fun r1 =>
 callP C 90 [(demote (demote (demote r1))), (.d (.int .i64 13))] fun r2 =>
 (SV.noRef (demote r2)) = true ∧
 (K (demote r2)))) := by kernel_rfl

theorem body50 (C : Con) (x0 : SV) (K : SV → Prop) : body Go.Proofs.Tryz.prog gl C h50 50 [x0] K = (
 wfP [x0] (
 loopP (fun vs0 bs1 I2 =>
 bindO (lenL (demote (demote (vget vs0 0)))) fun r3 =>
 bindO (binV none .lss (demote (demote (vget vs0 1))) (demote r3)) fun r4 =>
 ifP r4
 (bindO (elemPtr 1 (demote (demote (vget vs0 0))) (demote (demote (vget vs0 1)))) fun r5 =>
 bindO (loadV false 1 (demote r5)) fun r6 =>
 bindO (binV (some (false, [.int])) .neq (demote r6) (.d (.int .i64 0))) fun r7 =>
 ifP r7
 (bindO (elemPtr 1 (demote (demote (vget vs0 0))) (demote (demote (vget vs0 1)))) fun r8 =>
 bindO (loadV false 1 (demote r8)) fun r9 =>
 (SV.noRef (demote r9)) = true ∧
 (K (demote r9)))
 (bindO (binV none .add (demote (demote (vget vs0 1))) (.d (.int .i64 1))) fun r10 =>
 (I2 [(vget vs0 0), (demote r10)] [])))
 ((SV.noRef (.d (.int .i64 0))) = true ∧
 (K (.d (.int .i64 0)))))
 [x0, (.d (.int .i64 0))] [])) := by kernel_rfl

theorem body51 (C : Con) (x0 : SV) (K : SV → Prop) : body Go.Proofs.Tryz.prog gl C h51 51 [x0] K = (
 wfP [x0] (
 bindO (cellsV (demote x0)) fun r0 =>
 (List.length r0) = 17 ∧
 bindO (partV false 1 0 r0) fun r1 =>
 bindO (lenL (demote (demote r1))) fun r2 =>
 bindO (binV none .gtr (demote r2) (.d (.int .i64 32))) fun r3 =>
 ifP r3
 ((SV.noRef (.d (.int .i64 4))) = true ∧
 (K (.d (.int .i64 4))))
 (loopP (fun vs4 bs5 I6 =>
 bindO (partV false 1 0 (bget bs5 0)) fun r7 =>
 bindO (lenL (demote (demote r7))) fun r8 =>
 bindO (binV none .lss (demote (demote (vget vs4 1))) (demote r8)) fun r9 =>
 ifP r9
 (bindO (partV false 1 0 (bget bs5 0)) fun r10 =>
 bindO (elemPtr 2 (demote (demote r10)) (demote (demote (vget vs4 1)))) fun r11 =>
 bindO (loadV true 2 (demote r11)) fun r12 =>
 bindO (cellsV (demote r12)) fun r13 =>
 (List.length r13) = 2 ∧
 2 ≤ 2 ∧
 bindO (partV false 1 0 (setAt [(.d (.str [])), (.d (.sl .nil 0 []))] 0 r13)) fun r14 =>
 bindO (partsS [(0, (.v (demote (demote r14))))]) fun r15 =>
 (partsFit 1 1 r15) = true ∧
 callP C 91 [(.full 1 (buildElems (mkElem false [(.str [])]) r15 1 0)), (demote (demote (demote (vget vs4 0))))] fun r16 =>
 bindO (binV (some (false, [.int])) .neq (demote (demote (demote r16))) (.d (.int .i64 0))) fun r17 =>
 ifP r17
 ((SV.noRef (demote (demote (demote r16)))) = true ∧
 (K (demote (demote (demote r16)))))
 (bindO (partV false 1 0 (setAt [(.d (.str [])), (.d (.sl .nil 0 []))] 0 r13)) fun r18 =>
 bindO (partsS [(0, (.v (demote (demote r18))))]) fun r19 =>
 (partsFit 1 1 r19) = true ∧
 appP 1 16 (vget vs4 0) (.full 1 (buildElems (mkElem false [(.str [])]) r19 1 0)) fun r20 =>
 bindO (partV false 1 1 (setAt [(.d (.str [])), (.d (.sl .nil 0 []))] 0 r13)) fun r21 =>
 bindO (lenL (demote (demote r21))) fun r22 =>
 bindO (binV none .gtr (demote r22) (.d (.int .i64 32))) fun r23 =>
 ifP r23
 ((SV.noRef (.d (.int .i64 4))) = true ∧
 (K (.d (.int .i64 4))))
 (bindO (partV false 1 1 (setAt [(.d (.str [])), (.d (.sl .nil 0 []))] 0 r13)) fun r24 =>
 bindO (lenL (demote (demote r24))) fun r25 =>
 bindO (binV (some (false, [.int])) .eql (demote r25) (.d (.int .i64 0))) fun r26 =>
 ifP r26
 ((SV.noRef (.d (.int .i64 2))) = true ∧
 (K (.d (.int .i64 2))))
 (bindO (partV false 1 1 (setAt [(.d (.str [])), (.d (.sl .nil 0 []))] 0 r13)) fun r27 =>
 callP C 91 [(demote (demote (demote r27))), (.d (.sl .nil 0 []))] fun r28 =>
 bindO (binV (some (false, [.int])) .neq (demote (demote (demote r28))) (.d (.int .i64 0))) fun r29 =>
 ifP r29
 ((SV.noRef (demote (demote (demote r28)))) = true ∧
 (K (demote (demote (demote r28)))))
 (bindO (binV none .add (demote (demote (vget vs4 1))) (.d (.int .i64 1))) fun r30 =>
 (I6 [r20, (demote r30)] [(Box.vals (Box.cells (bget bs5 0)))]))))))
 ((SV.noRef (.d (.int .i64 0))) = true ∧
 (K (.d (.int .i64 0)))))
 [(.d (.sl .nil 0 [])), (.d (.int .i64 0))] [(Box.vals (Box.cells r0))]))) := by kernel_rfl

theorem body52 (C : Con) (x0 : SV) (K : SV → Prop) : body Go.Proofs.Tryz.prog gl C h52 52 [x0] K = (
 wfP [x0] (
 bindO (cellsV (demote x0)) fun r0 =>
 (List.length r0) = 17 ∧
 bindO (partV false 1 1 r0) fun r1 =>
 bindO (lenL (demote (demote r1))) fun r2 =>
 bindO (binV none .gtr (demote r2) (.d (.int .i64 256))) fun r3 =>
 ifP r3
 ((SV.noRef (.d (.int .i64 4))) = true ∧
 (K (.d (.int .i64 4))))
 (loopP (fun vs4 bs5 I6 =>
 bindO (partV false 1 1 (bget bs5 0)) fun r7 =>
 bindO (lenL (demote (demote r7))) fun r8 =>
 bindO (binV none .lss (demote (demote (vget vs4 0))) (demote r8)) fun r9 =>
 ifP r9
 (bindO (partV false 1 1 (bget bs5 0)) fun r10 =>
 bindO (elemPtr 3 (demote (demote r10)) (demote (demote (vget vs4 0)))) fun r11 =>
 bindO (addOffV (demote r11) 0) fun r12 =>
 bindO (loadV false 1 (demote r12)) fun r13 =>
 bindO (partsS [(0, (.v (demote r13)))]) fun r14 =>
 (partsFit 1 1 r14) = true ∧
 bindO (partV false 1 1 (bget bs5 0)) fun r15 =>
 bindO (elemPtr 3 (demote (demote r15)) (demote (demote (vget vs4 0)))) fun r16 =>
 bindO (addOffV (demote r16) 1) fun r17 =>
 bindO (loadV false 1 (demote r17)) fun r18 =>
 appP 1 16 (.full 1 (buildElems (mkElem false [(.str [])]) r14 1 0)) (demote r18) fun r19 =>
 bindO (partV true 17 0 (bget bs5 0)) fun r20 =>
 callP C 92 [(demote (demote (demote r20))), (demote (demote (demote (vget vs4 0))))] fun r21 =>
 callP C 91 [(demote (demote (demote (demote r19)))), (demote (demote r21))] fun r22 =>
 bindO (binV (some (false, [.int])) .neq (demote (demote (demote r22))) (.d (.int .i64 0))) fun r23 =>
 ifP r23
 ((SV.noRef (demote (demote (demote r22)))) = true ∧
 (K (demote (demote (demote r22)))))
 (bindO (binV none .add (demote (demote (vget vs4 0))) (.d (.int .i64 1))) fun r24 =>
 (I6 [(demote r24)] [(Box.vals (Box.cells (bget bs5 0)))])))
 (bindO (partV false 1 2 (bget bs5 0)) fun r25 =>
 bindO (lenL (demote (demote r25))) fun r26 =>
 bindO (binV none .gtr (demote r26) (.d (.int .i64 64))) fun r27 =>
 ifP r27
 ((SV.noRef (.d (.int .i64 4))) = true ∧
 (K (.d (.int .i64 4))))
 (bindO (partV true 17 0 (bget bs5 0)) fun r28 =>
 bindO (partV false 1 1 (bget bs5 0)) fun r29 =>
 bindO (lenL (demote (demote r29))) fun r30 =>
 callP C 92 [(demote (demote (demote r28))), (demote (demote r30))] fun r31 =>
 loopP (fun vs32 bs33 I34 =>
 bindO (partV false 1 2 (bget bs33 0)) fun r35 =>
 bindO (lenL (demote (demote r35))) fun r36 =>
 bindO (binV none .lss (demote (demote (vget vs32 1))) (demote r36)) fun r37 =>
 ifP r37
 (bindO (partV false 1 2 (bget bs33 0)) fun r38 =>
 bindO (elemPtr 5 (demote (demote r38)) (demote (demote (vget vs32 1)))) fun r39 =>
 bindO (addOffV (demote r39) 0) fun r40 =>
 bindO (loadV false 1 (demote r40)) fun r41 =>
 bindO (partsS [(0, (.v (demote r41)))]) fun r42 =>
 (partsFit 1 1 r42) = true ∧
 callP C 91 [(.full 1 (buildElems (mkElem false [(.str [])]) r42 1 0)), (demote (demote (demote (vget vs32 0))))] fun r43 =>
 bindO (binV (some (false, [.int])) .neq (demote (demote (demote r43))) (.d (.int .i64 0))) fun r44 =>
 ifP r44
 ((SV.noRef (demote (demote (demote r43)))) = true ∧
 (K (demote (demote (demote r43)))))
 (bindO (partV false 1 2 (bget bs33 0)) fun r45 =>
 bindO (elemPtr 5 (demote (demote r45)) (demote (demote (vget vs32 1)))) fun r46 =>
 bindO (addOffV (demote r46) 0) fun r47 =>
 bindO (loadV false 1 (demote r47)) fun r48 =>
 bindO (partsS [(0, (.v (demote r48)))]) fun r49 =>
 (partsFit 1 1 r49) = true ∧
 appP 1 16 (vget vs32 0) (.full 1 (buildElems (mkElem false [(.str [])]) r49 1 0)) fun r50 =>
 bindO (partV false 1 2 (bget bs33 0)) fun r51 =>
 bindO (elemPtr 5 (demote (demote r51)) (demote (demote (vget vs32 1)))) fun r52 =>
 bindO (addOffV (demote r52) 1) fun r53 =>
 bindO (loadV true 4 (demote r53)) fun r54 =>
 bindO (partV false 1 1 (bget bs33 0)) fun r55 =>
 bindO (lenL (demote (demote r55))) fun r56 =>
 ∃ r57,
 ∃ r58,
 (C 93 [(demote (demote r54)), (demote (demote r56))] (.tup [r57, r58])) ∧
 bindO (unV .not (demote (demote (demote (demote (demote r58)))))) fun r59 =>
 ifP r59
 ((SV.noRef (.d (.int .i64 3))) = true ∧
 (K (.d (.int .i64 3))))
 (bindO (binV none .add (demote (demote (vget vs32 1))) (.d (.int .i64 1))) fun r60 =>
 (I34 [r50, (demote r60)] [(Box.vals (Box.cells (bget bs33 0)))]))))
 ((SV.noRef (.d (.int .i64 0))) = true ∧
 (K (.d (.int .i64 0)))))
 [r31, (.d (.int .i64 0))] [(Box.vals (Box.cells (bget bs5 0)))])))
 [(.d (.int .i64 0))] [(Box.vals (Box.cells r0))]))) := by kernel_rfl

theorem body53 (C : Con) (x0 : SV) (K : SV → Prop) : body Go.Proofs.Tryz.prog gl C h53 53 [x0] K = (
 wfP [x0] (
 bindO (cellsV (demote x0)) fun r0 =>
 (List.length r0) = 17 ∧
 bindO (partV false 1 3 r0) fun r1 =>
 bindO (lenL (demote (demote r1))) fun r2 =>
 bindO (binV none .gtr (demote r2) (.d (.int .i64 32))) fun r3 =>
 ifP r3
 ((SV.noRef (.d (.int .i64 4))) = true ∧
 (K (.d (.int .i64 4))))
 (bindO (partV false 1 1 r0) fun r4 =>
 bindO (lenL (demote (demote r4))) fun r5 =>
 callP C 70 [(demote (demote r5))] fun r6 =>
 bindO (cellsV (demote r6)) fun r7 =>
 (List.length r7) = 4 ∧
 4 ≤ 4 ∧
 bindO (partV false 1 3 r0) fun r8 =>
 bindO (lenL (demote (demote r8))) fun r9 =>
 bindO (binV (some (false, [.int])) .eql (demote r9) (.d (.int .i64 0))) fun r10 =>
 ifP (demote r10)
 ((SV.noRef (.d (.int .i64 2))) = true ∧
 (K (.d (.int .i64 2))))
 (bindO (partV false 1 3 r0) fun r11 =>
 bindO (elemPtr 9 (demote (demote r11)) (.d (.int .i64 0))) fun r12 =>
 bindO (loadV true 9 (demote r12)) fun r13 =>
 bindO (partsS [(0, (.v (.d (.str [111, 98, 106, 101, 99, 116, 95, 114]))))]) fun r14 =>
 bindO (buildD Proofs.Tryz.prog 103 r14) fun r15 =>
 bindO (binV (some (true, [.str, .int, .int, .int, .int, .int, .int, .int, .int])) .neq (demote r13) (.d r15)) fun r16 =>
 ifP (demote r16)
 ((SV.noRef (.d (.int .i64 2))) = true ∧
 (K (.d (.int .i64 2))))
 (bindO (partsS [(0, (.v (.d (.str [111, 98, 106, 101, 99, 116, 95, 114]))))]) fun r17 =>
 (partsFit 1 1 r17) = true ∧
 loopP (fun vs18 bs19 I20 =>
 bindO (partV false 1 3 (bget bs19 0)) fun r21 =>
 bindO (lenL (demote (demote r21))) fun r22 =>
 bindO (binV none .lss (demote (demote (vget vs18 1))) (demote r22)) fun r23 =>
 ifP r23
 (bindO (partV false 1 3 (bget bs19 0)) fun r24 =>
 bindO (elemPtr 9 (demote (demote r24)) (demote (demote (vget vs18 1)))) fun r25 =>
 bindO (loadV true 9 (demote r25)) fun r26 =>
 bindO (cellsV (demote r26)) fun r27 =>
 (List.length r27) = 9 ∧
 9 ≤ 9 ∧
 bindO (partV false 1 0 (setAt [(.d (.str [])), (.d (.int .u64 0)), (.d (.int .u64 0)), (.d (.int .u64 0)), (.d (.int .u64 0)), (.d (.int .u64 0)), (.d (.int .u64 0)), (.d (.int .u64 0)), (.d (.int .u64 0))] 0 r27)) fun r28 =>
 bindO (partsS [(0, (.v (demote (demote r28))))]) fun r29 =>
 (partsFit 1 1 r29) = true ∧
 callP C 91 [(.full 1 (buildElems (mkElem false [(.str [])]) r29 1 0)), (demote (demote (demote (vget vs18 0))))] fun r30 =>
 bindO (binV (some (false, [.int])) .neq (demote (demote (demote r30))) (.d (.int .i64 0))) fun r31 =>
 ifP r31
 ((SV.noRef (demote (demote (demote r30)))) = true ∧
 (K (demote (demote (demote r30)))))
 (bindO (partV false 1 0 (setAt [(.d (.str [])), (.d (.int .u64 0)), (.d (.int .u64 0)), (.d (.int .u64 0)), (.d (.int .u64 0)), (.d (.int .u64 0)), (.d (.int .u64 0)), (.d (.int .u64 0)), (.d (.int .u64 0))] 0 r27)) fun r32 =>
 bindO (partsS [(0, (.v (demote (demote r32))))]) fun r33 =>
 (partsFit 1 1 r33) = true ∧
 appP 1 16 (vget vs18 0) (.full 1 (buildElems (mkElem false [(.str [])]) r33 1 0)) fun r34 =>
 bindO (partV true 4 1 (setAt [(.d (.str [])), (.d (.int .u64 0)), (.d (.int .u64 0)), (.d (.int .u64 0)), (.d (.int .u64 0)), (.d (.int .u64 0)), (.d (.int .u64 0)), (.d (.int .u64 0)), (.d (.int .u64 0))] 0 r27)) fun r35 =>
 bindO (partV true 4 0 (bget bs19 1)) fun r36 =>
 callP C 69 [(demote (demote (demote r35))), (demote (demote (demote r36)))] fun r37 =>
 bindO (unV .not (demote r37)) fun r38 =>
 ifP (demote r38)
 ((SV.noRef (.d (.int .i64 3))) = true ∧
 (K (.d (.int .i64 3))))
 (bindO (partV true 17 0 (bget bs19 0)) fun r39 =>
 bindO (partV true 4 5 (setAt [(.d (.str [])), (.d (.int .u64 0)), (.d (.int .u64 0)), (.d (.int .u64 0)), (.d (.int .u64 0)), (.d (.int .u64 0)), (.d (.int .u64 0)), (.d (.int .u64 0)), (.d (.int .u64 0))] 0 r27)) fun r40 =>
 callP C 94 [(demote (demote (demote r39))), (demote (demote (demote r40)))] fun r41 =>
 bindO (unV .not (demote r41)) fun r42 =>
 ifP (demote r42)
 ((SV.noRef (.d (.int .i64 3))) = true ∧
 (K (.d (.int .i64 3))))
 (bindO (binV none .add (demote (demote (vget vs18 1))) (.d (.int .i64 1))) fun r43 =>
 (I20 [r34, (demote r43)] [(Box.vals (Box.cells (bget bs19 0))), (Box.vals (Box.cells (bget bs19 1)))])))))
 ((SV.noRef (.d (.int .i64 0))) = true ∧
 (K (.d (.int .i64 0)))))
 [(.full 1 (buildElems (mkElem false [(.str [])]) r17 1 0)), (.d (.int .i64 1))] [(Box.vals (Box.cells r0)), (Box.vals (Box.cells (setAt [(.d (.int .u64 0)), (.d (.int .u64 0)), (.d (.int .u64 0)), (.d (.int .u64 0))] 0 r7)))]))))) := by kernel_rfl

theorem body54 (C : Con) (x0 : SV) (K : SV → Prop) : body Go.Proofs.Tryz.prog gl C h54 54 [x0] K = (
 wfP [x0] (
 bindO (cellsV (demote x0)) fun r0 =>
 (List.length r0) = 17 ∧
 bindO (partV false 1 4 r0) fun r1 =>
 bindO (lenL (demote (demote r1))) fun r2 =>
 bindO (binV none .gtr (demote r2) (.d (.int .i64 32))) fun r3 =>
 ifP r3
 ((SV.noRef (.d (.int .i64 4))) = true ∧
 (K (.d (.int .i64 4))))
 (loopP (fun vs4 bs5 I6 =>
 bindO (partV false 1 4 (bget bs5 0)) fun r7 =>
 bindO (lenL (demote (demote r7))) fun r8 =>
 bindO (binV none .lss (demote (demote (vget vs4 1))) (demote r8)) fun r9 =>
 ifP r9
 (bindO (partV false 1 4 (bget bs5 0)) fun r10 =>
 bindO (elemPtr 11 (demote (demote r10)) (demote (demote (vget vs4 1)))) fun r11 =>
 bindO (loadV true 11 (demote r11)) fun r12 =>
 bindO (cellsV (demote r12)) fun r13 =>
 (List.length r13) = 11 ∧
 11 ≤ 11 ∧
 bindO (partV false 1 0 (setAt [(.d (.str [])), (.d (.int .u64 0)), (.d (.int .u64 0)), (.d (.int .u64 0)), (.d (.int .u64 0)), (.d (.int .i64 0)), (.d (.int .u64 0)), (.d (.int .i64 0)), (.d (.int .u64 0)), (.d (.int .i64 0)), (.d (.int .u64 0))] 0 r13)) fun r14 =>
 bindO (partsS [(0, (.v (demote (demote r14))))]) fun r15 =>
 (partsFit 1 1 r15) = true ∧
 callP C 91 [(.full 1 (buildElems (mkElem false [(.str [])]) r15 1 0)), (demote (demote (demote (vget vs4 0))))] fun r16 =>
 bindO (binV (some (false, [.int])) .neq (demote (demote (demote r16))) (.d (.int .i64 0))) fun r17 =>
 ifP r17
 ((SV.noRef (demote (demote (demote r16)))) = true ∧
 (K (demote (demote (demote r16)))))
 (bindO (partV false 1 0 (setAt [(.d (.str [])), (.d (.int .u64 0)), (.d (.int .u64 0)), (.d (.int .u64 0)), (.d (.int .u64 0)), (.d (.int .i64 0)), (.d (.int .u64 0)), (.d (.int .i64 0)), (.d (.int .u64 0)), (.d (.int .i64 0)), (.d (.int .u64 0))] 0 r13)) fun r18 =>
 bindO (partsS [(0, (.v (demote (demote r18))))]) fun r19 =>
 (partsFit 1 1 r19) = true ∧
 appP 1 16 (vget vs4 0) (.full 1 (buildElems (mkElem false [(.str [])]) r19 1 0)) fun r20 =>
 bindO (partV true 17 0 (bget bs5 0)) fun r21 =>
 bindO (partV true 4 1 (setAt [(.d (.str [])), (.d (.int .u64 0)), (.d (.int .u64 0)), (.d (.int .u64 0)), (.d (.int .u64 0)), (.d (.int .i64 0)), (.d (.int .u64 0)), (.d (.int .i64 0)), (.d (.int .u64 0)), (.d (.int .i64 0)), (.d (.int .u64 0))] 0 r13)) fun r22 =>
 callP C 94 [(demote (demote (demote r21))), (demote (demote (demote r22)))] fun r23 =>
 bindO (unV .not (demote r23)) fun r24 =>
 ifP r24
 ((SV.noRef (.d (.int .i64 3))) = true ∧
 (K (.d (.int .i64 3))))
 (bindO (partV true 17 0 (bget bs5 0)) fun r25 =>
 bindO (partV true 4 7 (setAt [(.d (.str [])), (.d (.int .u64 0)), (.d (.int .u64 0)), (.d (.int .u64 0)), (.d (.int .u64 0)), (.d (.int .i64 0)), (.d (.int .u64 0)), (.d (.int .i64 0)), (.d (.int .u64 0)), (.d (.int .i64 0)), (.d (.int .u64 0))] 0 r13)) fun r26 =>
 callP C 95 [(demote (demote (demote r25))), (demote (demote (demote r26)))] fun r27 =>
 bindO (unV .not (demote r27)) fun r28 =>
 ifP (demote r28)
 ((SV.noRef (.d (.int .i64 18))) = true ∧
 (K (.d (.int .i64 18))))
 (bindO (partV true 17 0 (bget bs5 0)) fun r29 =>
 bindO (partV true 2 5 (setAt [(.d (.str [])), (.d (.int .u64 0)), (.d (.int .u64 0)), (.d (.int .u64 0)), (.d (.int .u64 0)), (.d (.int .i64 0)), (.d (.int .u64 0)), (.d (.int .i64 0)), (.d (.int .u64 0)), (.d (.int .i64 0)), (.d (.int .u64 0))] 0 r13)) fun r30 =>
 callP C 96 [(demote (demote (demote r29))), (demote (demote (demote r30)))] fun r31 =>
 bindO (unV .not (demote r31)) fun r32 =>
 ifP (demote (demote r32))
 ((SV.noRef (.d (.int .i64 18))) = true ∧
 (K (.d (.int .i64 18))))
 (bindO (partV true 2 9 (setAt [(.d (.str [])), (.d (.int .u64 0)), (.d (.int .u64 0)), (.d (.int .u64 0)), (.d (.int .u64 0)), (.d (.int .i64 0)), (.d (.int .u64 0)), (.d (.int .i64 0)), (.d (.int .u64 0)), (.d (.int .i64 0)), (.d (.int .u64 0))] 0 r13)) fun r33 =>
 bindO (partV true 2 5 (setAt [(.d (.str [])), (.d (.int .u64 0)), (.d (.int .u64 0)), (.d (.int .u64 0)), (.d (.int .u64 0)), (.d (.int .i64 0)), (.d (.int .u64 0)), (.d (.int .i64 0)), (.d (.int .u64 0)), (.d (.int .i64 0)), (.d (.int .u64 0))] 0 r13)) fun r34 =>
 callP C 97 [(demote (demote (demote r33))), (demote (demote (demote r34)))] fun r35 =>
 bindO (unV .not (demote r35)) fun r36 =>
 ifP (demote (demote r36))
 ((SV.noRef (.d (.int .i64 18))) = true ∧
 (K (.d (.int .i64 18))))
 (bindO (partV true 2 5 (setAt [(.d (.str [])), (.d (.int .u64 0)), (.d (.int .u64 0)), (.d (.int .u64 0)), (.d (.int .u64 0)), (.d (.int .i64 0)), (.d (.int .u64 0)), (.d (.int .i64 0)), (.d (.int .u64 0)), (.d (.int .i64 0)), (.d (.int .u64 0))] 0 r13)) fun r37 =>
 bindO (partV true 2 7 (setAt [(.d (.str [])), (.d (.int .u64 0)), (.d (.int .u64 0)), (.d (.int .u64 0)), (.d (.int .u64 0)), (.d (.int .i64 0)), (.d (.int .u64 0)), (.d (.int .i64 0)), (.d (.int .u64 0)), (.d (.int .i64 0)), (.d (.int .u64 0))] 0 r13)) fun r38 =>
 callP C 97 [(demote (demote (demote r37))), (demote (demote (demote r38)))] fun r39 =>
 bindO (unV .not (demote r39)) fun r40 =>
 ifP (demote r40)
 ((SV.noRef (.d (.int .i64 18))) = true ∧
 (K (.d (.int .i64 18))))
 (bindO (binV none .add (demote (demote (vget vs4 1))) (.d (.int .i64 1))) fun r41 =>
 (I6 [r20, (demote r41)] [(Box.vals (Box.cells (bget bs5 0)))]))))))))
 ((SV.noRef (.d (.int .i64 0))) = true ∧
 (K (.d (.int .i64 0)))))
 [(.d (.sl .nil 0 [])), (.d (.int .i64 0))] [(Box.vals (Box.cells r0))]))) := by kernel_rfl

theorem body55 (C : Con) (x0 : SV) (K : SV → Prop) : body Go.Proofs.Tryz.prog gl C h55 55 [x0] K = (
 wfP [x0] (
 bindO (cellsV (demote x0)) fun r0 =>
 (List.length r0) = 17 ∧
 bindO (partV false 1 5 r0) fun r1 =>
 bindO (lenL (demote (demote r1))) fun r2 =>
 bindO (binV none .gtr (demote r2) (.d (.int .i64 16))) fun r3 =>
 ifP r3
 ((SV.noRef (.d (.int .i64 4))) = true ∧
 (K (.d (.int .i64 4))))
 (loopP (fun vs4 bs5 I6 =>
 bindO (partV false 1 5 (bget bs5 0)) fun r7 =>
 bindO (lenL (demote (demote r7))) fun r8 =>
 bindO (binV none .lss (demote (demote (vget vs4 1))) (demote r8)) fun r9 =>
 ifP r9
 (bindO (partV false 1 5 (bget bs5 0)) fun r10 =>
 bindO (elemPtr 2 (demote (demote r10)) (demote (demote (vget vs4 1)))) fun r11 =>
 bindO (addOffV (demote r11) 0) fun r12 =>
 bindO (loadV false 1 (demote r12)) fun r13 =>
 bindO (partsS [(0, (.v (demote r13)))]) fun r14 =>
 (partsFit 1 1 r14) = true ∧
 appP 1 16 (vget vs4 0) (.full 1 (buildElems (mkElem false [(.str [])]) r14 1 0)) fun r15 =>
 bindO (binV none .add (demote (demote (vget vs4 1))) (.d (.int .i64 1))) fun r16 =>
 (I6 [r15, (demote r16)] [(Box.vals (Box.cells (bget bs5 0)))]))
 (callP C 91 [(demote (demote (demote (vget vs4 0)))), (.d (.sl .nil 0 []))] fun r17 =>
 bindO (binV (some (false, [.int])) .neq (demote (demote (demote r17))) (.d (.int .i64 0))) fun r18 =>
 ifP r18
 ((SV.noRef (demote (demote (demote r17)))) = true ∧
 (K (demote (demote (demote r17)))))
 (bindO (partV false 1 6 (bget bs5 0)) fun r19 =>
 bindO (lenL (demote (demote r19))) fun r20 =>
 bindO (binV none .gtr (demote r20) (.d (.int .i64 16))) fun r21 =>
 ifP r21
 ((SV.noRef (.d (.int .i64 4))) = true ∧
 (K (.d (.int .i64 4))))
 (bindO (partV false 1 6 (bget bs5 0)) fun r22 =>
 callP C 91 [(demote (demote (demote r22))), (.d (.sl .nil 0 []))] fun r23 =>
 bindO (binV (some (false, [.int])) .neq (demote (demote (demote r23))) (.d (.int .i64 0))) fun r24 =>
 ifP r24
 ((SV.noRef (demote (demote (demote r23)))) = true ∧
 (K (demote (demote (demote r23)))))
 (bindO (partV false 1 7 (bget bs5 0)) fun r25 =>
 bindO (lenL (demote (demote r25))) fun r26 =>
 bindO (binV none .gtr (demote r26) (.d (.int .i64 64))) fun r27 =>
 ifP r27
 ((SV.noRef (.d (.int .i64 4))) = true ∧
 (K (.d (.int .i64 4))))
 (bindO (partV false 1 7 (bget bs5 0)) fun r28 =>
 callP C 91 [(demote (demote (demote r28))), (.d (.sl .nil 0 []))] fun r29 =>
 (SV.noRef (demote r29)) = true ∧
 (K (demote r29))))))))
 [(.d (.sl .nil 0 [])), (.d (.int .i64 0))] [(Box.vals (Box.cells r0))]))) := by kernel_rfl

theorem body56 (C : Con) (x0 : SV) (K : SV → Prop) : body Go.Proofs.Tryz.prog gl C h56 56 [x0] K = (
 wfP [x0] (
 bindO (cellsV (demote x0)) fun r0 =>
 (List.length r0) = 17 ∧
 bindO (partV false 1 8 r0) fun r1 =>
 bindO (lenL (demote (demote r1))) fun r2 =>
 bindO (binV none .gtr (demote r2) (.d (.int .i64 64))) fun r3 =>
 ifP r3
 ((SV.noRef (.d (.int .i64 4))) = true ∧
 (K (.d (.int .i64 4))))
 (loopP (fun vs4 bs5 I6 =>
 bindO (partV false 1 8 (bget bs5 0)) fun r7 =>
 bindO (lenL (demote (demote r7))) fun r8 =>
 bindO (binV none .lss (demote (demote (vget vs4 0))) (demote r8)) fun r9 =>
 ifP r9
 (bindO (partV true 17 0 (bget bs5 0)) fun r10 =>
 bindO (partV false 1 8 (bget bs5 0)) fun r11 =>
 bindO (elemPtr 10 (demote (demote r11)) (demote (demote (vget vs4 0)))) fun r12 =>
 bindO (loadV true 10 (demote r12)) fun r13 =>
 callP C 98 [(demote (demote (demote r10))), (demote (demote r13))] fun r14 =>
 bindO (binV (some (false, [.int])) .neq (demote (demote (demote r14))) (.d (.int .i64 0))) fun r15 =>
 ifP r15
 ((SV.noRef (demote (demote (demote r14)))) = true ∧
 (K (demote (demote (demote r14)))))
 (bindO (binV none .add (demote (demote (vget vs4 0))) (.d (.int .i64 1))) fun r16 =>
 (I6 [(demote r16)] [(Box.vals (Box.cells (bget bs5 0)))])))
 (bindO (partV false 1 9 (bget bs5 0)) fun r17 =>
 bindO (lenL (demote (demote r17))) fun r18 =>
 bindO (binV none .gtr (demote r18) (.d (.int .i64 4096))) fun r19 =>
 ifP r19
 ((SV.noRef (.d (.int .i64 4))) = true ∧
 (K (.d (.int .i64 4))))
 (loopP (fun vs20 bs21 I22 =>
 bindO (partV false 1 9 (bget bs21 0)) fun r23 =>
 bindO (lenL (demote (demote r23))) fun r24 =>
 bindO (binV none .lss (demote (demote (vget vs20 0))) (demote r24)) fun r25 =>
 ifP r25
 (bindO (partV false 1 9 (bget bs21 0)) fun r26 =>
 bindO (elemPtr 13 (demote (demote r26)) (demote (demote (vget vs20 0)))) fun r27 =>
 bindO (loadV true 13 (demote r27)) fun r28 =>
 bindO (cellsV (demote r28)) fun r29 =>
 (List.length r29) = 13 ∧
 13 ≤ 13 ∧
 bindO (partV false 1 0 (setAt [(.d (.int .i64 0)), (.d (.int .u64 0)), (.d (.int .u64 0)), (.d (.int .u64 0)), (.d (.int .u64 0)), (.d (.int .u64 0)), (.d (.int .u64 0)), (.d (.int .u64 0)), (.d (.int .u64 0)), (.d (.bool false)), (.d (.int .i64 0)), (.d (.int .u32 0)), (.d (.int .i64 0))] 0 r29)) fun r30 =>
 bindO (binV none .lss (demote (demote r30)) (.d (.int .i64 1))) fun r31 =>
 ifP (demote r31)
 ((SV.noRef (.d (.int .i64 13))) = true ∧
 (K (.d (.int .i64 13))))
 (bindO (partV false 1 0 (setAt [(.d (.int .i64 0)), (.d (.int .u64 0)), (.d (.int .u64 0)), (.d (.int .u64 0)), (.d (.int .u64 0)), (.d (.int .u64 0)), (.d (.int .u64 0)), (.d (.int .u64 0)), (.d (.int .u64 0)), (.d (.bool false)), (.d (.int .i64 0)), (.d (.int .u32 0)), (.d (.int .i64 0))] 0 r29)) fun r32 =>
 bindO (binV none .gtr (demote (demote r32)) (.d (.int .i64 4))) fun r33 =>
 ifP (demote r33)
 ((SV.noRef (.d (.int .i64 13))) = true ∧
 (K (.d (.int .i64 13))))
 (bindO (partV true 4 1 (setAt [(.d (.int .i64 0)), (.d (.int .u64 0)), (.d (.int .u64 0)), (.d (.int .u64 0)), (.d (.int .u64 0)), (.d (.int .u64 0)), (.d (.int .u64 0)), (.d (.int .u64 0)), (.d (.int .u64 0)), (.d (.bool false)), (.d (.int .i64 0)), (.d (.int .u32 0)), (.d (.int .i64 0))] 0 r29)) fun r34 =>
 bindO (partV false 1 1 (bget bs21 0)) fun r35 =>
 bindO (lenL (demote (demote r35))) fun r36 =>
 ∃ r37,
 ∃ r38,
 (C 93 [(demote (demote (demote r34))), (demote (demote r36))] (.tup [r37, r38])) ∧
 bindO (partV true 4 5 (setAt [(.d (.int .i64 0)), (.d (.int .u64 0)), (.d (.int .u64 0)), (.d (.int .u64 0)), (.d (.int .u64 0)), (.d (.int .u64 0)), (.d (.int .u64 0)), (.d (.int .u64 0)), (.d (.int .u64 0)), (.d (.bool false)), (.d (.int .i64 0)), (.d (.int .u32 0)), (.d (.int .i64 0))] 0 r29)) fun r39 =>
 bindO (partV false 1 1 (bget bs21 0)) fun r40 =>
 bindO (lenL (demote (demote r40))) fun r41 =>
 ∃ r42,
 ∃ r43,
 (C 93 [(demote (demote (demote r39))), (demote (demote r41))] (.tup [r42, r43])) ∧
 bindO (unV .not (demote (demote (demote (demote (demote r38)))))) fun r44 =>
 ifP (demote r44)
 ((SV.noRef (.d (.int .i64 3))) = true ∧
 (K (.d (.int .i64 3))))
 (bindO (unV .not (demote (demote (demote (demote (demote r43)))))) fun r45 =>
 ifP (demote (demote r45))
 ((SV.noRef (.d (.int .i64 3))) = true ∧
 (K (.d (.int .i64 3))))
 (bindO (partV true 17 0 (bget bs21 0)) fun r46 =>
 bindO (partV false 1 10 (setAt [(.d (.int .i64 0)), (.d (.int .u64 0)), (.d (.int .u64 0)), (.d (.int .u64 0)), (.d (.int .u64 0)), (.d (.int .u64 0)), (.d (.int .u64 0)), (.d (.int .u64 0)), (.d (.int .u64 0)), (.d (.bool false)), (.d (.int .i64 0)), (.d (.int .u32 0)), (.d (.int .i64 0))] 0 r29)) fun r47 =>
 bindO (partV false 1 11 (setAt [(.d (.int .i64 0)), (.d (.int .u64 0)), (.d (.int .u64 0)), (.d (.int .u64 0)), (.d (.int .u64 0)), (.d (.int .u64 0)), (.d (.int .u64 0)), (.d (.int .u64 0)), (.d (.int .u64 0)), (.d (.bool false)), (.d (.int .i64 0)), (.d (.int .u32 0)), (.d (.int .i64 0))] 0 r29)) fun r48 =>
 callP C 99 [(demote (demote (demote r46))), (demote (demote (demote r47))), (demote (demote (demote r48)))] fun r49 =>
 bindO (unV .not (demote r49)) fun r50 =>
 ifP (demote (demote r50))
 ((SV.noRef (.d (.int .i64 3))) = true ∧
 (K (.d (.int .i64 3))))
 (bindO (partV true 17 0 (bget bs21 0)) fun r51 =>
 bindO (partV false 1 12 (setAt [(.d (.int .i64 0)), (.d (.int .u64 0)), (.d (.int .u64 0)), (.d (.int .u64 0)), (.d (.int .u64 0)), (.d (.int .u64 0)), (.d (.int .u64 0)), (.d (.int .u64 0)), (.d (.int .u64 0)), (.d (.bool false)), (.d (.int .i64 0)), (.d (.int .u32 0)), (.d (.int .i64 0))] 0 r29)) fun r52 =>
 callP C 100 [(demote (demote (demote r51))), (demote (demote (demote r52)))] fun r53 =>
 bindO (unV .not (demote r53)) fun r54 =>
 ifP (demote r54)
 ((SV.noRef (.d (.int .i64 3))) = true ∧
 (K (.d (.int .i64 3))))
 (bindO (unV .not (demote (demote (demote (demote (demote r37)))))) fun r55 =>
 ifP (demote r55)
 ((SV.noRef (.d (.int .i64 2))) = true ∧
 (K (.d (.int .i64 2))))
 (bindO (unV .not (demote (demote (demote (demote (demote r42)))))) fun r56 =>
 ifP (demote r56)
 (bindO (partV false 1 9 (setAt [(.d (.int .i64 0)), (.d (.int .u64 0)), (.d (.int .u64 0)), (.d (.int .u64 0)), (.d (.int .u64 0)), (.d (.int .u64 0)), (.d (.int .u64 0)), (.d (.int .u64 0)), (.d (.int .u64 0)), (.d (.bool false)), (.d (.int .i64 0)), (.d (.int .u32 0)), (.d (.int .i64 0))] 0 r29)) fun r57 =>
 bindO (unV .not (demote (demote r57))) fun r58 =>
 ifP (demote (demote (demote r58)))
 ((SV.noRef (.d (.int .i64 2))) = true ∧
 (K (.d (.int .i64 2))))
 (bindO (partV false 1 11 (setAt [(.d (.int .i64 0)), (.d (.int .u64 0)), (.d (.int .u64 0)), (.d (.int .u64 0)), (.d (.int .u64 0)), (.d (.int .u64 0)), (.d (.int .u64 0)), (.d (.int .u64 0)), (.d (.int .u64 0)), (.d (.bool false)), (.d (.int .i64 0)), (.d (.int .u32 0)), (.d (.int .i64 0))] 0 r29)) fun r59 =>
 bindO (binV (some (false, [.int])) .eql (demote (demote r59)) (.d (.int .u32 0))) fun r60 =>
 ifP (demote (demote r60))
 ((SV.noRef (.d (.int .i64 2))) = true ∧
 (K (.d (.int .i64 2))))
 (bindO (partV false 1 0 (setAt [(.d (.int .i64 0)), (.d (.int .u64 0)), (.d (.int .u64 0)), (.d (.int .u64 0)), (.d (.int .u64 0)), (.d (.int .u64 0)), (.d (.int .u64 0)), (.d (.int .u64 0)), (.d (.int .u64 0)), (.d (.bool false)), (.d (.int .i64 0)), (.d (.int .u32 0)), (.d (.int .i64 0))] 0 r29)) fun r61 =>
 bindO (binV (some (false, [.int])) .eql (demote (demote r61)) (.d (.int .i64 4))) fun r62 =>
 ifP (demote r62)
 (bindO (partV false 1 12 (setAt [(.d (.int .i64 0)), (.d (.int .u64 0)), (.d (.int .u64 0)), (.d (.int .u64 0)), (.d (.int .u64 0)), (.d (.int .u64 0)), (.d (.int .u64 0)), (.d (.int .u64 0)), (.d (.int .u64 0)), (.d (.bool false)), (.d (.int .i64 0)), (.d (.int .u32 0)), (.d (.int .i64 0))] 0 r29)) fun r63 =>
 bindO (binV (some (false, [.int])) .neq (demote (demote r63)) (.d (.int .i64 0))) fun r64 =>
 ifP (demote (demote r64))
 ((SV.noRef (.d (.int .i64 2))) = true ∧
 (K (.d (.int .i64 2))))
 (bindO (binV none .add (demote (demote (vget vs20 0))) (.d (.int .i64 1))) fun r65 =>
 (I22 [(demote r65)] [(Box.vals (Box.cells (bget bs21 0)))])))
 (bindO (binV none .add (demote (demote (vget vs20 0))) (.d (.int .i64 1))) fun r66 =>
 (I22 [(demote r66)] [(Box.vals (Box.cells (bget bs21 0)))])))))
 (bindO (partV false 1 11 (setAt [(.d (.int .i64 0)), (.d (.int .u64 0)), (.d (.int .u64 0)), (.d (.int .u64 0)), (.d (.int .u64 0)), (.d (.int .u64 0)), (.d (.int .u64 0)), (.d (.int .u64 0)), (.d (.int .u64 0)), (.d (.bool false)), (.d (.int .i64 0)), (.d (.int .u32 0)), (.d (.int .i64 0))] 0 r29)) fun r67 =>
 bindO (binV (some (false, [.int])) .eql (demote (demote r67)) (.d (.int .u32 0))) fun r68 =>
 ifP (demote (demote r68))
 ((SV.noRef (.d (.int .i64 2))) = true ∧
 (K (.d (.int .i64 2))))
 (bindO (partV false 1 0 (setAt [(.d (.int .i64 0)), (.d (.int .u64 0)), (.d (.int .u64 0)), (.d (.int .u64 0)), (.d (.int .u64 0)), (.d (.int .u64 0)), (.d (.int .u64 0)), (.d (.int .u64 0)), (.d (.int .u64 0)), (.d (.bool false)), (.d (.int .i64 0)), (.d (.int .u32 0)), (.d (.int .i64 0))] 0 r29)) fun r69 =>
 bindO (binV (some (false, [.int])) .eql (demote (demote r69)) (.d (.int .i64 4))) fun r70 =>
 ifP (demote r70)
 (bindO (partV false 1 12 (setAt [(.d (.int .i64 0)), (.d (.int .u64 0)), (.d (.int .u64 0)), (.d (.int .u64 0)), (.d (.int .u64 0)), (.d (.int .u64 0)), (.d (.int .u64 0)), (.d (.int .u64 0)), (.d (.int .u64 0)), (.d (.bool false)), (.d (.int .i64 0)), (.d (.int .u32 0)), (.d (.int .i64 0))] 0 r29)) fun r71 =>
 bindO (binV (some (false, [.int])) .neq (demote (demote r71)) (.d (.int .i64 0))) fun r72 =>
 ifP (demote (demote r72))
 ((SV.noRef (.d (.int .i64 2))) = true ∧
 (K (.d (.int .i64 2))))
 (bindO (binV none .add (demote (demote (vget vs20 0))) (.d (.int .i64 1))) fun r73 =>
 (I22 [(demote r73)] [(Box.vals (Box.cells (bget bs21 0)))])))
 (bindO (binV none .add (demote (demote (vget vs20 0))) (.d (.int .i64 1))) fun r74 =>
 (I22 [(demote r74)] [(Box.vals (Box.cells (bget bs21 0)))]))))))))))))
 ((SV.noRef (.d (.int .i64 0))) = true ∧
 (K (.d (.int .i64 0)))))
 [(.d (.int .i64 0))] [(Box.vals (Box.cells (bget bs5 0)))])))
 [(.d (.int .i64 0))] [(Box.vals (Box.cells r0))]))) := by kernel_rfl

theorem body57 (C : Con) (x0 : SV) (K : SV → Prop) : body Go.Proofs.Tryz.prog gl C h57 57 [x0] K = (
 wfP [x0] (
 bindO (cellsV (demote x0)) fun r0 =>
 (List.length r0) = 17 ∧
 loopP (fun vs1 bs2 I3 =>
 bindO (partV false 1 10 (bget bs2 0)) fun r4 =>
 bindO (lenL (demote (demote r4))) fun r5 =>
 bindO (binV none .lss (demote (demote (vget vs1 0))) (demote r5)) fun r6 =>
 ifP r6
 (bindO (partV false 1 10 (bget bs2 0)) fun r7 =>
 bindO (elemPtr 13 (demote (demote r7)) (demote (demote (vget vs1 0)))) fun r8 =>
 bindO (addOffV (demote r8) 0) fun r9 =>
 bindO (loadV false 1 (demote r9)) fun r10 =>
 bindO (binV none .geq (demote (demote (demote r10))) (.d (.int .i64 1))) fun r11 =>
 ifP (demote r11)
 (bindO (binV none .leq (demote (demote (demote r10))) (.d (.int .i64 3))) fun r12 =>
 ifP (demote r12)
 (bindO (indexOk (demote (demote (demote r10))) 4) fun r13 =>
 bindO (partV false 1 (0 + (r13 * 1)) (bget bs2 1)) fun r14 =>
 bindO (binV none .add (demote (demote r14)) (.d (.int .i64 1))) fun r15 =>
 bindO (indexOk (demote (demote (demote r10))) 4) fun r16 =>
 bindO (cellsV (demote r15)) fun r17 =>
 (List.length r17) = 1 ∧
 ((0 + (r16 * 1)) + 1) ≤ (List.length (bget bs2 1)) ∧
 bindO (indexOk (demote (demote (demote r10))) 4) fun r18 =>
 bindO (partV false 1 (0 + (r18 * 1)) (setAt (bget bs2 1) (0 + (r16 * 1)) r17)) fun r19 =>
 bindO (binV none .gtr (demote (demote r19)) (.d (.int .i64 1024))) fun r20 =>
 ifP r20
 ((SV.noRef (.d (.int .i64 4))) = true ∧
 (K (.d (.int .i64 4))))
 (bindO (binV none .add (demote (demote (vget vs1 0))) (.d (.int .i64 1))) fun r21 =>
 (I3 [(demote r21)] [(Box.vals (Box.cells (bget bs2 0))), (Box.vals (Box.cells (setAt (bget bs2 1) (0 + (r16 * 1)) r17)))])))
 (bindO (binV none .add (demote (demote (vget vs1 0))) (.d (.int .i64 1))) fun r22 =>
 (I3 [(demote r22)] [(Box.vals (Box.cells (bget bs2 0))), (Box.vals (Box.cells (bget bs2 1)))])))
 (bindO (binV none .add (demote (demote (vget vs1 0))) (.d (.int .i64 1))) fun r23 =>
 (I3 [(demote r23)] [(Box.vals (Box.cells (bget bs2 0))), (Box.vals (Box.cells (bget bs2 1)))])))
 (loopP (fun vs24 bs25 I26 =>
 bindO (partV false 1 10 (bget bs25 0)) fun r27 =>
 bindO (lenL (demote (demote r27))) fun r28 =>
 bindO (binV none .lss (demote (demote (vget vs24 0))) (demote r28)) fun r29 =>
 ifP r29
 (bindO (partV false 1 10 (bget bs25 0)) fun r30 =>
 bindO (elemPtr 13 (demote (demote r30)) (demote (demote (vget vs24 0)))) fun r31 =>
 bindO (loadV true 13 (demote r31)) fun r32 =>
 bindO (cellsV (demote r32)) fun r33 =>
 (List.length r33) = 13 ∧
 13 ≤ 13 ∧
 bindO (partV false 1 0 (setAt [(.d (.int .i64 0)), (.d (.int .u64 0)), (.d (.int .u64 0)), (.d (.int .u64 0)), (.d (.int .u64 0)), (.d (.int .u64 0)), (.d (.int .u64 0)), (.d (.int .u64 0)), (.d (.int .u64 0)), (.d (.int .i64 0)), (.d (.str [])), (.d (.int .i64 0)), (.d (.int .i64 0))] 0 r33)) fun r34 =>
 bindO (binV none .lss (demote (demote r34)) (.d (.int .i64 1))) fun r35 =>
 ifP (demote r35)
 ((SV.noRef (.d (.int .i64 13))) = true ∧
 (K (.d (.int .i64 13))))
 (bindO (partV false 1 0 (setAt [(.d (.int .i64 0)), (.d (.int .u64 0)), (.d (.int .u64 0)), (.d (.int .u64 0)), (.d (.int .u64 0)), (.d (.int .u64 0)), (.d (.int .u64 0)), (.d (.int .u64 0)), (.d (.int .u64 0)), (.d (.int .i64 0)), (.d (.str [])), (.d (.int .i64 0)), (.d (.int .i64 0))] 0 r33)) fun r36 =>
 bindO (binV none .gtr (demote (demote r36)) (.d (.int .i64 3))) fun r37 =>
 ifP (demote r37)
 ((SV.noRef (.d (.int .i64 13))) = true ∧
 (K (.d (.int .i64 13))))
 (bindO (partV true 4 1 (setAt [(.d (.int .i64 0)), (.d (.int .u64 0)), (.d (.int .u64 0)), (.d (.int .u64 0)), (.d (.int .u64 0)), (.d (.int .u64 0)), (.d (.int .u64 0)), (.d (.int .u64 0)), (.d (.int .u64 0)), (.d (.int .i64 0)), (.d (.str [])), (.d (.int .i64 0)), (.d (.int .i64 0))] 0 r33)) fun r38 =>
 bindO (partV false 1 1 (bget bs25 0)) fun r39 =>
 bindO (lenL (demote (demote r39))) fun r40 =>
 ∃ r41,
 ∃ r42,
 (C 93 [(demote (demote (demote r38))), (demote (demote r40))] (.tup [r41, r42])) ∧
 bindO (partV true 4 5 (setAt [(.d (.int .i64 0)), (.d (.int .u64 0)), (.d (.int .u64 0)), (.d (.int .u64 0)), (.d (.int .u64 0)), (.d (.int .u64 0)), (.d (.int .u64 0)), (.d (.int .u64 0)), (.d (.int .u64 0)), (.d (.int .i64 0)), (.d (.str [])), (.d (.int .i64 0)), (.d (.int .i64 0))] 0 r33)) fun r43 =>
 bindO (partV false 1 1 (bget bs25 0)) fun r44 =>
 bindO (lenL (demote (demote r44))) fun r45 =>
 ∃ r46,
 ∃ r47,
 (C 93 [(demote (demote (demote r43))), (demote (demote r45))] (.tup [r46, r47])) ∧
 bindO (unV .not (demote (demote (demote (demote (demote r42)))))) fun r48 =>
 ifP (demote r48)
 ((SV.noRef (.d (.int .i64 3))) = true ∧
 (K (.d (.int .i64 3))))
 (bindO (unV .not (demote (demote (demote (demote (demote r47)))))) fun r49 =>
 ifP (demote (demote r49))
 ((SV.noRef (.d (.int .i64 3))) = true ∧
 (K (.d (.int .i64 3))))
 (bindO (partV false 1 9 (setAt [(.d (.int .i64 0)), (.d (.int .u64 0)), (.d (.int .u64 0)), (.d (.int .u64 0)), (.d (.int .u64 0)), (.d (.int .u64 0)), (.d (.int .u64 0)), (.d (.int .u64 0)), (.d (.int .u64 0)), (.d (.int .i64 0)), (.d (.str [])), (.d (.int .i64 0)), (.d (.int .i64 0))] 0 r33)) fun r50 =>
 bindO (partV false 1 0 (bget bs25 0)) fun r51 =>
 bindO (lenL (demote (demote r51))) fun r52 =>
 callP C 101 [(demote (demote (demote r50))), (demote (demote r52))] fun r53 =>
 bindO (unV .not (demote r53)) fun r54 =>
 ifP (demote (demote r54))
 ((SV.noRef (.d (.int .i64 3))) = true ∧
 (K (.d (.int .i64 3))))
 (bindO (partV false 1 11 (setAt [(.d (.int .i64 0)), (.d (.int .u64 0)), (.d (.int .u64 0)), (.d (.int .u64 0)), (.d (.int .u64 0)), (.d (.int .u64 0)), (.d (.int .u64 0)), (.d (.int .u64 0)), (.d (.int .u64 0)), (.d (.int .i64 0)), (.d (.str [])), (.d (.int .i64 0)), (.d (.int .i64 0))] 0 r33)) fun r55 =>
 bindO (partV false 1 1 (bget bs25 0)) fun r56 =>
 bindO (lenL (demote (demote r56))) fun r57 =>
 callP C 101 [(demote (demote (demote r55))), (demote (demote r57))] fun r58 =>
 bindO (unV .not (demote r58)) fun r59 =>
 ifP (demote (demote r59))
 ((SV.noRef (.d (.int .i64 3))) = true ∧
 (K (.d (.int .i64 3))))
 (bindO (partV true 17 0 (bget bs25 0)) fun r60 =>
 bindO (partV false 1 12 (setAt [(.d (.int .i64 0)), (.d (.int .u64 0)), (.d (.int .u64 0)), (.d (.int .u64 0)), (.d (.int .u64 0)), (.d (.int .u64 0)), (.d (.int .u64 0)), (.d (.int .u64 0)), (.d (.int .u64 0)), (.d (.int .i64 0)), (.d (.str [])), (.d (.int .i64 0)), (.d (.int .i64 0))] 0 r33)) fun r61 =>
 callP C 100 [(demote (demote (demote r60))), (demote (demote (demote r61)))] fun r62 =>
 bindO (unV .not (demote r62)) fun r63 =>
 ifP (demote r63)
 ((SV.noRef (.d (.int .i64 3))) = true ∧
 (K (.d (.int .i64 3))))
 (bindO (unV .not (demote (demote (demote (demote (demote r41)))))) fun r64 =>
 ifP (demote r64)
 ((SV.noRef (.d (.int .i64 2))) = true ∧
 (K (.d (.int .i64 2))))
 (bindO (unV .not (demote (demote (demote (demote (demote r46)))))) fun r65 =>
 ifP (demote (demote r65))
 ((SV.noRef (.d (.int .i64 2))) = true ∧
 (K (.d (.int .i64 2))))
 (bindO (partV false 1 0 (setAt [(.d (.int .i64 0)), (.d (.int .u64 0)), (.d (.int .u64 0)), (.d (.int .u64 0)), (.d (.int .u64 0)), (.d (.int .u64 0)), (.d (.int .u64 0)), (.d (.int .u64 0)), (.d (.int .u64 0)), (.d (.int .i64 0)), (.d (.str [])), (.d (.int .i64 0)), (.d (.int .i64 0))] 0 r33)) fun r66 =>
 bindO (binV (some (false, [.int])) .neq (demote (demote r66)) (.d (.int .i64 1))) fun r67 =>
 ifP (demote r67)
 (bindO (partV false 1 10 (setAt [(.d (.int .i64 0)), (.d (.int .u64 0)), (.d (.int .u64 0)), (.d (.int .u64 0)), (.d (.int .u64 0)), (.d (.int .u64 0)), (.d (.int .u64 0)), (.d (.int .u64 0)), (.d (.int .u64 0)), (.d (.int .i64 0)), (.d (.str [])), (.d (.int .i64 0)), (.d (.int .i64 0))] 0 r33)) fun r68 =>
 bindO (binV (some (false, [.str])) .neq (demote (demote r68)) (.d (.str []))) fun r69 =>
 ifP (demote (demote r69))
 ((SV.noRef (.d (.int .i64 2))) = true ∧
 (K (.d (.int .i64 2))))
 (bindO (partV false 1 10 (setAt [(.d (.int .i64 0)), (.d (.int .u64 0)), (.d (.int .u64 0)), (.d (.int .u64 0)), (.d (.int .u64 0)), (.d (.int .u64 0)), (.d (.int .u64 0)), (.d (.int .u64 0)), (.d (.int .u64 0)), (.d (.int .i64 0)), (.d (.str [])), (.d (.int .i64 0)), (.d (.int .i64 0))] 0 r33)) fun r70 =>
 bindO (binV (some (false, [.str])) .neq (demote (demote r70)) (.d (.str []))) fun r71 =>
 ifP (demote r71)
 (bindO (partV false 1 10 (setAt [(.d (.int .i64 0)), (.d (.int .u64 0)), (.d (.int .u64 0)), (.d (.int .u64 0)), (.d (.int .u64 0)), (.d (.int .u64 0)), (.d (.int .u64 0)), (.d (.int .u64 0)), (.d (.int .u64 0)), (.d (.int .i64 0)), (.d (.str [])), (.d (.int .i64 0)), (.d (.int .i64 0))] 0 r33)) fun r72 =>
 callP C 102 [(demote (demote (demote r72)))] fun r73 =>
 bindO (unV .not (demote r73)) fun r74 =>
 ifP (demote r74)
 ((SV.noRef (.d (.int .i64 10))) = true ∧
 (K (.d (.int .i64 10))))
 (bindO (binV none .add (demote (demote (vget vs24 0))) (.d (.int .i64 1))) fun r75 =>
 (I26 [(demote r75)] [(Box.vals (Box.cells (bget bs25 0))), (Box.vals (Box.cells (bget bs25 1)))])))
 (bindO (binV none .add (demote (demote (vget vs24 0))) (.d (.int .i64 1))) fun r76 =>
 (I26 [(demote r76)] [(Box.vals (Box.cells (bget bs25 0))), (Box.vals (Box.cells (bget bs25 1)))]))))
 (bindO (partV false 1 10 (setAt [(.d (.int .i64 0)), (.d (.int .u64 0)), (.d (.int .u64 0)), (.d (.int .u64 0)), (.d (.int .u64 0)), (.d (.int .u64 0)), (.d (.int .u64 0)), (.d (.int .u64 0)), (.d (.int .u64 0)), (.d (.int .i64 0)), (.d (.str [])), (.d (.int .i64 0)), (.d (.int .i64 0))] 0 r33)) fun r77 =>
 bindO (binV (some (false, [.str])) .neq (demote (demote r77)) (.d (.str []))) fun r78 =>
 ifP (demote r78)
 (bindO (partV false 1 10 (setAt [(.d (.int .i64 0)), (.d (.int .u64 0)), (.d (.int .u64 0)), (.d (.int .u64 0)), (.d (.int .u64 0)), (.d (.int .u64 0)), (.d (.int .u64 0)), (.d (.int .u64 0)), (.d (.int .u64 0)), (.d (.int .i64 0)), (.d (.str [])), (.d (.int .i64 0)), (.d (.int .i64 0))] 0 r33)) fun r79 =>
 callP C 102 [(demote (demote (demote r79)))] fun r80 =>
 bindO (unV .not (demote r80)) fun r81 =>
 ifP (demote r81)
 ((SV.noRef (.d (.int .i64 10))) = true ∧
 (K (.d (.int .i64 10))))
 (bindO (binV none .add (demote (demote (vget vs24 0))) (.d (.int .i64 1))) fun r82 =>
 (I26 [(demote r82)] [(Box.vals (Box.cells (bget bs25 0))), (Box.vals (Box.cells (bget bs25 1)))])))
 (bindO (binV none .add (demote (demote (vget vs24 0))) (.d (.int .i64 1))) fun r83 =>
 (I26 [(demote r83)] [(Box.vals (Box.cells (bget bs25 0))), (Box.vals (Box.cells (bget bs25 1)))])))))))))))))
 ((SV.noRef (.d (.int .i64 0))) = true ∧
 (K (.d (.int .i64 0)))))
 [(.d (.int .i64 0))] [(Box.vals (Box.cells (bget bs2 0))), (Box.vals (Box.cells (bget bs2 1)))]))
 [(.d (.int .i64 0))] [(Box.vals (Box.cells r0)), [(.d (.int .i64 0)), (.d (.int .i64 0)), (.d (.int .i64 0)), (.d (.int .i64 0))]])) := by kernel_rfl

theorem body58 (C : Con) (x0 : SV) (K : SV → Prop) : body Go.Proofs.Tryz.prog gl C h58 58 [x0] K = (
 wfP [x0] (
 bindO (cellsV (demote x0)) fun r0 =>
 (List.length r0) = 17 ∧
 bindO (partV false 1 11 r0) fun r1 =>
 bindO (lenL (demote (demote r1))) fun r2 =>
 bindO (binV none .gtr (demote r2) (.d (.int .i64 1024))) fun r3 =>
 ifP r3
 ((SV.noRef (.d (.int .i64 4))) = true ∧
 (K (.d (.int .i64 4))))
 (loopP (fun vs4 bs5 I6 =>
 bindO (partV false 1 11 (bget bs5 0)) fun r7 =>
 bindO (lenL (demote (demote r7))) fun r8 =>
 bindO (binV none .lss (demote (demote (vget vs4 0))) (demote r8)) fun r9 =>
 ifP r9
 (bindO (partV false 1 11 (bget bs5 0)) fun r10 =>
 bindO (elemPtr 10 (demote (demote r10)) (demote (demote (vget vs4 0)))) fun r11 =>
 bindO (loadV true 10 (demote r11)) fun r12 =>
 bindO (cellsV (demote r12)) fun r13 =>
 (List.length r13) = 10 ∧
 10 ≤ 10 ∧
 bindO (partV true 4 0 (setAt [(.d (.int .u64 0)), (.d (.int .u64 0)), (.d (.int .u64 0)), (.d (.int .u64 0)), (.d (.int .u64 0)), (.d (.int .u64 0)), (.d (.int .u64 0)), (.d (.int .u64 0)), (.d (.int .i64 0)), (.d (.int .i64 0))] 0 r13)) fun r14 =>
 bindO (partsS []) fun r15 =>
 bindO (buildD Proofs.Tryz.prog 25 r15) fun r16 =>
 bindO (binV (some (true, [.int, .int, .int, .int])) .neq (demote (demote r14)) (.d r16)) fun r17 =>
 bindO (partV true 17 0 (bget bs5 0)) fun r18 =>
 bindO (partV true 4 0 (setAt [(.d (.int .u64 0)), (.d (.int .u64 0)), (.d (.int .u64 0)), (.d (.int .u64 0)), (.d (.int .u64 0)), (.d (.int .u64 0)), (.d (.int .u64 0)), (.d (.int .u64 0)), (.d (.int .i64 0)), (.d (.int .i64 0))] 0 r13)) fun r19 =>
 callP C 94 [(demote (demote (demote r18))), (demote (demote (demote r19)))] fun r20 =>
 bindO (partV true 4 4 (setAt [(.d (.int .u64 0)), (.d (.int .u64 0)), (.d (.int .u64 0)), (.d (.int .u64 0)), (.d (.int .u64 0)), (.d (.int .u64 0)), (.d (.int .u64 0)), (.d (.int .u64 0)), (.d (.int .i64 0)), (.d (.int .i64 0))] 0 r13)) fun r21 =>
 bindO (partV false 1 1 (bget bs5 0)) fun r22 =>
 bindO (lenL (demote (demote r22))) fun r23 =>
 ∃ r24,
 ∃ r25,
 (C 93 [(demote (demote (demote r21))), (demote (demote r23))] (.tup [r24, r25])) ∧
 bindO (unV .not (demote (demote (demote r20)))) fun r26 =>
 ifP (demote r26)
 ((SV.noRef (.d (.int .i64 3))) = true ∧
 (K (.d (.int .i64 3))))
 (bindO (unV .not (demote (demote (demote (demote (demote r25)))))) fun r27 =>
 ifP (demote (demote r27))
 ((SV.noRef (.d (.int .i64 3))) = true ∧
 (K (.d (.int .i64 3))))
 (bindO (partV false 1 8 (setAt [(.d (.int .u64 0)), (.d (.int .u64 0)), (.d (.int .u64 0)), (.d (.int .u64 0)), (.d (.int .u64 0)), (.d (.int .u64 0)), (.d (.int .u64 0)), (.d (.int .u64 0)), (.d (.int .i64 0)), (.d (.int .i64 0))] 0 r13)) fun r28 =>
 bindO (partV false 1 0 (bget bs5 0)) fun r29 =>
 bindO (lenL (demote (demote r29))) fun r30 =>
 callP C 101 [(demote (demote (demote r28))), (demote (demote r30))] fun r31 =>
 bindO (unV .not (demote r31)) fun r32 =>
 ifP (demote (demote r32))
 ((SV.noRef (.d (.int .i64 3))) = true ∧
 (K (.d (.int .i64 3))))
 (bindO (partV false 1 9 (setAt [(.d (.int .u64 0)), (.d (.int .u64 0)), (.d (.int .u64 0)), (.d (.int .u64 0)), (.d (.int .u64 0)), (.d (.int .u64 0)), (.d (.int .u64 0)), (.d (.int .u64 0)), (.d (.int .i64 0)), (.d (.int .i64 0))] 0 r13)) fun r33 =>
 bindO (partV false 1 3 (bget bs5 0)) fun r34 =>
 bindO (lenL (demote (demote r34))) fun r35 =>
 callP C 101 [(demote (demote (demote r33))), (demote (demote r35))] fun r36 =>
 bindO (unV .not (demote r36)) fun r37 =>
 ifP (demote (demote r37))
 ((SV.noRef (.d (.int .i64 3))) = true ∧
 (K (.d (.int .i64 3))))
 (bindO (partV false 1 9 (setAt [(.d (.int .u64 0)), (.d (.int .u64 0)), (.d (.int .u64 0)), (.d (.int .u64 0)), (.d (.int .u64 0)), (.d (.int .u64 0)), (.d (.int .u64 0)), (.d (.int .u64 0)), (.d (.int .i64 0)), (.d (.int .i64 0))] 0 r13)) fun r38 =>
 bindO (binV (some (false, [.int])) .eql (demote (demote r38)) (.d (.int .i64 0))) fun r39 =>
 ifP (demote r39)
 ((SV.noRef (.d (.int .i64 3))) = true ∧
 (K (.d (.int .i64 3))))
 (bindO (unV .not (demote (demote (demote r17)))) fun r40 =>
 ifP (demote r40)
 ((SV.noRef (.d (.int .i64 2))) = true ∧
 (K (.d (.int .i64 2))))
 (bindO (unV .not (demote (demote (demote (demote (demote r24)))))) fun r41 =>
 ifP (demote r41)
 ((SV.noRef (.d (.int .i64 2))) = true ∧
 (K (.d (.int .i64 2))))
 (bindO (binV none .add (demote (demote (vget vs4 0))) (.d (.int .i64 1))) fun r42 =>
 (I6 [(demote r42)] [(Box.vals (Box.cells (bget bs5 0)))])))))))))
 (bindO (partV false 1 12 (bget bs5 0)) fun r43 =>
 bindO (lenL (demote (demote r43))) fun r44 =>
 bindO (binV none .gtr (demote r44) (.d (.int .i64 1024))) fun r45 =>
 ifP r45
 ((SV.noRef (.d (.int .i64 4))) = true ∧
 (K (.d (.int .i64 4))))
 (loopP (fun vs46 bs47 I48 =>
 bindO (partV false 1 12 (bget bs47 0)) fun r49 =>
 bindO (lenL (demote (demote r49))) fun r50 =>
 bindO (binV none .lss (demote (demote (vget vs46 0))) (demote r50)) fun r51 =>
 ifP r51
 (bindO (partV false 1 12 (bget bs47 0)) fun r52 =>
 bindO (elemPtr 13 (demote (demote r52)) (demote (demote (vget vs46 0)))) fun r53 =>
 bindO (loadV true 13 (demote r53)) fun r54 =>
 bindO (cellsV (demote r54)) fun r55 =>
 (List.length r55) = 13 ∧
 13 ≤ 13 ∧
 bindO (partV true 4 0 (setAt [(.d (.int .u64 0)), (.d (.int .u64 0)), (.d (.int .u64 0)), (.d (.int .u64 0)), (.d (.int .u64 0)), (.d (.int .u64 0)), (.d (.int .u64 0)), (.d (.int .u64 0)), (.d (.int .i64 0)), (.d (.int .i64 0)), (.d (.int .u64 0)), (.d (.int .i64 0)), (.d (.int .u64 0))] 0 r55)) fun r56 =>
 bindO (partV false 1 1 (bget bs47 0)) fun r57 =>
 bindO (lenL (demote (demote r57))) fun r58 =>
 ∃ r59,
 ∃ r60,
 (C 93 [(demote (demote (demote r56))), (demote (demote r58))] (.tup [r59, r60])) ∧
 bindO (partV true 4 4 (setAt [(.d (.int .u64 0)), (.d (.int .u64 0)), (.d (.int .u64 0)), (.d (.int .u64 0)), (.d (.int .u64 0)), (.d (.int .u64 0)), (.d (.int .u64 0)), (.d (.int .u64 0)), (.d (.int .i64 0)), (.d (.int .i64 0)), (.d (.int .u64 0)), (.d (.int .i64 0)), (.d (.int .u64 0))] 0 r55)) fun r61 =>
 bindO (partV false 1 1 (bget bs47 0)) fun r62 =>
 bindO (lenL (demote (demote r62))) fun r63 =>
 ∃ r64,
 ∃ r65,
 (C 93 [(demote (demote (demote r61))), (demote (demote r63))] (.tup [r64, r65])) ∧
 bindO (unV .not (demote (demote (demote (demote (demote r60)))))) fun r66 =>
 ifP (demote r66)
 ((SV.noRef (.d (.int .i64 3))) = true ∧
 (K (.d (.int .i64 3))))
 (bindO (unV .not (demote (demote (demote (demote (demote r65)))))) fun r67 =>
 ifP (demote (demote r67))
 ((SV.noRef (.d (.int .i64 3))) = true ∧
 (K (.d (.int .i64 3))))
 (bindO (partV false 1 8 (setAt [(.d (.int .u64 0)), (.d (.int .u64 0)), (.d (.int .u64 0)), (.d (.int .u64 0)), (.d (.int .u64 0)), (.d (.int .u64 0)), (.d (.int .u64 0)), (.d (.int .u64 0)), (.d (.int .i64 0)), (.d (.int .i64 0)), (.d (.int .u64 0)), (.d (.int .i64 0)), (.d (.int .u64 0))] 0 r55)) fun r68 =>
 bindO (partV false 1 0 (bget bs47 0)) fun r69 =>
 bindO (lenL (demote (demote r69))) fun r70 =>
 callP C 101 [(demote (demote (demote r68))), (demote (demote r70))] fun r71 =>
 bindO (unV .not (demote r71)) fun r72 =>
 ifP (demote r72)
 ((SV.noRef (.d (.int .i64 3))) = true ∧
 (K (.d (.int .i64 3))))
 (bindO (unV .not (demote (demote (demote (demote (demote r59)))))) fun r73 =>
 ifP (demote r73)
 ((SV.noRef (.d (.int .i64 2))) = true ∧
 (K (.d (.int .i64 2))))
 (bindO (unV .not (demote (demote (demote (demote (demote r64)))))) fun r74 =>
 ifP (demote r74)
 ((SV.noRef (.d (.int .i64 2))) = true ∧
 (K (.d (.int .i64 2))))
 (bindO (partV true 17 0 (bget bs47 0)) fun r75 =>
 bindO (partV true 4 9 (setAt [(.d (.int .u64 0)), (.d (.int .u64 0)), (.d (.int .u64 0)), (.d (.int .u64 0)), (.d (.int .u64 0)), (.d (.int .u64 0)), (.d (.int .u64 0)), (.d (.int .u64 0)), (.d (.int .i64 0)), (.d (.int .i64 0)), (.d (.int .u64 0)), (.d (.int .i64 0)), (.d (.int .u64 0))] 0 r55)) fun r76 =>
 callP C 95 [(demote (demote (demote r75))), (demote (demote (demote r76)))] fun r77 =>
 bindO (unV .not (demote r77)) fun r78 =>
 ifP r78
 ((SV.noRef (.d (.int .i64 18))) = true ∧
 (K (.d (.int .i64 18))))
 (bindO (binV none .add (demote (demote (vget vs46 0))) (.d (.int .i64 1))) fun r79 =>
 (I48 [(demote r79)] [(Box.vals (Box.cells (bget bs47 0)))]))))))))
 ((SV.noRef (.d (.int .i64 0))) = true ∧
 (K (.d (.int .i64 0)))))
 [(.d (.int .i64 0))] [(Box.vals (Box.cells (bget bs5 0)))])))
 [(.d (.int .i64 0))] [(Box.vals (Box.cells r0))]))) := by kernel_rfl

theorem body59 (C : Con) (x0 : SV) (K : SV → Prop) : body Go.Proofs.Tryz.prog gl C h59 59 [x0] K = (
 wfP [x0] (
 bindO (cellsV (demote x0)) fun r0 =>
 (List.length r0) = 17 ∧
 bindO (partV false 1 13 r0) fun r1 =>
 bindO (lenL (demote (demote r1))) fun r2 =>
 bindO (binV none .gtr (demote r2) (.d (.int .i64 64))) fun r3 =>
 ifP r3
 ((SV.noRef (.d (.int .i64 4))) = true ∧
 (K (.d (.int .i64 4))))
 (loopP (fun vs4 bs5 I6 =>
 bindO (partV false 1 13 (bget bs5 0)) fun r7 =>
 bindO (lenL (demote (demote r7))) fun r8 =>
 bindO (binV none .lss (demote (demote (vget vs4 0))) (demote r8)) fun r9 =>
 ifP r9
 (bindO (partV false 1 13 (bget bs5 0)) fun r10 =>
 bindO (elemPtr 13 (demote (demote r10)) (demote (demote (vget vs4 0)))) fun r11 =>
 bindO (loadV true 13 (demote r11)) fun r12 =>
 bindO (cellsV (demote r12)) fun r13 =>
 (List.length r13) = 13 ∧
 13 ≤ 13 ∧
 bindO (partV true 17 0 (bget bs5 0)) fun r14 =>
 bindO (partV false 1 0 (setAt [(.d (.int .i64 0)), (.d (.int .u32 0)), (.d (.bool false)), (.d (.int .i64 0)), (.d (.int .i64 0)), (.d (.int .i64 0)), (.d (.int .i64 0)), (.d (.sl .nil 0 [])), (.d (.int .u64 0)), (.d (.int .u64 0)), (.d (.int .u64 0)), (.d (.int .u64 0)), (.d (.sl .nil 0 []))] 0 r13)) fun r15 =>
 bindO (partV false 1 1 (setAt [(.d (.int .i64 0)), (.d (.int .u32 0)), (.d (.bool false)), (.d (.int .i64 0)), (.d (.int .i64 0)), (.d (.int .i64 0)), (.d (.int .i64 0)), (.d (.sl .nil 0 [])), (.d (.int .u64 0)), (.d (.int .u64 0)), (.d (.int .u64 0)), (.d (.int .u64 0)), (.d (.sl .nil 0 []))] 0 r13)) fun r16 =>
 callP C 99 [(demote (demote (demote r14))), (demote (demote (demote r15))), (demote (demote (demote r16)))] fun r17 =>
 bindO (unV .not (demote r17)) fun r18 =>
 ifP r18
 ((SV.noRef (.d (.int .i64 3))) = true ∧
 (K (.d (.int .i64 3))))
 (bindO (partV false 1 2 (setAt [(.d (.int .i64 0)), (.d (.int .u32 0)), (.d (.bool false)), (.d (.int .i64 0)), (.d (.int .i64 0)), (.d (.int .i64 0)), (.d (.int .i64 0)), (.d (.sl .nil 0 [])), (.d (.int .u64 0)), (.d (.int .u64 0)), (.d (.int .u64 0)), (.d (.int .u64 0)), (.d (.sl .nil 0 []))] 0 r13)) fun r19 =>
 bindO (partV false 1 1 (setAt [(.d (.int .i64 0)), (.d (.int .u32 0)), (.d (.bool false)), (.d (.int .i64 0)), (.d (.int .i64 0)), (.d (.int .i64 0)), (.d (.int .i64 0)), (.d (.sl .nil 0 [])), (.d (.int .u64 0)), (.d (.int .u64 0)), (.d (.int .u64 0)), (.d (.int .u64 0)), (.d (.sl .nil 0 []))] 0 r13)) fun r20 =>
 bindO (binV (some (false, [.int])) .eql (demote (demote r20)) (.d (.int .u32 0))) fun r21 =>
 bindO (binV (some (false, [.bool])) .neq (demote (demote r19)) (demote r21)) fun r22 =>
 ifP r22
 ((SV.noRef (.d (.int .i64 2))) = true ∧
 (K (.d (.int .i64 2))))
 (bindO (partV true 17 0 (bget bs5 0)) fun r23 =>
 bindO (partV true 10 3 (setAt [(.d (.int .i64 0)), (.d (.int .u32 0)), (.d (.bool false)), (.d (.int .i64 0)), (.d (.int .i64 0)), (.d (.int .i64 0)), (.d (.int .i64 0)), (.d (.sl .nil 0 [])), (.d (.int .u64 0)), (.d (.int .u64 0)), (.d (.int .u64 0)), (.d (.int .u64 0)), (.d (.sl .nil 0 []))] 0 r13)) fun r24 =>
 bindO (partV false 1 2 (setAt [(.d (.int .i64 0)), (.d (.int .u32 0)), (.d (.bool false)), (.d (.int .i64 0)), (.d (.int .i64 0)), (.d (.int .i64 0)), (.d (.int .i64 0)), (.d (.sl .nil 0 [])), (.d (.int .u64 0)), (.d (.int .u64 0)), (.d (.int .u64 0)), (.d (.int .u64 0)), (.d (.sl .nil 0 []))] 0 r13)) fun r25 =>
 callP C 103 [(demote (demote (demote r23))), (demote (demote (demote r24))), (demote (demote (demote r25)))] fun r26 =>
 bindO (binV (some (false, [.int])) .neq (demote (demote (demote r26))) (.d (.int .i64 0))) fun r27 =>
 ifP r27
 ((SV.noRef (demote (demote (demote r26)))) = true ∧
 (K (demote (demote (demote r26)))))
 (bindO (binV none .add (demote (demote (vget vs4 0))) (.d (.int .i64 1))) fun r28 =>
 (I6 [(demote r28)] [(Box.vals (Box.cells (bget bs5 0)))])))))
 ((SV.noRef (.d (.int .i64 0))) = true ∧
 (K (.d (.int .i64 0)))))
 [(.d (.int .i64 0))] [(Box.vals (Box.cells r0))]))) := by kernel_rfl

theorem body60 (C : Con) (x0 : SV) (K : SV → Prop) : body Go.Proofs.Tryz.prog gl C h60 60 [x0] K = (
 wfP [x0] (
 bindO (cellsV (demote x0)) fun r0 =>
 (List.length r0) = 17 ∧
 bindO (partV false 1 14 r0) fun r1 =>
 bindO (lenL (demote (demote r1))) fun r2 =>
 bindO (binV none .gtr (demote r2) (.d (.int .i64 1024))) fun r3 =>
 ifP r3
 ((SV.noRef (.d (.int .i64 4))) = true ∧
 (K (.d (.int .i64 4))))
 (loopP (fun vs4 bs5 I6 =>
 bindO (partV false 1 14 (bget bs5 0)) fun r7 =>
 bindO (lenL (demote (demote r7))) fun r8 =>
 bindO (binV none .lss (demote (demote (vget vs4 1))) (demote r8)) fun r9 =>
 ifP r9
 (bindO (partV false 1 14 (bget bs5 0)) fun r10 =>
 bindO (elemPtr 8 (demote (demote r10)) (demote (demote (vget vs4 1)))) fun r11 =>
 bindO (addOffV (demote r11) 0) fun r12 =>
 bindO (loadV false 1 (demote r12)) fun r13 =>
 bindO (partsS [(0, (.v (demote r13)))]) fun r14 =>
 (partsFit 1 1 r14) = true ∧
 callP C 91 [(.full 1 (buildElems (mkElem false [(.str [])]) r14 1 0)), (demote (demote (demote (vget vs4 0))))] fun r15 =>
 bindO (binV (some (false, [.int])) .neq (demote (demote (demote r15))) (.d (.int .i64 0))) fun r16 =>
 ifP r16
 ((SV.noRef (demote (demote (demote r15)))) = true ∧
 (K (demote (demote (demote r15)))))
 (bindO (partV false 1 14 (bget bs5 0)) fun r17 =>
 bindO (elemPtr 8 (demote (demote r17)) (demote (demote (vget vs4 1)))) fun r18 =>
 bindO (addOffV (demote r18) 0) fun r19 =>
 bindO (loadV false 1 (demote r19)) fun r20 =>
 bindO (partsS [(0, (.v (demote r20)))]) fun r21 =>
 (partsFit 1 1 r21) = true ∧
 appP 1 16 (vget vs4 0) (.full 1 (buildElems (mkElem false [(.str [])]) r21 1 0)) fun r22 =>
 bindO (partV true 17 0 (bget bs5 0)) fun r23 =>
 bindO (partV false 1 14 (bget bs5 0)) fun r24 =>
 bindO (elemPtr 8 (demote (demote r24)) (demote (demote (vget vs4 1)))) fun r25 =>
 bindO (addOffV (demote r25) 1) fun r26 =>
 bindO (loadV true 7 (demote r26)) fun r27 =>
 callP C 104 [(demote (demote (demote r23))), (demote (demote r27))] fun r28 =>
 bindO (binV (some (false, [.int])) .neq (demote (demote (demote r28))) (.d (.int .i64 0))) fun r29 =>
 ifP r29
 ((SV.noRef (demote (demote (demote r28)))) = true ∧
 (K (demote (demote (demote r28)))))
 (bindO (binV none .add (demote (demote (vget vs4 1))) (.d (.int .i64 1))) fun r30 =>
 (I6 [r22, (demote r30)] [(Box.vals (Box.cells (bget bs5 0)))]))))
 (bindO (partV false 1 15 (bget bs5 0)) fun r31 =>
 bindO (lenL (demote (demote r31))) fun r32 =>
 bindO (binV none .gtr (demote r32) (.d (.int .i64 256))) fun r33 =>
 ifP r33
 ((SV.noRef (.d (.int .i64 4))) = true ∧
 (K (.d (.int .i64 4))))
 (loopP (fun vs34 bs35 I36 =>
 bindO (partV false 1 15 (bget bs35 0)) fun r37 =>
 bindO (lenL (demote (demote r37))) fun r38 =>
 bindO (binV none .lss (demote (demote (vget vs34 0))) (demote r38)) fun r39 =>
 ifP r39
 (bindO (partV false 1 15 (bget bs35 0)) fun r40 =>
 bindO (elemPtr 9 (demote (demote r40)) (demote (demote (vget vs34 0)))) fun r41 =>
 bindO (loadV true 9 (demote r41)) fun r42 =>
 bindO (cellsV (demote r42)) fun r43 =>
 (List.length r43) = 9 ∧
 9 ≤ 9 ∧
 bindO (partV false 1 0 (setAt [(.d (.str [])), (.d (.int .i64 0)), (.d (.int .i64 0)), (.d (.int .i64 0)), (.d (.int .i64 0)), (.d (.int .i64 0)), (.d (.int .u64 0)), (.d (.int .i64 0)), (.d (.int .u64 0))] 0 r43)) fun r44 =>
 bindO (binV (some (false, [.str])) .eql (demote (demote r44)) (.d (.str []))) fun r45 =>
 ifP (demote r45)
 ((SV.noRef (.d (.int .i64 10))) = true ∧
 (K (.d (.int .i64 10))))
 (bindO (partV false 1 0 (setAt [(.d (.str [])), (.d (.int .i64 0)), (.d (.int .i64 0)), (.d (.int .i64 0)), (.d (.int .i64 0)), (.d (.int .i64 0)), (.d (.int .u64 0)), (.d (.int .i64 0)), (.d (.int .u64 0))] 0 r43)) fun r46 =>
 bindO (partsS [(0, (.v (.d (.int .i64 3)))), (1, (.v (demote (demote r46))))]) fun r47 =>
 bindO (buildD Proofs.Tryz.prog 158 r47) fun r48 =>
 callP C 105 [(.d r48)] fun r49 =>
 bindO (unV .not (demote r49)) fun r50 =>
 ifP (demote r50)
 ((SV.noRef (.d (.int .i64 10))) = true ∧
 (K (.d (.int .i64 10))))
 (bindO (partV false 1 1 (setAt [(.d (.str [])), (.d (.int .i64 0)), (.d (.int .i64 0)), (.d (.int .i64 0)), (.d (.int .i64 0)), (.d (.int .i64 0)), (.d (.int .u64 0)), (.d (.int .i64 0)), (.d (.int .u64 0))] 0 r43)) fun r51 =>
 bindO (binV none .lss (demote (demote r51)) (.d (.int .i64 0))) fun r52 =>
 ifP (demote r52)
 ((SV.noRef (.d (.int .i64 13))) = true ∧
 (K (.d (.int .i64 13))))
 (bindO (partV false 1 1 (setAt [(.d (.str [])), (.d (.int .i64 0)), (.d (.int .i64 0)), (.d (.int .i64 0)), (.d (.int .i64 0)), (.d (.int .i64 0)), (.d (.int .u64 0)), (.d (.int .i64 0)), (.d (.int .u64 0))] 0 r43)) fun r53 =>
 bindO (binV none .gtr (demote (demote r53)) (.d (.int .i64 4))) fun r54 =>
 ifP (demote r54)
 ((SV.noRef (.d (.int .i64 13))) = true ∧
 (K (.d (.int .i64 13))))
 (bindO (partV true 17 0 (bget bs35 0)) fun r55 =>
 bindO (partV true 7 2 (setAt [(.d (.str [])), (.d (.int .i64 0)), (.d (.int .i64 0)), (.d (.int .i64 0)), (.d (.int .i64 0)), (.d (.int .i64 0)), (.d (.int .u64 0)), (.d (.int .i64 0)), (.d (.int .u64 0))] 0 r43)) fun r56 =>
 callP C 104 [(demote (demote (demote r55))), (demote (demote (demote r56)))] fun r57 =>
 bindO (binV (some (false, [.int])) .neq (demote (demote (demote r57))) (.d (.int .i64 0))) fun r58 =>
 ifP r58
 ((SV.noRef (demote (demote (demote r57)))) = true ∧
 (K (demote (demote (demote r57)))))
 (bindO (binV none .add (demote (demote (vget vs34 0))) (.d (.int .i64 1))) fun r59 =>
 (I36 [(demote r59)] [(Box.vals (Box.cells (bget bs35 0)))])))))))
 ((SV.noRef (.d (.int .i64 0))) = true ∧
 (K (.d (.int .i64 0)))))
 [(.d (.int .i64 0))] [(Box.vals (Box.cells (bget bs5 0)))])))
 [(.d (.sl .nil 0 [])), (.d (.int .i64 0))] [(Box.vals (Box.cells r0))]))) := by kernel_rfl

theorem body61 (C : Con) (x0 : SV) (K : SV → Prop) : body Go.Proofs.Tryz.prog gl C h61 61 [x0] K = (
 wfP [x0] (
 bindO (cellsV (demote x0)) fun r0 =>
 (List.length r0) = 17 ∧
 bindO (partV false 1 16 r0) fun r1 =>
 bindO (lenL (demote (demote r1))) fun r2 =>
 bindO (binV none .gtr (demote r2) (.d (.int .i64 64))) fun r3 =>
 ifP r3
 ((SV.noRef (.d (.int .i64 4))) = true ∧
 (K (.d (.int .i64 4))))
 (loopP (fun vs4 bs5 I6 =>
 bindO (partV false 1 16 (bget bs5 0)) fun r7 =>
 bindO (lenL (demote (demote r7))) fun r8 =>
 bindO (binV none .lss (demote (demote (vget vs4 1))) (demote r8)) fun r9 =>
 ifP r9
 (bindO (partV false 1 16 (bget bs5 0)) fun r10 =>
 bindO (elemPtr 10 (demote (demote r10)) (demote (demote (vget vs4 1)))) fun r11 =>
 bindO (loadV true 10 (demote r11)) fun r12 =>
 bindO (cellsV (demote r12)) fun r13 =>
 (List.length r13) = 10 ∧
 10 ≤ 10 ∧
 bindO (partV false 1 0 (setAt [(.d (.str [])), (.d (.int .i64 0)), (.d (.int .u64 0)), (.d (.int .u64 0)), (.d (.int .u64 0)), (.d (.int .u64 0)), (.d (.int .u64 0)), (.d (.int .u64 0)), (.d (.int .u64 0)), (.d (.int .u64 0))] 0 r13)) fun r14 =>
 bindO (partsS [(0, (.v (demote (demote r14))))]) fun r15 =>
 (partsFit 1 1 r15) = true ∧
 callP C 91 [(.full 1 (buildElems (mkElem false [(.str [])]) r15 1 0)), (demote (demote (demote (vget vs4 0))))] fun r16 =>
 bindO (binV (some (false, [.int])) .neq (demote (demote (demote r16))) (.d (.int .i64 0))) fun r17 =>
 ifP r17
 ((SV.noRef (demote (demote (demote r16)))) = true ∧
 (K (demote (demote (demote r16)))))
 (bindO (partV false 1 0 (setAt [(.d (.str [])), (.d (.int .i64 0)), (.d (.int .u64 0)), (.d (.int .u64 0)), (.d (.int .u64 0)), (.d (.int .u64 0)), (.d (.int .u64 0)), (.d (.int .u64 0)), (.d (.int .u64 0)), (.d (.int .u64 0))] 0 r13)) fun r18 =>
 bindO (partsS [(0, (.v (demote (demote r18))))]) fun r19 =>
 (partsFit 1 1 r19) = true ∧
 appP 1 16 (vget vs4 0) (.full 1 (buildElems (mkElem false [(.str [])]) r19 1 0)) fun r20 =>
 bindO (partV false 1 1 (setAt [(.d (.str [])), (.d (.int .i64 0)), (.d (.int .u64 0)), (.d (.int .u64 0)), (.d (.int .u64 0)), (.d (.int .u64 0)), (.d (.int .u64 0)), (.d (.int .u64 0)), (.d (.int .u64 0)), (.d (.int .u64 0))] 0 r13)) fun r21 =>
 bindO (binV none .lss (demote (demote r21)) (.d (.int .i64 1))) fun r22 =>
 ifP (demote r22)
 ((SV.noRef (.d (.int .i64 13))) = true ∧
 (K (.d (.int .i64 13))))
 (bindO (partV false 1 1 (setAt [(.d (.str [])), (.d (.int .i64 0)), (.d (.int .u64 0)), (.d (.int .u64 0)), (.d (.int .u64 0)), (.d (.int .u64 0)), (.d (.int .u64 0)), (.d (.int .u64 0)), (.d (.int .u64 0)), (.d (.int .u64 0))] 0 r13)) fun r23 =>
 bindO (binV none .gtr (demote (demote r23)) (.d (.int .i64 3))) fun r24 =>
 ifP (demote r24)
 ((SV.noRef (.d (.int .i64 13))) = true ∧
 (K (.d (.int .i64 13))))
 (bindO (partV true 4 2 (setAt [(.d (.str [])), (.d (.int .i64 0)), (.d (.int .u64 0)), (.d (.int .u64 0)), (.d (.int .u64 0)), (.d (.int .u64 0)), (.d (.int .u64 0)), (.d (.int .u64 0)), (.d (.int .u64 0)), (.d (.int .u64 0))] 0 r13)) fun r25 =>
 bindO (partV false 1 1 (bget bs5 0)) fun r26 =>
 bindO (lenL (demote (demote r26))) fun r27 =>
 ∃ r28,
 ∃ r29,
 (C 93 [(demote (demote (demote r25))), (demote (demote r27))] (.tup [r28, r29])) ∧
 bindO (partV true 4 6 (setAt [(.d (.str [])), (.d (.int .i64 0)), (.d (.int .u64 0)), (.d (.int .u64 0)), (.d (.int .u64 0)), (.d (.int .u64 0)), (.d (.int .u64 0)), (.d (.int .u64 0)), (.d (.int .u64 0)), (.d (.int .u64 0))] 0 r13)) fun r30 =>
 bindO (partV false 1 1 (bget bs5 0)) fun r31 =>
 bindO (lenL (demote (demote r31))) fun r32 =>
 ∃ r33,
 ∃ r34,
 (C 93 [(demote (demote (demote r30))), (demote (demote r32))] (.tup [r33, r34])) ∧
 bindO (unV .not (demote (demote (demote (demote (demote r29)))))) fun r35 =>
 ifP (demote r35)
 ((SV.noRef (.d (.int .i64 3))) = true ∧
 (K (.d (.int .i64 3))))
 (bindO (unV .not (demote (demote (demote (demote (demote r34)))))) fun r36 =>
 ifP (demote r36)
 ((SV.noRef (.d (.int .i64 3))) = true ∧
 (K (.d (.int .i64 3))))
 (bindO (unV .not (demote (demote (demote (demote (demote r28)))))) fun r37 =>
 ifP (demote r37)
 ((SV.noRef (.d (.int .i64 2))) = true ∧
 (K (.d (.int .i64 2))))
 (bindO (unV .not (demote (demote (demote (demote (demote r33)))))) fun r38 =>
 ifP (demote r38)
 ((SV.noRef (.d (.int .i64 2))) = true ∧
 (K (.d (.int .i64 2))))
 (bindO (binV none .add (demote (demote (vget vs4 1))) (.d (.int .i64 1))) fun r39 =>
 (I6 [r20, (demote r39)] [(Box.vals (Box.cells (bget bs5 0)))])))))))))
 ((SV.noRef (.d (.int .i64 0))) = true ∧
 (K (.d (.int .i64 0)))))
 [(.d (.sl .nil 0 [])), (.d (.int .i64 0))] [(Box.vals (Box.cells r0))]))) := by kernel_rfl

theorem body90 (C : Con) (x0 x1 : SV) (K : SV → Prop) : body Go.Proofs.Tryz.prog gl C h90 90 [x0, x1] K = (
 wfP [x0, x1] (
 bindO (cellsV (demote x0)) fun r0 =>
 (List.length r0) = 10 ∧
 bindO (binV (some (false, [.int])) .eql (demote (demote x1)) (.d (.int .i64 0))) fun r1 =>
 ifP r1
 ((SV.noRef (.d (.int .i64 0))) = true ∧
 (K (.d (.int .i64 0))))
 (loopP (fun vs2 bs3 I4 =>
 bindO (partV false 1 9 (bget bs3 0)) fun r5 =>
 bindO (lenL (demote (demote r5))) fun r6 =>
 bindO (binV none .lss (demote (demote (vget vs2 2))) (demote r6)) fun r7 =>
 ifP r7
 (bindO (partV false 1 9 (bget bs3 0)) fun r8 =>
 bindO (elemPtr 10 (demote (demote r8)) (demote (demote (vget vs2 2)))) fun r9 =>
 bindO (loadV true 10 (demote r9)) fun r10 =>
 bindO (binV none .sub (demote (demote (vget vs2 0))) (.d (.int .i64 1))) fun r11 =>
 callP C 90 [(demote (demote r10)), (demote (demote r11))] fun r12 =>
 bindO (foldIntV maxD (demote (demote (vget vs2 1))) [(demote r12)]) fun r13 =>
 bindO (binV none .add (demote (demote (vget vs2 2))) (.d (.int .i64 1))) fun r14 =>
 (I4 [(vget vs2 0), (demote r13), (demote r14)] [(Box.vals (Box.cells (bget bs3 0)))]))
 (bindO (binV none .add (demote (demote (vget vs2 1))) (.d (.int .i64 1))) fun r15 =>
 (SV.noRef (demote r15)) = true ∧
 (K (demote r15))))
 [x1, (.d (.int .i64 0)), (.d (.int .i64 0))] [(Box.vals (Box.cells r0))]))) := by kernel_rfl

theorem body91 (C : Con) (x0 x1 : SV) (K : SV → Prop) : body Go.Proofs.Tryz.prog gl C h91 91 [x0, x1] K = (
 wfP [x0, x1] (
 loopP (fun vs0 bs1 I2 =>
 bindO (lenL (demote (demote (vget vs0 0)))) fun r3 =>
 bindO (binV none .lss (demote (demote (vget vs0 2))) (demote r3)) fun r4 =>
 ifP r4
 (bindO (elemPtr 1 (demote (demote (vget vs0 0))) (demote (demote (vget vs0 2)))) fun r5 =>
 bindO (loadV false 1 (demote r5)) fun r6 =>
 callP C 130 [(demote (demote r6))] fun r7 =>
 bindO (unV .not (demote r7)) fun r8 =>
 ifP (demote r8)
 ((SV.noRef (.d (.int .i64 10))) = true ∧
 (K (.d (.int .i64 10))))
 (bindO (elemPtr 1 (demote (demote (vget vs0 0))) (demote (demote (vget vs0 2)))) fun r9 =>
 bindO (loadV false 1 (demote r9)) fun r10 =>
 bindO (sliceL 1 (demote (demote (demote (vget vs0 0)))) none (some (demote (demote (vget vs0 2)))) none) fun r11 =>
 callP C 131 [(demote (demote r10)), (demote (demote r11))] fun r12 =>
 ifP (demote r12)
 ((SV.noRef (.d (.int .i64 12))) = true ∧
 (K (.d (.int .i64 12))))
 (bindO (elemPtr 1 (demote (demote (vget vs0 0))) (demote (demote (vget vs0 2)))) fun r13 =>
 bindO (loadV false 1 (demote r13)) fun r14 =>
 callP C 131 [(demote (demote r14)), (demote (demote (demote (vget vs0 1))))] fun r15 =>
 ifP (demote (demote r15))
 ((SV.noRef (.d (.int .i64 12))) = true ∧
 (K (.d (.int .i64 12))))
 (bindO (binV none .add (demote (demote (vget vs0 2))) (.d (.int .i64 1))) fun r16 =>
 (I2 [(vget vs0 0), (vget vs0 1), (demote r16)] [])))))
 ((SV.noRef (.d (.int .i64 0))) = true ∧
 (K (.d (.int .i64 0)))))
 [x0, x1, (.d (.int .i64 0))] [])) := by kernel_rfl

theorem body92 (C : Con) (x0 x1 : SV) (K : SV → Prop) : body Go.Proofs.Tryz.prog gl C h92 92 [x0, x1] K = (
 wfP [x0, x1] (
 bindO (cellsV (demote x0)) fun r0 =>
 (List.length r0) = 17 ∧
 loopP (fun vs1 bs2 I3 =>
 bindO (binV none .lss (demote (demote (vget vs1 2))) (demote (demote (vget vs1 0)))) fun r4 =>
 ifP r4
 (bindO (partV false 1 1 (bget bs2 0)) fun r5 =>
 bindO (elemPtr 3 (demote (demote r5)) (demote (demote (vget vs1 2)))) fun r6 =>
 bindO (addOffV (demote r6) 0) fun r7 =>
 bindO (loadV false 1 (demote r7)) fun r8 =>
 bindO (partsS [(0, (.v (demote r8)))]) fun r9 =>
 (partsFit 1 1 r9) = true ∧
 appP 1 16 (vget vs1 1) (.full 1 (buildElems (mkElem false [(.str [])]) r9 1 0)) fun r10 =>
 bindO (partV false 1 1 (bget bs2 0)) fun r11 =>
 bindO (elemPtr 3 (demote (demote r11)) (demote (demote (vget vs1 2)))) fun r12 =>
 bindO (addOffV (demote r12) 1) fun r13 =>
 bindO (loadV false 1 (demote r13)) fun r14 =>
 appP 1 16 r10 (demote r14) fun r15 =>
 bindO (binV none .add (demote (demote (vget vs1 2))) (.d (.int .i64 1))) fun r16 =>
 (I3 [(vget vs1 0), r15, (demote r16)] [(Box.vals (Box.cells (bget bs2 0)))]))
 ((SV.noRef (vget vs1 1)) = true ∧
 (K (vget vs1 1))))
 [x1, (.d (.sl .nil 0 [])), (.d (.int .i64 0))] [(Box.vals (Box.cells r0))])) := by kernel_rfl

theorem body93 (C : Con) (x0 x1 : SV) (K : SV → Prop) : body Go.Proofs.Tryz.prog gl C h93 93 [x0, x1] K = (
 wfP [x0, x1] (
 bindO (cellsV (demote x0)) fun r0 =>
 (List.length r0) = 4 ∧
 bindO (partV true 4 0 r0) fun r1 =>
 bindO (partsS []) fun r2 =>
 bindO (buildD Proofs.Tryz.prog 25 r2) fun r3 =>
 bindO (binV (some (true, [.int, .int, .int, .int])) .neq (demote (demote r1)) (.d r3)) fun r4 =>
 bindO (partV true 4 0 r0) fun r5 =>
 callP C 70 [(demote (demote (demote x1)))] fun r6 =>
 callP C 69 [(demote (demote (demote r5))), (demote (demote r6))] fun r7 =>
 (SV.noRef (demote r4)) = true ∧
 (SV.noRef (demote r7)) = true ∧
 (K (.tup [(demote r4), (demote r7)])))) := by kernel_rfl

theorem body94 (C : Con) (x0 x1 : SV) (K : SV → Prop) : body Go.Proofs.Tryz.prog gl C h94 94 [x0, x1] K = (
 wfP [x0, x1] (
 bindO (cellsV (demote x0)) fun r0 =>
 (List.length r0) = 17 ∧
 bindO (cellsV (demote x1)) fun r1 =>
 (List.length r1) = 4 ∧
 bindO (partV true 4 0 r1) fun r2 =>
 bindO (partV false 1 3 r0) fun r3 =>
 bindO (lenL (demote (demote r3))) fun r4 =>
 callP C 70 [(demote (demote r4))] fun r5 =>
 callP C 132 [(demote (demote r5)), (.d (.int .i64 0))] fun r6 =>
 callP C 69 [(demote (demote (demote r2))), (demote (demote r6))] fun r7 =>
 (SV.noRef (demote r7)) = true ∧
 (K (demote r7)))) := by kernel_rfl

theorem body95 (C : Con) (x0 x1 : SV) (K : SV → Prop) : body Go.Proofs.Tryz.prog gl C h95 95 [x0, x1] K = (
 wfP [x0, x1] (
 bindO (cellsV (demote x0)) fun r0 =>
 (List.length r0) = 17 ∧
 bindO (cellsV (demote x1)) fun r1 =>
 (List.length r1) = 4 ∧
 bindO (partV true 17 0 r0) fun r2 =>
 bindO (partV true 2 0 r1) fun r3 =>
 callP C 96 [(demote (demote (demote r2))), (demote (demote (demote r3)))] fun r4 =>
 ifP (demote r4)
 (bindO (partV true 17 0 r0) fun r5 =>
 bindO (partV true 2 2 r1) fun r6 =>
 callP C 96 [(demote (demote (demote r5))), (demote (demote (demote r6)))] fun r7 =>
 ifP (demote (demote r7))
 (bindO (partV true 2 2 r1) fun r8 =>
 bindO (partV true 2 0 r1) fun r9 =>
 callP C 97 [(demote (demote (demote r8))), (demote (demote (demote r9)))] fun r10 =>
 (SV.noRef (demote (demote r10))) = true ∧
 (K (demote (demote r10))))
 ((SV.noRef (.d (.bool false))) = true ∧
 (K (.d (.bool false)))))
 ((SV.noRef (.d (.bool false))) = true ∧
 (K (.d (.bool false)))))) := by kernel_rfl

theorem body96 (C : Con) (x0 x1 : SV) (K : SV → Prop) : body Go.Proofs.Tryz.prog gl C h96 96 [x0, x1] K = (
 wfP [x0, x1] (
 bindO (cellsV (demote x0)) fun r0 =>
 (List.length r0) = 17 ∧
 bindO (cellsV (demote x1)) fun r1 =>
 (List.length r1) = 2 ∧
 bindO (partV false 1 0 r1) fun r2 =>
 bindO (partV false 1 6 r0) fun r3 =>
 bindO (lenL (demote (demote r3))) fun r4 =>
 callP C 101 [(demote (demote (demote r2))), (demote (demote r4))] fun r5 =>
 ifP (demote r5)
 (bindO (partV false 1 7 r0) fun r6 =>
 bindO (lenL (demote (demote r6))) fun r7 =>
 bindO (binV none .geq (demote r7) (.d (.int .i64 64))) fun r8 =>
 ifP (demote r8)
 ((SV.noRef (.d (.bool true))) = true ∧
 (K (.d (.bool true))))
 (bindO (partV false 1 1 r1) fun r9 =>
 bindO (partV false 1 7 r0) fun r10 =>
 bindO (lenL (demote (demote r10))) fun r11 =>
 bindO (binV none .shr (demote (demote r9)) (demote r11)) fun r12 =>
 bindO (binV (some (false, [.int])) .eql (demote r12) (.d (.int .u64 0))) fun r13 =>
 (SV.noRef (demote (demote (demote r13)))) = true ∧
 (K (demote (demote (demote r13))))))
 ((SV.noRef (.d (.bool false))) = true ∧
 (K (.d (.bool false)))))) := by kernel_rfl

theorem body97 (C : Con) (x0 x1 : SV) (K : SV → Prop) : body Go.Proofs.Tryz.prog gl C h97 97 [x0, x1] K = (
 wfP [x0, x1] (
 bindO (cellsV (demote x0)) fun r0 =>
 (List.length r0) = 2 ∧
 bindO (cellsV (demote x1)) fun r1 =>
 (List.length r1) = 2 ∧
 bindO (partV false 1 0 r0) fun r2 =>
 bindO (partV false 1 0 r1) fun r3 =>
 bindO (binV none .geq (demote (demote r2)) (demote (demote r3))) fun r4 =>
 ifP (demote r4)
 (bindO (partV false 1 1 r1) fun r5 =>
 bindO (partV false 1 1 r0) fun r6 =>
 bindO (binV none .andNot (demote (demote r5)) (demote (demote r6))) fun r7 =>
 bindO (binV (some (false, [.int])) .eql (demote r7) (.d (.int .u64 0))) fun r8 =>
 (SV.noRef (demote (demote r8))) = true ∧
 (K (demote (demote r8))))
 ((SV.noRef (.d (.bool false))) = true ∧
 (K (.d (.bool false)))))) := by kernel_rfl

theorem body98 (C : Con) (x0 x1 : SV) (K : SV → Prop) : body Go.Proofs.Tryz.prog gl C h98 98 [x0, x1] K = (
 wfP [x0, x1] (
 bindO (cellsV (demote x0)) fun r0 =>
 (List.length r0) = 17 ∧
 bindO (cellsV (demote x1)) fun r1 =>
 (List.length r1) = 10 ∧
 bindO (partV true 10 0 r1) fun r2 =>
 callP C 49 [(demote (demote (demote r2)))] fun r3 =>
 bindO (binV none .gtr (demote r3) (.d (.int .i64 12))) fun r4 =>
 ifP r4
 ((SV.noRef (.d (.int .i64 4))) = true ∧
 (K (.d (.int .i64 4))))
 (bindO (partV true 17 0 r0) fun r5 =>
 bindO (partV true 10 0 r1) fun r6 =>
 callP C 133 [(demote (demote (demote r5))), (demote (demote (demote r6)))] fun r7 =>
 (SV.noRef (demote r7)) = true ∧
 (K (demote r7))))) := by kernel_rfl

theorem body99 (C : Con) (x0 x1 x2 : SV) (K : SV → Prop) : body Go.Proofs.Tryz.prog gl C h99 99 [x0, x1, x2] K = (
 wfP [x0, x1, x2] (
 bindO (cellsV (demote x0)) fun r0 =>
 (List.length r0) = 17 ∧
 bindO (partV false 1 0 r0) fun r1 =>
 bindO (lenL (demote (demote r1))) fun r2 =>
 callP C 101 [(demote (demote (demote x1))), (demote (demote r2))] fun r3 =>
 ifP (demote r3)
 (bindO (partV false 1 0 r0) fun r4 =>
 bindO (elemPtr 2 (demote (demote r4)) (demote (demote x1))) fun r5 =>
 bindO (addOffV (demote r5) 1) fun r6 =>
 bindO (loadV false 1 (demote r6)) fun r7 =>
 bindO (lenL (demote r7)) fun r8 =>
 bindO (binV none .geq (demote r8) (.d (.int .i64 32))) fun r9 =>
 ifP (demote r9)
 ((SV.noRef (.d (.bool true))) = true ∧
 (K (.d (.bool true))))
 (bindO (partV false 1 0 r0) fun r10 =>
 bindO (elemPtr 2 (demote (demote r10)) (demote (demote x1))) fun r11 =>
 bindO (addOffV (demote r11) 1) fun r12 =>
 bindO (loadV false 1 (demote r12)) fun r13 =>
 bindO (lenL (demote r13)) fun r14 =>
 bindO (binV none .shr (demote (demote x2)) (demote r14)) fun r15 =>
 bindO (binV (some (false, [.int])) .eql (demote r15) (.d (.int .u32 0))) fun r16 =>
 (SV.noRef (demote (demote (demote r16)))) = true ∧
 (K (demote (demote (demote r16))))))
 ((SV.noRef (.d (.bool false))) = true ∧
 (K (.d (.bool false)))))) := by kernel_rfl

theorem body100 (C : Con) (x0 x1 : SV) (K : SV → Prop) : body Go.Proofs.Tryz.prog gl C h100 100 [x0, x1] K = (
 wfP [x0, x1] (
 bindO (cellsV (demote x0)) fun r0 =>
 (List.length r0) = 17 ∧
 bindO (partV false 1 8 r0) fun r1 =>
 bindO (lenL (demote (demote r1))) fun r2 =>
 bindO (unV .neg (demote r2)) fun r3 =>
 bindO (binV none .geq (demote (demote x1)) (demote r3)) fun r4 =>
 ifP (demote r4)
 (bindO (partV false 1 8 r0) fun r5 =>
 bindO (lenL (demote (demote r5))) fun r6 =>
 bindO (binV none .leq (demote (demote x1)) (demote r6)) fun r7 =>
 (SV.noRef (demote (demote r7))) = true ∧
 (K (demote (demote r7))))
 ((SV.noRef (.d (.bool false))) = true ∧
 (K (.d (.bool false)))))) := by kernel_rfl

theorem body101 (C : Con) (x0 x1 : SV) (K : SV → Prop) : body Go.Proofs.Tryz.prog gl C h101 101 [x0, x1] K = (
 wfP [x0, x1] (
 bindO (binV none .geq (demote (demote x0)) (.d (.int .i64 0))) fun r0 =>
 ifP (demote r0)
 (bindO (binV none .lss (demote (demote x0)) (demote (demote x1))) fun r1 =>
 (SV.noRef (demote (demote r1))) = true ∧
 (K (demote (demote r1))))
 ((SV.noRef (.d (.bool false))) = true ∧
 (K (.d (.bool false)))))) := by kernel_rfl

theorem body102 (C : Con) (x0 : SV) (K : SV → Prop) : body Go.Proofs.Tryz.prog gl C h102 102 [x0] K = (
 wfP [x0] (
 loopP (fun vs0 bs1 I2 =>
 bindO (lenS (demote (demote (vget vs0 0)))) fun r3 =>
 bindO (binV none .lss (demote (demote (vget vs0 1))) (demote r3)) fun r4 =>
 ifP r4
 (bindO (strAt (demote (demote (vget vs0 0))) (demote (demote (vget vs0 1)))) fun r5 =>
 bindO (binV none .lss (demote r5) (.d (.int .u8 33))) fun r6 =>
 ifP (demote r6)
 ((SV.noRef (.d (.bool false))) = true ∧
 (K (.d (.bool false))))
 (bindO (strAt (demote (demote (vget vs0 0))) (demote (demote (vget vs0 1)))) fun r7 =>
 bindO (binV none .gtr (demote r7) (.d (.int .u8 126))) fun r8 =>
 ifP (demote (demote r8))
 ((SV.noRef (.d (.bool false))) = true ∧
 (K (.d (.bool false))))
 (bindO (strAt (demote (demote (vget vs0 0))) (demote (demote (vget vs0 1)))) fun r9 =>
 bindO (binV (some (false, [.int])) .eql (demote r9) (.d (.int .u8 34))) fun r10 =>
 ifP (demote (demote r10))
 ((SV.noRef (.d (.bool false))) = true ∧
 (K (.d (.bool false))))
 (bindO (strAt (demote (demote (vget vs0 0))) (demote (demote (vget vs0 1)))) fun r11 =>
 bindO (binV (some (false, [.int])) .eql (demote r11) (.d (.int .u8 47))) fun r12 =>
 ifP (demote r12)
 ((SV.noRef (.d (.bool false))) = true ∧
 (K (.d (.bool false))))
 (bindO (binV none .add (demote (demote (vget vs0 1))) (.d (.int .i64 1))) fun r13 =>
 (I2 [(vget vs0 0), (demote r13)] []))))))
 (bindO (lenS (demote (demote (vget vs0 0)))) fun r14 =>
 bindO (binV none .geq (demote r14) (.d (.int .i64 1))) fun r15 =>
 ifP (demote r15)
 (bindO (lenS (demote (demote (vget vs0 0)))) fun r16 =>
 bindO (binV none .leq (demote r16) (.d (.int .i64 32))) fun r17 =>
 (SV.noRef (demote (demote r17))) = true ∧
 (K (demote (demote r17))))
 ((SV.noRef (.d (.bool false))) = true ∧
 (K (.d (.bool false))))))
 [x0, (.d (.int .i64 0))] [])) := by kernel_rfl

theorem body103 (C : Con) (x0 x1 x2 : SV) (K : SV → Prop) : body Go.Proofs.Tryz.prog gl C h103 103 [x0, x1, x2] K = (
 wfP [x0, x1, x2] (
 bindO (cellsV (demote x0)) fun r0 =>
 (List.length r0) = 17 ∧
 bindO (cellsV (demote x1)) fun r1 =>
 (List.length r1) = 10 ∧
 bindO (partV true 10 0 r1) fun r2 =>
 callP C 49 [(demote (demote (demote r2)))] fun r3 =>
 bindO (binV none .gtr (demote r3) (.d (.int .i64 12))) fun r4 =>
 ifP r4
 ((SV.noRef (.d (.int .i64 4))) = true ∧
 (K (.d (.int .i64 4))))
 (ifP (demote x2)
 (bindO (partV true 17 0 r0) fun r5 =>
 bindO (partV true 10 0 r1) fun r6 =>
 callP C 134 [(demote (demote (demote r5))), (demote (demote (demote r6))), (.d (.int .i64 15))] fun r7 =>
 (SV.noRef (demote r7)) = true ∧
 (K (demote r7)))
 (bindO (partV true 17 0 r0) fun r8 =>
 bindO (partV true 10 0 r1) fun r9 =>
 callP C 134 [(demote (demote (demote r8))), (demote (demote (demote r9))), (.d (.int .i64 10))] fun r10 =>
 (SV.noRef (demote r10)) = true ∧
 (K (demote r10)))))) := by kernel_rfl

theorem body104 (C : Con) (x0 x1 : SV) (K : SV → Prop) : body Go.Proofs.Tryz.prog gl C h104 104 [x0, x1] K = (
 wfP [x0, x1] (
 bindO (cellsV (demote x0)) fun r0 =>
 (List.length r0) = 17 ∧
 bindO (cellsV (demote x1)) fun r1 =>
 (List.length r1) = 7 ∧
 bindO (partV false 1 0 r1) fun r2 =>
 bindO (partV false 1 4 r0) fun r3 =>
 bindO (lenL (demote (demote r3))) fun r4 =>
 callP C 101 [(demote (demote (demote r2))), (demote (demote r4))] fun r5 =>
 bindO (unV .not (demote r5)) fun r6 =>
 ifP (demote r6)
 ((SV.noRef (.d (.int .i64 3))) = true ∧
 (K (.d (.int .i64 3))))
 (bindO (partV false 1 1 r1) fun r7 =>
 bindO (partV false 1 3 r0) fun r8 =>
 bindO (lenL (demote (demote r8))) fun r9 =>
 callP C 101 [(demote (demote (demote r7))), (demote (demote r9))] fun r10 =>
 bindO (unV .not (demote r10)) fun r11 =>
 ifP (demote (demote r11))
 ((SV.noRef (.d (.int .i64 3))) = true ∧
 (K (.d (.int .i64 3))))
 (bindO (partV false 1 2 r1) fun r12 =>
 bindO (partV false 1 1 r0) fun r13 =>
 bindO (lenL (demote (demote r13))) fun r14 =>
 callP C 101 [(demote (demote (demote r12))), (demote (demote r14))] fun r15 =>
 bindO (unV .not (demote r15)) fun r16 =>
 ifP (demote r16)
 ((SV.noRef (.d (.int .i64 3))) = true ∧
 (K (.d (.int .i64 3))))
 (bindO (partV true 17 0 r0) fun r17 =>
 bindO (partV true 4 3 r1) fun r18 =>
 callP C 95 [(demote (demote (demote r17))), (demote (demote (demote r18)))] fun r19 =>
 bindO (unV .not (demote r19)) fun r20 =>
 ifP r20
 ((SV.noRef (.d (.int .i64 18))) = true ∧
 (K (.d (.int .i64 18))))
 (bindO (partV false 1 1 r1) fun r21 =>
 bindO (binV (some (false, [.int])) .eql (demote (demote r21)) (.d (.int .i64 0))) fun r22 =>
 ifP r22
 ((SV.noRef (.d (.int .i64 0))) = true ∧
 (K (.d (.int .i64 0))))
 (bindO (partV false 1 4 r0) fun r23 =>
 bindO (partV false 1 0 r1) fun r24 =>
 bindO (elemPtr 11 (demote (demote r23)) (demote (demote r24))) fun r25 =>
 bindO (loadV true 11 (demote r25)) fun r26 =>
 bindO (cellsV (demote r26)) fun r27 =>
 (List.length r27) = 11 ∧
 11 ≤ 11 ∧
 bindO (partV true 2 3 r1) fun r28 =>
 bindO (partV true 2 7 (setAt [(.d (.str [])), (.d (.int .u64 0)), (.d (.int .u64 0)), (.d (.int .u64 0)), (.d (.int .u64 0)), (.d (.int .i64 0)), (.d (.int .u64 0)), (.d (.int .i64 0)), (.d (.int .u64 0)), (.d (.int .i64 0)), (.d (.int .u64 0))] 0 r27)) fun r29 =>
 callP C 97 [(demote (demote (demote r28))), (demote (demote (demote r29)))] fun r30 =>
 ifP (demote r30)
 (bindO (partV true 2 9 (setAt [(.d (.str [])), (.d (.int .u64 0)), (.d (.int .u64 0)), (.d (.int .u64 0)), (.d (.int .u64 0)), (.d (.int .i64 0)), (.d (.int .u64 0)), (.d (.int .i64 0)), (.d (.int .u64 0)), (.d (.int .i64 0)), (.d (.int .u64 0))] 0 r27)) fun r31 =>
 bindO (partV true 2 5 r1) fun r32 =>
 callP C 97 [(demote (demote (demote r31))), (demote (demote (demote r32)))] fun r33 =>
 bindO (unV .not (demote (demote (demote (demote r33))))) fun r34 =>
 ifP (demote r34)
 ((SV.noRef (.d (.int .i64 19))) = true ∧
 (K (.d (.int .i64 19))))
 (bindO (partV true 4 1 (setAt [(.d (.str [])), (.d (.int .u64 0)), (.d (.int .u64 0)), (.d (.int .u64 0)), (.d (.int .u64 0)), (.d (.int .i64 0)), (.d (.int .u64 0)), (.d (.int .i64 0)), (.d (.int .u64 0)), (.d (.int .i64 0)), (.d (.int .u64 0))] 0 r27)) fun r35 =>
 bindO (partV false 1 1 r1) fun r36 =>
 callP C 126 [(demote (demote (demote r35))), (demote (demote (demote r36)))] fun r37 =>
 bindO (unV .not (demote r37)) fun r38 =>
 ifP (demote (demote r38))
 ((SV.noRef (.d (.int .i64 19))) = true ∧
 (K (.d (.int .i64 19))))
 (bindO (partV false 1 3 r0) fun r39 =>
 bindO (partV false 1 1 r1) fun r40 =>
 bindO (elemPtr 9 (demote (demote r39)) (demote (demote r40))) fun r41 =>
 bindO (addOffV (demote r41) 1) fun r42 =>
 bindO (loadV true 4 (demote r42)) fun r43 =>
 bindO (partV false 1 2 r1) fun r44 =>
 callP C 126 [(demote (demote r43)), (demote (demote (demote r44)))] fun r45 =>
 bindO (unV .not (demote r45)) fun r46 =>
 ifP (demote r46)
 ((SV.noRef (.d (.int .i64 19))) = true ∧
 (K (.d (.int .i64 19))))
 ((SV.noRef (.d (.int .i64 0))) = true ∧
 (K (.d (.int .i64 0)))))))
 (bindO (unV .not (.d (.bool false))) fun r47 =>
 ifP (demote r47)
 ((SV.noRef (.d (.int .i64 19))) = true ∧
 (K (.d (.int .i64 19))))
 (bindO (partV true 4 1 (setAt [(.d (.str [])), (.d (.int .u64 0)), (.d (.int .u64 0)), (.d (.int .u64 0)), (.d (.int .u64 0)), (.d (.int .i64 0)), (.d (.int .u64 0)), (.d (.int .i64 0)), (.d (.int .u64 0)), (.d (.int .i64 0)), (.d (.int .u64 0))] 0 r27)) fun r48 =>
 bindO (partV false 1 1 r1) fun r49 =>
 callP C 126 [(demote (demote (demote r48))), (demote (demote (demote r49)))] fun r50 =>
 bindO (unV .not (demote r50)) fun r51 =>
 ifP (demote (demote r51))
 ((SV.noRef (.d (.int .i64 19))) = true ∧
 (K (.d (.int .i64 19))))
 (bindO (partV false 1 3 r0) fun r52 =>
 bindO (partV false 1 1 r1) fun r53 =>
 bindO (elemPtr 9 (demote (demote r52)) (demote (demote r53))) fun r54 =>
 bindO (addOffV (demote r54) 1) fun r55 =>
 bindO (loadV true 4 (demote r55)) fun r56 =>
 bindO (partV false 1 2 r1) fun r57 =>
 callP C 126 [(demote (demote r56)), (demote (demote (demote r57)))] fun r58 =>
 bindO (unV .not (demote r58)) fun r59 =>
 ifP (demote r59)
 ((SV.noRef (.d (.int .i64 19))) = true ∧
 (K (.d (.int .i64 19))))
 ((SV.noRef (.d (.int .i64 0))) = true ∧
 (K (.d (.int .i64 0)))))))))))))) := by kernel_rfl

theorem body105 (C : Con) (x0 : SV) (K : SV → Prop) : body Go.Proofs.Tryz.prog gl C h105 105 [x0] K = (
 wfP [x0] (
 bindO (cellsV (demote x0)) fun r0 =>
 (List.length r0) = 4 ∧
 bindO (partV false 1 0 r0) fun r1 =>
 bindO (binV (some (false, [.int])) .eql (demote (demote r1)) (.d (.int .i64 0))) fun r2 =>
 ifP (demote r2)
 (bindO (partV false 1 1 r0) fun r3 =>
 bindO (binV (some (false, [.str])) .eql (demote (demote r3)) (.d (.str []))) fun r4 =>
 (SV.noRef (demote r4)) = true ∧
 (K (demote r4)))
 (bindO (binV (some (false, [.int])) .eql (demote (demote r1)) (.d (.int .i64 1))) fun r5 =>
 ifP (demote r5)
 (bindO (partV false 1 1 r0) fun r6 =>
 callP C 135 [(demote (demote (demote r6)))] fun r7 =>
 (SV.noRef (demote r7)) = true ∧
 (K (demote r7)))
 (bindO (binV (some (false, [.int])) .eql (demote (demote r1)) (.d (.int .i64 2))) fun r8 =>
 ifP (demote r8)
 (bindO (partV false 1 1 r0) fun r9 =>
 callP C 136 [(demote (demote (demote r9)))] fun r10 =>
 (SV.noRef (demote r10)) = true ∧
 (K (demote r10)))
 (bindO (binV (some (false, [.int])) .eql (demote (demote r1)) (.d (.int .i64 3))) fun r11 =>
 ifP (demote r11)
 (bindO (partV false 1 1 r0) fun r12 =>
 callP C 137 [(demote (demote (demote r12)))] fun r13 =>
 (SV.noRef (demote r13)) = true ∧
 (K (demote r13)))
 (bindO (binV (some (false, [.int])) .eql (demote (demote r1)) (.d (.int .i64 4))) fun r14 =>
 ifP (demote r14)
 (bindO (partV false 1 1 r0) fun r15 =>
 callP C 138 [(demote (demote (demote r15))), (.d (.str [123, 32, 125, 32, 40, 32, 41, 32, 59, 32, 58, 32, 44, 32, 46, 32, 45, 32, 126, 32, 42, 32, 33, 32, 61, 61, 32, 33, 61, 32, 38, 38, 32, 124, 124, 32, 94, 32]))] fun r16 =>
 (SV.noRef (demote r16)) = true ∧
 (K (demote r16)))
 ((SV.noRef (.d (.bool false))) = true ∧
 (K (.d (.bool false)))))))))) := by kernel_rfl

theorem body130 (C : Con) (x0 : SV) (K : SV → Prop) : body Go.Proofs.Tryz.prog gl C h130 130 [x0] K = (
 wfP [x0] (
 callP C 145 [(demote (demote (demote x0)))] fun r0 =>
 (SV.noRef (demote r0)) = true ∧
 (K (demote r0)))) := by kernel_rfl

theorem body131 (C : Con) (x0 x1 : SV) (K : SV → Prop) : body Go.Proofs.Tryz.prog gl C h131 131 [x0, x1] K = (
 wfP [x0, x1] (
 loopP (fun vs0 bs1 I2 =>
 bindO (lenL (demote (demote (vget vs0 1)))) fun r3 =>
 bindO (binV none .lss (demote (demote (vget vs0 2))) (demote r3)) fun r4 =>
 ifP r4
 (bindO (elemPtr 1 (demote (demote (vget vs0 1))) (demote (demote (vget vs0 2)))) fun r5 =>
 bindO (loadV false 1 (demote r5)) fun r6 =>
 bindO (binV (some (false, [.str])) .eql (demote r6) (demote (demote (vget vs0 0)))) fun r7 =>
 ifP r7
 ((SV.noRef (.d (.bool true))) = true ∧
 (K (.d (.bool true))))
 (bindO (binV none .add (demote (demote (vget vs0 2))) (.d (.int .i64 1))) fun r8 =>
 (I2 [(vget vs0 0), (vget vs0 1), (demote r8)] [])))
 ((SV.noRef (.d (.bool false))) = true ∧
 (K (.d (.bool false)))))
 [x0, x1, (.d (.int .i64 0))] [])) := by kernel_rfl

theorem body133 (C : Con) (x0 x1 : SV) (K : SV → Prop) : body Go.Proofs.Tryz.prog gl C h133 133 [x0, x1] K = (
 wfP [x0, x1] (
 bindO (cellsV (demote x0)) fun r0 =>
 (List.length r0) = 17 ∧
 bindO (cellsV (demote x1)) fun r1 =>
 (List.length r1) = 10 ∧
 bindO (partV false 1 0 r1) fun r2 =>
 bindO (binV (some (false, [.int])) .eql (demote (demote r2)) (.d (.int .i64 8))) fun r3 =>
 ifP (demote r3)
 ((SV.noRef (.d (.int .i64 2))) = true ∧
 (K (.d (.int .i64 2))))
 (bindO (partV false 1 0 r1) fun r4 =>
 bindO (binV (some (false, [.int])) .eql (demote (demote r4)) (.d (.int .i64 9))) fun r5 =>
 ifP (demote (demote r5))
 ((SV.noRef (.d (.int .i64 2))) = true ∧
 (K (.d (.int .i64 2))))
 (bindO (partV false 1 0 r1) fun r6 =>
 callP C 146 [(demote (demote (demote r6)))] fun r7 =>
 bindO (partV false 1 9 r1) fun r8 =>
 bindO (lenL (demote (demote r8))) fun r9 =>
 bindO (binV (some (false, [.int])) .neq (demote r7) (demote r9)) fun r10 =>
 ifP (demote (demote r10))
 ((SV.noRef (.d (.int .i64 2))) = true ∧
 (K (.d (.int .i64 2))))
 (bindO (partV false 1 2 r1) fun r11 =>
 bindO (binV (some (false, [.int])) .neq (demote (demote r11)) (.d (.int .i64 0))) fun r12 =>
 ifP (demote (demote r12))
 ((SV.noRef (.d (.int .i64 2))) = true ∧
 (K (.d (.int .i64 2))))
 (bindO (partV false 1 3 r1) fun r13 =>
 bindO (binV (some (false, [.int])) .neq (demote (demote r13)) (.d (.int .i64 0))) fun r14 =>
 ifP (demote (demote r14))
 ((SV.noRef (.d (.int .i64 2))) = true ∧
 (K (.d (.int .i64 2))))
 (bindO (partV false 1 4 r1) fun r15 =>
 bindO (lenL (demote (demote r15))) fun r16 =>
 bindO (binV none .gtr (demote r16) (.d (.int .i64 0))) fun r17 =>
 ifP (demote (demote r17))
 ((SV.noRef (.d (.int .i64 2))) = true ∧
 (K (.d (.int .i64 2))))
 (bindO (partV true 4 5 r1) fun r18 =>
 bindO (partsS []) fun r19 =>
 bindO (buildD Proofs.Tryz.prog 25 r19) fun r20 =>
 bindO (binV (some (true, [.int, .int, .int, .int])) .neq (demote (demote r18)) (.d r20)) fun r21 =>
 ifP (demote (demote r21))
 ((SV.noRef (.d (.int .i64 2))) = true ∧
 (K (.d (.int .i64 2))))
 (bindO (partV false 1 0 r1) fun r22 =>
 bindO (binV (some (false, [.int])) .neq (demote (demote r22)) (.d (.int .i64 1))) fun r23 =>
 ifP (demote r23)
 (bindO (partV false 1 1 r1) fun r24 =>
 bindO (binV (some (false, [.int])) .neq (demote (demote r24)) (.d (.int .i64 0))) fun r25 =>
 ifP (demote (demote r25))
 ((SV.noRef (.d (.int .i64 2))) = true ∧
 (K (.d (.int .i64 2))))
 (bindO (partV false 1 0 r1) fun r26 =>
 bindO (binV (some (false, [.int])) .eql (demote (demote r26)) (.d (.int .i64 1))) fun r27 =>
 ifP (demote r27)
 (bindO (partV false 1 1 r1) fun r28 =>
 bindO (partV false 1 5 r0) fun r29 =>
 bindO (lenL (demote (demote r29))) fun r30 =>
 callP C 101 [(demote (demote (demote r28))), (demote (demote r30))] fun r31 =>
 bindO (unV .not (demote r31)) fun r32 =>
 ifP (demote r32)
 ((SV.noRef (.d (.int .i64 3))) = true ∧
 (K (.d (.int .i64 3))))
 (loopP (fun vs33 bs34 I35 =>
 bindO (partV false 1 9 (bget bs34 1)) fun r36 =>
 bindO (lenL (demote (demote r36))) fun r37 =>
 bindO (binV none .lss (demote (demote (vget vs33 0))) (demote r37)) fun r38 =>
 ifP r38
 (bindO (partV true 17 0 (bget bs34 0)) fun r39 =>
 bindO (partV false 1 9 (bget bs34 1)) fun r40 =>
 bindO (elemPtr 10 (demote (demote r40)) (demote (demote (vget vs33 0)))) fun r41 =>
 bindO (loadV true 10 (demote r41)) fun r42 =>
 callP C 133 [(demote (demote (demote r39))), (demote (demote r42))] fun r43 =>
 bindO (binV (some (false, [.int])) .neq (demote (demote (demote r43))) (.d (.int .i64 0))) fun r44 =>
 ifP r44
 ((SV.noRef (demote (demote (demote r43)))) = true ∧
 (K (demote (demote (demote r43)))))
 (bindO (binV none .add (demote (demote (vget vs33 0))) (.d (.int .i64 1))) fun r45 =>
 (I35 [(demote r45)] [(Box.vals (Box.cells (bget bs34 0))), (Box.vals (Box.cells (bget bs34 1)))])))
 ((SV.noRef (.d (.int .i64 0))) = true ∧
 (K (.d (.int .i64 0)))))
 [(.d (.int .i64 0))] [(Box.vals (Box.cells r0)), (Box.vals (Box.cells r1))]))
 (loopP (fun vs46 bs47 I48 =>
 bindO (partV false 1 9 (bget bs47 1)) fun r49 =>
 bindO (lenL (demote (demote r49))) fun r50 =>
 bindO (binV none .lss (demote (demote (vget vs46 0))) (demote r50)) fun r51 =>
 ifP r51
 (bindO (partV true 17 0 (bget bs47 0)) fun r52 =>
 bindO (partV false 1 9 (bget bs47 1)) fun r53 =>
 bindO (elemPtr 10 (demote (demote r53)) (demote (demote (vget vs46 0)))) fun r54 =>
 bindO (loadV true 10 (demote r54)) fun r55 =>
 callP C 133 [(demote (demote (demote r52))), (demote (demote r55))] fun r56 =>
 bindO (binV (some (false, [.int])) .neq (demote (demote (demote r56))) (.d (.int .i64 0))) fun r57 =>
 ifP r57
 ((SV.noRef (demote (demote (demote r56)))) = true ∧
 (K (demote (demote (demote r56)))))
 (bindO (binV none .add (demote (demote (vget vs46 0))) (.d (.int .i64 1))) fun r58 =>
 (I48 [(demote r58)] [(Box.vals (Box.cells (bget bs47 0))), (Box.vals (Box.cells (bget bs47 1)))])))
 ((SV.noRef (.d (.int .i64 0))) = true ∧
 (K (.d (.int .i64 0)))))
 [(.d (.int .i64 0))] [(Box.vals (Box.cells r0)), (Box.vals (Box.cells r1))])))
 (bindO (partV false 1 0 r1) fun r59 =>
 bindO (binV (some (false, [.int])) .eql (demote (demote r59)) (.d (.int .i64 1))) fun r60 =>
 ifP (demote r60)
 (bindO (partV false 1 1 r1) fun r61 =>
 bindO (partV false 1 5 r0) fun r62 =>
 bindO (lenL (demote (demote r62))) fun r63 =>
 callP C 101 [(demote (demote (demote r61))), (demote (demote r63))] fun r64 =>
 bindO (unV .not (demote r64)) fun r65 =>
 ifP (demote r65)
 ((SV.noRef (.d (.int .i64 3))) = true ∧
 (K (.d (.int .i64 3))))
 (loopP (fun vs66 bs67 I68 =>
 bindO (partV false 1 9 (bget bs67 1)) fun r69 =>
 bindO (lenL (demote (demote r69))) fun r70 =>
 bindO (binV none .lss (demote (demote (vget vs66 0))) (demote r70)) fun r71 =>
 ifP r71
 (bindO (partV true 17 0 (bget bs67 0)) fun r72 =>
 bindO (partV false 1 9 (bget bs67 1)) fun r73 =>
 bindO (elemPtr 10 (demote (demote r73)) (demote (demote (vget vs66 0)))) fun r74 =>
 bindO (loadV true 10 (demote r74)) fun r75 =>
 callP C 133 [(demote (demote (demote r72))), (demote (demote r75))] fun r76 =>
 bindO (binV (some (false, [.int])) .neq (demote (demote (demote r76))) (.d (.int .i64 0))) fun r77 =>
 ifP r77
 ((SV.noRef (demote (demote (demote r76)))) = true ∧
 (K (demote (demote (demote r76)))))
 (bindO (binV none .add (demote (demote (vget vs66 0))) (.d (.int .i64 1))) fun r78 =>
 (I68 [(demote r78)] [(Box.vals (Box.cells (bget bs67 0))), (Box.vals (Box.cells (bget bs67 1)))])))
 ((SV.noRef (.d (.int .i64 0))) = true ∧
 (K (.d (.int .i64 0)))))
 [(.d (.int .i64 0))] [(Box.vals (Box.cells r0)), (Box.vals (Box.cells r1))]))
 (loopP (fun vs79 bs80 I81 =>
 bindO (partV false 1 9 (bget bs80 1)) fun r82 =>
 bindO (lenL (demote (demote r82))) fun r83 =>
 bindO (binV none .lss (demote (demote (vget vs79 0))) (demote r83)) fun r84 =>
 ifP r84
 (bindO (partV true 17 0 (bget bs80 0)) fun r85 =>
 bindO (partV false 1 9 (bget bs80 1)) fun r86 =>
 bindO (elemPtr 10 (demote (demote r86)) (demote (demote (vget vs79 0)))) fun r87 =>
 bindO (loadV true 10 (demote r87)) fun r88 =>
 callP C 133 [(demote (demote (demote r85))), (demote (demote r88))] fun r89 =>
 bindO (binV (some (false, [.int])) .neq (demote (demote (demote r89))) (.d (.int .i64 0))) fun r90 =>
 ifP r90
 ((SV.noRef (demote (demote (demote r89)))) = true ∧
 (K (demote (demote (demote r89)))))
 (bindO (binV none .add (demote (demote (vget vs79 0))) (.d (.int .i64 1))) fun r91 =>
 (I81 [(demote r91)] [(Box.vals (Box.cells (bget bs80 0))), (Box.vals (Box.cells (bget bs80 1)))])))
 ((SV.noRef (.d (.int .i64 0))) = true ∧
 (K (.d (.int .i64 0)))))
 [(.d (.int .i64 0))] [(Box.vals (Box.cells r0)), (Box.vals (Box.cells r1))]))))))))))) := by kernel_rfl

theorem body134 (C : Con) (x0 x1 x2 : SV) (K : SV → Prop) : body Go.Proofs.Tryz.prog gl C h134 134 [x0, x1, x2] K = (
 wfP [x0, x1, x2] (
 bindO (cellsV (demote x0)) fun r0 =>
 (List.length r0) = 17 ∧
 bindO (cellsV (demote x1)) fun r1 =>
 (List.length r1) = 10 ∧
 bindO (partV true 10 0 r1) fun r2 =>
 callP C 147 [(demote (demote (demote r2)))] fun r3 =>
 bindO (unV .not (demote r3)) fun r4 =>
 ifP r4
 ((SV.noRef (.d (.int .i64 2))) = true ∧
 (K (.d (.int .i64 2))))
 (bindO (partV false 1 0 r1) fun r5 =>
 bindO (binV (some (false, [.int])) .eql (demote (demote r5)) (.d (.int .i64 8))) fun r6 =>
 ifP r6
 (bindO (partV true 10 0 r1) fun r7 =>
 callP C 148 [(demote (demote (demote r7))), (demote (demote (demote x2)))] fun r8 =>
 (SV.noRef (demote r8)) = true ∧
 (K (demote r8)))
 (bindO (partV false 1 0 r1) fun r9 =>
 bindO (binV (some (false, [.int])) .eql (demote (demote r9)) (.d (.int .i64 9))) fun r10 =>
 ifP r10
 (bindO (partV false 1 1 r1) fun r11 =>
 callP C 101 [(demote (demote (demote r11))), (demote (demote (demote x2)))] fun r12 =>
 bindO (unV .not (demote r12)) fun r13 =>
 ifP r13
 ((SV.noRef (.d (.int .i64 3))) = true ∧
 (K (.d (.int .i64 3))))
 (bindO (partV true 17 0 r0) fun r14 =>
 bindO (partV false 1 1 r1) fun r15 =>
 callP C 149 [(demote (demote (demote r14))), (demote (demote (demote r15)))] fun r16 =>
 bindO (binV none .lss (demote (demote (demote r16))) (.d (.int .i64 0))) fun r17 =>
 ifP r17
 ((SV.noRef (.d (.int .i64 13))) = true ∧
 (K (.d (.int .i64 13))))
 (bindO (partV true 4 5 r1) fun r18 =>
 ∃ r19,
 ∃ r20,
 (C 93 [(demote (demote (demote r18))), (demote (demote (demote (demote r16))))] (.tup [r19, r20])) ∧
 bindO (unV .not (demote (demote (demote (demote (demote r20)))))) fun r21 =>
 ifP r21
 ((SV.noRef (.d (.int .i64 3))) = true ∧
 (K (.d (.int .i64 3))))
 (bindO (unV .not (demote (demote (demote (demote (demote r19)))))) fun r22 =>
 ifP r22
 ((SV.noRef (.d (.int .i64 2))) = true ∧
 (K (.d (.int .i64 2))))
 (loopP (fun vs23 bs24 I25 =>
 bindO (partV false 1 9 (bget bs24 1)) fun r26 =>
 bindO (lenL (demote (demote r26))) fun r27 =>
 bindO (binV none .lss (demote (demote (vget vs23 1))) (demote r27)) fun r28 =>
 ifP r28
 (bindO (partV true 17 0 (bget bs24 0)) fun r29 =>
 bindO (partV false 1 9 (bget bs24 1)) fun r30 =>
 bindO (elemPtr 10 (demote (demote r30)) (demote (demote (vget vs23 1)))) fun r31 =>
 bindO (loadV true 10 (demote r31)) fun r32 =>
 callP C 134 [(demote (demote (demote r29))), (demote (demote r32)), (demote (demote (demote (vget vs23 0))))] fun r33 =>
 bindO (binV (some (false, [.int])) .neq (demote (demote (demote r33))) (.d (.int .i64 0))) fun r34 =>
 ifP r34
 ((SV.noRef (demote (demote (demote r33)))) = true ∧
 (K (demote (demote (demote r33)))))
 (bindO (binV none .add (demote (demote (vget vs23 1))) (.d (.int .i64 1))) fun r35 =>
 (I25 [(vget vs23 0), (demote r35)] [(Box.vals (Box.cells (bget bs24 0))), (Box.vals (Box.cells (bget bs24 1)))])))
 ((SV.noRef (.d (.int .i64 0))) = true ∧
 (K (.d (.int .i64 0)))))
 [x2, (.d (.int .i64 0))] [(Box.vals (Box.cells r0)), (Box.vals (Box.cells r1))])))))
 (loopP (fun vs36 bs37 I38 =>
 bindO (partV false 1 9 (bget bs37 1)) fun r39 =>
 bindO (lenL (demote (demote r39))) fun r40 =>
 bindO (binV none .lss (demote (demote (vget vs36 1))) (demote r40)) fun r41 =>
 ifP r41
 (bindO (partV true 17 0 (bget bs37 0)) fun r42 =>
 bindO (partV false 1 9 (bget bs37 1)) fun r43 =>
 bindO (elemPtr 10 (demote (demote r43)) (demote (demote (vget vs36 1)))) fun r44 =>
 bindO (loadV true 10 (demote r44)) fun r45 =>
 callP C 134 [(demote (demote (demote r42))), (demote (demote r45)), (demote (demote (demote (vget vs36 0))))] fun r46 =>
 bindO (binV (some (false, [.int])) .neq (demote (demote (demote r46))) (.d (.int .i64 0))) fun r47 =>
 ifP r47
 ((SV.noRef (demote (demote (demote r46)))) = true ∧
 (K (demote (demote (demote r46)))))
 (bindO (binV none .add (demote (demote (vget vs36 1))) (.d (.int .i64 1))) fun r48 =>
 (I38 [(vget vs36 0), (demote r48)] [(Box.vals (Box.cells (bget bs37 0))), (Box.vals (Box.cells (bget bs37 1)))])))
 ((SV.noRef (.d (.int .i64 0))) = true ∧
 (K (.d (.int .i64 0)))))
 [x2, (.d (.int .i64 0))] [(Box.vals (Box.cells r0)), (Box.vals (Box.cells r1))]))))) := by kernel_rfl

theorem body135 (C : Con) (x0 : SV) (K : SV → Prop) : body Go.Proofs.Tryz.prog gl C h135 135 [x0] K = (
 wfP [x0] (
 loopP (fun vs0 bs1 I2 =>
 bindO (lenS (demote (demote (vget vs0 0)))) fun r3 =>
 bindO (binV none .lss (demote (demote (vget vs0 1))) (demote r3)) fun r4 =>
 ifP r4
 (bindO (strAt (demote (demote (vget vs0 0))) (demote (demote (vget vs0 1)))) fun r5 =>
 callP C 150 [(demote (demote r5))] fun r6 =>
 bindO (unV .not (demote r6)) fun r7 =>
 ifP (demote r7)
 (bindO (binV (some (false, [.int])) .eql (demote (demote (vget vs0 1))) (.d (.int .i64 0))) fun r8 =>
 ifP (demote r8)
 ((SV.noRef (.d (.bool false))) = true ∧
 (K (.d (.bool false))))
 (bindO (strAt (demote (demote (vget vs0 0))) (demote (demote (vget vs0 1)))) fun r9 =>
 callP C 151 [(demote (demote r9))] fun r10 =>
 bindO (unV .not (demote r10)) fun r11 =>
 ifP (demote (demote r11))
 ((SV.noRef (.d (.bool false))) = true ∧
 (K (.d (.bool false))))
 (bindO (binV none .add (demote (demote (vget vs0 1))) (.d (.int .i64 1))) fun r12 =>
 (I2 [(vget vs0 0), (demote r12)] []))))
 (bindO (binV none .add (demote (demote (vget vs0 1))) (.d (.int .i64 1))) fun r13 =>
 (I2 [(vget vs0 0), (demote r13)] [])))
 (bindO (lenS (demote (demote (vget vs0 0)))) fun r14 =>
 bindO (binV none .geq (demote r14) (.d (.int .i64 1))) fun r15 =>
 ifP (demote r15)
 (bindO (lenS (demote (demote (vget vs0 0)))) fun r16 =>
 bindO (binV none .leq (demote r16) (.d (.int .i64 32))) fun r17 =>
 (SV.noRef (demote (demote r17))) = true ∧
 (K (demote (demote r17))))
 ((SV.noRef (.d (.bool false))) = true ∧
 (K (.d (.bool false))))))
 [x0, (.d (.int .i64 0))] [])) := by kernel_rfl

theorem body136 (C : Con) (x0 : SV) (K : SV → Prop) : body Go.Proofs.Tryz.prog gl C h136 136 [x0] K = (
 wfP [x0] (
 loopP (fun vs0 bs1 I2 =>
 bindO (lenS (demote (demote (vget vs0 0)))) fun r3 =>
 bindO (binV none .lss (demote (demote (vget vs0 1))) (demote r3)) fun r4 =>
 ifP r4
 (bindO (strAt (demote (demote (vget vs0 0))) (demote (demote (vget vs0 1)))) fun r5 =>
 callP C 151 [(demote (demote r5))] fun r6 =>
 bindO (unV .not (demote r6)) fun r7 =>
 ifP r7
 ((SV.noRef (.d (.bool false))) = true ∧
 (K (.d (.bool false))))
 (bindO (binV none .add (demote (demote (vget vs0 1))) (.d (.int .i64 1))) fun r8 =>
 (I2 [(vget vs0 0), (demote r8)] [])))
 (bindO (lenS (demote (demote (vget vs0 0)))) fun r9 =>
 bindO (binV none .geq (demote r9) (.d (.int .i64 1))) fun r10 =>
 ifP (demote r10)
 (bindO (lenS (demote (demote (vget vs0 0)))) fun r11 =>
 bindO (binV none .leq (demote r11) (.d (.int .i64 9))) fun r12 =>
 ifP (demote (demote r12))
 (bindO (lenS (demote (demote (vget vs0 0)))) fun r13 =>
 bindO (binV (some (false, [.int])) .eql (demote r13) (.d (.int .i64 1))) fun r14 =>
 ifP (demote r14)
 ((SV.noRef (.d (.bool true))) = true ∧
 (K (.d (.bool true))))
 (bindO (strAt (demote (demote (vget vs0 0))) (.d (.int .i64 0))) fun r15 =>
 bindO (binV (some (false, [.int])) .neq (demote r15) (.d (.int .u8 48))) fun r16 =>
 (SV.noRef (demote (demote (demote r16)))) = true ∧
 (K (demote (demote (demote r16))))))
 ((SV.noRef (.d (.bool false))) = true ∧
 (K (.d (.bool false)))))
 ((SV.noRef (.d (.bool false))) = true ∧
 (K (.d (.bool false))))))
 [x0, (.d (.int .i64 0))] [])) := by kernel_rfl

theorem body137 (C : Con) (x0 : SV) (K : SV → Prop) : body Go.Proofs.Tryz.prog gl C h137 137 [x0] K = (
 wfP [x0] (
 loopP (fun vs0 bs1 I2 =>
 bindO (lenS (demote (demote (vget vs0 0)))) fun r3 =>
 bindO (binV none .lss (demote (demote (vget vs0 1))) (demote r3)) fun r4 =>
 ifP r4
 (bindO (strAt (demote (demote (vget vs0 0))) (demote (demote (vget vs0 1)))) fun r5 =>
 bindO (binV none .lss (demote r5) (.d (.int .u8 32))) fun r6 =>
 ifP (demote r6)
 ((SV.noRef (.d (.bool false))) = true ∧
 (K (.d (.bool false))))
 (bindO (strAt (demote (demote (vget vs0 0))) (demote (demote (vget vs0 1)))) fun r7 =>
 bindO (binV none .gtr (demote r7) (.d (.int .u8 126))) fun r8 =>
 ifP (demote (demote r8))
 ((SV.noRef (.d (.bool false))) = true ∧
 (K (.d (.bool false))))
 (bindO (strAt (demote (demote (vget vs0 0))) (demote (demote (vget vs0 1)))) fun r9 =>
 bindO (binV (some (false, [.int])) .eql (demote r9) (.d (.int .u8 34))) fun r10 =>
 ifP (demote r10)
 ((SV.noRef (.d (.bool false))) = true ∧
 (K (.d (.bool false))))
 (bindO (binV none .add (demote (demote (vget vs0 1))) (.d (.int .i64 1))) fun r11 =>
 (I2 [(vget vs0 0), (demote r11)] [])))))
 (bindO (lenS (demote (demote (vget vs0 0)))) fun r12 =>
 bindO (binV none .leq (demote r12) (.d (.int .i64 256))) fun r13 =>
 (SV.noRef (demote r13)) = true ∧
 (K (demote r13))))
 [x0, (.d (.int .i64 0))] [])) := by kernel_rfl

theorem body138 (C : Con) (x0 x1 : SV) (K : SV → Prop) : body Go.Proofs.Tryz.prog gl C h138 138 [x0, x1] K = (
 wfP [x0, x1] (
 loopP (fun vs0 bs1 I2 =>
 bindO (lenS (demote (demote (vget vs0 1)))) fun r3 =>
 bindO (binV none .lss (demote (demote (vget vs0 3))) (demote r3)) fun r4 =>
 ifP r4
 (bindO (strAt (demote (demote (vget vs0 1))) (demote (demote (vget vs0 3)))) fun r5 =>
 bindO (binV (some (false, [.int])) .neq (demote r5) (.d (.int .u8 32))) fun r6 =>
 ifP r6
 (bindO (binV none .add (demote (demote (vget vs0 3))) (.d (.int .i64 1))) fun r7 =>
 (I2 [(vget vs0 0), (vget vs0 1), (vget vs0 2), (demote r7)] []))
 (bindO (sliceS (demote (demote (demote (vget vs0 1)))) (some (demote (demote (vget vs0 2)))) (some (demote (demote (vget vs0 3)))) none) fun r8 =>
 bindO (binV (some (false, [.str])) .eql (demote r8) (demote (demote (vget vs0 0)))) fun r9 =>
 ifP (demote r9)
 (bindO (binV (some (false, [.str])) .neq (demote (demote (vget vs0 0))) (.d (.str []))) fun r10 =>
 ifP (demote r10)
 ((SV.noRef (.d (.bool true))) = true ∧
 (K (.d (.bool true))))
 (bindO (binV none .add (demote (demote (vget vs0 3))) (.d (.int .i64 1))) fun r11 =>
 bindO (binV none .add (demote (demote (vget vs0 3))) (.d (.int .i64 1))) fun r12 =>
 (I2 [(vget vs0 0), (vget vs0 1), (demote r11), (demote r12)] [])))
 (bindO (binV none .add (demote (demote (vget vs0 3))) (.d (.int .i64 1))) fun r13 =>
 bindO (binV none .add (demote (demote (vget vs0 3))) (.d (.int .i64 1))) fun r14 =>
 (I2 [(vget vs0 0), (vget vs0 1), (demote r13), (demote r14)] []))))
 ((SV.noRef (.d (.bool false))) = true ∧
 (K (.d (.bool false)))))
 [x0, x1, (.d (.int .i64 0)), (.d (.int .i64 0))] [])) := by kernel_rfl

theorem body145 (C : Con) (x0 : SV) (K : SV → Prop) : body Go.Proofs.Tryz.prog gl C h145 145 [x0] K = (
 wfP [x0] (
 callP C 135 [(demote (demote (demote x0)))] fun r0 =>
 ifP (demote r0)
 (callP C 153 [(demote (demote (demote x0)))] fun r1 =>
 bindO (unV .not (demote r1)) fun r2 =>
 (SV.noRef (demote (demote r2))) = true ∧
 (K (demote (demote r2))))
 ((SV.noRef (.d (.bool false))) = true ∧
 (K (.d (.bool false)))))) := by kernel_rfl

theorem body146 (C : Con) (x0 : SV) (K : SV → Prop) : body Go.Proofs.Tryz.prog gl C h146 146 [x0] K = (
 wfP [x0] (
 bindO (binV (some (false, [.int])) .eql (demote (demote x0)) (.d (.int .i64 1))) fun r0 =>
 ifP (demote r0)
 ((SV.noRef (.d (.int .i64 0))) = true ∧
 (K (.d (.int .i64 0))))
 (bindO (binV (some (false, [.int])) .eql (demote (demote x0)) (.d (.int .i64 8))) fun r1 =>
 ifP (demote r1)
 ((SV.noRef (.d (.int .i64 0))) = true ∧
 (K (.d (.int .i64 0))))
 (bindO (binV (some (false, [.int])) .eql (demote (demote x0)) (.d (.int .i64 9))) fun r2 =>
 ifP (demote r2)
 ((SV.noRef (.d (.int .i64 0))) = true ∧
 (K (.d (.int .i64 0))))
 (bindO (binV (some (false, [.int])) .eql (demote (demote x0)) (.d (.int .i64 2))) fun r3 =>
 ifP (demote r3)
 ((SV.noRef (.d (.int .i64 1))) = true ∧
 (K (.d (.int .i64 1))))
 (bindO (binV (some (false, [.int])) .eql (demote (demote x0)) (.d (.int .i64 3))) fun r4 =>
 ifP (demote r4)
 ((SV.noRef (.d (.int .i64 2))) = true ∧
 (K (.d (.int .i64 2))))
 (bindO (binV (some (false, [.int])) .eql (demote (demote x0)) (.d (.int .i64 4))) fun r5 =>
 ifP (demote r5)
 ((SV.noRef (.d (.int .i64 2))) = true ∧
 (K (.d (.int .i64 2))))
 (bindO (binV (some (false, [.int])) .eql (demote (demote x0)) (.d (.int .i64 5))) fun r6 =>
 ifP (demote r6)
 ((SV.noRef (.d (.int .i64 2))) = true ∧
 (K (.d (.int .i64 2))))
 (bindO (binV (some (false, [.int])) .eql (demote (demote x0)) (.d (.int .i64 6))) fun r7 =>
 ifP (demote r7)
 ((SV.noRef (.d (.int .i64 2))) = true ∧
 (K (.d (.int .i64 2))))
 (bindO (binV (some (false, [.int])) .eql (demote (demote x0)) (.d (.int .i64 7))) fun r8 =>
 ifP (demote r8)
 ((SV.noRef (.d (.int .i64 2))) = true ∧
 (K (.d (.int .i64 2))))
 ((SV.noRef (.d (.int .i64 (-1)))) = true ∧
 (K (.d (.int .i64 (-1))))))))))))))) := by kernel_rfl

theorem body147 (C : Con) (x0 : SV) (K : SV → Prop) : body Go.Proofs.Tryz.prog gl C h147 147 [x0] K = (
 wfP [x0] (
 bindO (cellsV (demote x0)) fun r0 =>
 (List.length r0) = 10 ∧
 bindO (partV false 1 0 r0) fun r1 =>
 bindO (binV (some (false, [.int])) .eql (demote (demote r1)) (.d (.int .i64 2))) fun r2 =>
 ifP (demote r2)
 (bindO (partV false 1 9 r0) fun r3 =>
 bindO (lenL (demote (demote r3))) fun r4 =>
 bindO (partV false 1 0 r0) fun r5 =>
 callP C 146 [(demote (demote (demote r5)))] fun r6 =>
 bindO (binV (some (false, [.int])) .eql (demote r4) (demote r6)) fun r7 =>
 ifP (demote r7)
 (bindO (partV false 1 1 r0) fun r8 =>
 bindO (binV (some (false, [.int])) .eql (demote (demote r8)) (.d (.int .i64 0))) fun r9 =>
 ifP (demote (demote r9))
 (bindO (partV false 1 2 r0) fun r10 =>
 bindO (binV (some (false, [.int])) .eql (demote (demote r10)) (.d (.int .i64 0))) fun r11 =>
 ifP (demote (demote r11))
 (bindO (partV false 1 3 r0) fun r12 =>
 bindO (binV (some (false, [.int])) .eql (demote (demote r12)) (.d (.int .i64 0))) fun r13 =>
 ifP (demote (demote r13))
 (bindO (partV false 1 4 r0) fun r14 =>
 bindO (lenL (demote (demote r14))) fun r15 =>
 bindO (binV (some (false, [.int])) .eql (demote r15) (.d (.int .i64 0))) fun r16 =>
 ifP (demote (demote r16))
 (bindO (partV true 4 5 r0) fun r17 =>
 bindO (partsS []) fun r18 =>
 bindO (buildD Proofs.Tryz.prog 25 r18) fun r19 =>
 bindO (binV (some (true, [.int, .int, .int, .int])) .eql (demote (demote r17)) (.d r19)) fun r20 =>
 (SV.noRef (demote (demote r20))) = true ∧
 (K (demote (demote r20))))
 ((SV.noRef (.d (.bool false))) = true ∧
 (K (.d (.bool false)))))
 ((SV.noRef (.d (.bool false))) = true ∧
 (K (.d (.bool false)))))
 ((SV.noRef (.d (.bool false))) = true ∧
 (K (.d (.bool false)))))
 ((SV.noRef (.d (.bool false))) = true ∧
 (K (.d (.bool false)))))
 ((SV.noRef (.d (.bool false))) = true ∧
 (K (.d (.bool false)))))
 (bindO (binV (some (false, [.int])) .eql (demote (demote r1)) (.d (.int .i64 3))) fun r21 =>
 ifP (demote r21)
 (bindO (partV false 1 9 r0) fun r22 =>
 bindO (lenL (demote (demote r22))) fun r23 =>
 bindO (partV false 1 0 r0) fun r24 =>
 callP C 146 [(demote (demote (demote r24)))] fun r25 =>
 bindO (binV (some (false, [.int])) .eql (demote r23) (demote r25)) fun r26 =>
 ifP (demote r26)
 (bindO (partV false 1 1 r0) fun r27 =>
 bindO (binV (some (false, [.int])) .eql (demote (demote r27)) (.d (.int .i64 0))) fun r28 =>
 ifP (demote (demote r28))
 (bindO (partV false 1 2 r0) fun r29 =>
 bindO (binV (some (false, [.int])) .eql (demote (demote r29)) (.d (.int .i64 0))) fun r30 =>
 ifP (demote (demote r30))
 (bindO (partV false 1 3 r0) fun r31 =>
 bindO (binV (some (false, [.int])) .eql (demote (demote r31)) (.d (.int .i64 0))) fun r32 =>
 ifP (demote (demote r32))
 (bindO (partV false 1 4 r0) fun r33 =>
 bindO (lenL (demote (demote r33))) fun r34 =>
 bindO (binV (some (false, [.int])) .eql (demote r34) (.d (.int .i64 0))) fun r35 =>
 ifP (demote (demote r35))
 (bindO (partV true 4 5 r0) fun r36 =>
 bindO (partsS []) fun r37 =>
 bindO (buildD Proofs.Tryz.prog 25 r37) fun r38 =>
 bindO (binV (some (true, [.int, .int, .int, .int])) .eql (demote (demote r36)) (.d r38)) fun r39 =>
 (SV.noRef (demote (demote r39))) = true ∧
 (K (demote (demote r39))))
 ((SV.noRef (.d (.bool false))) = true ∧
 (K (.d (.bool false)))))
 ((SV.noRef (.d (.bool false))) = true ∧
 (K (.d (.bool false)))))
 ((SV.noRef (.d (.bool false))) = true ∧
 (K (.d (.bool false)))))
 ((SV.noRef (.d (.bool false))) = true ∧
 (K (.d (.bool false)))))
 ((SV.noRef (.d (.bool false))) = true ∧
 (K (.d (.bool false)))))
 (bindO (binV (some (false, [.int])) .eql (demote (demote r1)) (.d (.int .i64 4))) fun r40 =>
 ifP (demote r40)
 (bindO (partV false 1 9 r0) fun r41 =>
 bindO (lenL (demote (demote r41))) fun r42 =>
 bindO (partV false 1 0 r0) fun r43 =>
 callP C 146 [(demote (demote (demote r43)))] fun r44 =>
 bindO (binV (some (false, [.int])) .eql (demote r42) (demote r44)) fun r45 =>
 ifP (demote r45)
 (bindO (partV false 1 1 r0) fun r46 =>
 bindO (binV (some (false, [.int])) .eql (demote (demote r46)) (.d (.int .i64 0))) fun r47 =>
 ifP (demote (demote r47))
 (bindO (partV false 1 2 r0) fun r48 =>
 bindO (binV (some (false, [.int])) .eql (demote (demote r48)) (.d (.int .i64 0))) fun r49 =>
 ifP (demote (demote r49))
 (bindO (partV false 1 3 r0) fun r50 =>
 bindO (binV (some (false, [.int])) .eql (demote (demote r50)) (.d (.int .i64 0))) fun r51 =>
 ifP (demote (demote r51))
 (bindO (partV false 1 4 r0) fun r52 =>
 bindO (lenL (demote (demote r52))) fun r53 =>
 bindO (binV (some (false, [.int])) .eql (demote r53) (.d (.int .i64 0))) fun r54 =>
 ifP (demote (demote r54))
 (bindO (partV true 4 5 r0) fun r55 =>
 bindO (partsS []) fun r56 =>
 bindO (buildD Proofs.Tryz.prog 25 r56) fun r57 =>
 bindO (binV (some (true, [.int, .int, .int, .int])) .eql (demote (demote r55)) (.d r57)) fun r58 =>
 (SV.noRef (demote (demote r58))) = true ∧
 (K (demote (demote r58))))
 ((SV.noRef (.d (.bool false))) = true ∧
 (K (.d (.bool false)))))
 ((SV.noRef (.d (.bool false))) = true ∧
 (K (.d (.bool false)))))
 ((SV.noRef (.d (.bool false))) = true ∧
 (K (.d (.bool false)))))
 ((SV.noRef (.d (.bool false))) = true ∧
 (K (.d (.bool false)))))
 ((SV.noRef (.d (.bool false))) = true ∧
 (K (.d (.bool false)))))
 (bindO (binV (some (false, [.int])) .eql (demote (demote r1)) (.d (.int .i64 8))) fun r59 =>
 ifP (demote r59)
 (bindO (partV false 1 9 r0) fun r60 =>
 bindO (lenL (demote (demote r60))) fun r61 =>
 bindO (binV (some (false, [.int])) .eql (demote r61) (.d (.int .i64 0))) fun r62 =>
 ifP (demote r62)
 (bindO (partV false 1 4 r0) fun r63 =>
 bindO (lenL (demote (demote r63))) fun r64 =>
 bindO (binV (some (false, [.int])) .eql (demote r64) (.d (.int .i64 0))) fun r65 =>
 ifP (demote (demote r65))
 (bindO (partV true 4 5 r0) fun r66 =>
 bindO (partsS []) fun r67 =>
 bindO (buildD Proofs.Tryz.prog 25 r67) fun r68 =>
 bindO (binV (some (true, [.int, .int, .int, .int])) .eql (demote (demote r66)) (.d r68)) fun r69 =>
 (SV.noRef (demote (demote r69))) = true ∧
 (K (demote (demote r69))))
 ((SV.noRef (.d (.bool false))) = true ∧
 (K (.d (.bool false)))))
 ((SV.noRef (.d (.bool false))) = true ∧
 (K (.d (.bool false)))))
 (bindO (binV (some (false, [.int])) .eql (demote (demote r1)) (.d (.int .i64 9))) fun r70 =>
 ifP (demote r70)
 (bindO (partV false 1 9 r0) fun r71 =>
 bindO (lenL (demote (demote r71))) fun r72 =>
 bindO (binV (some (false, [.int])) .eql (demote r72) (.d (.int .i64 0))) fun r73 =>
 ifP (demote r73)
 (bindO (partV false 1 2 r0) fun r74 =>
 bindO (binV (some (false, [.int])) .eql (demote (demote r74)) (.d (.int .i64 0))) fun r75 =>
 ifP (demote (demote r75))
 (bindO (partV false 1 3 r0) fun r76 =>
 bindO (binV (some (false, [.int])) .eql (demote (demote r76)) (.d (.int .i64 0))) fun r77 =>
 ifP (demote (demote r77))
 (bindO (partV false 1 4 r0) fun r78 =>
 bindO (lenL (demote (demote r78))) fun r79 =>
 bindO (binV (some (false, [.int])) .eql (demote r79) (.d (.int .i64 0))) fun r80 =>
 (SV.noRef (demote (demote r80))) = true ∧
 (K (demote (demote r80))))
 ((SV.noRef (.d (.bool false))) = true ∧
 (K (.d (.bool false)))))
 ((SV.noRef (.d (.bool false))) = true ∧
 (K (.d (.bool false)))))
 ((SV.noRef (.d (.bool false))) = true ∧
 (K (.d (.bool false)))))
 ((SV.noRef (.d (.bool false))) = true ∧
 (K (.d (.bool false)))))))))) := by kernel_rfl

theorem body148 (C : Con) (x0 x1 : SV) (K : SV → Prop) : body Go.Proofs.Tryz.prog gl C h148 148 [x0, x1] K = (
 wfP [x0, x1] (
 bindO (cellsV (demote x0)) fun r0 =>
 (List.length r0) = 10 ∧
 bindO (partV false 1 1 r0) fun r1 =>
 callP C 101 [(demote (demote (demote r1))), (demote (demote (demote x1)))] fun r2 =>
 bindO (unV .not (demote r2)) fun r3 =>
 ifP (demote r3)
 ((SV.noRef (.d (.int .i64 3))) = true ∧
 (K (.d (.int .i64 3))))
 (bindO (partV false 1 3 r0) fun r4 =>
 callP C 101 [(demote (demote (demote r4))), (demote (demote (demote x1)))] fun r5 =>
 bindO (unV .not (demote r5)) fun r6 =>
 ifP (demote (demote r6))
 ((SV.noRef (.d (.int .i64 3))) = true ∧
 (K (.d (.int .i64 3))))
 (bindO (partV false 1 2 r0) fun r7 =>
 callP C 101 [(demote (demote (demote r7))), (.d (.int .i64 5))] fun r8 =>
 bindO (unV .not (demote r8)) fun r9 =>
 ifP (demote r9)
 ((SV.noRef (.d (.int .i64 3))) = true ∧
 (K (.d (.int .i64 3))))
 (bindO (partV false 1 1 r0) fun r10 =>
 bindO (binV none .rem (demote (demote r10)) (.d (.int .i64 5))) fun r11 =>
 bindO (partV false 1 3 r0) fun r12 =>
 bindO (binV none .rem (demote (demote r12)) (.d (.int .i64 5))) fun r13 =>
 bindO (binV none .geq (demote (demote (demote r11))) (.d (.int .i64 3))) fun r14 =>
 ifP (demote r14)
 (bindO (binV none .geq (demote (demote (demote r13))) (.d (.int .i64 3))) fun r15 =>
 ifP (demote r15)
 ((SV.noRef (.d (.int .i64 0))) = true ∧
 (K (.d (.int .i64 0))))
 (bindO (binV (some (false, [.int])) .neq (demote (demote (demote r11))) (demote (demote (demote r13)))) fun r16 =>
 ifP (demote r16)
 ((SV.noRef (.d (.int .i64 13))) = true ∧
 (K (.d (.int .i64 13))))
 (bindO (partV false 1 2 r0) fun r17 =>
 bindO (binV none .gtr (demote (demote r17)) (.d (.int .i64 1))) fun r18 =>
 ifP (demote r18)
 ((SV.noRef (.d (.int .i64 13))) = true ∧
 (K (.d (.int .i64 13))))
 ((SV.noRef (.d (.int .i64 0))) = true ∧
 (K (.d (.int .i64 0)))))))
 (bindO (binV (some (false, [.int])) .neq (demote (demote (demote r11))) (demote (demote (demote r13)))) fun r19 =>
 ifP (demote r19)
 ((SV.noRef (.d (.int .i64 13))) = true ∧
 (K (.d (.int .i64 13))))
 (bindO (partV false 1 2 r0) fun r20 =>
 bindO (binV none .gtr (demote (demote r20)) (.d (.int .i64 1))) fun r21 =>
 ifP (demote r21)
 ((SV.noRef (.d (.int .i64 13))) = true ∧
 (K (.d (.int .i64 13))))
 ((SV.noRef (.d (.int .i64 0))) = true ∧
 (K (.d (.int .i64 0))))))))))) := by kernel_rfl

theorem body149 (C : Con) (x0 x1 : SV) (K : SV → Prop) : body Go.Proofs.Tryz.prog gl C h149 149 [x0, x1] K = (
 wfP [x0, x1] (
 bindO (cellsV (demote x0)) fun r0 =>
 (List.length r0) = 17 ∧
 bindO (binV none .rem (demote (demote x1)) (.d (.int .i64 5))) fun r1 =>
 bindO (binV (some (false, [.int])) .eql (demote r1) (.d (.int .i64 0))) fun r2 =>
 ifP (demote r2)
 (bindO (partV false 1 4 r0) fun r3 =>
 bindO (lenL (demote (demote r3))) fun r4 =>
 (SV.noRef (demote r4)) = true ∧
 (K (demote r4)))
 (bindO (binV (some (false, [.int])) .eql (demote r1) (.d (.int .i64 1))) fun r5 =>
 ifP (demote r5)
 (bindO (partV false 1 3 r0) fun r6 =>
 bindO (lenL (demote (demote r6))) fun r7 =>
 (SV.noRef (demote r7)) = true ∧
 (K (demote r7)))
 (bindO (binV (some (false, [.int])) .eql (demote r1) (.d (.int .i64 2))) fun r8 =>
 ifP (demote r8)
 (bindO (partV false 1 1 r0) fun r9 =>
 bindO (lenL (demote (demote r9))) fun r10 =>
 (SV.noRef (demote r10)) = true ∧
 (K (demote r10)))
 ((SV.noRef (.d (.int .i64 (-1)))) = true ∧
 (K (.d (.int .i64 (-1))))))))) := by kernel_rfl

theorem body150 (C : Con) (x0 : SV) (K : SV → Prop) : body Go.Proofs.Tryz.prog gl C h150 150 [x0] K = (
 wfP [x0] (
 bindO (binV none .geq (demote (demote x0)) (.d (.int .u8 65))) fun r0 =>
 ifP (demote r0)
 (bindO (binV none .leq (demote (demote x0)) (.d (.int .u8 90))) fun r1 =>
 ifP (demote (demote r1))
 ((SV.noRef (.d (.bool true))) = true ∧
 (K (.d (.bool true))))
 (bindO (binV none .geq (demote (demote x0)) (.d (.int .u8 97))) fun r2 =>
 ifP (demote r2)
 (bindO (binV none .leq (demote (demote x0)) (.d (.int .u8 122))) fun r3 =>
 ifP (demote (demote (demote r3)))
 ((SV.noRef (.d (.bool true))) = true ∧
 (K (.d (.bool true))))
 (bindO (binV (some (false, [.int])) .eql (demote (demote x0)) (.d (.int .u8 95))) fun r4 =>
 (SV.noRef (demote (demote r4))) = true ∧
 (K (demote (demote r4)))))
 (bindO (binV (some (false, [.int])) .eql (demote (demote x0)) (.d (.int .u8 95))) fun r5 =>
 (SV.noRef (demote (demote r5))) = true ∧
 (K (demote (demote r5))))))
 (bindO (binV none .geq (demote (demote x0)) (.d (.int .u8 97))) fun r6 =>
 ifP (demote r6)
 (bindO (binV none .leq (demote (demote x0)) (.d (.int .u8 122))) fun r7 =>
 ifP (demote (demote (demote r7)))
 ((SV.noRef (.d (.bool true))) = true ∧
 (K (.d (.bool true))))
 (bindO (binV (some (false, [.int])) .eql (demote (demote x0)) (.d (.int .u8 95))) fun r8 =>
 (SV.noRef (demote (demote r8))) = true ∧
 (K (demote (demote r8)))))
 (bindO (binV (some (false, [.int])) .eql (demote (demote x0)) (.d (.int .u8 95))) fun r9 =>
 (SV.noRef (demote (demote r9))) = true ∧
 (K (demote (demote r9))))))) := by kernel_rfl

theorem body151 (C : Con) (x0 : SV) (K : SV → Prop) : body Go.Proofs.Tryz.prog gl C h151 151 [x0] K = (
 wfP [x0] (
 bindO (binV none .geq (demote (demote x0)) (.d (.int .u8 48))) fun r0 =>
 ifP (demote r0)
 (bindO (binV none .leq (demote (demote x0)) (.d (.int .u8 57))) fun r1 =>
 (SV.noRef (demote (demote r1))) = true ∧
 (K (demote (demote r1))))
 ((SV.noRef (.d (.bool false))) = true ∧
 (K (.d (.bool false)))))) := by kernel_rfl

theorem body153 (C : Con) (x0 : SV) (K : SV → Prop) : body Go.Proofs.Tryz.prog gl C h153 153 [x0] K = (
 wfP [x0] (
 callP C 138 [(demote (demote (demote x0))), (.d (.str [109, 111, 100, 117, 108, 101, 32, 99, 108, 97, 115, 115, 32, 116, 121, 112, 101, 32, 97, 108, 105, 97, 115, 32, 116, 121, 112, 101, 97, 116, 116, 114, 105, 98, 117, 116, 101, 32, 97, 116, 116, 114, 105, 98, 117, 116, 101, 32, 114, 111, 108, 101, 32, 116, 121, 112, 101, 115, 32, 114, 111, 108, 101, 97, 108, 108, 111, 119, 32, 114, 111, 108, 101, 95, 116, 114, 97, 110, 115, 105, 116, 105, 111, 110, 32, 117, 115, 101, 114, 32, 114, 111, 108, 101, 115, 32, 108, 101, 118, 101, 108, 32, 114, 97, 110, 103, 101, 32, 98, 111, 111, 108, 32, 116, 114, 117, 101, 32, 102, 97, 108, 115, 101, 32, 115, 101, 110, 115, 105, 116, 105, 118, 105, 116, 121, 32, 99, 97, 116, 101, 103, 111, 114, 121, 32, 97, 108, 108, 111, 119, 32, 97, 117, 100, 105, 116, 97, 108, 108, 111, 119, 32, 100, 111, 110, 116, 97, 117, 100, 105, 116, 32, 110, 101, 118, 101, 114, 97, 108, 108, 111, 119, 32, 116, 121, 112, 101, 95, 116, 114, 97, 110, 115, 105, 116, 105, 111, 110, 32, 116, 121, 112, 101, 95, 99, 104, 97, 110, 103, 101, 32, 116, 121, 112, 101, 95, 109, 101, 109, 98, 101, 114, 32, 114, 97, 110, 103, 101, 95, 116, 114, 97, 110, 115, 105, 116, 105, 111, 110, 32, 99, 111, 110, 115, 116, 114, 97, 105, 110, 32, 118, 97, 108, 105, 100, 97, 116, 101, 116, 114, 97, 110, 115, 32, 105, 102, 32, 101, 108, 115, 101, 32, 111, 112, 116, 105, 111, 110, 97, 108, 32, 114, 101, 113, 117, 105, 114, 101, 32, 115, 105, 100, 32, 102, 105, 108, 101, 99, 111, 110, 32, 112, 101, 114, 109, 105, 115, 115, 105, 118, 101, 32, 97, 115, 115, 101, 114, 116, 32, 115, 101, 108, 102, 32, 105, 110, 32]))] fun r0 =>
 (SV.noRef (demote r0)) = true ∧
 (K (demote r0)))) := by kernel_rfl
end Go.Proofs.YtcnnhnjcnekhcaaGreat.Ab
