/-
  Steps towards the claim of this seat (B17).
-/
import Derived.Test.YtcnnhnjcnekhcaaGreatWc
import Derived.Test.YtcnnhnjcnekhcaaGreatWd
import Derived.Test.YtcnnhnjcnekhcaaGreatProg
import Derived.KernelRfl
set_option linter.unusedVariables false
set_option linter.unusedSimpArgs false
namespace Go.Proofs.YtcnnhnjcnekhcaaGreat.Ab
open Go
def h3 : Hints := ⟨[], []⟩
def h4 : Hints := ⟨[], []⟩
def h5 : Hints := ⟨[(5, 1), (5, 5), (5, 7), (6, 1), (6, 8), (6, 10)], []⟩
def h6 : Hints := ⟨[], []⟩
def h7 : Hints := ⟨[], []⟩
def h8 : Hints := ⟨[], []⟩
def h9 : Hints := ⟨[], []⟩
def h11 : Hints := ⟨[], []⟩
def h12 : Hints := ⟨[], []⟩
def h13 : Hints := ⟨[], []⟩
def h14 : Hints := ⟨[], []⟩
def h15 : Hints := ⟨[], [(4, [5], [2, 3, 6, 8, 12, 14, 19, 21, 26, 28, 33, 35, 40, 42, 48, 51])]⟩
def h16 : Hints := ⟨[], [(3, [1, 10, 11, 15, 16, 17], [4, 6, 7, 14])]⟩
def h17 : Hints := ⟨[], []⟩
def h18 : Hints := ⟨[], [(3, [1, 10, 11, 12], [4, 6, 7])]⟩
def h19 : Hints := ⟨[], [(2, [1, 15, 16, 17], [5, 7, 8, 9, 14])]⟩
def h20 : Hints := ⟨[], [(2, [1, 12], [5, 7, 8, 9])]⟩
def h21 : Hints := ⟨[], []⟩
def h22 : Hints := ⟨[], []⟩
def h23 : Hints := ⟨[], [(4, [1, 5], [2, 9, 15])]⟩
def h24 : Hints := ⟨[], [(7, [4], [1, 3, 9, 14, 20, 26, 32, 38, 44, 50, 56, 61, 66, 72, 78, 84, 90, 96, 102, 132, 138, 147, 153, 161, 167, 175, 179, 184]), (13, [6], [1, 3, 9, 14, 20, 26, 32, 38, 44, 50, 56, 61, 66, 72, 78, 84, 90, 96, 102, 108, 114, 127, 130, 147, 153, 161, 167, 175, 179, 184]), (18, [7], [1, 3, 9, 14, 20, 26, 32, 38, 44, 50, 56, 61, 66, 72, 78, 84, 90, 96, 102, 108, 114, 127, 130, 132, 138, 161, 167, 175, 179, 184]), (23, [8], [1, 3, 9, 14, 20, 26, 32, 38, 44, 50, 56, 61, 66, 72, 78, 84, 90, 96, 102, 108, 114, 127, 130, 132, 138, 147, 153, 175, 179, 184])]⟩
def h25 : Hints := ⟨[], []⟩
def h30 : Hints := ⟨[], [(3, [3, 7, 8, 9], [1, 6])]⟩
def h31 : Hints := ⟨[], [(5, [1, 16, 17, 18], [2, 15])]⟩
def h32 : Hints := ⟨[], []⟩
def h33 : Hints := ⟨[], []⟩
def h34 : Hints := ⟨[], []⟩
def h35 : Hints := ⟨[], [(3, [1, 5, 6], [2])]⟩
def h36 : Hints := ⟨[], [(10, [2, 8], [3, 4, 16, 19, 22, 28])]⟩
def h37 : Hints := ⟨[], []⟩
def h38 : Hints := ⟨[], []⟩
def h39 : Hints := ⟨[], []⟩
def h40 : Hints := ⟨[], [(3, [12, 13, 14], [2, 3, 4, 6, 11])]⟩
def h41 : Hints := ⟨[(10, 1), (10, 6), (10, 8)], [(8, [43, 44, 45], [2, 3, 4, 5, 7, 10, 22, 24, 27, 29, 33, 35, 37, 39, 42])]⟩
def h42 : Hints := ⟨[(20, 1), (20, 4), (20, 6)], [(6, [2, 10], [3, 4, 6, 9, 14, 23, 25, 27, 29, 59, 63, 68, 70, 74, 81, 95, 100]), (15, [2, 13], [3, 4, 6, 9, 11, 23, 25, 27, 29, 33, 41, 43, 54, 58, 59, 63, 68, 70])]⟩
def h43 : Hints := ⟨[], [(4, [0, 1, 5], [])]⟩
def h44 : Hints := ⟨[], []⟩
def h45 : Hints := ⟨[], []⟩
def h46 : Hints := ⟨[], []⟩
def h47 : Hints := ⟨[(3, 7), (7, 1), (7, 6), (7, 8)], [(5, [28, 29, 30], [2, 3, 4, 5, 8, 10, 12, 14, 17, 21, 23, 26, 27])]⟩
def h48 : Hints := ⟨[(9, 1), (9, 12), (9, 14), (11, 1), (11, 12), (11, 14), (7, 1), (7, 12), (7, 14), (15, 1), (15, 10), (15, 12)], [(4, [6, 7], [2, 3, 4, 5, 9, 11, 13, 15, 18, 77, 83, 85, 94]), (13, [8], [2, 3, 4, 5, 9, 11, 13, 15, 18, 27, 30, 32, 43, 46, 48, 59, 62, 64, 75])]⟩
def h49 : Hints := ⟨[], []⟩
def h50 : Hints := ⟨[], [(2, [0, 3], [])]⟩
def h51 : Hints := ⟨[(11, 0), (11, 4), (11, 5)], [(5, [3, 4], [1, 8])]⟩
def h52 : Hints := ⟨[(6, 13), (12, 5), (19, 0), (19, 8), (19, 9)], [(4, [3], [1, 11, 44, 49, 54, 60, 73, 82, 88]), (14, [6, 7], [1, 11, 16, 22, 29, 44, 49])]⟩
def h53 : Hints := ⟨[(6, 1), (14, 0), (14, 4), (14, 5)], [(8, [4, 5], [1, 3, 8, 12, 16, 21])]⟩
def h54 : Hints := ⟨[(11, 0), (11, 4), (11, 5)], [(5, [3, 4], [1, 7])]⟩
def h55 : Hints := ⟨[(7, 0), (7, 8), (7, 9)], [(5, [3, 4], [1, 7, 32, 36, 42, 46])]⟩
def h56 : Hints := ⟨[], [(4, [3], [1, 6, 11, 32, 37, 43, 48, 52, 57, 59, 66, 68, 82, 84, 91, 102, 108, 113, 117]), (12, [5], [1, 11, 16, 23, 32])]⟩
def h57 : Hints := ⟨[], [(3, [4], [1, 3, 7, 41, 47, 52, 56, 61, 63, 70, 72, 85, 87, 94, 96, 104, 116, 120, 125, 129]), (11, [6], [1, 3, 13, 19, 32, 35, 37])]⟩
def h58 : Hints := ⟨[], [(4, [3], [1, 10, 15, 83, 88, 94, 100, 102, 109, 111, 124, 126, 139]), (16, [9], [1, 4, 15, 20, 26, 31, 36, 40, 42, 55, 57, 64, 66, 73, 83])]⟩
def h59 : Hints := ⟨[], [(4, [3], [1, 6])]⟩
def h60 : Hints := ⟨[(10, 0), (10, 8), (10, 9)], [(5, [3, 4], [1, 8, 10, 53, 58, 64, 69, 73, 79, 83, 88]), (17, [7], [1, 10, 15, 21, 34, 43, 53])]⟩
def h61 : Hints := ⟨[(11, 0), (11, 4), (11, 5)], [(5, [3, 4], [1, 11])]⟩
def h62 : Hints := ⟨[], [(3, [0, 4], [2, 3])]⟩
def h65 : Hints := ⟨[], []⟩
def h66 : Hints := ⟨[], [(3, [7, 8], [2, 3])]⟩
def h67 : Hints := ⟨[], []⟩
def h68 : Hints := ⟨[], []⟩
def h69 : Hints := ⟨[], []⟩
def h70 : Hints := ⟨[], [(3, [0, 4], [2, 3])]⟩
def h71 : Hints := ⟨[], []⟩
def h72 : Hints := ⟨[], []⟩
def h73 : Hints := ⟨[], []⟩
def h74 : Hints := ⟨[], []⟩
def h75 : Hints := ⟨[], []⟩
def h76 : Hints := ⟨[], []⟩
def h77 : Hints := ⟨[], []⟩
def h78 : Hints := ⟨[], [(2, [6], [2, 3, 4])]⟩
def h79 : Hints := ⟨[], [(4, [2, 8], [3, 6, 40, 46, 59, 65, 74, 86, 103, 109, 117]), (11, [2, 9], [3, 6, 19, 25, 59, 65, 74, 86, 103, 109, 117]), (17, [2, 10], [3, 6, 19, 25, 40, 46, 103, 109, 117]), (21, [2, 10, 11, 12], [3, 6, 19, 25, 40, 46, 59, 65, 103, 109, 117]), (27, [2, 13], [3, 6, 19, 25, 40, 46, 59, 65, 74, 86])]⟩
def h80 : Hints := ⟨[], [(2, [5], [2, 3, 4])]⟩
def h81 : Hints := ⟨[], []⟩
def h82 : Hints := ⟨[], []⟩
def h83 : Hints := ⟨[], []⟩
def h84 : Hints := ⟨[], []⟩
def h85 : Hints := ⟨[], [(4, [1, 5], [2])]⟩
def h86 : Hints := ⟨[], []⟩
def h87 : Hints := ⟨[(8, 0), (8, 8), (8, 9), (10, 0), (10, 8), (10, 9), (6, 0), (6, 8), (6, 9), (12, 0), (12, 1)], [(3, [1, 7, 11, 12, 13], [3, 5])]⟩
def h88 : Hints := ⟨[(6, 0), (6, 3), (6, 4), (7, 0), (7, 1)], [(3, [3, 4], [1])]⟩
def h89 : Hints := ⟨[], []⟩
def h90 : Hints := ⟨[], [(5, [1, 5, 6], [2])]⟩
def h91 : Hints := ⟨[], [(2, [0, 1, 5], [])]⟩
def h92 : Hints := ⟨[(5, 0), (5, 8), (5, 9), (6, 0), (6, 7), (6, 8), (7, 0), (7, 1)], [(3, [1, 5, 6], [2])]⟩
def h93 : Hints := ⟨[], []⟩
def h94 : Hints := ⟨[], []⟩
def h95 : Hints := ⟨[], []⟩
def h96 : Hints := ⟨[], []⟩
def h97 : Hints := ⟨[], []⟩
def h98 : Hints := ⟨[], []⟩
def h99 : Hints := ⟨[], []⟩
def h100 : Hints := ⟨[], []⟩
def h101 : Hints := ⟨[], []⟩
def h102 : Hints := ⟨[], [(2, [0, 3], [])]⟩
def h103 : Hints := ⟨[], []⟩
def h104 : Hints := ⟨[], []⟩
def h105 : Hints := ⟨[], []⟩
def h106 : Hints := ⟨[], []⟩
def h108 : Hints := ⟨[], [(2, [6], [2, 3, 4])]⟩
def h109 : Hints := ⟨[], []⟩
def h110 : Hints := ⟨[], []⟩
def h111 : Hints := ⟨[], []⟩
def h112 : Hints := ⟨[], []⟩
def h113 : Hints := ⟨[], [(2, [5], [2, 3, 4])]⟩
def h114 : Hints := ⟨[], [(2, [0, 1, 7, 8], [])]⟩
def h115 : Hints := ⟨[], []⟩
def h116 : Hints := ⟨[], [(3, [6, 7, 8], [2, 3])]⟩
def h117 : Hints := ⟨[], [(2, [0, 1, 7, 8], [])]⟩
def h118 : Hints := ⟨[], []⟩
def h119 : Hints := ⟨[], [(2, [0, 1, 7, 8], [])]⟩
def h120 : Hints := ⟨[], []⟩
def h121 : Hints := ⟨[], []⟩
def h122 : Hints := ⟨[], [(2, [0, 1, 7, 8], [])]⟩
def h123 : Hints := ⟨[], []⟩
def h124 : Hints := ⟨[], []⟩
def h125 : Hints := ⟨[], []⟩
def h126 : Hints := ⟨[], []⟩
def h127 : Hints := ⟨[], []⟩
def h128 : Hints := ⟨[], []⟩
def h129 : Hints := ⟨[(6, 0), (6, 3), (6, 4), (8, 0), (8, 1)], [(3, [3, 5], [1])]⟩
def h130 : Hints := ⟨[], []⟩
def h131 : Hints := ⟨[], [(2, [0, 1, 5], [])]⟩
def h132 : Hints := ⟨[], []⟩
def h133 : Hints := ⟨[], [(6, [5], [2, 3, 7, 11, 16, 19, 25, 30, 35, 41, 47, 51, 56, 60, 62])]⟩
def h134 : Hints := ⟨[], [(17, [2, 10], [3, 4, 15, 21, 24, 30, 36])]⟩
def h135 : Hints := ⟨[], [(2, [0, 3], [])]⟩
def h136 : Hints := ⟨[], [(2, [0, 3], [])]⟩
def h137 : Hints := ⟨[], [(2, [0, 3], [])]⟩
def h138 : Hints := ⟨[], [(3, [0, 1, 5, 6], [])]⟩
def h139 : Hints := ⟨[], []⟩
def h140 : Hints := ⟨[], [(2, [0, 1, 7, 8], [])]⟩
def h141 : Hints := ⟨[], []⟩
def h142 : Hints := ⟨[], []⟩
def h143 : Hints := ⟨[], []⟩
def h144 : Hints := ⟨[], [(2, [5], [2, 3, 19, 21])]⟩
def h145 : Hints := ⟨[], []⟩
def h146 : Hints := ⟨[], []⟩
def h147 : Hints := ⟨[], []⟩
def h148 : Hints := ⟨[], []⟩
def h149 : Hints := ⟨[], []⟩
def h150 : Hints := ⟨[], []⟩
def h151 : Hints := ⟨[], []⟩
def h152 : Hints := ⟨[], []⟩
def h153 : Hints := ⟨[], []⟩
def h169 : Hints := ⟨[], []⟩
def h170 : Hints := ⟨[], []⟩
def h171 : Hints := ⟨[], []⟩
def h172 : Hints := ⟨[], []⟩
def h173 : Hints := ⟨[], []⟩
def h174 : Hints := ⟨[], []⟩
def h175 : Hints := ⟨[], []⟩
def h176 : Hints := ⟨[], []⟩
def gl : Nat → Option D := fun _ => none
theorem body11 (C : Con) (x0 x1 x2 : SV) (K : SV → Prop) : body Go.Proofs.Tryz.prog gl C h11 11 [x0, x1, x2] K = (
 wfP [x0, x1, x2] (
 bindO (cellsV (demote x0)) fun r0 =>
 (List.length r0) = 10 ∧
 bindO (cellsV (demote x1)) fun r1 =>
 (List.length r1) = 17 ∧
 bindO (cellsV (demote x2)) fun r2 =>
 (List.length r2) = 1 ∧
 bindO (partV true 10 0 r0) fun r3 =>
 callP C 30 [(demote (demote (demote r3)))] fun r4 =>
 bindO (binV none .gtr (demote r4) (.d (.int .i64 12))) fun r5 =>
 ifP r5
 ((SV.noRef (.d (.int .i64 4))) = true ∧
 (K (.d (.int .i64 4))))
 (bindO (partV true 10 0 r0) fun r6 =>
 callP C 31 [(demote (demote (demote r6))), (.clo (.func 32) [] [(.ref (List.map demote r1) 0), (.ref (List.map demote r2) 0)])] fun r7 =>
 (SV.noRef (demote r7)) = true ∧
 (K (demote r7))))) := by kernel_rfl

theorem body12 (C : Con) (x0 x1 x2 : SV) (K : SV → Prop) : body Go.Proofs.Tryz.prog gl C h12 12 [x0, x1, x2] K = (
 wfP [x0, x1, x2] (
 bindO (cellsV (demote x0)) fun r0 =>
 (List.length r0) = 10 ∧
 bindO (cellsV (demote x1)) fun r1 =>
 (List.length r1) = 17 ∧
 bindO (partV true 10 0 r0) fun r2 =>
 callP C 35 [(demote (demote (demote r2))), (.d (.int .i64 12))] fun r3 =>
 bindO (binV none .gtr (demote r3) (.d (.int .i64 12))) fun r4 =>
 ifP r4
 ((SV.noRef (.d (.int .i64 4))) = true ∧
 (K (.d (.int .i64 4))))
 (bindO (partV true 10 0 r0) fun r5 =>
 bindO (partV true 17 0 r1) fun r6 =>
 callP C 36 [(demote (demote (demote r5))), (demote (demote (demote r6))), (demote (demote (demote x2)))] fun r7 =>
 (SV.noRef (demote r7)) = true ∧
 (K (demote r7))))) := by kernel_rfl

theorem body13 (C : Con) (x0 x1 x2 : SV) (K : SV → Prop) : body Go.Proofs.Tryz.prog gl C h13 13 [x0, x1, x2] K = (
 wfP [x0, x1, x2] (
 bindO (cellsV (demote x0)) fun r0 =>
 (List.length r0) = 10 ∧
 bindO (cellsV (demote x1)) fun r1 =>
 (List.length r1) = 17 ∧
 bindO (cellsV (demote x2)) fun r2 =>
 (List.length r2) = 1 ∧
 bindO (partV true 10 0 r0) fun r3 =>
 callP C 30 [(demote (demote (demote r3)))] fun r4 =>
 bindO (binV none .gtr (demote r4) (.d (.int .i64 12))) fun r5 =>
 ifP r5
 (bindO (partsS []) fun r6 =>
 bindO (buildD Proofs.Tryz.prog 28 r6) fun r7 =>
 bindO (cellsV (.d r7)) fun r8 =>
 (List.length r8) = 10 ∧
 10 ≤ 10 ∧
 bindO (partV true 10 0 (setAt [(.d (.int .i64 0)), (.d (.int .i64 0)), (.d (.int .i64 0)), (.d (.int .i64 0)), (.d (.sl .nil 0 [])), (.d (.int .u64 0)), (.d (.int .u64 0)), (.d (.int .u64 0)), (.d (.int .u64 0)), (.d (.sl .nil 0 []))] 0 r8)) fun r9 =>
 (SV.noRef (demote r9)) = true ∧
 (SV.noRef (.d (.int .i64 4))) = true ∧
 (K (.tup [(demote r9), (.d (.int .i64 4))])))
 (bindO (partV true 10 0 r0) fun r10 =>
 callP C 31 [(demote (demote (demote r10))), (.clo (.func 37) [] [(.ref (List.map demote r2) 0), (.ref (List.map demote r1) 0)])] fun r11 =>
 bindO (binV (some (false, [.int])) .neq (demote (demote (demote r11))) (.d (.int .i64 0))) fun r12 =>
 ifP r12
 (bindO (partsS []) fun r13 =>
 bindO (buildD Proofs.Tryz.prog 28 r13) fun r14 =>
 bindO (cellsV (.d r14)) fun r15 =>
 (List.length r15) = 10 ∧
 10 ≤ 10 ∧
 bindO (partV true 10 0 (setAt [(.d (.int .i64 0)), (.d (.int .i64 0)), (.d (.int .i64 0)), (.d (.int .i64 0)), (.d (.sl .nil 0 [])), (.d (.int .u64 0)), (.d (.int .u64 0)), (.d (.int .u64 0)), (.d (.int .u64 0)), (.d (.sl .nil 0 []))] 0 r15)) fun r16 =>
 (SV.noRef (demote r16)) = true ∧
 (SV.noRef (demote (demote (demote r11)))) = true ∧
 (K (.tup [(demote r16), (demote (demote (demote r11)))])))
 (bindO (partV true 10 0 r0) fun r17 =>
 bindO (partV true 17 0 r1) fun r18 =>
 callP C 41 [(demote (demote (demote r17))), (demote (demote (demote r18)))] fun r19 =>
 bindO (cellsV (demote r19)) fun r20 =>
 (List.length r20) = 10 ∧
 10 ≤ 10 ∧
 bindO (partV true 10 0 (setAt [(.d (.int .i64 0)), (.d (.int .i64 0)), (.d (.int .i64 0)), (.d (.int .i64 0)), (.d (.sl .nil 0 [])), (.d (.int .u64 0)), (.d (.int .u64 0)), (.d (.int .u64 0)), (.d (.int .u64 0)), (.d (.sl .nil 0 []))] 0 r20)) fun r21 =>
 (SV.noRef (demote r21)) = true ∧
 (SV.noRef (.d (.int .i64 0))) = true ∧
 (K (.tup [(demote r21), (.d (.int .i64 0))])))))) := by kernel_rfl

theorem body14 (C : Con) (x0 x1 x2 : SV) (K : SV → Prop) : body Go.Proofs.Tryz.prog gl C h14 14 [x0, x1, x2] K = (
 wfP [x0, x1, x2] (
 bindO (cellsV (demote x0)) fun r0 =>
 (List.length r0) = 10 ∧
 bindO (cellsV (demote x1)) fun r1 =>
 (List.length r1) = 17 ∧
 bindO (partV true 10 0 r0) fun r2 =>
 callP C 35 [(demote (demote (demote r2))), (.d (.int .i64 12))] fun r3 =>
 bindO (binV none .gtr (demote r3) (.d (.int .i64 12))) fun r4 =>
 ifP r4
 (bindO (partsS []) fun r5 =>
 bindO (buildD Proofs.Tryz.prog 28 r5) fun r6 =>
 bindO (cellsV (.d r6)) fun r7 =>
 (List.length r7) = 10 ∧
 10 ≤ 10 ∧
 bindO (partV true 10 0 (setAt [(.d (.int .i64 0)), (.d (.int .i64 0)), (.d (.int .i64 0)), (.d (.int .i64 0)), (.d (.sl .nil 0 [])), (.d (.int .u64 0)), (.d (.int .u64 0)), (.d (.int .u64 0)), (.d (.int .u64 0)), (.d (.sl .nil 0 []))] 0 r7)) fun r8 =>
 (SV.noRef (demote r8)) = true ∧
 (SV.noRef (.d (.int .i64 4))) = true ∧
 (K (.tup [(demote r8), (.d (.int .i64 4))])))
 (bindO (partV true 10 0 r0) fun r9 =>
 bindO (partV true 17 0 r1) fun r10 =>
 ∃ r11,
 ∃ r12,
 (C 42 [(demote (demote (demote r9))), (demote (demote (demote r10))), (demote (demote (demote x2)))] (.tup [r11, r12])) ∧
 bindO (cellsV (demote (demote r11))) fun r13 =>
 (List.length r13) = 10 ∧
 10 ≤ 10 ∧
 bindO (partV true 10 0 (setAt [(.d (.int .i64 0)), (.d (.int .i64 0)), (.d (.int .i64 0)), (.d (.int .i64 0)), (.d (.sl .nil 0 [])), (.d (.int .u64 0)), (.d (.int .u64 0)), (.d (.int .u64 0)), (.d (.int .u64 0)), (.d (.sl .nil 0 []))] 0 r13)) fun r14 =>
 (SV.noRef (demote r14)) = true ∧
 (SV.noRef (demote (demote r12))) = true ∧
 (K (.tup [(demote r14), (demote (demote r12))]))))) := by kernel_rfl

theorem body15 (C : Con) (x0 x1 : SV) (K : SV → Prop) : body Go.Proofs.Tryz.prog gl C h15 15 [x0, x1] K = (
 wfP [x0, x1] (
 bindO (cellsV (demote x0)) fun r0 =>
 (List.length r0) = 10 ∧
 bindO (cellsV (demote x1)) fun r1 =>
 (List.length r1) = 10 ∧
 bindO (partV false 1 0 r0) fun r2 =>
 bindO (partV false 1 0 r1) fun r3 =>
 bindO (binV (some (false, [.int])) .neq (demote (demote r2)) (demote (demote r3))) fun r4 =>
 ifP (demote r4)
 ((SV.noRef (.d (.bool false))) = true ∧
 (K (.d (.bool false))))
 (bindO (partV false 1 1 r0) fun r5 =>
 bindO (partV false 1 1 r1) fun r6 =>
 bindO (binV (some (false, [.int])) .neq (demote (demote r5)) (demote (demote r6))) fun r7 =>
 ifP (demote (demote r7))
 ((SV.noRef (.d (.bool false))) = true ∧
 (K (.d (.bool false))))
 (bindO (partV false 1 2 r0) fun r8 =>
 bindO (partV false 1 2 r1) fun r9 =>
 bindO (binV (some (false, [.int])) .neq (demote (demote r8)) (demote (demote r9))) fun r10 =>
 ifP (demote (demote r10))
 ((SV.noRef (.d (.bool false))) = true ∧
 (K (.d (.bool false))))
 (bindO (partV false 1 3 r0) fun r11 =>
 bindO (partV false 1 3 r1) fun r12 =>
 bindO (binV (some (false, [.int])) .neq (demote (demote r11)) (demote (demote r12))) fun r13 =>
 ifP (demote (demote r13))
 ((SV.noRef (.d (.bool false))) = true ∧
 (K (.d (.bool false))))
 (bindO (partV true 4 5 r0) fun r14 =>
 bindO (partV true 4 5 r1) fun r15 =>
 bindO (binV (some (true, [.int, .int, .int, .int])) .neq (demote (demote r14)) (demote (demote r15))) fun r16 =>
 ifP (demote (demote r16))
 ((SV.noRef (.d (.bool false))) = true ∧
 (K (.d (.bool false))))
 (bindO (partV false 1 4 r0) fun r17 =>
 bindO (partV false 1 4 r1) fun r18 =>
 callP C 43 [(demote (demote (demote r17))), (demote (demote (demote r18)))] fun r19 =>
 bindO (unV .not (demote r19)) fun r20 =>
 ifP (demote (demote r20))
 ((SV.noRef (.d (.bool false))) = true ∧
 (K (.d (.bool false))))
 (bindO (partV false 1 9 r0) fun r21 =>
 bindO (lenL (demote (demote r21))) fun r22 =>
 bindO (partV false 1 9 r1) fun r23 =>
 bindO (lenL (demote (demote r23))) fun r24 =>
 bindO (binV (some (false, [.int])) .neq (demote r22) (demote r24)) fun r25 =>
 ifP (demote r25)
 ((SV.noRef (.d (.bool false))) = true ∧
 (K (.d (.bool false))))
 (loopP (fun vs26 bs27 I28 =>
 bindO (partV false 1 9 (bget bs27 0)) fun r29 =>
 bindO (lenL (demote (demote r29))) fun r30 =>
 bindO (binV none .lss (demote (demote (vget vs26 0))) (demote r30)) fun r31 =>
 ifP r31
 (bindO (partV false 1 9 (bget bs27 0)) fun r32 =>
 bindO (elemPtr 10 (demote (demote r32)) (demote (demote (vget vs26 0)))) fun r33 =>
 bindO (loadV true 10 (demote r33)) fun r34 =>
 bindO (partV false 1 9 (bget bs27 1)) fun r35 =>
 bindO (elemPtr 10 (demote (demote r35)) (demote (demote (vget vs26 0)))) fun r36 =>
 bindO (loadV true 10 (demote r36)) fun r37 =>
 callP C 15 [(demote (demote r34)), (demote (demote r37))] fun r38 =>
 bindO (unV .not (demote r38)) fun r39 =>
 ifP r39
 ((SV.noRef (.d (.bool false))) = true ∧
 (K (.d (.bool false))))
 (bindO (binV none .add (demote (demote (vget vs26 0))) (.d (.int .i64 1))) fun r40 =>
 (I28 [(demote r40)] [(Box.vals (Box.cells (bget bs27 0))), (Box.vals (Box.cells (bget bs27 1)))])))
 ((SV.noRef (.d (.bool true))) = true ∧
 (K (.d (.bool true)))))
 [(.d (.int .i64 0))] [(Box.vals (Box.cells r0)), (Box.vals (Box.cells r1))]))))))))) := by kernel_rfl

theorem body16 (C : Con) (x0 x1 x2 x3 : SV) (K : SV → Prop) : body Go.Proofs.Tryz.prog gl C h16 16 [x0, x1, x2, x3] K = (
 wfP [x0, x1, x2, x3] (
 bindO (cellsV (demote x0)) fun r0 =>
 (List.length r0) = 17 ∧
 bindO (cellsV (demote x2)) fun r1 =>
 (List.length r1) = 7 ∧
 bindO (cellsV (demote x3)) fun r2 =>
 (List.length r2) = 7 ∧
 bindO (partV false 1 13 r0) fun r3 =>
 bindO (lenL (demote (demote r3))) fun r4 =>
 loopP (fun vs5 bs6 I7 =>
 bindO (binV none .lss (demote (vget vs5 5)) (demote (vget vs5 4))) fun r8 =>
 ifP r8
 (bindO (elemPtr 13 (demote (vget vs5 3)) (demote (vget vs5 5))) fun r9 =>
 bindO (loadV true 13 (demote r9)) fun r10 =>
 bindO (cellsV (demote r10)) fun r11 =>
 (List.length r11) = 13 ∧
 13 ≤ 13 ∧
 bindO (partV false 1 2 (setAt [(.d (.int .i64 0)), (.d (.int .u32 0)), (.d (.bool false)), (.d (.int .i64 0)), (.d (.int .i64 0)), (.d (.int .i64 0)), (.d (.int .i64 0)), (.d (.sl .nil 0 [])), (.d (.int .u64 0)), (.d (.int .u64 0)), (.d (.int .u64 0)), (.d (.int .u64 0)), (.d (.sl .nil 0 []))] 0 r11)) fun r12 =>
 ifP (demote (demote r12))
 (bindO (binV none .add (demote (vget vs5 5)) (.d (.int .i64 1))) fun r13 =>
 (I7 [(vget vs5 0), (vget vs5 1), (vget vs5 2), (vget vs5 3), (vget vs5 4), (demote r13)] [(Box.vals (Box.cells (bget bs6 0))), (Box.vals (Box.cells (bget bs6 1))), (Box.vals (Box.cells (bget bs6 2)))]))
 (bindO (partV false 1 0 (setAt [(.d (.int .i64 0)), (.d (.int .u32 0)), (.d (.bool false)), (.d (.int .i64 0)), (.d (.int .i64 0)), (.d (.int .i64 0)), (.d (.int .i64 0)), (.d (.sl .nil 0 [])), (.d (.int .u64 0)), (.d (.int .u64 0)), (.d (.int .u64 0)), (.d (.int .u64 0)), (.d (.sl .nil 0 []))] 0 r11)) fun r14 =>
 bindO (binV (some (false, [.int])) .neq (demote (demote r14)) (demote (demote (vget vs5 0)))) fun r15 =>
 ifP (demote (demote r15))
 (bindO (binV none .add (demote (vget vs5 5)) (.d (.int .i64 1))) fun r16 =>
 (I7 [(vget vs5 0), (vget vs5 1), (vget vs5 2), (vget vs5 3), (vget vs5 4), (demote r16)] [(Box.vals (Box.cells (bget bs6 0))), (Box.vals (Box.cells (bget bs6 1))), (Box.vals (Box.cells (bget bs6 2)))]))
 (bindO (partV true 10 3 (setAt [(.d (.int .i64 0)), (.d (.int .u32 0)), (.d (.bool false)), (.d (.int .i64 0)), (.d (.int .i64 0)), (.d (.int .i64 0)), (.d (.int .i64 0)), (.d (.sl .nil 0 [])), (.d (.int .u64 0)), (.d (.int .u64 0)), (.d (.int .u64 0)), (.d (.int .u64 0)), (.d (.sl .nil 0 []))] 0 r11)) fun r17 =>
 bindO (partV true 7 0 (bget bs6 1)) fun r18 =>
 bindO (partV true 7 0 (bget bs6 2)) fun r19 =>
 bindO (partsS [(0, (.v (demote (demote r18)))), (1, (.v (demote (demote r19))))]) fun r20 =>
 bindO (buildD Proofs.Tryz.prog 60 r20) fun r21 =>
 callP C 17 [(demote (demote (demote r17))), (.d r21)] fun r22 =>
 ifP (demote r22)
 (bindO (binV none .add (demote (vget vs5 5)) (.d (.int .i64 1))) fun r23 =>
 (I7 [(vget vs5 0), (vget vs5 1), (vget vs5 2), (vget vs5 3), (vget vs5 4), (demote r23)] [(Box.vals (Box.cells (bget bs6 0))), (Box.vals (Box.cells (bget bs6 1))), (Box.vals (Box.cells (bget bs6 2)))]))
 (bindO (partV false 1 1 (setAt [(.d (.int .i64 0)), (.d (.int .u32 0)), (.d (.bool false)), (.d (.int .i64 0)), (.d (.int .i64 0)), (.d (.int .i64 0)), (.d (.int .i64 0)), (.d (.sl .nil 0 [])), (.d (.int .u64 0)), (.d (.int .u64 0)), (.d (.int .u64 0)), (.d (.int .u64 0)), (.d (.sl .nil 0 []))] 0 r11)) fun r24 =>
 bindO (binV none .or (demote (demote (vget vs5 1))) (demote (demote r24))) fun r25 =>
 bindO (binV none .lss (demote (demote (vget vs5 2))) (.d (.int .i64 0))) fun r26 =>
 ifP r26
 (bindO (binV none .add (demote (vget vs5 5)) (.d (.int .i64 1))) fun r27 =>
 (I7 [(vget vs5 0), (demote r25), (demote (demote (demote (demote (vget vs5 5))))), (vget vs5 3), (vget vs5 4), (demote r27)] [(Box.vals (Box.cells (bget bs6 0))), (Box.vals (Box.cells (bget bs6 1))), (Box.vals (Box.cells (bget bs6 2)))]))
 (bindO (binV none .add (demote (vget vs5 5)) (.d (.int .i64 1))) fun r28 =>
 (I7 [(vget vs5 0), (demote r25), (vget vs5 2), (vget vs5 3), (vget vs5 4), (demote r28)] [(Box.vals (Box.cells (bget bs6 0))), (Box.vals (Box.cells (bget bs6 1))), (Box.vals (Box.cells (bget bs6 2)))]))))))
 ((SV.noRef (demote (demote (vget vs5 1)))) = true ∧
 (SV.noRef (demote (demote (vget vs5 2)))) = true ∧
 (K (.tup [(demote (demote (vget vs5 1))), (demote (demote (vget vs5 2)))]))))
 [x1, (.d (.int .u32 0)), (.d (.int .i64 (-1))), (demote r3), r4, (.d (.int .i64 0))] [(Box.vals (Box.cells r0)), (Box.vals (Box.cells r1)), (Box.vals (Box.cells r2))])) := by kernel_rfl

theorem body17 (C : Con) (x0 x1 : SV) (K : SV → Prop) : body Go.Proofs.Tryz.prog gl C h17 17 [x0, x1] K = (
 wfP [x0, x1] (
 bindO (cellsV (demote x0)) fun r0 =>
 (List.length r0) = 10 ∧
 bindO (cellsV (demote x1)) fun r1 =>
 (List.length r1) = 21 ∧
 bindO (partV true 10 0 r0) fun r2 =>
 callP C 30 [(demote (demote (demote r2)))] fun r3 =>
 bindO (binV none .leq (demote r3) (.d (.int .i64 12))) fun r4 =>
 ifP (demote r4)
 (bindO (partV true 10 0 r0) fun r5 =>
 callP C 31 [(demote (demote (demote r5))), (.d (.fn (.func 44)))] fun r6 =>
 bindO (binV (some (false, [.int])) .eql (demote r6) (.d (.int .i64 0))) fun r7 =>
 ifP (demote (demote r7))
 (bindO (partV true 10 0 r0) fun r8 =>
 bindO (partV true 21 0 r1) fun r9 =>
 callP C 45 [(demote (demote (demote r8))), (demote (demote (demote r9)))] fun r10 =>
 (SV.noRef (demote (demote r10))) = true ∧
 (K (demote (demote r10))))
 ((SV.noRef (.d (.bool false))) = true ∧
 (K (.d (.bool false)))))
 ((SV.noRef (.d (.bool false))) = true ∧
 (K (.d (.bool false)))))) := by kernel_rfl

theorem body18 (C : Con) (x0 x1 x2 x3 : SV) (K : SV → Prop) : body Go.Proofs.Tryz.prog gl C h18 18 [x0, x1, x2, x3] K = (
 wfP [x0, x1, x2, x3] (
 bindO (cellsV (demote x0)) fun r0 =>
 (List.length r0) = 17 ∧
 bindO (cellsV (demote x2)) fun r1 =>
 (List.length r1) = 7 ∧
 bindO (cellsV (demote x3)) fun r2 =>
 (List.length r2) = 7 ∧
 loopP (fun vs3 bs4 I5 =>
 bindO (partV false 1 13 (bget bs4 0)) fun r6 =>
 bindO (lenL (demote (demote r6))) fun r7 =>
 bindO (binV none .lss (demote (demote (vget vs3 3))) (demote r7)) fun r8 =>
 ifP r8
 (bindO (partV false 1 13 (bget bs4 0)) fun r9 =>
 bindO (elemPtr 13 (demote (demote r9)) (demote (demote (vget vs3 3)))) fun r10 =>
 bindO (loadV true 13 (demote r10)) fun r11 =>
 bindO (cellsV (demote r11)) fun r12 =>
 (List.length r12) = 13 ∧
 13 ≤ 13 ∧
 bindO (partV false 1 2 (setAt [(.d (.int .i64 0)), (.d (.int .u32 0)), (.d (.bool false)), (.d (.int .i64 0)), (.d (.int .i64 0)), (.d (.int .i64 0)), (.d (.int .i64 0)), (.d (.sl .nil 0 [])), (.d (.int .u64 0)), (.d (.int .u64 0)), (.d (.int .u64 0)), (.d (.int .u64 0)), (.d (.sl .nil 0 []))] 0 r12)) fun r13 =>
 ifP (demote (demote r13))
 (bindO (binV none .add (demote (demote (vget vs3 3))) (.d (.int .i64 1))) fun r14 =>
 (I5 [(vget vs3 0), (vget vs3 1), (vget vs3 2), (demote r14)] [(Box.vals (Box.cells (bget bs4 0))), (Box.vals (Box.cells (bget bs4 1))), (Box.vals (Box.cells (bget bs4 2)))]))
 (bindO (partV false 1 0 (setAt [(.d (.int .i64 0)), (.d (.int .u32 0)), (.d (.bool false)), (.d (.int .i64 0)), (.d (.int .i64 0)), (.d (.int .i64 0)), (.d (.int .i64 0)), (.d (.sl .nil 0 [])), (.d (.int .u64 0)), (.d (.int .u64 0)), (.d (.int .u64 0)), (.d (.int .u64 0)), (.d (.sl .nil 0 []))] 0 r12)) fun r15 =>
 bindO (binV (some (false, [.int])) .neq (demote (demote r15)) (demote (demote (vget vs3 0)))) fun r16 =>
 ifP (demote (demote r16))
 (bindO (binV none .add (demote (demote (vget vs3 3))) (.d (.int .i64 1))) fun r17 =>
 (I5 [(vget vs3 0), (vget vs3 1), (vget vs3 2), (demote r17)] [(Box.vals (Box.cells (bget bs4 0))), (Box.vals (Box.cells (bget bs4 1))), (Box.vals (Box.cells (bget bs4 2)))]))
 (bindO (partV true 10 3 (setAt [(.d (.int .i64 0)), (.d (.int .u32 0)), (.d (.bool false)), (.d (.int .i64 0)), (.d (.int .i64 0)), (.d (.int .i64 0)), (.d (.int .i64 0)), (.d (.sl .nil 0 [])), (.d (.int .u64 0)), (.d (.int .u64 0)), (.d (.int .u64 0)), (.d (.int .u64 0)), (.d (.sl .nil 0 []))] 0 r12)) fun r18 =>
 bindO (partV true 7 0 (bget bs4 1)) fun r19 =>
 bindO (partV true 7 0 (bget bs4 2)) fun r20 =>
 bindO (partsS [(0, (.v (demote (demote r19)))), (1, (.v (demote (demote r20))))]) fun r21 =>
 bindO (buildD Proofs.Tryz.prog 60 r21) fun r22 =>
 callP C 46 [(demote (demote (demote r18))), (.d r22)] fun r23 =>
 ifP (demote r23)
 (bindO (binV none .add (demote (demote (vget vs3 3))) (.d (.int .i64 1))) fun r24 =>
 (I5 [(vget vs3 0), (vget vs3 1), (vget vs3 2), (demote r24)] [(Box.vals (Box.cells (bget bs4 0))), (Box.vals (Box.cells (bget bs4 1))), (Box.vals (Box.cells (bget bs4 2)))]))
 (bindO (partV false 1 1 (setAt [(.d (.int .i64 0)), (.d (.int .u32 0)), (.d (.bool false)), (.d (.int .i64 0)), (.d (.int .i64 0)), (.d (.int .i64 0)), (.d (.int .i64 0)), (.d (.sl .nil 0 [])), (.d (.int .u64 0)), (.d (.int .u64 0)), (.d (.int .u64 0)), (.d (.int .u64 0)), (.d (.sl .nil 0 []))] 0 r12)) fun r25 =>
 bindO (binV none .or (demote (demote (vget vs3 1))) (demote (demote r25))) fun r26 =>
 bindO (binV none .lss (demote (demote (vget vs3 2))) (.d (.int .i64 0))) fun r27 =>
 ifP r27
 (bindO (binV none .add (demote (demote (vget vs3 3))) (.d (.int .i64 1))) fun r28 =>
 (I5 [(vget vs3 0), (demote r26), (demote (demote (vget vs3 3))), (demote r28)] [(Box.vals (Box.cells (bget bs4 0))), (Box.vals (Box.cells (bget bs4 1))), (Box.vals (Box.cells (bget bs4 2)))]))
 (bindO (binV none .add (demote (demote (vget vs3 3))) (.d (.int .i64 1))) fun r29 =>
 (I5 [(vget vs3 0), (demote r26), (vget vs3 2), (demote r29)] [(Box.vals (Box.cells (bget bs4 0))), (Box.vals (Box.cells (bget bs4 1))), (Box.vals (Box.cells (bget bs4 2)))]))))))
 ((SV.noRef (demote (demote (vget vs3 1)))) = true ∧
 (SV.noRef (demote (demote (vget vs3 2)))) = true ∧
 (K (.tup [(demote (demote (vget vs3 1))), (demote (demote (vget vs3 2)))]))))
 [x1, (.d (.int .u32 0)), (.d (.int .i64 (-1))), (.d (.int .i64 0))] [(Box.vals (Box.cells r0)), (Box.vals (Box.cells r1)), (Box.vals (Box.cells r2))])) := by kernel_rfl

theorem body19 (C : Con) (x0 x1 x2 x3 x4 : SV) (K : SV → Prop) : body Go.Proofs.Tryz.prog gl C h19 19 [x0, x1, x2, x3, x4] K = (
 wfP [x0, x1, x2, x3, x4] (
 bindO (cellsV (demote x0)) fun r0 =>
 (List.length r0) = 17 ∧
 bindO (cellsV (demote x2)) fun r1 =>
 (List.length r1) = 7 ∧
 bindO (cellsV (demote x3)) fun r2 =>
 (List.length r2) = 7 ∧
 bindO (cellsV (demote x4)) fun r3 =>
 (List.length r3) = 7 ∧
 bindO (partV false 1 13 r0) fun r4 =>
 bindO (lenL (demote (demote r4))) fun r5 =>
 loopP (fun vs6 bs7 I8 =>
 bindO (binV none .lss (demote (vget vs6 3)) (demote (vget vs6 2))) fun r9 =>
 ifP r9
 (bindO (elemPtr 13 (demote (vget vs6 1)) (demote (vget vs6 3))) fun r10 =>
 bindO (loadV true 13 (demote r10)) fun r11 =>
 bindO (cellsV (demote r11)) fun r12 =>
 (List.length r12) = 13 ∧
 13 ≤ 13 ∧
 bindO (partV false 1 2 (setAt [(.d (.int .i64 0)), (.d (.int .u32 0)), (.d (.bool false)), (.d (.int .i64 0)), (.d (.int .i64 0)), (.d (.int .i64 0)), (.d (.int .i64 0)), (.d (.sl .nil 0 [])), (.d (.int .u64 0)), (.d (.int .u64 0)), (.d (.int .u64 0)), (.d (.int .u64 0)), (.d (.sl .nil 0 []))] 0 r12)) fun r13 =>
 ifP (demote (demote r13))
 (bindO (partV false 1 0 (setAt [(.d (.int .i64 0)), (.d (.int .u32 0)), (.d (.bool false)), (.d (.int .i64 0)), (.d (.int .i64 0)), (.d (.int .i64 0)), (.d (.int .i64 0)), (.d (.sl .nil 0 [])), (.d (.int .u64 0)), (.d (.int .u64 0)), (.d (.int .u64 0)), (.d (.int .u64 0)), (.d (.sl .nil 0 []))] 0 r12)) fun r14 =>
 bindO (binV (some (false, [.int])) .eql (demote (demote r14)) (demote (demote (vget vs6 0)))) fun r15 =>
 ifP (demote (demote r15))
 (bindO (partV true 10 3 (setAt [(.d (.int .i64 0)), (.d (.int .u32 0)), (.d (.bool false)), (.d (.int .i64 0)), (.d (.int .i64 0)), (.d (.int .i64 0)), (.d (.int .i64 0)), (.d (.sl .nil 0 [])), (.d (.int .u64 0)), (.d (.int .u64 0)), (.d (.int .u64 0)), (.d (.int .u64 0)), (.d (.sl .nil 0 []))] 0 r12)) fun r16 =>
 bindO (partV true 7 0 (bget bs7 1)) fun r17 =>
 bindO (partV true 7 0 (bget bs7 2)) fun r18 =>
 bindO (partV true 7 0 (bget bs7 3)) fun r19 =>
 bindO (partsS [(0, (.v (demote (demote r17)))), (1, (.v (demote (demote r18)))), (2, (.v (demote (demote r19))))]) fun r20 =>
 bindO (buildD Proofs.Tryz.prog 60 r20) fun r21 =>
 callP C 17 [(demote (demote (demote r16))), (.d r21)] fun r22 =>
 bindO (unV .not (demote r22)) fun r23 =>
 ifP (demote r23)
 ((SV.noRef (.d (.bool false))) = true ∧
 (SV.noRef (demote (demote (demote (demote (vget vs6 3)))))) = true ∧
 (K (.tup [(.d (.bool false)), (demote (demote (demote (demote (vget vs6 3)))))])))
 (bindO (binV none .add (demote (vget vs6 3)) (.d (.int .i64 1))) fun r24 =>
 (I8 [(vget vs6 0), (vget vs6 1), (vget vs6 2), (demote r24)] [(Box.vals (Box.cells (bget bs7 0))), (Box.vals (Box.cells (bget bs7 1))), (Box.vals (Box.cells (bget bs7 2))), (Box.vals (Box.cells (bget bs7 3)))])))
 (bindO (binV none .add (demote (vget vs6 3)) (.d (.int .i64 1))) fun r25 =>
 (I8 [(vget vs6 0), (vget vs6 1), (vget vs6 2), (demote r25)] [(Box.vals (Box.cells (bget bs7 0))), (Box.vals (Box.cells (bget bs7 1))), (Box.vals (Box.cells (bget bs7 2))), (Box.vals (Box.cells (bget bs7 3)))])))
 (bindO (binV none .add (demote (vget vs6 3)) (.d (.int .i64 1))) fun r26 =>
 (I8 [(vget vs6 0), (vget vs6 1), (vget vs6 2), (demote r26)] [(Box.vals (Box.cells (bget bs7 0))), (Box.vals (Box.cells (bget bs7 1))), (Box.vals (Box.cells (bget bs7 2))), (Box.vals (Box.cells (bget bs7 3)))])))
 ((SV.noRef (.d (.bool true))) = true ∧
 (SV.noRef (.d (.int .i64 (-1)))) = true ∧
 (K (.tup [(.d (.bool true)), (.d (.int .i64 (-1)))]))))
 [x1, (demote r4), r5, (.d (.int .i64 0))] [(Box.vals (Box.cells r0)), (Box.vals (Box.cells r1)), (Box.vals (Box.cells r2)), (Box.vals (Box.cells r3))])) := by kernel_rfl

theorem body20 (C : Con) (x0 x1 x2 x3 x4 : SV) (K : SV → Prop) : body Go.Proofs.Tryz.prog gl C h20 20 [x0, x1, x2, x3, x4] K = (
 wfP [x0, x1, x2, x3, x4] (
 bindO (cellsV (demote x0)) fun r0 =>
 (List.length r0) = 17 ∧
 bindO (cellsV (demote x2)) fun r1 =>
 (List.length r1) = 7 ∧
 bindO (cellsV (demote x3)) fun r2 =>
 (List.length r2) = 7 ∧
 bindO (cellsV (demote x4)) fun r3 =>
 (List.length r3) = 7 ∧
 loopP (fun vs4 bs5 I6 =>
 bindO (partV false 1 13 (bget bs5 0)) fun r7 =>
 bindO (lenL (demote (demote r7))) fun r8 =>
 bindO (binV none .lss (demote (demote (vget vs4 1))) (demote r8)) fun r9 =>
 ifP r9
 (bindO (partV false 1 13 (bget bs5 0)) fun r10 =>
 bindO (elemPtr 13 (demote (demote r10)) (demote (demote (vget vs4 1)))) fun r11 =>
 bindO (loadV true 13 (demote r11)) fun r12 =>
 bindO (cellsV (demote r12)) fun r13 =>
 (List.length r13) = 13 ∧
 13 ≤ 13 ∧
 bindO (partV false 1 2 (setAt [(.d (.int .i64 0)), (.d (.int .u32 0)), (.d (.bool false)), (.d (.int .i64 0)), (.d (.int .i64 0)), (.d (.int .i64 0)), (.d (.int .i64 0)), (.d (.sl .nil 0 [])), (.d (.int .u64 0)), (.d (.int .u64 0)), (.d (.int .u64 0)), (.d (.int .u64 0)), (.d (.sl .nil 0 []))] 0 r13)) fun r14 =>
 ifP (demote (demote r14))
 (bindO (partV false 1 0 (setAt [(.d (.int .i64 0)), (.d (.int .u32 0)), (.d (.bool false)), (.d (.int .i64 0)), (.d (.int .i64 0)), (.d (.int .i64 0)), (.d (.int .i64 0)), (.d (.sl .nil 0 [])), (.d (.int .u64 0)), (.d (.int .u64 0)), (.d (.int .u64 0)), (.d (.int .u64 0)), (.d (.sl .nil 0 []))] 0 r13)) fun r15 =>
 bindO (binV (some (false, [.int])) .eql (demote (demote r15)) (demote (demote (vget vs4 0)))) fun r16 =>
 ifP (demote (demote r16))
 (bindO (partV true 10 3 (setAt [(.d (.int .i64 0)), (.d (.int .u32 0)), (.d (.bool false)), (.d (.int .i64 0)), (.d (.int .i64 0)), (.d (.int .i64 0)), (.d (.int .i64 0)), (.d (.sl .nil 0 [])), (.d (.int .u64 0)), (.d (.int .u64 0)), (.d (.int .u64 0)), (.d (.int .u64 0)), (.d (.sl .nil 0 []))] 0 r13)) fun r17 =>
 bindO (partV true 7 0 (bget bs5 1)) fun r18 =>
 bindO (partV true 7 0 (bget bs5 2)) fun r19 =>
 bindO (partV true 7 0 (bget bs5 3)) fun r20 =>
 bindO (partsS [(0, (.v (demote (demote r18)))), (1, (.v (demote (demote r19)))), (2, (.v (demote (demote r20))))]) fun r21 =>
 bindO (buildD Proofs.Tryz.prog 60 r21) fun r22 =>
 callP C 46 [(demote (demote (demote r17))), (.d r22)] fun r23 =>
 bindO (unV .not (demote r23)) fun r24 =>
 ifP (demote r24)
 ((SV.noRef (.d (.bool false))) = true ∧
 (SV.noRef (demote (demote (vget vs4 1)))) = true ∧
 (K (.tup [(.d (.bool false)), (demote (demote (vget vs4 1)))])))
 (bindO (binV none .add (demote (demote (vget vs4 1))) (.d (.int .i64 1))) fun r25 =>
 (I6 [(vget vs4 0), (demote r25)] [(Box.vals (Box.cells (bget bs5 0))), (Box.vals (Box.cells (bget bs5 1))), (Box.vals (Box.cells (bget bs5 2))), (Box.vals (Box.cells (bget bs5 3)))])))
 (bindO (binV none .add (demote (demote (vget vs4 1))) (.d (.int .i64 1))) fun r26 =>
 (I6 [(vget vs4 0), (demote r26)] [(Box.vals (Box.cells (bget bs5 0))), (Box.vals (Box.cells (bget bs5 1))), (Box.vals (Box.cells (bget bs5 2))), (Box.vals (Box.cells (bget bs5 3)))])))
 (bindO (binV none .add (demote (demote (vget vs4 1))) (.d (.int .i64 1))) fun r27 =>
 (I6 [(vget vs4 0), (demote r27)] [(Box.vals (Box.cells (bget bs5 0))), (Box.vals (Box.cells (bget bs5 1))), (Box.vals (Box.cells (bget bs5 2))), (Box.vals (Box.cells (bget bs5 3)))])))
 ((SV.noRef (.d (.bool true))) = true ∧
 (SV.noRef (.d (.int .i64 (-1)))) = true ∧
 (K (.tup [(.d (.bool true)), (.d (.int .i64 (-1)))]))))
 [x1, (.d (.int .i64 0))] [(Box.vals (Box.cells r0)), (Box.vals (Box.cells r1)), (Box.vals (Box.cells r2)), (Box.vals (Box.cells r3))])) := by kernel_rfl

theorem body21 (C : Con) (x0 x1 : SV) (K : SV → Prop) : body Go.Proofs.Tryz.prog gl C h21 21 [x0, x1] K = (
 wfP [x0, x1] (
 bindO (cellsV (demote x0)) fun r0 =>
 (List.length r0) = 10 ∧
 bindO (cellsV (demote x1)) fun r1 =>
 (List.length r1) = 17 ∧
 bindO (partV true 10 0 r0) fun r2 =>
 bindO (partV true 17 0 r1) fun r3 =>
 callP C 11 [(demote (demote (demote r2))), (demote (demote (demote r3))), (.d (.bool true))] fun r4 =>
 bindO (binV (some (false, [.int])) .neq (demote r4) (.d (.int .i64 0))) fun r5 =>
 ifP r5
 (bindO (partsS []) fun r6 =>
 bindO (buildD Proofs.Tryz.prog 28 r6) fun r7 =>
 bindO (cellsV (.d r7)) fun r8 =>
 (List.length r8) = 10 ∧
 10 ≤ 10 ∧
 bindO (partV true 10 0 (setAt [(.d (.int .i64 0)), (.d (.int .i64 0)), (.d (.int .i64 0)), (.d (.int .i64 0)), (.d (.sl .nil 0 [])), (.d (.int .u64 0)), (.d (.int .u64 0)), (.d (.int .u64 0)), (.d (.int .u64 0)), (.d (.sl .nil 0 []))] 0 r8)) fun r9 =>
 (SV.noRef (demote r9)) = true ∧
 (K (demote r9)))
 (bindO (partV true 10 0 r0) fun r10 =>
 bindO (partV true 17 0 r1) fun r11 =>
 callP C 47 [(demote (demote (demote r10))), (demote (demote (demote r11)))] fun r12 =>
 bindO (cellsV (demote r12)) fun r13 =>
 (List.length r13) = 10 ∧
 10 ≤ 10 ∧
 bindO (partV true 10 0 (setAt [(.d (.int .i64 0)), (.d (.int .i64 0)), (.d (.int .i64 0)), (.d (.int .i64 0)), (.d (.sl .nil 0 [])), (.d (.int .u64 0)), (.d (.int .u64 0)), (.d (.int .u64 0)), (.d (.int .u64 0)), (.d (.sl .nil 0 []))] 0 r13)) fun r14 =>
 (SV.noRef (demote r14)) = true ∧
 (K (demote r14))))) := by kernel_rfl

theorem body22 (C : Con) (x0 x1 : SV) (K : SV → Prop) : body Go.Proofs.Tryz.prog gl C h22 22 [x0, x1] K = (
 wfP [x0, x1] (
 bindO (cellsV (demote x0)) fun r0 =>
 (List.length r0) = 10 ∧
 bindO (cellsV (demote x1)) fun r1 =>
 (List.length r1) = 17 ∧
 bindO (partV true 10 0 r0) fun r2 =>
 bindO (partV true 17 0 r1) fun r3 =>
 callP C 12 [(demote (demote (demote r2))), (demote (demote (demote r3))), (.d (.bool true))] fun r4 =>
 bindO (binV (some (false, [.int])) .neq (demote r4) (.d (.int .i64 0))) fun r5 =>
 ifP r5
 (bindO (partsS []) fun r6 =>
 bindO (buildD Proofs.Tryz.prog 28 r6) fun r7 =>
 bindO (cellsV (.d r7)) fun r8 =>
 (List.length r8) = 10 ∧
 10 ≤ 10 ∧
 bindO (partV true 10 0 (setAt [(.d (.int .i64 0)), (.d (.int .i64 0)), (.d (.int .i64 0)), (.d (.int .i64 0)), (.d (.sl .nil 0 [])), (.d (.int .u64 0)), (.d (.int .u64 0)), (.d (.int .u64 0)), (.d (.int .u64 0)), (.d (.sl .nil 0 []))] 0 r8)) fun r9 =>
 (SV.noRef (demote r9)) = true ∧
 (K (demote r9)))
 (bindO (partV true 10 0 r0) fun r10 =>
 bindO (partV true 17 0 r1) fun r11 =>
 callP C 48 [(demote (demote (demote r10))), (demote (demote (demote r11)))] fun r12 =>
 bindO (cellsV (demote r12)) fun r13 =>
 (List.length r13) = 10 ∧
 10 ≤ 10 ∧
 bindO (partV true 10 0 (setAt [(.d (.int .i64 0)), (.d (.int .i64 0)), (.d (.int .i64 0)), (.d (.int .i64 0)), (.d (.sl .nil 0 [])), (.d (.int .u64 0)), (.d (.int .u64 0)), (.d (.int .u64 0)), (.d (.int .u64 0)), (.d (.sl .nil 0 []))] 0 r13)) fun r14 =>
 (SV.noRef (demote r14)) = true ∧
 (K (demote r14))))) := by kernel_rfl

theorem body23 (C : Con) (x0 x1 : SV) (K : SV → Prop) : body Go.Proofs.Tryz.prog gl C h23 23 [x0, x1] K = (
 wfP [x0, x1] (
 bindO (cellsV (demote x0)) fun r0 =>
 (List.length r0) = 10 ∧
 bindO (binV none .leq (demote (demote x1)) (.d (.int .i64 0))) fun r1 =>
 ifP (demote r1)
 ((SV.noRef (.d (.bool false))) = true ∧
 (K (.d (.bool false))))
 (bindO (partV false 1 9 r0) fun r2 =>
 bindO (lenL (demote (demote r2))) fun r3 =>
 bindO (binV none .gtr (demote r3) (.d (.int .i64 3))) fun r4 =>
 ifP (demote (demote r4))
 ((SV.noRef (.d (.bool false))) = true ∧
 (K (.d (.bool false))))
 (bindO (partV false 1 4 r0) fun r5 =>
 bindO (lenL (demote (demote r5))) fun r6 =>
 bindO (binV none .gtr (demote r6) (.d (.int .i64 20))) fun r7 =>
 ifP (demote r7)
 ((SV.noRef (.d (.bool false))) = true ∧
 (K (.d (.bool false))))
 (loopP (fun vs8 bs9 I10 =>
 bindO (partV false 1 9 (bget bs9 0)) fun r11 =>
 bindO (lenL (demote (demote r11))) fun r12 =>
 bindO (binV none .lss (demote (demote (vget vs8 1))) (demote r12)) fun r13 =>
 ifP r13
 (bindO (partV false 1 9 (bget bs9 0)) fun r14 =>
 bindO (elemPtr 10 (demote (demote r14)) (demote (demote (vget vs8 1)))) fun r15 =>
 bindO (loadV true 10 (demote r15)) fun r16 =>
 bindO (binV none .sub (demote (demote (vget vs8 0))) (.d (.int .i64 1))) fun r17 =>
 callP C 23 [(demote (demote r16)), (demote (demote r17))] fun r18 =>
 bindO (unV .not (demote r18)) fun r19 =>
 ifP r19
 ((SV.noRef (.d (.bool false))) = true ∧
 (K (.d (.bool false))))
 (bindO (binV none .add (demote (demote (vget vs8 1))) (.d (.int .i64 1))) fun r20 =>
 (I10 [(vget vs8 0), (demote r20)] [(Box.vals (Box.cells (bget bs9 0)))])))
 ((SV.noRef (.d (.bool true))) = true ∧
 (K (.d (.bool true)))))
 [x1, (.d (.int .i64 0))] [(Box.vals (Box.cells r0))]))))) := by kernel_rfl

theorem body30 (C : Con) (x0 : SV) (K : SV → Prop) : body Go.Proofs.Tryz.prog gl C h30 30 [x0] K = (
 wfP [x0] (
 bindO (cellsV (demote x0)) fun r0 =>
 (List.length r0) = 10 ∧
 bindO (partV false 1 9 r0) fun r1 =>
 bindO (lenL (demote (demote r1))) fun r2 =>
 loopP (fun vs3 bs4 I5 =>
 bindO (binV none .lss (demote (vget vs3 3)) (demote (vget vs3 2))) fun r6 =>
 ifP r6
 (bindO (elemPtr 10 (demote (vget vs3 1)) (demote (vget vs3 3))) fun r7 =>
 bindO (loadV true 10 (demote r7)) fun r8 =>
 bindO (cellsV (demote r8)) fun r9 =>
 (List.length r9) = 10 ∧
 10 ≤ 10 ∧
 bindO (partV true 10 0 (setAt [(.d (.int .i64 0)), (.d (.int .i64 0)), (.d (.int .i64 0)), (.d (.int .i64 0)), (.d (.sl .nil 0 [])), (.d (.int .u64 0)), (.d (.int .u64 0)), (.d (.int .u64 0)), (.d (.int .u64 0)), (.d (.sl .nil 0 []))] 0 r9)) fun r10 =>
 callP C 30 [(demote (demote (demote r10)))] fun r11 =>
 bindO (foldIntV maxD (demote (demote (vget vs3 0))) [(demote r11)]) fun r12 =>
 bindO (binV none .add (demote (vget vs3 3)) (.d (.int .i64 1))) fun r13 =>
 (I5 [(demote r12), (vget vs3 1), (vget vs3 2), (demote r13)] [(Box.vals (Box.cells (bget bs4 0)))]))
 (bindO (binV none .add (demote (demote (vget vs3 0))) (.d (.int .i64 1))) fun r14 =>
 (SV.noRef (demote r14)) = true ∧
 (K (demote r14))))
 [(.d (.int .i64 0)), (demote r1), r2, (.d (.int .i64 0))] [(Box.vals (Box.cells r0))])) := by kernel_rfl

theorem body31 (C : Con) (x0 x1 : SV) (K : SV → Prop) : body Go.Proofs.Tryz.prog gl C h31 31 [x0, x1] K = (
 wfP [x0, x1] (
 bindO (cellsV (demote x0)) fun r0 =>
 (List.length r0) = 10 ∧
 bindO (partV true 10 0 r0) fun r1 =>
 withFn (demote (demote x1)) [(demote (demote (demote r1)))] fun f2 l3 =>
 callP C f2 l3 fun r4 =>
 bindO (binV (some (false, [.int])) .neq (demote (demote (demote r4))) (.d (.int .i64 0))) fun r5 =>
 ifP r5
 ((SV.noRef (demote (demote (demote r4)))) = true ∧
 (K (demote (demote (demote r4)))))
 (bindO (partV false 1 9 r0) fun r6 =>
 bindO (lenL (demote (demote r6))) fun r7 =>
 loopP (fun vs8 bs9 I10 =>
 bindO (binV none .lss (demote (vget vs8 3)) (demote (vget vs8 2))) fun r11 =>
 ifP r11
 (bindO (elemPtr 10 (demote (vget vs8 1)) (demote (vget vs8 3))) fun r12 =>
 bindO (loadV true 10 (demote r12)) fun r13 =>
 bindO (cellsV (demote r13)) fun r14 =>
 (List.length r14) = 10 ∧
 10 ≤ 10 ∧
 bindO (partV true 10 0 (setAt [(.d (.int .i64 0)), (.d (.int .i64 0)), (.d (.int .i64 0)), (.d (.int .i64 0)), (.d (.sl .nil 0 [])), (.d (.int .u64 0)), (.d (.int .u64 0)), (.d (.int .u64 0)), (.d (.int .u64 0)), (.d (.sl .nil 0 []))] 0 r14)) fun r15 =>
 callP C 31 [(demote (demote (demote r15))), (demote (demote (demote (vget vs8 0))))] fun r16 =>
 bindO (binV (some (false, [.int])) .neq (demote (demote (demote r16))) (.d (.int .i64 0))) fun r17 =>
 ifP r17
 ((SV.noRef (demote (demote (demote r16)))) = true ∧
 (K (demote (demote (demote r16)))))
 (bindO (binV none .add (demote (vget vs8 3)) (.d (.int .i64 1))) fun r18 =>
 (I10 [(vget vs8 0), (vget vs8 1), (vget vs8 2), (demote r18)] [(Box.vals (Box.cells (bget bs9 0)))])))
 ((SV.noRef (.d (.int .i64 0))) = true ∧
 (K (.d (.int .i64 0)))))
 [x1, (demote r6), r7, (.d (.int .i64 0))] [(Box.vals (Box.cells r0))]))) := by kernel_rfl

theorem body32 (C : Con) (x0 x1 x2 : SV) (K : SV → Prop) : body Go.Proofs.Tryz.prog gl C h32 32 [x0, x1, x2] K = (
 wfP [x0, x1, x2] (
 bindO (cellsV (demote x0)) fun r0 =>
 (List.length r0) = 10 ∧
 bindO (partV true 10 0 r0) fun r1 =>
 bindO (loadV true 17 (demote x1)) fun r2 =>
 bindO (loadV false 1 (demote x2)) fun r3 =>
 callP C 34 [(demote (demote r3))] fun r4 =>
 callP C 33 [(demote (demote (demote r1))), (demote (demote r2)), (demote (demote r4))] fun r5 =>
 (SV.noRef (demote r5)) = true ∧
 (K (demote r5)))) := by kernel_rfl

theorem body33 (C : Con) (x0 x1 x2 : SV) (K : SV → Prop) : body Go.Proofs.Tryz.prog gl C h33 33 [x0, x1, x2] K = (
 wfP [x0, x1, x2] (
 bindO (cellsV (demote x0)) fun r0 =>
 (List.length r0) = 10 ∧
 bindO (cellsV (demote x1)) fun r1 =>
 (List.length r1) = 17 ∧
 bindO (partV true 10 0 r0) fun r2 =>
 callP C 38 [(demote (demote (demote r2))), (.d (.bool false))] fun r3 =>
 bindO (binV (some (false, [.int])) .neq (demote (demote (demote r3))) (.d (.int .i64 0))) fun r4 =>
 ifP r4
 ((SV.noRef (demote (demote (demote r3)))) = true ∧
 (K (demote (demote (demote r3)))))
 (bindO (partV true 10 0 r0) fun r5 =>
 callP C 39 [(demote (demote (demote r5))), (demote (demote (demote x2)))] fun r6 =>
 bindO (binV (some (false, [.int])) .neq (demote (demote (demote r6))) (.d (.int .i64 0))) fun r7 =>
 ifP r7
 ((SV.noRef (demote (demote (demote r6)))) = true ∧
 (K (demote (demote (demote r6)))))
 (bindO (partV false 1 0 r0) fun r8 =>
 bindO (binV (some (false, [.int])) .neq (demote (demote r8)) (.d (.int .i64 9))) fun r9 =>
 ifP (demote r9)
 ((SV.noRef (.d (.int .i64 0))) = true ∧
 (K (.d (.int .i64 0))))
 (bindO (partV true 4 5 r0) fun r10 =>
 bindO (partV true 17 0 r1) fun r11 =>
 bindO (partV false 1 1 r0) fun r12 =>
 callP C 67 [(demote (demote (demote r11))), (demote (demote (demote r12)))] fun r13 =>
 callP C 66 [(demote (demote r13))] fun r14 =>
 callP C 65 [(demote (demote (demote r10))), (demote (demote r14))] fun r15 =>
 bindO (unV .not (demote r15)) fun r16 =>
 ifP (demote r16)
 ((SV.noRef (.d (.int .i64 3))) = true ∧
 (K (.d (.int .i64 3))))
 (bindO (partV true 4 5 r0) fun r17 =>
 bindO (partsS []) fun r18 =>
 bindO (buildD Proofs.Tryz.prog 25 r18) fun r19 =>
 bindO (binV (some (true, [.int, .int, .int, .int])) .eql (demote (demote r17)) (.d r19)) fun r20 =>
 ifP (demote r20)
 ((SV.noRef (.d (.int .i64 2))) = true ∧
 (K (.d (.int .i64 2))))
 ((SV.noRef (.d (.int .i64 0))) = true ∧
 (K (.d (.int .i64 0)))))))))) := by kernel_rfl

theorem body34 (C : Con) (x0 : SV) (K : SV → Prop) : body Go.Proofs.Tryz.prog gl C h34 34 [x0] K = (
 wfP [x0] (
 ifP (demote x0)
 ((SV.noRef (.d (.int .i64 15))) = true ∧
 (K (.d (.int .i64 15))))
 ((SV.noRef (.d (.int .i64 10))) = true ∧
 (K (.d (.int .i64 10)))))) := by kernel_rfl

theorem body35 (C : Con) (x0 x1 : SV) (K : SV → Prop) : body Go.Proofs.Tryz.prog gl C h35 35 [x0, x1] K = (
 wfP [x0, x1] (
 bindO (cellsV (demote x0)) fun r0 =>
 (List.length r0) = 10 ∧
 loopP (fun vs1 bs2 I3 =>
 bindO (partV false 1 9 (bget bs2 0)) fun r4 =>
 bindO (lenL (demote (demote r4))) fun r5 =>
 bindO (binV none .lss (demote (demote (vget vs1 2))) (demote r5)) fun r6 =>
 ifP (demote r6)
 (bindO (binV none .gtr (demote (demote (vget vs1 0))) (.d (.int .i64 0))) fun r7 =>
 ifP (demote r7)
 (bindO (partV false 1 9 (bget bs2 0)) fun r8 =>
 bindO (elemPtr 10 (demote (demote r8)) (demote (demote (vget vs1 2)))) fun r9 =>
 bindO (loadV true 10 (demote r9)) fun r10 =>
 bindO (binV none .sub (demote (demote (vget vs1 0))) (.d (.int .i64 1))) fun r11 =>
 callP C 35 [(demote (demote r10)), (demote (demote r11))] fun r12 =>
 bindO (foldIntV maxD (demote (demote (vget vs1 1))) [(demote r12)]) fun r13 =>
 bindO (binV none .add (demote (demote (vget vs1 2))) (.d (.int .i64 1))) fun r14 =>
 (I3 [(vget vs1 0), (demote r13), (demote r14)] [(Box.vals (Box.cells (bget bs2 0)))]))
 (bindO (binV none .add (demote (demote (vget vs1 1))) (.d (.int .i64 1))) fun r15 =>
 (SV.noRef (demote r15)) = true ∧
 (K (demote r15))))
 (bindO (binV none .add (demote (demote (vget vs1 1))) (.d (.int .i64 1))) fun r16 =>
 (SV.noRef (demote r16)) = true ∧
 (K (demote r16))))
 [x1, (.d (.int .i64 0)), (.d (.int .i64 0))] [(Box.vals (Box.cells r0))])) := by kernel_rfl

theorem body36 (C : Con) (x0 x1 x2 : SV) (K : SV → Prop) : body Go.Proofs.Tryz.prog gl C h36 36 [x0, x1, x2] K = (
 wfP [x0, x1, x2] (
 bindO (cellsV (demote x0)) fun r0 =>
 (List.length r0) = 10 ∧
 bindO (cellsV (demote x1)) fun r1 =>
 (List.length r1) = 17 ∧
 bindO (partV true 10 0 r0) fun r2 =>
 callP C 68 [(demote (demote (demote r2))), (.d (.bool false)), (demote (demote (demote x2)))] fun r3 =>
 bindO (binV (some (false, [.int])) .neq (demote (demote (demote r3))) (.d (.int .i64 0))) fun r4 =>
 ifP r4
 ((SV.noRef (demote (demote (demote r3)))) = true ∧
 (K (demote (demote (demote r3)))))
 (bindO (partV false 1 0 r0) fun r5 =>
 bindO (binV (some (false, [.int])) .eql (demote (demote r5)) (.d (.int .i64 9))) fun r6 =>
 ifP r6
 (bindO (partV true 4 5 r0) fun r7 =>
 bindO (partV true 17 0 r1) fun r8 =>
 bindO (partV false 1 1 r0) fun r9 =>
 callP C 71 [(demote (demote (demote r8))), (demote (demote (demote r9)))] fun r10 =>
 callP C 70 [(demote (demote r10))] fun r11 =>
 callP C 69 [(demote (demote (demote r7))), (demote (demote r11))] fun r12 =>
 bindO (unV .not (demote r12)) fun r13 =>
 ifP r13
 ((SV.noRef (.d (.int .i64 3))) = true ∧
 (K (.d (.int .i64 3))))
 (bindO (partV true 4 5 r0) fun r14 =>
 callP C 72 [(demote (demote (demote r14)))] fun r15 =>
 bindO (binV (some (false, [.int])) .eql (demote r15) (.d (.int .i64 0))) fun r16 =>
 ifP r16
 ((SV.noRef (.d (.int .i64 2))) = true ∧
 (K (.d (.int .i64 2))))
 (loopP (fun vs17 bs18 I19 =>
 bindO (partV false 1 9 (bget bs18 0)) fun r20 =>
 bindO (lenL (demote (demote r20))) fun r21 =>
 bindO (binV none .lss (demote (demote (vget vs17 1))) (demote r21)) fun r22 =>
 ifP r22
 (bindO (partV false 1 9 (bget bs18 0)) fun r23 =>
 bindO (elemPtr 10 (demote (demote r23)) (demote (demote (vget vs17 1)))) fun r24 =>
 bindO (loadV true 10 (demote r24)) fun r25 =>
 bindO (partV true 17 0 (bget bs18 1)) fun r26 =>
 callP C 36 [(demote (demote r25)), (demote (demote (demote r26))), (demote (demote (demote (vget vs17 0))))] fun r27 =>
 bindO (binV (some (false, [.int])) .neq (demote (demote (demote r27))) (.d (.int .i64 0))) fun r28 =>
 ifP r28
 ((SV.noRef (demote (demote (demote r27)))) = true ∧
 (K (demote (demote (demote r27)))))
 (bindO (binV none .add (demote (demote (vget vs17 1))) (.d (.int .i64 1))) fun r29 =>
 (I19 [(vget vs17 0), (demote r29)] [(Box.vals (Box.cells (bget bs18 0))), (Box.vals (Box.cells (bget bs18 1)))])))
 ((SV.noRef (.d (.int .i64 0))) = true ∧
 (K (.d (.int .i64 0)))))
 [x2, (.d (.int .i64 0))] [(Box.vals (Box.cells r0)), (Box.vals (Box.cells r1))])))
 (loopP (fun vs30 bs31 I32 =>
 bindO (partV false 1 9 (bget bs31 0)) fun r33 =>
 bindO (lenL (demote (demote r33))) fun r34 =>
 bindO (binV none .lss (demote (demote (vget vs30 1))) (demote r34)) fun r35 =>
 ifP r35
 (bindO (partV false 1 9 (bget bs31 0)) fun r36 =>
 bindO (elemPtr 10 (demote (demote r36)) (demote (demote (vget vs30 1)))) fun r37 =>
 bindO (loadV true 10 (demote r37)) fun r38 =>
 bindO (partV true 17 0 (bget bs31 1)) fun r39 =>
 callP C 36 [(demote (demote r38)), (demote (demote (demote r39))), (demote (demote (demote (vget vs30 0))))] fun r40 =>
 bindO (binV (some (false, [.int])) .neq (demote (demote (demote r40))) (.d (.int .i64 0))) fun r41 =>
 ifP r41
 ((SV.noRef (demote (demote (demote r40)))) = true ∧
 (K (demote (demote (demote r40)))))
 (bindO (binV none .add (demote (demote (vget vs30 1))) (.d (.int .i64 1))) fun r42 =>
 (I32 [(vget vs30 0), (demote r42)] [(Box.vals (Box.cells (bget bs31 0))), (Box.vals (Box.cells (bget bs31 1)))])))
 ((SV.noRef (.d (.int .i64 0))) = true ∧
 (K (.d (.int .i64 0)))))
 [x2, (.d (.int .i64 0))] [(Box.vals (Box.cells r0)), (Box.vals (Box.cells r1))])))) := by kernel_rfl

theorem body37 (C : Con) (x0 x1 x2 : SV) (K : SV → Prop) : body Go.Proofs.Tryz.prog gl C h37 37 [x0, x1, x2] K = (
 wfP [x0, x1, x2] (
 bindO (cellsV (demote x0)) fun r0 =>
 (List.length r0) = 10 ∧
 bindO (partV true 10 0 r0) fun r1 =>
 callP C 38 [(demote (demote (demote r1))), (.d (.bool true))] fun r2 =>
 bindO (binV (some (false, [.int])) .neq (demote (demote (demote r2))) (.d (.int .i64 0))) fun r3 =>
 ifP r3
 ((SV.noRef (demote (demote (demote r2)))) = true ∧
 (K (demote (demote (demote r2)))))
 (bindO (partV true 10 0 r0) fun r4 =>
 bindO (loadV false 1 (demote x1)) fun r5 =>
 callP C 34 [(demote (demote r5))] fun r6 =>
 callP C 39 [(demote (demote (demote r4))), (demote (demote r6))] fun r7 =>
 bindO (binV (some (false, [.int])) .neq (demote (demote (demote r7))) (.d (.int .i64 0))) fun r8 =>
 ifP r8
 ((SV.noRef (demote (demote (demote r7)))) = true ∧
 (K (demote (demote (demote r7)))))
 (bindO (partV true 10 0 r0) fun r9 =>
 bindO (loadV true 17 (demote x2)) fun r10 =>
 ∃ r11,
 ∃ r12,
 (C 40 [(demote (demote (demote r9))), (demote (demote r10))] (.tup [r11, r12])) ∧
 bindO (cellsV (demote (demote (demote r11)))) fun r13 =>
 (List.length r13) = 4 ∧
 4 ≤ 4 ∧
 bindO (unV .not (demote (demote (demote (demote (demote r12)))))) fun r14 =>
 ifP r14
 ((SV.noRef (.d (.int .i64 11))) = true ∧
 (K (.d (.int .i64 11))))
 ((SV.noRef (.d (.int .i64 0))) = true ∧
 (K (.d (.int .i64 0)))))))) := by kernel_rfl

theorem body38 (C : Con) (x0 x1 : SV) (K : SV → Prop) : body Go.Proofs.Tryz.prog gl C h38 38 [x0, x1] K = (
 wfP [x0, x1] (
 bindO (cellsV (demote x0)) fun r0 =>
 (List.length r0) = 10 ∧
 bindO (partV false 1 0 r0) fun r1 =>
 bindO (binV (some (false, [.int])) .eql (demote (demote r1)) (.d (.int .i64 2))) fun r2 =>
 ifP (demote r2)
 (bindO (partV true 10 0 r0) fun r3 =>
 callP C 73 [(demote (demote (demote r3))), (.d (.int .i64 1))] fun r4 =>
 bindO (unV .not (demote (demote (demote r4)))) fun r5 =>
 ifP r5
 ((SV.noRef (.d (.int .i64 2))) = true ∧
 (K (.d (.int .i64 2))))
 ((SV.noRef (.d (.int .i64 0))) = true ∧
 (K (.d (.int .i64 0)))))
 (bindO (binV (some (false, [.int])) .eql (demote (demote r1)) (.d (.int .i64 3))) fun r6 =>
 ifP (demote r6)
 (bindO (partV true 10 0 r0) fun r7 =>
 callP C 73 [(demote (demote (demote r7))), (.d (.int .i64 2))] fun r8 =>
 bindO (unV .not (demote (demote (demote r8)))) fun r9 =>
 ifP r9
 ((SV.noRef (.d (.int .i64 2))) = true ∧
 (K (.d (.int .i64 2))))
 ((SV.noRef (.d (.int .i64 0))) = true ∧
 (K (.d (.int .i64 0)))))
 (bindO (binV (some (false, [.int])) .eql (demote (demote r1)) (.d (.int .i64 4))) fun r10 =>
 ifP (demote r10)
 (bindO (partV true 10 0 r0) fun r11 =>
 callP C 73 [(demote (demote (demote r11))), (.d (.int .i64 2))] fun r12 =>
 bindO (unV .not (demote (demote (demote r12)))) fun r13 =>
 ifP r13
 ((SV.noRef (.d (.int .i64 2))) = true ∧
 (K (.d (.int .i64 2))))
 ((SV.noRef (.d (.int .i64 0))) = true ∧
 (K (.d (.int .i64 0)))))
 (bindO (binV (some (false, [.int])) .eql (demote (demote r1)) (.d (.int .i64 8))) fun r14 =>
 ifP (demote r14)
 (bindO (partV true 4 5 r0) fun r15 =>
 bindO (partsS []) fun r16 =>
 bindO (buildD Proofs.Tryz.prog 25 r16) fun r17 =>
 bindO (binV (some (true, [.int, .int, .int, .int])) .eql (demote (demote r15)) (.d r17)) fun r18 =>
 ifP (demote r18)
 (bindO (partV false 1 4 r0) fun r19 =>
 bindO (lenL (demote (demote r19))) fun r20 =>
 bindO (binV (some (false, [.int])) .eql (demote r20) (.d (.int .i64 0))) fun r21 =>
 ifP (demote (demote r21))
 (bindO (partV false 1 9 r0) fun r22 =>
 bindO (lenL (demote (demote r22))) fun r23 =>
 bindO (binV (some (false, [.int])) .eql (demote r23) (.d (.int .i64 0))) fun r24 =>
 bindO (unV .not (demote (demote (demote (demote r24))))) fun r25 =>
 ifP r25
 ((SV.noRef (.d (.int .i64 2))) = true ∧
 (K (.d (.int .i64 2))))
 ((SV.noRef (.d (.int .i64 0))) = true ∧
 (K (.d (.int .i64 0)))))
 (bindO (unV .not (.d (.bool false))) fun r26 =>
 ifP r26
 ((SV.noRef (.d (.int .i64 2))) = true ∧
 (K (.d (.int .i64 2))))
 ((SV.noRef (.d (.int .i64 0))) = true ∧
 (K (.d (.int .i64 0))))))
 (bindO (unV .not (.d (.bool false))) fun r27 =>
 ifP r27
 ((SV.noRef (.d (.int .i64 2))) = true ∧
 (K (.d (.int .i64 2))))
 ((SV.noRef (.d (.int .i64 0))) = true ∧
 (K (.d (.int .i64 0))))))
 (bindO (binV (some (false, [.int])) .eql (demote (demote r1)) (.d (.int .i64 9))) fun r28 =>
 ifP (demote r28)
 (bindO (partV false 1 3 r0) fun r29 =>
 bindO (binV (some (false, [.int])) .eql (demote (demote r29)) (.d (.int .i64 0))) fun r30 =>
 ifP (demote r30)
 (bindO (partV false 1 2 r0) fun r31 =>
 bindO (binV (some (false, [.int])) .eql (demote (demote r31)) (.d (.int .i64 0))) fun r32 =>
 ifP (demote (demote r32))
 (bindO (partV false 1 9 r0) fun r33 =>
 bindO (lenL (demote (demote r33))) fun r34 =>
 bindO (binV (some (false, [.int])) .eql (demote r34) (.d (.int .i64 0))) fun r35 =>
 ifP (demote (demote r35))
 (ifP (demote (demote x1))
 (bindO (partV true 4 5 r0) fun r36 =>
 bindO (partsS []) fun r37 =>
 bindO (buildD Proofs.Tryz.prog 25 r37) fun r38 =>
 bindO (binV (some (true, [.int, .int, .int, .int])) .eql (demote (demote r36)) (.d r38)) fun r39 =>
 ifP (demote (demote r39))
 (bindO (partV false 1 4 r0) fun r40 =>
 bindO (lenL (demote (demote r40))) fun r41 =>
 bindO (binV none .gtr (demote r41) (.d (.int .i64 0))) fun r42 =>
 ifP (demote (demote r42))
 (bindO (unV .not (.d (.bool true))) fun r43 =>
 ifP r43
 ((SV.noRef (.d (.int .i64 2))) = true ∧
 (K (.d (.int .i64 2))))
 ((SV.noRef (.d (.int .i64 0))) = true ∧
 (K (.d (.int .i64 0)))))
 (bindO (unV .not (demote (demote x1))) fun r44 =>
 ifP (demote r44)
 (bindO (partV false 1 4 r0) fun r45 =>
 bindO (lenL (demote (demote r45))) fun r46 =>
 bindO (binV (some (false, [.int])) .eql (demote r46) (.d (.int .i64 0))) fun r47 =>
 bindO (unV .not (demote (demote (demote (demote (demote (demote r47))))))) fun r48 =>
 ifP r48
 ((SV.noRef (.d (.int .i64 2))) = true ∧
 (K (.d (.int .i64 2))))
 ((SV.noRef (.d (.int .i64 0))) = true ∧
 (K (.d (.int .i64 0)))))
 (bindO (unV .not (.d (.bool false))) fun r49 =>
 ifP r49
 ((SV.noRef (.d (.int .i64 2))) = true ∧
 (K (.d (.int .i64 2))))
 ((SV.noRef (.d (.int .i64 0))) = true ∧
 (K (.d (.int .i64 0)))))))
 (bindO (unV .not (demote (demote x1))) fun r50 =>
 ifP (demote r50)
 (bindO (partV false 1 4 r0) fun r51 =>
 bindO (lenL (demote (demote r51))) fun r52 =>
 bindO (binV (some (false, [.int])) .eql (demote r52) (.d (.int .i64 0))) fun r53 =>
 bindO (unV .not (demote (demote (demote (demote (demote (demote r53))))))) fun r54 =>
 ifP r54
 ((SV.noRef (.d (.int .i64 2))) = true ∧
 (K (.d (.int .i64 2))))
 ((SV.noRef (.d (.int .i64 0))) = true ∧
 (K (.d (.int .i64 0)))))
 (bindO (unV .not (.d (.bool false))) fun r55 =>
 ifP r55
 ((SV.noRef (.d (.int .i64 2))) = true ∧
 (K (.d (.int .i64 2))))
 ((SV.noRef (.d (.int .i64 0))) = true ∧
 (K (.d (.int .i64 0)))))))
 (bindO (unV .not (demote (demote x1))) fun r56 =>
 ifP (demote r56)
 (bindO (partV false 1 4 r0) fun r57 =>
 bindO (lenL (demote (demote r57))) fun r58 =>
 bindO (binV (some (false, [.int])) .eql (demote r58) (.d (.int .i64 0))) fun r59 =>
 bindO (unV .not (demote (demote (demote (demote (demote (demote r59))))))) fun r60 =>
 ifP r60
 ((SV.noRef (.d (.int .i64 2))) = true ∧
 (K (.d (.int .i64 2))))
 ((SV.noRef (.d (.int .i64 0))) = true ∧
 (K (.d (.int .i64 0)))))
 (bindO (unV .not (.d (.bool false))) fun r61 =>
 ifP r61
 ((SV.noRef (.d (.int .i64 2))) = true ∧
 (K (.d (.int .i64 2))))
 ((SV.noRef (.d (.int .i64 0))) = true ∧
 (K (.d (.int .i64 0)))))))
 (bindO (unV .not (.d (.bool false))) fun r62 =>
 ifP r62
 ((SV.noRef (.d (.int .i64 2))) = true ∧
 (K (.d (.int .i64 2))))
 ((SV.noRef (.d (.int .i64 0))) = true ∧
 (K (.d (.int .i64 0))))))
 (bindO (unV .not (.d (.bool false))) fun r63 =>
 ifP r63
 ((SV.noRef (.d (.int .i64 2))) = true ∧
 (K (.d (.int .i64 2))))
 ((SV.noRef (.d (.int .i64 0))) = true ∧
 (K (.d (.int .i64 0))))))
 (bindO (unV .not (.d (.bool false))) fun r64 =>
 ifP r64
 ((SV.noRef (.d (.int .i64 2))) = true ∧
 (K (.d (.int .i64 2))))
 ((SV.noRef (.d (.int .i64 0))) = true ∧
 (K (.d (.int .i64 0))))))
 (bindO (unV .not (.d (.bool false))) fun r65 =>
 ifP r65
 ((SV.noRef (.d (.int .i64 2))) = true ∧
 (K (.d (.int .i64 2))))
 ((SV.noRef (.d (.int .i64 0))) = true ∧
 (K (.d (.int .i64 0))))))))))) := by kernel_rfl

theorem body39 (C : Con) (x0 x1 : SV) (K : SV → Prop) : body Go.Proofs.Tryz.prog gl C h39 39 [x0, x1] K = (
 wfP [x0, x1] (
 bindO (cellsV (demote x0)) fun r0 =>
 (List.length r0) = 10 ∧
 bindO (cellsV (demote x1)) fun r1 =>
 (List.length r1) = 1 ∧
 bindO (partV false 1 0 r0) fun r2 =>
 bindO (binV (some (false, [.int])) .neq (demote (demote r2)) (.d (.int .i64 8))) fun r3 =>
 ifP (demote r3)
 (bindO (partV false 1 0 r0) fun r4 =>
 bindO (binV (some (false, [.int])) .neq (demote (demote r4)) (.d (.int .i64 9))) fun r5 =>
 ifP (demote (demote r5))
 ((SV.noRef (.d (.int .i64 0))) = true ∧
 (K (.d (.int .i64 0))))
 (bindO (partV false 1 1 r0) fun r6 =>
 callP C 74 [(demote (demote (demote r6))), (.ref (List.map demote r1) 0)] fun r7 =>
 bindO (unV .not (demote r7)) fun r8 =>
 ifP (demote r8)
 ((SV.noRef (.d (.int .i64 3))) = true ∧
 (K (.d (.int .i64 3))))
 (bindO (partV false 1 3 r0) fun r9 =>
 callP C 74 [(demote (demote (demote r9))), (.ref (List.map demote r1) 0)] fun r10 =>
 bindO (unV .not (demote r10)) fun r11 =>
 ifP (demote (demote r11))
 ((SV.noRef (.d (.int .i64 3))) = true ∧
 (K (.d (.int .i64 3))))
 (bindO (partV false 1 2 r0) fun r12 =>
 bindO (binV none .lss (demote (demote r12)) (.d (.int .i64 0))) fun r13 =>
 ifP (demote (demote r13))
 ((SV.noRef (.d (.int .i64 3))) = true ∧
 (K (.d (.int .i64 3))))
 (bindO (partV false 1 2 r0) fun r14 =>
 bindO (binV none .gtr (demote (demote r14)) (.d (.int .i64 4))) fun r15 =>
 ifP (demote (demote r15))
 ((SV.noRef (.d (.int .i64 3))) = true ∧
 (K (.d (.int .i64 3))))
 (bindO (partV false 1 0 r0) fun r16 =>
 bindO (binV (some (false, [.int])) .eql (demote (demote r16)) (.d (.int .i64 9))) fun r17 =>
 ifP (demote r17)
 (bindO (partV false 1 1 r0) fun r18 =>
 callP C 75 [(demote (demote (demote r18)))] fun r19 =>
 ifP (demote (demote r19))
 ((SV.noRef (.d (.int .i64 13))) = true ∧
 (K (.d (.int .i64 13))))
 (bindO (partV false 1 0 r0) fun r20 =>
 bindO (binV (some (false, [.int])) .eql (demote (demote r20)) (.d (.int .i64 8))) fun r21 =>
 ifP (demote r21)
 (bindO (partV false 1 1 r0) fun r22 =>
 callP C 76 [(demote (demote (demote r22)))] fun r23 =>
 bindO (partV false 1 3 r0) fun r24 =>
 callP C 76 [(demote (demote (demote r24)))] fun r25 =>
 bindO (binV (some (false, [.int])) .neq (demote r23) (demote r25)) fun r26 =>
 ifP (demote r26)
 ((SV.noRef (.d (.int .i64 13))) = true ∧
 (K (.d (.int .i64 13))))
 (bindO (partV false 1 2 r0) fun r27 =>
 bindO (binV none .gtr (demote (demote r27)) (.d (.int .i64 1))) fun r28 =>
 ifP (demote r28)
 (bindO (partV false 1 1 r0) fun r29 =>
 callP C 75 [(demote (demote (demote r29)))] fun r30 =>
 bindO (unV .not (demote r30)) fun r31 =>
 ifP (demote (demote (demote (demote r31))))
 ((SV.noRef (.d (.int .i64 13))) = true ∧
 (K (.d (.int .i64 13))))
 ((SV.noRef (.d (.int .i64 0))) = true ∧
 (K (.d (.int .i64 0)))))
 ((SV.noRef (.d (.int .i64 0))) = true ∧
 (K (.d (.int .i64 0))))))
 ((SV.noRef (.d (.int .i64 0))) = true ∧
 (K (.d (.int .i64 0))))))
 (bindO (partV false 1 0 r0) fun r32 =>
 bindO (binV (some (false, [.int])) .eql (demote (demote r32)) (.d (.int .i64 8))) fun r33 =>
 ifP (demote r33)
 (bindO (partV false 1 1 r0) fun r34 =>
 callP C 76 [(demote (demote (demote r34)))] fun r35 =>
 bindO (partV false 1 3 r0) fun r36 =>
 callP C 76 [(demote (demote (demote r36)))] fun r37 =>
 bindO (binV (some (false, [.int])) .neq (demote r35) (demote r37)) fun r38 =>
 ifP (demote r38)
 ((SV.noRef (.d (.int .i64 13))) = true ∧
 (K (.d (.int .i64 13))))
 (bindO (partV false 1 2 r0) fun r39 =>
 bindO (binV none .gtr (demote (demote r39)) (.d (.int .i64 1))) fun r40 =>
 ifP (demote r40)
 (bindO (partV false 1 1 r0) fun r41 =>
 callP C 75 [(demote (demote (demote r41)))] fun r42 =>
 bindO (unV .not (demote r42)) fun r43 =>
 ifP (demote (demote (demote (demote r43))))
 ((SV.noRef (.d (.int .i64 13))) = true ∧
 (K (.d (.int .i64 13))))
 ((SV.noRef (.d (.int .i64 0))) = true ∧
 (K (.d (.int .i64 0)))))
 ((SV.noRef (.d (.int .i64 0))) = true ∧
 (K (.d (.int .i64 0))))))
 ((SV.noRef (.d (.int .i64 0))) = true ∧
 (K (.d (.int .i64 0)))))))))))
 (bindO (partV false 1 1 r0) fun r44 =>
 callP C 74 [(demote (demote (demote r44))), (.ref (List.map demote r1) 0)] fun r45 =>
 bindO (unV .not (demote r45)) fun r46 =>
 ifP (demote r46)
 ((SV.noRef (.d (.int .i64 3))) = true ∧
 (K (.d (.int .i64 3))))
 (bindO (partV false 1 3 r0) fun r47 =>
 callP C 74 [(demote (demote (demote r47))), (.ref (List.map demote r1) 0)] fun r48 =>
 bindO (unV .not (demote r48)) fun r49 =>
 ifP (demote (demote r49))
 ((SV.noRef (.d (.int .i64 3))) = true ∧
 (K (.d (.int .i64 3))))
 (bindO (partV false 1 2 r0) fun r50 =>
 bindO (binV none .lss (demote (demote r50)) (.d (.int .i64 0))) fun r51 =>
 ifP (demote (demote r51))
 ((SV.noRef (.d (.int .i64 3))) = true ∧
 (K (.d (.int .i64 3))))
 (bindO (partV false 1 2 r0) fun r52 =>
 bindO (binV none .gtr (demote (demote r52)) (.d (.int .i64 4))) fun r53 =>
 ifP (demote (demote r53))
 ((SV.noRef (.d (.int .i64 3))) = true ∧
 (K (.d (.int .i64 3))))
 (bindO (partV false 1 0 r0) fun r54 =>
 bindO (binV (some (false, [.int])) .eql (demote (demote r54)) (.d (.int .i64 9))) fun r55 =>
 ifP (demote r55)
 (bindO (partV false 1 1 r0) fun r56 =>
 callP C 75 [(demote (demote (demote r56)))] fun r57 =>
 ifP (demote (demote r57))
 ((SV.noRef (.d (.int .i64 13))) = true ∧
 (K (.d (.int .i64 13))))
 (bindO (partV false 1 0 r0) fun r58 =>
 bindO (binV (some (false, [.int])) .eql (demote (demote r58)) (.d (.int .i64 8))) fun r59 =>
 ifP (demote r59)
 (bindO (partV false 1 1 r0) fun r60 =>
 callP C 76 [(demote (demote (demote r60)))] fun r61 =>
 bindO (partV false 1 3 r0) fun r62 =>
 callP C 76 [(demote (demote (demote r62)))] fun r63 =>
 bindO (binV (some (false, [.int])) .neq (demote r61) (demote r63)) fun r64 =>
 ifP (demote r64)
 ((SV.noRef (.d (.int .i64 13))) = true ∧
 (K (.d (.int .i64 13))))
 (bindO (partV false 1 2 r0) fun r65 =>
 bindO (binV none .gtr (demote (demote r65)) (.d (.int .i64 1))) fun r66 =>
 ifP (demote r66)
 (bindO (partV false 1 1 r0) fun r67 =>
 callP C 75 [(demote (demote (demote r67)))] fun r68 =>
 bindO (unV .not (demote r68)) fun r69 =>
 ifP (demote (demote (demote (demote r69))))
 ((SV.noRef (.d (.int .i64 13))) = true ∧
 (K (.d (.int .i64 13))))
 ((SV.noRef (.d (.int .i64 0))) = true ∧
 (K (.d (.int .i64 0)))))
 ((SV.noRef (.d (.int .i64 0))) = true ∧
 (K (.d (.int .i64 0))))))
 ((SV.noRef (.d (.int .i64 0))) = true ∧
 (K (.d (.int .i64 0))))))
 (bindO (partV false 1 0 r0) fun r70 =>
 bindO (binV (some (false, [.int])) .eql (demote (demote r70)) (.d (.int .i64 8))) fun r71 =>
 ifP (demote r71)
 (bindO (partV false 1 1 r0) fun r72 =>
 callP C 76 [(demote (demote (demote r72)))] fun r73 =>
 bindO (partV false 1 3 r0) fun r74 =>
 callP C 76 [(demote (demote (demote r74)))] fun r75 =>
 bindO (binV (some (false, [.int])) .neq (demote r73) (demote r75)) fun r76 =>
 ifP (demote r76)
 ((SV.noRef (.d (.int .i64 13))) = true ∧
 (K (.d (.int .i64 13))))
 (bindO (partV false 1 2 r0) fun r77 =>
 bindO (binV none .gtr (demote (demote r77)) (.d (.int .i64 1))) fun r78 =>
 ifP (demote r78)
 (bindO (partV false 1 1 r0) fun r79 =>
 callP C 75 [(demote (demote (demote r79)))] fun r80 =>
 bindO (unV .not (demote r80)) fun r81 =>
 ifP (demote (demote (demote (demote r81))))
 ((SV.noRef (.d (.int .i64 13))) = true ∧
 (K (.d (.int .i64 13))))
 ((SV.noRef (.d (.int .i64 0))) = true ∧
 (K (.d (.int .i64 0)))))
 ((SV.noRef (.d (.int .i64 0))) = true ∧
 (K (.d (.int .i64 0))))))
 ((SV.noRef (.d (.int .i64 0))) = true ∧
 (K (.d (.int .i64 0)))))))))))) := by kernel_rfl

theorem body40 (C : Con) (x0 x1 : SV) (K : SV → Prop) : body Go.Proofs.Tryz.prog gl C h40 40 [x0, x1] K = (
 wfP [x0, x1] (
 bindO (cellsV (demote x0)) fun r0 =>
 (List.length r0) = 10 ∧
 bindO (cellsV (demote x1)) fun r1 =>
 (List.length r1) = 17 ∧
 bindO (partV false 1 4 r0) fun r2 =>
 bindO (lenL (demote (demote r2))) fun r3 =>
 loopP (fun vs4 bs5 I6 =>
 bindO (binV none .lss (demote (vget vs4 2)) (demote (vget vs4 1))) fun r7 =>
 ifP r7
 (bindO (elemPtr 1 (demote (vget vs4 0)) (demote (vget vs4 2))) fun r8 =>
 bindO (loadV false 1 (demote r8)) fun r9 =>
 bindO (partV true 17 0 (bget bs5 1)) fun r10 =>
 bindO (partV false 1 1 (bget bs5 0)) fun r11 =>
 ∃ r12,
 ∃ r13,
 (C 77 [(demote (demote (demote r10))), (demote (demote (demote r11))), (demote (demote (demote (demote r9))))] (.tup [r12, r13])) ∧
 bindO (cellsV (demote (demote (demote r12)))) fun r14 =>
 (List.length r14) = 4 ∧
 4 ≤ 4 ∧
 bindO (unV .not (demote (demote (demote (demote (demote r13)))))) fun r15 =>
 ifP r15
 (bindO (partsS []) fun r16 =>
 bindO (buildD Proofs.Tryz.prog 25 r16) fun r17 =>
 bindO (cellsV (.d r17)) fun r18 =>
 (List.length r18) = 4 ∧
 4 ≤ (List.length (bget bs5 2)) ∧
 bindO (partV true 4 0 (setAt (bget bs5 2) 0 r18)) fun r19 =>
 (SV.noRef (demote r19)) = true ∧
 (SV.noRef (.d (.bool false))) = true ∧
 (K (.tup [(demote r19), (.d (.bool false))])))
 (bindO (partV true 4 0 (bget bs5 3)) fun r20 =>
 bindO (partV true 4 0 (setAt [(.d (.int .u64 0)), (.d (.int .u64 0)), (.d (.int .u64 0)), (.d (.int .u64 0))] 0 r14)) fun r21 =>
 callP C 78 [(demote (demote (demote r20))), (demote (demote (demote r21)))] fun r22 =>
 bindO (cellsV (demote r22)) fun r23 =>
 (List.length r23) = 4 ∧
 4 ≤ (List.length (bget bs5 3)) ∧
 bindO (binV none .add (demote (vget vs4 2)) (.d (.int .i64 1))) fun r24 =>
 (I6 [(vget vs4 0), (vget vs4 1), (demote r24)] [(Box.vals (Box.cells (bget bs5 0))), (Box.vals (Box.cells (bget bs5 1))), (Box.vals (Box.cells (bget bs5 2))), (Box.vals (Box.cells (setAt (bget bs5 3) 0 r23)))])))
 (bindO (partV true 4 0 (bget bs5 3)) fun r25 =>
 bindO (cellsV (demote (demote r25))) fun r26 =>
 (List.length r26) = 4 ∧
 4 ≤ (List.length (bget bs5 2)) ∧
 bindO (partV true 4 0 (setAt (bget bs5 2) 0 r26)) fun r27 =>
 (SV.noRef (demote r27)) = true ∧
 (SV.noRef (.d (.bool true))) = true ∧
 (K (.tup [(demote r27), (.d (.bool true))]))))
 [(demote r2), r3, (.d (.int .i64 0))] [(Box.vals (Box.cells r0)), (Box.vals (Box.cells r1)), [(.d (.int .u64 0)), (.d (.int .u64 0)), (.d (.int .u64 0)), (.d (.int .u64 0))], [(.d (.int .u64 0)), (.d (.int .u64 0)), (.d (.int .u64 0)), (.d (.int .u64 0))]])) := by kernel_rfl

theorem body41 (C : Con) (x0 x1 : SV) (K : SV → Prop) : body Go.Proofs.Tryz.prog gl C h41 41 [x0, x1] K = (
 wfP [x0, x1] (
 bindO (cellsV (demote x0)) fun r0 =>
 (List.length r0) = 10 ∧
 bindO (cellsV (demote x1)) fun r1 =>
 (List.length r1) = 17 ∧
 bindO (partV false 1 0 r0) fun r2 =>
 bindO (binV (some (false, [.int])) .eql (demote (demote r2)) (.d (.int .i64 9))) fun r3 =>
 ifP r3
 (bindO (partV true 10 0 r0) fun r4 =>
 bindO (partV true 17 0 r1) fun r5 =>
 ∃ r6,
 ∃ r7,
 (C 40 [(demote (demote (demote r4))), (demote (demote (demote r5)))] (.tup [r6, r7])) ∧
 bindO (cellsV (demote (demote (demote r6)))) fun r8 =>
 (List.length r8) = 4 ∧
 4 ≤ 4 ∧
 bindO (partV true 4 0 (setAt [(.d (.int .u64 0)), (.d (.int .u64 0)), (.d (.int .u64 0)), (.d (.int .u64 0))] 0 r8)) fun r9 =>
 bindO (partsS []) fun r10 =>
 bindO (buildD Proofs.Tryz.prog 25 r10) fun r11 =>
 bindO (binV (some (true, [.int, .int, .int, .int])) .eql (demote (demote r9)) (.d r11)) fun r12 =>
 ifP r12
 (bindO (partV false 1 1 r0) fun r13 =>
 bindO (partV false 1 1 r0) fun r14 =>
 bindO (partsS [(0, (.v (.d (.int .i64 8)))), (1, (.v (demote (demote r13)))), (2, (.v (.d (.int .i64 1)))), (3, (.v (demote (demote r14))))]) fun r15 =>
 bindO (buildD Proofs.Tryz.prog 28 r15) fun r16 =>
 bindO (cellsV (.d r16)) fun r17 =>
 (List.length r17) = 10 ∧
 10 ≤ 10 ∧
 bindO (partV true 10 0 (setAt [(.d (.int .i64 0)), (.d (.int .i64 0)), (.d (.int .i64 0)), (.d (.int .i64 0)), (.d (.sl .nil 0 [])), (.d (.int .u64 0)), (.d (.int .u64 0)), (.d (.int .u64 0)), (.d (.int .u64 0)), (.d (.sl .nil 0 []))] 0 r17)) fun r18 =>
 (SV.noRef (demote r18)) = true ∧
 (K (demote r18)))
 (bindO (partV false 1 0 r0) fun r19 =>
 bindO (partV false 1 1 r0) fun r20 =>
 bindO (partV true 4 0 (setAt [(.d (.int .u64 0)), (.d (.int .u64 0)), (.d (.int .u64 0)), (.d (.int .u64 0))] 0 r8)) fun r21 =>
 bindO (partsS [(0, (.v (demote (demote r19)))), (1, (.v (demote (demote r20)))), (5, (.v (demote (demote r21))))]) fun r22 =>
 bindO (buildD Proofs.Tryz.prog 28 r22) fun r23 =>
 bindO (cellsV (.d r23)) fun r24 =>
 (List.length r24) = 10 ∧
 10 ≤ 10 ∧
 bindO (partV true 10 0 (setAt [(.d (.int .i64 0)), (.d (.int .i64 0)), (.d (.int .i64 0)), (.d (.int .i64 0)), (.d (.sl .nil 0 [])), (.d (.int .u64 0)), (.d (.int .u64 0)), (.d (.int .u64 0)), (.d (.int .u64 0)), (.d (.sl .nil 0 []))] 0 r24)) fun r25 =>
 (SV.noRef (demote r25)) = true ∧
 (K (demote r25))))
 (bindO (partV false 1 0 r0) fun r26 =>
 bindO (partV false 1 1 r0) fun r27 =>
 bindO (partV false 1 2 r0) fun r28 =>
 bindO (partV false 1 3 r0) fun r29 =>
 bindO (partsS [(0, (.v (demote (demote r26)))), (1, (.v (demote (demote r27)))), (2, (.v (demote (demote r28)))), (3, (.v (demote (demote r29))))]) fun r30 =>
 bindO (buildD Proofs.Tryz.prog 28 r30) fun r31 =>
 bindO (cellsV (.d r31)) fun r32 =>
 (List.length r32) = 10 ∧
 10 ≤ 10 ∧
 bindO (partV false 1 9 r0) fun r33 =>
 bindO (lenL (demote (demote r33))) fun r34 =>
 loopP (fun vs35 bs36 I37 =>
 bindO (binV none .lss (demote (vget vs35 2)) (demote (vget vs35 1))) fun r38 =>
 ifP r38
 (bindO (elemPtr 10 (demote (vget vs35 0)) (demote (vget vs35 2))) fun r39 =>
 bindO (loadV true 10 (demote r39)) fun r40 =>
 bindO (cellsV (demote r40)) fun r41 =>
 (List.length r41) = 10 ∧
 10 ≤ 10 ∧
 bindO ((bget bs36 3)[9]?) fun r42 =>
 bindO (partV true 10 0 (setAt [(.d (.int .i64 0)), (.d (.int .i64 0)), (.d (.int .i64 0)), (.d (.int .i64 0)), (.d (.sl .nil 0 [])), (.d (.int .u64 0)), (.d (.int .u64 0)), (.d (.int .u64 0)), (.d (.int .u64 0)), (.d (.sl .nil 0 []))] 0 r41)) fun r43 =>
 bindO (partV true 17 0 (bget bs36 1)) fun r44 =>
 callP C 41 [(demote (demote (demote r43))), (demote (demote (demote r44)))] fun r45 =>
 bindO (partsS [(0, (.v (demote r45)))]) fun r46 =>
 (partsFit 10 1 r46) = true ∧
 appP 10 112 r42 (.full 10 (buildElems (mkElem true [(.int .i64 0), (.int .i64 0), (.int .i64 0), (.int .i64 0), (.sl .nil 0 []), (.int .u64 0), (.int .u64 0), (.int .u64 0), (.int .u64 0), (.sl .nil 0 [])]) r46 1 0)) fun r47 =>
 bindO (cellsV r47) fun r48 =>
 (List.length r48) = 1 ∧
 9 < (List.length (List.set (bget bs36 3) 9 (demote r42))) ∧
 bindO (binV none .add (demote (vget vs35 2)) (.d (.int .i64 1))) fun r49 =>
 (I37 [(vget vs35 0), (vget vs35 1), (demote r49)] [(Box.vals (Box.cells (bget bs36 0))), (Box.vals (Box.cells (bget bs36 1))), (Box.vals (Box.cells (bget bs36 2))), (Box.vals (Box.cells (setAt (List.set (bget bs36 3) 9 (demote r42)) 9 r48)))]))
 (bindO (partV true 10 0 (bget bs36 3)) fun r50 =>
 bindO (cellsV (demote (demote r50))) fun r51 =>
 (List.length r51) = 10 ∧
 10 ≤ (List.length (bget bs36 2)) ∧
 bindO (partV true 10 0 (setAt (bget bs36 2) 0 r51)) fun r52 =>
 (SV.noRef (demote r52)) = true ∧
 (K (demote r52))))
 [(demote r33), r34, (.d (.int .i64 0))] [(Box.vals (Box.cells r0)), (Box.vals (Box.cells r1)), [(.d (.int .i64 0)), (.d (.int .i64 0)), (.d (.int .i64 0)), (.d (.int .i64 0)), (.d (.sl .nil 0 [])), (.d (.int .u64 0)), (.d (.int .u64 0)), (.d (.int .u64 0)), (.d (.int .u64 0)), (.d (.sl .nil 0 []))], (Box.vals (Box.cells (setAt [(.d (.int .i64 0)), (.d (.int .i64 0)), (.d (.int .i64 0)), (.d (.int .i64 0)), (.d (.sl .nil 0 [])), (.d (.int .u64 0)), (.d (.int .u64 0)), (.d (.int .u64 0)), (.d (.int .u64 0)), (.d (.sl .nil 0 []))] 0 r32)))]))) := by kernel_rfl

theorem body42 (C : Con) (x0 x1 x2 : SV) (K : SV → Prop) : body Go.Proofs.Tryz.prog gl C h42 42 [x0, x1, x2] K = (
 wfP [x0, x1, x2] (
 bindO (cellsV (demote x0)) fun r0 =>
 (List.length r0) = 10 ∧
 bindO (cellsV (demote x1)) fun r1 =>
 (List.length r1) = 17 ∧
 bindO (partV true 10 0 r0) fun r2 =>
 callP C 68 [(demote (demote (demote r2))), (.d (.bool true)), (demote (demote (demote x2)))] fun r3 =>
 bindO (binV (some (false, [.int])) .neq (demote (demote (demote r3))) (.d (.int .i64 0))) fun r4 =>
 ifP r4
 (bindO (partsS []) fun r5 =>
 bindO (buildD Proofs.Tryz.prog 28 r5) fun r6 =>
 bindO (cellsV (.d r6)) fun r7 =>
 (List.length r7) = 10 ∧
 10 ≤ 10 ∧
 bindO (partV true 10 0 (setAt [(.d (.int .i64 0)), (.d (.int .i64 0)), (.d (.int .i64 0)), (.d (.int .i64 0)), (.d (.sl .nil 0 [])), (.d (.int .u64 0)), (.d (.int .u64 0)), (.d (.int .u64 0)), (.d (.int .u64 0)), (.d (.sl .nil 0 []))] 0 r7)) fun r8 =>
 (SV.noRef (demote r8)) = true ∧
 (SV.noRef (demote (demote (demote r3)))) = true ∧
 (K (.tup [(demote r8), (demote (demote (demote r3)))])))
 (bindO (partV false 1 0 r0) fun r9 =>
 bindO (partV false 1 1 r0) fun r10 =>
 bindO (partV false 1 2 r0) fun r11 =>
 bindO (partV false 1 3 r0) fun r12 =>
 bindO (partsS [(0, (.v (demote (demote r9)))), (1, (.v (demote (demote r10)))), (2, (.v (demote (demote r11)))), (3, (.v (demote (demote r12))))]) fun r13 =>
 bindO (buildD Proofs.Tryz.prog 28 r13) fun r14 =>
 bindO (cellsV (.d r14)) fun r15 =>
 (List.length r15) = 10 ∧
 10 ≤ 10 ∧
 loopP (fun vs16 bs17 I18 =>
 bindO (partV false 1 4 (bget bs17 0)) fun r19 =>
 bindO (lenL (demote (demote r19))) fun r20 =>
 bindO (binV none .lss (demote (demote (vget vs16 1))) (demote r20)) fun r21 =>
 ifP r21
 (bindO (partV true 17 0 (bget bs17 1)) fun r22 =>
 bindO (partV false 1 1 (bget bs17 0)) fun r23 =>
 bindO (partV false 1 4 (bget bs17 0)) fun r24 =>
 bindO (elemPtr 1 (demote (demote r24)) (demote (demote (vget vs16 1)))) fun r25 =>
 bindO (loadV false 1 (demote r25)) fun r26 =>
 ∃ r27,
 ∃ r28,
 (C 79 [(demote (demote (demote r22))), (demote (demote (demote r23))), (demote (demote r26))] (.tup [r27, r28])) ∧
 bindO (cellsV (demote (demote (demote r27)))) fun r29 =>
 (List.length r29) = 4 ∧
 4 ≤ 4 ∧
 bindO (unV .not (demote (demote (demote (demote (demote r28)))))) fun r30 =>
 ifP r30
 (bindO (partsS []) fun r31 =>
 bindO (buildD Proofs.Tryz.prog 28 r31) fun r32 =>
 bindO (cellsV (.d r32)) fun r33 =>
 (List.length r33) = 10 ∧
 10 ≤ (List.length (bget bs17 2)) ∧
 bindO (partV true 10 0 (setAt (bget bs17 2) 0 r33)) fun r34 =>
 (SV.noRef (demote r34)) = true ∧
 (SV.noRef (.d (.int .i64 11))) = true ∧
 (K (.tup [(demote r34), (.d (.int .i64 11))])))
 (bindO (partV true 4 5 (bget bs17 3)) fun r35 =>
 bindO (partV true 4 0 (setAt [(.d (.int .u64 0)), (.d (.int .u64 0)), (.d (.int .u64 0)), (.d (.int .u64 0))] 0 r29)) fun r36 =>
 callP C 80 [(demote (demote (demote r35))), (demote (demote (demote r36)))] fun r37 =>
 bindO (cellsV (demote r37)) fun r38 =>
 (List.length r38) = 4 ∧
 9 ≤ (List.length (bget bs17 3)) ∧
 bindO (binV none .add (demote (demote (vget vs16 1))) (.d (.int .i64 1))) fun r39 =>
 (I18 [(vget vs16 0), (demote r39)] [(Box.vals (Box.cells (bget bs17 0))), (Box.vals (Box.cells (bget bs17 1))), (Box.vals (Box.cells (bget bs17 2))), (Box.vals (Box.cells (setAt (bget bs17 3) 5 r38)))])))
 (bindO (partV false 1 0 (bget bs17 0)) fun r40 =>
 bindO (binV (some (false, [.int])) .eql (demote (demote r40)) (.d (.int .i64 9))) fun r41 =>
 ifP (demote r41)
 (bindO (partV true 4 5 (bget bs17 3)) fun r42 =>
 callP C 72 [(demote (demote (demote r42)))] fun r43 =>
 bindO (binV (some (false, [.int])) .eql (demote r43) (.d (.int .i64 0))) fun r44 =>
 ifP (demote r44)
 (bindO (partV false 1 1 (bget bs17 0)) fun r45 =>
 bindO (partV false 1 1 (bget bs17 0)) fun r46 =>
 bindO (partsS [(0, (.v (.d (.int .i64 8)))), (1, (.v (demote (demote r45)))), (2, (.v (.d (.int .i64 1)))), (3, (.v (demote (demote r46))))]) fun r47 =>
 bindO (buildD Proofs.Tryz.prog 28 r47) fun r48 =>
 bindO (cellsV (.d r48)) fun r49 =>
 (List.length r49) = 10 ∧
 10 ≤ (List.length (bget bs17 3)) ∧
 loopP (fun vs50 bs51 I52 =>
 bindO (partV false 1 9 (bget bs51 0)) fun r53 =>
 bindO (lenL (demote (demote r53))) fun r54 =>
 bindO (binV none .lss (demote (demote (vget vs50 1))) (demote r54)) fun r55 =>
 ifP r55
 (bindO (partV false 1 9 (bget bs51 0)) fun r56 =>
 bindO (elemPtr 10 (demote (demote r56)) (demote (demote (vget vs50 1)))) fun r57 =>
 bindO (loadV true 10 (demote r57)) fun r58 =>
 bindO (partV true 17 0 (bget bs51 1)) fun r59 =>
 ∃ r60,
 ∃ r61,
 (C 42 [(demote (demote r58)), (demote (demote (demote r59))), (demote (demote (demote (vget vs50 0))))] (.tup [r60, r61])) ∧
 bindO (cellsV (demote (demote (demote r60)))) fun r62 =>
 (List.length r62) = 10 ∧
 10 ≤ 10 ∧
 bindO (binV (some (false, [.int])) .neq (demote (demote (demote (demote (demote r61))))) (.d (.int .i64 0))) fun r63 =>
 ifP r63
 (bindO (partsS []) fun r64 =>
 bindO (buildD Proofs.Tryz.prog 28 r64) fun r65 =>
 bindO (cellsV (.d r65)) fun r66 =>
 (List.length r66) = 10 ∧
 10 ≤ (List.length (bget bs51 2)) ∧
 bindO (partV true 10 0 (setAt (bget bs51 2) 0 r66)) fun r67 =>
 (SV.noRef (demote r67)) = true ∧
 (SV.noRef (demote (demote (demote (demote (demote r61)))))) = true ∧
 (K (.tup [(demote r67), (demote (demote (demote (demote (demote r61)))))])))
 (bindO ((bget bs51 3)[9]?) fun r68 =>
 bindO (partV true 10 0 (setAt [(.d (.int .i64 0)), (.d (.int .i64 0)), (.d (.int .i64 0)), (.d (.int .i64 0)), (.d (.sl .nil 0 [])), (.d (.int .u64 0)), (.d (.int .u64 0)), (.d (.int .u64 0)), (.d (.int .u64 0)), (.d (.sl .nil 0 []))] 0 r62)) fun r69 =>
 bindO (partsS [(0, (.v (demote (demote r69))))]) fun r70 =>
 (partsFit 10 1 r70) = true ∧
 appP 10 112 r68 (.full 10 (buildElems (mkElem true [(.int .i64 0), (.int .i64 0), (.int .i64 0), (.int .i64 0), (.sl .nil 0 []), (.int .u64 0), (.int .u64 0), (.int .u64 0), (.int .u64 0), (.sl .nil 0 [])]) r70 1 0)) fun r71 =>
 bindO (cellsV r71) fun r72 =>
 (List.length r72) = 1 ∧
 9 < (List.length (List.set (bget bs51 3) 9 (demote r68))) ∧
 bindO (binV none .add (demote (demote (vget vs50 1))) (.d (.int .i64 1))) fun r73 =>
 (I52 [(vget vs50 0), (demote r73)] [(Box.vals (Box.cells (bget bs51 0))), (Box.vals (Box.cells (bget bs51 1))), (Box.vals (Box.cells (bget bs51 2))), (Box.vals (Box.cells (setAt (List.set (bget bs51 3) 9 (demote r68)) 9 r72)))])))
 (bindO (partV true 10 0 (bget bs51 3)) fun r74 =>
 bindO (cellsV (demote (demote r74))) fun r75 =>
 (List.length r75) = 10 ∧
 10 ≤ (List.length (bget bs51 2)) ∧
 bindO (partV true 10 0 (setAt (bget bs51 2) 0 r75)) fun r76 =>
 (SV.noRef (demote r76)) = true ∧
 (SV.noRef (.d (.int .i64 0))) = true ∧
 (K (.tup [(demote r76), (.d (.int .i64 0))]))))
 [(vget vs16 0), (.d (.int .i64 0))] [(Box.vals (Box.cells (bget bs17 0))), (Box.vals (Box.cells (bget bs17 1))), (Box.vals (Box.cells (bget bs17 2))), (Box.vals (Box.cells (setAt (bget bs17 3) 0 r49)))])
 (loopP (fun vs77 bs78 I79 =>
 bindO (partV false 1 9 (bget bs78 0)) fun r80 =>
 bindO (lenL (demote (demote r80))) fun r81 =>
 bindO (binV none .lss (demote (demote (vget vs77 1))) (demote r81)) fun r82 =>
 ifP r82
 (bindO (partV false 1 9 (bget bs78 0)) fun r83 =>
 bindO (elemPtr 10 (demote (demote r83)) (demote (demote (vget vs77 1)))) fun r84 =>
 bindO (loadV true 10 (demote r84)) fun r85 =>
 bindO (partV true 17 0 (bget bs78 1)) fun r86 =>
 ∃ r87,
 ∃ r88,
 (C 42 [(demote (demote r85)), (demote (demote (demote r86))), (demote (demote (demote (vget vs77 0))))] (.tup [r87, r88])) ∧
 bindO (cellsV (demote (demote (demote r87)))) fun r89 =>
 (List.length r89) = 10 ∧
 10 ≤ 10 ∧
 bindO (binV (some (false, [.int])) .neq (demote (demote (demote (demote (demote r88))))) (.d (.int .i64 0))) fun r90 =>
 ifP r90
 (bindO (partsS []) fun r91 =>
 bindO (buildD Proofs.Tryz.prog 28 r91) fun r92 =>
 bindO (cellsV (.d r92)) fun r93 =>
 (List.length r93) = 10 ∧
 10 ≤ (List.length (bget bs78 2)) ∧
 bindO (partV true 10 0 (setAt (bget bs78 2) 0 r93)) fun r94 =>
 (SV.noRef (demote r94)) = true ∧
 (SV.noRef (demote (demote (demote (demote (demote r88)))))) = true ∧
 (K (.tup [(demote r94), (demote (demote (demote (demote (demote r88)))))])))
 (bindO ((bget bs78 3)[9]?) fun r95 =>
 bindO (partV true 10 0 (setAt [(.d (.int .i64 0)), (.d (.int .i64 0)), (.d (.int .i64 0)), (.d (.int .i64 0)), (.d (.sl .nil 0 [])), (.d (.int .u64 0)), (.d (.int .u64 0)), (.d (.int .u64 0)), (.d (.int .u64 0)), (.d (.sl .nil 0 []))] 0 r89)) fun r96 =>
 bindO (partsS [(0, (.v (demote (demote r96))))]) fun r97 =>
 (partsFit 10 1 r97) = true ∧
 appP 10 112 r95 (.full 10 (buildElems (mkElem true [(.int .i64 0), (.int .i64 0), (.int .i64 0), (.int .i64 0), (.sl .nil 0 []), (.int .u64 0), (.int .u64 0), (.int .u64 0), (.int .u64 0), (.sl .nil 0 [])]) r97 1 0)) fun r98 =>
 bindO (cellsV r98) fun r99 =>
 (List.length r99) = 1 ∧
 9 < (List.length (List.set (bget bs78 3) 9 (demote r95))) ∧
 bindO (binV none .add (demote (demote (vget vs77 1))) (.d (.int .i64 1))) fun r100 =>
 (I79 [(vget vs77 0), (demote r100)] [(Box.vals (Box.cells (bget bs78 0))), (Box.vals (Box.cells (bget bs78 1))), (Box.vals (Box.cells (bget bs78 2))), (Box.vals (Box.cells (setAt (List.set (bget bs78 3) 9 (demote r95)) 9 r99)))])))
 (bindO (partV true 10 0 (bget bs78 3)) fun r101 =>
 bindO (cellsV (demote (demote r101))) fun r102 =>
 (List.length r102) = 10 ∧
 10 ≤ (List.length (bget bs78 2)) ∧
 bindO (partV true 10 0 (setAt (bget bs78 2) 0 r102)) fun r103 =>
 (SV.noRef (demote r103)) = true ∧
 (SV.noRef (.d (.int .i64 0))) = true ∧
 (K (.tup [(demote r103), (.d (.int .i64 0))]))))
 [(vget vs16 0), (.d (.int .i64 0))] [(Box.vals (Box.cells (bget bs17 0))), (Box.vals (Box.cells (bget bs17 1))), (Box.vals (Box.cells (bget bs17 2))), (Box.vals (Box.cells (bget bs17 3)))]))
 (loopP (fun vs104 bs105 I106 =>
 bindO (partV false 1 9 (bget bs105 0)) fun r107 =>
 bindO (lenL (demote (demote r107))) fun r108 =>
 bindO (binV none .lss (demote (demote (vget vs104 1))) (demote r108)) fun r109 =>
 ifP r109
 (bindO (partV false 1 9 (bget bs105 0)) fun r110 =>
 bindO (elemPtr 10 (demote (demote r110)) (demote (demote (vget vs104 1)))) fun r111 =>
 bindO (loadV true 10 (demote r111)) fun r112 =>
 bindO (partV true 17 0 (bget bs105 1)) fun r113 =>
 ∃ r114,
 ∃ r115,
 (C 42 [(demote (demote r112)), (demote (demote (demote r113))), (demote (demote (demote (vget vs104 0))))] (.tup [r114, r115])) ∧
 bindO (cellsV (demote (demote (demote r114)))) fun r116 =>
 (List.length r116) = 10 ∧
 10 ≤ 10 ∧
 bindO (binV (some (false, [.int])) .neq (demote (demote (demote (demote (demote r115))))) (.d (.int .i64 0))) fun r117 =>
 ifP r117
 (bindO (partsS []) fun r118 =>
 bindO (buildD Proofs.Tryz.prog 28 r118) fun r119 =>
 bindO (cellsV (.d r119)) fun r120 =>
 (List.length r120) = 10 ∧
 10 ≤ (List.length (bget bs105 2)) ∧
 bindO (partV true 10 0 (setAt (bget bs105 2) 0 r120)) fun r121 =>
 (SV.noRef (demote r121)) = true ∧
 (SV.noRef (demote (demote (demote (demote (demote r115)))))) = true ∧
 (K (.tup [(demote r121), (demote (demote (demote (demote (demote r115)))))])))
 (bindO ((bget bs105 3)[9]?) fun r122 =>
 bindO (partV true 10 0 (setAt [(.d (.int .i64 0)), (.d (.int .i64 0)), (.d (.int .i64 0)), (.d (.int .i64 0)), (.d (.sl .nil 0 [])), (.d (.int .u64 0)), (.d (.int .u64 0)), (.d (.int .u64 0)), (.d (.int .u64 0)), (.d (.sl .nil 0 []))] 0 r116)) fun r123 =>
 bindO (partsS [(0, (.v (demote (demote r123))))]) fun r124 =>
 (partsFit 10 1 r124) = true ∧
 appP 10 112 r122 (.full 10 (buildElems (mkElem true [(.int .i64 0), (.int .i64 0), (.int .i64 0), (.int .i64 0), (.sl .nil 0 []), (.int .u64 0), (.int .u64 0), (.int .u64 0), (.int .u64 0), (.sl .nil 0 [])]) r124 1 0)) fun r125 =>
 bindO (cellsV r125) fun r126 =>
 (List.length r126) = 1 ∧
 9 < (List.length (List.set (bget bs105 3) 9 (demote r122))) ∧
 bindO (binV none .add (demote (demote (vget vs104 1))) (.d (.int .i64 1))) fun r127 =>
 (I106 [(vget vs104 0), (demote r127)] [(Box.vals (Box.cells (bget bs105 0))), (Box.vals (Box.cells (bget bs105 1))), (Box.vals (Box.cells (bget bs105 2))), (Box.vals (Box.cells (setAt (List.set (bget bs105 3) 9 (demote r122)) 9 r126)))])))
 (bindO (partV true 10 0 (bget bs105 3)) fun r128 =>
 bindO (cellsV (demote (demote r128))) fun r129 =>
 (List.length r129) = 10 ∧
 10 ≤ (List.length (bget bs105 2)) ∧
 bindO (partV true 10 0 (setAt (bget bs105 2) 0 r129)) fun r130 =>
 (SV.noRef (demote r130)) = true ∧
 (SV.noRef (.d (.int .i64 0))) = true ∧
 (K (.tup [(demote r130), (.d (.int .i64 0))]))))
 [(vget vs16 0), (.d (.int .i64 0))] [(Box.vals (Box.cells (bget bs17 0))), (Box.vals (Box.cells (bget bs17 1))), (Box.vals (Box.cells (bget bs17 2))), (Box.vals (Box.cells (bget bs17 3)))])))
 [x2, (.d (.int .i64 0))] [(Box.vals (Box.cells r0)), (Box.vals (Box.cells r1)), [(.d (.int .i64 0)), (.d (.int .i64 0)), (.d (.int .i64 0)), (.d (.int .i64 0)), (.d (.sl .nil 0 [])), (.d (.int .u64 0)), (.d (.int .u64 0)), (.d (.int .u64 0)), (.d (.int .u64 0)), (.d (.sl .nil 0 []))], (Box.vals (Box.cells (setAt [(.d (.int .i64 0)), (.d (.int .i64 0)), (.d (.int .i64 0)), (.d (.int .i64 0)), (.d (.sl .nil 0 [])), (.d (.int .u64 0)), (.d (.int .u64 0)), (.d (.int .u64 0)), (.d (.int .u64 0)), (.d (.sl .nil 0 []))] 0 r15)))]))) := by kernel_rfl

theorem body43 (C : Con) (x0 x1 : SV) (K : SV → Prop) : body Go.Proofs.Tryz.prog gl C h43 43 [x0, x1] K = (
 wfP [x0, x1] (
 bindO (lenL (demote (demote x0))) fun r0 =>
 bindO (lenL (demote (demote x1))) fun r1 =>
 bindO (binV (some (false, [.int])) .neq (demote r0) (demote r1)) fun r2 =>
 ifP r2
 ((SV.noRef (.d (.bool false))) = true ∧
 (K (.d (.bool false))))
 (loopP (fun vs3 bs4 I5 =>
 bindO (lenL (demote (demote (vget vs3 0)))) fun r6 =>
 bindO (binV none .lss (demote (demote (vget vs3 2))) (demote r6)) fun r7 =>
 ifP r7
 (bindO (elemPtr 1 (demote (demote (vget vs3 0))) (demote (demote (vget vs3 2)))) fun r8 =>
 bindO (loadV false 1 (demote r8)) fun r9 =>
 bindO (elemPtr 1 (demote (demote (vget vs3 1))) (demote (demote (vget vs3 2)))) fun r10 =>
 bindO (loadV false 1 (demote r10)) fun r11 =>
 bindO (binV (some (false, [.str])) .neq (demote r9) (demote r11)) fun r12 =>
 ifP r12
 ((SV.noRef (.d (.bool false))) = true ∧
 (K (.d (.bool false))))
 (bindO (binV none .add (demote (demote (vget vs3 2))) (.d (.int .i64 1))) fun r13 =>
 (I5 [(vget vs3 0), (vget vs3 1), (demote r13)] [])))
 ((SV.noRef (.d (.bool true))) = true ∧
 (K (.d (.bool true)))))
 [x0, x1, (.d (.int .i64 0))] []))) := by kernel_rfl

theorem body44 (C : Con) (x0 : SV) (K : SV → Prop) : body Go.Proofs.Tryz.prog gl C h44 44 [x0] K = (
 wfP [x0] (
 bindO (cellsV (demote x0)) fun r0 =>
 (List.length r0) = 10 ∧
 bindO (partV true 10 0 r0) fun r1 =>
 callP C 38 [(demote (demote (demote r1))), (.d (.bool false))] fun r2 =>
 bindO (binV (some (false, [.int])) .neq (demote (demote (demote r2))) (.d (.int .i64 0))) fun r3 =>
 ifP r3
 ((SV.noRef (demote (demote (demote r2)))) = true ∧
 (K (demote (demote (demote r2)))))
 (bindO (partV true 10 0 r0) fun r4 =>
 callP C 39 [(demote (demote (demote r4))), (.d (.int .i64 15))] fun r5 =>
 (SV.noRef (demote r5)) = true ∧
 (K (demote r5))))) := by kernel_rfl

theorem body45 (C : Con) (x0 x1 : SV) (K : SV → Prop) : body Go.Proofs.Tryz.prog gl C h45 45 [x0, x1] K = (
 wfP [x0, x1] (
 bindO (cellsV (demote x0)) fun r0 =>
 (List.length r0) = 10 ∧
 bindO (cellsV (demote x1)) fun r1 =>
 (List.length r1) = 21 ∧
 bindO (partV false 1 0 r0) fun r2 =>
 bindO (binV (some (false, [.int])) .eql (demote (demote r2)) (.d (.int .i64 2))) fun r3 =>
 ifP (demote r3)
 (bindO (partV false 1 9 r0) fun r4 =>
 bindO (elemPtr 10 (demote (demote r4)) (.d (.int .i64 0))) fun r5 =>
 bindO (loadV true 10 (demote r5)) fun r6 =>
 bindO (partV true 21 0 r1) fun r7 =>
 callP C 45 [(demote (demote r6)), (demote (demote (demote r7)))] fun r8 =>
 bindO (unV .not (demote r8)) fun r9 =>
 (SV.noRef (demote r9)) = true ∧
 (K (demote r9)))
 (bindO (binV (some (false, [.int])) .eql (demote (demote r2)) (.d (.int .i64 3))) fun r10 =>
 ifP (demote r10)
 (bindO (partV false 1 9 r0) fun r11 =>
 bindO (elemPtr 10 (demote (demote r11)) (.d (.int .i64 0))) fun r12 =>
 bindO (loadV true 10 (demote r12)) fun r13 =>
 bindO (partV true 21 0 r1) fun r14 =>
 callP C 45 [(demote (demote r13)), (demote (demote (demote r14)))] fun r15 =>
 ifP (demote r15)
 (bindO (partV false 1 9 r0) fun r16 =>
 bindO (elemPtr 10 (demote (demote r16)) (.d (.int .i64 1))) fun r17 =>
 bindO (loadV true 10 (demote r17)) fun r18 =>
 bindO (partV true 21 0 r1) fun r19 =>
 callP C 45 [(demote (demote r18)), (demote (demote (demote r19)))] fun r20 =>
 (SV.noRef (demote (demote r20))) = true ∧
 (K (demote (demote r20))))
 ((SV.noRef (.d (.bool false))) = true ∧
 (K (.d (.bool false)))))
 (bindO (binV (some (false, [.int])) .eql (demote (demote r2)) (.d (.int .i64 4))) fun r21 =>
 ifP (demote r21)
 (bindO (partV false 1 9 r0) fun r22 =>
 bindO (elemPtr 10 (demote (demote r22)) (.d (.int .i64 0))) fun r23 =>
 bindO (loadV true 10 (demote r23)) fun r24 =>
 bindO (partV true 21 0 r1) fun r25 =>
 callP C 45 [(demote (demote r24)), (demote (demote (demote r25)))] fun r26 =>
 ifP (demote r26)
 ((SV.noRef (.d (.bool true))) = true ∧
 (K (.d (.bool true))))
 (bindO (partV false 1 9 r0) fun r27 =>
 bindO (elemPtr 10 (demote (demote r27)) (.d (.int .i64 1))) fun r28 =>
 bindO (loadV true 10 (demote r28)) fun r29 =>
 bindO (partV true 21 0 r1) fun r30 =>
 callP C 45 [(demote (demote r29)), (demote (demote (demote r30)))] fun r31 =>
 (SV.noRef (demote (demote r31))) = true ∧
 (K (demote (demote r31)))))
 (bindO (binV (some (false, [.int])) .eql (demote (demote r2)) (.d (.int .i64 9))) fun r32 =>
 ifP (demote r32)
 (bindO (partV true 4 5 r0) fun r33 =>
 bindO (partV false 1 1 r0) fun r34 =>
 callP C 82 [(demote (demote (demote r34)))] fun r35 =>
 bindO (partV true 21 0 r1) fun r36 =>
 bindO (partV false 1 1 r0) fun r37 =>
 callP C 83 [(demote (demote (demote r36))), (demote (demote (demote r37)))] fun r38 =>
 bindO (methV Proofs.Tryz.prog (demote (demote r35)) "accesscontrol/constraint.number") fun r39 =>
 withMeth Proofs.Tryz.prog (demote (demote r35)) "accesscontrol/constraint.number" [(demote (demote r38))] fun f40 l41 =>
 callP C f40 l41 fun r42 =>
 callP C 81 [(demote (demote (demote r33))), (demote (demote r42))] fun r43 =>
 (SV.noRef (demote r43)) = true ∧
 (K (demote r43)))
 (bindO (partV true 10 0 r0) fun r44 =>
 bindO (partV true 21 0 r1) fun r45 =>
 callP C 84 [(demote (demote (demote r44))), (demote (demote (demote r45)))] fun r46 =>
 (SV.noRef (demote r46)) = true ∧
 (K (demote r46)))))))) := by kernel_rfl

theorem body46 (C : Con) (x0 x1 : SV) (K : SV → Prop) : body Go.Proofs.Tryz.prog gl C h46 46 [x0, x1] K = (
 wfP [x0, x1] (
 bindO (cellsV (demote x0)) fun r0 =>
 (List.length r0) = 10 ∧
 bindO (cellsV (demote x1)) fun r1 =>
 (List.length r1) = 21 ∧
 bindO (partV true 10 0 r0) fun r2 =>
 callP C 85 [(demote (demote (demote r2))), (.d (.int .i64 12))] fun r3 =>
 ifP (demote r3)
 (bindO (partV true 10 0 r0) fun r4 =>
 bindO (partV true 21 0 r1) fun r5 =>
 callP C 86 [(demote (demote (demote r4))), (demote (demote (demote r5)))] fun r6 =>
 (SV.noRef (demote (demote r6))) = true ∧
 (K (demote (demote r6))))
 ((SV.noRef (.d (.bool false))) = true ∧
 (K (.d (.bool false)))))) := by kernel_rfl

theorem body47 (C : Con) (x0 x1 : SV) (K : SV → Prop) : body Go.Proofs.Tryz.prog gl C h47 47 [x0, x1] K = (
 wfP [x0, x1] (
 bindO (cellsV (demote x0)) fun r0 =>
 (List.length r0) = 10 ∧
 bindO (cellsV (demote x1)) fun r1 =>
 (List.length r1) = 17 ∧
 bindO (partV false 1 0 r0) fun r2 =>
 bindO (partV false 1 1 r0) fun r3 =>
 bindO (partV false 1 2 r0) fun r4 =>
 bindO (partV false 1 3 r0) fun r5 =>
 bindO (partsS [(0, (.v (demote (demote r2)))), (1, (.v (demote (demote r3)))), (2, (.v (demote (demote r4)))), (3, (.v (demote (demote r5))))]) fun r6 =>
 bindO (buildD Proofs.Tryz.prog 28 r6) fun r7 =>
 bindO (cellsV (.d r7)) fun r8 =>
 (List.length r8) = 10 ∧
 10 ≤ 10 ∧
 bindO (partV false 1 0 r0) fun r9 =>
 bindO (binV (some (false, [.int])) .eql (demote (demote r9)) (.d (.int .i64 9))) fun r10 =>
 ifP r10
 (bindO (partV true 17 0 r1) fun r11 =>
 bindO (partV false 1 1 r0) fun r12 =>
 bindO (partV true 4 5 r0) fun r13 =>
 callP C 87 [(demote (demote (demote r11))), (demote (demote (demote r12))), (demote (demote (demote r13)))] fun r14 =>
 bindO (cellsV r14) fun r15 =>
 (List.length r15) = 1 ∧
 4 < (List.length (setAt [(.d (.int .i64 0)), (.d (.int .i64 0)), (.d (.int .i64 0)), (.d (.int .i64 0)), (.d (.sl .nil 0 [])), (.d (.int .u64 0)), (.d (.int .u64 0)), (.d (.int .u64 0)), (.d (.int .u64 0)), (.d (.sl .nil 0 []))] 0 r8)) ∧
 bindO (partV false 1 9 r0) fun r16 =>
 bindO (lenL (demote (demote r16))) fun r17 =>
 loopP (fun vs18 bs19 I20 =>
 bindO (binV none .lss (demote (vget vs18 2)) (demote (vget vs18 1))) fun r21 =>
 ifP r21
 (bindO (elemPtr 10 (demote (vget vs18 0)) (demote (vget vs18 2))) fun r22 =>
 bindO (loadV true 10 (demote r22)) fun r23 =>
 bindO (cellsV (demote r23)) fun r24 =>
 (List.length r24) = 10 ∧
 10 ≤ 10 ∧
 bindO ((bget bs19 3)[9]?) fun r25 =>
 bindO (partV true 10 0 (setAt [(.d (.int .i64 0)), (.d (.int .i64 0)), (.d (.int .i64 0)), (.d (.int .i64 0)), (.d (.sl .nil 0 [])), (.d (.int .u64 0)), (.d (.int .u64 0)), (.d (.int .u64 0)), (.d (.int .u64 0)), (.d (.sl .nil 0 []))] 0 r24)) fun r26 =>
 bindO (partV true 17 0 (bget bs19 1)) fun r27 =>
 callP C 47 [(demote (demote (demote r26))), (demote (demote (demote r27)))] fun r28 =>
 bindO (partsS [(0, (.v (demote r28)))]) fun r29 =>
 (partsFit 10 1 r29) = true ∧
 appP 10 112 r25 (.full 10 (buildElems (mkElem true [(.int .i64 0), (.int .i64 0), (.int .i64 0), (.int .i64 0), (.sl .nil 0 []), (.int .u64 0), (.int .u64 0), (.int .u64 0), (.int .u64 0), (.sl .nil 0 [])]) r29 1 0)) fun r30 =>
 bindO (cellsV r30) fun r31 =>
 (List.length r31) = 1 ∧
 9 < (List.length (List.set (bget bs19 3) 9 (demote r25))) ∧
 bindO (binV none .add (demote (vget vs18 2)) (.d (.int .i64 1))) fun r32 =>
 (I20 [(vget vs18 0), (vget vs18 1), (demote r32)] [(Box.vals (Box.cells (bget bs19 0))), (Box.vals (Box.cells (bget bs19 1))), (Box.vals (Box.cells (bget bs19 2))), (Box.vals (Box.cells (setAt (List.set (bget bs19 3) 9 (demote r25)) 9 r31)))]))
 (bindO (partV true 10 0 (bget bs19 3)) fun r33 =>
 bindO (cellsV (demote (demote r33))) fun r34 =>
 (List.length r34) = 10 ∧
 10 ≤ (List.length (bget bs19 2)) ∧
 bindO (partV true 10 0 (setAt (bget bs19 2) 0 r34)) fun r35 =>
 (SV.noRef (demote r35)) = true ∧
 (K (demote r35))))
 [(demote r16), r17, (.d (.int .i64 0))] [(Box.vals (Box.cells r0)), (Box.vals (Box.cells r1)), [(.d (.int .i64 0)), (.d (.int .i64 0)), (.d (.int .i64 0)), (.d (.int .i64 0)), (.d (.sl .nil 0 [])), (.d (.int .u64 0)), (.d (.int .u64 0)), (.d (.int .u64 0)), (.d (.int .u64 0)), (.d (.sl .nil 0 []))], (Box.vals (Box.cells (setAt (setAt [(.d (.int .i64 0)), (.d (.int .i64 0)), (.d (.int .i64 0)), (.d (.int .i64 0)), (.d (.sl .nil 0 [])), (.d (.int .u64 0)), (.d (.int .u64 0)), (.d (.int .u64 0)), (.d (.int .u64 0)), (.d (.sl .nil 0 []))] 0 r8) 4 r15)))])
 (bindO (partV false 1 9 r0) fun r36 =>
 bindO (lenL (demote (demote r36))) fun r37 =>
 loopP (fun vs38 bs39 I40 =>
 bindO (binV none .lss (demote (vget vs38 2)) (demote (vget vs38 1))) fun r41 =>
 ifP r41
 (bindO (elemPtr 10 (demote (vget vs38 0)) (demote (vget vs38 2))) fun r42 =>
 bindO (loadV true 10 (demote r42)) fun r43 =>
 bindO (cellsV (demote r43)) fun r44 =>
 (List.length r44) = 10 ∧
 10 ≤ 10 ∧
 bindO ((bget bs39 3)[9]?) fun r45 =>
 bindO (partV true 10 0 (setAt [(.d (.int .i64 0)), (.d (.int .i64 0)), (.d (.int .i64 0)), (.d (.int .i64 0)), (.d (.sl .nil 0 [])), (.d (.int .u64 0)), (.d (.int .u64 0)), (.d (.int .u64 0)), (.d (.int .u64 0)), (.d (.sl .nil 0 []))] 0 r44)) fun r46 =>
 bindO (partV true 17 0 (bget bs39 1)) fun r47 =>
 callP C 47 [(demote (demote (demote r46))), (demote (demote (demote r47)))] fun r48 =>
 bindO (partsS [(0, (.v (demote r48)))]) fun r49 =>
 (partsFit 10 1 r49) = true ∧
 appP 10 112 r45 (.full 10 (buildElems (mkElem true [(.int .i64 0), (.int .i64 0), (.int .i64 0), (.int .i64 0), (.sl .nil 0 []), (.int .u64 0), (.int .u64 0), (.int .u64 0), (.int .u64 0), (.sl .nil 0 [])]) r49 1 0)) fun r50 =>
 bindO (cellsV r50) fun r51 =>
 (List.length r51) = 1 ∧
 9 < (List.length (List.set (bget bs39 3) 9 (demote r45))) ∧
 bindO (binV none .add (demote (vget vs38 2)) (.d (.int .i64 1))) fun r52 =>
 (I40 [(vget vs38 0), (vget vs38 1), (demote r52)] [(Box.vals (Box.cells (bget bs39 0))), (Box.vals (Box.cells (bget bs39 1))), (Box.vals (Box.cells (bget bs39 2))), (Box.vals (Box.cells (setAt (List.set (bget bs39 3) 9 (demote r45)) 9 r51)))]))
 (bindO (partV true 10 0 (bget bs39 3)) fun r53 =>
 bindO (cellsV (demote (demote r53))) fun r54 =>
 (List.length r54) = 10 ∧
 10 ≤ (List.length (bget bs39 2)) ∧
 bindO (partV true 10 0 (setAt (bget bs39 2) 0 r54)) fun r55 =>
 (SV.noRef (demote r55)) = true ∧
 (K (demote r55))))
 [(demote r36), r37, (.d (.int .i64 0))] [(Box.vals (Box.cells r0)), (Box.vals (Box.cells r1)), [(.d (.int .i64 0)), (.d (.int .i64 0)), (.d (.int .i64 0)), (.d (.int .i64 0)), (.d (.sl .nil 0 [])), (.d (.int .u64 0)), (.d (.int .u64 0)), (.d (.int .u64 0)), (.d (.int .u64 0)), (.d (.sl .nil 0 []))], (Box.vals (Box.cells (setAt [(.d (.int .i64 0)), (.d (.int .i64 0)), (.d (.int .i64 0)), (.d (.int .i64 0)), (.d (.sl .nil 0 [])), (.d (.int .u64 0)), (.d (.int .u64 0)), (.d (.int .u64 0)), (.d (.int .u64 0)), (.d (.sl .nil 0 []))] 0 r8)))]))) := by kernel_rfl

theorem body48 (C : Con) (x0 x1 : SV) (K : SV → Prop) : body Go.Proofs.Tryz.prog gl C h48 48 [x0, x1] K = (
 wfP [x0, x1] (
 bindO (cellsV (demote x0)) fun r0 =>
 (List.length r0) = 10 ∧
 bindO (cellsV (demote x1)) fun r1 =>
 (List.length r1) = 17 ∧
 bindO (partV false 1 0 r0) fun r2 =>
 bindO (partV false 1 1 r0) fun r3 =>
 bindO (partV false 1 2 r0) fun r4 =>
 bindO (partV false 1 3 r0) fun r5 =>
 bindO (partsS [(0, (.v (demote (demote r2)))), (1, (.v (demote (demote r3)))), (2, (.v (demote (demote r4)))), (3, (.v (demote (demote r5))))]) fun r6 =>
 bindO (buildD Proofs.Tryz.prog 28 r6) fun r7 =>
 bindO (cellsV (.d r7)) fun r8 =>
 (List.length r8) = 10 ∧
 10 ≤ 10 ∧
 bindO (partV true 4 5 r0) fun r9 =>
 callP C 88 [(demote (demote (demote r9)))] fun r10 =>
 loopP (fun vs11 bs12 I13 =>
 bindO (lenL (demote (demote (vget vs11 0)))) fun r14 =>
 bindO (binV none .lss (demote (demote (vget vs11 1))) (demote r14)) fun r15 =>
 ifP r15
 (bindO (partV false 1 1 (bget bs12 0)) fun r16 =>
 callP C 89 [(demote (demote (demote r16)))] fun r17 =>
 bindO (binV (some (false, [.int])) .eql (demote r17) (.d (.int .i64 0))) fun r18 =>
 ifP (demote r18)
 (bindO ((bget bs12 3)[4]?) fun r19 =>
 bindO (partV false 1 4 (bget bs12 1)) fun r20 =>
 bindO (elemPtr 1 (demote (demote (vget vs11 0))) (demote (demote (vget vs11 1)))) fun r21 =>
 bindO (loadV false 1 (demote r21)) fun r22 =>
 bindO (elemPtr 11 (demote (demote r20)) (demote r22)) fun r23 =>
 bindO (addOffV (demote r23) 0) fun r24 =>
 bindO (loadV false 1 (demote r24)) fun r25 =>
 bindO (partsS [(0, (.v (demote r25)))]) fun r26 =>
 (partsFit 1 1 r26) = true ∧
 appP 1 16 r19 (.full 1 (buildElems (mkElem false [(.str [])]) r26 1 0)) fun r27 =>
 bindO (cellsV r27) fun r28 =>
 (List.length r28) = 1 ∧
 4 < (List.length (List.set (bget bs12 3) 4 (demote r19))) ∧
 bindO (binV none .add (demote (demote (vget vs11 1))) (.d (.int .i64 1))) fun r29 =>
 (I13 [(vget vs11 0), (demote r29)] [(Box.vals (Box.cells (bget bs12 0))), (Box.vals (Box.cells (bget bs12 1))), (Box.vals (Box.cells (bget bs12 2))), (Box.vals (Box.cells (setAt (List.set (bget bs12 3) 4 (demote r19)) 4 r28)))]))
 (bindO (binV (some (false, [.int])) .eql (demote r17) (.d (.int .i64 1))) fun r30 =>
 ifP (demote r30)
 (bindO ((bget bs12 3)[4]?) fun r31 =>
 bindO (partV false 1 3 (bget bs12 1)) fun r32 =>
 bindO (elemPtr 1 (demote (demote (vget vs11 0))) (demote (demote (vget vs11 1)))) fun r33 =>
 bindO (loadV false 1 (demote r33)) fun r34 =>
 bindO (elemPtr 9 (demote (demote r32)) (demote r34)) fun r35 =>
 bindO (addOffV (demote r35) 0) fun r36 =>
 bindO (loadV false 1 (demote r36)) fun r37 =>
 bindO (partsS [(0, (.v (demote r37)))]) fun r38 =>
 (partsFit 1 1 r38) = true ∧
 appP 1 16 r31 (.full 1 (buildElems (mkElem false [(.str [])]) r38 1 0)) fun r39 =>
 bindO (cellsV r39) fun r40 =>
 (List.length r40) = 1 ∧
 4 < (List.length (List.set (bget bs12 3) 4 (demote r31))) ∧
 bindO (binV none .add (demote (demote (vget vs11 1))) (.d (.int .i64 1))) fun r41 =>
 (I13 [(vget vs11 0), (demote r41)] [(Box.vals (Box.cells (bget bs12 0))), (Box.vals (Box.cells (bget bs12 1))), (Box.vals (Box.cells (bget bs12 2))), (Box.vals (Box.cells (setAt (List.set (bget bs12 3) 4 (demote r31)) 4 r40)))]))
 (bindO ((bget bs12 3)[4]?) fun r42 =>
 bindO (partV false 1 1 (bget bs12 1)) fun r43 =>
 bindO (elemPtr 1 (demote (demote (vget vs11 0))) (demote (demote (vget vs11 1)))) fun r44 =>
 bindO (loadV false 1 (demote r44)) fun r45 =>
 bindO (elemPtr 3 (demote (demote r43)) (demote r45)) fun r46 =>
 bindO (addOffV (demote r46) 0) fun r47 =>
 bindO (loadV false 1 (demote r47)) fun r48 =>
 bindO (partsS [(0, (.v (demote r48)))]) fun r49 =>
 (partsFit 1 1 r49) = true ∧
 appP 1 16 r42 (.full 1 (buildElems (mkElem false [(.str [])]) r49 1 0)) fun r50 =>
 bindO (cellsV r50) fun r51 =>
 (List.length r51) = 1 ∧
 4 < (List.length (List.set (bget bs12 3) 4 (demote r42))) ∧
 bindO (binV none .add (demote (demote (vget vs11 1))) (.d (.int .i64 1))) fun r52 =>
 (I13 [(vget vs11 0), (demote r52)] [(Box.vals (Box.cells (bget bs12 0))), (Box.vals (Box.cells (bget bs12 1))), (Box.vals (Box.cells (bget bs12 2))), (Box.vals (Box.cells (setAt (List.set (bget bs12 3) 4 (demote r42)) 4 r51)))]))))
 (loopP (fun vs53 bs54 I55 =>
 bindO (partV false 1 9 (bget bs54 0)) fun r56 =>
 bindO (lenL (demote (demote r56))) fun r57 =>
 bindO (binV none .lss (demote (demote (vget vs53 0))) (demote r57)) fun r58 =>
 ifP r58
 (bindO ((bget bs54 3)[9]?) fun r59 =>
 bindO (partV false 1 9 (bget bs54 0)) fun r60 =>
 bindO (elemPtr 10 (demote (demote r60)) (demote (demote (vget vs53 0)))) fun r61 =>
 bindO (loadV true 10 (demote r61)) fun r62 =>
 bindO (partV true 17 0 (bget bs54 1)) fun r63 =>
 callP C 48 [(demote (demote r62)), (demote (demote (demote r63)))] fun r64 =>
 bindO (partsS [(0, (.v (demote r64)))]) fun r65 =>
 (partsFit 10 1 r65) = true ∧
 appP 10 112 r59 (.full 10 (buildElems (mkElem true [(.int .i64 0), (.int .i64 0), (.int .i64 0), (.int .i64 0), (.sl .nil 0 []), (.int .u64 0), (.int .u64 0), (.int .u64 0), (.int .u64 0), (.sl .nil 0 [])]) r65 1 0)) fun r66 =>
 bindO (cellsV r66) fun r67 =>
 (List.length r67) = 1 ∧
 9 < (List.length (List.set (bget bs54 3) 9 (demote r59))) ∧
 bindO (binV none .add (demote (demote (vget vs53 0))) (.d (.int .i64 1))) fun r68 =>
 (I55 [(demote r68)] [(Box.vals (Box.cells (bget bs54 0))), (Box.vals (Box.cells (bget bs54 1))), (Box.vals (Box.cells (bget bs54 2))), (Box.vals (Box.cells (setAt (List.set (bget bs54 3) 9 (demote r59)) 9 r67)))]))
 (bindO (partV true 10 0 (bget bs54 3)) fun r69 =>
 bindO (cellsV (demote (demote r69))) fun r70 =>
 (List.length r70) = 10 ∧
 10 ≤ (List.length (bget bs54 2)) ∧
 bindO (partV true 10 0 (setAt (bget bs54 2) 0 r70)) fun r71 =>
 (SV.noRef (demote r71)) = true ∧
 (K (demote r71))))
 [(.d (.int .i64 0))] [(Box.vals (Box.cells (bget bs12 0))), (Box.vals (Box.cells (bget bs12 1))), (Box.vals (Box.cells (bget bs12 2))), (Box.vals (Box.cells (bget bs12 3)))]))
 [(demote r10), (.d (.int .i64 0))] [(Box.vals (Box.cells r0)), (Box.vals (Box.cells r1)), [(.d (.int .i64 0)), (.d (.int .i64 0)), (.d (.int .i64 0)), (.d (.int .i64 0)), (.d (.sl .nil 0 [])), (.d (.int .u64 0)), (.d (.int .u64 0)), (.d (.int .u64 0)), (.d (.int .u64 0)), (.d (.sl .nil 0 []))], (Box.vals (Box.cells (setAt [(.d (.int .i64 0)), (.d (.int .i64 0)), (.d (.int .i64 0)), (.d (.int .i64 0)), (.d (.sl .nil 0 [])), (.d (.int .u64 0)), (.d (.int .u64 0)), (.d (.int .u64 0)), (.d (.int .u64 0)), (.d (.sl .nil 0 []))] 0 r8)))])) := by kernel_rfl

theorem body62 (C : Con) (x0 : SV) (K : SV → Prop) : body Go.Proofs.Tryz.prog gl C h62 62 [x0] K = (
 wfP [x0] (
 bindO (partsS []) fun r0 =>
 bindO (buildD Proofs.Tryz.prog 25 r0) fun r1 =>
 bindO (cellsV (.d r1)) fun r2 =>
 (List.length r2) = 4 ∧
 4 ≤ 4 ∧
 loopP (fun vs3 bs4 I5 =>
 bindO (lenL (demote (demote (vget vs3 0)))) fun r6 =>
 bindO (binV none .lss (demote (demote (vget vs3 1))) (demote r6)) fun r7 =>
 ifP r7
 (bindO (partV true 4 0 (bget bs4 1)) fun r8 =>
 bindO (elemPtr 1 (demote (demote (vget vs3 0))) (demote (demote (vget vs3 1)))) fun r9 =>
 bindO (loadV false 1 (demote r9)) fun r10 =>
 callP C 106 [(demote (demote (demote r8))), (demote (demote r10))] fun r11 =>
 bindO (cellsV (demote r11)) fun r12 =>
 (List.length r12) = 4 ∧
 4 ≤ (List.length (bget bs4 1)) ∧
 bindO (binV none .add (demote (demote (vget vs3 1))) (.d (.int .i64 1))) fun r13 =>
 (I5 [(vget vs3 0), (demote r13)] [(Box.vals (Box.cells (bget bs4 0))), (Box.vals (Box.cells (setAt (bget bs4 1) 0 r12)))]))
 (bindO (partV true 4 0 (bget bs4 1)) fun r14 =>
 bindO (cellsV (demote (demote r14))) fun r15 =>
 (List.length r15) = 4 ∧
 4 ≤ (List.length (bget bs4 0)) ∧
 bindO (partV true 4 0 (setAt (bget bs4 0) 0 r15)) fun r16 =>
 (SV.noRef (demote r16)) = true ∧
 (K (demote r16))))
 [x0, (.d (.int .i64 0))] [[(.d (.int .u64 0)), (.d (.int .u64 0)), (.d (.int .u64 0)), (.d (.int .u64 0))], (Box.vals (Box.cells (setAt [(.d (.int .u64 0)), (.d (.int .u64 0)), (.d (.int .u64 0)), (.d (.int .u64 0))] 0 r2)))])) := by kernel_rfl

theorem body65 (C : Con) (x0 x1 : SV) (K : SV → Prop) : body Go.Proofs.Tryz.prog gl C h65 65 [x0, x1] K = (
 wfP [x0, x1] (
 bindO (cellsV (demote x0)) fun r0 =>
 (List.length r0) = 4 ∧
 bindO (cellsV (demote x1)) fun r1 =>
 (List.length r1) = 4 ∧
 bindO (partV true 4 0 r0) fun r2 =>
 bindO (partV true 4 0 r1) fun r3 =>
 callP C 108 [(demote (demote (demote r2))), (demote (demote (demote r3)))] fun r4 =>
 bindO (partV true 4 0 r0) fun r5 =>
 bindO (binV (some (true, [.int, .int, .int, .int])) .eql (demote r4) (demote (demote r5))) fun r6 =>
 (SV.noRef (demote r6)) = true ∧
 (K (demote r6)))) := by kernel_rfl

theorem body66 (C : Con) (x0 : SV) (K : SV → Prop) : body Go.Proofs.Tryz.prog gl C h66 66 [x0] K = (
 wfP [x0] (
 bindO (foldIntV maxD (demote (demote x0)) [(.d (.int .i64 0))]) fun r0 =>
 bindO (foldIntV minD (demote r0) [(.d (.int .i64 256))]) fun r1 =>
 loopP (fun vs2 bs3 I4 =>
 bindO (binV none .lss (demote (vget vs2 1)) (demote (vget vs2 0))) fun r5 =>
 ifP r5
 (bindO (partV true 4 0 (bget bs3 1)) fun r6 =>
 callP C 109 [(demote (demote (demote r6))), (demote (demote (demote (demote (demote (vget vs2 1))))))] fun r7 =>
 bindO (cellsV (demote r7)) fun r8 =>
 (List.length r8) = 4 ∧
 4 ≤ (List.length (bget bs3 1)) ∧
 bindO (binV none .add (demote (vget vs2 1)) (.d (.int .i64 1))) fun r9 =>
 (I4 [(vget vs2 0), (demote r9)] [(Box.vals (Box.cells (bget bs3 0))), (Box.vals (Box.cells (setAt (bget bs3 1) 0 r8)))]))
 (bindO (partV true 4 0 (bget bs3 1)) fun r10 =>
 bindO (cellsV (demote (demote r10))) fun r11 =>
 (List.length r11) = 4 ∧
 4 ≤ (List.length (bget bs3 0)) ∧
 bindO (partV true 4 0 (setAt (bget bs3 0) 0 r11)) fun r12 =>
 (SV.noRef (demote r12)) = true ∧
 (K (demote r12))))
 [r1, (.d (.int .i64 0))] [[(.d (.int .u64 0)), (.d (.int .u64 0)), (.d (.int .u64 0)), (.d (.int .u64 0))], [(.d (.int .u64 0)), (.d (.int .u64 0)), (.d (.int .u64 0)), (.d (.int .u64 0))]])) := by kernel_rfl

theorem body67 (C : Con) (x0 x1 : SV) (K : SV → Prop) : body Go.Proofs.Tryz.prog gl C h67 67 [x0, x1] K = (
 wfP [x0, x1] (
 bindO (cellsV (demote x0)) fun r0 =>
 (List.length r0) = 17 ∧
 callP C 76 [(demote (demote (demote x1)))] fun r1 =>
 bindO (binV (some (false, [.int])) .eql (demote r1) (.d (.int .i64 0))) fun r2 =>
 ifP (demote r2)
 (bindO (partV false 1 4 r0) fun r3 =>
 bindO (lenL (demote (demote r3))) fun r4 =>
 (SV.noRef (demote r4)) = true ∧
 (K (demote r4)))
 (bindO (binV (some (false, [.int])) .eql (demote r1) (.d (.int .i64 1))) fun r5 =>
 ifP (demote r5)
 (bindO (partV false 1 3 r0) fun r6 =>
 bindO (lenL (demote (demote r6))) fun r7 =>
 (SV.noRef (demote r7)) = true ∧
 (K (demote r7)))
 (bindO (partV false 1 1 r0) fun r8 =>
 bindO (lenL (demote (demote r8))) fun r9 =>
 (SV.noRef (demote r9)) = true ∧
 (K (demote r9)))))) := by kernel_rfl

theorem body68 (C : Con) (x0 x1 x2 : SV) (K : SV → Prop) : body Go.Proofs.Tryz.prog gl C h68 68 [x0, x1, x2] K = (
 wfP [x0, x1, x2] (
 bindO (cellsV (demote x0)) fun r0 =>
 (List.length r0) = 10 ∧
 ifP (demote x2)
 (bindO (partV true 10 0 r0) fun r1 =>
 callP C 110 [(demote (demote (demote r1))), (demote (demote (demote x1)))] fun r2 =>
 bindO (unV .not (demote r2)) fun r3 =>
 ifP (demote r3)
 ((SV.noRef (.d (.int .i64 2))) = true ∧
 (K (.d (.int .i64 2))))
 (bindO (partV false 1 0 r0) fun r4 =>
 callP C 111 [(demote (demote (demote r4)))] fun r5 =>
 bindO (binV none .gtr (demote r5) (.d (.int .i64 0))) fun r6 =>
 ifP (demote r6)
 ((SV.noRef (.d (.int .i64 0))) = true ∧
 (K (.d (.int .i64 0))))
 (bindO (partV false 1 1 r0) fun r7 =>
 callP C 112 [(demote (demote (demote r7))), (.d (.int .i64 15))] fun r8 =>
 bindO (unV .not (demote r8)) fun r9 =>
 ifP (demote r9)
 ((SV.noRef (.d (.int .i64 3))) = true ∧
 (K (.d (.int .i64 3))))
 (bindO (partV false 1 3 r0) fun r10 =>
 callP C 112 [(demote (demote (demote r10))), (.d (.int .i64 15))] fun r11 =>
 bindO (unV .not (demote r11)) fun r12 =>
 ifP (demote (demote r12))
 ((SV.noRef (.d (.int .i64 3))) = true ∧
 (K (.d (.int .i64 3))))
 (bindO (partV false 1 2 r0) fun r13 =>
 callP C 112 [(demote (demote (demote r13))), (.d (.int .i64 5))] fun r14 =>
 bindO (unV .not (demote r14)) fun r15 =>
 ifP (demote (demote r15))
 ((SV.noRef (.d (.int .i64 3))) = true ∧
 (K (.d (.int .i64 3))))
 (bindO (partV false 1 0 r0) fun r16 =>
 bindO (binV (some (false, [.int])) .eql (demote (demote r16)) (.d (.int .i64 9))) fun r17 =>
 ifP (demote r17)
 (bindO (partV false 1 1 r0) fun r18 =>
 callP C 89 [(demote (demote (demote r18)))] fun r19 =>
 bindO (binV (some (false, [.int])) .eql (demote r19) (.d (.int .i64 3))) fun r20 =>
 ifP (demote (demote r20))
 ((SV.noRef (.d (.int .i64 13))) = true ∧
 (K (.d (.int .i64 13))))
 (bindO (partV false 1 0 r0) fun r21 =>
 bindO (binV (some (false, [.int])) .eql (demote (demote r21)) (.d (.int .i64 8))) fun r22 =>
 ifP (demote r22)
 (bindO (partV false 1 1 r0) fun r23 =>
 callP C 89 [(demote (demote (demote r23)))] fun r24 =>
 bindO (partV false 1 3 r0) fun r25 =>
 callP C 89 [(demote (demote (demote r25)))] fun r26 =>
 bindO (binV (some (false, [.int])) .neq (demote r24) (demote r26)) fun r27 =>
 ifP (demote r27)
 ((SV.noRef (.d (.int .i64 13))) = true ∧
 (K (.d (.int .i64 13))))
 (bindO (partV false 1 1 r0) fun r28 =>
 callP C 89 [(demote (demote (demote r28)))] fun r29 =>
 bindO (binV (some (false, [.int])) .neq (demote r29) (.d (.int .i64 3))) fun r30 =>
 ifP (demote r30)
 (bindO (partV false 1 2 r0) fun r31 =>
 bindO (binV none .gtr (demote (demote r31)) (.d (.int .i64 1))) fun r32 =>
 ifP (demote (demote (demote (demote r32))))
 ((SV.noRef (.d (.int .i64 13))) = true ∧
 (K (.d (.int .i64 13))))
 ((SV.noRef (.d (.int .i64 0))) = true ∧
 (K (.d (.int .i64 0)))))
 ((SV.noRef (.d (.int .i64 0))) = true ∧
 (K (.d (.int .i64 0))))))
 ((SV.noRef (.d (.int .i64 0))) = true ∧
 (K (.d (.int .i64 0))))))
 (bindO (partV false 1 0 r0) fun r33 =>
 bindO (binV (some (false, [.int])) .eql (demote (demote r33)) (.d (.int .i64 8))) fun r34 =>
 ifP (demote r34)
 (bindO (partV false 1 1 r0) fun r35 =>
 callP C 89 [(demote (demote (demote r35)))] fun r36 =>
 bindO (partV false 1 3 r0) fun r37 =>
 callP C 89 [(demote (demote (demote r37)))] fun r38 =>
 bindO (binV (some (false, [.int])) .neq (demote r36) (demote r38)) fun r39 =>
 ifP (demote r39)
 ((SV.noRef (.d (.int .i64 13))) = true ∧
 (K (.d (.int .i64 13))))
 (bindO (partV false 1 1 r0) fun r40 =>
 callP C 89 [(demote (demote (demote r40)))] fun r41 =>
 bindO (binV (some (false, [.int])) .neq (demote r41) (.d (.int .i64 3))) fun r42 =>
 ifP (demote r42)
 (bindO (partV false 1 2 r0) fun r43 =>
 bindO (binV none .gtr (demote (demote r43)) (.d (.int .i64 1))) fun r44 =>
 ifP (demote (demote (demote (demote r44))))
 ((SV.noRef (.d (.int .i64 13))) = true ∧
 (K (.d (.int .i64 13))))
 ((SV.noRef (.d (.int .i64 0))) = true ∧
 (K (.d (.int .i64 0)))))
 ((SV.noRef (.d (.int .i64 0))) = true ∧
 (K (.d (.int .i64 0))))))
 ((SV.noRef (.d (.int .i64 0))) = true ∧
 (K (.d (.int .i64 0)))))))))))
 (bindO (partV true 10 0 r0) fun r45 =>
 callP C 110 [(demote (demote (demote r45))), (demote (demote (demote x1)))] fun r46 =>
 bindO (unV .not (demote r46)) fun r47 =>
 ifP (demote r47)
 ((SV.noRef (.d (.int .i64 2))) = true ∧
 (K (.d (.int .i64 2))))
 (bindO (partV false 1 0 r0) fun r48 =>
 callP C 111 [(demote (demote (demote r48)))] fun r49 =>
 bindO (binV none .gtr (demote r49) (.d (.int .i64 0))) fun r50 =>
 ifP (demote r50)
 ((SV.noRef (.d (.int .i64 0))) = true ∧
 (K (.d (.int .i64 0))))
 (bindO (partV false 1 1 r0) fun r51 =>
 callP C 112 [(demote (demote (demote r51))), (.d (.int .i64 10))] fun r52 =>
 bindO (unV .not (demote r52)) fun r53 =>
 ifP (demote r53)
 ((SV.noRef (.d (.int .i64 3))) = true ∧
 (K (.d (.int .i64 3))))
 (bindO (partV false 1 3 r0) fun r54 =>
 callP C 112 [(demote (demote (demote r54))), (.d (.int .i64 10))] fun r55 =>
 bindO (unV .not (demote r55)) fun r56 =>
 ifP (demote (demote r56))
 ((SV.noRef (.d (.int .i64 3))) = true ∧
 (K (.d (.int .i64 3))))
 (bindO (partV false 1 2 r0) fun r57 =>
 callP C 112 [(demote (demote (demote r57))), (.d (.int .i64 5))] fun r58 =>
 bindO (unV .not (demote r58)) fun r59 =>
 ifP (demote (demote r59))
 ((SV.noRef (.d (.int .i64 3))) = true ∧
 (K (.d (.int .i64 3))))
 (bindO (partV false 1 0 r0) fun r60 =>
 bindO (binV (some (false, [.int])) .eql (demote (demote r60)) (.d (.int .i64 9))) fun r61 =>
 ifP (demote r61)
 (bindO (partV false 1 1 r0) fun r62 =>
 callP C 89 [(demote (demote (demote r62)))] fun r63 =>
 bindO (binV (some (false, [.int])) .eql (demote r63) (.d (.int .i64 3))) fun r64 =>
 ifP (demote (demote r64))
 ((SV.noRef (.d (.int .i64 13))) = true ∧
 (K (.d (.int .i64 13))))
 (bindO (partV false 1 0 r0) fun r65 =>
 bindO (binV (some (false, [.int])) .eql (demote (demote r65)) (.d (.int .i64 8))) fun r66 =>
 ifP (demote r66)
 (bindO (partV false 1 1 r0) fun r67 =>
 callP C 89 [(demote (demote (demote r67)))] fun r68 =>
 bindO (partV false 1 3 r0) fun r69 =>
 callP C 89 [(demote (demote (demote r69)))] fun r70 =>
 bindO (binV (some (false, [.int])) .neq (demote r68) (demote r70)) fun r71 =>
 ifP (demote r71)
 ((SV.noRef (.d (.int .i64 13))) = true ∧
 (K (.d (.int .i64 13))))
 (bindO (partV false 1 1 r0) fun r72 =>
 callP C 89 [(demote (demote (demote r72)))] fun r73 =>
 bindO (binV (some (false, [.int])) .neq (demote r73) (.d (.int .i64 3))) fun r74 =>
 ifP (demote r74)
 (bindO (partV false 1 2 r0) fun r75 =>
 bindO (binV none .gtr (demote (demote r75)) (.d (.int .i64 1))) fun r76 =>
 ifP (demote (demote (demote (demote r76))))
 ((SV.noRef (.d (.int .i64 13))) = true ∧
 (K (.d (.int .i64 13))))
 ((SV.noRef (.d (.int .i64 0))) = true ∧
 (K (.d (.int .i64 0)))))
 ((SV.noRef (.d (.int .i64 0))) = true ∧
 (K (.d (.int .i64 0))))))
 ((SV.noRef (.d (.int .i64 0))) = true ∧
 (K (.d (.int .i64 0))))))
 (bindO (partV false 1 0 r0) fun r77 =>
 bindO (binV (some (false, [.int])) .eql (demote (demote r77)) (.d (.int .i64 8))) fun r78 =>
 ifP (demote r78)
 (bindO (partV false 1 1 r0) fun r79 =>
 callP C 89 [(demote (demote (demote r79)))] fun r80 =>
 bindO (partV false 1 3 r0) fun r81 =>
 callP C 89 [(demote (demote (demote r81)))] fun r82 =>
 bindO (binV (some (false, [.int])) .neq (demote r80) (demote r82)) fun r83 =>
 ifP (demote r83)
 ((SV.noRef (.d (.int .i64 13))) = true ∧
 (K (.d (.int .i64 13))))
 (bindO (partV false 1 1 r0) fun r84 =>
 callP C 89 [(demote (demote (demote r84)))] fun r85 =>
 bindO (binV (some (false, [.int])) .neq (demote r85) (.d (.int .i64 3))) fun r86 =>
 ifP (demote r86)
 (bindO (partV false 1 2 r0) fun r87 =>
 bindO (binV none .gtr (demote (demote r87)) (.d (.int .i64 1))) fun r88 =>
 ifP (demote (demote (demote (demote r88))))
 ((SV.noRef (.d (.int .i64 13))) = true ∧
 (K (.d (.int .i64 13))))
 ((SV.noRef (.d (.int .i64 0))) = true ∧
 (K (.d (.int .i64 0)))))
 ((SV.noRef (.d (.int .i64 0))) = true ∧
 (K (.d (.int .i64 0))))))
 ((SV.noRef (.d (.int .i64 0))) = true ∧
 (K (.d (.int .i64 0))))))))))))) := by kernel_rfl

theorem body69 (C : Con) (x0 x1 : SV) (K : SV → Prop) : body Go.Proofs.Tryz.prog gl C h69 69 [x0, x1] K = (
 wfP [x0, x1] (
 bindO (cellsV (demote x0)) fun r0 =>
 (List.length r0) = 4 ∧
 bindO (cellsV (demote x1)) fun r1 =>
 (List.length r1) = 4 ∧
 bindO (partV true 4 0 r0) fun r2 =>
 bindO (partV true 4 0 r1) fun r3 =>
 callP C 113 [(demote (demote (demote r2))), (demote (demote (demote r3)))] fun r4 =>
 bindO (partsS []) fun r5 =>
 bindO (buildD Proofs.Tryz.prog 25 r5) fun r6 =>
 bindO (binV (some (true, [.int, .int, .int, .int])) .eql (demote r4) (.d r6)) fun r7 =>
 (SV.noRef (demote r7)) = true ∧
 (K (demote r7)))) := by kernel_rfl

theorem body70 (C : Con) (x0 : SV) (K : SV → Prop) : body Go.Proofs.Tryz.prog gl C h70 70 [x0] K = (
 wfP [x0] (
 bindO (partsS []) fun r0 =>
 bindO (buildD Proofs.Tryz.prog 25 r0) fun r1 =>
 bindO (cellsV (.d r1)) fun r2 =>
 (List.length r2) = 4 ∧
 4 ≤ 4 ∧
 loopP (fun vs3 bs4 I5 =>
 bindO (binV none .lss (demote (demote (vget vs3 1))) (demote (demote (vget vs3 0)))) fun r6 =>
 ifP (demote r6)
 (bindO (binV none .lss (demote (demote (vget vs3 1))) (.d (.int .i64 256))) fun r7 =>
 ifP (demote r7)
 (bindO (partV true 4 0 (bget bs4 1)) fun r8 =>
 callP C 106 [(demote (demote (demote r8))), (demote (demote (demote (vget vs3 1))))] fun r9 =>
 bindO (cellsV (demote r9)) fun r10 =>
 (List.length r10) = 4 ∧
 4 ≤ (List.length (bget bs4 1)) ∧
 bindO (binV none .add (demote (demote (vget vs3 1))) (.d (.int .i64 1))) fun r11 =>
 (I5 [(vget vs3 0), (demote r11)] [(Box.vals (Box.cells (bget bs4 0))), (Box.vals (Box.cells (setAt (bget bs4 1) 0 r10)))]))
 (bindO (partV true 4 0 (bget bs4 1)) fun r12 =>
 bindO (cellsV (demote (demote r12))) fun r13 =>
 (List.length r13) = 4 ∧
 4 ≤ (List.length (bget bs4 0)) ∧
 bindO (partV true 4 0 (setAt (bget bs4 0) 0 r13)) fun r14 =>
 (SV.noRef (demote r14)) = true ∧
 (K (demote r14))))
 (bindO (partV true 4 0 (bget bs4 1)) fun r15 =>
 bindO (cellsV (demote (demote r15))) fun r16 =>
 (List.length r16) = 4 ∧
 4 ≤ (List.length (bget bs4 0)) ∧
 bindO (partV true 4 0 (setAt (bget bs4 0) 0 r16)) fun r17 =>
 (SV.noRef (demote r17)) = true ∧
 (K (demote r17))))
 [x0, (.d (.int .i64 0))] [[(.d (.int .u64 0)), (.d (.int .u64 0)), (.d (.int .u64 0)), (.d (.int .u64 0))], (Box.vals (Box.cells (setAt [(.d (.int .u64 0)), (.d (.int .u64 0)), (.d (.int .u64 0)), (.d (.int .u64 0))] 0 r2)))])) := by kernel_rfl

theorem body71 (C : Con) (x0 x1 : SV) (K : SV → Prop) : body Go.Proofs.Tryz.prog gl C h71 71 [x0, x1] K = (
 wfP [x0, x1] (
 bindO (cellsV (demote x0)) fun r0 =>
 (List.length r0) = 17 ∧
 callP C 89 [(demote (demote (demote x1)))] fun r1 =>
 bindO (binV (some (false, [.int])) .eql (demote r1) (.d (.int .i64 0))) fun r2 =>
 ifP (demote r2)
 (bindO (partV false 1 4 r0) fun r3 =>
 bindO (lenL (demote (demote r3))) fun r4 =>
 (SV.noRef (demote r4)) = true ∧
 (K (demote r4)))
 (bindO (binV (some (false, [.int])) .eql (demote r1) (.d (.int .i64 1))) fun r5 =>
 ifP (demote r5)
 (bindO (partV false 1 3 r0) fun r6 =>
 bindO (lenL (demote (demote r6))) fun r7 =>
 (SV.noRef (demote r7)) = true ∧
 (K (demote r7)))
 (bindO (partV false 1 1 r0) fun r8 =>
 bindO (lenL (demote (demote r8))) fun r9 =>
 (SV.noRef (demote r9)) = true ∧
 (K (demote r9)))))) := by kernel_rfl

theorem body72 (C : Con) (x0 : SV) (K : SV → Prop) : body Go.Proofs.Tryz.prog gl C h72 72 [x0] K = (
 wfP [x0] (
 bindO (cellsV (demote x0)) fun r0 =>
 (List.length r0) = 4 ∧
 bindO (partV true 4 0 r0) fun r1 =>
 callP C 88 [(demote (demote (demote r1)))] fun r2 =>
 bindO (lenL (demote r2)) fun r3 =>
 (SV.noRef (demote r3)) = true ∧
 (K (demote r3)))) := by kernel_rfl

theorem body73 (C : Con) (x0 x1 : SV) (K : SV → Prop) : body Go.Proofs.Tryz.prog gl C h73 73 [x0, x1] K = (
 wfP [x0, x1] (
 bindO (cellsV (demote x0)) fun r0 =>
 (List.length r0) = 10 ∧
 bindO (partV false 1 1 r0) fun r1 =>
 bindO (binV (some (false, [.int])) .eql (demote (demote r1)) (.d (.int .i64 0))) fun r2 =>
 ifP (demote r2)
 (bindO (partV false 1 3 r0) fun r3 =>
 bindO (binV (some (false, [.int])) .eql (demote (demote r3)) (.d (.int .i64 0))) fun r4 =>
 ifP (demote (demote r4))
 (bindO (partV false 1 2 r0) fun r5 =>
 bindO (binV (some (false, [.int])) .eql (demote (demote r5)) (.d (.int .i64 0))) fun r6 =>
 ifP (demote (demote r6))
 (bindO (partV true 4 5 r0) fun r7 =>
 bindO (partsS []) fun r8 =>
 bindO (buildD Proofs.Tryz.prog 25 r8) fun r9 =>
 bindO (binV (some (true, [.int, .int, .int, .int])) .eql (demote (demote r7)) (.d r9)) fun r10 =>
 ifP (demote (demote r10))
 (bindO (partV false 1 4 r0) fun r11 =>
 bindO (lenL (demote (demote r11))) fun r12 =>
 bindO (binV (some (false, [.int])) .eql (demote r12) (.d (.int .i64 0))) fun r13 =>
 ifP (demote (demote r13))
 (bindO (partV false 1 9 r0) fun r14 =>
 bindO (lenL (demote (demote r14))) fun r15 =>
 bindO (binV (some (false, [.int])) .eql (demote r15) (demote (demote x1))) fun r16 =>
 (SV.noRef (demote (demote r16))) = true ∧
 (K (demote (demote r16))))
 ((SV.noRef (.d (.bool false))) = true ∧
 (K (.d (.bool false)))))
 ((SV.noRef (.d (.bool false))) = true ∧
 (K (.d (.bool false)))))
 ((SV.noRef (.d (.bool false))) = true ∧
 (K (.d (.bool false)))))
 ((SV.noRef (.d (.bool false))) = true ∧
 (K (.d (.bool false)))))
 ((SV.noRef (.d (.bool false))) = true ∧
 (K (.d (.bool false)))))) := by kernel_rfl

theorem body74 (C : Con) (x0 x1 : SV) (K : SV → Prop) : body Go.Proofs.Tryz.prog gl C h74 74 [x0, x1] K = (
 wfP [x0, x1] (
 bindO (binV none .geq (demote (demote x0)) (.d (.int .i64 0))) fun r0 =>
 ifP (demote r0)
 (bindO (loadV false 1 (demote x1)) fun r1 =>
 bindO (binV none .lss (demote (demote x0)) (demote r1)) fun r2 =>
 (SV.noRef (demote (demote r2))) = true ∧
 (K (demote (demote r2))))
 ((SV.noRef (.d (.bool false))) = true ∧
 (K (.d (.bool false)))))) := by kernel_rfl

theorem body75 (C : Con) (x0 : SV) (K : SV → Prop) : body Go.Proofs.Tryz.prog gl C h75 75 [x0] K = (
 wfP [x0] (
 callP C 76 [(demote (demote (demote x0)))] fun r0 =>
 bindO (binV (some (false, [.int])) .eql (demote r0) (.d (.int .i64 3))) fun r1 =>
 (SV.noRef (demote r1)) = true ∧
 (K (demote r1)))) := by kernel_rfl

theorem body76 (C : Con) (x0 : SV) (K : SV → Prop) : body Go.Proofs.Tryz.prog gl C h76 76 [x0] K = (
 wfP [x0] (
 bindO (binV none .rem (demote (demote x0)) (.d (.int .i64 5))) fun r0 =>
 bindO (foldIntV minD (demote r0) [(.d (.int .i64 3))]) fun r1 =>
 (SV.noRef (demote r1)) = true ∧
 (K (demote r1)))) := by kernel_rfl

theorem body77 (C : Con) (x0 x1 x2 : SV) (K : SV → Prop) : body Go.Proofs.Tryz.prog gl C h77 77 [x0, x1, x2] K = (
 wfP [x0, x1, x2] (
 bindO (cellsV (demote x0)) fun r0 =>
 (List.length r0) = 17 ∧
 bindO (cellsV (demote x2)) fun r1 =>
 (List.length r1) = 1 ∧
 callP C 76 [(demote (demote (demote x1)))] fun r2 =>
 bindO (binV (some (false, [.int])) .eql (demote r2) (.d (.int .i64 0))) fun r3 =>
 ifP (demote r3)
 (bindO (partV false 1 4 r0) fun r4 =>
 callP C 114 [(demote (demote (demote r4))), (.clo (.func 115) [] [(.ref (List.map demote r1) 0)])] fun r5 =>
 bindO (partsS [(0, (.v (demote (demote (demote r5)))))]) fun r6 =>
 (partsFit 1 1 r6) = true ∧
 callP C 116 [(.full 1 (buildElems (mkElem false [(.int .i64 0)]) r6 1 0))] fun r7 =>
 bindO (binV none .geq (demote (demote (demote r5))) (.d (.int .i64 0))) fun r8 =>
 bindO (cellsV (demote r7)) fun r9 =>
 (List.length r9) = 4 ∧
 4 ≤ 4 ∧
 bindO (partV true 4 0 (setAt [(.d (.int .u64 0)), (.d (.int .u64 0)), (.d (.int .u64 0)), (.d (.int .u64 0))] 0 r9)) fun r10 =>
 (SV.noRef (demote r10)) = true ∧
 (SV.noRef (demote r8)) = true ∧
 (K (.tup [(demote r10), (demote r8)])))
 (bindO (binV (some (false, [.int])) .eql (demote r2) (.d (.int .i64 1))) fun r11 =>
 ifP (demote r11)
 (bindO (partV false 1 3 r0) fun r12 =>
 callP C 117 [(demote (demote (demote r12))), (.clo (.func 118) [] [(.ref (List.map demote r1) 0)])] fun r13 =>
 bindO (partsS [(0, (.v (demote (demote (demote r13)))))]) fun r14 =>
 (partsFit 1 1 r14) = true ∧
 callP C 116 [(.full 1 (buildElems (mkElem false [(.int .i64 0)]) r14 1 0))] fun r15 =>
 bindO (binV none .geq (demote (demote (demote r13))) (.d (.int .i64 0))) fun r16 =>
 bindO (cellsV (demote r15)) fun r17 =>
 (List.length r17) = 4 ∧
 4 ≤ 4 ∧
 bindO (partV true 4 0 (setAt [(.d (.int .u64 0)), (.d (.int .u64 0)), (.d (.int .u64 0)), (.d (.int .u64 0))] 0 r17)) fun r18 =>
 (SV.noRef (demote r18)) = true ∧
 (SV.noRef (demote r16)) = true ∧
 (K (.tup [(demote r18), (demote r16)])))
 (bindO (partV false 1 1 r0) fun r19 =>
 callP C 119 [(demote (demote (demote r19))), (.clo (.func 120) [] [(.ref (List.map demote r1) 0)])] fun r20 =>
 bindO (binV none .geq (demote (demote (demote r20))) (.d (.int .i64 0))) fun r21 =>
 ifP r21
 (bindO (partsS [(0, (.v (demote (demote (demote r20)))))]) fun r22 =>
 (partsFit 1 1 r22) = true ∧
 callP C 116 [(.full 1 (buildElems (mkElem false [(.int .i64 0)]) r22 1 0))] fun r23 =>
 bindO (cellsV (demote r23)) fun r24 =>
 (List.length r24) = 4 ∧
 4 ≤ 4 ∧
 bindO (partV true 4 0 (setAt [(.d (.int .u64 0)), (.d (.int .u64 0)), (.d (.int .u64 0)), (.d (.int .u64 0))] 0 r24)) fun r25 =>
 (SV.noRef (demote r25)) = true ∧
 (SV.noRef (.d (.bool true))) = true ∧
 (K (.tup [(demote r25), (.d (.bool true))])))
 (bindO (partV false 1 2 r0) fun r26 =>
 callP C 122 [(demote (demote (demote r26))), (.clo (.func 123) [] [(.ref (List.map demote r1) 0)])] fun r27 =>
 bindO (binV none .lss (demote (demote (demote r27))) (.d (.int .i64 0))) fun r28 =>
 ifP r28
 (bindO (partsS []) fun r29 =>
 bindO (buildD Proofs.Tryz.prog 25 r29) fun r30 =>
 bindO (cellsV (.d r30)) fun r31 =>
 (List.length r31) = 4 ∧
 4 ≤ 4 ∧
 bindO (partV true 4 0 (setAt [(.d (.int .u64 0)), (.d (.int .u64 0)), (.d (.int .u64 0)), (.d (.int .u64 0))] 0 r31)) fun r32 =>
 (SV.noRef (demote r32)) = true ∧
 (SV.noRef (.d (.bool false))) = true ∧
 (K (.tup [(demote r32), (.d (.bool false))])))
 (bindO (partV false 1 2 r0) fun r33 =>
 bindO (elemPtr 5 (demote (demote r33)) (demote (demote (demote r27)))) fun r34 =>
 bindO (addOffV (demote r34) 1) fun r35 =>
 bindO (loadV true 4 (demote r35)) fun r36 =>
 bindO (cellsV (demote r36)) fun r37 =>
 (List.length r37) = 4 ∧
 4 ≤ 4 ∧
 bindO (partV true 4 0 (setAt [(.d (.int .u64 0)), (.d (.int .u64 0)), (.d (.int .u64 0)), (.d (.int .u64 0))] 0 r37)) fun r38 =>
 (SV.noRef (demote r38)) = true ∧
 (SV.noRef (.d (.bool true))) = true ∧
 (K (.tup [(demote r38), (.d (.bool true))])))))))) := by kernel_rfl

theorem body78 (C : Con) (x0 x1 : SV) (K : SV → Prop) : body Go.Proofs.Tryz.prog gl C h78 78 [x0, x1] K = (
 wfP [x0, x1] (
 bindO (cellsV (demote x0)) fun r0 =>
 (List.length r0) = 4 ∧
 bindO (cellsV (demote x1)) fun r1 =>
 (List.length r1) = 4 ∧
 loopP (fun vs2 bs3 I4 =>
 bindO (binV none .lss (demote (vget vs2 0)) (.d (.int .i64 4))) fun r5 =>
 ifP r5
 (bindO (indexOk (demote (demote (demote (demote (vget vs2 0))))) 4) fun r6 =>
 bindO (partV false 1 (0 + (r6 * 1)) (bget bs3 0)) fun r7 =>
 bindO (indexOk (demote (demote (demote (demote (vget vs2 0))))) 4) fun r8 =>
 bindO (partV false 1 (0 + (r8 * 1)) (bget bs3 1)) fun r9 =>
 bindO (binV none .or (demote (demote r7)) (demote (demote r9))) fun r10 =>
 bindO (indexOk (demote (demote (demote (demote (vget vs2 0))))) 4) fun r11 =>
 bindO (cellsV (demote r10)) fun r12 =>
 (List.length r12) = 1 ∧
 ((0 + (r11 * 1)) + 1) ≤ (List.length (bget bs3 0)) ∧
 bindO (binV none .add (demote (vget vs2 0)) (.d (.int .i64 1))) fun r13 =>
 (I4 [(demote r13)] [(Box.vals (Box.cells (setAt (bget bs3 0) (0 + (r11 * 1)) r12))), (Box.vals (Box.cells (bget bs3 1))), (Box.vals (Box.cells (bget bs3 2)))]))
 (bindO (partV true 4 0 (bget bs3 0)) fun r14 =>
 bindO (cellsV (demote (demote r14))) fun r15 =>
 (List.length r15) = 4 ∧
 4 ≤ (List.length (bget bs3 2)) ∧
 bindO (partV true 4 0 (setAt (bget bs3 2) 0 r15)) fun r16 =>
 (SV.noRef (demote r16)) = true ∧
 (K (demote r16))))
 [(.d (.int .i64 0))] [(Box.vals (Box.cells r0)), (Box.vals (Box.cells r1)), [(.d (.int .u64 0)), (.d (.int .u64 0)), (.d (.int .u64 0)), (.d (.int .u64 0))]])) := by kernel_rfl

theorem body79 (C : Con) (x0 x1 x2 : SV) (K : SV → Prop) : body Go.Proofs.Tryz.prog gl C h79 79 [x0, x1, x2] K = (
 wfP [x0, x1, x2] (
 bindO (cellsV (demote x0)) fun r0 =>
 (List.length r0) = 17 ∧
 callP C 89 [(demote (demote (demote x1)))] fun r1 =>
 bindO (binV (some (false, [.int])) .eql (demote r1) (.d (.int .i64 0))) fun r2 =>
 ifP (demote r2)
 (loopP (fun vs3 bs4 I5 =>
 bindO (partV false 1 4 (bget bs4 0)) fun r6 =>
 bindO (lenL (demote (demote r6))) fun r7 =>
 bindO (binV none .lss (demote (demote (vget vs3 1))) (demote r7)) fun r8 =>
 ifP r8
 (bindO (partV false 1 4 (bget bs4 0)) fun r9 =>
 bindO (elemPtr 11 (demote (demote r9)) (demote (demote (vget vs3 1)))) fun r10 =>
 bindO (addOffV (demote r10) 0) fun r11 =>
 bindO (loadV false 1 (demote r11)) fun r12 =>
 bindO (binV (some (false, [.str])) .eql (demote r12) (demote (demote (vget vs3 0)))) fun r13 =>
 ifP r13
 (bindO (partsS [(0, (.v (demote (demote (vget vs3 1)))))]) fun r14 =>
 (partsFit 1 1 r14) = true ∧
 callP C 62 [(.full 1 (buildElems (mkElem false [(.int .i64 0)]) r14 1 0))] fun r15 =>
 bindO (cellsV (demote r15)) fun r16 =>
 (List.length r16) = 4 ∧
 4 ≤ (List.length (bget bs4 1)) ∧
 bindO (partV true 4 0 (setAt (bget bs4 1) 0 r16)) fun r17 =>
 (SV.noRef (demote r17)) = true ∧
 (SV.noRef (.d (.bool true))) = true ∧
 (K (.tup [(demote r17), (.d (.bool true))])))
 (bindO (binV none .add (demote (demote (vget vs3 1))) (.d (.int .i64 1))) fun r18 =>
 (I5 [(vget vs3 0), (demote r18)] [(Box.vals (Box.cells (bget bs4 0))), (Box.vals (Box.cells (bget bs4 1)))])))
 (bindO (partsS []) fun r19 =>
 bindO (buildD Proofs.Tryz.prog 25 r19) fun r20 =>
 bindO (cellsV (.d r20)) fun r21 =>
 (List.length r21) = 4 ∧
 4 ≤ (List.length (bget bs4 1)) ∧
 bindO (partV true 4 0 (setAt (bget bs4 1) 0 r21)) fun r22 =>
 (SV.noRef (demote r22)) = true ∧
 (SV.noRef (.d (.bool false))) = true ∧
 (K (.tup [(demote r22), (.d (.bool false))]))))
 [x2, (.d (.int .i64 0))] [(Box.vals (Box.cells r0)), [(.d (.int .u64 0)), (.d (.int .u64 0)), (.d (.int .u64 0)), (.d (.int .u64 0))]])
 (bindO (binV (some (false, [.int])) .eql (demote r1) (.d (.int .i64 1))) fun r23 =>
 ifP (demote r23)
 (loopP (fun vs24 bs25 I26 =>
 bindO (partV false 1 3 (bget bs25 0)) fun r27 =>
 bindO (lenL (demote (demote r27))) fun r28 =>
 bindO (binV none .lss (demote (demote (vget vs24 1))) (demote r28)) fun r29 =>
 ifP r29
 (bindO (partV false 1 3 (bget bs25 0)) fun r30 =>
 bindO (elemPtr 9 (demote (demote r30)) (demote (demote (vget vs24 1)))) fun r31 =>
 bindO (addOffV (demote r31) 0) fun r32 =>
 bindO (loadV false 1 (demote r32)) fun r33 =>
 bindO (binV (some (false, [.str])) .eql (demote r33) (demote (demote (vget vs24 0)))) fun r34 =>
 ifP r34
 (bindO (partsS [(0, (.v (demote (demote (vget vs24 1)))))]) fun r35 =>
 (partsFit 1 1 r35) = true ∧
 callP C 62 [(.full 1 (buildElems (mkElem false [(.int .i64 0)]) r35 1 0))] fun r36 =>
 bindO (cellsV (demote r36)) fun r37 =>
 (List.length r37) = 4 ∧
 4 ≤ (List.length (bget bs25 1)) ∧
 bindO (partV true 4 0 (setAt (bget bs25 1) 0 r37)) fun r38 =>
 (SV.noRef (demote r38)) = true ∧
 (SV.noRef (.d (.bool true))) = true ∧
 (K (.tup [(demote r38), (.d (.bool true))])))
 (bindO (binV none .add (demote (demote (vget vs24 1))) (.d (.int .i64 1))) fun r39 =>
 (I26 [(vget vs24 0), (demote r39)] [(Box.vals (Box.cells (bget bs25 0))), (Box.vals (Box.cells (bget bs25 1)))])))
 (bindO (partsS []) fun r40 =>
 bindO (buildD Proofs.Tryz.prog 25 r40) fun r41 =>
 bindO (cellsV (.d r41)) fun r42 =>
 (List.length r42) = 4 ∧
 4 ≤ (List.length (bget bs25 1)) ∧
 bindO (partV true 4 0 (setAt (bget bs25 1) 0 r42)) fun r43 =>
 (SV.noRef (demote r43)) = true ∧
 (SV.noRef (.d (.bool false))) = true ∧
 (K (.tup [(demote r43), (.d (.bool false))]))))
 [x2, (.d (.int .i64 0))] [(Box.vals (Box.cells r0)), [(.d (.int .u64 0)), (.d (.int .u64 0)), (.d (.int .u64 0)), (.d (.int .u64 0))]])
 (loopP (fun vs44 bs45 I46 =>
 bindO (partV false 1 1 (bget bs45 0)) fun r47 =>
 bindO (lenL (demote (demote r47))) fun r48 =>
 bindO (binV none .lss (demote (demote (vget vs44 1))) (demote r48)) fun r49 =>
 ifP r49
 (bindO (partV false 1 1 (bget bs45 0)) fun r50 =>
 bindO (elemPtr 3 (demote (demote r50)) (demote (demote (vget vs44 1)))) fun r51 =>
 bindO (addOffV (demote r51) 0) fun r52 =>
 bindO (loadV false 1 (demote r52)) fun r53 =>
 bindO (binV (some (false, [.str])) .eql (demote r53) (demote (demote (vget vs44 0)))) fun r54 =>
 loopP (fun vs55 bs56 I57 =>
 bindO (partV false 1 1 (bget bs56 0)) fun r58 =>
 bindO (elemPtr 3 (demote (demote r58)) (demote (demote (vget vs55 1)))) fun r59 =>
 bindO (addOffV (demote r59) 1) fun r60 =>
 bindO (loadV false 1 (demote r60)) fun r61 =>
 bindO (lenL (demote r61)) fun r62 =>
 bindO (binV none .lss (demote (demote (vget vs55 3))) (demote r62)) fun r63 =>
 ifP r63
 (ifP (demote (demote (vget vs55 2)))
 (bindO (binV none .add (demote (demote (vget vs55 3))) (.d (.int .i64 1))) fun r64 =>
 (I57 [(vget vs55 0), (vget vs55 1), (.d (.bool true)), (demote r64)] [(Box.vals (Box.cells (bget bs56 0))), (Box.vals (Box.cells (bget bs56 1)))]))
 (bindO (partV false 1 1 (bget bs56 0)) fun r65 =>
 bindO (elemPtr 3 (demote (demote r65)) (demote (demote (vget vs55 1)))) fun r66 =>
 bindO (addOffV (demote r66) 1) fun r67 =>
 bindO (loadV false 1 (demote r67)) fun r68 =>
 bindO (elemPtr 1 (demote r68) (demote (demote (vget vs55 3)))) fun r69 =>
 bindO (loadV false 1 (demote r69)) fun r70 =>
 bindO (binV (some (false, [.str])) .eql (demote r70) (demote (demote (vget vs55 0)))) fun r71 =>
 bindO (binV none .add (demote (demote (vget vs55 3))) (.d (.int .i64 1))) fun r72 =>
 (I57 [(vget vs55 0), (vget vs55 1), (demote (demote r71)), (demote r72)] [(Box.vals (Box.cells (bget bs56 0))), (Box.vals (Box.cells (bget bs56 1)))])))
 (ifP (demote (vget vs55 2))
 (bindO (partsS [(0, (.v (demote (demote (vget vs55 1)))))]) fun r73 =>
 (partsFit 1 1 r73) = true ∧
 callP C 62 [(.full 1 (buildElems (mkElem false [(.int .i64 0)]) r73 1 0))] fun r74 =>
 bindO (cellsV (demote r74)) fun r75 =>
 (List.length r75) = 4 ∧
 4 ≤ (List.length (bget bs56 1)) ∧
 bindO (partV true 4 0 (setAt (bget bs56 1) 0 r75)) fun r76 =>
 (SV.noRef (demote r76)) = true ∧
 (SV.noRef (.d (.bool true))) = true ∧
 (K (.tup [(demote r76), (.d (.bool true))])))
 (bindO (binV none .add (demote (demote (vget vs55 1))) (.d (.int .i64 1))) fun r77 =>
 (I46 [(vget vs55 0), (demote r77)] [(Box.vals (Box.cells (bget bs56 0))), (Box.vals (Box.cells (bget bs56 1)))]))))
 [(vget vs44 0), (vget vs44 1), (demote r54), (.d (.int .i64 0))] [(Box.vals (Box.cells (bget bs45 0))), (Box.vals (Box.cells (bget bs45 1)))])
 (loopP (fun vs78 bs79 I80 =>
 bindO (partV false 1 2 (bget bs79 0)) fun r81 =>
 bindO (lenL (demote (demote r81))) fun r82 =>
 bindO (binV none .lss (demote (demote (vget vs78 1))) (demote r82)) fun r83 =>
 ifP r83
 (bindO (partV false 1 2 (bget bs79 0)) fun r84 =>
 bindO (elemPtr 5 (demote (demote r84)) (demote (demote (vget vs78 1)))) fun r85 =>
 bindO (addOffV (demote r85) 0) fun r86 =>
 bindO (loadV false 1 (demote r86)) fun r87 =>
 bindO (binV (some (false, [.str])) .eql (demote r87) (demote (demote (vget vs78 0)))) fun r88 =>
 ifP r88
 (bindO (partV false 1 2 (bget bs79 0)) fun r89 =>
 bindO (elemPtr 5 (demote (demote r89)) (demote (demote (vget vs78 1)))) fun r90 =>
 bindO (addOffV (demote r90) 1) fun r91 =>
 bindO (loadV true 4 (demote r91)) fun r92 =>
 bindO (cellsV (demote r92)) fun r93 =>
 (List.length r93) = 4 ∧
 4 ≤ (List.length (bget bs79 1)) ∧
 bindO (partV true 4 0 (setAt (bget bs79 1) 0 r93)) fun r94 =>
 (SV.noRef (demote r94)) = true ∧
 (SV.noRef (.d (.bool true))) = true ∧
 (K (.tup [(demote r94), (.d (.bool true))])))
 (bindO (binV none .add (demote (demote (vget vs78 1))) (.d (.int .i64 1))) fun r95 =>
 (I80 [(vget vs78 0), (demote r95)] [(Box.vals (Box.cells (bget bs79 0))), (Box.vals (Box.cells (bget bs79 1)))])))
 (bindO (partsS []) fun r96 =>
 bindO (buildD Proofs.Tryz.prog 25 r96) fun r97 =>
 bindO (cellsV (.d r97)) fun r98 =>
 (List.length r98) = 4 ∧
 4 ≤ (List.length (bget bs79 1)) ∧
 bindO (partV true 4 0 (setAt (bget bs79 1) 0 r98)) fun r99 =>
 (SV.noRef (demote r99)) = true ∧
 (SV.noRef (.d (.bool false))) = true ∧
 (K (.tup [(demote r99), (.d (.bool false))]))))
 [(vget vs44 0), (.d (.int .i64 0))] [(Box.vals (Box.cells (bget bs45 0))), (Box.vals (Box.cells (bget bs45 1)))]))
 [x2, (.d (.int .i64 0))] [(Box.vals (Box.cells r0)), [(.d (.int .u64 0)), (.d (.int .u64 0)), (.d (.int .u64 0)), (.d (.int .u64 0))]])))) := by kernel_rfl

theorem body80 (C : Con) (x0 x1 : SV) (K : SV → Prop) : body Go.Proofs.Tryz.prog gl C h80 80 [x0, x1] K = (
 wfP [x0, x1] (
 bindO (cellsV (demote x0)) fun r0 =>
 (List.length r0) = 4 ∧
 bindO (cellsV (demote x1)) fun r1 =>
 (List.length r1) = 4 ∧
 loopP (fun vs2 bs3 I4 =>
 bindO (binV none .lss (demote (demote (vget vs2 0))) (.d (.int .i64 4))) fun r5 =>
 ifP r5
 (bindO (indexOk (demote (demote (vget vs2 0))) 4) fun r6 =>
 bindO (partV false 1 (0 + (r6 * 1)) (bget bs3 0)) fun r7 =>
 bindO (indexOk (demote (demote (vget vs2 0))) 4) fun r8 =>
 bindO (partV false 1 (0 + (r8 * 1)) (bget bs3 1)) fun r9 =>
 bindO (binV none .or (demote (demote r7)) (demote (demote r9))) fun r10 =>
 bindO (indexOk (demote (demote (vget vs2 0))) 4) fun r11 =>
 bindO (cellsV (demote r10)) fun r12 =>
 (List.length r12) = 1 ∧
 ((0 + (r11 * 1)) + 1) ≤ (List.length (bget bs3 0)) ∧
 bindO (binV none .add (demote (demote (vget vs2 0))) (.d (.int .i64 1))) fun r13 =>
 (I4 [(demote r13)] [(Box.vals (Box.cells (setAt (bget bs3 0) (0 + (r11 * 1)) r12))), (Box.vals (Box.cells (bget bs3 1))), (Box.vals (Box.cells (bget bs3 2)))]))
 (bindO (partV true 4 0 (bget bs3 0)) fun r14 =>
 bindO (cellsV (demote (demote r14))) fun r15 =>
 (List.length r15) = 4 ∧
 4 ≤ (List.length (bget bs3 2)) ∧
 bindO (partV true 4 0 (setAt (bget bs3 2) 0 r15)) fun r16 =>
 (SV.noRef (demote r16)) = true ∧
 (K (demote r16))))
 [(.d (.int .i64 0))] [(Box.vals (Box.cells r0)), (Box.vals (Box.cells r1)), [(.d (.int .u64 0)), (.d (.int .u64 0)), (.d (.int .u64 0)), (.d (.int .u64 0))]])) := by kernel_rfl

theorem body81 (C : Con) (x0 x1 : SV) (K : SV → Prop) : body Go.Proofs.Tryz.prog gl C h81 81 [x0, x1] K = (
 wfP [x0, x1] (
 bindO (cellsV (demote x0)) fun r0 =>
 (List.length r0) = 4 ∧
 callP C 124 [(demote (demote (demote x1)))] fun r1 =>
 ifP (demote r1)
 (bindO (binV none .quo (demote (demote x1)) (.d (.int .i64 64))) fun r2 =>
 bindO (indexOk (demote r2) 4) fun r3 =>
 bindO (partV false 1 (0 + (r3 * 1)) r0) fun r4 =>
 bindO (binV none .rem (demote (demote x1)) (.d (.int .i64 64))) fun r5 =>
 bindO (binV none .shr (demote (demote r4)) (demote r5)) fun r6 =>
 bindO (binV none .and (demote r6) (.d (.int .u64 1))) fun r7 =>
 bindO (binV (some (false, [.int])) .eql (demote r7) (.d (.int .u64 1))) fun r8 =>
 (SV.noRef (demote (demote r8))) = true ∧
 (K (demote (demote r8))))
 ((SV.noRef (.d (.bool false))) = true ∧
 (K (.d (.bool false)))))) := by kernel_rfl

theorem body82 (C : Con) (x0 : SV) (K : SV → Prop) : body Go.Proofs.Tryz.prog gl C h82 82 [x0] K = (
 wfP [x0] (
 bindO (binV none .rem (demote (demote x0)) (.d (.int .i64 5))) fun r0 =>
 bindO (binV (some (false, [.int])) .eql (demote r0) (.d (.int .i64 0))) fun r1 =>
 ifP (demote r1)
 (bindO (partsS []) fun r2 =>
 bindO (buildD Proofs.Tryz.prog 174 r2) fun r3 =>
 bindO (ifaceV 174 (.d r3)) fun r4 =>
 (SV.noRef (demote r4)) = true ∧
 (K (demote r4)))
 (bindO (binV (some (false, [.int])) .eql (demote r0) (.d (.int .i64 1))) fun r5 =>
 ifP (demote r5)
 (bindO (partsS []) fun r6 =>
 bindO (buildD Proofs.Tryz.prog 175 r6) fun r7 =>
 bindO (ifaceV 175 (.d r7)) fun r8 =>
 (SV.noRef (demote r8)) = true ∧
 (K (demote r8)))
 (bindO (binV (some (false, [.int])) .eql (demote r0) (.d (.int .i64 2))) fun r9 =>
 ifP (demote r9)
 (bindO (partsS []) fun r10 =>
 bindO (buildD Proofs.Tryz.prog 176 r10) fun r11 =>
 bindO (ifaceV 176 (.d r11)) fun r12 =>
 (SV.noRef (demote r12)) = true ∧
 (K (demote r12)))
 (bindO (binV none .rem (demote (demote x0)) (.d (.int .i64 5))) fun r13 =>
 bindO (binV (some (false, [.int])) .eql (demote r13) (.d (.int .i64 4))) fun r14 =>
 bindO (partsS [(0, (.v (demote r14)))]) fun r15 =>
 bindO (buildD Proofs.Tryz.prog 178 r15) fun r16 =>
 bindO (ifaceV 178 (.d r16)) fun r17 =>
 (SV.noRef (demote r17)) = true ∧
 (K (demote r17))))))) := by kernel_rfl

theorem body83 (C : Con) (x0 x1 : SV) (K : SV → Prop) : body Go.Proofs.Tryz.prog gl C h83 83 [x0, x1] K = (
 wfP [x0, x1] (
 bindO (cellsV (demote x0)) fun r0 =>
 (List.length r0) = 21 ∧
 bindO (binV none .quo (demote (demote x1)) (.d (.int .i64 5))) fun r1 =>
 bindO (binV (some (false, [.int])) .eql (demote r1) (.d (.int .i64 0))) fun r2 =>
 ifP (demote r2)
 (bindO (partV true 7 0 r0) fun r3 =>
 bindO (cellsV (demote (demote r3))) fun r4 =>
 (List.length r4) = 7 ∧
 7 ≤ 7 ∧
 bindO (partV true 7 0 (setAt [(.d (.int .i64 0)), (.d (.int .i64 0)), (.d (.int .i64 0)), (.d (.int .i64 0)), (.d (.int .u64 0)), (.d (.int .i64 0)), (.d (.int .u64 0))] 0 r4)) fun r5 =>
 (SV.noRef (demote r5)) = true ∧
 (K (demote r5)))
 (bindO (binV (some (false, [.int])) .eql (demote r1) (.d (.int .i64 1))) fun r6 =>
 ifP (demote r6)
 (bindO (partV true 7 7 r0) fun r7 =>
 bindO (cellsV (demote (demote r7))) fun r8 =>
 (List.length r8) = 7 ∧
 7 ≤ 7 ∧
 bindO (partV true 7 0 (setAt [(.d (.int .i64 0)), (.d (.int .i64 0)), (.d (.int .i64 0)), (.d (.int .i64 0)), (.d (.int .u64 0)), (.d (.int .i64 0)), (.d (.int .u64 0))] 0 r8)) fun r9 =>
 (SV.noRef (demote r9)) = true ∧
 (K (demote r9)))
 (bindO (partV true 7 14 r0) fun r10 =>
 bindO (cellsV (demote (demote r10))) fun r11 =>
 (List.length r11) = 7 ∧
 7 ≤ 7 ∧
 bindO (partV true 7 0 (setAt [(.d (.int .i64 0)), (.d (.int .i64 0)), (.d (.int .i64 0)), (.d (.int .i64 0)), (.d (.int .u64 0)), (.d (.int .i64 0)), (.d (.int .u64 0))] 0 r11)) fun r12 =>
 (SV.noRef (demote r12)) = true ∧
 (K (demote r12)))))) := by kernel_rfl

theorem body84 (C : Con) (x0 x1 : SV) (K : SV → Prop) : body Go.Proofs.Tryz.prog gl C h84 84 [x0, x1] K = (
 wfP [x0, x1] (
 bindO (cellsV (demote x0)) fun r0 =>
 (List.length r0) = 10 ∧
 bindO (cellsV (demote x1)) fun r1 =>
 (List.length r1) = 21 ∧
 bindO (partV false 1 1 r0) fun r2 =>
 callP C 82 [(demote (demote (demote r2)))] fun r3 =>
 bindO (partV false 1 3 r0) fun r4 =>
 callP C 82 [(demote (demote (demote r4)))] fun r5 =>
 bindO (partV true 21 0 r1) fun r6 =>
 bindO (partV false 1 1 r0) fun r7 =>
 callP C 83 [(demote (demote (demote r6))), (demote (demote (demote r7)))] fun r8 =>
 bindO (partV true 21 0 r1) fun r9 =>
 bindO (partV false 1 3 r0) fun r10 =>
 callP C 83 [(demote (demote (demote r9))), (demote (demote (demote r10)))] fun r11 =>
 bindO (cellsV (demote r8)) fun r12 =>
 (List.length r12) = 7 ∧
 7 ≤ 7 ∧
 bindO (cellsV (demote r11)) fun r13 =>
 (List.length r13) = 7 ∧
 7 ≤ 7 ∧
 bindO (partV false 1 1 r0) fun r14 =>
 callP C 75 [(demote (demote (demote r14)))] fun r15 =>
 bindO (unV .not (demote r15)) fun r16 =>
 ifP r16
 (bindO (partV true 7 0 (setAt [(.d (.int .i64 0)), (.d (.int .i64 0)), (.d (.int .i64 0)), (.d (.int .i64 0)), (.d (.int .u64 0)), (.d (.int .i64 0)), (.d (.int .u64 0))] 0 r12)) fun r17 =>
 withMeth Proofs.Tryz.prog (demote (demote (demote r3))) "accesscontrol/constraint.number" [(demote (demote (demote r17)))] fun f18 l19 =>
 callP C f18 l19 fun r20 =>
 bindO (partV true 7 0 (setAt [(.d (.int .i64 0)), (.d (.int .i64 0)), (.d (.int .i64 0)), (.d (.int .i64 0)), (.d (.int .u64 0)), (.d (.int .i64 0)), (.d (.int .u64 0))] 0 r13)) fun r21 =>
 withMeth Proofs.Tryz.prog (demote (demote (demote r5))) "accesscontrol/constraint.number" [(demote (demote (demote r21)))] fun f22 l23 =>
 callP C f22 l23 fun r24 =>
 bindO (binV (some (false, [.int])) .eql (demote r20) (demote r24)) fun r25 =>
 bindO (partV false 1 2 r0) fun r26 =>
 bindO (binV (some (false, [.int])) .eql (demote (demote r26)) (.d (.int .i64 0))) fun r27 =>
 bindO (binV (some (false, [.bool])) .eql (demote r25) (demote r27)) fun r28 =>
 (SV.noRef (demote r28)) = true ∧
 (K (demote r28)))
 (bindO (partV true 7 0 (setAt [(.d (.int .i64 0)), (.d (.int .i64 0)), (.d (.int .i64 0)), (.d (.int .i64 0)), (.d (.int .u64 0)), (.d (.int .i64 0)), (.d (.int .u64 0))] 0 r12)) fun r29 =>
 withMeth Proofs.Tryz.prog (demote (demote (demote r3))) "accesscontrol/constraint.grade" [(demote (demote (demote r29)))] fun f30 l31 =>
 callP C f30 l31 fun r32 =>
 bindO (partV true 7 0 (setAt [(.d (.int .i64 0)), (.d (.int .i64 0)), (.d (.int .i64 0)), (.d (.int .i64 0)), (.d (.int .u64 0)), (.d (.int .i64 0)), (.d (.int .u64 0))] 0 r13)) fun r33 =>
 withMeth Proofs.Tryz.prog (demote (demote (demote r5))) "accesscontrol/constraint.grade" [(demote (demote (demote r33)))] fun f34 l35 =>
 callP C f34 l35 fun r36 =>
 callP C 125 [(demote (demote r32)), (demote (demote r36))] fun r37 =>
 bindO (partV false 1 2 r0) fun r38 =>
 bindO (binV (some (false, [.int])) .eql (demote (demote r38)) (.d (.int .i64 1))) fun r39 =>
 ifP (demote r39)
 (bindO (binV (some (false, [.int])) .neq (demote (demote (demote r37))) (.d (.int .i64 0))) fun r40 =>
 (SV.noRef (demote r40)) = true ∧
 (K (demote r40)))
 (bindO (binV (some (false, [.int])) .eql (demote (demote r38)) (.d (.int .i64 2))) fun r41 =>
 ifP (demote r41)
 (bindO (binV (some (false, [.int])) .eql (demote (demote (demote r37))) (.d (.int .i64 0))) fun r42 =>
 ifP (demote r42)
 ((SV.noRef (.d (.bool true))) = true ∧
 (K (.d (.bool true))))
 (bindO (partV false 1 2 r0) fun r43 =>
 bindO (binV (some (false, [.int])) .eql (demote (demote (demote r37))) (demote (demote r43))) fun r44 =>
 (SV.noRef (demote (demote r44))) = true ∧
 (K (demote (demote r44)))))
 (bindO (binV (some (false, [.int])) .eql (demote (demote r38)) (.d (.int .i64 3))) fun r45 =>
 ifP (demote r45)
 (bindO (binV (some (false, [.int])) .eql (demote (demote (demote r37))) (.d (.int .i64 0))) fun r46 =>
 ifP (demote r46)
 ((SV.noRef (.d (.bool true))) = true ∧
 (K (.d (.bool true))))
 (bindO (partV false 1 2 r0) fun r47 =>
 bindO (binV (some (false, [.int])) .eql (demote (demote (demote r37))) (demote (demote r47))) fun r48 =>
 (SV.noRef (demote (demote r48))) = true ∧
 (K (demote (demote r48)))))
 (bindO (partV false 1 2 r0) fun r49 =>
 bindO (binV (some (false, [.int])) .eql (demote (demote (demote r37))) (demote (demote r49))) fun r50 =>
 (SV.noRef (demote r50)) = true ∧
 (K (demote r50)))))))) := by kernel_rfl

theorem body85 (C : Con) (x0 x1 : SV) (K : SV → Prop) : body Go.Proofs.Tryz.prog gl C h85 85 [x0, x1] K = (
 wfP [x0, x1] (
 bindO (cellsV (demote x0)) fun r0 =>
 (List.length r0) = 10 ∧
 bindO (binV none .leq (demote (demote x1)) (.d (.int .i64 0))) fun r1 =>
 ifP (demote r1)
 ((SV.noRef (.d (.bool false))) = true ∧
 (K (.d (.bool false))))
 (bindO (partV true 10 0 r0) fun r2 =>
 callP C 68 [(demote (demote (demote r2))), (.d (.bool false)), (.d (.bool true))] fun r3 =>
 bindO (binV (some (false, [.int])) .neq (demote r3) (.d (.int .i64 0))) fun r4 =>
 ifP (demote r4)
 ((SV.noRef (.d (.bool false))) = true ∧
 (K (.d (.bool false))))
 (loopP (fun vs5 bs6 I7 =>
 bindO (partV false 1 9 (bget bs6 0)) fun r8 =>
 bindO (lenL (demote (demote r8))) fun r9 =>
 bindO (binV none .lss (demote (demote (vget vs5 1))) (demote r9)) fun r10 =>
 ifP r10
 (bindO (partV false 1 9 (bget bs6 0)) fun r11 =>
 bindO (elemPtr 10 (demote (demote r11)) (demote (demote (vget vs5 1)))) fun r12 =>
 bindO (loadV true 10 (demote r12)) fun r13 =>
 bindO (binV none .sub (demote (demote (vget vs5 0))) (.d (.int .i64 1))) fun r14 =>
 callP C 85 [(demote (demote r13)), (demote (demote r14))] fun r15 =>
 bindO (unV .not (demote r15)) fun r16 =>
 ifP r16
 ((SV.noRef (.d (.bool false))) = true ∧
 (K (.d (.bool false))))
 (bindO (binV none .add (demote (demote (vget vs5 1))) (.d (.int .i64 1))) fun r17 =>
 (I7 [(vget vs5 0), (demote r17)] [(Box.vals (Box.cells (bget bs6 0)))])))
 ((SV.noRef (.d (.bool true))) = true ∧
 (K (.d (.bool true)))))
 [x1, (.d (.int .i64 0))] [(Box.vals (Box.cells r0))])))) := by kernel_rfl

theorem body86 (C : Con) (x0 x1 : SV) (K : SV → Prop) : body Go.Proofs.Tryz.prog gl C h86 86 [x0, x1] K = (
 wfP [x0, x1] (
 bindO (cellsV (demote x0)) fun r0 =>
 (List.length r0) = 10 ∧
 bindO (cellsV (demote x1)) fun r1 =>
 (List.length r1) = 21 ∧
 bindO (partV false 1 0 r0) fun r2 =>
 bindO (binV (some (false, [.int])) .eql (demote (demote r2)) (.d (.int .i64 2))) fun r3 =>
 ifP (demote r3)
 (bindO (partV false 1 9 r0) fun r4 =>
 bindO (elemPtr 10 (demote (demote r4)) (.d (.int .i64 0))) fun r5 =>
 bindO (loadV true 10 (demote r5)) fun r6 =>
 bindO (partV true 21 0 r1) fun r7 =>
 callP C 86 [(demote (demote r6)), (demote (demote (demote r7)))] fun r8 =>
 bindO (unV .not (demote r8)) fun r9 =>
 (SV.noRef (demote r9)) = true ∧
 (K (demote r9)))
 (bindO (binV (some (false, [.int])) .eql (demote (demote r2)) (.d (.int .i64 3))) fun r10 =>
 ifP (demote r10)
 (bindO (partV false 1 9 r0) fun r11 =>
 bindO (elemPtr 10 (demote (demote r11)) (.d (.int .i64 0))) fun r12 =>
 bindO (loadV true 10 (demote r12)) fun r13 =>
 bindO (partV true 21 0 r1) fun r14 =>
 callP C 86 [(demote (demote r13)), (demote (demote (demote r14)))] fun r15 =>
 ifP (demote r15)
 (bindO (partV false 1 9 r0) fun r16 =>
 bindO (elemPtr 10 (demote (demote r16)) (.d (.int .i64 1))) fun r17 =>
 bindO (loadV true 10 (demote r17)) fun r18 =>
 bindO (partV true 21 0 r1) fun r19 =>
 callP C 86 [(demote (demote r18)), (demote (demote (demote r19)))] fun r20 =>
 (SV.noRef (demote (demote r20))) = true ∧
 (K (demote (demote r20))))
 ((SV.noRef (.d (.bool false))) = true ∧
 (K (.d (.bool false)))))
 (bindO (binV (some (false, [.int])) .eql (demote (demote r2)) (.d (.int .i64 4))) fun r21 =>
 ifP (demote r21)
 (bindO (partV false 1 9 r0) fun r22 =>
 bindO (elemPtr 10 (demote (demote r22)) (.d (.int .i64 0))) fun r23 =>
 bindO (loadV true 10 (demote r23)) fun r24 =>
 bindO (partV true 21 0 r1) fun r25 =>
 callP C 86 [(demote (demote r24)), (demote (demote (demote r25)))] fun r26 =>
 ifP (demote r26)
 ((SV.noRef (.d (.bool true))) = true ∧
 (K (.d (.bool true))))
 (bindO (partV false 1 9 r0) fun r27 =>
 bindO (elemPtr 10 (demote (demote r27)) (.d (.int .i64 1))) fun r28 =>
 bindO (loadV true 10 (demote r28)) fun r29 =>
 bindO (partV true 21 0 r1) fun r30 =>
 callP C 86 [(demote (demote r29)), (demote (demote (demote r30)))] fun r31 =>
 (SV.noRef (demote (demote r31))) = true ∧
 (K (demote (demote r31)))))
 (bindO (binV (some (false, [.int])) .eql (demote (demote r2)) (.d (.int .i64 9))) fun r32 =>
 ifP (demote r32)
 (bindO (partV true 4 5 r0) fun r33 =>
 bindO (partV true 21 0 r1) fun r34 =>
 bindO (partV false 1 1 r0) fun r35 =>
 callP C 127 [(demote (demote (demote r34))), (demote (demote (demote r35)))] fun r36 =>
 callP C 126 [(demote (demote (demote r33))), (demote (demote r36))] fun r37 =>
 (SV.noRef (demote r37)) = true ∧
 (K (demote r37)))
 (bindO (partV true 10 0 r0) fun r38 =>
 bindO (partV true 21 0 r1) fun r39 =>
 callP C 128 [(demote (demote (demote r38))), (demote (demote (demote r39)))] fun r40 =>
 (SV.noRef (demote r40)) = true ∧
 (K (demote r40)))))))) := by kernel_rfl

theorem body87 (C : Con) (x0 x1 x2 : SV) (K : SV → Prop) : body Go.Proofs.Tryz.prog gl C h87 87 [x0, x1, x2] K = (
 wfP [x0, x1, x2] (
 bindO (cellsV (demote x0)) fun r0 =>
 (List.length r0) = 17 ∧
 bindO (cellsV (demote x2)) fun r1 =>
 (List.length r1) = 4 ∧
 bindO (partV true 4 0 r1) fun r2 =>
 callP C 129 [(demote (demote (demote r2)))] fun r3 =>
 bindO (lenL (demote r3)) fun r4 =>
 loopP (fun vs5 bs6 I7 =>
 bindO (binV none .lss (demote (vget vs5 4)) (demote (vget vs5 3))) fun r8 =>
 ifP r8
 (bindO (elemPtr 1 (demote (vget vs5 2)) (demote (vget vs5 4))) fun r9 =>
 bindO (loadV false 1 (demote r9)) fun r10 =>
 callP C 76 [(demote (demote (demote (vget vs5 0))))] fun r11 =>
 bindO (binV (some (false, [.int])) .eql (demote r11) (.d (.int .i64 0))) fun r12 =>
 ifP (demote r12)
 (bindO (partV false 1 4 (bget bs6 0)) fun r13 =>
 bindO (elemPtr 11 (demote (demote r13)) (demote (demote (demote r10)))) fun r14 =>
 bindO (addOffV (demote r14) 0) fun r15 =>
 bindO (loadV false 1 (demote r15)) fun r16 =>
 bindO (partsS [(0, (.v (demote r16)))]) fun r17 =>
 (partsFit 1 1 r17) = true ∧
 appP 1 16 (vget vs5 1) (.full 1 (buildElems (mkElem false [(.str [])]) r17 1 0)) fun r18 =>
 bindO (binV none .add (demote (vget vs5 4)) (.d (.int .i64 1))) fun r19 =>
 (I7 [(vget vs5 0), r18, (vget vs5 2), (vget vs5 3), (demote r19)] [(Box.vals (Box.cells (bget bs6 0))), (Box.vals (Box.cells (bget bs6 1)))]))
 (bindO (binV (some (false, [.int])) .eql (demote r11) (.d (.int .i64 1))) fun r20 =>
 ifP (demote r20)
 (bindO (partV false 1 3 (bget bs6 0)) fun r21 =>
 bindO (elemPtr 9 (demote (demote r21)) (demote (demote (demote r10)))) fun r22 =>
 bindO (addOffV (demote r22) 0) fun r23 =>
 bindO (loadV false 1 (demote r23)) fun r24 =>
 bindO (partsS [(0, (.v (demote r24)))]) fun r25 =>
 (partsFit 1 1 r25) = true ∧
 appP 1 16 (vget vs5 1) (.full 1 (buildElems (mkElem false [(.str [])]) r25 1 0)) fun r26 =>
 bindO (binV none .add (demote (vget vs5 4)) (.d (.int .i64 1))) fun r27 =>
 (I7 [(vget vs5 0), r26, (vget vs5 2), (vget vs5 3), (demote r27)] [(Box.vals (Box.cells (bget bs6 0))), (Box.vals (Box.cells (bget bs6 1)))]))
 (bindO (partV false 1 1 (bget bs6 0)) fun r28 =>
 bindO (elemPtr 3 (demote (demote r28)) (demote (demote (demote r10)))) fun r29 =>
 bindO (addOffV (demote r29) 0) fun r30 =>
 bindO (loadV false 1 (demote r30)) fun r31 =>
 bindO (partsS [(0, (.v (demote r31)))]) fun r32 =>
 (partsFit 1 1 r32) = true ∧
 appP 1 16 (vget vs5 1) (.full 1 (buildElems (mkElem false [(.str [])]) r32 1 0)) fun r33 =>
 bindO (binV none .add (demote (vget vs5 4)) (.d (.int .i64 1))) fun r34 =>
 (I7 [(vget vs5 0), r33, (vget vs5 2), (vget vs5 3), (demote r34)] [(Box.vals (Box.cells (bget bs6 0))), (Box.vals (Box.cells (bget bs6 1)))]))))
 ((SV.noRef (vget vs5 1)) = true ∧
 (K (vget vs5 1))))
 [x1, (.d (.sl .nil 0 [])), r3, r4, (.d (.int .i64 0))] [(Box.vals (Box.cells r0)), (Box.vals (Box.cells r1))])) := by kernel_rfl

theorem body88 (C : Con) (x0 : SV) (K : SV → Prop) : body Go.Proofs.Tryz.prog gl C h88 88 [x0] K = (
 wfP [x0] (
 bindO (cellsV (demote x0)) fun r0 =>
 (List.length r0) = 4 ∧
 loopP (fun vs1 bs2 I3 =>
 bindO (binV none .lss (demote (demote (vget vs1 1))) (.d (.int .i64 256))) fun r4 =>
 ifP r4
 (bindO (partV true 4 0 (bget bs2 0)) fun r5 =>
 callP C 126 [(demote (demote (demote r5))), (demote (demote (demote (vget vs1 1))))] fun r6 =>
 ifP r6
 (bindO (partsS [(0, (.v (demote (demote (vget vs1 1)))))]) fun r7 =>
 (partsFit 1 1 r7) = true ∧
 appP 1 8 (vget vs1 0) (.full 1 (buildElems (mkElem false [(.int .i64 0)]) r7 1 0)) fun r8 =>
 bindO (binV none .add (demote (demote (vget vs1 1))) (.d (.int .i64 1))) fun r9 =>
 (I3 [r8, (demote r9)] [(Box.vals (Box.cells (bget bs2 0)))]))
 (bindO (binV none .add (demote (demote (vget vs1 1))) (.d (.int .i64 1))) fun r10 =>
 (I3 [(vget vs1 0), (demote r10)] [(Box.vals (Box.cells (bget bs2 0)))])))
 ((SV.noRef (vget vs1 0)) = true ∧
 (K (vget vs1 0))))
 [(.d (.sl .nil 0 [])), (.d (.int .i64 0))] [(Box.vals (Box.cells r0))])) := by kernel_rfl

theorem body89 (C : Con) (x0 : SV) (K : SV → Prop) : body Go.Proofs.Tryz.prog gl C h89 89 [x0] K = (
 wfP [x0] (
 bindO (binV none .rem (demote (demote x0)) (.d (.int .i64 5))) fun r0 =>
 bindO (foldIntV minD (demote r0) [(.d (.int .i64 3))]) fun r1 =>
 (SV.noRef (demote r1)) = true ∧
 (K (demote r1)))) := by kernel_rfl

theorem body106 (C : Con) (x0 x1 : SV) (K : SV → Prop) : body Go.Proofs.Tryz.prog gl C h106 106 [x0, x1] K = (
 wfP [x0, x1] (
 bindO (cellsV (demote x0)) fun r0 =>
 (List.length r0) = 4 ∧
 bindO (binV none .geq (demote (demote x1)) (.d (.int .i64 0))) fun r1 =>
 ifP (demote r1)
 (bindO (binV none .lss (demote (demote x1)) (.d (.int .i64 256))) fun r2 =>
 ifP (demote r2)
 (bindO (binV none .quo (demote (demote x1)) (.d (.int .i64 64))) fun r3 =>
 bindO (binV none .quo (demote (demote x1)) (.d (.int .i64 64))) fun r4 =>
 bindO (indexOk (demote r4) 4) fun r5 =>
 bindO (partV false 1 (0 + (r5 * 1)) r0) fun r6 =>
 callP C 139 [(demote (demote (demote x1)))] fun r7 =>
 bindO (binV none .or (demote (demote r6)) (demote r7)) fun r8 =>
 bindO (indexOk (demote r3) 4) fun r9 =>
 bindO (cellsV (demote r8)) fun r10 =>
 (List.length r10) = 1 ∧
 ((0 + (r9 * 1)) + 1) ≤ (List.length r0) ∧
 bindO (partV true 4 0 (setAt r0 (0 + (r9 * 1)) r10)) fun r11 =>
 bindO (cellsV (demote (demote r11))) fun r12 =>
 (List.length r12) = 4 ∧
 4 ≤ 4 ∧
 bindO (partV true 4 0 (setAt [(.d (.int .u64 0)), (.d (.int .u64 0)), (.d (.int .u64 0)), (.d (.int .u64 0))] 0 r12)) fun r13 =>
 (SV.noRef (demote r13)) = true ∧
 (K (demote r13)))
 (bindO (partV true 4 0 r0) fun r14 =>
 bindO (cellsV (demote (demote r14))) fun r15 =>
 (List.length r15) = 4 ∧
 4 ≤ 4 ∧
 bindO (partV true 4 0 (setAt [(.d (.int .u64 0)), (.d (.int .u64 0)), (.d (.int .u64 0)), (.d (.int .u64 0))] 0 r15)) fun r16 =>
 (SV.noRef (demote r16)) = true ∧
 (K (demote r16))))
 (bindO (partV true 4 0 r0) fun r17 =>
 bindO (cellsV (demote (demote r17))) fun r18 =>
 (List.length r18) = 4 ∧
 4 ≤ 4 ∧
 bindO (partV true 4 0 (setAt [(.d (.int .u64 0)), (.d (.int .u64 0)), (.d (.int .u64 0)), (.d (.int .u64 0))] 0 r18)) fun r19 =>
 (SV.noRef (demote r19)) = true ∧
 (K (demote r19))))) := by kernel_rfl

theorem body108 (C : Con) (x0 x1 : SV) (K : SV → Prop) : body Go.Proofs.Tryz.prog gl C h108 108 [x0, x1] K = (
 wfP [x0, x1] (
 bindO (cellsV (demote x0)) fun r0 =>
 (List.length r0) = 4 ∧
 bindO (cellsV (demote x1)) fun r1 =>
 (List.length r1) = 4 ∧
 loopP (fun vs2 bs3 I4 =>
 bindO (binV none .lss (demote (vget vs2 0)) (.d (.int .i64 4))) fun r5 =>
 ifP r5
 (bindO (indexOk (demote (demote (demote (demote (vget vs2 0))))) 4) fun r6 =>
 bindO (partV false 1 (0 + (r6 * 1)) (bget bs3 0)) fun r7 =>
 bindO (indexOk (demote (demote (demote (demote (vget vs2 0))))) 4) fun r8 =>
 bindO (partV false 1 (0 + (r8 * 1)) (bget bs3 1)) fun r9 =>
 bindO (binV none .and (demote (demote r7)) (demote (demote r9))) fun r10 =>
 bindO (indexOk (demote (demote (demote (demote (vget vs2 0))))) 4) fun r11 =>
 bindO (cellsV (demote r10)) fun r12 =>
 (List.length r12) = 1 ∧
 ((0 + (r11 * 1)) + 1) ≤ (List.length (bget bs3 0)) ∧
 bindO (binV none .add (demote (vget vs2 0)) (.d (.int .i64 1))) fun r13 =>
 (I4 [(demote r13)] [(Box.vals (Box.cells (setAt (bget bs3 0) (0 + (r11 * 1)) r12))), (Box.vals (Box.cells (bget bs3 1))), (Box.vals (Box.cells (bget bs3 2)))]))
 (bindO (partV true 4 0 (bget bs3 0)) fun r14 =>
 bindO (cellsV (demote (demote r14))) fun r15 =>
 (List.length r15) = 4 ∧
 4 ≤ (List.length (bget bs3 2)) ∧
 bindO (partV true 4 0 (setAt (bget bs3 2) 0 r15)) fun r16 =>
 (SV.noRef (demote r16)) = true ∧
 (K (demote r16))))
 [(.d (.int .i64 0))] [(Box.vals (Box.cells r0)), (Box.vals (Box.cells r1)), [(.d (.int .u64 0)), (.d (.int .u64 0)), (.d (.int .u64 0)), (.d (.int .u64 0))]])) := by kernel_rfl

theorem body109 (C : Con) (x0 x1 : SV) (K : SV → Prop) : body Go.Proofs.Tryz.prog gl C h109 109 [x0, x1] K = (
 wfP [x0, x1] (
 bindO (cellsV (demote x0)) fun r0 =>
 (List.length r0) = 4 ∧
 callP C 124 [(demote (demote (demote x1)))] fun r1 =>
 ifP r1
 (bindO (binV none .quo (demote (demote x1)) (.d (.int .i64 64))) fun r2 =>
 bindO (indexOk (demote r2) 4) fun r3 =>
 bindO (partV false 1 (0 + (r3 * 1)) r0) fun r4 =>
 bindO (binV none .rem (demote (demote x1)) (.d (.int .i64 64))) fun r5 =>
 bindO (binV none .shl (.d (.int .u64 1)) (demote r5)) fun r6 =>
 bindO (binV none .or (demote (demote r4)) (demote r6)) fun r7 =>
 bindO (indexOk (demote r2) 4) fun r8 =>
 bindO (cellsV (demote r7)) fun r9 =>
 (List.length r9) = 1 ∧
 ((0 + (r8 * 1)) + 1) ≤ (List.length r0) ∧
 bindO (partV true 4 0 (setAt r0 (0 + (r8 * 1)) r9)) fun r10 =>
 bindO (cellsV (demote (demote r10))) fun r11 =>
 (List.length r11) = 4 ∧
 4 ≤ 4 ∧
 bindO (partV true 4 0 (setAt [(.d (.int .u64 0)), (.d (.int .u64 0)), (.d (.int .u64 0)), (.d (.int .u64 0))] 0 r11)) fun r12 =>
 (SV.noRef (demote r12)) = true ∧
 (K (demote r12)))
 (bindO (partV true 4 0 r0) fun r13 =>
 bindO (cellsV (demote (demote r13))) fun r14 =>
 (List.length r14) = 4 ∧
 4 ≤ 4 ∧
 bindO (partV true 4 0 (setAt [(.d (.int .u64 0)), (.d (.int .u64 0)), (.d (.int .u64 0)), (.d (.int .u64 0))] 0 r14)) fun r15 =>
 (SV.noRef (demote r15)) = true ∧
 (K (demote r15))))) := by kernel_rfl

theorem body110 (C : Con) (x0 x1 : SV) (K : SV → Prop) : body Go.Proofs.Tryz.prog gl C h110 110 [x0, x1] K = (
 wfP [x0, x1] (
 bindO (cellsV (demote x0)) fun r0 =>
 (List.length r0) = 10 ∧
 bindO (partV false 1 0 r0) fun r1 =>
 callP C 111 [(demote (demote (demote r1)))] fun r2 =>
 bindO (partV false 1 9 r0) fun r3 =>
 bindO (lenL (demote (demote r3))) fun r4 =>
 bindO (binV (some (false, [.int])) .neq (demote r2) (demote r4)) fun r5 =>
 ifP (demote r5)
 ((SV.noRef (.d (.bool false))) = true ∧
 (K (.d (.bool false))))
 (bindO (partV false 1 0 r0) fun r6 =>
 bindO (binV (some (false, [.int])) .neq (demote (demote r6)) (.d (.int .i64 8))) fun r7 =>
 ifP (demote r7)
 (bindO (partV false 1 2 r0) fun r8 =>
 bindO (binV (some (false, [.int])) .neq (demote (demote r8)) (.d (.int .i64 0))) fun r9 =>
 ifP (demote r9)
 ((SV.noRef (.d (.bool false))) = true ∧
 (K (.d (.bool false))))
 (bindO (partV false 1 3 r0) fun r10 =>
 bindO (binV (some (false, [.int])) .neq (demote (demote r10)) (.d (.int .i64 0))) fun r11 =>
 ifP (demote (demote (demote (demote r11))))
 ((SV.noRef (.d (.bool false))) = true ∧
 (K (.d (.bool false))))
 (bindO (partV false 1 0 r0) fun r12 =>
 callP C 111 [(demote (demote (demote r12)))] fun r13 =>
 bindO (binV none .gtr (demote r13) (.d (.int .i64 0))) fun r14 =>
 ifP (demote r14)
 (bindO (partV false 1 1 r0) fun r15 =>
 bindO (binV (some (false, [.int])) .neq (demote (demote r15)) (.d (.int .i64 0))) fun r16 =>
 ifP (demote (demote r16))
 ((SV.noRef (.d (.bool false))) = true ∧
 (K (.d (.bool false))))
 (bindO (partV false 1 0 r0) fun r17 =>
 bindO (binV (some (false, [.int])) .eql (demote (demote r17)) (.d (.int .i64 9))) fun r18 =>
 ifP (demote r18)
 (ifP (demote (demote x1))
 (bindO (partV true 4 5 r0) fun r19 =>
 bindO (partV true 4 0 [(.d (.int .u64 0)), (.d (.int .u64 0)), (.d (.int .u64 0)), (.d (.int .u64 0))]) fun r20 =>
 bindO (binV (some (true, [.int, .int, .int, .int])) .eql (demote (demote r19)) (demote (demote r20))) fun r21 =>
 ifP (demote r21)
 (bindO (partV false 1 4 r0) fun r22 =>
 bindO (lenL (demote (demote r22))) fun r23 =>
 bindO (binV none .gtr (demote r23) (.d (.int .i64 0))) fun r24 =>
 (SV.noRef (demote (demote r24))) = true ∧
 (K (demote (demote r24))))
 ((SV.noRef (.d (.bool false))) = true ∧
 (K (.d (.bool false)))))
 (bindO (partV false 1 4 r0) fun r25 =>
 bindO (lenL (demote (demote r25))) fun r26 =>
 bindO (binV (some (false, [.int])) .eql (demote r26) (.d (.int .i64 0))) fun r27 =>
 ifP (demote r27)
 (bindO (partV false 1 0 r0) fun r28 =>
 bindO (binV (some (false, [.int])) .eql (demote (demote r28)) (.d (.int .i64 9))) fun r29 =>
 ifP (demote r29)
 ((SV.noRef (.d (.bool true))) = true ∧
 (K (.d (.bool true))))
 (bindO (partV true 4 5 r0) fun r30 =>
 bindO (partV true 4 0 [(.d (.int .u64 0)), (.d (.int .u64 0)), (.d (.int .u64 0)), (.d (.int .u64 0))]) fun r31 =>
 bindO (binV (some (true, [.int, .int, .int, .int])) .eql (demote (demote r30)) (demote (demote r31))) fun r32 =>
 (SV.noRef (demote (demote (demote r32)))) = true ∧
 (K (demote (demote (demote r32))))))
 ((SV.noRef (.d (.bool false))) = true ∧
 (K (.d (.bool false))))))
 (bindO (partV false 1 4 r0) fun r33 =>
 bindO (lenL (demote (demote r33))) fun r34 =>
 bindO (binV (some (false, [.int])) .eql (demote r34) (.d (.int .i64 0))) fun r35 =>
 ifP (demote r35)
 (bindO (partV false 1 0 r0) fun r36 =>
 bindO (binV (some (false, [.int])) .eql (demote (demote r36)) (.d (.int .i64 9))) fun r37 =>
 ifP (demote r37)
 ((SV.noRef (.d (.bool true))) = true ∧
 (K (.d (.bool true))))
 (bindO (partV true 4 5 r0) fun r38 =>
 bindO (partV true 4 0 [(.d (.int .u64 0)), (.d (.int .u64 0)), (.d (.int .u64 0)), (.d (.int .u64 0))]) fun r39 =>
 bindO (binV (some (true, [.int, .int, .int, .int])) .eql (demote (demote r38)) (demote (demote r39))) fun r40 =>
 (SV.noRef (demote (demote (demote r40)))) = true ∧
 (K (demote (demote (demote r40))))))
 ((SV.noRef (.d (.bool false))) = true ∧
 (K (.d (.bool false)))))))
 (bindO (partV false 1 0 r0) fun r41 =>
 bindO (binV (some (false, [.int])) .eql (demote (demote r41)) (.d (.int .i64 9))) fun r42 =>
 ifP (demote r42)
 (ifP (demote (demote x1))
 (bindO (partV true 4 5 r0) fun r43 =>
 bindO (partV true 4 0 [(.d (.int .u64 0)), (.d (.int .u64 0)), (.d (.int .u64 0)), (.d (.int .u64 0))]) fun r44 =>
 bindO (binV (some (true, [.int, .int, .int, .int])) .eql (demote (demote r43)) (demote (demote r44))) fun r45 =>
 ifP (demote r45)
 (bindO (partV false 1 4 r0) fun r46 =>
 bindO (lenL (demote (demote r46))) fun r47 =>
 bindO (binV none .gtr (demote r47) (.d (.int .i64 0))) fun r48 =>
 (SV.noRef (demote (demote r48))) = true ∧
 (K (demote (demote r48))))
 ((SV.noRef (.d (.bool false))) = true ∧
 (K (.d (.bool false)))))
 (bindO (partV false 1 4 r0) fun r49 =>
 bindO (lenL (demote (demote r49))) fun r50 =>
 bindO (binV (some (false, [.int])) .eql (demote r50) (.d (.int .i64 0))) fun r51 =>
 ifP (demote r51)
 (bindO (partV false 1 0 r0) fun r52 =>
 bindO (binV (some (false, [.int])) .eql (demote (demote r52)) (.d (.int .i64 9))) fun r53 =>
 ifP (demote r53)
 ((SV.noRef (.d (.bool true))) = true ∧
 (K (.d (.bool true))))
 (bindO (partV true 4 5 r0) fun r54 =>
 bindO (partV true 4 0 [(.d (.int .u64 0)), (.d (.int .u64 0)), (.d (.int .u64 0)), (.d (.int .u64 0))]) fun r55 =>
 bindO (binV (some (true, [.int, .int, .int, .int])) .eql (demote (demote r54)) (demote (demote r55))) fun r56 =>
 (SV.noRef (demote (demote (demote r56)))) = true ∧
 (K (demote (demote (demote r56))))))
 ((SV.noRef (.d (.bool false))) = true ∧
 (K (.d (.bool false))))))
 (bindO (partV false 1 4 r0) fun r57 =>
 bindO (lenL (demote (demote r57))) fun r58 =>
 bindO (binV (some (false, [.int])) .eql (demote r58) (.d (.int .i64 0))) fun r59 =>
 ifP (demote r59)
 (bindO (partV false 1 0 r0) fun r60 =>
 bindO (binV (some (false, [.int])) .eql (demote (demote r60)) (.d (.int .i64 9))) fun r61 =>
 ifP (demote r61)
 ((SV.noRef (.d (.bool true))) = true ∧
 (K (.d (.bool true))))
 (bindO (partV true 4 5 r0) fun r62 =>
 bindO (partV true 4 0 [(.d (.int .u64 0)), (.d (.int .u64 0)), (.d (.int .u64 0)), (.d (.int .u64 0))]) fun r63 =>
 bindO (binV (some (true, [.int, .int, .int, .int])) .eql (demote (demote r62)) (demote (demote r63))) fun r64 =>
 (SV.noRef (demote (demote (demote r64)))) = true ∧
 (K (demote (demote (demote r64))))))
 ((SV.noRef (.d (.bool false))) = true ∧
 (K (.d (.bool false)))))))))
 (bindO (partV false 1 0 r0) fun r65 =>
 callP C 111 [(demote (demote (demote r65)))] fun r66 =>
 bindO (binV none .gtr (demote r66) (.d (.int .i64 0))) fun r67 =>
 ifP (demote r67)
 (bindO (partV false 1 1 r0) fun r68 =>
 bindO (binV (some (false, [.int])) .neq (demote (demote r68)) (.d (.int .i64 0))) fun r69 =>
 ifP (demote (demote r69))
 ((SV.noRef (.d (.bool false))) = true ∧
 (K (.d (.bool false))))
 (bindO (partV false 1 0 r0) fun r70 =>
 bindO (binV (some (false, [.int])) .eql (demote (demote r70)) (.d (.int .i64 9))) fun r71 =>
 ifP (demote r71)
 (ifP (demote (demote x1))
 (bindO (partV true 4 5 r0) fun r72 =>
 bindO (partV true 4 0 [(.d (.int .u64 0)), (.d (.int .u64 0)), (.d (.int .u64 0)), (.d (.int .u64 0))]) fun r73 =>
 bindO (binV (some (true, [.int, .int, .int, .int])) .eql (demote (demote r72)) (demote (demote r73))) fun r74 =>
 ifP (demote r74)
 (bindO (partV false 1 4 r0) fun r75 =>
 bindO (lenL (demote (demote r75))) fun r76 =>
 bindO (binV none .gtr (demote r76) (.d (.int .i64 0))) fun r77 =>
 (SV.noRef (demote (demote r77))) = true ∧
 (K (demote (demote r77))))
 ((SV.noRef (.d (.bool false))) = true ∧
 (K (.d (.bool false)))))
 (bindO (partV false 1 4 r0) fun r78 =>
 bindO (lenL (demote (demote r78))) fun r79 =>
 bindO (binV (some (false, [.int])) .eql (demote r79) (.d (.int .i64 0))) fun r80 =>
 ifP (demote r80)
 (bindO (partV false 1 0 r0) fun r81 =>
 bindO (binV (some (false, [.int])) .eql (demote (demote r81)) (.d (.int .i64 9))) fun r82 =>
 ifP (demote r82)
 ((SV.noRef (.d (.bool true))) = true ∧
 (K (.d (.bool true))))
 (bindO (partV true 4 5 r0) fun r83 =>
 bindO (partV true 4 0 [(.d (.int .u64 0)), (.d (.int .u64 0)), (.d (.int .u64 0)), (.d (.int .u64 0))]) fun r84 =>
 bindO (binV (some (true, [.int, .int, .int, .int])) .eql (demote (demote r83)) (demote (demote r84))) fun r85 =>
 (SV.noRef (demote (demote (demote r85)))) = true ∧
 (K (demote (demote (demote r85))))))
 ((SV.noRef (.d (.bool false))) = true ∧
 (K (.d (.bool false))))))
 (bindO (partV false 1 4 r0) fun r86 =>
 bindO (lenL (demote (demote r86))) fun r87 =>
 bindO (binV (some (false, [.int])) .eql (demote r87) (.d (.int .i64 0))) fun r88 =>
 ifP (demote r88)
 (bindO (partV false 1 0 r0) fun r89 =>
 bindO (binV (some (false, [.int])) .eql (demote (demote r89)) (.d (.int .i64 9))) fun r90 =>
 ifP (demote r90)
 ((SV.noRef (.d (.bool true))) = true ∧
 (K (.d (.bool true))))
 (bindO (partV true 4 5 r0) fun r91 =>
 bindO (partV true 4 0 [(.d (.int .u64 0)), (.d (.int .u64 0)), (.d (.int .u64 0)), (.d (.int .u64 0))]) fun r92 =>
 bindO (binV (some (true, [.int, .int, .int, .int])) .eql (demote (demote r91)) (demote (demote r92))) fun r93 =>
 (SV.noRef (demote (demote (demote r93)))) = true ∧
 (K (demote (demote (demote r93))))))
 ((SV.noRef (.d (.bool false))) = true ∧
 (K (.d (.bool false)))))))
 (bindO (partV false 1 0 r0) fun r94 =>
 bindO (binV (some (false, [.int])) .eql (demote (demote r94)) (.d (.int .i64 9))) fun r95 =>
 ifP (demote r95)
 (ifP (demote (demote x1))
 (bindO (partV true 4 5 r0) fun r96 =>
 bindO (partV true 4 0 [(.d (.int .u64 0)), (.d (.int .u64 0)), (.d (.int .u64 0)), (.d (.int .u64 0))]) fun r97 =>
 bindO (binV (some (true, [.int, .int, .int, .int])) .eql (demote (demote r96)) (demote (demote r97))) fun r98 =>
 ifP (demote r98)
 (bindO (partV false 1 4 r0) fun r99 =>
 bindO (lenL (demote (demote r99))) fun r100 =>
 bindO (binV none .gtr (demote r100) (.d (.int .i64 0))) fun r101 =>
 (SV.noRef (demote (demote r101))) = true ∧
 (K (demote (demote r101))))
 ((SV.noRef (.d (.bool false))) = true ∧
 (K (.d (.bool false)))))
 (bindO (partV false 1 4 r0) fun r102 =>
 bindO (lenL (demote (demote r102))) fun r103 =>
 bindO (binV (some (false, [.int])) .eql (demote r103) (.d (.int .i64 0))) fun r104 =>
 ifP (demote r104)
 (bindO (partV false 1 0 r0) fun r105 =>
 bindO (binV (some (false, [.int])) .eql (demote (demote r105)) (.d (.int .i64 9))) fun r106 =>
 ifP (demote r106)
 ((SV.noRef (.d (.bool true))) = true ∧
 (K (.d (.bool true))))
 (bindO (partV true 4 5 r0) fun r107 =>
 bindO (partV true 4 0 [(.d (.int .u64 0)), (.d (.int .u64 0)), (.d (.int .u64 0)), (.d (.int .u64 0))]) fun r108 =>
 bindO (binV (some (true, [.int, .int, .int, .int])) .eql (demote (demote r107)) (demote (demote r108))) fun r109 =>
 (SV.noRef (demote (demote (demote r109)))) = true ∧
 (K (demote (demote (demote r109))))))
 ((SV.noRef (.d (.bool false))) = true ∧
 (K (.d (.bool false))))))
 (bindO (partV false 1 4 r0) fun r110 =>
 bindO (lenL (demote (demote r110))) fun r111 =>
 bindO (binV (some (false, [.int])) .eql (demote r111) (.d (.int .i64 0))) fun r112 =>
 ifP (demote r112)
 (bindO (partV false 1 0 r0) fun r113 =>
 bindO (binV (some (false, [.int])) .eql (demote (demote r113)) (.d (.int .i64 9))) fun r114 =>
 ifP (demote r114)
 ((SV.noRef (.d (.bool true))) = true ∧
 (K (.d (.bool true))))
 (bindO (partV true 4 5 r0) fun r115 =>
 bindO (partV true 4 0 [(.d (.int .u64 0)), (.d (.int .u64 0)), (.d (.int .u64 0)), (.d (.int .u64 0))]) fun r116 =>
 bindO (binV (some (true, [.int, .int, .int, .int])) .eql (demote (demote r115)) (demote (demote r116))) fun r117 =>
 (SV.noRef (demote (demote (demote r117)))) = true ∧
 (K (demote (demote (demote r117))))))
 ((SV.noRef (.d (.bool false))) = true ∧
 (K (.d (.bool false)))))))))) := by kernel_rfl

theorem body111 (C : Con) (x0 : SV) (K : SV → Prop) : body Go.Proofs.Tryz.prog gl C h111 111 [x0] K = (
 wfP [x0] (
 bindO (binV (some (false, [.int])) .eql (demote (demote x0)) (.d (.int .i64 2))) fun r0 =>
 ifP (demote r0)
 ((SV.noRef (.d (.int .i64 1))) = true ∧
 (K (.d (.int .i64 1))))
 (bindO (binV (some (false, [.int])) .eql (demote (demote x0)) (.d (.int .i64 3))) fun r1 =>
 ifP (demote r1)
 ((SV.noRef (.d (.int .i64 2))) = true ∧
 (K (.d (.int .i64 2))))
 (bindO (binV (some (false, [.int])) .eql (demote (demote x0)) (.d (.int .i64 4))) fun r2 =>
 ifP (demote r2)
 ((SV.noRef (.d (.int .i64 2))) = true ∧
 (K (.d (.int .i64 2))))
 (bindO (binV (some (false, [.int])) .eql (demote (demote x0)) (.d (.int .i64 8))) fun r3 =>
 ifP (demote r3)
 ((SV.noRef (.d (.int .i64 0))) = true ∧
 (K (.d (.int .i64 0))))
 (bindO (binV (some (false, [.int])) .eql (demote (demote x0)) (.d (.int .i64 9))) fun r4 =>
 ifP (demote r4)
 ((SV.noRef (.d (.int .i64 0))) = true ∧
 (K (.d (.int .i64 0))))
 ((SV.noRef (.d (.int .i64 (-1)))) = true ∧
 (K (.d (.int .i64 (-1))))))))))) := by kernel_rfl

theorem body112 (C : Con) (x0 x1 : SV) (K : SV → Prop) : body Go.Proofs.Tryz.prog gl C h112 112 [x0, x1] K = (
 wfP [x0, x1] (
 bindO (binV none .geq (demote (demote x0)) (.d (.int .i64 0))) fun r0 =>
 ifP (demote r0)
 (bindO (binV none .lss (demote (demote x0)) (demote (demote x1))) fun r1 =>
 (SV.noRef (demote (demote r1))) = true ∧
 (K (demote (demote r1))))
 ((SV.noRef (.d (.bool false))) = true ∧
 (K (.d (.bool false)))))) := by kernel_rfl

theorem body113 (C : Con) (x0 x1 : SV) (K : SV → Prop) : body Go.Proofs.Tryz.prog gl C h113 113 [x0, x1] K = (
 wfP [x0, x1] (
 bindO (cellsV (demote x0)) fun r0 =>
 (List.length r0) = 4 ∧
 bindO (cellsV (demote x1)) fun r1 =>
 (List.length r1) = 4 ∧
 loopP (fun vs2 bs3 I4 =>
 bindO (binV none .lss (demote (demote (vget vs2 0))) (.d (.int .i64 4))) fun r5 =>
 ifP r5
 (bindO (indexOk (demote (demote (vget vs2 0))) 4) fun r6 =>
 bindO (partV false 1 (0 + (r6 * 1)) (bget bs3 0)) fun r7 =>
 bindO (indexOk (demote (demote (vget vs2 0))) 4) fun r8 =>
 bindO (partV false 1 (0 + (r8 * 1)) (bget bs3 1)) fun r9 =>
 bindO (binV none .andNot (demote (demote r7)) (demote (demote r9))) fun r10 =>
 bindO (indexOk (demote (demote (vget vs2 0))) 4) fun r11 =>
 bindO (cellsV (demote r10)) fun r12 =>
 (List.length r12) = 1 ∧
 ((0 + (r11 * 1)) + 1) ≤ (List.length (bget bs3 0)) ∧
 bindO (binV none .add (demote (demote (vget vs2 0))) (.d (.int .i64 1))) fun r13 =>
 (I4 [(demote r13)] [(Box.vals (Box.cells (setAt (bget bs3 0) (0 + (r11 * 1)) r12))), (Box.vals (Box.cells (bget bs3 1))), (Box.vals (Box.cells (bget bs3 2)))]))
 (bindO (partV true 4 0 (bget bs3 0)) fun r14 =>
 bindO (cellsV (demote (demote r14))) fun r15 =>
 (List.length r15) = 4 ∧
 4 ≤ (List.length (bget bs3 2)) ∧
 bindO (partV true 4 0 (setAt (bget bs3 2) 0 r15)) fun r16 =>
 (SV.noRef (demote r16)) = true ∧
 (K (demote r16))))
 [(.d (.int .i64 0))] [(Box.vals (Box.cells r0)), (Box.vals (Box.cells r1)), [(.d (.int .u64 0)), (.d (.int .u64 0)), (.d (.int .u64 0)), (.d (.int .u64 0))]])) := by kernel_rfl

theorem body114 (C : Con) (x0 x1 : SV) (K : SV → Prop) : body Go.Proofs.Tryz.prog gl C h114 114 [x0, x1] K = (
 wfP [x0, x1] (
 bindO (lenL (demote (demote x0))) fun r0 =>
 loopP (fun vs1 bs2 I3 =>
 bindO (binV none .lss (demote (vget vs1 3)) (demote (vget vs1 2))) fun r4 =>
 ifP r4
 (bindO (elemPtr 11 (demote (demote (vget vs1 0))) (demote (demote (demote (demote (vget vs1 3)))))) fun r5 =>
 bindO (loadV true 11 (demote r5)) fun r6 =>
 withFn (demote (demote (vget vs1 1))) [(demote (demote r6))] fun f7 l8 =>
 callP C f7 l8 fun r9 =>
 ifP r9
 ((SV.noRef (demote (demote (demote (demote (vget vs1 3)))))) = true ∧
 (K (demote (demote (demote (demote (vget vs1 3)))))))
 (bindO (binV none .add (demote (vget vs1 3)) (.d (.int .i64 1))) fun r10 =>
 (I3 [(vget vs1 0), (vget vs1 1), (vget vs1 2), (demote r10)] [])))
 ((SV.noRef (.d (.int .i64 (-1)))) = true ∧
 (K (.d (.int .i64 (-1))))))
 [x0, x1, r0, (.d (.int .i64 0))] [])) := by kernel_rfl

theorem body115 (C : Con) (x0 x1 : SV) (K : SV → Prop) : body Go.Proofs.Tryz.prog gl C h115 115 [x0, x1] K = (
 wfP [x0, x1] (
 bindO (cellsV (demote x0)) fun r0 =>
 (List.length r0) = 11 ∧
 bindO (partV false 1 0 r0) fun r1 =>
 bindO (loadV false 1 (demote x1)) fun r2 =>
 bindO (binV (some (false, [.str])) .eql (demote (demote r1)) (demote r2)) fun r3 =>
 (SV.noRef (demote r3)) = true ∧
 (K (demote r3)))) := by kernel_rfl

theorem body116 (C : Con) (x0 : SV) (K : SV → Prop) : body Go.Proofs.Tryz.prog gl C h116 116 [x0] K = (
 wfP [x0] (
 bindO (lenL (demote (demote x0))) fun r0 =>
 loopP (fun vs1 bs2 I3 =>
 bindO (binV none .lss (demote (vget vs1 2)) (demote (vget vs1 1))) fun r4 =>
 ifP r4
 (bindO (elemPtr 1 (demote (vget vs1 0)) (demote (vget vs1 2))) fun r5 =>
 bindO (loadV false 1 (demote r5)) fun r6 =>
 bindO (partV true 4 0 (bget bs2 1)) fun r7 =>
 callP C 109 [(demote (demote (demote r7))), (demote (demote (demote (demote r6))))] fun r8 =>
 bindO (cellsV (demote r8)) fun r9 =>
 (List.length r9) = 4 ∧
 4 ≤ (List.length (bget bs2 1)) ∧
 bindO (binV none .add (demote (vget vs1 2)) (.d (.int .i64 1))) fun r10 =>
 (I3 [(vget vs1 0), (vget vs1 1), (demote r10)] [(Box.vals (Box.cells (bget bs2 0))), (Box.vals (Box.cells (setAt (bget bs2 1) 0 r9)))]))
 (bindO (partV true 4 0 (bget bs2 1)) fun r11 =>
 bindO (cellsV (demote (demote r11))) fun r12 =>
 (List.length r12) = 4 ∧
 4 ≤ (List.length (bget bs2 0)) ∧
 bindO (partV true 4 0 (setAt (bget bs2 0) 0 r12)) fun r13 =>
 (SV.noRef (demote r13)) = true ∧
 (K (demote r13))))
 [(demote x0), r0, (.d (.int .i64 0))] [[(.d (.int .u64 0)), (.d (.int .u64 0)), (.d (.int .u64 0)), (.d (.int .u64 0))], [(.d (.int .u64 0)), (.d (.int .u64 0)), (.d (.int .u64 0)), (.d (.int .u64 0))]])) := by kernel_rfl

theorem body117 (C : Con) (x0 x1 : SV) (K : SV → Prop) : body Go.Proofs.Tryz.prog gl C h117 117 [x0, x1] K = (
 wfP [x0, x1] (
 bindO (lenL (demote (demote x0))) fun r0 =>
 loopP (fun vs1 bs2 I3 =>
 bindO (binV none .lss (demote (vget vs1 3)) (demote (vget vs1 2))) fun r4 =>
 ifP r4
 (bindO (elemPtr 9 (demote (demote (vget vs1 0))) (demote (demote (demote (demote (vget vs1 3)))))) fun r5 =>
 bindO (loadV true 9 (demote r5)) fun r6 =>
 withFn (demote (demote (vget vs1 1))) [(demote (demote r6))] fun f7 l8 =>
 callP C f7 l8 fun r9 =>
 ifP r9
 ((SV.noRef (demote (demote (demote (demote (vget vs1 3)))))) = true ∧
 (K (demote (demote (demote (demote (vget vs1 3)))))))
 (bindO (binV none .add (demote (vget vs1 3)) (.d (.int .i64 1))) fun r10 =>
 (I3 [(vget vs1 0), (vget vs1 1), (vget vs1 2), (demote r10)] [])))
 ((SV.noRef (.d (.int .i64 (-1)))) = true ∧
 (K (.d (.int .i64 (-1))))))
 [x0, x1, r0, (.d (.int .i64 0))] [])) := by kernel_rfl

theorem body118 (C : Con) (x0 x1 : SV) (K : SV → Prop) : body Go.Proofs.Tryz.prog gl C h118 118 [x0, x1] K = (
 wfP [x0, x1] (
 bindO (cellsV (demote x0)) fun r0 =>
 (List.length r0) = 9 ∧
 bindO (partV false 1 0 r0) fun r1 =>
 bindO (loadV false 1 (demote x1)) fun r2 =>
 bindO (binV (some (false, [.str])) .eql (demote (demote r1)) (demote r2)) fun r3 =>
 (SV.noRef (demote r3)) = true ∧
 (K (demote r3)))) := by kernel_rfl

theorem body119 (C : Con) (x0 x1 : SV) (K : SV → Prop) : body Go.Proofs.Tryz.prog gl C h119 119 [x0, x1] K = (
 wfP [x0, x1] (
 bindO (lenL (demote (demote x0))) fun r0 =>
 loopP (fun vs1 bs2 I3 =>
 bindO (binV none .lss (demote (vget vs1 3)) (demote (vget vs1 2))) fun r4 =>
 ifP r4
 (bindO (elemPtr 3 (demote (demote (vget vs1 0))) (demote (demote (demote (demote (vget vs1 3)))))) fun r5 =>
 bindO (loadV true 3 (demote r5)) fun r6 =>
 withFn (demote (demote (vget vs1 1))) [(demote (demote r6))] fun f7 l8 =>
 callP C f7 l8 fun r9 =>
 ifP r9
 ((SV.noRef (demote (demote (demote (demote (vget vs1 3)))))) = true ∧
 (K (demote (demote (demote (demote (vget vs1 3)))))))
 (bindO (binV none .add (demote (vget vs1 3)) (.d (.int .i64 1))) fun r10 =>
 (I3 [(vget vs1 0), (vget vs1 1), (vget vs1 2), (demote r10)] [])))
 ((SV.noRef (.d (.int .i64 (-1)))) = true ∧
 (K (.d (.int .i64 (-1))))))
 [x0, x1, r0, (.d (.int .i64 0))] [])) := by kernel_rfl

theorem body120 (C : Con) (x0 x1 : SV) (K : SV → Prop) : body Go.Proofs.Tryz.prog gl C h120 120 [x0, x1] K = (
 wfP [x0, x1] (
 bindO (cellsV (demote x0)) fun r0 =>
 (List.length r0) = 3 ∧
 bindO (partV false 1 0 r0) fun r1 =>
 bindO (loadV false 1 (demote x1)) fun r2 =>
 bindO (binV (some (false, [.str])) .eql (demote (demote r1)) (demote r2)) fun r3 =>
 ifP (demote r3)
 ((SV.noRef (.d (.bool true))) = true ∧
 (K (.d (.bool true))))
 (bindO (partV false 1 1 r0) fun r4 =>
 bindO (loadV false 1 (demote x1)) fun r5 =>
 callP C 121 [(demote (demote (demote r4))), (demote (demote r5))] fun r6 =>
 (SV.noRef (demote (demote r6))) = true ∧
 (K (demote (demote r6)))))) := by kernel_rfl

theorem body121 (C : Con) (x0 x1 : SV) (K : SV → Prop) : body Go.Proofs.Tryz.prog gl C h121 121 [x0, x1] K = (
 wfP [x0, x1] (
 callP C 140 [(demote (demote (demote x0))), (demote (demote (demote x1)))] fun r0 =>
 bindO (binV none .geq (demote r0) (.d (.int .i64 0))) fun r1 =>
 (SV.noRef (demote r1)) = true ∧
 (K (demote r1)))) := by kernel_rfl

theorem body122 (C : Con) (x0 x1 : SV) (K : SV → Prop) : body Go.Proofs.Tryz.prog gl C h122 122 [x0, x1] K = (
 wfP [x0, x1] (
 bindO (lenL (demote (demote x0))) fun r0 =>
 loopP (fun vs1 bs2 I3 =>
 bindO (binV none .lss (demote (vget vs1 3)) (demote (vget vs1 2))) fun r4 =>
 ifP r4
 (bindO (elemPtr 5 (demote (demote (vget vs1 0))) (demote (demote (demote (demote (vget vs1 3)))))) fun r5 =>
 bindO (loadV true 5 (demote r5)) fun r6 =>
 withFn (demote (demote (vget vs1 1))) [(demote (demote r6))] fun f7 l8 =>
 callP C f7 l8 fun r9 =>
 ifP r9
 ((SV.noRef (demote (demote (demote (demote (vget vs1 3)))))) = true ∧
 (K (demote (demote (demote (demote (vget vs1 3)))))))
 (bindO (binV none .add (demote (vget vs1 3)) (.d (.int .i64 1))) fun r10 =>
 (I3 [(vget vs1 0), (vget vs1 1), (vget vs1 2), (demote r10)] [])))
 ((SV.noRef (.d (.int .i64 (-1)))) = true ∧
 (K (.d (.int .i64 (-1))))))
 [x0, x1, r0, (.d (.int .i64 0))] [])) := by kernel_rfl

theorem body123 (C : Con) (x0 x1 : SV) (K : SV → Prop) : body Go.Proofs.Tryz.prog gl C h123 123 [x0, x1] K = (
 wfP [x0, x1] (
 bindO (cellsV (demote x0)) fun r0 =>
 (List.length r0) = 5 ∧
 bindO (partV false 1 0 r0) fun r1 =>
 bindO (loadV false 1 (demote x1)) fun r2 =>
 bindO (binV (some (false, [.str])) .eql (demote (demote r1)) (demote r2)) fun r3 =>
 (SV.noRef (demote r3)) = true ∧
 (K (demote r3)))) := by kernel_rfl

theorem body124 (C : Con) (x0 : SV) (K : SV → Prop) : body Go.Proofs.Tryz.prog gl C h124 124 [x0] K = (
 wfP [x0] (
 bindO (binV none .geq (demote (demote x0)) (.d (.int .i64 0))) fun r0 =>
 ifP (demote r0)
 (bindO (binV none .lss (demote (demote x0)) (.d (.int .i64 256))) fun r1 =>
 (SV.noRef (demote (demote r1))) = true ∧
 (K (demote (demote r1))))
 ((SV.noRef (.d (.bool false))) = true ∧
 (K (.d (.bool false)))))) := by kernel_rfl

theorem body125 (C : Con) (x0 x1 : SV) (K : SV → Prop) : body Go.Proofs.Tryz.prog gl C h125 125 [x0, x1] K = (
 wfP [x0, x1] (
 bindO (cellsV (demote x0)) fun r0 =>
 (List.length r0) = 2 ∧
 bindO (cellsV (demote x1)) fun r1 =>
 (List.length r1) = 2 ∧
 bindO (partV true 2 0 r0) fun r2 =>
 bindO (partV true 2 0 r1) fun r3 =>
 bindO (binV (some (true, [.int, .int])) .eql (demote (demote r2)) (demote (demote r3))) fun r4 =>
 ifP (demote r4)
 ((SV.noRef (.d (.int .i64 0))) = true ∧
 (K (.d (.int .i64 0))))
 (bindO (partV true 2 0 r0) fun r5 =>
 bindO (partV true 2 0 r1) fun r6 =>
 callP C 141 [(demote (demote (demote r5))), (demote (demote (demote r6)))] fun r7 =>
 ifP (demote r7)
 ((SV.noRef (.d (.int .i64 2))) = true ∧
 (K (.d (.int .i64 2))))
 (bindO (partV true 2 0 r1) fun r8 =>
 bindO (partV true 2 0 r0) fun r9 =>
 callP C 141 [(demote (demote (demote r8))), (demote (demote (demote r9)))] fun r10 =>
 ifP (demote r10)
 ((SV.noRef (.d (.int .i64 3))) = true ∧
 (K (.d (.int .i64 3))))
 ((SV.noRef (.d (.int .i64 4))) = true ∧
 (K (.d (.int .i64 4)))))))) := by kernel_rfl

theorem body126 (C : Con) (x0 x1 : SV) (K : SV → Prop) : body Go.Proofs.Tryz.prog gl C h126 126 [x0, x1] K = (
 wfP [x0, x1] (
 bindO (cellsV (demote x0)) fun r0 =>
 (List.length r0) = 4 ∧
 bindO (binV none .geq (demote (demote x1)) (.d (.int .i64 0))) fun r1 =>
 ifP (demote r1)
 (bindO (binV none .lss (demote (demote x1)) (.d (.int .i64 256))) fun r2 =>
 ifP (demote (demote r2))
 (bindO (binV none .quo (demote (demote x1)) (.d (.int .i64 64))) fun r3 =>
 bindO (indexOk (demote r3) 4) fun r4 =>
 bindO (partV false 1 (0 + (r4 * 1)) r0) fun r5 =>
 callP C 139 [(demote (demote (demote x1)))] fun r6 =>
 bindO (binV none .and (demote (demote r5)) (demote r6)) fun r7 =>
 bindO (binV (some (false, [.int])) .neq (demote r7) (.d (.int .u64 0))) fun r8 =>
 (SV.noRef (demote (demote r8))) = true ∧
 (K (demote (demote r8))))
 ((SV.noRef (.d (.bool false))) = true ∧
 (K (.d (.bool false)))))
 ((SV.noRef (.d (.bool false))) = true ∧
 (K (.d (.bool false)))))) := by kernel_rfl

theorem body127 (C : Con) (x0 x1 : SV) (K : SV → Prop) : body Go.Proofs.Tryz.prog gl C h127 127 [x0, x1] K = (
 wfP [x0, x1] (
 bindO (cellsV (demote x0)) fun r0 =>
 (List.length r0) = 21 ∧
 bindO (partV true 21 0 r0) fun r1 =>
 callP C 142 [(demote (demote (demote r1))), (demote (demote (demote x1)))] fun r2 =>
 bindO (cellsV (demote r2)) fun r3 =>
 (List.length r3) = 7 ∧
 7 ≤ 7 ∧
 callP C 89 [(demote (demote (demote x1)))] fun r4 =>
 bindO (binV (some (false, [.int])) .eql (demote r4) (.d (.int .i64 0))) fun r5 =>
 ifP (demote r5)
 (bindO (partV false 1 0 (setAt [(.d (.int .i64 0)), (.d (.int .i64 0)), (.d (.int .i64 0)), (.d (.int .i64 0)), (.d (.int .u64 0)), (.d (.int .i64 0)), (.d (.int .u64 0))] 0 r3)) fun r6 =>
 (SV.noRef (demote (demote r6))) = true ∧
 (K (demote (demote r6))))
 (bindO (binV (some (false, [.int])) .eql (demote r4) (.d (.int .i64 1))) fun r7 =>
 ifP (demote r7)
 (bindO (partV false 1 1 (setAt [(.d (.int .i64 0)), (.d (.int .i64 0)), (.d (.int .i64 0)), (.d (.int .i64 0)), (.d (.int .u64 0)), (.d (.int .i64 0)), (.d (.int .u64 0))] 0 r3)) fun r8 =>
 (SV.noRef (demote (demote r8))) = true ∧
 (K (demote (demote r8))))
 (bindO (partV false 1 2 (setAt [(.d (.int .i64 0)), (.d (.int .i64 0)), (.d (.int .i64 0)), (.d (.int .i64 0)), (.d (.int .u64 0)), (.d (.int .i64 0)), (.d (.int .u64 0))] 0 r3)) fun r9 =>
 (SV.noRef (demote (demote r9))) = true ∧
 (K (demote (demote r9))))))) := by kernel_rfl

theorem body128 (C : Con) (x0 x1 : SV) (K : SV → Prop) : body Go.Proofs.Tryz.prog gl C h128 128 [x0, x1] K = (
 wfP [x0, x1] (
 bindO (cellsV (demote x0)) fun r0 =>
 (List.length r0) = 10 ∧
 bindO (cellsV (demote x1)) fun r1 =>
 (List.length r1) = 21 ∧
 bindO (partV false 1 1 r0) fun r2 =>
 callP C 89 [(demote (demote (demote r2)))] fun r3 =>
 bindO (binV (some (false, [.int])) .neq (demote r3) (.d (.int .i64 3))) fun r4 =>
 ifP r4
 (bindO (partV true 21 0 r1) fun r5 =>
 bindO (partV false 1 1 r0) fun r6 =>
 callP C 127 [(demote (demote (demote r5))), (demote (demote (demote r6)))] fun r7 =>
 bindO (partV true 21 0 r1) fun r8 =>
 bindO (partV false 1 3 r0) fun r9 =>
 callP C 127 [(demote (demote (demote r8))), (demote (demote (demote r9)))] fun r10 =>
 bindO (binV (some (false, [.int])) .eql (demote r7) (demote r10)) fun r11 =>
 bindO (partV false 1 2 r0) fun r12 =>
 bindO (binV (some (false, [.int])) .eql (demote (demote r12)) (.d (.int .i64 0))) fun r13 =>
 bindO (binV (some (false, [.bool])) .eql (demote r11) (demote r13)) fun r14 =>
 (SV.noRef (demote r14)) = true ∧
 (K (demote r14)))
 (bindO (partV true 21 0 r1) fun r15 =>
 bindO (partV false 1 1 r0) fun r16 =>
 callP C 143 [(demote (demote (demote r15))), (demote (demote (demote r16)))] fun r17 =>
 bindO (partV true 21 0 r1) fun r18 =>
 bindO (partV false 1 3 r0) fun r19 =>
 callP C 143 [(demote (demote (demote r18))), (demote (demote (demote r19)))] fun r20 =>
 bindO (cellsV (demote r17)) fun r21 =>
 (List.length r21) = 2 ∧
 2 ≤ 2 ∧
 bindO (cellsV (demote r20)) fun r22 =>
 (List.length r22) = 2 ∧
 2 ≤ 2 ∧
 bindO (partV true 2 0 (setAt [(.d (.int .i64 0)), (.d (.int .u64 0))] 0 r21)) fun r23 =>
 bindO (partV true 2 0 (setAt [(.d (.int .i64 0)), (.d (.int .u64 0))] 0 r22)) fun r24 =>
 callP C 144 [(demote (demote (demote r23))), (demote (demote (demote r24)))] fun r25 =>
 bindO (partV true 2 0 (setAt [(.d (.int .i64 0)), (.d (.int .u64 0))] 0 r22)) fun r26 =>
 bindO (partV true 2 0 (setAt [(.d (.int .i64 0)), (.d (.int .u64 0))] 0 r21)) fun r27 =>
 callP C 144 [(demote (demote (demote r26))), (demote (demote (demote r27)))] fun r28 =>
 bindO (partV false 1 2 r0) fun r29 =>
 bindO (binV (some (false, [.int])) .eql (demote (demote r29)) (.d (.int .i64 0))) fun r30 =>
 ifP (demote r30)
 (bindO (partV true 2 0 (setAt [(.d (.int .i64 0)), (.d (.int .u64 0))] 0 r21)) fun r31 =>
 bindO (partV true 2 0 (setAt [(.d (.int .i64 0)), (.d (.int .u64 0))] 0 r22)) fun r32 =>
 bindO (binV (some (true, [.int, .int])) .eql (demote (demote r31)) (demote (demote r32))) fun r33 =>
 (SV.noRef (demote r33)) = true ∧
 (K (demote r33)))
 (bindO (binV (some (false, [.int])) .eql (demote (demote r29)) (.d (.int .i64 1))) fun r34 =>
 ifP (demote r34)
 (bindO (partV true 2 0 (setAt [(.d (.int .i64 0)), (.d (.int .u64 0))] 0 r21)) fun r35 =>
 bindO (partV true 2 0 (setAt [(.d (.int .i64 0)), (.d (.int .u64 0))] 0 r22)) fun r36 =>
 bindO (binV (some (true, [.int, .int])) .neq (demote (demote r35)) (demote (demote r36))) fun r37 =>
 (SV.noRef (demote r37)) = true ∧
 (K (demote r37)))
 (bindO (binV (some (false, [.int])) .eql (demote (demote r29)) (.d (.int .i64 2))) fun r38 =>
 ifP (demote r38)
 ((SV.noRef (demote (demote (demote r25)))) = true ∧
 (K (demote (demote (demote r25)))))
 (bindO (binV (some (false, [.int])) .eql (demote (demote r29)) (.d (.int .i64 3))) fun r39 =>
 ifP (demote r39)
 ((SV.noRef (demote (demote (demote r28)))) = true ∧
 (K (demote (demote (demote r28)))))
 (bindO (unV .not (demote (demote (demote r25)))) fun r40 =>
 ifP (demote r40)
 (bindO (unV .not (demote (demote (demote r28)))) fun r41 =>
 (SV.noRef (demote (demote r41))) = true ∧
 (K (demote (demote r41))))
 ((SV.noRef (.d (.bool false))) = true ∧
 (K (.d (.bool false))))))))))) := by kernel_rfl

theorem body129 (C : Con) (x0 : SV) (K : SV → Prop) : body Go.Proofs.Tryz.prog gl C h129 129 [x0] K = (
 wfP [x0] (
 bindO (cellsV (demote x0)) fun r0 =>
 (List.length r0) = 4 ∧
 loopP (fun vs1 bs2 I3 =>
 bindO (binV none .lss (demote (vget vs1 1)) (.d (.int .i64 256))) fun r4 =>
 ifP r4
 (bindO (partV true 4 0 (bget bs2 0)) fun r5 =>
 callP C 81 [(demote (demote (demote r5))), (demote (demote (demote (demote (demote (vget vs1 1))))))] fun r6 =>
 ifP r6
 (bindO (partsS [(0, (.v (demote (demote (demote (demote (vget vs1 1)))))))]) fun r7 =>
 (partsFit 1 1 r7) = true ∧
 appP 1 8 (vget vs1 0) (.full 1 (buildElems (mkElem false [(.int .i64 0)]) r7 1 0)) fun r8 =>
 bindO (binV none .add (demote (vget vs1 1)) (.d (.int .i64 1))) fun r9 =>
 (I3 [r8, (demote r9)] [(Box.vals (Box.cells (bget bs2 0)))]))
 (bindO (binV none .add (demote (vget vs1 1)) (.d (.int .i64 1))) fun r10 =>
 (I3 [(vget vs1 0), (demote r10)] [(Box.vals (Box.cells (bget bs2 0)))])))
 ((SV.noRef (vget vs1 0)) = true ∧
 (K (vget vs1 0))))
 [(.d (.sl .nil 0 [])), (.d (.int .i64 0))] [(Box.vals (Box.cells r0))])) := by kernel_rfl

theorem body132 (C : Con) (x0 x1 : SV) (K : SV → Prop) : body Go.Proofs.Tryz.prog gl C h132 132 [x0, x1] K = (
 wfP [x0, x1] (
 bindO (cellsV (demote x0)) fun r0 =>
 (List.length r0) = 4 ∧
 bindO (binV none .geq (demote (demote x1)) (.d (.int .i64 0))) fun r1 =>
 ifP (demote r1)
 (bindO (binV none .lss (demote (demote x1)) (.d (.int .i64 256))) fun r2 =>
 ifP (demote r2)
 (bindO (binV none .quo (demote (demote x1)) (.d (.int .i64 64))) fun r3 =>
 bindO (binV none .quo (demote (demote x1)) (.d (.int .i64 64))) fun r4 =>
 bindO (indexOk (demote r4) 4) fun r5 =>
 bindO (partV false 1 (0 + (r5 * 1)) r0) fun r6 =>
 callP C 139 [(demote (demote (demote x1)))] fun r7 =>
 bindO (binV none .andNot (demote (demote r6)) (demote r7)) fun r8 =>
 bindO (indexOk (demote r3) 4) fun r9 =>
 bindO (cellsV (demote r8)) fun r10 =>
 (List.length r10) = 1 ∧
 ((0 + (r9 * 1)) + 1) ≤ (List.length r0) ∧
 bindO (partV true 4 0 (setAt r0 (0 + (r9 * 1)) r10)) fun r11 =>
 bindO (cellsV (demote (demote r11))) fun r12 =>
 (List.length r12) = 4 ∧
 4 ≤ 4 ∧
 bindO (partV true 4 0 (setAt [(.d (.int .u64 0)), (.d (.int .u64 0)), (.d (.int .u64 0)), (.d (.int .u64 0))] 0 r12)) fun r13 =>
 (SV.noRef (demote r13)) = true ∧
 (K (demote r13)))
 (bindO (partV true 4 0 r0) fun r14 =>
 bindO (cellsV (demote (demote r14))) fun r15 =>
 (List.length r15) = 4 ∧
 4 ≤ 4 ∧
 bindO (partV true 4 0 (setAt [(.d (.int .u64 0)), (.d (.int .u64 0)), (.d (.int .u64 0)), (.d (.int .u64 0))] 0 r15)) fun r16 =>
 (SV.noRef (demote r16)) = true ∧
 (K (demote r16))))
 (bindO (partV true 4 0 r0) fun r17 =>
 bindO (cellsV (demote (demote r17))) fun r18 =>
 (List.length r18) = 4 ∧
 4 ≤ 4 ∧
 bindO (partV true 4 0 (setAt [(.d (.int .u64 0)), (.d (.int .u64 0)), (.d (.int .u64 0)), (.d (.int .u64 0))] 0 r18)) fun r19 =>
 (SV.noRef (demote r19)) = true ∧
 (K (demote r19))))) := by kernel_rfl

theorem body139 (C : Con) (x0 : SV) (K : SV → Prop) : body Go.Proofs.Tryz.prog gl C h139 139 [x0] K = (
 wfP [x0] (
 bindO (binV none .rem (demote (demote x0)) (.d (.int .i64 64))) fun r0 =>
 bindO (binV none .shl (.d (.int .u64 1)) (demote r0)) fun r1 =>
 (SV.noRef (demote r1)) = true ∧
 (K (demote r1)))) := by kernel_rfl

theorem body140 (C : Con) (x0 x1 : SV) (K : SV → Prop) : body Go.Proofs.Tryz.prog gl C h140 140 [x0, x1] K = (
 wfP [x0, x1] (
 bindO (lenL (demote (demote x0))) fun r0 =>
 loopP (fun vs1 bs2 I3 =>
 bindO (binV none .lss (demote (vget vs1 3)) (demote (vget vs1 2))) fun r4 =>
 ifP r4
 (bindO (elemPtr 1 (demote (demote (vget vs1 0))) (demote (demote (demote (demote (vget vs1 3)))))) fun r5 =>
 bindO (loadV false 1 (demote r5)) fun r6 =>
 bindO (binV (some (false, [.str])) .eql (demote (demote (vget vs1 1))) (demote r6)) fun r7 =>
 ifP r7
 ((SV.noRef (demote (demote (demote (demote (vget vs1 3)))))) = true ∧
 (K (demote (demote (demote (demote (vget vs1 3)))))))
 (bindO (binV none .add (demote (vget vs1 3)) (.d (.int .i64 1))) fun r8 =>
 (I3 [(vget vs1 0), (vget vs1 1), (vget vs1 2), (demote r8)] [])))
 ((SV.noRef (.d (.int .i64 (-1)))) = true ∧
 (K (.d (.int .i64 (-1))))))
 [x0, x1, r0, (.d (.int .i64 0))] [])) := by kernel_rfl

theorem body141 (C : Con) (x0 x1 : SV) (K : SV → Prop) : body Go.Proofs.Tryz.prog gl C h141 141 [x0, x1] K = (
 wfP [x0, x1] (
 bindO (cellsV (demote x0)) fun r0 =>
 (List.length r0) = 2 ∧
 bindO (cellsV (demote x1)) fun r1 =>
 (List.length r1) = 2 ∧
 bindO (partV false 1 0 r0) fun r2 =>
 bindO (partV false 1 0 r1) fun r3 =>
 bindO (binV none .geq (demote (demote r2)) (demote (demote r3))) fun r4 =>
 ifP (demote r4)
 (bindO (partV false 1 1 r0) fun r5 =>
 bindO (partV false 1 1 r1) fun r6 =>
 bindO (binV none .and (demote (demote r5)) (demote (demote r6))) fun r7 =>
 bindO (partV false 1 1 r1) fun r8 =>
 bindO (binV (some (false, [.int])) .eql (demote r7) (demote (demote r8))) fun r9 =>
 (SV.noRef (demote (demote r9))) = true ∧
 (K (demote (demote r9))))
 ((SV.noRef (.d (.bool false))) = true ∧
 (K (.d (.bool false)))))) := by kernel_rfl

theorem body142 (C : Con) (x0 x1 : SV) (K : SV → Prop) : body Go.Proofs.Tryz.prog gl C h142 142 [x0, x1] K = (
 wfP [x0, x1] (
 bindO (cellsV (demote x0)) fun r0 =>
 (List.length r0) = 21 ∧
 bindO (binV none .quo (demote (demote x1)) (.d (.int .i64 5))) fun r1 =>
 bindO (binV (some (false, [.int])) .eql (demote r1) (.d (.int .i64 0))) fun r2 =>
 ifP (demote r2)
 (bindO (partV true 7 0 r0) fun r3 =>
 bindO (cellsV (demote (demote r3))) fun r4 =>
 (List.length r4) = 7 ∧
 7 ≤ 7 ∧
 bindO (partV true 7 0 (setAt [(.d (.int .i64 0)), (.d (.int .i64 0)), (.d (.int .i64 0)), (.d (.int .i64 0)), (.d (.int .u64 0)), (.d (.int .i64 0)), (.d (.int .u64 0))] 0 r4)) fun r5 =>
 (SV.noRef (demote r5)) = true ∧
 (K (demote r5)))
 (bindO (binV (some (false, [.int])) .eql (demote r1) (.d (.int .i64 1))) fun r6 =>
 ifP (demote r6)
 (bindO (partV true 7 7 r0) fun r7 =>
 bindO (cellsV (demote (demote r7))) fun r8 =>
 (List.length r8) = 7 ∧
 7 ≤ 7 ∧
 bindO (partV true 7 0 (setAt [(.d (.int .i64 0)), (.d (.int .i64 0)), (.d (.int .i64 0)), (.d (.int .i64 0)), (.d (.int .u64 0)), (.d (.int .i64 0)), (.d (.int .u64 0))] 0 r8)) fun r9 =>
 (SV.noRef (demote r9)) = true ∧
 (K (demote r9)))
 (bindO (partV true 7 14 r0) fun r10 =>
 bindO (cellsV (demote (demote r10))) fun r11 =>
 (List.length r11) = 7 ∧
 7 ≤ 7 ∧
 bindO (partV true 7 0 (setAt [(.d (.int .i64 0)), (.d (.int .i64 0)), (.d (.int .i64 0)), (.d (.int .i64 0)), (.d (.int .u64 0)), (.d (.int .i64 0)), (.d (.int .u64 0))] 0 r11)) fun r12 =>
 (SV.noRef (demote r12)) = true ∧
 (K (demote r12)))))) := by kernel_rfl

theorem body143 (C : Con) (x0 x1 : SV) (K : SV → Prop) : body Go.Proofs.Tryz.prog gl C h143 143 [x0, x1] K = (
 wfP [x0, x1] (
 bindO (cellsV (demote x0)) fun r0 =>
 (List.length r0) = 21 ∧
 bindO (binV none .rem (demote (demote x1)) (.d (.int .i64 5))) fun r1 =>
 bindO (binV (some (false, [.int])) .eql (demote r1) (.d (.int .i64 4))) fun r2 =>
 ifP r2
 (bindO (partV true 21 0 r0) fun r3 =>
 callP C 142 [(demote (demote (demote r3))), (demote (demote (demote x1)))] fun r4 =>
 bindO (fieldV true 4 3 (demote r4)) fun r5 =>
 bindO (fieldV true 2 2 (demote r5)) fun r6 =>
 bindO (cellsV (demote r6)) fun r7 =>
 (List.length r7) = 2 ∧
 2 ≤ 2 ∧
 bindO (partV true 2 0 (setAt [(.d (.int .i64 0)), (.d (.int .u64 0))] 0 r7)) fun r8 =>
 (SV.noRef (demote r8)) = true ∧
 (K (demote r8)))
 (bindO (partV true 21 0 r0) fun r9 =>
 callP C 142 [(demote (demote (demote r9))), (demote (demote (demote x1)))] fun r10 =>
 bindO (fieldV true 4 3 (demote r10)) fun r11 =>
 bindO (fieldV true 2 0 (demote r11)) fun r12 =>
 bindO (cellsV (demote r12)) fun r13 =>
 (List.length r13) = 2 ∧
 2 ≤ 2 ∧
 bindO (partV true 2 0 (setAt [(.d (.int .i64 0)), (.d (.int .u64 0))] 0 r13)) fun r14 =>
 (SV.noRef (demote r14)) = true ∧
 (K (demote r14))))) := by kernel_rfl

theorem body144 (C : Con) (x0 x1 : SV) (K : SV → Prop) : body Go.Proofs.Tryz.prog gl C h144 144 [x0, x1] K = (
 wfP [x0, x1] (
 bindO (cellsV (demote x0)) fun r0 =>
 (List.length r0) = 2 ∧
 bindO (cellsV (demote x1)) fun r1 =>
 (List.length r1) = 2 ∧
 loopP (fun vs2 bs3 I4 =>
 bindO (binV none .lss (demote (demote (vget vs2 0))) (.d (.int .i64 64))) fun r5 =>
 ifP r5
 (bindO (partV true 2 0 (bget bs3 1)) fun r6 =>
 callP C 152 [(demote (demote (demote r6))), (demote (demote (demote (vget vs2 0))))] fun r7 =>
 ifP (demote r7)
 (bindO (partV true 2 0 (bget bs3 0)) fun r8 =>
 callP C 152 [(demote (demote (demote r8))), (demote (demote (demote (vget vs2 0))))] fun r9 =>
 bindO (unV .not (demote r9)) fun r10 =>
 ifP (demote r10)
 ((SV.noRef (.d (.bool false))) = true ∧
 (K (.d (.bool false))))
 (bindO (binV none .add (demote (demote (vget vs2 0))) (.d (.int .i64 1))) fun r11 =>
 (I4 [(demote r11)] [(Box.vals (Box.cells (bget bs3 0))), (Box.vals (Box.cells (bget bs3 1)))])))
 (bindO (binV none .add (demote (demote (vget vs2 0))) (.d (.int .i64 1))) fun r12 =>
 (I4 [(demote r12)] [(Box.vals (Box.cells (bget bs3 0))), (Box.vals (Box.cells (bget bs3 1)))])))
 (bindO (partV false 1 0 (bget bs3 0)) fun r13 =>
 bindO (partV false 1 0 (bget bs3 1)) fun r14 =>
 bindO (binV none .geq (demote (demote r13)) (demote (demote r14))) fun r15 =>
 (SV.noRef (demote r15)) = true ∧
 (K (demote r15))))
 [(.d (.int .i64 0))] [(Box.vals (Box.cells r0)), (Box.vals (Box.cells r1))])) := by kernel_rfl

theorem body152 (C : Con) (x0 x1 : SV) (K : SV → Prop) : body Go.Proofs.Tryz.prog gl C h152 152 [x0, x1] K = (
 wfP [x0, x1] (
 bindO (cellsV (demote x0)) fun r0 =>
 (List.length r0) = 2 ∧
 bindO (binV none .geq (demote (demote x1)) (.d (.int .i64 0))) fun r1 =>
 ifP (demote r1)
 (bindO (binV none .lss (demote (demote x1)) (.d (.int .i64 64))) fun r2 =>
 ifP (demote (demote r2))
 (bindO (partV false 1 1 r0) fun r3 =>
 bindO (convI .u64 (demote (demote x1))) fun r4 =>
 bindO (binV none .shr (demote (demote r3)) (demote r4)) fun r5 =>
 bindO (binV none .and (demote r5) (.d (.int .u64 1))) fun r6 =>
 bindO (binV (some (false, [.int])) .eql (demote r6) (.d (.int .u64 1))) fun r7 =>
 (SV.noRef (demote (demote r7))) = true ∧
 (K (demote (demote r7))))
 ((SV.noRef (.d (.bool false))) = true ∧
 (K (.d (.bool false)))))
 ((SV.noRef (.d (.bool false))) = true ∧
 (K (.d (.bool false)))))) := by kernel_rfl

theorem body169 (C : Con) (x0 x1 : SV) (K : SV → Prop) : body Go.Proofs.Tryz.prog gl C h169 169 [x0, x1] K = (
 wfP [x0, x1] (
 bindO (cellsV (demote x0)) fun r0 =>
 (List.length r0) = 0 ∧
 bindO (cellsV (demote x1)) fun r1 =>
 (List.length r1) = 7 ∧
 bindO (partsS []) fun r2 =>
 bindO (buildD Proofs.Tryz.prog 54 r2) fun r3 =>
 bindO (cellsV (.d r3)) fun r4 =>
 (List.length r4) = 2 ∧
 2 ≤ 2 ∧
 bindO (partV true 2 0 (setAt [(.d (.int .i64 0)), (.d (.int .u64 0))] 0 r4)) fun r5 =>
 (SV.noRef (demote r5)) = true ∧
 (K (demote r5)))) := by kernel_rfl

theorem body170 (C : Con) (x0 x1 : SV) (K : SV → Prop) : body Go.Proofs.Tryz.prog gl C h170 170 [x0, x1] K = (
 wfP [x0, x1] (
 bindO (cellsV (demote x0)) fun r0 =>
 (List.length r0) = 0 ∧
 bindO (cellsV (demote x1)) fun r1 =>
 (List.length r1) = 7 ∧
 bindO (partV false 1 0 r1) fun r2 =>
 (SV.noRef (demote (demote r2))) = true ∧
 (K (demote (demote r2))))) := by kernel_rfl

theorem body171 (C : Con) (x0 x1 : SV) (K : SV → Prop) : body Go.Proofs.Tryz.prog gl C h171 171 [x0, x1] K = (
 wfP [x0, x1] (
 bindO (cellsV (demote x0)) fun r0 =>
 (List.length r0) = 0 ∧
 bindO (cellsV (demote x1)) fun r1 =>
 (List.length r1) = 7 ∧
 bindO (partsS []) fun r2 =>
 bindO (buildD Proofs.Tryz.prog 54 r2) fun r3 =>
 bindO (cellsV (.d r3)) fun r4 =>
 (List.length r4) = 2 ∧
 2 ≤ 2 ∧
 bindO (partV true 2 0 (setAt [(.d (.int .i64 0)), (.d (.int .u64 0))] 0 r4)) fun r5 =>
 (SV.noRef (demote r5)) = true ∧
 (K (demote r5)))) := by kernel_rfl

theorem body172 (C : Con) (x0 x1 : SV) (K : SV → Prop) : body Go.Proofs.Tryz.prog gl C h172 172 [x0, x1] K = (
 wfP [x0, x1] (
 bindO (cellsV (demote x0)) fun r0 =>
 (List.length r0) = 0 ∧
 bindO (cellsV (demote x1)) fun r1 =>
 (List.length r1) = 7 ∧
 bindO (partV false 1 1 r1) fun r2 =>
 (SV.noRef (demote (demote r2))) = true ∧
 (K (demote (demote r2))))) := by kernel_rfl

theorem body173 (C : Con) (x0 x1 : SV) (K : SV → Prop) : body Go.Proofs.Tryz.prog gl C h173 173 [x0, x1] K = (
 wfP [x0, x1] (
 bindO (cellsV (demote x0)) fun r0 =>
 (List.length r0) = 0 ∧
 bindO (cellsV (demote x1)) fun r1 =>
 (List.length r1) = 7 ∧
 bindO (partsS []) fun r2 =>
 bindO (buildD Proofs.Tryz.prog 54 r2) fun r3 =>
 bindO (cellsV (.d r3)) fun r4 =>
 (List.length r4) = 2 ∧
 2 ≤ 2 ∧
 bindO (partV true 2 0 (setAt [(.d (.int .i64 0)), (.d (.int .u64 0))] 0 r4)) fun r5 =>
 (SV.noRef (demote r5)) = true ∧
 (K (demote r5)))) := by kernel_rfl

theorem body174 (C : Con) (x0 x1 : SV) (K : SV → Prop) : body Go.Proofs.Tryz.prog gl C h174 174 [x0, x1] K = (
 wfP [x0, x1] (
 bindO (cellsV (demote x0)) fun r0 =>
 (List.length r0) = 0 ∧
 bindO (cellsV (demote x1)) fun r1 =>
 (List.length r1) = 7 ∧
 bindO (partV false 1 2 r1) fun r2 =>
 (SV.noRef (demote (demote r2))) = true ∧
 (K (demote (demote r2))))) := by kernel_rfl

theorem body175 (C : Con) (x0 x1 : SV) (K : SV → Prop) : body Go.Proofs.Tryz.prog gl C h175 175 [x0, x1] K = (
 wfP [x0, x1] (
 bindO (cellsV (demote x0)) fun r0 =>
 (List.length r0) = 1 ∧
 bindO (cellsV (demote x1)) fun r1 =>
 (List.length r1) = 7 ∧
 bindO (partV false 1 0 r0) fun r2 =>
 ifP (demote r2)
 (bindO (partV true 2 5 r1) fun r3 =>
 bindO (cellsV (demote (demote r3))) fun r4 =>
 (List.length r4) = 2 ∧
 2 ≤ 2 ∧
 bindO (partV true 2 0 (setAt [(.d (.int .i64 0)), (.d (.int .u64 0))] 0 r4)) fun r5 =>
 (SV.noRef (demote r5)) = true ∧
 (K (demote r5)))
 (bindO (partV true 2 3 r1) fun r6 =>
 bindO (cellsV (demote (demote r6))) fun r7 =>
 (List.length r7) = 2 ∧
 2 ≤ 2 ∧
 bindO (partV true 2 0 (setAt [(.d (.int .i64 0)), (.d (.int .u64 0))] 0 r7)) fun r8 =>
 (SV.noRef (demote r8)) = true ∧
 (K (demote r8))))) := by kernel_rfl

theorem body176 (C : Con) (x0 x1 : SV) (K : SV → Prop) : body Go.Proofs.Tryz.prog gl C h176 176 [x0, x1] K = (
 wfP [x0, x1] (
 bindO (cellsV (demote x0)) fun r0 =>
 (List.length r0) = 1 ∧
 bindO (cellsV (demote x1)) fun r1 =>
 (List.length r1) = 7 ∧
 (SV.noRef (.d (.int .i64 (-1)))) = true ∧
 (K (.d (.int .i64 (-1)))))) := by kernel_rfl
end Go.Proofs.YtcnnhnjcnekhcaaGreat.Ab
