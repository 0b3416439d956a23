/-
  THE EXAMPLES OF THE CHAPTER, as the law asks them.
-/
import Derived.Test.YtfeepndphaboeaaE8
set_option linter.unusedVariables false
set_option linter.unusedSimpArgs false
namespace Go.Proofs.Ytfeepndphaboeaa.Ab
open Go

theorem parts_full1 (L : List D) : partsS [(3, .v (.full 1 L))] = some [(3, .sl .ro 1 L)] := rfl
theorem e9 : Enters Try.prog 9 := enters_some (fn := Try.f9) (by kernel_rfl) (by kernel_rfl) (by kernel_rfl)
theorem awake_holds : Holds Try.prog gl 9 [] (.d (.bool true)) := by
  refine holds_of_body hm1 e9 (h := h9) ?_
  rw [body9]
  intro hwf
  have hT1 : Holds Try.prog gl 14 [.d n1.enc, .d exEnv.enc] (.tup [.d (dSet fun _ => 0), .d (.int .i64 11)]) := by
    have := types_holds n1 exEnv
    cases hr : typF n1 exEnv with
    | none => rw [hr, tupE_none] at this; exact this
    | some w => have h := f_1; rw [hr] at h; cases h
  have hP : Holds Try.prog gl 20 [.d n2.enc, .d dC] (.tup [.d (.int .u32 2), .d (.int .i64 0)]) := by
    have h1 := perms_holds n2 [] cRW (x := .sl .ro 1 (dStrs cRW)) .ro (by decide)
    have h := f_2
    cases hr : lstF cRW 32 n2 with
    | none => rw [hr] at h; cases h
    | some w =>
      rw [hr] at h h1
      have h2 : lowW w = 2 := of_decide_eq_true h
      rw [show tupP (some w) = .tup [.d (.int .u32 (lowW w)), .d (.int .i64 0)] from rfl, h2] at h1
      exact h1
  have hY : Holds Try.prog gl 10 [.d (.str [120]), .d exEnv.enc] (.tup [.d (dI 0), .d (.bool true)]) := by
    have := type_holds exEnv [120]
    rw [f_3] at this
    exact this
  obtain ⟨w4, hA, hw4⟩ : ∃ w, Holds Try.prog gl 12 [.d (.str [100]), .d exEnv.enc] (.tup [.d (dSet w), .d (.bool true)]) ∧ eqW w (ofW [1, 2] fun _ => 0) = true := by
    have h1 := attr_holds exEnv [100]
    have h := f_4
    cases hr : atF exEnv [100] with
    | none => rw [hr] at h; cases h
    | some w => rw [hr] at h h1; rw [tupS_some] at h1; exact ⟨w, h1, h⟩
  obtain ⟨w5, hL, hw5⟩ : ∃ w, Holds Try.prog gl 16 [.d n3.enc, .full 1 (dStrs [[112], [113], [114]])] (.tup [.d (dSet w), .d (.int .i64 0)]) ∧ eqW w (ofW [0, 2] fun _ => 0) = true := by
    have h1 := listedE_holds n3 [[112], [113], [114]] (x := .full 1 (dStrs [[112], [113], [114]])) .full (by decide)
    have h := f_5
    cases hr : lstF [[112], [113], [114]] 256 n3 with
    | none => rw [hr] at h; cases h
    | some w => rw [hr] at h h1; rw [tupE_some] at h1; exact ⟨w, h1, h⟩
  obtain ⟨w6, hC, hw6⟩ : ∃ w, Holds Try.prog gl 18 [.d n4.enc, .full 2 [clA.enc, clB.enc]] (.tup [.d (dSet w), .d (.int .i64 0)]) ∧ eqW w (ofW [1] fun _ => 0) = true := by
    have h1 := classes_holds n4 [clA, clB] (x := .full 2 [clA.enc, clB.enc]) .full (by decide)
    have h := f_6
    rw [show [clA, clB].map ClD.name = [[100, 105, 114], [102, 105, 108, 101]] from rfl] at h1
    cases hr : lstF [[100, 105, 114], [102, 105, 108, 101]] 256 n4 with
    | none => rw [hr] at h; cases h
    | some w => rw [hr] at h h1; rw [tupE_some] at h1; exact ⟨w, h1, h⟩
  have hE : Holds Try.prog gl 18 [.d n5.enc, .d (.sl .nil 0 [])] (.tup [.d (dSet fun _ => 0), .d (.int .i64 20)]) := by
    have h1 := classes_holds n5 [] (x := .d (.sl .nil 0 [])) (.nil 0 rfl) (by decide)
    have h := f_7
    rw [show ([] : List ClD).map ClD.name = [] from rfl] at h1
    cases hr : lstF [] 256 n5 with
    | none => rw [hr, tupE_none] at h1; exact h1
    | some w => rw [hr] at h; cases h
  have hm6 := means_holds n6 [0, 1, 2] (x := .full 1 ([0, 1, 2].map dI)) .full (by decide) m_6
  have hm7 := means_holds n7 [0] (x := .full 1 ([0].map dI)) .full (by decide) m_7
  have hm8 := means_holds n8 [0] (x := .full 1 ([0].map dI)) .full (by decide) m_8
  have hm9 := means_holds n9 [1] (x := .full 1 ([1].map dI)) .full (by decide) m_9
  have hm10 := means_holds n10 [] (x := .d (.sl .nil 0 [])) (.nil 0 rfl) (by decide) m_10
  have hm11 := means_holds n11 [0, 1, 2] (x := .full 1 ([0, 1, 2].map dI)) .full (by decide) m_11
  have hS := sample_holds
  have hN : Holds Try.prog gl 22 [.d (dSet (ofW [0, 2, 9] fun _ => 0)), .d exEnv.td] (.d (nsOut [[97], [99]])) := by
    have h1 := names_holds (ofW [0, 2, 9] fun _ => 0) exTys exEnv.ht (by decide)
    have h2 : nmW (ofW [0, 2, 9] fun _ => 0) exTys exTys.length = [[97], [99]] := f_8
    rw [h2] at h1
    exact h1
  have hV : Holds Try.prog gl 23 [.d (.int .u32 6), .d dC] (sown [[119, 114, 105, 116, 101]]) := by
    have h1 := vector_holds 6 (by decide) [] cRW (x := .sl .ro 1 (dStrs cRW)) .ro (by decide)
    have h2 : vcW 6 cRW cRW.length = [[119, 114, 105, 116, 101]] := f_9
    rw [h2] at h1
    exact h1
  have hO1 := ofR_holds [1, 2] (x := .full 1 ([1, 2].map dI)) .full (by decide)
  have hO2 := ofR_holds [0, 2] (x := .full 1 ([0, 2].map dI)) .full (by decide)
  have hO3 := ofR_holds [1] (x := .full 1 ([1].map dI)) .full (by decide)
  have hO4 := ofR_holds [0, 2, 9] (x := .full 1 ([0, 2, 9].map dI)) .full (by decide)
  generalize ofW [1, 2] (fun _ => (0 : BitVec 64)) = o1 at hw4 hO1
  generalize ofW [0, 2] (fun _ => (0 : BitVec 64)) = o2 at hw5 hO2
  generalize ofW [1] (fun _ => (0 : BitVec 64)) = o3 at hw6 hO3
  generalize ofW [0, 2, 9] (fun _ => (0 : BitVec 64)) = o4 at hN hO4
  have hS1 := same_holds [[97], [99]] [[97], [99]] (x := .d (sdS [[97], [99]])) (y := .full 1 (dStrs [[97], [99]])) (isD_sd _).sv .full (by decide)
  have hS2 := same_holds [[119, 114, 105, 116, 101]] [[119, 114, 105, 116, 101]] (x := .d (sdS [[119, 114, 105, 116, 101]])) (y := .full 1 (dStrs [[119, 114, 105, 116, 101]])) (isD_sd _).sv .full (by decide)
  rw [beq_self_eq_true] at hS1 hS2
  -- the walk
  refine bindO_to (x := [(0, .str [101])]) rfl ⟨rfl, ?_⟩
  refine bindO_to (x := [(3, .sl .ro 1 [.str [101]])]) rfl ?_
  refine bindO_to build_n1 ?_
  refine callP_of hS ?_
  refine call2 hT1 ?_
  refine bindO_to (cells_set _) ⟨len_cSet _, Nat.le_refl 4, ?_⟩
  refine bindO_to (x := [(0, .str [114, 101, 97, 100]), (1, .str [119, 114, 105, 116, 101])]) rfl ⟨rfl, ?_⟩
  refine bindO_to (x := [(1, .sl .ro 1 [.str [114, 101, 97, 100], .str [119, 114, 105, 116, 101]])]) rfl ?_
  refine bindO_to build_c ?_
  refine bindO_to (x := [.d (.str []), .d (.sl .ro 1 (dStrs cRW))]) rfl ⟨rfl, Nat.le_refl 2, ?_⟩
  refine bindO_to (x := [(0, .str [114, 101, 97, 100])]) rfl ⟨rfl, ?_⟩
  refine bindO_to (x := [(0, .bool true), (4, .sl .ro 1 [.str [114, 101, 97, 100]])]) rfl ?_
  refine bindO_to build_n2 ?_
  refine bindO_to (x := .d dC) rfl ?_
  refine call2 hP ?_
  refine callP_of hS ?_
  refine call2 hY ?_
  refine callP_of hS ?_
  refine call2 hA ?_
  refine bindO_to (cells_set w4) ⟨len_cSet _, Nat.le_refl 4, ?_⟩
  refine bindO_to (x := [(0, .str [113])]) rfl ⟨rfl, ?_⟩
  refine bindO_to (x := [(3, .sl .ro 1 [.str [113]]), (1, .bool true)]) rfl ?_
  refine bindO_to build_n3 ?_
  refine bindO_to (x := [(0, .str [112]), (1, .str [113]), (2, .str [114])]) rfl ⟨rfl, ?_⟩
  refine call2 hL ?_
  refine bindO_to (cells_set w5) ⟨len_cSet _, Nat.le_refl 4, ?_⟩
  refine bindO_to (x := [(0, .str [102, 105, 108, 101])]) rfl ⟨rfl, ?_⟩
  refine bindO_to (x := [(3, .sl .ro 1 [.str [102, 105, 108, 101]])]) rfl ?_
  refine bindO_to build_n4 ?_
  refine bindO_to (x := [(0, .str [100, 105, 114])]) rfl ?_
  refine bindO_to build_a ?_
  refine bindO_to (x := [(0, .str [102, 105, 108, 101])]) rfl ?_
  refine bindO_to build_b ?_
  refine bindO_to (x := [(0, clA.enc), (1, clB.enc)]) rfl ⟨rfl, ?_⟩
  refine call2 hC ?_
  refine bindO_to (cells_set w6) ⟨len_cSet _, Nat.le_refl 4, ?_⟩
  refine bindO_to (x := [(0, .str [108, 105, 110, 107])]) rfl ⟨rfl, ?_⟩
  refine bindO_to (x := [(3, .sl .ro 1 [.str [108, 105, 110, 107]])]) rfl ?_
  refine bindO_to build_n5 ?_
  refine call2 hE ?_
  refine bindO_to (cells_set _) ⟨len_cSet _, Nat.le_refl 4, ?_⟩
  refine bindO_to (x := [(0, .str [97]), (1, .str [100])]) rfl ⟨rfl, ?_⟩
  refine bindO_to (x := [(3, .sl .ro 1 [.str [97], .str [100]])]) rfl ?_
  refine bindO_to build_n6 ?_
  refine bindO_to (x := [(0, .int .i64 0), (1, .int .i64 1), (2, .int .i64 2)]) rfl ⟨rfl, ?_⟩
  refine callP_of hm6 ?_
  refine ifP_to rfl rfl ?_
  refine bindO_to (x := [(0, .str [100])]) rfl ⟨rfl, ?_⟩
  refine bindO_to (x := [(0, .bool true), (4, .sl .ro 1 [.str [100]])]) rfl ?_
  refine bindO_to build_n7 ?_
  refine bindO_to (x := [(0, .int .i64 0)]) rfl ⟨rfl, ?_⟩
  refine callP_of hm7 ?_
  refine ifP_to rfl rfl ?_
  refine bindO_to (x := [(0, .str [100])]) rfl ⟨rfl, ?_⟩
  refine bindO_to (x := [(1, .bool true), (3, .sl .ro 1 [.str [100]])]) rfl ?_
  refine bindO_to build_n8 ?_
  refine bindO_to (x := [(0, .int .i64 0)]) rfl ⟨rfl, ?_⟩
  refine callP_of hm8 ?_
  refine ifP_to rfl rfl ?_
  refine bindO_to (x := [(0, .str [100])]) rfl ⟨rfl, ?_⟩
  refine bindO_to (x := [(0, .str [99])]) rfl ⟨rfl, ?_⟩
  refine bindO_to (x := [(3, .sl .ro 1 [.str [100]]), (4, .sl .ro 1 [.str [99]])]) rfl ?_
  refine bindO_to build_n9 ?_
  refine bindO_to (x := [(0, .int .i64 1)]) rfl ⟨rfl, ?_⟩
  refine callP_of hm9 ?_
  refine ifP_to rfl rfl ?_
  refine bindO_to (x := [(0, .str [97])]) rfl ⟨rfl, ?_⟩
  refine bindO_to (x := [(4, .sl .ro 1 [.str [97]])]) rfl ?_
  refine bindO_to build_n10 ?_
  refine callP_of hm10 ?_
  refine ifP_to rfl rfl ?_
  refine bindO_to (x := [(0, .str [97])]) rfl ⟨rfl, ?_⟩
  refine bindO_to (x := [(1, .bool true), (4, .sl .ro 1 [.str [97]])]) rfl ?_
  refine bindO_to build_n11 ?_
  refine bindO_to (x := [(0, .int .i64 0), (1, .int .i64 1), (2, .int .i64 2)]) rfl ⟨rfl, ?_⟩
  refine callP_of hm11 ?_
  refine ifP_to rfl rfl ?_
  simp only [demote_d]
  refine bindO_to (eql_int _ _ _) ?_
  refine ifP_to rfl rfl ?_
  refine bindO_to (eql_int _ _ _) ?_
  refine ifP_to rfl rfl ?_
  refine bindO_to (eql_int _ _ _) ?_
  refine ifP_to rfl rfl ?_
  refine bindO_to (eql_int _ _ _) ?_
  refine ifP_to rfl rfl ?_
  rw [ifP_true, zero_set, set_all]
  refine bindO_to (part_set w4) ?_
  refine bindO_to (x := [(0, .int .i64 1), (1, .int .i64 2)]) rfl ⟨rfl, ?_⟩
  refine callP_of hO1 ?_
  refine bindO_to (eql_set _ _) ?_
  refine ifP_to rfl hw4 ?_
  rw [ifP_true, set_all]
  refine bindO_to (part_set w5) ?_
  refine bindO_to (x := [(0, .int .i64 0), (1, .int .i64 2)]) rfl ⟨rfl, ?_⟩
  refine callP_of hO2 ?_
  refine bindO_to (eql_set _ _) ?_
  refine ifP_to rfl hw5 ?_
  refine bindO_to (eql_int _ _ _) ?_
  refine ifP_to rfl rfl ?_
  rw [set_all]
  refine bindO_to (part_set w6) ?_
  refine bindO_to (x := [(0, .int .i64 1)]) rfl ⟨rfl, ?_⟩
  refine callP_of hO3 ?_
  refine bindO_to (eql_set _ _) ?_
  refine ifP_to rfl hw6 ?_
  refine bindO_to (eql_int _ _ _) ?_
  refine ifP_to rfl rfl ?_
  refine bindO_to (eql_int _ _ _) ?_
  refine ifP_to rfl rfl ?_
  refine bindO_to (x := [(0, .int .i64 0), (1, .int .i64 2), (2, .int .i64 9)]) rfl ⟨rfl, ?_⟩
  refine callP_of hO4 ?_
  refine callP_of hS ?_
  refine bindO_to (x := .d exEnv.td) rfl ?_
  refine callP_of hN ?_
  refine bindO_to (x := .d (sdS [[97], [99]])) rfl ?_
  refine bindO_to (x := [(0, .str [97]), (1, .str [99])]) rfl ⟨rfl, ?_⟩
  refine callP_of hS1 ?_
  refine ifP_to rfl rfl ?_
  refine bindO_to (x := .d dC) rfl ?_
  refine callP_to hV (isTup_sown _) ?_
  refine bindO_to (x := [(0, .str [119, 114, 105, 116, 101])]) rfl ⟨rfl, ?_⟩
  refine callP_of hS2 ?_
  exact ⟨rfl, rfl⟩
end Go.Proofs.Ytfeepndphaboeaa.Ab
