/-
  THE EXAMPLES OF THE CHAPTER.
-/
import Derived.Test.YtfeepndphaboeaaE7
set_option linter.unusedVariables false
set_option linter.unusedSimpArgs false
namespace Go.Proofs.Ytfeepndphaboeaa.Ab
open Go

def mkTy (name : List UInt8) (al : List (List UInt8)) (hl : al.length ≤ maxLen) : TyD := { name := name, al := al, ad := sdS al, perm := false, ha := isD_sd al, hl := hl }
def exTys : List TyD := [mkTy [97] [[120]] (by decide), mkTy [98] [] (by decide), mkTy [99] [] (by decide)]
def exAts : List AtD := [⟨[100], ofW [1, 2] fun _ => 0⟩]
def exEnv : EnvD := { tys := exTys, td := .sl .ro 3 (exTys.map TyD.enc), ats := exAts, ad := .sl .ro 5 (exAts.map AtD.enc), ht := .ro, ha := .ro, lt := by decide, la := by decide }
theorem build_ty1 : buildD Try.prog 53 [(0, .str [97]), (1, .sl .ro 1 [.str [120]])] = some (mkTy [97] [[120]] (by decide)).enc := by kernel_rfl
theorem build_ty2 : buildD Try.prog 53 [(0, .str [98])] = some (mkTy [98] [] (by decide)).enc := by kernel_rfl
theorem build_ty3 : buildD Try.prog 53 [(0, .str [99])] = some (mkTy [99] [] (by decide)).enc := by kernel_rfl
theorem build_at (w : Nat → BitVec 64) : buildD Try.prog 65 [(0, .str [100]), (1, dSet w)] = some (AtD.enc ⟨[100], w⟩) := by kernel_rfl
theorem build_env (a b : D) (k : SK) (L : List D) (k' : SK) (M : List D) (ha : a = .sl k 3 L) (hb : b = .sl k' 5 M) : buildD Try.prog 25 [(0, a), (1, b)] = some (.agg [a, b]) := by
  subst ha hb
  kernel_rfl
theorem e30 : Enters Try.prog 30 := enters_some (fn := Try.f30) (by kernel_rfl) (by kernel_rfl) (by kernel_rfl)
theorem sample_holds : Holds Try.prog gl 30 [] (.d exEnv.enc) := by
  refine holds_of_body hm1 e30 (h := h30) ?_
  rw [body30]
  intro hwf
  refine bindO_to (x := [(0, .str [120])]) rfl ⟨rfl, ?_⟩
  refine bindO_to (x := [(0, .str [97]), (1, .sl .ro 1 [.str [120]])]) rfl ?_
  refine bindO_to build_ty1 ?_
  refine bindO_to (x := [(0, .str [98])]) rfl ?_
  refine bindO_to build_ty2 ?_
  refine bindO_to (x := [(0, .str [99])]) rfl ?_
  refine bindO_to build_ty3 ?_
  refine bindO_to (x := [(0, (mkTy [97] [[120]] (by decide)).enc), (1, (mkTy [98] [] (by decide)).enc), (2, (mkTy [99] [] (by decide)).enc)]) rfl ⟨rfl, ?_⟩
  refine bindO_to (x := [(0, .int .i64 1), (1, .int .i64 2)]) rfl ⟨rfl, ?_⟩
  refine callP_of (ofR_holds [1, 2] .full (by decide)) ?_
  rw [demote_d]
  refine bindO_to (show partsS [(0, .v (.d (.str [100]))), (1, .v (.d (dSet (ofW [1, 2] fun _ => 0))))] = some [(0, .str [100]), (1, dSet (ofW [1, 2] fun _ => 0))] from rfl) ?_
  refine bindO_to (build_at _) ?_
  refine bindO_to (x := [(0, AtD.enc ⟨[100], ofW [1, 2] fun _ => 0⟩)]) rfl ⟨rfl, ?_⟩
  refine bindO_to (x := [(0, exEnv.td), (1, exEnv.ad)]) rfl ?_
  refine bindO_to (build_env _ _ .ro _ .ro _ rfl rfl) ?_
  refine bindO_to (cells_env exEnv) ⟨rfl, Nat.le_refl 2, ?_⟩
  refine bindO_to (show partV true 2 0 (setAt [.d (.sl .nil 0 []), .d (.sl .nil 0 [])] 0 (cEnv exEnv)) = some (.d exEnv.enc) from rfl) ?_
  exact ⟨rfl, rfl⟩
/-- a set of names means these numbers -/
def mnB (n : NsD) (l : List Int) : Bool := match typF n exEnv with
  | some w => eqW w (ofW l fun _ => 0)
  | none => false
theorem e31 : Enters Try.prog 31 := enters_some (fn := Try.f31) (by kernel_rfl) (by kernel_rfl) (by kernel_rfl)
theorem means_holds (n : NsD) (l : List Int) {x : SV} (hx : IsInts l x) (hl : l.length < 2 ^ 62) (h : mnB n l = true) : Holds Try.prog gl 31 [.d n.enc, x] (.d (.bool true)) := by
  refine holds_of_body hm1 e31 (h := h31) ?_
  rw [body31]
  intro hwf
  have hd := hx.elems.2.2
  simp only [demote_d, hd]
  refine bindO_to (cells_ns n) ⟨rfl, ?_⟩
  refine bindO_to (part_ns n) ?_
  refine callP_of sample_holds ?_
  have hT := types_holds n exEnv
  rw [demote_d]
  unfold mnB at h
  cases hr : typF n exEnv with
  | none => rw [hr] at h; cases h
  | some w =>
    rw [hr] at h hT
    rw [tupE_some] at hT
    refine call2 hT ?_
    refine bindO_to (cells_set w) ⟨len_cSet _, Nat.le_refl 4, ?_⟩
    simp only [demote_d]
    rw [eql_int, bindO_some', demote_d, show ((0 : Int) == 0) = true from rfl, ifP_true, zero_set, set_all]
    refine bindO_to (part_set w) ?_
    refine callP_of (ofR_holds l hx hl) ?_
    refine bindO_to (eql_set _ _) ?_
    refine ⟨rfl, ?_⟩
    have h' : eqW w (ofW l fun _ => 0) = true := h
    rw [h']
    rfl
def mkNs (all not : Bool) (names ex : List (List UInt8)) (ln : names.length ≤ maxLen) (le : ex.length ≤ maxLen) : NsD := { all := all, not := not, self := false, names := names, ex := ex, nd := sdS names, ed := sdS ex, hn := isD_sd names, he := isD_sd ex, ln := ln, le := le }
def n1 : NsD := mkNs false false [[101]] [] (by decide) (by decide)
def n2 : NsD := mkNs true false [] [[114, 101, 97, 100]] (by decide) (by decide)
def n3 : NsD := mkNs false true [[113]] [] (by decide) (by decide)
def n4 : NsD := mkNs false false [[102, 105, 108, 101]] [] (by decide) (by decide)
def n5 : NsD := mkNs false false [[108, 105, 110, 107]] [] (by decide) (by decide)
def n6 : NsD := mkNs false false [[97], [100]] [] (by decide) (by decide)
def n7 : NsD := mkNs true false [] [[100]] (by decide) (by decide)
def n8 : NsD := mkNs false true [[100]] [] (by decide) (by decide)
def n9 : NsD := mkNs false false [[100]] [[99]] (by decide) (by decide)
def n10 : NsD := mkNs false false [] [[97]] (by decide) (by decide)
def n11 : NsD := mkNs false true [] [[97]] (by decide) (by decide)
theorem build_n1 : buildD Try.prog 29 [(3, .sl .ro 1 [.str [101]])] = some n1.enc := by kernel_rfl
theorem build_n2 : buildD Try.prog 29 [(0, .bool true), (4, .sl .ro 1 [.str [114, 101, 97, 100]])] = some n2.enc := by kernel_rfl
theorem build_n3 : buildD Try.prog 29 [(3, .sl .ro 1 [.str [113]]), (1, .bool true)] = some n3.enc := by kernel_rfl
theorem build_n4 : buildD Try.prog 29 [(3, .sl .ro 1 [.str [102, 105, 108, 101]])] = some n4.enc := by kernel_rfl
theorem build_n5 : buildD Try.prog 29 [(3, .sl .ro 1 [.str [108, 105, 110, 107]])] = some n5.enc := by kernel_rfl
theorem build_n6 : buildD Try.prog 29 [(3, .sl .ro 1 [.str [97], .str [100]])] = some n6.enc := by kernel_rfl
theorem build_n7 : buildD Try.prog 29 [(0, .bool true), (4, .sl .ro 1 [.str [100]])] = some n7.enc := by kernel_rfl
theorem build_n8 : buildD Try.prog 29 [(1, .bool true), (3, .sl .ro 1 [.str [100]])] = some n8.enc := by kernel_rfl
theorem build_n9 : buildD Try.prog 29 [(3, .sl .ro 1 [.str [100]]), (4, .sl .ro 1 [.str [99]])] = some n9.enc := by kernel_rfl
theorem build_n10 : buildD Try.prog 29 [(4, .sl .ro 1 [.str [97]])] = some n10.enc := by kernel_rfl
theorem build_n11 : buildD Try.prog 29 [(1, .bool true), (4, .sl .ro 1 [.str [97]])] = some n11.enc := by kernel_rfl
def cRW : List (List UInt8) := [[114, 101, 97, 100], [119, 114, 105, 116, 101]]
def dC : D := .agg [.str [], .sl .ro 1 (dStrs cRW)]
theorem build_c : buildD Try.prog 44 [(1, .sl .ro 1 [.str [114, 101, 97, 100], .str [119, 114, 105, 116, 101]])] = some dC := by kernel_rfl
def clA : ClD := ⟨[100, 105, 114], .sl .nil 0 []⟩
def clB : ClD := ⟨[102, 105, 108, 101], .sl .nil 0 []⟩
theorem build_a : buildD Try.prog 44 [(0, .str [100, 105, 114])] = some clA.enc := by kernel_rfl
theorem build_b : buildD Try.prog 44 [(0, .str [102, 105, 108, 101])] = some clB.enc := by kernel_rfl
theorem f_1 : (typF n1 exEnv).isSome = false := by decide +kernel
theorem f_2 : (match lstF cRW 32 n2 with | some w => decide (lowW w = 2) | none => false) = true := by decide +kernel
theorem f_3 : tyF exEnv [120] = some 0 := by decide +kernel
theorem f_4 : (match atF exEnv [100] with | some w => eqW w (ofW [1, 2] fun _ => 0) | none => false) = true := by decide +kernel
theorem f_5 : (match lstF [[112], [113], [114]] 256 n3 with | some w => eqW w (ofW [0, 2] fun _ => 0) | none => false) = true := by decide +kernel
theorem f_6 : (match lstF [[100, 105, 114], [102, 105, 108, 101]] 256 n4 with | some w => eqW w (ofW [1] fun _ => 0) | none => false) = true := by decide +kernel
theorem f_7 : (lstF [] 256 n5).isSome = false := by decide +kernel
theorem m_6 : mnB n6 [0, 1, 2] = true := by decide +kernel
theorem m_7 : mnB n7 [0] = true := by decide +kernel
theorem m_8 : mnB n8 [0] = true := by decide +kernel
theorem m_9 : mnB n9 [1] = true := by decide +kernel
theorem m_10 : mnB n10 [] = true := by decide +kernel
theorem m_11 : mnB n11 [0, 1, 2] = true := by decide +kernel
theorem f_8 : nmW (ofW [0, 2, 9] fun _ => 0) exTys 3 = [[97], [99]] := by decide +kernel
theorem f_9 : vcW 6 cRW 2 = [[119, 114, 105, 116, 101]] := by decide +kernel
end Go.Proofs.Ytfeepndphaboeaa.Ab
