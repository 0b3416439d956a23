/-
  THE REFERENCE'S NAMES AND VECTORS.
-/
import Derived.Test.YtfeepndphaboeaaP1
set_option linter.unusedVariables false
set_option linter.unusedSimpArgs false
namespace Go.Proofs.Ytfeepndphaboeaa.Ab
open Go

theorem e25 : Enters Try.prog 25 := enters_some (fn := Try.f25) (by kernel_rfl) (by kernel_rfl) (by kernel_rfl)
theorem namesR_holds (w : Nat → BitVec 64) (l : List TyD) {x : D} (hx : IsD 3 (l.map TyD.enc) x) (hl : l.length ≤ 1000000) : Holds Try.prog gl 25 [.d (dSet w), .d x] (.d (nsOut (nmW w l l.length))) := by
  refine holds_of_body hm1 e25 (h := h25) ?_
  rw [body25]
  intro hwf
  rw [demote_d]
  refine bindO_to (cells_set w) ⟨len_cSet _, ?_⟩
  rw [out_zero]
  refine loopP_count (fun i => [.d x, .d (.int .i64 ((i : Nat) : Int))]) (fun i => [cSet w, cOut [], cOut (nmW w l i)]) l.length (fun i hi I hI => ?_) (fun I => ?_)
  · simp only [vget, bget, List.getD_cons_zero, List.getD_cons_succ, demote_d]
    refine bindO_to hx.len ?_
    rw [List.length_map]
    refine bindO_to (lss_int _ _ _) ?_
    refine ifP_to rfl (decide_eq_true (by omega)) ?_
    obtain ⟨t, ht⟩ := get_some hi
    refine bindO_to (part_set _) ?_
    refine callP_of (hasR_holds w (i : Int)) ?_
    have hlen := nmW_len w l i
    rw [ifP_dec]
    refine ⟨fun h => ?_, fun h => ?_⟩
    · refine bindO_to (show (cOut (nmW w l i))[3]? = some (sown (nmW w l i)) from rfl) ?_
      refine bindO_to (hx.at (at_map ht)) ?_
      refine bindO_to (off_ptr _ _ _) ?_
      refine bindO_to (load_cell _ _ (.str t.name) rfl) ?_
      refine bindO_to (str_one t.name) ⟨str_fit t.name, ?_⟩
      rw [str_elem]
      refine app_sown _ t.name _ (by omega) ?_
      refine bindO_to (cells_sown _) ⟨rfl, by show 3 < 5; decide, ?_⟩
      refine bindO_to (add_up hi (by simp only [maxLen]; omega)) ?_
      have e1 : nmW w l (i + 1) = nmW w l i ++ [t.name] := by rw [nmW, h, ht]; rfl
      rw [e1] at hI
      exact hI
    · refine bindO_to (add_up hi (by simp only [maxLen]; omega)) ?_
      have e1 : nmW w l (i + 1) = nmW w l i := by rw [nmW, h]; simp
      rw [e1] at hI
      exact hI
  · simp only [vget, bget, List.getD_cons_zero, List.getD_cons_succ, demote_d]
    refine bindO_to hx.len ?_
    rw [List.length_map]
    refine bindO_to (lss_int _ _ _) ?_
    refine ifP_no rfl (decide_eq_false (by omega)) ?_
    refine bindO_to (part_out _) ?_
    refine bindO_to (cells_out _) ⟨rfl, Nat.le_refl 5, ?_⟩
    refine bindO_to (part_out' _ _ rfl) ⟨rfl, rfl⟩

theorem shr_u32' {m i : Nat} (hi : i < 32) : binV none .shr (.d (.int .u32 (m : Int))) (.d (.int .u64 (i : Int))) = some (.d (.int .u32 ((m / 2 ^ i : Nat) : Int))) := shr_u32 hi
theorem conv_u64 {i : Nat} (hi : i < 32) : convI .u64 (.d (.int .i64 (i : Int))) = some (.d (.int .u64 (i : Int))) := by
  have : IntKind.u64.wrap (i : Int) = (i : Int) := by
    show (i : Int) % 2 ^ 64 = _
    omega
  simp only [convI, this]
theorem vcW_stop (m : Nat) (l : List (List UInt8)) : ∀ k, vcW m l (32 + k) = vcW m l 32
  | 0 => rfl
  | k + 1 => by
    rw [show 32 + (k + 1) = (32 + k) + 1 by omega, vcW, vcW_stop m l k, if_neg (by omega), List.append_nil]
theorem e26 : Enters Try.prog 26 := enters_some (fn := Try.f26) (by kernel_rfl) (by kernel_rfl) (by kernel_rfl)
theorem vectorR_holds (m : Nat) (hm : m < 2 ^ 32) (s : List UInt8) (l : List (List UInt8)) {x : D} (hx : IsD 1 (dStrs l) x) (hl : l.length ≤ 1000000) : Holds Try.prog gl 26 [.d (.int .u32 (m : Int)), .d (.agg [.str s, x])] (sown (vcW m l l.length)) := by
  refine holds_of_body hm1 e26 (h := h26) ?_
  rw [body26]
  intro hwf
  rw [demote_d]
  refine bindO_to (show cellsV (.d (.agg [.str s, x])) = some [.d (.str s), .d x] from rfl) ⟨rfl, ?_⟩
  have hend : vcW m l (min l.length 32) = vcW m l l.length := by
    rcases Nat.lt_or_ge l.length 32 with h | h
    · rw [Nat.min_eq_left (by omega)]
    · rw [Nat.min_eq_right h]
      obtain ⟨k, hk⟩ := Nat.exists_eq_add_of_le h
      rw [hk, vcW_stop]
  refine loopP_count (fun i => [.d (.int .u32 (m : Int)), sown (vcW m l i), .d (.int .i64 ((i : Nat) : Int))]) (fun _ => [[.d (.str s), .d x]]) (min l.length 32) (fun i hi I hI => ?_) (fun I => ?_)
  · have hi1 : i < l.length := by omega
    have h32 : i < 32 := by omega
    simp only [vget, bget, List.getD_cons_zero, List.getD_cons_succ, demote_d]
    refine bindO_to (show partV false 1 1 [.d (.str s), .d x] = some (.d x) from rfl) ?_
    rw [demote_d, demote_d]
    refine bindO_to hx.len ?_
    rw [len_strs]
    refine bindO_to (lss_int _ _ _) ?_
    refine ifP_to rfl (decide_eq_true (by omega)) ?_
    obtain ⟨t, ht⟩ := get_some hi1
    have hlen := vcW_len m l i
    rw [lss_int, bindO_some', demote_d, ifP_dec]
    refine ⟨fun _ => ?_, fun h => absurd (of_decide_eq_false h) (by omega)⟩
    rw [conv_u64 h32, bindO_some', demote_d, shr_u32' h32, bindO_some', demote_d, and_u32 (Nat.lt_of_le_of_lt (Nat.div_le_self _ _) hm), bindO_some', demote_d, eql_int, bindO_some', ifP_dec, eqb_one]
    refine ⟨fun h' => ?_, fun h' => ?_⟩
    · have hb := of_decide_eq_true h'
      refine bindO_to (show partV false 1 1 [.d (.str s), .d x] = some (.d x) from rfl) ?_
      rw [demote_d, demote_d]
      refine bindO_to (hx.at (at_strs ht)) ?_
      refine bindO_to (load_str t) ?_
      refine bindO_to (str_one t) ⟨str_fit t, ?_⟩
      rw [str_elem]
      refine app_sown _ t _ (by omega) ?_
      refine bindO_to (add_up hi1 (by simp only [maxLen]; omega)) ?_
      have e1 : vcW m l (i + 1) = vcW m l i ++ [t] := by rw [vcW, if_pos ⟨h32, hb⟩, ht]
      rw [e1] at hI
      exact hI
    · refine bindO_to (add_up hi1 (by simp only [maxLen]; omega)) ?_
      have e1 : vcW m l (i + 1) = vcW m l i := by rw [vcW, if_neg (fun hh => of_decide_eq_false h' hh.2), List.append_nil]
      rw [e1] at hI
      exact hI
  · rw [hend]
    simp only [vget, bget, List.getD_cons_zero, List.getD_cons_succ, demote_d]
    refine bindO_to (show partV false 1 1 [.d (.str s), .d x] = some (.d x) from rfl) ?_
    rw [demote_d, demote_d]
    refine bindO_to hx.len ?_
    rw [len_strs, demote_d, lss_int, bindO_some', demote_d, ifP_dec]
    refine ⟨fun h => ?_, fun _ => ⟨noRef_sown _, trivial⟩⟩
    rw [lss_int, bindO_some', demote_d, ifP_dec]
    refine ⟨fun h' => ?_, fun _ => ⟨noRef_sown _, trivial⟩⟩
    exfalso
    have h1 := of_decide_eq_true h
    have h2 := of_decide_eq_true h'
    omega
end Go.Proofs.Ytfeepndphaboeaa.Ab
