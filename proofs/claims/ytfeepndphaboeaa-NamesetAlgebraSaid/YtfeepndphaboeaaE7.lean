/-
  NAMES, VECTORS, EQUAL LISTS, FEW.
-/
import Derived.Test.YtfeepndphaboeaaE6
set_option linter.unusedVariables false
set_option linter.unusedSimpArgs false
namespace Go.Proofs.Ytfeepndphaboeaa.Ab
open Go

/-- a list that is read, as data -/
def sdS (l : List (List UInt8)) : D := match l with
  | [] => .sl .nil 0 []
  | l => .sl .ro 1 (dStrs l)
theorem dem_sown (l : List (List UInt8)) : demote (sown l) = .d (sdS l) := by cases l <;> rfl
theorem isD_sd (l : List (List UInt8)) : IsD 1 (dStrs l) (sdS l) := by
  cases l with
  | nil => exact .nil 0 rfl
  | cons a l => exact .ro
theorem cells_sown (l : List (List UInt8)) : cellsV (sown l) = some [sown l] := by cases l <;> rfl
def nsOut (l : List (List UInt8)) : D := .agg [.bool false, .bool false, .bool false, sdS l, .sl .nil 0 []]
def cOut (l : List (List UInt8)) : List SV := [.d (.bool false), .d (.bool false), .d (.bool false), sown l, .d (.sl .nil 0 [])]
theorem part_out (l : List (List UInt8)) : partV true 5 0 (cOut l) = some (.d (nsOut l)) := by cases l <;> rfl
theorem cells_out (l : List (List UInt8)) : cellsV (.d (nsOut l)) = some [.d (.bool false), .d (.bool false), .d (.bool false), .d (sdS l), .d (.sl .nil 0 [])] := rfl
theorem part_out' (l : List (List UInt8)) (cs : List SV) (h : cs.length = 5) : partV true 5 0 (setAt cs 0 [.d (.bool false), .d (.bool false), .d (.bool false), .d (sdS l), .d (.sl .nil 0 [])]) = some (.d (nsOut l)) := by
  match cs, h with
  | [a, b, c, d, e], _ => rfl
/-- the names of the types of a set, below i -/
def nmW (w : Nat → BitVec 64) (l : List TyD) : Nat → List (List UInt8)
  | 0 => []
  | i + 1 => nmW w l i ++ (if hasI w (i : Int) then (match l[i]? with | some t => [t.name] | none => []) else [])
theorem nmW_len (w : Nat → BitVec 64) (l : List TyD) : ∀ i, (nmW w l i).length ≤ i
  | 0 => Nat.le_refl _
  | i + 1 => by
    have := nmW_len w l i
    simp only [nmW, List.length_append]
    split
    · split <;> simp <;> omega
    · simp; omega
theorem out_zero : [SV.d (.bool false), .d (.bool false), .d (.bool false), .d (.sl .nil 0 []), .d (.sl .nil 0 [])] = cOut [] := rfl
theorem e22 : Enters Try.prog 22 := enters_some (fn := Try.f22) (by kernel_rfl) (by kernel_rfl) (by kernel_rfl)
theorem names_holds (w : Nat → BitVec 64) (l : List TyD) {x : D} (hx : IsD 3 (l.map TyD.enc) x) (hl : l.length ≤ 1000000) : Holds Try.prog gl 22 [.d (dSet w), .d x] (.d (nsOut (nmW w l l.length))) := by
  refine holds_of_body hm1 e22 (h := h22) ?_
  rw [body22]
  intro hwf
  rw [demote_d, demote_d]
  refine bindO_to (cells_set w) ⟨len_cSet _, ?_⟩
  refine bindO_to hx.len ?_
  rw [List.length_map, out_zero]
  refine loopP_count (fun i => [.d x, .d (.int .i64 (l.length : Int)), .d (.int .i64 ((i : Nat) : Int))]) (fun i => [cSet w, cOut [], cOut (nmW w l i)]) l.length (fun i hi I hI => ?_) (fun I => ?_)
  · simp only [vget, bget, List.getD_cons_zero, List.getD_cons_succ, demote_d]
    refine bindO_to (lss_int _ _ _) ?_
    refine ifP_to rfl (decide_eq_true (by omega)) ?_
    obtain ⟨t, ht⟩ := get_some hi
    refine bindO_to (hx.at (at_map ht)) ?_
    refine bindO_to (load_agg _ 3 rfl) ?_
    refine bindO_to (show cellsV (.d (.agg [.str t.name, t.ad, .bool t.perm])) = some [.d (.str t.name), .d t.ad, .d (.bool t.perm)] from rfl) ⟨rfl, Nat.le_refl 3, ?_⟩
    refine bindO_to (part_set _) ?_
    refine callP_of (has_holds w (i : Int)) ?_
    have hlen := nmW_len w l i
    rw [ifP_dec]
    refine ⟨fun h => ?_, fun h => ?_⟩
    · refine bindO_to (show (cOut (nmW w l i))[3]? = some (sown (nmW w l i)) from rfl) ?_
      refine bindO_to (x := .d (.str t.name)) rfl ?_
      refine bindO_to (str_one t.name) ⟨str_fit t.name, ?_⟩
      rw [str_elem]
      refine app_sown _ t.name _ (by omega) ?_
      refine bindO_to (cells_sown _) ⟨rfl, by show 3 < 5; decide, ?_⟩
      refine bindO_to (add_up hi (by simp only [maxLen]; omega)) ?_
      have e1 : nmW w l (i + 1) = nmW w l i ++ [t.name] := by rw [nmW, h, ht]; rfl
      rw [e1] at hI
      exact hI
    · refine bindO_to (add_up hi (by simp only [maxLen]; omega)) ?_
      have e1 : nmW w l (i + 1) = nmW w l i := by rw [nmW, h]; simp
      rw [e1] at hI
      exact hI
  · simp only [vget, bget, List.getD_cons_zero, List.getD_cons_succ, demote_d]
    refine bindO_to (lss_int _ _ _) ?_
    refine ifP_no rfl (decide_eq_false (by omega)) ?_
    refine bindO_to (part_out _) ?_
    refine bindO_to (cells_out _) ⟨rfl, Nat.le_refl 5, ?_⟩
    refine bindO_to (part_out' _ _ rfl) ⟨rfl, rfl⟩

/-- equal lists -/
theorem e24 : Enters Try.prog 24 := enters_some (fn := Try.f24) (by kernel_rfl) (by kernel_rfl) (by kernel_rfl)
theorem same_holds (l m : List (List UInt8)) {x y : SV} (hx : IsSl 1 (dStrs l) x) (hy : IsSl 1 (dStrs m) y) (hl : l.length ≤ maxLen) : Holds Try.prog gl 24 [x, y] (.d (.bool (l == m))) := by
  refine holds_of_body hm1 e24 (h := h24) ?_
  rw [body24]
  intro hwf
  simp only [hx.dem, hy.dem]
  refine bindO_to hx.len ?_
  refine bindO_to hy.len ?_
  rw [len_strs, len_strs, demote_d, demote_d, neq_int, bindO_some', ifP_dec]
  refine ⟨fun h => ?_, fun h => ?_⟩
  · refine ⟨rfl, ?_⟩
    have : (l == m) = false := by
      rw [beq_eq_false_iff_ne]
      rintro rfl
      simp at h
    rw [this]
  · have hlm : l.length = m.length := by
      have := h
      simp only [bne, Bool.not_eq_false', beq_iff_eq] at this
      omega
    refine loopP_inv (fun i => ∀ j, j < i → l[j]? = m[j]?) (fun i => [x, y, .d (.int .i64 ((i : Nat) : Int))]) (fun _ => []) l.length (fun j hj => absurd hj (by omega)) (fun i hi hJ I hI => ?_) (fun hJ I => ?_)
    · simp only [vget, List.getD_cons_zero, List.getD_cons_succ, demote_d, hx.dem, hy.dem]
      refine bindO_to hx.len ?_
      rw [len_strs, demote_d, lss_int, bindO_some', ifP_dec]
      refine ⟨fun _ => ?_, fun h' => absurd (of_decide_eq_false h') (by simp; omega)⟩
      obtain ⟨a, ha⟩ := get_some hi
      obtain ⟨b, hb⟩ := get_some (l := m) (i := i) (by omega)
      refine bindO_to (hx.at (at_strs ha)) ?_
      refine bindO_to (load_str a) ?_
      refine bindO_to (hy.at (at_strs hb)) ?_
      refine bindO_to (load_str b) ?_
      rw [demote_d, demote_d, neq_str, bindO_some', ifP_dec]
      refine ⟨fun h' => ⟨rfl, ?_⟩, fun h' => ?_⟩
      · have hne : (l == m) = false := by
          rw [beq_eq_false_iff_ne]
          rintro rfl
          rw [ha] at hb
          cases hb
          simp at h'
        rw [hne]
      · have hab : a = b := by simpa using h'
        refine bindO_to (add_up hi hl) ?_
        refine hI fun j hj => ?_
        rcases Nat.lt_or_ge j i with hh | hh
        · exact hJ j hh
        · have : j = i := by omega
          subst this
          rw [ha, hb, hab]
    · simp only [vget, List.getD_cons_zero, List.getD_cons_succ, demote_d, hx.dem, hy.dem]
      refine bindO_to hx.len ?_
      rw [len_strs, demote_d, lss_int, bindO_some', ifP_dec]
      refine ⟨fun h' => absurd (of_decide_eq_true h') (by omega), fun _ => ⟨rfl, ?_⟩⟩
      have : l = m := by
        apply List.ext_getElem?
        intro j
        rcases Nat.lt_or_ge j l.length with hh | hh
        · exact hJ j hh
        · rw [List.getElem?_eq_none (by omega), List.getElem?_eq_none (by omega)]
      subst this
      rw [beq_self_eq_true]

/-- bits of 32 -/
theorem shr_u32 {m i : Nat} (hi : i < 32) : binV none .shr (.d (.int .u32 (m : Int))) (.d (.int .i64 (i : Int))) = some (.d (.int .u32 ((m / 2 ^ i : Nat) : Int))) := by
  simp only [binV, binD, shiftOp, IntKind.bits]
  rw [if_neg (by omega)]
  have h : (m : Int).fdiv (2 ^ min ((i : Int)).toNat 32) = ((m / 2 ^ i : Nat) : Int) := by
    rw [Int.toNat_natCast, Nat.min_eq_left (by omega), Int.fdiv_eq_ediv_of_nonneg _ (Int.le_of_lt (Int.pow_pos (by decide)))]
    simp
  rw [h]
theorem and_u32 {q : Nat} (hq : q < 2 ^ 32) : binV none .and (.d (.int .u32 (q : Int))) (.d (.int .u32 1)) = some (.d (.int .u32 ((q % 2 : Nat) : Int))) := by
  have e : (BitVec.ofInt IntKind.u32.bits (q : Int) &&& BitVec.ofInt IntKind.u32.bits 1).toNat = q % 2 := by
    show (BitVec.ofInt 32 (q : Int) &&& BitVec.ofInt 32 1).toNat = q % 2
    rw [BitVec.toNat_and]
    have h1 : (BitVec.ofInt 32 (q : Int)).toNat = q := by
      rw [BitVec.toNat_ofInt]
      omega
    have h2 : (BitVec.ofInt 32 1).toNat = 2 ^ 1 - 1 := by decide
    rw [h1, h2, Nat.and_two_pow_sub_one_eq_mod]
  have hw : IntKind.u32.wrap ((q % 2 : Nat) : Int) = ((q % 2 : Nat) : Int) := by
    show ((q % 2 : Nat) : Int) % 2 ^ 32 = _
    omega
  simp only [binV, binD, intBop, ↓reduceIte, e, hw]
/-- the names of a vector's bits, below i -/
def vcW (m : Nat) (l : List (List UInt8)) : Nat → List (List UInt8)
  | 0 => []
  | i + 1 => vcW m l i ++ (if i < 32 ∧ m / 2 ^ i % 2 = 1 then (match l[i]? with | some t => [t] | none => []) else [])
theorem vcW_len (m : Nat) (l : List (List UInt8)) : ∀ i, (vcW m l i).length ≤ i
  | 0 => Nat.le_refl _
  | i + 1 => by
    have := vcW_len m l i
    simp only [vcW, List.length_append]
    split
    · split <;> simp <;> omega
    · simp; omega
theorem eqb_one (q : Nat) : ((q : Int) == 1) = decide (q = 1) := by
  rw [Bool.eq_iff_iff, beq_iff_eq, decide_eq_true_eq]
  omega
theorem e23 : Enters Try.prog 23 := enters_some (fn := Try.f23) (by kernel_rfl) (by kernel_rfl) (by kernel_rfl)
theorem vector_holds (m : Nat) (hm : m < 2 ^ 32) (s : List UInt8) (l : List (List UInt8)) {x : D} (hx : IsD 1 (dStrs l) x) (hl : l.length ≤ 1000000) : Holds Try.prog gl 23 [.d (.int .u32 (m : Int)), .d (.agg [.str s, x])] (sown (vcW m l l.length)) := by
  refine holds_of_body hm1 e23 (h := h23) ?_
  rw [body23]
  intro hwf
  rw [demote_d]
  refine bindO_to (show cellsV (.d (.agg [.str s, x])) = some [.d (.str s), .d x] from rfl) ⟨rfl, ?_⟩
  refine bindO_to (show partV false 1 1 [.d (.str s), .d x] = some (.d x) from rfl) ?_
  rw [demote_d, demote_d]
  refine bindO_to hx.len ?_
  rw [len_strs]
  refine loopP_count (fun i => [.d (.int .u32 (m : Int)), sown (vcW m l i), .d x, .d (.int .i64 (l.length : Int)), .d (.int .i64 ((i : Nat) : Int))]) (fun _ => [[.d (.str s), .d x]]) l.length (fun i hi I hI => ?_) (fun I => ?_)
  · simp only [vget, bget, List.getD_cons_zero, List.getD_cons_succ, demote_d]
    refine bindO_to (lss_int _ _ _) ?_
    refine ifP_to rfl (decide_eq_true (by omega)) ?_
    obtain ⟨t, ht⟩ := get_some hi
    refine bindO_to (hx.at (at_strs ht)) ?_
    refine bindO_to (load_str t) ?_
    have hlen := vcW_len m l i
    have hno : ¬ (i < 32 ∧ m / 2 ^ i % 2 = 1) → vcW m l (i + 1) = vcW m l i := fun h => by rw [vcW, if_neg h]; simp
    rw [lss_int, bindO_some', demote_d, ifP_dec]
    refine ⟨fun h => ?_, fun h => ?_⟩
    · have h32 : i < 32 := by have := of_decide_eq_true h; omega
      rw [shr_u32 h32, bindO_some', demote_d, and_u32 (Nat.lt_of_le_of_lt (Nat.div_le_self _ _) hm), bindO_some', demote_d, eql_int, bindO_some', demote_d, ifP_dec, eqb_one]
      refine ⟨fun h' => ?_, fun h' => ?_⟩
      · have hb := of_decide_eq_true h'
        refine bindO_to (str_one t) ⟨str_fit t, ?_⟩
        rw [str_elem]
        refine app_sown _ t _ (by omega) ?_
        refine bindO_to (add_up hi (by simp only [maxLen]; omega)) ?_
        have e1 : vcW m l (i + 1) = vcW m l i ++ [t] := by rw [vcW, if_pos ⟨h32, hb⟩, ht]
        rw [e1] at hI
        exact hI
      · refine bindO_to (add_up hi (by simp only [maxLen]; omega)) ?_
        rw [hno (fun hh => of_decide_eq_false h' hh.2)] at hI
        exact hI
    · refine bindO_to (add_up hi (by simp only [maxLen]; omega)) ?_
      rw [hno (fun hh => of_decide_eq_false h (by omega))] at hI
      exact hI
  · simp only [vget, bget, List.getD_cons_zero, List.getD_cons_succ, demote_d]
    refine bindO_to (lss_int _ _ _) ?_
    refine ifP_no rfl (decide_eq_false (by omega)) ?_
    exact ⟨noRef_sown _, trivial⟩

/-- not long -/
def fewF (n : NsD) (e : EnvD) : Bool := decide (n.names.length ≤ 60) && (decide (n.ex.length ≤ 60) && (decide (e.tys.length ≤ 300) && (decide (e.ats.length ≤ 60) && e.tys.all fun t => decide (t.al.length ≤ 20))))
theorem gt_no {m k : Nat} (h : decide ((m : Int) > (k : Int)) = true) : decide (m ≤ k) = false := by have := of_decide_eq_true h; exact decide_eq_false (by omega)
theorem gt_yes {m k : Nat} (h : decide ((m : Int) > (k : Int)) = false) : decide (m ≤ k) = true := by have := of_decide_eq_false h; exact decide_eq_true (by omega)
theorem e8 : Enters Try.prog 8 := enters_some (fn := Try.f8) (by kernel_rfl) (by kernel_rfl) (by kernel_rfl)
theorem few_holds (n : NsD) (e : EnvD) : Holds Try.prog gl 8 [.d n.enc, .d e.enc] (.d (.bool (fewF n e))) := by
  refine holds_of_body hm1 e8 (h := h8) ?_
  rw [body8]
  intro hwf
  rw [demote_d, demote_d]
  refine bindO_to (cells_ns n) ⟨rfl, ?_⟩
  refine bindO_to (cells_env e) ⟨rfl, ?_⟩
  refine bindO_to (ns_names n) ?_
  refine bindO_to n.hn.len ?_
  rw [len_strs, demote_d, gtr_int, bindO_some', demote_d, ifP_dec]
  refine ⟨fun h => ⟨rfl, by rw [fewF, gt_no (k := 60) h]; rfl⟩, fun h1 => ?_⟩
  refine bindO_to (ns_ex n) ?_
  refine bindO_to n.he.len ?_
  rw [len_strs, demote_d, gtr_int, bindO_some', demote_d, demote_d, ifP_dec]
  refine ⟨fun h => ⟨rfl, by rw [fewF, gt_no (k := 60) h, Bool.false_and, Bool.and_false]⟩, fun h2 => ?_⟩
  refine bindO_to (env_tys e) ?_
  refine bindO_to e.ht.len ?_
  rw [List.length_map, demote_d, gtr_int, bindO_some', demote_d, demote_d, ifP_dec]
  refine ⟨fun h => ⟨rfl, by rw [fewF, gt_no (k := 300) h, Bool.false_and, Bool.and_false, Bool.and_false]⟩, fun h3 => ?_⟩
  refine bindO_to (env_ats e) ?_
  refine bindO_to e.ha.len ?_
  rw [List.length_map, demote_d, gtr_int, bindO_some', demote_d, ifP_dec]
  refine ⟨fun h => ⟨rfl, by rw [fewF, gt_no (k := 60) h, Bool.false_and, Bool.and_false, Bool.and_false, Bool.and_false]⟩, fun h4 => ?_⟩
  have hf : fewF n e = e.tys.all fun t => decide (t.al.length ≤ 20) := by
    rw [fewF, gt_yes (k := 60) h1, gt_yes (k := 60) h2, gt_yes (k := 300) h3, gt_yes (k := 60) h4]
    rfl
  rw [hf]
  refine bindO_to (env_tys e) ?_
  refine bindO_to e.ht.len ?_
  rw [List.length_map]
  refine loopP_inv (fun i => ∀ j t, j < i → e.tys[j]? = some t → t.al.length ≤ 20) (fun i => [.d (.int .i64 (e.tys.length : Int)), .d (.int .i64 ((i : Nat) : Int))]) (fun _ => [cNs n, cEnv e]) e.tys.length (fun j t hj => absurd hj (by omega)) (fun i hi hJ I hI => ?_) (fun hJ I => ?_)
  · simp only [vget, bget, List.getD_cons_zero, List.getD_cons_succ, demote_d]
    refine bindO_to (lss_int _ _ _) ?_
    refine ifP_to rfl (decide_eq_true (by omega)) ?_
    obtain ⟨t, ht⟩ := get_some hi
    refine bindO_to (env_tys e) ?_
    refine bindO_to (e.ht.at (at_map ht)) ?_
    refine bindO_to (off_ptr _ _ _) ?_
    refine bindO_to (load_cell _ _ t.ad rfl) ?_
    refine bindO_to t.ha.len ?_
    rw [len_strs, demote_d, gtr_int, bindO_some', ifP_dec]
    refine ⟨fun h => ⟨rfl, ?_⟩, fun h => ?_⟩
    · have : (e.tys.all fun t => decide (t.al.length ≤ 20)) = false := by
        rw [List.all_eq_false]
        exact ⟨t, List.mem_of_getElem? ht, by rw [gt_no (k := 20) h]; decide⟩
      rw [this]
    · refine bindO_to (add_up hi e.lt) ?_
      refine hI fun j z hj hz => ?_
      rcases Nat.lt_or_ge j i with hh | hh
      · exact hJ j z hh hz
      · have : j = i := by omega
        subst this
        rw [ht] at hz
        cases hz
        exact of_decide_eq_true (gt_yes (k := 20) h)
  · simp only [vget, bget, List.getD_cons_zero, List.getD_cons_succ, demote_d]
    refine bindO_to (lss_int _ _ _) ?_
    refine ifP_no rfl (decide_eq_false (by omega)) ?_
    refine ⟨rfl, ?_⟩
    have : (e.tys.all fun t => decide (t.al.length ≤ 20)) = true := by
      rw [List.all_eq_true]
      intro t ht
      obtain ⟨j, hj, rfl⟩ := List.mem_iff_getElem.1 ht
      exact decide_eq_true (hJ j _ hj (List.getElem?_eq_getElem hj))
    rw [this]
end Go.Proofs.Ytfeepndphaboeaa.Ab
