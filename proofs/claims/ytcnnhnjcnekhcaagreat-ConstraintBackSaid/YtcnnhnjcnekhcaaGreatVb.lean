/-
  POLICIES ARE CHECKED: roles, users, contexts, constraints.
-/
import Derived.Test.YtcnnhnjcnekhcaaGreatVa
set_option linter.unusedVariables false
set_option linter.unusedSimpArgs false
namespace Go.Proofs.YtcnnhnjcnekhcaaGreat.Ab
open Go
theorem build_role (s : List UInt8) : buildD Tryz.prog 103 [(0, .str s)] = some (.agg [.str s, .int .u64 0, .int .u64 0, .int .u64 0, .int .u64 0, .int .u64 0, .int .u64 0, .int .u64 0, .int .u64 0]) := by kernel_rfl
theorem dI_i (n : Int) : dI n = .int .i64 n := rfl
set_option maxRecDepth 4000 in
theorem place_holds (p : PolD) (c : CtxD) : ∃ n, True ∧ Holds Tryz.prog gl 104 [.d (dPol p), .d (dCtx c)] (.d (.int .i64 n)) := by
  refine tot_int hm1 (enters_some (fn := Tryz.f104) (by kernel_rfl) (by kernel_rfl) (by kernel_rfl)) ⟨1, trivial⟩ (h := h104) ?_
  rw [body104]; intro hwf
  simp only [sS, true_and, List.map_cons, List.map_nil, vget, bget, List.getD_cons_zero, List.getD_cons_succ, Box.vals, dI, Nat.le_refl, sP, sW, Nat.zero_add]
  refine callP_of (below_holds _ _) ?_
  simp only [sS, true_and, List.map_cons, List.map_nil, vget, bget, List.getD_cons_zero, List.getD_cons_succ, Box.vals, dI, Nat.le_refl, sP, sW, Nat.zero_add]
  refine And.intro (fun _ => ⟨_, rfl, trivial⟩) (fun hu => ?_)
  refine callP_of (below_holds _ _) ?_
  simp only [sS, true_and, List.map_cons, List.map_nil, vget, bget, List.getD_cons_zero, List.getD_cons_succ, Box.vals, dI, Nat.le_refl, sP, sW, Nat.zero_add]
  refine And.intro (fun _ => ⟨_, rfl, trivial⟩) (fun hr => ?_)
  obtain ⟨nu, u, hcu, hu⟩ := bel_get (l := p.us) (i := c.u) (by simpa using hu)
  obtain ⟨nr, r, hcr, hr⟩ := bel_get (l := p.ro) (i := c.r) (by simpa using hr)
  have gu := p.g_us hu
  have gr := p.g_ro hr
  rw [← hcu] at gu
  rw [← hcr] at gr
  simp only [gu, gr, sS, true_and, List.map_cons, List.map_nil, vget, bget, List.getD_cons_zero, List.getD_cons_succ, Box.vals, dI, Nat.le_refl, sP, sW, Nat.zero_add]
  repeat' first | with_reducible refine And.intro (fun h => ?_) (fun h => ?_) | (with_reducible refine call2 (some_holds _ _) ?_; simp only [sS, true_and, List.map_cons, List.map_nil, vget, bget, List.getD_cons_zero, List.getD_cons_succ, Box.vals, dI, Nat.le_refl, sP, sW, Nat.zero_add]) | (with_reducible refine callP_of (below_holds _ _) ?_; simp only [sS, true_and, List.map_cons, List.map_nil, vget, bget, List.getD_cons_zero, List.getD_cons_succ, Box.vals, dI, Nat.le_refl, sP, sW, Nat.zero_add]) | (with_reducible refine callP_of (cond13_holds _ _) ?_; simp only [sS, true_and, List.map_cons, List.map_nil, vget, bget, List.getD_cons_zero, List.getD_cons_succ, Box.vals, dI, Nat.le_refl, sP, sW, Nat.zero_add]) | (with_reducible refine callP_of (procRoles_holds _ _) ?_; simp only [sS, true_and, List.map_cons, List.map_nil, vget, bget, List.getD_cons_zero, List.getD_cons_succ, Box.vals, dI, Nat.le_refl, sP, sW, Nat.zero_add]) | (with_reducible refine ex_bool (level13_holds _ _) fun b1 _ => ?_; simp only [sS, true_and, List.map_cons, List.map_nil, vget, bget, List.getD_cons_zero, List.getD_cons_succ, Box.vals, dI, Nat.le_refl, sP, sW, Nat.zero_add]) | (with_reducible refine ex_bool (range13_holds _ _) fun b1 _ => ?_; simp only [sS, true_and, List.map_cons, List.map_nil, vget, bget, List.getD_cons_zero, List.getD_cons_succ, Box.vals, dI, Nat.le_refl, sP, sW, Nat.zero_add]) | (with_reducible refine ex_bool (dom13_holds _ _) fun b1 _ => ?_; simp only [sS, true_and, List.map_cons, List.map_nil, vget, bget, List.getD_cons_zero, List.getD_cons_succ, Box.vals, dI, Nat.le_refl, sP, sW, Nat.zero_add]) | (with_reducible refine ex_bool (vector_holds _ _ _) fun b1 _ => ?_; simp only [sS, true_and, List.map_cons, List.map_nil, vget, bget, List.getD_cons_zero, List.getD_cons_succ, Box.vals, dI, Nat.le_refl, sP, sW, Nat.zero_add]) | (with_reducible refine ex_bool (objName_holds _) fun b1 _ => ?_; simp only [sS, true_and, List.map_cons, List.map_nil, vget, bget, List.getD_cons_zero, List.getD_cons_succ, Box.vals, dI, Nat.le_refl, sP, sW, Nat.zero_add]) | (with_reducible refine callP_of (hasR_holds _ _) ?_; simp only [sS, true_and, List.map_cons, List.map_nil, vget, bget, List.getD_cons_zero, List.getD_cons_succ, Box.vals, dI, Nat.le_refl, sP, sW, Nat.zero_add])
  all_goals first | exact ⟨_, rfl, trivial⟩ | exact ⟨_, rfl, fun h => absurd h (by decide)⟩ | exact ⟨_, rfl, fun h => by simp_all⟩
/-- what is known of the constraints -/
def CsOk (p : PolD) : Prop := ∀ (i : Nat) c, p.cs[i]? = some c → c.val = (c.perms == 0)
theorem constraints13_holds (p : PolD) (h1 : p.cs.length ≤ 12) : ∃ n, (n = 0 → CsOk p) ∧ Holds Tryz.prog gl 59 [.d (dPol p)] (.d (.int .i64 n)) := by
  refine tot_int hm1 (enters_some (fn := Tryz.f59) (by kernel_rfl) (by kernel_rfl) (by kernel_rfl)) ⟨1, fun h => absurd h (by decide)⟩ (h := h59) ?_
  rw [body59]; intro hwf
  simp only [sS, true_and, List.map_cons, List.map_nil, vget, bget, List.getD_cons_zero, List.getD_cons_succ, Box.vals, dI, Nat.le_refl, sP]
  refine And.intro (fun _ => ⟨_, rfl, fun h => absurd h (by decide)⟩) (fun _ => ?_)
  refine loopP_inv (fun i => ∀ (j : Nat) c, j < i → p.cs[j]? = some c → c.val = (c.perms == 0)) (fun i => [.d (.int .i64 ((i : Nat) : Int))]) (fun i => [cPol p]) p.cs.length (fun j t hj => by omega) (fun i hi hJ I hI => ?_) (fun hJ I => ?_)
  · simp only [sS, true_and, List.map_cons, List.map_nil, vget, bget, List.getD_cons_zero, List.getD_cons_succ, Box.vals, dI, Nat.le_refl, sP]
    refine And.intro (fun _ => ?_) (fun h => absurd h (by simp; omega))
    obtain ⟨c, hc⟩ := get_some hi
    simp only [p.g_cs hc, sS, true_and, List.map_cons, List.map_nil, vget, bget, List.getD_cons_zero, List.getD_cons_succ, Box.vals, dI, Nat.le_refl, sP, sW, Nat.zero_add]
    refine ex_bool (vector_holds p c.cls c.perms) fun b1 _ => ?_
    simp only [sS, true_and, List.map_cons, List.map_nil, vget, bget, List.getD_cons_zero, List.getD_cons_succ, Box.vals, dI, Nat.le_refl]
    refine And.intro (fun _ => ⟨_, rfl, fun h => absurd h (by decide)⟩) (fun _ => ?_)
    refine And.intro (fun _ => ⟨_, rfl, fun h => absurd h (by decide)⟩) (fun hv => ?_)
    refine ex_int (Expression_holds p c.h c.val) fun r _ => ?_
    simp only [sS, true_and, List.map_cons, List.map_nil, vget, bget, List.getD_cons_zero, List.getD_cons_succ, Box.vals, dI, Nat.le_refl]
    refine And.intro (fun h => ⟨_, rfl, fun h' => by rw [h'] at h; cases h⟩) (fun _ => ?_)
    refine bindO_to (add_up hi (by simp only [maxLen]; omega)) ?_
    refine hI fun j c' hj hc' => ?_
    rcases Nat.lt_or_ge j i with h3 | h3
    · exact hJ j c' h3 hc'
    · have : j = i := by omega
      subst this
      rw [hc] at hc'
      cases hc'
      simpa using hv
  · simp only [sS, true_and, List.map_cons, List.map_nil, vget, bget, List.getD_cons_zero, List.getD_cons_succ, Box.vals, dI, Nat.le_refl, sP]
    refine And.intro (fun h => absurd h (by simp)) (fun _ => ?_)
    exact ⟨_, rfl, fun _ i c hc => hJ i c (List.getElem?_eq_some_iff.1 hc).1 hc⟩
set_option maxRecDepth 4000 in
theorem users13_holds (p : PolD) (h1 : p.us.length ≤ 8) : ∃ n, (n = 0 → distF UsD.name p.us) ∧ Holds Tryz.prog gl 54 [.d (dPol p)] (.d (.int .i64 n)) := by
  refine tot_int hm1 (enters_some (fn := Tryz.f54) (by kernel_rfl) (by kernel_rfl) (by kernel_rfl)) ⟨1, fun h => absurd h (by decide)⟩ (h := h54) ?_
  rw [body54]; intro hwf
  simp only [sS, true_and, List.map_cons, List.map_nil, vget, bget, List.getD_cons_zero, List.getD_cons_succ, Box.vals, dI, Nat.le_refl, sP]
  refine And.intro (fun _ => ⟨_, rfl, fun h => absurd h (by decide)⟩) (fun _ => ?_)
  refine loopP_inv (fun i => ∀ (j : Nat) u, j < i → p.us[j]? = some u → hasS u.name ((p.us.take j).map UsD.name) = false) (fun i => [gown 1 (dStrs ((p.us.take i).map UsD.name)), .d (.int .i64 ((i : Nat) : Int))]) (fun i => [cPol p]) p.us.length (fun j t hj => by omega) (fun i hi hJ I hI => ?_) (fun hJ I => ?_)
  · simp only [sS, true_and, List.map_cons, List.map_nil, vget, bget, List.getD_cons_zero, List.getD_cons_succ, Box.vals, dI, Nat.le_refl, sP]
    refine And.intro (fun _ => ?_) (fun h => absurd h (by simp; omega))
    obtain ⟨u, hu⟩ := get_some hi
    have hlen := names_len UsD.name p.us i
    simp only [p.g_us hu, sS, true_and, List.map_cons, List.map_nil, vget, bget, List.getD_cons_zero, List.getD_cons_succ, Box.vals, dI, Nat.le_refl, sP, sW, Nat.zero_add, len_strS, parts_s1, fit_s1, elems_s1, dem_gown, noRef_gown]
    refine ex_int (names1_holds _ _ (by rw [len_strs] at hlen; omega)) fun n1 hn1 => ?_
    simp only [sS, true_and, List.map_cons, List.map_nil, vget, bget, List.getD_cons_zero, List.getD_cons_succ, Box.vals, dI, Nat.le_refl]
    refine And.intro (fun h => ⟨_, rfl, fun h' => by rw [h'] at h; cases h⟩) (fun h0 => ?_)
    refine app_gown (elems_full _ _) ?_ ?_
    · show (_ + 1) * 16 ≤ _; omega
    have hI' : I [gown 1 (dStrs ((p.us.take i).map UsD.name) ++ [.str u.name]), .d (.int .i64 ((i + 1 : Nat) : Int))] [cPol p] := by
      rw [names_take UsD.name hu] at hI
      refine hI fun j u' hj hu' => ?_
      rcases Nat.lt_or_ge j i with h3 | h3
      · exact hJ j u' h3 hu'
      · have : j = i := by omega
        subst this
        rw [hu] at hu'
        cases hu'
        exact hn1 (by simpa using h0)
    simp only [add_up hi (show p.us.length ≤ maxLen by simp only [maxLen]; omega), sS, true_and, List.map_cons, List.map_nil, vget, bget, List.getD_cons_zero, List.getD_cons_succ, Box.vals, dI, Nat.le_refl]
    repeat' first | with_reducible refine And.intro (fun h => ?_) (fun h => ?_) | (with_reducible refine call2 (some_holds _ _) ?_; simp only [sS, true_and, List.map_cons, List.map_nil, vget, bget, List.getD_cons_zero, List.getD_cons_succ, Box.vals, dI, Nat.le_refl, sP, sW, Nat.zero_add]) | (with_reducible refine callP_of (below_holds _ _) ?_; simp only [sS, true_and, List.map_cons, List.map_nil, vget, bget, List.getD_cons_zero, List.getD_cons_succ, Box.vals, dI, Nat.le_refl, sP, sW, Nat.zero_add]) | (with_reducible refine callP_of (cond13_holds _ _) ?_; simp only [sS, true_and, List.map_cons, List.map_nil, vget, bget, List.getD_cons_zero, List.getD_cons_succ, Box.vals, dI, Nat.le_refl, sP, sW, Nat.zero_add]) | (with_reducible refine callP_of (procRoles_holds _ _) ?_; simp only [sS, true_and, List.map_cons, List.map_nil, vget, bget, List.getD_cons_zero, List.getD_cons_succ, Box.vals, dI, Nat.le_refl, sP, sW, Nat.zero_add]) | (with_reducible refine ex_bool (level13_holds _ _) fun b1 _ => ?_; simp only [sS, true_and, List.map_cons, List.map_nil, vget, bget, List.getD_cons_zero, List.getD_cons_succ, Box.vals, dI, Nat.le_refl, sP, sW, Nat.zero_add]) | (with_reducible refine ex_bool (range13_holds _ _) fun b1 _ => ?_; simp only [sS, true_and, List.map_cons, List.map_nil, vget, bget, List.getD_cons_zero, List.getD_cons_succ, Box.vals, dI, Nat.le_refl, sP, sW, Nat.zero_add]) | (with_reducible refine ex_bool (dom13_holds _ _) fun b1 _ => ?_; simp only [sS, true_and, List.map_cons, List.map_nil, vget, bget, List.getD_cons_zero, List.getD_cons_succ, Box.vals, dI, Nat.le_refl, sP, sW, Nat.zero_add]) | (with_reducible refine ex_bool (vector_holds _ _ _) fun b1 _ => ?_; simp only [sS, true_and, List.map_cons, List.map_nil, vget, bget, List.getD_cons_zero, List.getD_cons_succ, Box.vals, dI, Nat.le_refl, sP, sW, Nat.zero_add]) | (with_reducible refine ex_bool (objName_holds _) fun b1 _ => ?_; simp only [sS, true_and, List.map_cons, List.map_nil, vget, bget, List.getD_cons_zero, List.getD_cons_succ, Box.vals, dI, Nat.le_refl, sP, sW, Nat.zero_add]) | (with_reducible refine callP_of (hasR_holds _ _) ?_; simp only [sS, true_and, List.map_cons, List.map_nil, vget, bget, List.getD_cons_zero, List.getD_cons_succ, Box.vals, dI, Nat.le_refl, sP, sW, Nat.zero_add]) | with_reducible exact hI'
    all_goals first | exact ⟨_, rfl, trivial⟩ | exact ⟨_, rfl, fun h => absurd h (by decide)⟩ | exact ⟨_, rfl, fun h => by simp_all⟩
  · simp only [sS, true_and, List.map_cons, List.map_nil, vget, bget, List.getD_cons_zero, List.getD_cons_succ, Box.vals, dI, Nat.le_refl, sP]
    refine And.intro (fun h => absurd h (by simp)) (fun _ => ?_)
    exact ⟨_, rfl, fun _ i c hc => hJ i c (List.getElem?_eq_some_iff.1 hc).1 hc⟩
set_option maxRecDepth 4000 in
theorem roles13_holds (p : PolD) (h1 : p.ro.length ≤ 8) : ∃ n, (n = 0 → distF RoD.name p.ro) ∧ Holds Tryz.prog gl 53 [.d (dPol p)] (.d (.int .i64 n)) := by
  refine tot_int hm1 (enters_some (fn := Tryz.f53) (by kernel_rfl) (by kernel_rfl) (by kernel_rfl)) ⟨1, fun h => absurd h (by decide)⟩ (h := h53) ?_
  rw [body53]; intro hwf
  simp only [sS, true_and, List.map_cons, List.map_nil, vget, bget, List.getD_cons_zero, List.getD_cons_succ, Box.vals, dI, Nat.le_refl, sP]
  refine And.intro (fun _ => ⟨_, rfl, fun h => absurd h (by decide)⟩) (fun _ => ?_)
  refine callP_of (allR_holds _) ?_
  simp only [sS, true_and, List.map_cons, List.map_nil, vget, bget, List.getD_cons_zero, List.getD_cons_succ, Box.vals, dI, Nat.le_refl, cells_set, len_cSet]
  refine And.intro (fun _ => ⟨_, rfl, fun h => absurd h (by decide)⟩) (fun hne => ?_)
  have hpos : 0 < p.ro.length := by
    have : p.ro.length ≠ 0 := by simpa using hne
    omega
  obtain ⟨r0, hr0⟩ := get_some hpos
  obtain ⟨b, hb1, hb2⟩ := neq_role r0 [111, 98, 106, 101, 99, 116, 95, 114]
  refine bindO_to (p.g_ro hr0) ?_
  simp only [sS, true_and, List.map_cons, List.map_nil, vget, bget, List.getD_cons_zero, List.getD_cons_succ, Box.vals, dI, Nat.le_refl, sP, len_strS, parts_s1, fit_s1, elems_s1, build_role, hb1]
  refine And.intro (fun _ => ⟨_, rfl, fun h => absurd h (by decide)⟩) (fun hb => ?_)
  have hn0 := hb2 hb
  have e0 : SV.full 1 [.str [111, 98, 106, 101, 99, 116, 95, 114]] = fown 1 [.str [111, 98, 106, 101, 99, 116, 95, 114]] (dStrs (((p.ro.take (0 + 1)).drop 1).map RoD.name)) := by
    have : ((p.ro.take (0 + 1)).drop 1) = [] := by rw [← List.length_eq_zero_iff]; simp
    rw [this, fown]; rfl
  have hz : ∀ a0 a1 a2 a3 : SV, setAt [a0, a1, a2, a3] 0 (cSet (allW (clip (p.ty.length : Int)))) = cSet (allW (clip (p.ty.length : Int))) := fun _ _ _ _ => rfl
  rw [e0, hz]
  have hnames : ∀ i, 1 ≤ i → (p.ro.take i).map RoD.name = [111, 98, 106, 101, 99, 116, 95, 114] :: ((p.ro.take i).drop 1).map RoD.name := by
    intro i hi
    cases hro : p.ro with
    | nil => rw [hro] at hpos; simp at hpos
    | cons a l =>
      rw [hro] at hr0
      simp at hr0
      subst hr0
      cases i with
      | zero => omega
      | succ i => simp [hn0]
  refine loopP_inv (fun i => ∀ (j : Nat) r, j < i + 1 → p.ro[j]? = some r → hasS r.name ((p.ro.take j).map RoD.name) = false)
    (fun i => [fown 1 [.str [111, 98, 106, 101, 99, 116, 95, 114]] (dStrs (((p.ro.take (i + 1)).drop 1).map RoD.name)), .d (.int .i64 ((i + 1 : Nat) : Int))]) (fun i => [cPol p, cSet (allW (clip (p.ty.length : Int)))]) (p.ro.length - 1) (fun j r hj hr => ?_) (fun i hi hJ I hI => ?_) (fun hJ I => ?_)
  · have : j = 0 := by omega
    subst this
    rfl
  · simp only [sS, true_and, List.map_cons, List.map_nil, vget, bget, List.getD_cons_zero, List.getD_cons_succ, Box.vals, dI, Nat.le_refl, sP, part_set]
    refine And.intro (fun _ => ?_) (fun h => absurd h (by simp; omega))
    obtain ⟨r, hr⟩ := get_some (show i + 1 < p.ro.length by omega)
    have hl1 : (dStrs (((p.ro.take (i + 1)).drop 1).map RoD.name)).length ≤ 8 := by
      rw [len_strs, List.length_map, List.length_drop, List.length_take]; omega
    simp only [p.g_ro hr, sS, true_and, List.map_cons, List.map_nil, vget, bget, List.getD_cons_zero, List.getD_cons_succ, Box.vals, dI, Nat.le_refl, sP, sW, Nat.zero_add, len_strS, parts_s1, fit_s1, elems_s1, demote_two]
    have hsl := is_fown 1 [.str [111, 98, 106, 101, 99, 116, 95, 114]] (dStrs (((p.ro.take (i + 1)).drop 1).map RoD.name))
    rw [show [D.str [111, 98, 106, 101, 99, 116, 95, 114]] ++ dStrs (((p.ro.take (i + 1)).drop 1).map RoD.name) = dStrs ((p.ro.take (i + 1)).map RoD.name) from by rw [hnames (i + 1) (by omega)]; simp [dStrs]] at hsl
    have hn := names13_holds [r.name] ((p.ro.take (i + 1)).map RoD.name) (x := .full 1 [.str r.name]) .full (by simp [maxLen]) hsl (by rw [List.length_map, List.length_take]; simp only [maxLen]; omega)
    refine ex_int hn fun n1 hn1 => ?_
    simp only [sS, true_and, List.map_cons, List.map_nil, vget, bget, List.getD_cons_zero, List.getD_cons_succ, Box.vals, dI, Nat.le_refl]
    refine And.intro (fun h => ⟨_, rfl, fun h' => by rw [h'] at h; cases h⟩) (fun h0 => ?_)
    refine app_fown (elems_full _ _) ?_ ?_
    · show (1 + _ + 1) * 16 ≤ _; omega
    have hI' : I [fown 1 [.str [111, 98, 106, 101, 99, 116, 95, 114]] (dStrs (((p.ro.take (i + 1)).drop 1).map RoD.name) ++ [.str r.name]), .d (.int .i64 ((i + 1 + 1 : Nat) : Int))] [cPol p, cSet (allW (clip (p.ty.length : Int)))] := by
      have e : dStrs (((p.ro.take (i + 1 + 1)).drop 1).map RoD.name) = dStrs (((p.ro.take (i + 1)).drop 1).map RoD.name) ++ [.str r.name] := by
        rw [take_get hr, List.drop_append_of_le_length (by rw [List.length_take]; omega)]
        simp [dStrs]
      rw [e] at hI
      refine hI fun j r' hj hr' => ?_
      rcases Nat.lt_or_ge j (i + 1) with h3 | h3
      · exact hJ j r' h3 hr'
      · have : j = i + 1 := by omega
        subst this
        rw [hr] at hr'
        cases hr'
        exact (hn1 (by simpa using h0) 0 r.name rfl).2
    simp only [add_up (show i + 1 < p.ro.length by omega) (show p.ro.length ≤ maxLen by simp only [maxLen]; omega), sS, true_and, List.map_cons, List.map_nil, vget, bget, List.getD_cons_zero, List.getD_cons_succ, Box.vals, dI, Nat.le_refl]
    repeat' first | with_reducible refine And.intro (fun h => ?_) (fun h => ?_) | (with_reducible refine call2 (some_holds _ _) ?_; simp only [sS, true_and, List.map_cons, List.map_nil, vget, bget, List.getD_cons_zero, List.getD_cons_succ, Box.vals, dI, Nat.le_refl, sP, sW, Nat.zero_add]) | (with_reducible refine callP_of (below_holds _ _) ?_; simp only [sS, true_and, List.map_cons, List.map_nil, vget, bget, List.getD_cons_zero, List.getD_cons_succ, Box.vals, dI, Nat.le_refl, sP, sW, Nat.zero_add]) | (with_reducible refine callP_of (cond13_holds _ _) ?_; simp only [sS, true_and, List.map_cons, List.map_nil, vget, bget, List.getD_cons_zero, List.getD_cons_succ, Box.vals, dI, Nat.le_refl, sP, sW, Nat.zero_add]) | (with_reducible refine callP_of (procRoles_holds _ _) ?_; simp only [sS, true_and, List.map_cons, List.map_nil, vget, bget, List.getD_cons_zero, List.getD_cons_succ, Box.vals, dI, Nat.le_refl, sP, sW, Nat.zero_add]) | (with_reducible refine ex_bool (level13_holds _ _) fun b1 _ => ?_; simp only [sS, true_and, List.map_cons, List.map_nil, vget, bget, List.getD_cons_zero, List.getD_cons_succ, Box.vals, dI, Nat.le_refl, sP, sW, Nat.zero_add]) | (with_reducible refine ex_bool (range13_holds _ _) fun b1 _ => ?_; simp only [sS, true_and, List.map_cons, List.map_nil, vget, bget, List.getD_cons_zero, List.getD_cons_succ, Box.vals, dI, Nat.le_refl, sP, sW, Nat.zero_add]) | (with_reducible refine ex_bool (dom13_holds _ _) fun b1 _ => ?_; simp only [sS, true_and, List.map_cons, List.map_nil, vget, bget, List.getD_cons_zero, List.getD_cons_succ, Box.vals, dI, Nat.le_refl, sP, sW, Nat.zero_add]) | (with_reducible refine ex_bool (vector_holds _ _ _) fun b1 _ => ?_; simp only [sS, true_and, List.map_cons, List.map_nil, vget, bget, List.getD_cons_zero, List.getD_cons_succ, Box.vals, dI, Nat.le_refl, sP, sW, Nat.zero_add]) | (with_reducible refine ex_bool (objName_holds _) fun b1 _ => ?_; simp only [sS, true_and, List.map_cons, List.map_nil, vget, bget, List.getD_cons_zero, List.getD_cons_succ, Box.vals, dI, Nat.le_refl, sP, sW, Nat.zero_add]) | (with_reducible refine callP_of (hasR_holds _ _) ?_; simp only [sS, true_and, List.map_cons, List.map_nil, vget, bget, List.getD_cons_zero, List.getD_cons_succ, Box.vals, dI, Nat.le_refl, sP, sW, Nat.zero_add]) | (with_reducible refine callP_of (withinR_holds _ _) ?_; simp only [sS, true_and, List.map_cons, List.map_nil, vget, bget, List.getD_cons_zero, List.getD_cons_succ, Box.vals, dI, Nat.le_refl]) | with_reducible exact hI'
    all_goals first | exact ⟨_, rfl, trivial⟩ | exact ⟨_, rfl, fun h => absurd h (by decide)⟩ | exact ⟨_, rfl, fun h => by simp_all⟩
  · simp only [sS, true_and, List.map_cons, List.map_nil, vget, bget, List.getD_cons_zero, List.getD_cons_succ, Box.vals, dI, Nat.le_refl, sP]
    refine And.intro (fun h => absurd h (by simp; omega)) (fun _ => ?_)
    exact ⟨_, rfl, fun _ i r hr => hJ i r (by have := (List.getElem?_eq_some_iff.1 hr).1; omega) hr⟩
end Go.Proofs.YtcnnhnjcnekhcaaGreat.Ab
/-
  POLICIES ARE CHECKED: what is small.
-/
namespace Go.Proofs.YtcnnhnjcnekhcaaGreat.Ab
open Go
/-- four counters -/
def cN4 (n : Nat → Nat) : List SV := [.d (.int .i64 (n 0 : Int)), .d (.int .i64 (n 1 : Int)), .d (.int .i64 (n 2 : Int)), .d (.int .i64 (n 3 : Int))]
def upN (n : Nat → Nat) (k m : Nat) : Nat → Nat := fun i => if i = k then m else n i
theorem part_n4 (n : Nat → Nat) {k : Nat} (h : k < 4) : partV false 1 k (cN4 n) = some (.d (.int .i64 (n k : Int))) := by
  match k, h with
  | 0, _ => rfl
  | 1, _ => rfl
  | 2, _ => rfl
  | 3, _ => rfl
theorem set_n4 (n : Nat → Nat) {k : Nat} (h : k < 4) (m : Nat) : setAt (cN4 n) k [.d (.int .i64 (m : Int))] = cN4 (upN n k m) := by
  match k, h with
  | 0, _ => rfl
  | 1, _ => rfl
  | 2, _ => rfl
  | 3, _ => rfl
theorem len_n4 (n : Nat → Nat) : (cN4 n).length = 4 := rfl
theorem up_le {n : Nat → Nat} {i k : Nat} (h : ∀ j, n j ≤ i) : ∀ j, upN n k (n k + 1) j ≤ i + 1 := by
  intro j
  unfold upN
  have h1 := h j
  have h2 := h k
  split <;> omega
theorem up_le' {n : Nat → Nat} {i : Nat} (h : ∀ j, n j ≤ i) : ∀ j, n j ≤ i + 1 := fun j => Nat.le_succ_of_le (h j)
/-- what is known of a small policy -/
structure SmOk (p : PolD) : Prop where
  ty : p.ty.length ≤ 12
  at_ : p.at_.length ≤ 6
  cl : p.cl.length ≤ 6
  ru : p.ru.length ≤ 40
  co : p.co.length ≤ 6
  bo : p.bo.length ≤ 6
  cs : p.cs.length ≤ 12
  us : p.us.length ≤ 8
  ro : p.ro.length ≤ 8
  tr : p.tr.length ≤ 36
  rt : p.rt.length ≤ 12
  ra : p.ra.length ≤ 12
  se : p.se.length ≤ 6
  ca : p.ca.length ≤ 10
  si : p.si.length ≤ 8
  fi : p.fi.length ≤ 12
  as_ : p.as_.length ≤ 8
  als : ∀ (i : Nat) t, p.ty[i]? = some t → t.als.length ≤ 4
  conds : ∀ (i : Nat) c, p.co[i]? = some c → c.e.lv ≤ 6
  cons : ∀ (i : Nat) c, p.cs[i]? = some c → c.e.lv ≤ 6
theorem min6 {n : Nat} (h : ((min n 13 : Nat) : Int) ≤ 6) : n ≤ 6 := by omega
set_option maxRecDepth 4000 in
theorem small13_holds (p : PolD) : ∃ b, (b = true → SmOk p) ∧ Holds Tryz.prog gl 24 [.d (dPol p)] (.d (.bool b)) := by
  refine tot_bool hm1 (enters_some (fn := Tryz.f24) (by kernel_rfl) (by kernel_rfl) (by kernel_rfl)) ⟨false, fun h => by cases h⟩ (h := h24) ?_
  rw [body24]; intro hwf
  have lf : ∃ b, SV.d (.bool false) = SV.d (.bool b) ∧ (b = true → SmOk p) := ⟨_, rfl, fun h => by cases h⟩
  simp only [sS, true_and, List.map_cons, List.map_nil, vget, bget, List.getD_cons_zero, List.getD_cons_succ, Box.vals, dI, Nat.le_refl, sP]
  refine And.intro (fun _ => lf) (fun q1 => ?_)
  refine And.intro (fun _ => lf) (fun q2 => ?_)
  refine And.intro (fun _ => lf) (fun q3 => ?_)
  refine And.intro (fun _ => lf) (fun q4 => ?_)
  refine And.intro (fun _ => lf) (fun q5 => ?_)
  refine And.intro (fun _ => lf) (fun q6 => ?_)
  refine And.intro (fun _ => lf) (fun q7 => ?_)
  refine And.intro (fun _ => lf) (fun q8 => ?_)
  refine And.intro (fun _ => lf) (fun q9 => ?_)
  refine And.intro (fun _ => lf) (fun q10 => ?_)
  refine And.intro (fun _ => lf) (fun q11 => ?_)
  refine And.intro (fun _ => lf) (fun q12 => ?_)
  refine And.intro (fun _ => lf) (fun q13 => ?_)
  refine And.intro (fun _ => lf) (fun q14 => ?_)
  refine And.intro (fun _ => lf) (fun q15 => ?_)
  refine And.intro (fun _ => lf) (fun q16 => ?_)
  refine And.intro (fun _ => lf) (fun q17 => ?_)
  simp only [decide_eq_false_iff_not] at q1 q2 q3 q4 q5 q6 q7 q8 q9 q10 q11 q12 q13 q14 q15 q16 q17
  have e4 : [SV.d (.int .i64 0), .d (.int .i64 0), .d (.int .i64 0), .d (.int .i64 0)] = cN4 (fun _ => 0) := rfl
  rw [e4]
  refine loopP_ex (α := Nat → Nat) (fun i n => ∀ j, n j ≤ i) (fun i n => [.d (.int .i64 ((i : Nat) : Int))]) (fun i n => [cPol p, cN4 n]) p.tr.length (fun _ => 0) (fun j => Nat.le_refl 0) (fun i n hi hJ I hI => ?_) (fun n hJ I => ?_)
  · simp only [sS, true_and, List.map_cons, List.map_nil, vget, bget, List.getD_cons_zero, List.getD_cons_succ, Box.vals, dI, Nat.le_refl, sP]
    refine And.intro (fun _ => ?_) (fun h => absurd h (by simp; omega))
    obtain ⟨t, ht⟩ := get_some hi
    have ha := add_up hi (show p.tr.length ≤ maxLen by simp only [maxLen]; omega)
    simp only [p.g_tr ht, sS, true_and, List.map_cons, List.map_nil, vget, bget, List.getD_cons_zero, List.getD_cons_succ, Box.vals, dI, Nat.le_refl, sP, sW, Nat.zero_add, ha]
    refine And.intro (fun hk1 => ?_) (fun _ => hI n (up_le' hJ))
    refine And.intro (fun hk2 => ?_) (fun _ => hI n (up_le' hJ))
    simp only [decide_eq_true_eq] at hk1 hk2
    obtain ⟨k, hk⟩ := Int.eq_ofNat_of_zero_le (show 0 ≤ t.kind by omega)
    have hk4 : k < 4 := by omega
    have hn := hJ k
    rw [hk]
    rw [index_nat hk4]
    simp only [sS, true_and, List.map_cons, List.map_nil, vget, bget, List.getD_cons_zero, List.getD_cons_succ, Box.vals, dI, Nat.le_refl, Nat.zero_add, Nat.mul_one, part_n4 n hk4, add_one (show n k < 2 ^ 62 by omega), cells_int, List.length_singleton, len_n4, set_n4 n hk4]
    exact ⟨by omega, hI _ (up_le hJ)⟩
  · simp only [sS, true_and, List.map_cons, List.map_nil, vget, bget, List.getD_cons_zero, List.getD_cons_succ, Box.vals, dI, Nat.le_refl, sP]
    refine And.intro (fun h => absurd h (by simp)) (fun _ => ?_)
    refine loopP_inv (fun i => ∀ (j : Nat) t, j < i → p.ty[j]? = some t → t.als.length ≤ 4) (fun i => [.d (.int .i64 ((i : Nat) : Int))]) (fun i => [cPol p, cN4 n]) p.ty.length (fun j t hj => by omega) (fun i hi hJ2 I2 hI => ?_) (fun hJ2 I2 => ?_)
    · simp only [sS, true_and, List.map_cons, List.map_nil, vget, bget, List.getD_cons_zero, List.getD_cons_succ, Box.vals, dI, Nat.le_refl, sP]
      refine And.intro (fun _ => ?_) (fun h => absurd h (by simp; omega))
      obtain ⟨t, ht⟩ := get_some hi
      simp only [p.g_ty ht, sS, true_and, List.map_cons, List.map_nil, vget, bget, List.getD_cons_zero, List.getD_cons_succ, Box.vals, dI, Nat.le_refl, sP, sW, Nat.zero_add]
      refine And.intro (fun _ => lf) (fun h4 => ?_)
      refine bindO_to (add_up hi (by simp only [maxLen]; omega)) ?_
      refine hI fun j t' hj ht' => ?_
      rcases Nat.lt_or_ge j i with h3 | h3
      · exact hJ2 j t' h3 ht'
      · have : j = i := by omega
        subst this
        rw [ht] at ht'
        cases ht'
        have := of_decide_eq_false h4
        omega
    simp only [sS, true_and, List.map_cons, List.map_nil, vget, bget, List.getD_cons_zero, List.getD_cons_succ, Box.vals, dI, Nat.le_refl, sP]
    refine And.intro (fun h => absurd h (by simp)) (fun _ => ?_)
    refine loopP_inv (fun i => ∀ (j : Nat) c, j < i → p.co[j]? = some c → c.e.lv ≤ 6) (fun i => [.d (.int .i64 ((i : Nat) : Int))]) (fun i => [cPol p, cN4 n]) p.co.length (fun j t hj => by omega) (fun i hi hJ3 I3 hI => ?_) (fun hJ3 I3 => ?_)
    · simp only [sS, true_and, List.map_cons, List.map_nil, vget, bget, List.getD_cons_zero, List.getD_cons_succ, Box.vals, dI, Nat.le_refl, sP]
      refine And.intro (fun _ => ?_) (fun h => absurd h (by simp; omega))
      obtain ⟨c, hc⟩ := get_some hi
      simp only [p.g_co hc, sS, true_and, List.map_cons, List.map_nil, vget, bget, List.getD_cons_zero, List.getD_cons_succ, Box.vals, dI, Nat.le_refl, sP, sW, Nat.zero_add]
      refine callP_of (levelsR13_holds c.is) ?_
      simp only [sS, true_and, List.map_cons, List.map_nil, vget, bget, List.getD_cons_zero, List.getD_cons_succ, Box.vals, dI, Nat.le_refl]
      refine And.intro (fun _ => lf) (fun h4 => ?_)
      refine bindO_to (add_up hi (by simp only [maxLen]; omega)) ?_
      refine hI fun j c' hj hc' => ?_
      rcases Nat.lt_or_ge j i with h3 | h3
      · exact hJ3 j c' h3 hc'
      · have : j = i := by omega
        subst this
        rw [hc] at hc'
        cases hc'
        have := of_decide_eq_false h4
        exact min6 (by omega)
    simp only [sS, true_and, List.map_cons, List.map_nil, vget, bget, List.getD_cons_zero, List.getD_cons_succ, Box.vals, dI, Nat.le_refl, sP]
    refine And.intro (fun h => absurd h (by simp)) (fun _ => ?_)
    refine loopP_inv (fun i => ∀ (j : Nat) c, j < i → p.cs[j]? = some c → c.e.lv ≤ 6) (fun i => [.d (.int .i64 ((i : Nat) : Int))]) (fun i => [cPol p, cN4 n]) p.cs.length (fun j t hj => by omega) (fun i hi hJ4 I4 hI => ?_) (fun hJ4 I4 => ?_)
    · simp only [sS, true_and, List.map_cons, List.map_nil, vget, bget, List.getD_cons_zero, List.getD_cons_succ, Box.vals, dI, Nat.le_refl, sP]
      refine And.intro (fun _ => ?_) (fun h => absurd h (by simp; omega))
      obtain ⟨c, hc⟩ := get_some hi
      simp only [p.g_cs hc, sS, true_and, List.map_cons, List.map_nil, vget, bget, List.getD_cons_zero, List.getD_cons_succ, Box.vals, dI, Nat.le_refl, sP, sW, Nat.zero_add]
      refine callP_of (levelsR13_holds c.h) ?_
      simp only [sS, true_and, List.map_cons, List.map_nil, vget, bget, List.getD_cons_zero, List.getD_cons_succ, Box.vals, dI, Nat.le_refl]
      refine And.intro (fun _ => lf) (fun h4 => ?_)
      refine bindO_to (add_up hi (by simp only [maxLen]; omega)) ?_
      refine hI fun j c' hj hc' => ?_
      rcases Nat.lt_or_ge j i with h3 | h3
      · exact hJ4 j c' h3 hc'
      · have : j = i := by omega
        subst this
        rw [hc] at hc'
        cases hc'
        have := of_decide_eq_false h4
        exact min6 (by omega)
    have hall : SmOk p := by
      refine { ty := ?_, at_ := ?_, cl := ?_, ru := ?_, co := ?_, bo := ?_, cs := ?_, us := ?_, ro := ?_, tr := ?_, rt := ?_, ra := ?_, se := ?_, ca := ?_, si := ?_, fi := ?_, as_ := ?_, als := fun i t h => hJ2 i t (List.getElem?_eq_some_iff.1 h).1 h, conds := fun i t h => hJ3 i t (List.getElem?_eq_some_iff.1 h).1 h, cons := fun i t h => hJ4 i t (List.getElem?_eq_some_iff.1 h).1 h } <;> omega
    simp only [sS, true_and, List.map_cons, List.map_nil, vget, bget, List.getD_cons_zero, List.getD_cons_succ, Box.vals, dI, Nat.le_refl, sP]
    refine And.intro (fun h => absurd h (by simp)) (fun _ => ?_)
    have i1 : indexOk (.d (.int .i64 1)) 4 = some 1 := rfl
    have i2 : indexOk (.d (.int .i64 2)) 4 = some 2 := rfl
    have i3 : indexOk (.d (.int .i64 3)) 4 = some 3 := rfl
    simp only [sS, true_and, List.map_cons, List.map_nil, vget, bget, List.getD_cons_zero, List.getD_cons_succ, Box.vals, dI, Nat.le_refl, i1, i2, i3, Nat.zero_add, Nat.mul_one, part_n4 n (show 1 < 4 by decide), part_n4 n (show 2 < 4 by decide), part_n4 n (show 3 < 4 by decide)]
    repeat' first | with_reducible refine And.intro (fun h => ?_) (fun h => ?_)
    all_goals exact ⟨_, rfl, fun _ => hall⟩
end Go.Proofs.YtcnnhnjcnekhcaaGreat.Ab
/-
  POLICIES ARE CHECKED: rules, transitions, labels.
-/
namespace Go.Proofs.YtcnnhnjcnekhcaaGreat.Ab
open Go

theorem others13_holds (p : PolD) (h1 : p.bo.length ≤ 6) : ∃ n, True ∧ Holds Tryz.prog gl 55 [.d (dPol p)] (.d (.int .i64 n)) := by
  refine tot_int hm1 (enters_some (fn := Tryz.f55) (by kernel_rfl) (by kernel_rfl) (by kernel_rfl)) ⟨1, trivial⟩ (h := h55) ?_
  rw [body55]; intro hwf
  simp only [sS, true_and, List.map_cons, List.map_nil, vget, bget, List.getD_cons_zero, List.getD_cons_succ, Box.vals, dI, Nat.le_refl, sP]
  refine And.intro (fun _ => ⟨_, rfl, trivial⟩) (fun _ => ?_)
  refine loopP_count (fun i => [gown 1 (dStrs ((p.bo.take i).map BoD.name)), .d (.int .i64 ((i : Nat) : Int))]) (fun i => [cPol p]) p.bo.length (fun i hi I hI => ?_) (fun I => ?_)
  · simp only [sS, true_and, List.map_cons, List.map_nil, vget, bget, List.getD_cons_zero, List.getD_cons_succ, Box.vals, dI, Nat.le_refl, sP]
    refine And.intro (fun _ => ?_) (fun h => absurd h (by simp; omega))
    obtain ⟨c, hc⟩ := get_some hi
    have hlen := names_len BoD.name p.bo i
    simp only [p.g_bo hc, sS, true_and, List.map_cons, List.map_nil, vget, bget, List.getD_cons_zero, List.getD_cons_succ, Box.vals, dI, Nat.le_refl, sP, sW, Nat.zero_add, len_strS, parts_s1, fit_s1, elems_s1]
    refine app_gown (elems_full _ _) ?_ ?_
    · show (_ + 1) * 16 ≤ _; omega
    refine bindO_to (add_up hi (by simp only [maxLen]; omega)) ?_
    rw [names_take BoD.name hc] at hI
    exact hI
  · simp only [sS, true_and, List.map_cons, List.map_nil, vget, bget, List.getD_cons_zero, List.getD_cons_succ, Box.vals, dI, Nat.le_refl, sP, dem_gown, noRef_gown]
    refine And.intro (fun h => absurd h (by simp)) (fun _ => ?_)
    refine ex_int (namesN_holds _ (is_gsl 1 (dStrs ((p.bo.take p.bo.length).map BoD.name))) (by rw [List.length_map, List.length_take]; simp only [maxLen]; omega)) fun n1 _ => ?_
    simp only [sS, true_and, List.map_cons, List.map_nil, vget, bget, List.getD_cons_zero, List.getD_cons_succ, Box.vals, dI, Nat.le_refl]
    refine And.intro (fun _ => ⟨_, rfl, trivial⟩) (fun _ => ?_)
    refine And.intro (fun _ => ⟨_, rfl, trivial⟩) (fun _ => ?_)
    refine ex_int (namesN_holds _ p.seH p.seM) fun n2 _ => ?_
    simp only [sS, true_and, List.map_cons, List.map_nil, vget, bget, List.getD_cons_zero, List.getD_cons_succ, Box.vals, dI, Nat.le_refl]
    refine And.intro (fun _ => ⟨_, rfl, trivial⟩) (fun _ => ?_)
    refine And.intro (fun _ => ⟨_, rfl, trivial⟩) (fun _ => ?_)
    refine ex_int (namesN_holds _ p.caH p.caM) fun n3 _ => ?_
    simp only [sS, true_and, List.map_cons, List.map_nil, vget, bget, List.getD_cons_zero, List.getD_cons_succ, Box.vals, dI, Nat.le_refl]
    exact ⟨_, rfl, trivial⟩
/-- what is known of the conditions -/
def CoOk (p : PolD) : Prop := ∀ (i : Nat) c, p.co[i]? = some c → condE p c.e = 0
set_option maxRecDepth 4000 in
theorem rules13_holds (p : PolD) (h1 : p.co.length ≤ 6) (h2 : p.ru.length ≤ 40) : ∃ n, (n = 0 → CoOk p) ∧ Holds Tryz.prog gl 56 [.d (dPol p)] (.d (.int .i64 n)) := by
  refine tot_int hm1 (enters_some (fn := Tryz.f56) (by kernel_rfl) (by kernel_rfl) (by kernel_rfl)) ⟨1, fun h => absurd h (by decide)⟩ (h := h56) ?_
  rw [body56]; intro hwf
  simp only [sS, true_and, List.map_cons, List.map_nil, vget, bget, List.getD_cons_zero, List.getD_cons_succ, Box.vals, dI, Nat.le_refl, sP]
  refine And.intro (fun _ => ⟨_, rfl, fun h => absurd h (by decide)⟩) (fun _ => ?_)
  refine loopP_inv (fun i => ∀ (j : Nat) c, j < i → p.co[j]? = some c → condE p c.e = 0) (fun i => [.d (.int .i64 ((i : Nat) : Int))]) (fun i => [cPol p]) p.co.length (fun j t hj => by omega) (fun i hi hJ I hI => ?_) (fun hJ I => ?_)
  · simp only [sS, true_and, List.map_cons, List.map_nil, vget, bget, List.getD_cons_zero, List.getD_cons_succ, Box.vals, dI, Nat.le_refl, sP]
    refine And.intro (fun _ => ?_) (fun h => absurd h (by simp; omega))
    obtain ⟨c, hc⟩ := get_some hi
    simp only [p.g_co hc, sS, true_and, List.map_cons, List.map_nil, vget, bget, List.getD_cons_zero, List.getD_cons_succ, Box.vals, dI, Nat.le_refl, sP, sW, Nat.zero_add]
    refine callP_of (Condition_holds p c.is) ?_
    simp only [sS, true_and, List.map_cons, List.map_nil, vget, bget, List.getD_cons_zero, List.getD_cons_succ, Box.vals, dI, Nat.le_refl]
    refine And.intro (fun h => ⟨_, rfl, fun h' => by rw [h'] at h; cases h⟩) (fun h => ?_)
    refine bindO_to (add_up hi (by simp only [maxLen]; omega)) ?_
    refine hI fun j c' hj hc' => ?_
    rcases Nat.lt_or_ge j i with h3 | h3
    · exact hJ j c' h3 hc'
    · have : j = i := by omega
      subst this
      rw [hc] at hc'
      cases hc'
      simpa using h
  simp only [sS, true_and, List.map_cons, List.map_nil, vget, bget, List.getD_cons_zero, List.getD_cons_succ, Box.vals, dI, Nat.le_refl, sP]
  refine And.intro (fun h => absurd h (by simp)) (fun _ => ?_)
  have hco : CoOk p := fun i c hc => hJ i c (List.getElem?_eq_some_iff.1 hc).1 hc
  refine And.intro (fun _ => ⟨_, rfl, fun h => absurd h (by decide)⟩) (fun _ => ?_)
  refine loopP_count (fun i => [.d (.int .i64 ((i : Nat) : Int))]) (fun i => [cPol p]) p.ru.length (fun i hi I hI => ?_) (fun I => ?_)
  · simp only [sS, true_and, List.map_cons, List.map_nil, vget, bget, List.getD_cons_zero, List.getD_cons_succ, Box.vals, dI, Nat.le_refl, sP]
    refine And.intro (fun _ => ?_) (fun h => absurd h (by simp; omega))
    obtain ⟨c, hc⟩ := get_some hi
    have ha := add_up hi (show p.ru.length ≤ maxLen by simp only [maxLen]; omega)
    simp only [p.g_ru hc, sS, true_and, List.map_cons, List.map_nil, vget, bget, List.getD_cons_zero, List.getD_cons_succ, Box.vals, dI, Nat.le_refl, sP, sW, Nat.zero_add, ha]
    repeat' first | with_reducible refine And.intro (fun h => ?_) (fun h => ?_) | (with_reducible refine call2 (some_holds _ _) ?_; simp only [sS, true_and, List.map_cons, List.map_nil, vget, bget, List.getD_cons_zero, List.getD_cons_succ, Box.vals, dI, Nat.le_refl, sP, sW, Nat.zero_add]) | (with_reducible refine callP_of (below_holds _ _) ?_; simp only [sS, true_and, List.map_cons, List.map_nil, vget, bget, List.getD_cons_zero, List.getD_cons_succ, Box.vals, dI, Nat.le_refl, sP, sW, Nat.zero_add]) | (with_reducible refine callP_of (cond13_holds _ _) ?_; simp only [sS, true_and, List.map_cons, List.map_nil, vget, bget, List.getD_cons_zero, List.getD_cons_succ, Box.vals, dI, Nat.le_refl, sP, sW, Nat.zero_add]) | (with_reducible refine callP_of (procRoles_holds _ _) ?_; simp only [sS, true_and, List.map_cons, List.map_nil, vget, bget, List.getD_cons_zero, List.getD_cons_succ, Box.vals, dI, Nat.le_refl, sP, sW, Nat.zero_add]) | (with_reducible refine ex_bool (level13_holds _ _) fun b1 _ => ?_; simp only [sS, true_and, List.map_cons, List.map_nil, vget, bget, List.getD_cons_zero, List.getD_cons_succ, Box.vals, dI, Nat.le_refl, sP, sW, Nat.zero_add]) | (with_reducible refine ex_bool (range13_holds _ _) fun b1 _ => ?_; simp only [sS, true_and, List.map_cons, List.map_nil, vget, bget, List.getD_cons_zero, List.getD_cons_succ, Box.vals, dI, Nat.le_refl, sP, sW, Nat.zero_add]) | (with_reducible refine ex_bool (dom13_holds _ _) fun b1 _ => ?_; simp only [sS, true_and, List.map_cons, List.map_nil, vget, bget, List.getD_cons_zero, List.getD_cons_succ, Box.vals, dI, Nat.le_refl, sP, sW, Nat.zero_add]) | (with_reducible refine ex_bool (vector_holds _ _ _) fun b1 _ => ?_; simp only [sS, true_and, List.map_cons, List.map_nil, vget, bget, List.getD_cons_zero, List.getD_cons_succ, Box.vals, dI, Nat.le_refl, sP, sW, Nat.zero_add]) | (with_reducible refine ex_bool (objName_holds _) fun b1 _ => ?_; simp only [sS, true_and, List.map_cons, List.map_nil, vget, bget, List.getD_cons_zero, List.getD_cons_succ, Box.vals, dI, Nat.le_refl, sP, sW, Nat.zero_add]) | (with_reducible refine callP_of (hasR_holds _ _) ?_; simp only [sS, true_and, List.map_cons, List.map_nil, vget, bget, List.getD_cons_zero, List.getD_cons_succ, Box.vals, dI, Nat.le_refl, sP, sW, Nat.zero_add]) | with_reducible exact hI
    all_goals exact ⟨_, rfl, fun h => absurd h (by decide)⟩
  · simp only [sS, true_and, List.map_cons, List.map_nil, vget, bget, List.getD_cons_zero, List.getD_cons_succ, Box.vals, dI, Nat.le_refl, sP]
    refine And.intro (fun h => absurd h (by simp)) (fun _ => ?_)
    exact ⟨_, rfl, fun _ => hco⟩
/-- what is known of the transitions -/
structure TrF (p : PolD) (t : TrD) : Prop where
  src : insW t.sw (allW (clip (p.ty.length : Int))) = true
  tgt : insW t.tw (allW (clip (p.ty.length : Int))) = true
  cond : condF p t.cond = true
  res : belF t.res (p.ty.length : Int) = true
  cls : belF t.cls (p.cl.length : Int) = true
def TrOk (p : PolD) : Prop := ∀ (i : Nat) t, p.tr[i]? = some t → TrF p t
set_option maxRecDepth 4000 in
theorem trans13_holds (p : PolD) (h1 : p.tr.length ≤ 36) : ∃ n, (n = 0 → TrOk p) ∧ Holds Tryz.prog gl 57 [.d (dPol p)] (.d (.int .i64 n)) := by
  refine tot_int hm1 (enters_some (fn := Tryz.f57) (by kernel_rfl) (by kernel_rfl) (by kernel_rfl)) ⟨1, fun h => absurd h (by decide)⟩ (h := h57) ?_
  rw [body57]; intro hwf
  simp only [sS, true_and, List.map_cons, List.map_nil, vget, bget, List.getD_cons_zero, List.getD_cons_succ, Box.vals, dI, Nat.le_refl, sP]
  have e4 : [SV.d (.int .i64 0), .d (.int .i64 0), .d (.int .i64 0), .d (.int .i64 0)] = cN4 (fun _ => 0) := rfl
  rw [e4]
  refine loopP_ex (α := Nat → Nat) (fun i n => ∀ j, n j ≤ i) (fun i n => [.d (.int .i64 ((i : Nat) : Int))]) (fun i n => [cPol p, cN4 n]) p.tr.length (fun _ => 0) (fun j => Nat.le_refl 0) (fun i n hi hJ I hI => ?_) (fun n hJ I => ?_)
  · simp only [sS, true_and, List.map_cons, List.map_nil, vget, bget, List.getD_cons_zero, List.getD_cons_succ, Box.vals, dI, Nat.le_refl, sP]
    refine And.intro (fun _ => ?_) (fun h => absurd h (by simp; omega))
    obtain ⟨t, ht⟩ := get_some hi
    have ha := add_up hi (show p.tr.length ≤ maxLen by simp only [maxLen]; omega)
    simp only [p.g_tr ht, sS, true_and, List.map_cons, List.map_nil, vget, bget, List.getD_cons_zero, List.getD_cons_succ, Box.vals, dI, Nat.le_refl, sP, sW, Nat.zero_add, ha]
    refine And.intro (fun hk1 => ?_) (fun _ => hI n (up_le' hJ))
    refine And.intro (fun hk2 => ?_) (fun _ => hI n (up_le' hJ))
    simp only [decide_eq_true_eq] at hk1 hk2
    obtain ⟨k, hk⟩ := Int.eq_ofNat_of_zero_le (show 0 ≤ t.kind by omega)
    have hk4 : k < 4 := by omega
    have hn := hJ k
    rw [hk]
    rw [index_nat hk4]
    simp only [sS, true_and, List.map_cons, List.map_nil, vget, bget, List.getD_cons_zero, List.getD_cons_succ, Box.vals, dI, Nat.le_refl, Nat.zero_add, Nat.mul_one, part_n4 _ hk4, add_one (show n k < 2 ^ 62 by omega), cells_int, List.length_singleton, len_n4, set_n4 n hk4]
    refine ⟨by omega, ?_⟩
    refine And.intro (fun _ => ?_) (fun _ => hI _ (up_le hJ))
    exact ⟨_, rfl, fun h => absurd h (by decide)⟩
  simp only [sS, true_and, List.map_cons, List.map_nil, vget, bget, List.getD_cons_zero, List.getD_cons_succ, Box.vals, dI, Nat.le_refl, sP]
  refine And.intro (fun h => absurd h (by simp)) (fun _ => ?_)
  refine loopP_inv (fun i => ∀ (j : Nat) t, j < i → p.tr[j]? = some t → TrF p t) (fun i => [.d (.int .i64 ((i : Nat) : Int))]) (fun i => [cPol p, cN4 n]) p.tr.length (fun j t hj => by omega) (fun i hi hJ I hI => ?_) (fun hJ I => ?_)
  · simp only [sS, true_and, List.map_cons, List.map_nil, vget, bget, List.getD_cons_zero, List.getD_cons_succ, Box.vals, dI, Nat.le_refl, sP]
    refine And.intro (fun _ => ?_) (fun h => absurd h (by simp; omega))
    obtain ⟨t, ht⟩ := get_some hi
    have ha := add_up hi (show p.tr.length ≤ maxLen by simp only [maxLen]; omega)
    have hI' : TrF p t → I [.d (.int .i64 ((i + 1 : Nat) : Int))] [cPol p, cN4 n] := fun hf => hI fun j t' hj ht' => by
      rcases Nat.lt_or_ge j i with h3 | h3
      · exact hJ j t' h3 ht'
      · have : j = i := by omega
        subst this
        rw [ht] at ht'
        cases ht'
        exact hf
    simp only [p.g_tr ht, sS, true_and, List.map_cons, List.map_nil, vget, bget, List.getD_cons_zero, List.getD_cons_succ, Box.vals, dI, Nat.le_refl, sP, sW, Nat.zero_add, ha, neq_str]
    clear hI hJ hwf
    refine And.intro (fun _ => ?_) (fun _ => ?_)
    · exact ⟨_, rfl, fun h => absurd h (by decide)⟩
    refine And.intro (fun _ => ?_) (fun _ => ?_)
    · exact ⟨_, rfl, fun h => absurd h (by decide)⟩
    refine call2 (some_holds _ _) ?_
    simp only [sS, true_and, List.map_cons, List.map_nil, vget, bget, List.getD_cons_zero, List.getD_cons_succ, Box.vals, dI, Nat.le_refl, sP, sW, Nat.zero_add]
    refine call2 (some_holds _ _) ?_
    simp only [sS, true_and, List.map_cons, List.map_nil, vget, bget, List.getD_cons_zero, List.getD_cons_succ, Box.vals, dI, Nat.le_refl, sP, sW, Nat.zero_add]
    refine And.intro (fun _ => ?_) (fun g1 => ?_)
    · exact ⟨_, rfl, fun h => absurd h (by decide)⟩
    refine And.intro (fun _ => ?_) (fun g2 => ?_)
    · exact ⟨_, rfl, fun h => absurd h (by decide)⟩
    refine callP_of (below_holds _ _) ?_
    simp only [sS, true_and, List.map_cons, List.map_nil, vget, bget, List.getD_cons_zero, List.getD_cons_succ, Box.vals, dI, Nat.le_refl, sP, sW, Nat.zero_add]
    refine And.intro (fun _ => ?_) (fun g3 => ?_)
    · exact ⟨_, rfl, fun h => absurd h (by decide)⟩
    refine callP_of (below_holds _ _) ?_
    simp only [sS, true_and, List.map_cons, List.map_nil, vget, bget, List.getD_cons_zero, List.getD_cons_succ, Box.vals, dI, Nat.le_refl, sP, sW, Nat.zero_add]
    refine And.intro (fun _ => ?_) (fun g4 => ?_)
    · exact ⟨_, rfl, fun h => absurd h (by decide)⟩
    refine callP_of (cond13_holds _ _) ?_
    simp only [sS, true_and, List.map_cons, List.map_nil, vget, bget, List.getD_cons_zero, List.getD_cons_succ, Box.vals, dI, Nat.le_refl, sP, sW, Nat.zero_add]
    refine And.intro (fun _ => ?_) (fun g5 => ?_)
    · exact ⟨_, rfl, fun h => absurd h (by decide)⟩
    have hf := hI' ⟨by simpa using g1, by simpa using g2, by simpa using g5, by simpa using g4, by simpa using g3⟩
    clear hI'
    repeat' first | with_reducible refine And.intro (fun h => ?_) (fun h => ?_) | (with_reducible refine ex_bool (objName_holds _) fun b1 _ => ?_; simp only [sS, true_and, List.map_cons, List.map_nil, vget, bget, List.getD_cons_zero, List.getD_cons_succ, Box.vals, dI, Nat.le_refl, sP, sW, Nat.zero_add]) | with_reducible exact hf
    all_goals exact ⟨_, rfl, fun h => absurd h (by decide)⟩
  · simp only [sS, true_and, List.map_cons, List.map_nil, vget, bget, List.getD_cons_zero, List.getD_cons_succ, Box.vals, dI, Nat.le_refl, sP]
    refine And.intro (fun h => absurd h (by simp)) (fun _ => ?_)
    exact ⟨_, rfl, fun _ i c hc => hJ i c (List.getElem?_eq_some_iff.1 hc).1 hc⟩
set_option maxRecDepth 4000 in
theorem changes13_holds (p : PolD) (h1 : p.rt.length ≤ 12) (h2 : p.ra.length ≤ 12) : ∃ n, True ∧ Holds Tryz.prog gl 58 [.d (dPol p)] (.d (.int .i64 n)) := by
  refine tot_int hm1 (enters_some (fn := Tryz.f58) (by kernel_rfl) (by kernel_rfl) (by kernel_rfl)) ⟨1, trivial⟩ (h := h58) ?_
  rw [body58]; intro hwf
  simp only [sS, true_and, List.map_cons, List.map_nil, vget, bget, List.getD_cons_zero, List.getD_cons_succ, Box.vals, dI, Nat.le_refl, sP]
  refine And.intro (fun _ => ⟨_, rfl, trivial⟩) (fun _ => ?_)
  refine loopP_count (fun i => [.d (.int .i64 ((i : Nat) : Int))]) (fun i => [cPol p]) p.rt.length (fun i hi I hI => ?_) (fun I => ?_)
  · simp only [sS, true_and, List.map_cons, List.map_nil, vget, bget, List.getD_cons_zero, List.getD_cons_succ, Box.vals, dI, Nat.le_refl, sP]
    refine And.intro (fun _ => ?_) (fun h => absurd h (by simp; omega))
    obtain ⟨c, hc⟩ := get_some hi
    have ha := add_up hi (show p.rt.length ≤ maxLen by simp only [maxLen]; omega)
    simp only [p.g_rt hc, sS, true_and, List.map_cons, List.map_nil, vget, bget, List.getD_cons_zero, List.getD_cons_succ, Box.vals, dI, Nat.le_refl, sP, sW, Nat.zero_add, ha, build_zset]
    repeat' first | with_reducible refine And.intro (fun h => ?_) (fun h => ?_) | (with_reducible refine call2 (some_holds _ _) ?_; simp only [sS, true_and, List.map_cons, List.map_nil, vget, bget, List.getD_cons_zero, List.getD_cons_succ, Box.vals, dI, Nat.le_refl, sP, sW, Nat.zero_add]) | (with_reducible refine callP_of (below_holds _ _) ?_; simp only [sS, true_and, List.map_cons, List.map_nil, vget, bget, List.getD_cons_zero, List.getD_cons_succ, Box.vals, dI, Nat.le_refl, sP, sW, Nat.zero_add]) | (with_reducible refine callP_of (cond13_holds _ _) ?_; simp only [sS, true_and, List.map_cons, List.map_nil, vget, bget, List.getD_cons_zero, List.getD_cons_succ, Box.vals, dI, Nat.le_refl, sP, sW, Nat.zero_add]) | (with_reducible refine callP_of (procRoles_holds _ _) ?_; simp only [sS, true_and, List.map_cons, List.map_nil, vget, bget, List.getD_cons_zero, List.getD_cons_succ, Box.vals, dI, Nat.le_refl, sP, sW, Nat.zero_add]) | (with_reducible refine ex_bool (level13_holds _ _) fun b1 _ => ?_; simp only [sS, true_and, List.map_cons, List.map_nil, vget, bget, List.getD_cons_zero, List.getD_cons_succ, Box.vals, dI, Nat.le_refl, sP, sW, Nat.zero_add]) | (with_reducible refine ex_bool (range13_holds _ _) fun b1 _ => ?_; simp only [sS, true_and, List.map_cons, List.map_nil, vget, bget, List.getD_cons_zero, List.getD_cons_succ, Box.vals, dI, Nat.le_refl, sP, sW, Nat.zero_add]) | (with_reducible refine ex_bool (dom13_holds _ _) fun b1 _ => ?_; simp only [sS, true_and, List.map_cons, List.map_nil, vget, bget, List.getD_cons_zero, List.getD_cons_succ, Box.vals, dI, Nat.le_refl, sP, sW, Nat.zero_add]) | (with_reducible refine ex_bool (vector_holds _ _ _) fun b1 _ => ?_; simp only [sS, true_and, List.map_cons, List.map_nil, vget, bget, List.getD_cons_zero, List.getD_cons_succ, Box.vals, dI, Nat.le_refl, sP, sW, Nat.zero_add]) | (with_reducible refine ex_bool (objName_holds _) fun b1 _ => ?_; simp only [sS, true_and, List.map_cons, List.map_nil, vget, bget, List.getD_cons_zero, List.getD_cons_succ, Box.vals, dI, Nat.le_refl, sP, sW, Nat.zero_add]) | (with_reducible refine callP_of (hasR_holds _ _) ?_; simp only [sS, true_and, List.map_cons, List.map_nil, vget, bget, List.getD_cons_zero, List.getD_cons_succ, Box.vals, dI, Nat.le_refl, sP, sW, Nat.zero_add]) | with_reducible exact hI
    all_goals exact ⟨_, rfl, trivial⟩
  simp only [sS, true_and, List.map_cons, List.map_nil, vget, bget, List.getD_cons_zero, List.getD_cons_succ, Box.vals, dI, Nat.le_refl, sP]
  refine And.intro (fun h => absurd h (by simp)) (fun _ => ?_)
  refine And.intro (fun _ => ⟨_, rfl, trivial⟩) (fun _ => ?_)
  refine loopP_count (fun i => [.d (.int .i64 ((i : Nat) : Int))]) (fun i => [cPol p]) p.ra.length (fun i hi I hI => ?_) (fun I => ?_)
  · simp only [sS, true_and, List.map_cons, List.map_nil, vget, bget, List.getD_cons_zero, List.getD_cons_succ, Box.vals, dI, Nat.le_refl, sP]
    refine And.intro (fun _ => ?_) (fun h => absurd h (by simp; omega))
    obtain ⟨c, hc⟩ := get_some hi
    have ha := add_up hi (show p.ra.length ≤ maxLen by simp only [maxLen]; omega)
    simp only [p.g_ra hc, sS, true_and, List.map_cons, List.map_nil, vget, bget, List.getD_cons_zero, List.getD_cons_succ, Box.vals, dI, Nat.le_refl, sP, sW, Nat.zero_add, ha]
    repeat' first | with_reducible refine And.intro (fun h => ?_) (fun h => ?_) | (with_reducible refine call2 (some_holds _ _) ?_; simp only [sS, true_and, List.map_cons, List.map_nil, vget, bget, List.getD_cons_zero, List.getD_cons_succ, Box.vals, dI, Nat.le_refl, sP, sW, Nat.zero_add]) | (with_reducible refine callP_of (below_holds _ _) ?_; simp only [sS, true_and, List.map_cons, List.map_nil, vget, bget, List.getD_cons_zero, List.getD_cons_succ, Box.vals, dI, Nat.le_refl, sP, sW, Nat.zero_add]) | (with_reducible refine callP_of (cond13_holds _ _) ?_; simp only [sS, true_and, List.map_cons, List.map_nil, vget, bget, List.getD_cons_zero, List.getD_cons_succ, Box.vals, dI, Nat.le_refl, sP, sW, Nat.zero_add]) | (with_reducible refine callP_of (procRoles_holds _ _) ?_; simp only [sS, true_and, List.map_cons, List.map_nil, vget, bget, List.getD_cons_zero, List.getD_cons_succ, Box.vals, dI, Nat.le_refl, sP, sW, Nat.zero_add]) | (with_reducible refine ex_bool (level13_holds _ _) fun b1 _ => ?_; simp only [sS, true_and, List.map_cons, List.map_nil, vget, bget, List.getD_cons_zero, List.getD_cons_succ, Box.vals, dI, Nat.le_refl, sP, sW, Nat.zero_add]) | (with_reducible refine ex_bool (range13_holds _ _) fun b1 _ => ?_; simp only [sS, true_and, List.map_cons, List.map_nil, vget, bget, List.getD_cons_zero, List.getD_cons_succ, Box.vals, dI, Nat.le_refl, sP, sW, Nat.zero_add]) | (with_reducible refine ex_bool (dom13_holds _ _) fun b1 _ => ?_; simp only [sS, true_and, List.map_cons, List.map_nil, vget, bget, List.getD_cons_zero, List.getD_cons_succ, Box.vals, dI, Nat.le_refl, sP, sW, Nat.zero_add]) | (with_reducible refine ex_bool (vector_holds _ _ _) fun b1 _ => ?_; simp only [sS, true_and, List.map_cons, List.map_nil, vget, bget, List.getD_cons_zero, List.getD_cons_succ, Box.vals, dI, Nat.le_refl, sP, sW, Nat.zero_add]) | (with_reducible refine ex_bool (objName_holds _) fun b1 _ => ?_; simp only [sS, true_and, List.map_cons, List.map_nil, vget, bget, List.getD_cons_zero, List.getD_cons_succ, Box.vals, dI, Nat.le_refl, sP, sW, Nat.zero_add]) | (with_reducible refine callP_of (hasR_holds _ _) ?_; simp only [sS, true_and, List.map_cons, List.map_nil, vget, bget, List.getD_cons_zero, List.getD_cons_succ, Box.vals, dI, Nat.le_refl, sP, sW, Nat.zero_add]) | with_reducible exact hI
    all_goals exact ⟨_, rfl, trivial⟩
  · simp only [sS, true_and, List.map_cons, List.map_nil, vget, bget, List.getD_cons_zero, List.getD_cons_succ, Box.vals, dI, Nat.le_refl, sP]
    refine And.intro (fun h => absurd h (by simp)) (fun _ => ⟨_, rfl, trivial⟩)
end Go.Proofs.YtcnnhnjcnekhcaaGreat.Ab
/-
  POLICIES ARE CHECKED: labels, assertions; the whole.
-/
namespace Go.Proofs.YtcnnhnjcnekhcaaGreat.Ab
open Go
theorem number02_holds (s : List UInt8) : ∃ b, True ∧ Holds Tryz.prog gl 136 [.d (.str s)] (.d (.bool b)) := by
  refine tot_bool hm1 (enters_some (fn := Tryz.f136) (by kernel_rfl) (by kernel_rfl) (by kernel_rfl)) ⟨true, trivial⟩ (h := h136) ?_
  rw [body136]; intro hwf
  have hm := strs_wf hwf
  refine loopP_count (fun i => [.d (.str s), .d (.int .i64 ((i : Nat) : Int))]) (fun i => []) s.length (fun i hi I hI => ?_) (fun I => ?_)
  · simp only [sS, true_and, List.map_cons, List.map_nil, vget, bget, List.getD_cons_zero, List.getD_cons_succ, Box.vals, dI, Nat.le_refl, len_strS, parts_s1, fit_s1, elems_s1]
    refine And.intro (fun _ => ?_) (fun h => absurd h (by simp; omega))
    obtain ⟨b, hb⟩ := get_some hi
    simp only [str_at hb, sS, true_and, List.map_cons, List.map_nil, vget, bget, List.getD_cons_zero, List.getD_cons_succ, Box.vals, dI, Nat.le_refl]
    refine ex_bool (digit_holds _) fun b1 _ => ?_
    simp only [sS, true_and, List.map_cons, List.map_nil, vget, bget, List.getD_cons_zero, List.getD_cons_succ, Box.vals, dI, Nat.le_refl, add_up hi hm]
    repeat' first | with_reducible refine And.intro (fun h => ?_) (fun h => ?_) | with_reducible exact hI
    all_goals first | exact ⟨_, rfl, trivial⟩ | exact ⟨_, rfl, fun h => absurd h (by decide)⟩ | exact ⟨_, rfl, fun h => by simp_all⟩
  · simp only [sS, true_and, List.map_cons, List.map_nil, vget, bget, List.getD_cons_zero, List.getD_cons_succ, Box.vals, dI, Nat.le_refl, len_strS, parts_s1, fit_s1, elems_s1]
    refine And.intro (fun h => absurd h (by simp)) (fun _ => ?_)
    refine And.intro (fun h => ?_) (fun _ => ⟨_, rfl, trivial⟩)
    have hpos : 0 < s.length := by have := of_decide_eq_true h; omega
    obtain ⟨b, hb⟩ := get_some hpos
    have hb' := str_at hb
    rw [show ((0 : Nat) : Int) = 0 from rfl] at hb'
    simp only [hb', sS, true_and, List.map_cons, List.map_nil, vget, bget, List.getD_cons_zero, List.getD_cons_succ, Box.vals, dI, Nat.le_refl]
    repeat' first | with_reducible refine And.intro (fun h => ?_) (fun h => ?_)
    all_goals first | exact ⟨_, rfl, trivial⟩ | exact ⟨_, rfl, fun h => absurd h (by decide)⟩ | exact ⟨_, rfl, fun h => by simp_all⟩
theorem quoted02_holds (s : List UInt8) : ∃ b, True ∧ Holds Tryz.prog gl 137 [.d (.str s)] (.d (.bool b)) := by
  refine tot_bool hm1 (enters_some (fn := Tryz.f137) (by kernel_rfl) (by kernel_rfl) (by kernel_rfl)) ⟨true, trivial⟩ (h := h137) ?_
  rw [body137]; intro hwf
  have hm := strs_wf hwf
  refine loopP_count (fun i => [.d (.str s), .d (.int .i64 ((i : Nat) : Int))]) (fun i => []) s.length (fun i hi I hI => ?_) (fun I => ?_)
  · simp only [sS, true_and, List.map_cons, List.map_nil, vget, bget, List.getD_cons_zero, List.getD_cons_succ, Box.vals, dI, Nat.le_refl, len_strS, parts_s1, fit_s1, elems_s1]
    refine And.intro (fun _ => ?_) (fun h => absurd h (by simp; omega))
    obtain ⟨b, hb⟩ := get_some hi
    simp only [str_at hb, sS, true_and, List.map_cons, List.map_nil, vget, bget, List.getD_cons_zero, List.getD_cons_succ, Box.vals, dI, Nat.le_refl, add_up hi hm]
    repeat' first | with_reducible refine And.intro (fun h => ?_) (fun h => ?_) | with_reducible exact hI
    all_goals first | exact ⟨_, rfl, trivial⟩ | exact ⟨_, rfl, fun h => absurd h (by decide)⟩ | exact ⟨_, rfl, fun h => by simp_all⟩
  · simp only [sS, true_and, List.map_cons, List.map_nil, vget, bget, List.getD_cons_zero, List.getD_cons_succ, Box.vals, dI, Nat.le_refl, len_strS, parts_s1, fit_s1, elems_s1]
    refine And.intro (fun h => absurd h (by simp)) (fun _ => ?_)
    first | exact ⟨_, rfl, trivial⟩ | exact ⟨_, rfl, fun h => absurd h (by decide)⟩ | exact ⟨_, rfl, fun h => by simp_all⟩
theorem check02_holds (s : List UInt8) : ∃ b, True ∧ Holds Tryz.prog gl 105 [.d (.agg [.int .i64 3, .str s, .int .i64 0, .int .i64 0])] (.d (.bool b)) := by
  refine tot_bool hm1 (enters_some (fn := Tryz.f105) (by kernel_rfl) (by kernel_rfl) (by kernel_rfl)) ⟨true, trivial⟩ (h := h105) ?_
  rw [body105]; intro hwf
  have c1 : cellsV (.d (.agg [.int .i64 3, .str s, .int .i64 0, .int .i64 0])) = some [.d (.int .i64 3), .d (.str s), .d (.int .i64 0), .d (.int .i64 0)] := rfl
  have c2 : partV false 1 0 [.d (.int .i64 3), .d (.str s), .d (.int .i64 0), .d (.int .i64 0)] = some (.d (.int .i64 3)) := rfl
  have c3 : partV false 1 1 [.d (.int .i64 3), .d (.str s), .d (.int .i64 0), .d (.int .i64 0)] = some (.d (.str s)) := rfl
  rw [demote_d, c1, bindO_some']
  refine ⟨rfl, ?_⟩
  rw [c2, bindO_some', demote_d, demote_d, eql_int, bindO_some', demote_d]
  refine ifP_no rfl (by decide) ?_
  rw [eql_int, bindO_some', demote_d]
  refine ifP_no rfl (by decide) ?_
  rw [eql_int, bindO_some', demote_d]
  refine ifP_no rfl (by decide) ?_
  rw [eql_int, bindO_some', demote_d]
  refine ifP_to rfl (by decide) ?_
  rw [c3, bindO_some', demote_d, demote_d, demote_d]
  refine ex_bool (quoted02_holds s) fun b1 _ => ?_
  exact ⟨rfl, _, rfl, trivial⟩
theorem build_tok (s : List UInt8) : buildD Tryz.prog 158 [(0, .int .i64 3), (1, .str s)] = some (.agg [.int .i64 3, .str s, .int .i64 0, .int .i64 0]) := by kernel_rfl
theorem parts_tok (s : List UInt8) : partsS [(0, .v (.d (.int .i64 3))), (1, .v (.d (.str s)))] = some [(0, .int .i64 3), (1, .str s)] := rfl
set_option maxRecDepth 4000 in
theorem labels13_holds (p : PolD) (h1 : p.si.length ≤ 8) (h2 : p.fi.length ≤ 12) : ∃ n, True ∧ Holds Tryz.prog gl 60 [.d (dPol p)] (.d (.int .i64 n)) := by
  refine tot_int hm1 (enters_some (fn := Tryz.f60) (by kernel_rfl) (by kernel_rfl) (by kernel_rfl)) ⟨1, trivial⟩ (h := h60) ?_
  rw [body60]; intro hwf
  simp only [sS, true_and, List.map_cons, List.map_nil, vget, bget, List.getD_cons_zero, List.getD_cons_succ, Box.vals, dI, Nat.le_refl, sP]
  refine And.intro (fun _ => ⟨_, rfl, trivial⟩) (fun _ => ?_)
  refine loopP_count (fun i => [gown 1 (dStrs ((p.si.take i).map SiD.name)), .d (.int .i64 ((i : Nat) : Int))]) (fun i => [cPol p]) p.si.length (fun i hi I hI => ?_) (fun I => ?_)
  · simp only [sS, true_and, List.map_cons, List.map_nil, vget, bget, List.getD_cons_zero, List.getD_cons_succ, Box.vals, dI, Nat.le_refl, sP]
    refine And.intro (fun _ => ?_) (fun h => absurd h (by simp; omega))
    obtain ⟨c, hc⟩ := get_some hi
    have hlen := names_len SiD.name p.si i
    simp only [p.g_si hc, sS, true_and, List.map_cons, List.map_nil, vget, bget, List.getD_cons_zero, List.getD_cons_succ, Box.vals, dI, Nat.le_refl, sP, sW, Nat.zero_add, len_strS, parts_s1, fit_s1, elems_s1, dem_gown, noRef_gown]
    refine ex_int (names1_holds _ _ (by rw [len_strs] at hlen; omega)) fun n1 _ => ?_
    simp only [sS, true_and, List.map_cons, List.map_nil, vget, bget, List.getD_cons_zero, List.getD_cons_succ, Box.vals, dI, Nat.le_refl]
    refine And.intro (fun _ => ⟨_, rfl, trivial⟩) (fun _ => ?_)
    refine app_gown (elems_full _ _) ?_ ?_
    · show (_ + 1) * 16 ≤ _; omega
    refine ex_int (place_holds p c.ctx) fun n2 _ => ?_
    simp only [sS, true_and, List.map_cons, List.map_nil, vget, bget, List.getD_cons_zero, List.getD_cons_succ, Box.vals, dI, Nat.le_refl]
    refine And.intro (fun _ => ⟨_, rfl, trivial⟩) (fun _ => ?_)
    refine bindO_to (add_up hi (by simp only [maxLen]; omega)) ?_
    rw [names_take SiD.name hc] at hI
    exact hI
  simp only [sS, true_and, List.map_cons, List.map_nil, vget, bget, List.getD_cons_zero, List.getD_cons_succ, Box.vals, dI, Nat.le_refl, sP]
  refine And.intro (fun h => absurd h (by simp)) (fun _ => ?_)
  refine And.intro (fun _ => ⟨_, rfl, trivial⟩) (fun _ => ?_)
  refine loopP_count (fun i => [.d (.int .i64 ((i : Nat) : Int))]) (fun i => [cPol p]) p.fi.length (fun i hi I hI => ?_) (fun I => ?_)
  · simp only [sS, true_and, List.map_cons, List.map_nil, vget, bget, List.getD_cons_zero, List.getD_cons_succ, Box.vals, dI, Nat.le_refl, sP]
    refine And.intro (fun _ => ?_) (fun h => absurd h (by simp; omega))
    obtain ⟨c, hc⟩ := get_some hi
    have ha := add_up hi (show p.fi.length ≤ maxLen by simp only [maxLen]; omega)
    simp only [p.g_fi hc, sS, true_and, List.map_cons, List.map_nil, vget, bget, List.getD_cons_zero, List.getD_cons_succ, Box.vals, dI, Nat.le_refl, sP, sW, Nat.zero_add, ha, parts_tok, build_tok, eql_str]
    refine And.intro (fun _ => ⟨_, rfl, trivial⟩) (fun _ => ?_)
    refine ex_bool (check02_holds c.pat) fun b1 _ => ?_
    simp only [sS, true_and, List.map_cons, List.map_nil, vget, bget, List.getD_cons_zero, List.getD_cons_succ, Box.vals, dI, Nat.le_refl, sP]
    refine And.intro (fun _ => ⟨_, rfl, trivial⟩) (fun _ => ?_)
    refine And.intro (fun _ => ⟨_, rfl, trivial⟩) (fun _ => ?_)
    refine And.intro (fun _ => ⟨_, rfl, trivial⟩) (fun _ => ?_)
    refine ex_int (place_holds p c.ctx) fun n2 _ => ?_
    simp only [sS, true_and, List.map_cons, List.map_nil, vget, bget, List.getD_cons_zero, List.getD_cons_succ, Box.vals, dI, Nat.le_refl]
    refine And.intro (fun _ => ⟨_, rfl, trivial⟩) (fun _ => ?_)
    exact hI
  · simp only [sS, true_and, List.map_cons, List.map_nil, vget, bget, List.getD_cons_zero, List.getD_cons_succ, Box.vals, dI, Nat.le_refl, sP]
    refine And.intro (fun h => absurd h (by simp)) (fun _ => ⟨_, rfl, trivial⟩)
set_option maxRecDepth 4000 in
theorem asserts13_holds (p : PolD) (h1 : p.as_.length ≤ 8) : ∃ n, True ∧ Holds Tryz.prog gl 61 [.d (dPol p)] (.d (.int .i64 n)) := by
  refine tot_int hm1 (enters_some (fn := Tryz.f61) (by kernel_rfl) (by kernel_rfl) (by kernel_rfl)) ⟨1, trivial⟩ (h := h61) ?_
  rw [body61]; intro hwf
  simp only [sS, true_and, List.map_cons, List.map_nil, vget, bget, List.getD_cons_zero, List.getD_cons_succ, Box.vals, dI, Nat.le_refl, sP]
  refine And.intro (fun _ => ⟨_, rfl, trivial⟩) (fun _ => ?_)
  refine loopP_count (fun i => [gown 1 (dStrs ((p.as_.take i).map AsD.name)), .d (.int .i64 ((i : Nat) : Int))]) (fun i => [cPol p]) p.as_.length (fun i hi I hI => ?_) (fun I => ?_)
  · simp only [sS, true_and, List.map_cons, List.map_nil, vget, bget, List.getD_cons_zero, List.getD_cons_succ, Box.vals, dI, Nat.le_refl, sP]
    refine And.intro (fun _ => ?_) (fun h => absurd h (by simp; omega))
    obtain ⟨c, hc⟩ := get_some hi
    have hlen := names_len AsD.name p.as_ i
    have ha := add_up hi (show p.as_.length ≤ maxLen by simp only [maxLen]; omega)
    rw [names_take AsD.name hc] at hI
    simp only [p.g_as_ hc, sS, true_and, List.map_cons, List.map_nil, vget, bget, List.getD_cons_zero, List.getD_cons_succ, Box.vals, dI, Nat.le_refl, sP, sW, Nat.zero_add, len_strS, parts_s1, fit_s1, elems_s1, dem_gown, noRef_gown]
    refine ex_int (names1_holds _ _ (by rw [len_strs] at hlen; omega)) fun n1 _ => ?_
    simp only [sS, true_and, List.map_cons, List.map_nil, vget, bget, List.getD_cons_zero, List.getD_cons_succ, Box.vals, dI, Nat.le_refl]
    refine And.intro (fun _ => ⟨_, rfl, trivial⟩) (fun _ => ?_)
    refine app_gown (elems_full _ _) ?_ ?_
    · show (_ + 1) * 16 ≤ _; omega
    simp only [sS, true_and, List.map_cons, List.map_nil, vget, bget, List.getD_cons_zero, List.getD_cons_succ, Box.vals, dI, Nat.le_refl, sP, sW, Nat.zero_add, ha]
    repeat' first | with_reducible refine And.intro (fun h => ?_) (fun h => ?_) | (with_reducible refine call2 (some_holds _ _) ?_; simp only [sS, true_and, List.map_cons, List.map_nil, vget, bget, List.getD_cons_zero, List.getD_cons_succ, Box.vals, dI, Nat.le_refl, sP, sW, Nat.zero_add]) | (with_reducible refine callP_of (below_holds _ _) ?_; simp only [sS, true_and, List.map_cons, List.map_nil, vget, bget, List.getD_cons_zero, List.getD_cons_succ, Box.vals, dI, Nat.le_refl, sP, sW, Nat.zero_add]) | (with_reducible refine callP_of (cond13_holds _ _) ?_; simp only [sS, true_and, List.map_cons, List.map_nil, vget, bget, List.getD_cons_zero, List.getD_cons_succ, Box.vals, dI, Nat.le_refl, sP, sW, Nat.zero_add]) | (with_reducible refine callP_of (procRoles_holds _ _) ?_; simp only [sS, true_and, List.map_cons, List.map_nil, vget, bget, List.getD_cons_zero, List.getD_cons_succ, Box.vals, dI, Nat.le_refl, sP, sW, Nat.zero_add]) | (with_reducible refine ex_bool (level13_holds _ _) fun b1 _ => ?_; simp only [sS, true_and, List.map_cons, List.map_nil, vget, bget, List.getD_cons_zero, List.getD_cons_succ, Box.vals, dI, Nat.le_refl, sP, sW, Nat.zero_add]) | (with_reducible refine ex_bool (range13_holds _ _) fun b1 _ => ?_; simp only [sS, true_and, List.map_cons, List.map_nil, vget, bget, List.getD_cons_zero, List.getD_cons_succ, Box.vals, dI, Nat.le_refl, sP, sW, Nat.zero_add]) | (with_reducible refine ex_bool (dom13_holds _ _) fun b1 _ => ?_; simp only [sS, true_and, List.map_cons, List.map_nil, vget, bget, List.getD_cons_zero, List.getD_cons_succ, Box.vals, dI, Nat.le_refl, sP, sW, Nat.zero_add]) | (with_reducible refine ex_bool (vector_holds _ _ _) fun b1 _ => ?_; simp only [sS, true_and, List.map_cons, List.map_nil, vget, bget, List.getD_cons_zero, List.getD_cons_succ, Box.vals, dI, Nat.le_refl, sP, sW, Nat.zero_add]) | (with_reducible refine ex_bool (objName_holds _) fun b1 _ => ?_; simp only [sS, true_and, List.map_cons, List.map_nil, vget, bget, List.getD_cons_zero, List.getD_cons_succ, Box.vals, dI, Nat.le_refl, sP, sW, Nat.zero_add]) | (with_reducible refine callP_of (hasR_holds _ _) ?_; simp only [sS, true_and, List.map_cons, List.map_nil, vget, bget, List.getD_cons_zero, List.getD_cons_succ, Box.vals, dI, Nat.le_refl, sP, sW, Nat.zero_add]) | with_reducible exact hI
    all_goals exact ⟨_, rfl, trivial⟩
  · simp only [sS, true_and, List.map_cons, List.map_nil, vget, bget, List.getD_cons_zero, List.getD_cons_succ, Box.vals, dI, Nat.le_refl, sP]
    refine And.intro (fun h => absurd h (by simp)) (fun _ => ⟨_, rfl, trivial⟩)
theorem first13_holds (l : List Int) (hl : l.length ≤ 100) : ∃ n, (n = 0 → ∀ z ∈ l, z = 0) ∧ Holds Tryz.prog gl 50 [.full 1 (l.map (D.int .i64))] (.d (.int .i64 n)) := by
  refine tot_int hm1 (enters_some (fn := Tryz.f50) (by kernel_rfl) (by kernel_rfl) (by kernel_rfl)) ⟨1, fun h => absurd h (by decide)⟩ (h := h50) ?_
  rw [body50]; intro hwf
  have hx : IsSl 1 (l.map (D.int .i64)) (.full 1 (l.map (D.int .i64))) := .full
  refine loopP_inv (fun i => ∀ (j : Nat) z, j < i → l[j]? = some z → z = 0) (fun i => [.full 1 (l.map (D.int .i64)), .d (.int .i64 ((i : Nat) : Int))]) (fun i => []) l.length (fun j t hj => by omega) (fun i hi hJ I hI => ?_) (fun hJ I => ?_)
  · simp only [sS, true_and, List.map_cons, List.map_nil, vget, bget, List.getD_cons_zero, List.getD_cons_succ, Box.vals, dI, Nat.le_refl, hx.dem, hx.len, List.length_map]
    refine And.intro (fun _ => ?_) (fun h => absurd h (by simp; omega))
    obtain ⟨z, hz⟩ := get_some hi
    have hz' : (l.map (D.int .i64))[i]? = some (.int .i64 z) := by rw [List.getElem?_map, hz]; rfl
    simp only [hx.at hz', sS, true_and, List.map_cons, List.map_nil, vget, bget, List.getD_cons_zero, List.getD_cons_succ, Box.vals, dI, Nat.le_refl, load_intk]
    refine And.intro (fun h => ⟨_, rfl, fun h' => by rw [h'] at h; cases h⟩) (fun h => ?_)
    refine bindO_to (add_up hi (by simp only [maxLen]; omega)) ?_
    refine hI fun j z' hj hzz => ?_
    rcases Nat.lt_or_ge j i with h3 | h3
    · exact hJ j z' h3 hzz
    · have : j = i := by omega
      subst this
      rw [hz] at hzz
      cases hzz
      simpa using h
  · simp only [sS, true_and, List.map_cons, List.map_nil, vget, bget, List.getD_cons_zero, List.getD_cons_succ, Box.vals, dI, Nat.le_refl, hx.dem, hx.len, List.length_map]
    refine And.intro (fun h => absurd h (by simp)) (fun _ => ?_)
    refine ⟨_, rfl, fun _ z hz => ?_⟩
    obtain ⟨i, hi⟩ := List.mem_iff_getElem?.1 hz
    exact hJ i z (List.getElem?_eq_some_iff.1 hi).1 hi
/-- what is known of a policy that is checked -/
structure PolOk (p : PolD) : Prop where
  ty : TyOk p
  ro : distF RoD.name p.ro
  us : distF UsD.name p.us
  co : CoOk p
  tr : TrOk p
  cs : CsOk p
theorem parts_3 (a b c : Int) : partsS [(0, .v (.d (.int .i64 a))), (1, .v (.d (.int .i64 b))), (2, .v (.d (.int .i64 c)))] = some [(0, .int .i64 a), (1, .int .i64 b), (2, .int .i64 c)] := rfl
theorem fit_3 (a b c : Int) : partsFit 1 3 [(0, .int .i64 a), (1, .int .i64 b), (2, .int .i64 c)] = true := rfl
theorem el_3 (z : D) (a b c : Int) : buildElems z [(0, .int .i64 a), (1, .int .i64 b), (2, .int .i64 c)] 3 0 = [a, b, c].map (D.int .i64) := rfl
theorem parts_8 (a b c d e f g h : Int) : partsS [(0, .v (.d (.int .i64 a))), (1, .v (.d (.int .i64 b))), (2, .v (.d (.int .i64 c))), (3, .v (.d (.int .i64 d))), (4, .v (.d (.int .i64 e))), (5, .v (.d (.int .i64 f))), (6, .v (.d (.int .i64 g))), (7, .v (.d (.int .i64 h)))] = some [(0, .int .i64 a), (1, .int .i64 b), (2, .int .i64 c), (3, .int .i64 d), (4, .int .i64 e), (5, .int .i64 f), (6, .int .i64 g), (7, .int .i64 h)] := rfl
theorem fit_8 (a b c d e f g h : Int) : partsFit 1 8 [(0, .int .i64 a), (1, .int .i64 b), (2, .int .i64 c), (3, .int .i64 d), (4, .int .i64 e), (5, .int .i64 f), (6, .int .i64 g), (7, .int .i64 h)] = true := rfl
theorem el_8 (z : D) (a b c d e f g h : Int) : buildElems z [(0, .int .i64 a), (1, .int .i64 b), (2, .int .i64 c), (3, .int .i64 d), (4, .int .i64 e), (5, .int .i64 f), (6, .int .i64 g), (7, .int .i64 h)] 8 0 = [a, b, c, d, e, f, g, h].map (D.int .i64) := rfl
theorem check13_holds (p : PolD) (hs : SmOk p) : ∃ n, (n = 0 → PolOk p) ∧ Holds Tryz.prog gl 25 [.d (dPol p)] (.d (.int .i64 n)) := by
  refine tot_int hm1 (enters_some (fn := Tryz.f25) (by kernel_rfl) (by kernel_rfl) (by kernel_rfl)) ⟨1, fun h => absurd h (by decide)⟩ (h := h25) ?_
  rw [body25]; intro hwf
  simp only [sS, true_and, List.map_cons, List.map_nil, vget, bget, List.getD_cons_zero, List.getD_cons_succ, Box.vals, dI, Nat.le_refl, sP]
  refine ex_int (classes_holds p) fun n1 _ => ?_
  simp only [sS, true_and, List.map_cons, List.map_nil, vget, bget, List.getD_cons_zero, List.getD_cons_succ, Box.vals, dI, Nat.le_refl, sP]
  refine ex_int (types13_holds p hs.ty (fun t ht => by obtain ⟨i, hi⟩ := List.mem_iff_getElem?.1 ht; exact hs.als i t hi) hs.at_) fun n2 g2 => ?_
  simp only [sS, true_and, List.map_cons, List.map_nil, vget, bget, List.getD_cons_zero, List.getD_cons_succ, Box.vals, dI, Nat.le_refl, sP]
  refine ex_int (roles13_holds p hs.ro) fun n3 g3 => ?_
  simp only [sS, true_and, List.map_cons, List.map_nil, vget, bget, List.getD_cons_zero, List.getD_cons_succ, Box.vals, dI, Nat.le_refl, sP, parts_3, fit_3, el_3]
  refine ex_int (first13_holds [n1, n2, n3] (by show 3 ≤ 100; decide)) fun m1 k1 => ?_
  simp only [sS, true_and, List.map_cons, List.map_nil, vget, bget, List.getD_cons_zero, List.getD_cons_succ, Box.vals, dI, Nat.le_refl, sP]
  refine And.intro (fun h => ⟨_, rfl, fun h' => by rw [h'] at h; cases h⟩) (fun h0 => ?_)
  have k1 := k1 (by simpa using h0)
  refine ex_int (users13_holds p hs.us) fun a1 g4 => ?_
  simp only [sS, true_and, List.map_cons, List.map_nil, vget, bget, List.getD_cons_zero, List.getD_cons_succ, Box.vals, dI, Nat.le_refl, sP]
  refine ex_int (others13_holds p hs.bo) fun a2 _ => ?_
  simp only [sS, true_and, List.map_cons, List.map_nil, vget, bget, List.getD_cons_zero, List.getD_cons_succ, Box.vals, dI, Nat.le_refl, sP]
  refine ex_int (rules13_holds p hs.co hs.ru) fun a3 g5 => ?_
  simp only [sS, true_and, List.map_cons, List.map_nil, vget, bget, List.getD_cons_zero, List.getD_cons_succ, Box.vals, dI, Nat.le_refl, sP]
  refine ex_int (trans13_holds p hs.tr) fun a4 g6 => ?_
  simp only [sS, true_and, List.map_cons, List.map_nil, vget, bget, List.getD_cons_zero, List.getD_cons_succ, Box.vals, dI, Nat.le_refl, sP]
  refine ex_int (changes13_holds p hs.rt hs.ra) fun a5 _ => ?_
  simp only [sS, true_and, List.map_cons, List.map_nil, vget, bget, List.getD_cons_zero, List.getD_cons_succ, Box.vals, dI, Nat.le_refl, sP]
  refine ex_int (constraints13_holds p hs.cs) fun a6 g7 => ?_
  simp only [sS, true_and, List.map_cons, List.map_nil, vget, bget, List.getD_cons_zero, List.getD_cons_succ, Box.vals, dI, Nat.le_refl, sP]
  refine ex_int (labels13_holds p hs.si hs.fi) fun a7 _ => ?_
  simp only [sS, true_and, List.map_cons, List.map_nil, vget, bget, List.getD_cons_zero, List.getD_cons_succ, Box.vals, dI, Nat.le_refl, sP]
  refine ex_int (asserts13_holds p hs.as_) fun a8 _ => ?_
  simp only [sS, true_and, List.map_cons, List.map_nil, vget, bget, List.getD_cons_zero, List.getD_cons_succ, Box.vals, dI, Nat.le_refl, sP, parts_8, fit_8, el_8]
  refine ex_int (first13_holds [a1, a2, a3, a4, a5, a6, a7, a8] (by show 8 ≤ 100; decide)) fun m2 k2 => ?_
  simp only [sS, true_and, List.map_cons, List.map_nil, vget, bget, List.getD_cons_zero, List.getD_cons_succ, Box.vals, dI, Nat.le_refl, sP]
  refine ⟨_, rfl, fun h => ?_⟩
  have k2 := k2 h
  exact ⟨g2 (k1 n2 (by simp)), g3 (k1 n3 (by simp)), g4 (k2 a1 (by simp)), g5 (k2 a3 (by simp)), g6 (k2 a4 (by simp)), g7 (k2 a6 (by simp))⟩
/-- valid and small -/
theorem fits_holds {e : Xp} {x : D} (hx : IsE e x) (p : PolD) : ∃ b, (b = true → allX smallN e 15 = true ∧ SmOk p ∧ PolOk p) ∧ Holds Tryz.prog gl 9 [.d (dPol p), .d x] (.d (.bool b)) := by
  refine tot_bool hm1 (enters_some (fn := Tryz.f9) (by kernel_rfl) (by kernel_rfl) (by kernel_rfl)) ⟨false, fun h => by cases h⟩ (h := h9) ?_
  rw [body9]; intro hwf
  have h1 := small_holds e.lv e x 15 (Nat.le_refl _) hx (by decide)
  obtain ⟨cs, c1, c2, c3, c4⟩ := hx.cells
  simp only [sS, true_and, List.map_cons, List.map_nil, vget, bget, List.getD_cons_zero, List.getD_cons_succ, Box.vals, dI, Nat.le_refl, sP, c1, c2, c3]
  refine callP_of h1 ?_
  simp only [sS, true_and, List.map_cons, List.map_nil, vget, bget, List.getD_cons_zero, List.getD_cons_succ, Box.vals, dI, Nat.le_refl]
  refine And.intro (fun he => ?_) (fun _ => ⟨_, rfl, fun h => by cases h⟩)
  refine ex_bool (small13_holds p) fun b1 hb1 => ?_
  simp only [sS, true_and, List.map_cons, List.map_nil, vget, bget, List.getD_cons_zero, List.getD_cons_succ, Box.vals, dI, Nat.le_refl, sP]
  refine And.intro (fun hs => ?_) (fun _ => ⟨_, rfl, fun h => by cases h⟩)
  refine ex_int (check13_holds p (hb1 hs)) fun n hn => ?_
  simp only [sS, true_and, List.map_cons, List.map_nil, vget, bget, List.getD_cons_zero, List.getD_cons_succ, Box.vals, dI, Nat.le_refl]
  exact ⟨_, rfl, fun h => ⟨he, hb1 hs, hn (by simpa using h)⟩⟩
end Go.Proofs.YtcnnhnjcnekhcaaGreat.Ab
