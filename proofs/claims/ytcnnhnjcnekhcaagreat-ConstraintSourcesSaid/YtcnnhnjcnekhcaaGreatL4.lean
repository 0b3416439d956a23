/-
  THE LAW ConstraintCompiles, walked.
-/
import Derived.Test.YtcnnhnjcnekhcaaGreatQb
import Derived.Test.YtcnnhnjcnekhcaaGreatAw
set_option linter.unusedVariables false
set_option linter.unusedSimpArgs false
namespace Go.Proofs.YtcnnhnjcnekhcaaGreat.Ab
open Go
/-- what a name means lies within what a policy has -/
theorem ins_has (a b : Nat → BitVec 64) : insW a b = true ↔ ∀ m, m < 256 → hasW a m = true → hasW b m = true := by
  unfold insW
  rw [eqW_has]
  have hh : ∀ m, hasW (fun k => a k &&& ~~~ b k) m = (hasW a m && !hasW b m) := by
    intro m
    simp only [hasW, BitVec.getLsbD_and, BitVec.getLsbD_not]
    have : m % 64 < 64 := Nat.mod_lt _ (by decide)
    simp [this]
  constructor
  · intro h m hm ha
    have := h m hm
    rw [hh, has_zero, ha] at this
    simpa using this
  · intro h m hm
    rw [hh, has_zero]
    cases ha : hasW a m with
    | false => rfl
    | true => rw [h m hm ha]; rfl
theorem has_zW (m : Nat) : hasW zW m = false := has_zero m
theorem all_has : ∀ (n m : Nat), m < 256 → n ≤ 256 → hasW (allW n) m = decide (m < n)
  | 0, m, hm, _ => by rw [allW]; exact has_zero m
  | n + 1, m, hm, hn => by
    rw [allW, has_with _ _ _ hm, all_has n m hm (by omega)]
    by_cases h : m < n
    · simp [h]; omega
    · by_cases h2 : m = n
      · subst h2; simp
      · have : ¬ m < n + 1 := by omega
        simp [h, this]; omega
theorem one_has (i m : Nat) (hm : m < 256) : hasW (oneF i) m = decide (m = i) := by
  rw [oneF, has_of _ _ _ hm, has_zW]
  simp [eq_comm]
  exact Int.ofNat_inj.symm
theorem clip_nat {n : Nat} (h : n ≤ 256) : clip (n : Int) = n := by unfold clip; omega
theorem one_ins {i n : Nat} (h : i < n) (hn : n ≤ 256) : insW (oneF i) (allW (clip (n : Int))) = true := by
  rw [clip_nat hn, ins_has]
  intro m hm h1
  rw [one_has i m hm] at h1
  rw [all_has n m hm hn]
  have : m = i := by simpa using h1
  simp; omega
theorem or_ins {a b c : Nat → BitVec 64} (h1 : insW a c = true) (h2 : insW b c = true) : insW (fun k => a k ||| b k) c = true := by
  rw [ins_has] at *
  intro m hm h
  have : hasW (fun k => a k ||| b k) m = (hasW a m || hasW b m) := by simp [hasW]
  rw [this, Bool.or_eq_true] at h
  rcases h with h | h
  · exact h1 m hm h
  · exact h2 m hm h
theorem zero_ins (c : Nat → BitVec 64) : insW zW c = true := by
  rw [ins_has]
  intro m hm h
  rw [has_zW] at h; cases h
theorem look_ins {p : PolD} (hs : SmOk p) (hok : PolOk p) {a : Int} {s : List UInt8} {w : Nat → BitVec 64} (h : lookF p a s = some w) : insW w (allW (clip (symF p a))) = true := by
  have h1 := hs.us
  have h2 := hs.ro
  have h3 := hs.ty
  unfold lookF at h
  unfold symF
  by_cases c0 : (sortI a == 0) = true
  · rw [if_pos c0] at h ⊢
    cases hf : first (fun u => UsD.name u == s) p.us with
    | none => rw [hf] at h; cases h
    | some i =>
      rw [hf, Option.map_some] at h
      obtain rfl : oneF i = w := Option.some.inj h
      exact one_ins (first_lt hf) (by omega)
  rw [if_neg c0] at h ⊢
  by_cases c1 : (sortI a == 1) = true
  · rw [if_pos c1] at h ⊢
    cases hf : first (fun u => RoD.name u == s) p.ro with
    | none => rw [hf] at h; cases h
    | some i =>
      rw [hf, Option.map_some] at h
      obtain rfl : oneF i = w := Option.some.inj h
      exact one_ins (first_lt hf) (by omega)
  rw [if_neg c1] at h ⊢
  cases hf : first (fun t => TyD.name t == s || hasS s t.als) p.ty with
  | some i =>
    rw [hf] at h
    obtain rfl : oneF i = w := Option.some.inj h
    exact one_ins (first_lt hf) (by omega)
  | none =>
    rw [hf] at h
    cases hg : first (fun x => AtD.name x == s) p.at_ with
    | none => rw [hg] at h; cases h
    | some i =>
      rw [hg] at h
      obtain ⟨x, hx, _⟩ := first_get hg
      simp only [hx] at h
      cases h
      exact hok.ty.sets i x hx
theorem uni_ins {p : PolD} (hs : SmOk p) (hok : PolOk p) {a : Int} : ∀ (l : List (List UInt8)) {o : Option (Nat → BitVec 64)} {w : Nat → BitVec 64}, (∀ v, o = some v → insW v (allW (clip (symF p a))) = true) → l.foldl (uniO p a) o = some w → insW w (allW (clip (symF p a))) = true
  | [], o, w, h, h2 => h w h2
  | s :: l, o, w, h, h2 => by
    refine uni_ins hs hok l (fun v hv => ?_) h2
    cases o with
    | none => cases hv
    | some u =>
      rw [uniO] at hv
      cases hf : lookF p a s with
      | none => rw [hf] at hv; cases hv
      | some z => rw [hf] at hv; cases hv; exact or_ins (h u rfl) (look_ins hs hok hf)
theorem mean_in {e : Xp} {lim : Int} (h : meaningF e lim = 0) (h9 : e.op = 9) : insideF e.a lim = true ∧ insideF e.b lim = true ∧ (sortI e.a == 3) = false := by
  unfold meaningF at h
  grind
theorem node_leaf {p : PolD} {lim a : Int} (h : insideF a lim = true) : nodeP p lim (.mk 8 a 1 a [] zW []) = 0 := by
  have e1 : formF (.mk 8 a 1 a [] zW []) false = true := by
    simp only [formF, Xp.op, Xp.w, lenN, lenK, Xp.names, Xp.kids]
    rw [eqW_refl]; rfl
  have e2 : meaningF (.mk 8 a 1 a [] zW []) lim = 0 := by
    simp [meaningF, Xp.op, Xp.a, Xp.b, Xp.rel, h]
  rw [nodeP, nodeF, if_pos e1, e2]
  rfl
theorem node_set {p : PolD} {lim a : Int} {w : Nat → BitVec 64} (h : insideF a lim = true) (h0 : insideF 0 lim = true) (hs : (sortI a == 3) = false) (hw : insW w (allW (clip (symF p a))) = true) (hz : ¬ eqW w zW = true) : nodeP p lim (.mk 9 a 0 0 [] w []) = 0 := by
  have e1 : formF (.mk 9 a 0 0 [] w []) false = true := rfl
  have e2 : meaningF (.mk 9 a 0 0 [] w []) lim = 0 := by
    simp [meaningF, Xp.op, Xp.a, Xp.b, Xp.rel, h, h0]
    simpa using hs
  rw [nodeP, nodeF, if_pos e1, e2]
  simp [Xp.op, Xp.a, Xp.w, hw, hz]
section
variable (op a rel b : Int) (names : List (List UInt8)) (w : Nat → BitVec 64) (kids : List Xp)
theorem op_mk : (Xp.mk op a rel b names w kids).op = op := rfl
theorem a_mk : (Xp.mk op a rel b names w kids).a = a := rfl
theorem b_mk : (Xp.mk op a rel b names w kids).b = b := rfl
theorem rel_mk : (Xp.mk op a rel b names w kids).rel = rel := rfl
theorem w_mk : (Xp.mk op a rel b names w kids).w = w := rfl
end
/-- the node of a translation is right -/
theorem tr_node {p : PolD} (hs : SmOk p) (hok : PolOk p) {lim : Int} (hlim : lim ≤ 15) {e : Xp} (h : cmp1 p lim e = 0) : nodeP p lim (trF p e) = 0 := by
  obtain ⟨hn, hu⟩ := cmp1_node h
  have hform := node_form hn
  have hm : meaningF e lim = 0 := by rw [nodeF, if_pos hform] at hn; exact hn
  rw [trF_eq]
  by_cases h9 : e.op = 9
  · obtain ⟨f1, f2, f3⟩ := form9 hform h9
    rw [if_pos (by simp [h9])]
    obtain ⟨w, hw⟩ := Option.isSome_iff_exists.1 hu
    have hins := uni_ins hs hok e.names (o := some zW) (fun v hv => by cases hv; exact zero_ins _) hw
    rw [hw, Option.getD_some]
    unfold meaningF at hm
    obtain ⟨m1, m2, m3⟩ := mean_in hm h9
    rw [f1] at m2
    by_cases hz : eqW w zW = true
    · rw [if_pos hz]
      exact node_leaf m1
    · rw [if_neg hz]
      exact node_set m1 m2 m3 hins hz
  · obtain ⟨f1, f2⟩ := formN hform h9
    rw [if_neg (by simp [h9])]
    have e1 : formF (.mk e.op e.a e.rel e.b [] zW (trF.go p e.kids)) false = true := by
      have h1 : lenN e = 0 := by rw [lenN, f1]; rfl
      have h2 : lenK (.mk e.op e.a e.rel e.b [] zW (trF.go p e.kids)) = lenK e := by rw [lenK, lenK]; simp only [Xp.kids, trs_len]
      have h3 : lenN (.mk e.op e.a e.rel e.b [] zW (trF.go p e.kids)) = 0 := rfl
      unfold formF bareF at hform ⊢
      rw [h2, h3]
      simp only [op_mk, a_mk, b_mk, rel_mk, w_mk]
      rw [eqW_refl]
      rw [f2, h1] at hform
      grind
    have e2 : meaningF (.mk e.op e.a e.rel e.b [] zW (trF.go p e.kids)) lim = 0 := hm
    rw [nodeP, nodeF, if_pos e1, e2, op_mk, if_neg (by decide), if_pos (by simpa using h9)]
theorem tr_lv (p : PolD) : ∀ (n : Nat) (e : Xp), e.lv ≤ n → (trF p e).lv ≤ e.lv
  | 0, e, h => absurd h (by have := lv_pos e; omega)
  | n + 1, e, h => by
    rw [trF_eq]
    by_cases h9 : (e.op == 9) = true
    · rw [if_pos h9]
      have h1 := lv_pos e
      by_cases hz : eqW ((uniF p e.a e.names).getD zW) zW = true
      · rw [if_pos hz]; exact h1
      · rw [if_neg hz]; exact h1
    · rw [if_neg h9, Xp.lv_eq, Xp.lv_eq]
      refine Nat.add_le_add_right (lvs_le fun i k hk => ?_) 1
      have hi : i < e.kids.length := by rw [← trs_len (p := p)]; exact (List.getElem?_eq_some_iff.1 hk).1
      obtain ⟨k', hk'⟩ := get_some hi
      have h1 : (trF.go p e.kids)[i]? = some k := hk
      rw [trs_get hk'] at h1
      cases h1
      have := Xp.kid_lt hk'
      exact Nat.le_trans (tr_lv p n k' (by omega)) (Xp.lvs_get hk')
theorem firsts_zero {F : Xp → Int} : ∀ {l : List Xp}, (∀ (i : Nat) k, l[i]? = some k → firstF F k = 0) → firstF.go F l = 0
  | [], _ => rfl
  | x :: l, h => by
    rw [firstF.go, h 0 x rfl, if_neg (by decide)]
    exact firsts_zero fun i k hk => h (i + 1) k (by simpa using hk)
theorem first_zero {F : Xp → Int} {e : Xp} (h : F e = 0) (hk : ∀ (i : Nat) k, e.kids[i]? = some k → firstF F k = 0) : firstF F e = 0 := by
  rw [firstF_eq, if_neg (by simp [h])]
  exact firsts_zero hk
theorem tr_first {p : PolD} (hs : SmOk p) (hok : PolOk p) {lim : Int} (hlim : lim ≤ 15) : ∀ (n : Nat) (e : Xp), e.lv ≤ n → firstF (cmp1 p lim) e = 0 → firstF (nodeP p lim) (trF p e) = 0
  | 0, e, h, _ => absurd h (by have := lv_pos e; omega)
  | n + 1, e, h, h0 => by
    refine first_zero (tr_node hs hok hlim (first_node h0)) fun i k hk => ?_
    rw [trF_eq] at hk
    by_cases h9 : (e.op == 9) = true
    · rw [if_pos h9] at hk
      by_cases hz : eqW ((uniF p e.a e.names).getD zW) zW = true
      · rw [if_pos hz] at hk; simp [Xp.kids] at hk
      · rw [if_neg hz] at hk; simp [Xp.kids] at hk
    · rw [if_neg h9] at hk
      have h1 : (trF.go p e.kids)[i]? = some k := hk
      have hi : i < e.kids.length := by rw [← trs_len (p := p)]; exact (List.getElem?_eq_some_iff.1 h1).1
      obtain ⟨k', hk'⟩ := get_some hi
      rw [trs_get hk'] at h1
      cases h1
      exact tr_first hs hok hlim n k' (by have := Xp.kid_lt hk'; omega) (first_kid h0 hk')
theorem limF_le (v : Bool) : limF v ≤ 15 := by cases v <;> decide
theorem tr_check {p : PolD} (hs : SmOk p) (hok : PolOk p) {v : Bool} {e : Xp} (h : cmpE p v e = 0) : checkF p v (trF p e) = 0 := by
  unfold cmpE at h
  by_cases hl : e.lv > 12
  · rw [if_pos hl] at h; cases h
  · rw [if_neg hl] at h
    have := tr_lv p e.lv e (Nat.le_refl _)
    rw [checkF, if_neg (by omega)]
    exact tr_first hs hok (limF_le v) e.lv e (Nat.le_refl _) h
set_option maxRecDepth 4000 in
theorem law4_holds {e : Xp} {x : D} (hx : IsE e x) (p : PolD) (v : Bool) : Holds Tryz.prog gl 4 [.d x, .d (dPol p), .d (.bool v)] (.d (.bool true)) := by
  refine holds_of_body hm1 (enters_some (fn := Tryz.f4) (by kernel_rfl) (by kernel_rfl) (by kernel_rfl)) (h := h4) ?_; rw [body4]; intro hwf
  have h0 := fits_holds hx p
  have hx0 := hx
  obtain ⟨cs, c1, c2, c3, c4⟩ := hx.cells
  simp only [sS, true_and, List.map_cons, List.map_nil, vget, bget, List.getD_cons_zero, List.getD_cons_succ, Box.vals, dI, Nat.le_refl, sP, c1, c2, c3]
  refine ex_bool h0 fun b hb => ?_
  simp only [sS, true_and, List.map_cons, List.map_nil, vget, bget, List.getD_cons_zero, List.getD_cons_succ, Box.vals, dI, Nat.le_refl, sP]
  refine And.intro (fun _ => ?_) (fun hf => ?_)
  · refine callP_of awake_holds ?_
    simp only [sS, true_and, List.map_cons, List.map_nil, vget, bget, List.getD_cons_zero, List.getD_cons_succ, Box.vals, dI, Nat.le_refl]
  obtain ⟨hsx, hsm, hok⟩ := hb (by simpa using hf)
  have hlv := allX_lv e.lv e 15 (Nat.le_refl _) hsx
  have ha : ∀ t ∈ p.ty, t.als.length ≤ 4 := fun t ht => by obtain ⟨i, hi⟩ := List.mem_iff_getElem?.1 ht; exact hsm.als i t hi
  obtain ⟨y, hy, hyh⟩ := compileC_holds hx0 (by omega) p ha v
  obtain ⟨z, hz, hzh⟩ := compileR_holds hx0 p ha v
  obtain ⟨ys, d1, d2, d3, d4⟩ := hy.cells
  obtain ⟨zs, f1, f2, f3, f4⟩ := hz.cells
  have hsame := same_holds _ _ _ y z (Nat.le_refl _) (SameX.refl _ (cmpT p v e) (Nat.le_refl _)) hy hz
  refine call2 hyh ?_
  simp only [d1, d2, d3, d4, sS, true_and, List.map_cons, List.map_nil, vget, bget, List.getD_cons_zero, List.getD_cons_succ, Box.vals, dI, Nat.le_refl]
  refine call2 hzh ?_
  simp only [d1, d2, d3, d4, f1, f2, f3, f4, sS, true_and, List.map_cons, List.map_nil, vget, bget, List.getD_cons_zero, List.getD_cons_succ, Box.vals, dI, Nat.le_refl, sP, beq_self_eq_true]
  refine And.intro (fun _ => ?_) (fun h => by cases h)
  refine callP_of hsame ?_
  simp only [sS, true_and, List.map_cons, List.map_nil, vget, bget, List.getD_cons_zero, List.getD_cons_succ, Box.vals, dI, Nat.le_refl]
  refine And.intro (fun _ => ?_) (fun h => by cases h)
  refine And.intro (fun h => ?_) (fun h => ?_)
  · refine callP_of awake_holds ?_
    simp only [sS, true_and, List.map_cons, List.map_nil, vget, bget, List.getD_cons_zero, List.getD_cons_succ, Box.vals, dI, Nat.le_refl]
  have hE : cmpE p v e = 0 := by simpa using h
  have hT : cmpT p v e = trF p e := by rw [cmpT, hE]; rfl
  have hck := tr_check hsm hok hE
  have hl2 := tr_lv p e.lv e (Nat.le_refl _)
  rw [hT] at hy
  refine callP_of (checkC_holds hy (by omega) p v) ?_
  rw [hck]
  simp only [sS, true_and, List.map_cons, List.map_nil, vget, bget, List.getD_cons_zero, List.getD_cons_succ, Box.vals, dI, Nat.le_refl, beq_self_eq_true]
  refine And.intro (fun _ => ?_) (fun h => by cases h)
  refine callP_of awake_holds ?_
  simp only [sS, true_and, List.map_cons, List.map_nil, vget, bget, List.getD_cons_zero, List.getD_cons_succ, Box.vals, dI, Nat.le_refl]
end Go.Proofs.YtcnnhnjcnekhcaaGreat.Ab
