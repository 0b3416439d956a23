/-
  CONSTRAINTS: attributes, comparisons, values.
-/
import Derived.Test.YtcnnhnjcnekhcaaGreatUa
set_option linter.unusedVariables false
set_option linter.unusedSimpArgs false
namespace Go.Proofs.YtcnnhnjcnekhcaaGreat.Ab
open Go
theorem quo_lit {a : Int} (h1 : 0 ≤ a) (h2 : a < 15) : binV none .quo (.d (.int .i64 a)) (.d (.int .i64 5)) = some (.d (.int .i64 (a.tdiv 5))) := by
  have h3 : 0 ≤ a.tdiv 5 := Int.tdiv_nonneg h1 (by decide)
  have h4 : a.tdiv 5 ≤ a := by rw [Int.tdiv_eq_ediv_of_nonneg h1]; omega
  have h5 : IntKind.i64.wrap (a.tdiv 5) = a.tdiv 5 := wrap_i64 (by omega) (by omega)
  simp only [binV, binD, intBop, h5, ↓reduceIte]
  rfl
theorem part_holds (c : CaseD) {a : Int} (h1 : 0 ≤ a) (h2 : a < 15) : Holds Tryz.prog gl 83 [.d (dCase c), .d (.int .i64 a)] (.d (dCtx (partF c a))) := by
  refine holds_of_body hm1 (enters_some (fn := Tryz.f83) (by kernel_rfl) (by kernel_rfl) (by kernel_rfl)) (h := h83) ?_; rw [body83]; intro hwf
  simp only [sS, true_and, List.map_cons, List.map_nil, vget, bget, List.getD_cons_zero, List.getD_cons_succ, Box.vals, dI, Nat.le_refl, quo_lit h1 h2]
  repeat' first | with_reducible refine And.intro (fun h => ?_) (fun h => ?_)
  all_goals (simp only [partF]; simp_all)
theorem of17_holds (c : CaseD) {a : Int} (h1 : 0 ≤ a) (h2 : a < 15) : Holds Tryz.prog gl 142 [.d (dCase c), .d (.int .i64 a)] (.d (dCtx (partF c a))) := by
  refine holds_of_body hm1 (enters_some (fn := Tryz.f142) (by kernel_rfl) (by kernel_rfl) (by kernel_rfl)) (h := h142) ?_; rw [body142]; intro hwf
  simp only [sS, true_and, List.map_cons, List.map_nil, vget, bget, List.getD_cons_zero, List.getD_cons_succ, Box.vals, dI, Nat.le_refl, quo_lit h1 h2]
  repeat' first | with_reducible refine And.intro (fun h => ?_) (fun h => ?_)
  all_goals (simp only [partF]; simp_all)
theorem name17_holds (c : CaseD) {a : Int} (h1 : 0 ≤ a) (h2 : a < 15) : Holds Tryz.prog gl 127 [.d (dCase c), .d (.int .i64 a)] (.d (.int .i64 (nameF c a))) := by
  refine holds_of_body hm1 (enters_some (fn := Tryz.f127) (by kernel_rfl) (by kernel_rfl) (by kernel_rfl)) (h := h127) ?_; rw [body127]; intro hwf
  simp only [sS, true_and, List.map_cons, List.map_nil, vget, bget, List.getD_cons_zero, List.getD_cons_succ, Box.vals, dI, Nat.le_refl]
  refine callP_of (of17_holds c h1 h2) ?_
  simp only [sS, true_and, List.map_cons, List.map_nil, vget, bget, List.getD_cons_zero, List.getD_cons_succ, Box.vals, dI, Nat.le_refl]
  refine callP_of (sortR_holds a) ?_
  simp only [sS, true_and, List.map_cons, List.map_nil, vget, bget, List.getD_cons_zero, List.getD_cons_succ, Box.vals, dI, Nat.le_refl]
  repeat' first | with_reducible refine And.intro (fun h => ?_) (fun h => ?_)
  all_goals (simp only [nameF]; simp_all)
theorem level17_holds (c : CaseD) {a : Int} (h1 : 0 ≤ a) (h2 : a < 15) : Holds Tryz.prog gl 143 [.d (dCase c), .d (.int .i64 a)] (.d (dLev (levF c a))) := by
  refine holds_of_body hm1 (enters_some (fn := Tryz.f143) (by kernel_rfl) (by kernel_rfl) (by kernel_rfl)) (h := h143) ?_; rw [body143]; intro hwf
  simp only [sS, true_and, List.map_cons, List.map_nil, vget, bget, List.getD_cons_zero, List.getD_cons_succ, Box.vals, dI, Nat.le_refl, rem_lit]
  repeat' first | with_reducible refine And.intro (fun h => ?_) (fun h => ?_) | (with_reducible refine callP_of (of17_holds c h1 h2) ?_; simp only [sS, true_and, List.map_cons, List.map_nil, vget, bget, List.getD_cons_zero, List.getD_cons_succ, Box.vals, dI, Nat.le_refl])
  all_goals (simp only [levF]; simp_all)
theorem conv_nat (n : Nat) (h : n < 64) : convI .u64 (.d (.int .i64 (n : Int))) = some (.d (.int .u64 (n : Int))) := by
  simp only [convI]
  rw [wrap64, Int.emod_eq_of_lt (by omega) (by omega)]
theorem has5_holds (l : Int × BitVec 64) (n : Nat) (hn : n < 64) : Holds Tryz.prog gl 152 [.d (dLev l), .d (.int .i64 (n : Int))] (.d (.bool (l.2.getLsbD n))) := by
  refine holds_of_body hm1 (enters_some (fn := Tryz.f152) (by kernel_rfl) (by kernel_rfl) (by kernel_rfl)) (h := h152) ?_; rw [body152]; intro hwf
  simp only [sS, true_and, List.map_cons, List.map_nil, vget, bget, List.getD_cons_zero, List.getD_cons_succ, Box.vals, dI, Nat.le_refl, conv_nat n hn]
  refine And.intro (fun _ => ?_) (fun h => absurd h (by simp))
  refine And.intro (fun _ => ?_) (fun h => absurd h (by simp; omega))
  rw [bin_shr]
  simp only [sS, true_and, List.map_cons, List.map_nil, vget, bget, List.getD_cons_zero, List.getD_cons_succ, Box.vals, dI, Nat.le_refl]
  rw [one_word, bin_and]
  simp only [sS, true_and, List.map_cons, List.map_nil, vget, bget, List.getD_cons_zero, List.getD_cons_succ, Box.vals, dI, Nat.le_refl]
  rw [bin_eqlW]
  simp only [sS, true_and, List.map_cons, List.map_nil, vget, bget, List.getD_cons_zero, List.getD_cons_succ, Box.vals, dI, Nat.le_refl]
  rw [show (1 : BitVec 64) = 1#64 from rfl, bit_eq]
theorem dom5_holds (a b : Int × BitVec 64) : Holds Tryz.prog gl 144 [.d (dLev a), .d (dLev b)] (.d (.bool (domF a b))) := by
  refine holds_of_body hm1 (enters_some (fn := Tryz.f144) (by kernel_rfl) (by kernel_rfl) (by kernel_rfl)) (h := h144) ?_; rw [body144]; intro hwf
  simp only [sS, true_and, List.map_cons, List.map_nil, vget, bget, List.getD_cons_zero, List.getD_cons_succ, Box.vals, dI, Nat.le_refl]
  refine loopP_inv (fun i => ∀ n, n < i → b.2.getLsbD n = true → a.2.getLsbD n = true) (fun i => [.d (.int .i64 ((i : Nat) : Int))]) (fun i => [cLev a, cLev b]) 64 (fun n hn => by omega) (fun i hi hJ I hI => ?_) (fun hJ I => ?_)
  · simp only [sS, true_and, List.map_cons, List.map_nil, vget, bget, List.getD_cons_zero, List.getD_cons_succ, Box.vals, dI, Nat.le_refl]
    refine And.intro (fun _ => ?_) (fun h => absurd h (by simp; omega))
    refine callP_of (has5_holds b i hi) ?_
    simp only [sS, true_and, List.map_cons, List.map_nil, vget, bget, List.getD_cons_zero, List.getD_cons_succ, Box.vals, dI, Nat.le_refl]
    have step : ∀ n, n < i → b.2.getLsbD n = true → a.2.getLsbD n = true := hJ
    refine And.intro (fun hb => ?_) (fun hb => ?_)
    · refine callP_of (has5_holds a i hi) ?_
      simp only [sS, true_and, List.map_cons, List.map_nil, vget, bget, List.getD_cons_zero, List.getD_cons_succ, Box.vals, dI, Nat.le_refl]
      refine And.intro (fun ha => ?_) (fun ha => ?_)
      · have ha' : a.2.getLsbD i = false := by simpa using ha
        have : (a.2 &&& b.2 == b.2) = false := by
          rw [Bool.eq_false_iff]
          intro hh
          have := (dom_bits _ _).1 hh i hi hb
          rw [ha'] at this
          cases this
        rw [domF, this, Bool.and_false]
      · refine bindO_to (add_one (by omega)) ?_
        refine hI fun n hn hbn => ?_
        rcases Nat.lt_or_ge n i with h | h
        · exact hJ n h hbn
        · have : n = i := by omega
          subst this
          simpa using ha
    · refine bindO_to (add_one (by omega)) ?_
      refine hI fun n hn hbn => ?_
      rcases Nat.lt_or_ge n i with h | h
      · exact hJ n h hbn
      · have : n = i := by omega
        subst this
        rw [hb] at hbn
        cases hbn
  · simp only [sS, true_and, List.map_cons, List.map_nil, vget, bget, List.getD_cons_zero, List.getD_cons_succ, Box.vals, dI, Nat.le_refl]
    refine And.intro (fun h => absurd h (by simp)) (fun _ => ?_)
    rw [domF, (dom_bits _ _).2 hJ, Bool.and_true]
theorem compareR_holds {e : Xp} {x : D} (hx : IsE e x) (c : CaseD) (ha : 0 ≤ e.a ∧ e.a < 15) (hb : 0 ≤ e.b ∧ e.b < 15) (hr : 0 ≤ e.rel ∧ e.rel ≤ 4) (hs : sortI e.a = sortI e.b) : Holds Tryz.prog gl 128 [.d x, .d (dCase c)] (.d (.bool (cmpF e c))) := by
  refine holds_of_body hm1 (enters_some (fn := Tryz.f128) (by kernel_rfl) (by kernel_rfl) (by kernel_rfl)) (h := h128) ?_; rw [body128]; intro hwf
  obtain ⟨nm, kd, L, rfl, hn, hl, hd, hk⟩ := hx.inv
  simp only [sS, true_and, List.map_cons, List.map_nil, vget, bget, List.getD_cons_zero, List.getD_cons_succ, Box.vals, dI, Nat.le_refl]
  refine callP_of (sortR_holds e.a) ?_
  simp only [sS, true_and, List.map_cons, List.map_nil, vget, bget, List.getD_cons_zero, List.getD_cons_succ, Box.vals, dI, Nat.le_refl]
  refine And.intro (fun h => ?_) (fun h => ?_)
  · refine callP_of (name17_holds c ha.1 ha.2) ?_
    simp only [sS, true_and, List.map_cons, List.map_nil, vget, bget, List.getD_cons_zero, List.getD_cons_succ, Box.vals, dI, Nat.le_refl]
    refine callP_of (name17_holds c hb.1 hb.2) ?_
    simp only [sS, true_and, List.map_cons, List.map_nil, vget, bget, List.getD_cons_zero, List.getD_cons_succ, Box.vals, dI, Nat.le_refl]
    rw [cmpF, h, if_pos rfl]
  · refine callP_of (level17_holds c ha.1 ha.2) ?_
    simp only [sS, true_and, List.map_cons, List.map_nil, vget, bget, List.getD_cons_zero, List.getD_cons_succ, Box.vals, dI, Nat.le_refl]
    refine callP_of (level17_holds c hb.1 hb.2) ?_
    simp only [sS, true_and, List.map_cons, List.map_nil, vget, bget, List.getD_cons_zero, List.getD_cons_succ, Box.vals, dI, Nat.le_refl]
    refine callP_of (dom5_holds _ _) ?_
    simp only [sS, true_and, List.map_cons, List.map_nil, vget, bget, List.getD_cons_zero, List.getD_cons_succ, Box.vals, dI, Nat.le_refl]
    refine callP_of (dom5_holds _ _) ?_
    simp only [sS, true_and, List.map_cons, List.map_nil, vget, bget, List.getD_cons_zero, List.getD_cons_succ, Box.vals, dI, Nat.le_refl]
    have e1 : cmpF e c = if e.rel == 1 then relF (levF c e.a) (levF c e.b) != 0
      else if e.rel == 2 || e.rel == 3 then (relF (levF c e.a) (levF c e.b) == 0 || relF (levF c e.a) (levF c e.b) == e.rel)
      else relF (levF c e.a) (levF c e.b) == e.rel := by rw [cmpF, h, if_neg (by decide)]
    rw [e1]
    generalize levF c e.a = p
    generalize levF c e.b = q
    have hd1 : eqL p q = true → domF p q = true ∧ domF q p = true := by
      unfold eqL domF
      intro h
      simp only [Bool.and_true, Bool.and_eq_true, beq_iff_eq] at h
      rw [h.1, h.2]
      simp
    have hd2 : domF p q = true → domF q p = true → eqL p q = true := by
      unfold eqL domF
      simp only [Bool.and_true, Bool.and_eq_true, beq_iff_eq, decide_eq_true_eq]
      intro h1 h2
      refine ⟨by omega, ?_⟩
      have h3 := h2.2
      rw [BitVec.and_comm, h1.2] at h3
      exact h3.symm
    clear hwf hx hn hd hk e1
    unfold relF
    generalize eqL p q = X at *
    generalize domF p q = A at *
    generalize domF q p = B at *
    have hrel : e.rel = 0 ∨ e.rel = 1 ∨ e.rel = 2 ∨ e.rel = 3 ∨ e.rel = 4 := by omega
    rcases hrel with hrel | hrel | hrel | hrel | hrel <;> rw [hrel] <;> clear hrel <;> cases X <;> cases A <;> cases B <;> simp_all
end Go.Proofs.YtcnnhnjcnekhcaaGreat.Ab
/-
  CONSTRAINTS: the views behind the interface, and evaluation.
-/
namespace Go.Proofs.YtcnnhnjcnekhcaaGreat.Ab
open Go
def viewF (a : Int) : D := if a.tmod 5 == 0 then .iface 174 (.agg []) else if a.tmod 5 == 1 then .iface 175 (.agg []) else if a.tmod 5 == 2 then .iface 176 (.agg []) else .iface 178 (.agg [.bool (a.tmod 5 == 4)])
theorem build_uv : buildD Tryz.prog 174 [] = some (.agg []) := by kernel_rfl
theorem build_rv : buildD Tryz.prog 175 [] = some (.agg []) := by kernel_rfl
theorem build_tv : buildD Tryz.prog 176 [] = some (.agg []) := by kernel_rfl
theorem build_lv (b : Bool) : buildD Tryz.prog 178 [(0, .bool b)] = some (.agg [.bool b]) := by kernel_rfl
theorem iface_d (t : Nat) (y : D) : ifaceV t (.d y) = some (.d (.iface t y)) := rfl
theorem parts_bool (b : Bool) : partsS [(0, .v (.d (.bool b)))] = some [(0, .bool b)] := rfl
theorem viewed_holds (a : Int) : Holds Tryz.prog gl 82 [.d (.int .i64 a)] (.d (viewF a)) := by
  refine holds_of_body hm1 (enters_some (fn := Tryz.f82) (by kernel_rfl) (by kernel_rfl) (by kernel_rfl)) (h := h82) ?_; rw [body82]; intro hwf
  simp only [sS, true_and, List.map_cons, List.map_nil, vget, bget, List.getD_cons_zero, List.getD_cons_succ, Box.vals, dI, Nat.le_refl, rem_lit, build_uv, build_rv, build_tv, iface_d, parts_bool, build_lv]
  repeat' first | with_reducible refine And.intro (fun h => ?_) (fun h => ?_)
  all_goals (simp only [viewF]; simp_all)
theorem cells_nilagg : cellsV (.d (.agg [])) = some [] := rfl
theorem cells_bool1 (b : Bool) : cellsV (.d (.agg [.bool b])) = some [.d (.bool b)] := rfl
theorem part_bool1 (b : Bool) : partV false 1 0 [.d (.bool b)] = some (.d (.bool b)) := rfl
theorem userNum (c : CtxD) : Holds Tryz.prog gl 170 [.d (.agg []), .d (dCtx c)] (.d (.int .i64 c.u)) := by
  refine holds_of_body hm1 (enters_some (fn := Tryz.f170) (by kernel_rfl) (by kernel_rfl) (by kernel_rfl)) (h := h170) ?_; rw [body170]; intro hwf
  simp only [sS, true_and, List.map_cons, List.map_nil, vget, bget, List.getD_cons_zero, List.getD_cons_succ, Box.vals, dI, Nat.le_refl, cells_nilagg, List.length_nil]
theorem roleNum (c : CtxD) : Holds Tryz.prog gl 172 [.d (.agg []), .d (dCtx c)] (.d (.int .i64 c.r)) := by
  refine holds_of_body hm1 (enters_some (fn := Tryz.f172) (by kernel_rfl) (by kernel_rfl) (by kernel_rfl)) (h := h172) ?_; rw [body172]; intro hwf
  simp only [sS, true_and, List.map_cons, List.map_nil, vget, bget, List.getD_cons_zero, List.getD_cons_succ, Box.vals, dI, Nat.le_refl, cells_nilagg, List.length_nil]
theorem typeNum (c : CtxD) : Holds Tryz.prog gl 174 [.d (.agg []), .d (dCtx c)] (.d (.int .i64 c.t)) := by
  refine holds_of_body hm1 (enters_some (fn := Tryz.f174) (by kernel_rfl) (by kernel_rfl) (by kernel_rfl)) (h := h174) ?_; rw [body174]; intro hwf
  simp only [sS, true_and, List.map_cons, List.map_nil, vget, bget, List.getD_cons_zero, List.getD_cons_succ, Box.vals, dI, Nat.le_refl, cells_nilagg, List.length_nil]
theorem levelGrade (b : Bool) (c : CtxD) : Holds Tryz.prog gl 175 [.d (.agg [.bool b]), .d (dCtx c)] (.d (dLev (if b then (c.hs, c.hc) else (c.ls, c.lc)))) := by
  refine holds_of_body hm1 (enters_some (fn := Tryz.f175) (by kernel_rfl) (by kernel_rfl) (by kernel_rfl)) (h := h175) ?_; rw [body175]; intro hwf
  simp only [sS, true_and, List.map_cons, List.map_nil, vget, bget, List.getD_cons_zero, List.getD_cons_succ, Box.vals, dI, Nat.le_refl, cells_bool1, List.length_singleton, part_bool1]
  repeat' first | with_reducible refine And.intro (fun h => ?_) (fun h => ?_)
  all_goals simp_all
theorem meth_un : meth? Tryz.prog 174 "accesscontrol/constraint.number" = some 170 := by kernel_rfl
theorem meth_rn : meth? Tryz.prog 175 "accesscontrol/constraint.number" = some 172 := by kernel_rfl
theorem meth_tn : meth? Tryz.prog 176 "accesscontrol/constraint.number" = some 174 := by kernel_rfl
theorem meth_lg : meth? Tryz.prog 178 "accesscontrol/constraint.grade" = some 175 := by kernel_rfl
theorem withMeth_iface {P : Program} (t : TypeId) (y : D) (name : String) (args : List SV) (k : FuncId → List SV → Prop) : withMeth P (.d (.iface t y)) name args k = bindO (meth? P t name) fun f => k f (.d y :: args) := rfl
theorem methV_iface {P : Program} (t : TypeId) (y : D) (name : String) : methV P (.d (.iface t y)) name = meth? P t name := rfl
theorem sort_ne {a : Int} (h1 : 0 ≤ a) (hs : sortI a ≠ 3) : (a.tmod 5 = 0 ∧ sortI a = 0) ∨ (a.tmod 5 = 1 ∧ sortI a = 1) ∨ (a.tmod 5 = 2 ∧ sortI a = 2) := by
  have h2 : 0 ≤ a.tmod 5 := Int.tmod_nonneg _ h1
  have h3 : a.tmod 5 < 5 := Int.tmod_lt_of_pos _ (by decide)
  unfold sortI minD at *
  split at hs
  · exact absurd rfl hs
  · rw [if_neg (by assumption)]
    omega
theorem sort_eq3 {a : Int} (h1 : 0 ≤ a) (hs : sortI a = 3) : a.tmod 5 = 3 ∨ a.tmod 5 = 4 := by
  have h2 : 0 ≤ a.tmod 5 := Int.tmod_nonneg _ h1
  have h3 : a.tmod 5 < 5 := Int.tmod_lt_of_pos _ (by decide)
  unfold sortI minD at hs
  split at hs <;> omega
/-- the number through the interface -/
theorem number_call (c : CaseD) {a : Int} (h1 : 0 ≤ a) (hs : sortI a ≠ 3) {K : SV → Prop} (hK : K (.d (.int .i64 (nameF c a)))) :
    withMeth Tryz.prog (.d (viewF a)) "accesscontrol/constraint.number" [.d (dCtx (partF c a))] fun f l => callP (Holds Tryz.prog gl) f l K := by
  rcases sort_ne h1 hs with ⟨h2, h3⟩ | ⟨h2, h3⟩ | ⟨h2, h3⟩
  · rw [viewF, h2, if_pos (by decide)]
    rw [withMeth_iface, meth_un, bindO_some']
    refine callP_of (userNum _) ?_
    rw [nameF, h3, if_pos (by decide)] at hK
    exact hK
  · rw [viewF, h2, if_neg (by decide), if_pos (by decide)]
    rw [withMeth_iface, meth_rn, bindO_some']
    refine callP_of (roleNum _) ?_
    rw [nameF, h3, if_neg (by decide), if_pos (by decide)] at hK
    exact hK
  · rw [viewF, h2, if_neg (by decide), if_neg (by decide), if_pos (by decide)]
    rw [withMeth_iface, meth_tn, bindO_some']
    refine callP_of (typeNum _) ?_
    rw [nameF, h3, if_neg (by decide), if_neg (by decide)] at hK
    exact hK
theorem number_meth {a : Int} (h1 : 0 ≤ a) (hs : sortI a ≠ 3) {k : FuncId → Prop} (hk : ∀ f, k f) : bindO (methV Tryz.prog (.d (viewF a)) "accesscontrol/constraint.number") k := by
  rcases sort_ne h1 hs with ⟨h2, h3⟩ | ⟨h2, h3⟩ | ⟨h2, h3⟩
  · rw [viewF, h2, if_pos (by decide)]
    rw [methV_iface, meth_un, bindO_some']; exact hk _
  · rw [viewF, h2, if_neg (by decide), if_pos (by decide)]
    rw [methV_iface, meth_rn, bindO_some']; exact hk _
  · rw [viewF, h2, if_neg (by decide), if_neg (by decide), if_pos (by decide)]
    rw [methV_iface, meth_tn, bindO_some']; exact hk _
theorem grade_call (c : CaseD) {a : Int} (h1 : 0 ≤ a) (hs : sortI a = 3) {K : SV → Prop} (hK : K (.d (dLev (levF c a)))) :
    withMeth Tryz.prog (.d (viewF a)) "accesscontrol/constraint.grade" [.d (dCtx (partF c a))] fun f l => callP (Holds Tryz.prog gl) f l K := by
  have h2 := sort_eq3 h1 hs
  rw [viewF, if_neg (by simp; omega), if_neg (by simp; omega), if_neg (by simp; omega)]
  rw [withMeth_iface, meth_lg, bindO_some']
  refine callP_of (levelGrade _ _) ?_
  rw [levF] at hK
  exact hK
theorem ldom_holds (a b : Int × BitVec 64) : Holds Tryz.prog gl 141 [.d (dLev a), .d (dLev b)] (.d (.bool (domF a b))) := by
  refine holds_of_body hm1 (enters_some (fn := Tryz.f141) (by kernel_rfl) (by kernel_rfl) (by kernel_rfl)) (h := h141) ?_; rw [body141]; intro hwf
  simp only [sS, true_and, List.map_cons, List.map_nil, vget, bget, List.getD_cons_zero, List.getD_cons_succ, Box.vals, dI, Nat.le_refl, bin_and, bin_eqlW]
  repeat' first | with_reducible refine And.intro (fun h => ?_) (fun h => ?_)
  all_goals (simp only [domF]; first | (simp_all; done) | (simp_all; omega))
theorem relation_holds (a b : Int × BitVec 64) : Holds Tryz.prog gl 125 [.d (dLev a), .d (dLev b)] (.d (.int .i64 (relF a b))) := by
  refine holds_of_body hm1 (enters_some (fn := Tryz.f125) (by kernel_rfl) (by kernel_rfl) (by kernel_rfl)) (h := h125) ?_; rw [body125]; intro hwf
  simp only [sS, true_and, List.map_cons, List.map_nil, vget, bget, List.getD_cons_zero, List.getD_cons_succ, Box.vals, dI, Nat.le_refl]
  repeat' first | with_reducible refine And.intro (fun h => ?_) (fun h => ?_) | (with_reducible refine callP_of (ldom_holds _ _) ?_; simp only [sS, true_and, List.map_cons, List.map_nil, vget, bget, List.getD_cons_zero, List.getD_cons_succ, Box.vals, dI, Nat.le_refl])
  all_goals (simp only [relF]; simp_all)
theorem compared_holds {e : Xp} {x : D} (hx : IsE e x) (c : CaseD) (ha : 0 ≤ e.a ∧ e.a < 15) (hb : 0 ≤ e.b ∧ e.b < 15) (hs : sortI e.a = sortI e.b) : Holds Tryz.prog gl 84 [.d x, .d (dCase c)] (.d (.bool (cmpF e c))) := by
  refine holds_of_body hm1 (enters_some (fn := Tryz.f84) (by kernel_rfl) (by kernel_rfl) (by kernel_rfl)) (h := h84) ?_; rw [body84]; intro hwf
  obtain ⟨nm, kd, L, rfl, hn, hl, hd, hk⟩ := hx.inv
  simp only [sS, true_and, List.map_cons, List.map_nil, vget, bget, List.getD_cons_zero, List.getD_cons_succ, Box.vals, dI, Nat.le_refl]
  refine callP_of (viewed_holds e.a) ?_
  simp only [sS, true_and, List.map_cons, List.map_nil, vget, bget, List.getD_cons_zero, List.getD_cons_succ, Box.vals, dI, Nat.le_refl]
  refine callP_of (viewed_holds e.b) ?_
  simp only [sS, true_and, List.map_cons, List.map_nil, vget, bget, List.getD_cons_zero, List.getD_cons_succ, Box.vals, dI, Nat.le_refl]
  refine callP_of (part_holds c ha.1 ha.2) ?_
  simp only [sS, true_and, List.map_cons, List.map_nil, vget, bget, List.getD_cons_zero, List.getD_cons_succ, Box.vals, dI, Nat.le_refl]
  refine callP_of (part_holds c hb.1 hb.2) ?_
  simp only [sS, true_and, List.map_cons, List.map_nil, vget, bget, List.getD_cons_zero, List.getD_cons_succ, Box.vals, dI, Nat.le_refl]
  refine callP_of (isLevel_holds e.a) ?_
  simp only [sS, true_and, List.map_cons, List.map_nil, vget, bget, List.getD_cons_zero, List.getD_cons_succ, Box.vals, dI, Nat.le_refl]
  refine And.intro (fun h => ?_) (fun h => ?_)
  · have h3 : sortI e.a ≠ 3 := by simpa using h
    refine number_call c ha.1 h3 ?_
    simp only [sS, true_and, List.map_cons, List.map_nil, vget, bget, List.getD_cons_zero, List.getD_cons_succ, Box.vals, dI, Nat.le_refl]
    refine number_call c hb.1 (by rw [← hs]; exact h3) ?_
    simp only [sS, true_and, List.map_cons, List.map_nil, vget, bget, List.getD_cons_zero, List.getD_cons_succ, Box.vals, dI, Nat.le_refl]
    rw [cmpF, if_pos (by simpa using h3)]
  · have h3 : sortI e.a = 3 := by simpa using h
    refine grade_call c ha.1 h3 ?_
    simp only [sS, true_and, List.map_cons, List.map_nil, vget, bget, List.getD_cons_zero, List.getD_cons_succ, Box.vals, dI, Nat.le_refl]
    refine grade_call c hb.1 (by rw [← hs]; exact h3) ?_
    simp only [sS, true_and, List.map_cons, List.map_nil, vget, bget, List.getD_cons_zero, List.getD_cons_succ, Box.vals, dI, Nat.le_refl]
    refine callP_of (relation_holds _ _) ?_
    simp only [sS, true_and, List.map_cons, List.map_nil, vget, bget, List.getD_cons_zero, List.getD_cons_succ, Box.vals, dI, Nat.le_refl]
    have h4 : ¬ (sortI e.a != 3) = true := by simpa using h3
    clear hwf hx hn hd hk
    repeat' first | with_reducible refine And.intro (fun h => ?_) (fun h => ?_)
    all_goals (rw [cmpF, if_neg h4]; simp_all)
end Go.Proofs.YtcnnhnjcnekhcaaGreat.Ab
/-
  CONSTRAINTS: the value of an expression, both ways.
-/
namespace Go.Proofs.YtcnnhnjcnekhcaaGreat.Ab
open Go
def okN (e : Xp) : Bool := nodeF e false 15 == 0
theorem kid_at {e : Xp} {L : List D} {kd : D} (hl : L.length = e.kids.length) (hd : IsD 10 L kd) (hk : ∀ (i : Nat) k y, e.kids[i]? = some k → L[i]? = some y → IsE k y) {i : Nat} (hi : i < e.kids.length) :
    ∃ k y, e.kids[i]? = some k ∧ IsE k y ∧ elemPtr 10 (.d kd) (.d (.int .i64 (i : Int))) = some (.dptr y 0) := by
  obtain ⟨k, hky⟩ := get_some hi
  obtain ⟨y, hy⟩ := get_some (show i < L.length by omega)
  exact ⟨k, y, hky, hk i k y hky hy, hd.at hy⟩
theorem eval_holds : ∀ (n : Nat) (e : Xp) (x : D) (c : CaseD) (m : Int), e.lv ≤ n → IsE e x → allX okN e m = true → Holds Tryz.prog gl 45 [.d x, .d (dCase c)] (.d (.bool (valF c e)))
  | 0, e, x, _, _, hn, _, _ => absurd hn (by have := lv_pos e; omega)
  | n + 1, e, x, c, m, hn, hx, hok => by
    refine holds_of_body hm1 (enters_some (fn := Tryz.f45) (by kernel_rfl) (by kernel_rfl) (by kernel_rfl)) (h := h45) ?_; rw [body45]; intro hwf
    have hnode : nodeF e false 15 = 0 := by have := allX_node hok; simpa [okN] using this
    have hcmp := fun h1 h2 h3 => compared_holds hx c h1 h2 h3
    rw [valF_eq]
    obtain ⟨nm, kd, L, rfl, hnm, hl, hd, hk⟩ := hx.inv
    have ih := fun (i : Nat) k y (hky : e.kids[i]? = some k) (hek : IsE k y) => eval_holds n k y c (m - 1) (by have := Xp.kid_lt hky; omega) hek (allX_kid hok hky)
    rcases node_ok hnode with ⟨hop, h⟩ | ⟨hop, h⟩ | ⟨hop, h⟩ | ⟨hop, h⟩ | ⟨hop, h⟩ <;> rw [hop]
    · obtain ⟨k0, y0, hk0, he0, hp0⟩ := kid_at hl hd hk (show 0 < e.kids.length by omega)
      simp only [sS, true_and, List.map_cons, List.map_nil, vget, bget, List.getD_cons_zero, List.getD_cons_succ, Box.vals, dI, Nat.le_refl]
      refine And.intro (fun _ => ?_) (fun h => absurd h (by decide))
      refine bindO_to hp0 ?_
      simp only [sS, true_and, List.map_cons, List.map_nil, vget, bget, List.getD_cons_zero, List.getD_cons_succ, Box.vals, dI, Nat.le_refl, he0.load]
      refine callP_of (ih 0 k0 y0 hk0 he0) ?_
      simp only [sS, true_and, List.map_cons, List.map_nil, vget, bget, List.getD_cons_zero, List.getD_cons_succ, Box.vals, dI, Nat.le_refl]
      rw [if_pos (by decide), vals_get hk0]
    · obtain ⟨k0, y0, hk0, he0, hp0⟩ := kid_at hl hd hk (show 0 < e.kids.length by omega)
      obtain ⟨k1, y1, hk1, he1, hp1⟩ := kid_at hl hd hk (show 1 < e.kids.length by omega)
      simp only [sS, true_and, List.map_cons, List.map_nil, vget, bget, List.getD_cons_zero, List.getD_cons_succ, Box.vals, dI, Nat.le_refl]
      refine And.intro (fun h => absurd h (by decide)) (fun _ => ?_)
      refine And.intro (fun _ => ?_) (fun h => absurd h (by decide))
      refine bindO_to hp0 ?_
      simp only [sS, true_and, List.map_cons, List.map_nil, vget, bget, List.getD_cons_zero, List.getD_cons_succ, Box.vals, dI, Nat.le_refl, he0.load]
      refine callP_of (ih 0 k0 y0 hk0 he0) ?_
      simp only [sS, true_and, List.map_cons, List.map_nil, vget, bget, List.getD_cons_zero, List.getD_cons_succ, Box.vals, dI, Nat.le_refl]
      rw [if_neg (by decide), if_pos (by decide), vals_get hk0, vals_get hk1]
      refine And.intro (fun h => ?_) (fun h => ?_)
      · refine bindO_to hp1 ?_
        simp only [sS, true_and, List.map_cons, List.map_nil, vget, bget, List.getD_cons_zero, List.getD_cons_succ, Box.vals, dI, Nat.le_refl, he1.load]
        refine callP_of (ih 1 k1 y1 hk1 he1) ?_
        simp only [sS, true_and, List.map_cons, List.map_nil, vget, bget, List.getD_cons_zero, List.getD_cons_succ, Box.vals, dI, Nat.le_refl]
        rw [h, Bool.true_and]
      · rw [h, Bool.false_and]
    · obtain ⟨k0, y0, hk0, he0, hp0⟩ := kid_at hl hd hk (show 0 < e.kids.length by omega)
      obtain ⟨k1, y1, hk1, he1, hp1⟩ := kid_at hl hd hk (show 1 < e.kids.length by omega)
      simp only [sS, true_and, List.map_cons, List.map_nil, vget, bget, List.getD_cons_zero, List.getD_cons_succ, Box.vals, dI, Nat.le_refl]
      refine And.intro (fun h => absurd h (by decide)) (fun _ => ?_)
      refine And.intro (fun h => absurd h (by decide)) (fun _ => ?_)
      refine And.intro (fun _ => ?_) (fun h => absurd h (by decide))
      refine bindO_to hp0 ?_
      simp only [sS, true_and, List.map_cons, List.map_nil, vget, bget, List.getD_cons_zero, List.getD_cons_succ, Box.vals, dI, Nat.le_refl, he0.load]
      refine callP_of (ih 0 k0 y0 hk0 he0) ?_
      simp only [sS, true_and, List.map_cons, List.map_nil, vget, bget, List.getD_cons_zero, List.getD_cons_succ, Box.vals, dI, Nat.le_refl]
      rw [if_neg (by decide), if_neg (by decide), if_pos (by decide), vals_get hk0, vals_get hk1]
      refine And.intro (fun h => ?_) (fun h => ?_)
      · rw [h, Bool.true_or]
      · refine bindO_to hp1 ?_
        simp only [sS, true_and, List.map_cons, List.map_nil, vget, bget, List.getD_cons_zero, List.getD_cons_succ, Box.vals, dI, Nat.le_refl, he1.load]
        refine callP_of (ih 1 k1 y1 hk1 he1) ?_
        simp only [sS, true_and, List.map_cons, List.map_nil, vget, bget, List.getD_cons_zero, List.getD_cons_succ, Box.vals, dI, Nat.le_refl]
        rw [h, Bool.false_or]
    · simp only [sS, true_and, List.map_cons, List.map_nil, vget, bget, List.getD_cons_zero, List.getD_cons_succ, Box.vals, dI, Nat.le_refl]
      refine And.intro (fun h => absurd h (by decide)) (fun _ => ?_)
      refine And.intro (fun h => absurd h (by decide)) (fun _ => ?_)
      refine And.intro (fun h => absurd h (by decide)) (fun _ => ?_)
      refine And.intro (fun _ => ?_) (fun h => absurd h (by decide))
      refine callP_of (viewed_holds e.a) ?_
      simp only [sS, true_and, List.map_cons, List.map_nil, vget, bget, List.getD_cons_zero, List.getD_cons_succ, Box.vals, dI, Nat.le_refl]
      refine callP_of (part_holds c h.1 h.2.1) ?_
      simp only [sS, true_and, List.map_cons, List.map_nil, vget, bget, List.getD_cons_zero, List.getD_cons_succ, Box.vals, dI, Nat.le_refl]
      refine number_meth h.1 h.2.2 fun _ => ?_
      refine number_call c h.1 h.2.2 ?_
      simp only [sS, true_and, List.map_cons, List.map_nil, vget, bget, List.getD_cons_zero, List.getD_cons_succ, Box.vals, dI, Nat.le_refl]
      refine callP_of (has_holds e.w (nameF c e.a)) ?_
      simp only [sS, true_and, List.map_cons, List.map_nil, vget, bget, List.getD_cons_zero, List.getD_cons_succ, Box.vals, dI, Nat.le_refl]
      rw [if_neg (by decide), if_neg (by decide), if_neg (by decide), if_pos (by decide)]
      rfl
    · have hcmp := hcmp ⟨h.1, h.2.1⟩ ⟨h.2.2.1, h.2.2.2.1⟩ h.2.2.2.2.2.2.1
      rw [hop] at hcmp
      simp only [sS, true_and, List.map_cons, List.map_nil, vget, bget, List.getD_cons_zero, List.getD_cons_succ, Box.vals, dI, Nat.le_refl]
      refine And.intro (fun h => absurd h (by decide)) (fun _ => ?_)
      refine And.intro (fun h => absurd h (by decide)) (fun _ => ?_)
      refine And.intro (fun h => absurd h (by decide)) (fun _ => ?_)
      refine And.intro (fun h => absurd h (by decide)) (fun _ => ?_)
      refine callP_of hcmp ?_
      simp only [sS, true_and, List.map_cons, List.map_nil, vget, bget, List.getD_cons_zero, List.getD_cons_succ, Box.vals, dI, Nat.le_refl]
      rw [if_neg (by decide), if_neg (by decide), if_neg (by decide), if_neg (by decide)]
theorem value_holds : ∀ (n : Nat) (e : Xp) (x : D) (c : CaseD) (m : Int), e.lv ≤ n → IsE e x → allX okN e m = true → Holds Tryz.prog gl 86 [.d x, .d (dCase c)] (.d (.bool (valF c e)))
  | 0, e, x, _, _, hn, _, _ => absurd hn (by have := lv_pos e; omega)
  | n + 1, e, x, c, m, hn, hx, hok => by
    refine holds_of_body hm1 (enters_some (fn := Tryz.f86) (by kernel_rfl) (by kernel_rfl) (by kernel_rfl)) (h := h86) ?_; rw [body86]; intro hwf
    have hnode : nodeF e false 15 = 0 := by have := allX_node hok; simpa [okN] using this
    have hcmp := fun h1 h2 h3 h4 => compareR_holds hx c h1 h2 h3 h4
    rw [valF_eq]
    obtain ⟨nm, kd, L, rfl, hnm, hl, hd, hk⟩ := hx.inv
    have ih := fun (i : Nat) k y (hky : e.kids[i]? = some k) (hek : IsE k y) => value_holds n k y c (m - 1) (by have := Xp.kid_lt hky; omega) hek (allX_kid hok hky)
    rcases node_ok hnode with ⟨hop, h⟩ | ⟨hop, h⟩ | ⟨hop, h⟩ | ⟨hop, h⟩ | ⟨hop, h⟩ <;> rw [hop]
    · obtain ⟨k0, y0, hk0, he0, hp0⟩ := kid_at hl hd hk (show 0 < e.kids.length by omega)
      simp only [sS, true_and, List.map_cons, List.map_nil, vget, bget, List.getD_cons_zero, List.getD_cons_succ, Box.vals, dI, Nat.le_refl]
      refine And.intro (fun _ => ?_) (fun h => absurd h (by decide))
      refine bindO_to hp0 ?_
      simp only [sS, true_and, List.map_cons, List.map_nil, vget, bget, List.getD_cons_zero, List.getD_cons_succ, Box.vals, dI, Nat.le_refl, he0.load]
      refine callP_of (ih 0 k0 y0 hk0 he0) ?_
      simp only [sS, true_and, List.map_cons, List.map_nil, vget, bget, List.getD_cons_zero, List.getD_cons_succ, Box.vals, dI, Nat.le_refl]
      rw [if_pos (by decide), vals_get hk0]
    · obtain ⟨k0, y0, hk0, he0, hp0⟩ := kid_at hl hd hk (show 0 < e.kids.length by omega)
      obtain ⟨k1, y1, hk1, he1, hp1⟩ := kid_at hl hd hk (show 1 < e.kids.length by omega)
      simp only [sS, true_and, List.map_cons, List.map_nil, vget, bget, List.getD_cons_zero, List.getD_cons_succ, Box.vals, dI, Nat.le_refl]
      refine And.intro (fun h => absurd h (by decide)) (fun _ => ?_)
      refine And.intro (fun _ => ?_) (fun h => absurd h (by decide))
      refine bindO_to hp0 ?_
      simp only [sS, true_and, List.map_cons, List.map_nil, vget, bget, List.getD_cons_zero, List.getD_cons_succ, Box.vals, dI, Nat.le_refl, he0.load]
      refine callP_of (ih 0 k0 y0 hk0 he0) ?_
      simp only [sS, true_and, List.map_cons, List.map_nil, vget, bget, List.getD_cons_zero, List.getD_cons_succ, Box.vals, dI, Nat.le_refl]
      rw [if_neg (by decide), if_pos (by decide), vals_get hk0, vals_get hk1]
      refine And.intro (fun h => ?_) (fun h => ?_)
      · refine bindO_to hp1 ?_
        simp only [sS, true_and, List.map_cons, List.map_nil, vget, bget, List.getD_cons_zero, List.getD_cons_succ, Box.vals, dI, Nat.le_refl, he1.load]
        refine callP_of (ih 1 k1 y1 hk1 he1) ?_
        simp only [sS, true_and, List.map_cons, List.map_nil, vget, bget, List.getD_cons_zero, List.getD_cons_succ, Box.vals, dI, Nat.le_refl]
        rw [h, Bool.true_and]
      · rw [h, Bool.false_and]
    · obtain ⟨k0, y0, hk0, he0, hp0⟩ := kid_at hl hd hk (show 0 < e.kids.length by omega)
      obtain ⟨k1, y1, hk1, he1, hp1⟩ := kid_at hl hd hk (show 1 < e.kids.length by omega)
      simp only [sS, true_and, List.map_cons, List.map_nil, vget, bget, List.getD_cons_zero, List.getD_cons_succ, Box.vals, dI, Nat.le_refl]
      refine And.intro (fun h => absurd h (by decide)) (fun _ => ?_)
      refine And.intro (fun h => absurd h (by decide)) (fun _ => ?_)
      refine And.intro (fun _ => ?_) (fun h => absurd h (by decide))
      refine bindO_to hp0 ?_
      simp only [sS, true_and, List.map_cons, List.map_nil, vget, bget, List.getD_cons_zero, List.getD_cons_succ, Box.vals, dI, Nat.le_refl, he0.load]
      refine callP_of (ih 0 k0 y0 hk0 he0) ?_
      simp only [sS, true_and, List.map_cons, List.map_nil, vget, bget, List.getD_cons_zero, List.getD_cons_succ, Box.vals, dI, Nat.le_refl]
      rw [if_neg (by decide), if_neg (by decide), if_pos (by decide), vals_get hk0, vals_get hk1]
      refine And.intro (fun h => ?_) (fun h => ?_)
      · rw [h, Bool.true_or]
      · refine bindO_to hp1 ?_
        simp only [sS, true_and, List.map_cons, List.map_nil, vget, bget, List.getD_cons_zero, List.getD_cons_succ, Box.vals, dI, Nat.le_refl, he1.load]
        refine callP_of (ih 1 k1 y1 hk1 he1) ?_
        simp only [sS, true_and, List.map_cons, List.map_nil, vget, bget, List.getD_cons_zero, List.getD_cons_succ, Box.vals, dI, Nat.le_refl]
        rw [h, Bool.false_or]
    · simp only [sS, true_and, List.map_cons, List.map_nil, vget, bget, List.getD_cons_zero, List.getD_cons_succ, Box.vals, dI, Nat.le_refl]
      refine And.intro (fun h => absurd h (by decide)) (fun _ => ?_)
      refine And.intro (fun h => absurd h (by decide)) (fun _ => ?_)
      refine And.intro (fun h => absurd h (by decide)) (fun _ => ?_)
      refine And.intro (fun _ => ?_) (fun h => absurd h (by decide))
      refine callP_of (name17_holds c h.1 h.2.1) ?_
      simp only [sS, true_and, List.map_cons, List.map_nil, vget, bget, List.getD_cons_zero, List.getD_cons_succ, Box.vals, dI, Nat.le_refl]
      refine callP_of (hasR_holds e.w (nameF c e.a)) ?_
      simp only [sS, true_and, List.map_cons, List.map_nil, vget, bget, List.getD_cons_zero, List.getD_cons_succ, Box.vals, dI, Nat.le_refl]
      rw [if_neg (by decide), if_neg (by decide), if_neg (by decide), if_pos (by decide)]
      rfl
    · have hcmp := hcmp ⟨h.1, h.2.1⟩ ⟨h.2.2.1, h.2.2.2.1⟩ ⟨h.2.2.2.2.1, h.2.2.2.2.2.1⟩ h.2.2.2.2.2.2.1
      rw [hop] at hcmp
      simp only [sS, true_and, List.map_cons, List.map_nil, vget, bget, List.getD_cons_zero, List.getD_cons_succ, Box.vals, dI, Nat.le_refl]
      refine And.intro (fun h => absurd h (by decide)) (fun _ => ?_)
      refine And.intro (fun h => absurd h (by decide)) (fun _ => ?_)
      refine And.intro (fun h => absurd h (by decide)) (fun _ => ?_)
      refine And.intro (fun h => absurd h (by decide)) (fun _ => ?_)
      refine callP_of hcmp ?_
      simp only [sS, true_and, List.map_cons, List.map_nil, vget, bget, List.getD_cons_zero, List.getD_cons_succ, Box.vals, dI, Nat.le_refl]
      rw [if_neg (by decide), if_neg (by decide), if_neg (by decide), if_neg (by decide)]
/-- Eval -/
def evalF (e : Xp) (c : CaseD) : Bool := allX okN e 12 && valF c e
theorem okN_eq : (fun e => nodeRF e false true == 0) = okN := rfl
theorem okN_first (e : Xp) (n : Int) : allX okN e n = (decide ((e.lv : Int) ≤ n) && firstF (fun e => nodeF e false 15) e == 0) := allX_first e.lv e n (Nat.le_refl _)
theorem exam_fn {f : FuncId} {F : Xp → Int} {m : Nat} (h : ∀ (k : Xp) (y : D), IsE k y → Holds Tryz.prog gl f [.d y] (.d (.int .i64 (F k)))) : Exam (.d (.fn (.func f))) F m :=
  ⟨rfl, fun k y _ hk K hK => by rw [withFn_fn]; exact callP_of (h k y hk) hK⟩
theorem evalC_holds {e : Xp} {x : D} (hx : IsE e x) (c : CaseD) (hlv : e.lv ≤ 1000) : Holds Tryz.prog gl 17 [.d x, .d (dCase c)] (.d (.bool (evalF e c))) := by
  refine holds_of_body hm1 (enters_some (fn := Tryz.f17) (by kernel_rfl) (by kernel_rfl) (by kernel_rfl)) (h := h17) ?_; rw [body17]; intro hwf
  have h1 := levels_holds e.lv e x (Nat.le_refl _) hlv hx
  have h2 := first_holds e.lv e x (Nat.le_refl _) hx (exam_fn fun k y hk => eval1_holds hk)
  have h3 := fun h => eval_holds e.lv e x c 12 (Nat.le_refl _) hx h
  have h0 := okN_first e 12
  obtain ⟨nm, kd, L, rfl, hnm, hl, hd, hk⟩ := hx.inv
  simp only [sS, true_and, List.map_cons, List.map_nil, vget, bget, List.getD_cons_zero, List.getD_cons_succ, Box.vals, dI, Nat.le_refl]
  refine callP_of h1 ?_
  simp only [sS, true_and, List.map_cons, List.map_nil, vget, bget, List.getD_cons_zero, List.getD_cons_succ, Box.vals, dI, Nat.le_refl]
  refine And.intro (fun h => ?_) (fun h => ?_)
  · refine callP_of h2 ?_
    simp only [sS, true_and, List.map_cons, List.map_nil, vget, bget, List.getD_cons_zero, List.getD_cons_succ, Box.vals, dI, Nat.le_refl]
    refine And.intro (fun h' => ?_) (fun h' => ?_)
    · rw [h, h', Bool.true_and] at h0
      refine callP_of (h3 h0) ?_
      simp only [sS, true_and, List.map_cons, List.map_nil, vget, bget, List.getD_cons_zero, List.getD_cons_succ, Box.vals, dI, Nat.le_refl]
      rw [evalF, h0, Bool.true_and]
    · rw [h', Bool.and_false] at h0
      rw [evalF, h0, Bool.false_and]
  · rw [h, Bool.false_and] at h0
    rw [evalF, h0, Bool.false_and]
theorem evalR_holds {e : Xp} {x : D} (hx : IsE e x) (c : CaseD) : Holds Tryz.prog gl 46 [.d x, .d (dCase c)] (.d (.bool (evalF e c))) := by
  refine holds_of_body hm1 (enters_some (fn := Tryz.f46) (by kernel_rfl) (by kernel_rfl) (by kernel_rfl)) (h := h46) ?_; rw [body46]; intro hwf
  have h2 := wellFormed_holds e.lv e x 12 (Nat.le_refl _) hx (by decide)
  rw [okN_eq] at h2
  have h3 := fun h => value_holds e.lv e x c 12 (Nat.le_refl _) hx h
  obtain ⟨nm, kd, L, rfl, hnm, hl, hd, hk⟩ := hx.inv
  simp only [sS, true_and, List.map_cons, List.map_nil, vget, bget, List.getD_cons_zero, List.getD_cons_succ, Box.vals, dI, Nat.le_refl]
  refine callP_of h2 ?_
  simp only [sS, true_and, List.map_cons, List.map_nil, vget, bget, List.getD_cons_zero, List.getD_cons_succ, Box.vals, dI, Nat.le_refl]
  refine And.intro (fun h => ?_) (fun h => ?_)
  · refine callP_of (h3 h) ?_
    simp only [sS, true_and, List.map_cons, List.map_nil, vget, bget, List.getD_cons_zero, List.getD_cons_succ, Box.vals, dI, Nat.le_refl]
    rw [evalF, h, Bool.true_and]
  · rw [evalF, h, Bool.false_and]
end Go.Proofs.YtcnnhnjcnekhcaaGreat.Ab
