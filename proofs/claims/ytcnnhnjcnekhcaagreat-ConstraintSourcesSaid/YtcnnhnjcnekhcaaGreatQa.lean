/-
  PLAIN LAWS OF SETS OF 256.
-/
import Derived.Test.YtcnnhnjcnekhcaaGreatUa
import Derived.Test.YtcnnhnjcnekhcaaGreatVb
import Derived.Test.YtcnnhnjcnekhcaaGreatTp
set_option linter.unusedVariables false
set_option linter.unusedSimpArgs false
namespace Go.Proofs.YtcnnhnjcnekhcaaGreat.Ab
open Go

theorem has_word (w : Nat → BitVec 64) (i j : Nat) (h : j < 64) : hasW w (64 * i + j) = (w i).getLsbD j := by
  unfold hasW
  rw [show (64 * i + j) / 64 = i by omega, show (64 * i + j) % 64 = j by omega]
theorem eqW_refl (w : Nat → BitVec 64) : eqW w w = true := by simp [eqW]
theorem eqW_of {w v : Nat → BitVec 64} (h : ∀ k, k < 4 → w k = v k) : eqW w v = true := by
  simp [eqW, h 0 (by decide), h 1 (by decide), h 2 (by decide), h 3 (by decide)]
theorem eqW_to {w v : Nat → BitVec 64} (h : eqW w v = true) : ∀ k, k < 4 → w k = v k := by
  simp only [eqW, Bool.and_true, Bool.and_eq_true, beq_iff_eq] at h
  intro k hk
  match k, hk with
  | 0, _ => exact h.1
  | 1, _ => exact h.2.1
  | 2, _ => exact h.2.2.1
  | 3, _ => exact h.2.2.2
theorem word_of_has {w v : Nat → BitVec 64} {k : Nat} (hk : k < 4) (h : ∀ m, m < 256 → hasW w m = hasW v m) : w k = v k := by
  apply BitVec.eq_of_getLsbD_eq
  intro i hi
  have := h (64 * k + i) (by omega)
  rwa [has_word w k i hi, has_word v k i hi] at this
theorem eqW_has {w v : Nat → BitVec 64} : eqW w v = true ↔ ∀ m, m < 256 → hasW w m = hasW v m := by
  constructor
  · intro h m hm
    unfold hasW
    rw [eqW_to h (m / 64) (by omega)]
  · intro h
    exact eqW_of fun k hk => word_of_has hk h
theorem has_with (w : Nat → BitVec 64) (n : Int) (m : Nat) (hm : m < 256) : hasW (withW w n) m = (hasW w m || decide ((m : Int) = n)) := by
  unfold withW
  by_cases h : 0 ≤ n ∧ n < 256
  · rw [if_pos h]
    obtain ⟨j, rfl⟩ := Int.eq_ofNat_of_zero_le h.1
    have hj : j < 256 := by omega
    simp only [Int.toNat_natCast]
    unfold hasW upW
    by_cases hq : m / 64 = j / 64
    · rw [if_pos hq, BitVec.getLsbD_or, hq]
      congr 1
      rw [BitVec.getLsbD_shiftLeft, BitVec.getLsbD_one]
      by_cases he : m = j
      · subst he
        have : m % 64 < 64 := Nat.mod_lt _ (by decide)
        simp [this]
      · have h1 : m % 64 ≠ j % 64 := by omega
        have h2 : ¬ ((m : Int) = (j : Int)) := by omega
        rcases Nat.lt_or_ge (m % 64) (j % 64) with h3 | h3
        · simp [h2, h3]
        · have : ¬ (m % 64 - j % 64 = 0) := by omega
          simp [h2, this]
    · rw [if_neg hq]
      have h2 : ¬ ((m : Int) = (j : Int)) := by omega
      simp [h2]
  · rw [if_neg h]
    have h2 : ¬ ((m : Int) = n) := by omega
    simp [h2]
theorem has_of : ∀ (l : List Int) (w : Nat → BitVec 64) (m : Nat), m < 256 → hasW (ofW l w) m = (hasW w m || l.contains (m : Int))
  | [], w, m, _ => by simp [ofW]
  | n :: l, w, m, hm => by
    simp only [ofW]
    rw [has_of l _ m hm, has_with w n m hm, List.contains_cons, Bool.or_assoc]
    congr 1
theorem mem_list (w : Nat → BitVec 64) (m : Nat) : ∀ i, (listW w i).contains (m : Int) = (decide (m < i) && hasW w m)
  | 0 => by simp [listW]
  | i + 1 => by
    rw [listW]
    have ih := mem_list w m i
    rw [List.contains_eq_mem] at ih ⊢
    have e : decide ((m : Int) ∈ listW w i ++ if hasW w i = true then [(i : Int)] else []) = (decide ((m : Int) ∈ listW w i) || decide ((m : Int) ∈ if hasW w i = true then [(i : Int)] else [])) := by
      rw [← Bool.decide_or]
      congr 1
      exact propext List.mem_append
    rw [e, ih]
    by_cases hi : m = i
    · subst hi
      cases hasW w m <;> simp
    · have h1 : decide (m < i + 1) = decide (m < i) := by congr 1; exact propext (by omega)
      rw [h1]
      have h2 : ¬ ((m : Int) = (i : Int)) := by omega
      cases hasW w i <;> simp [h2]
theorem has_zero (m : Nat) : hasW (fun _ => 0) m = false := by
  unfold hasW
  exact BitVec.getLsbD_zero
theorem of_list (w : Nat → BitVec 64) : eqW (ofW (listW w 256) fun _ => 0) w = true := by
  rw [eqW_has]
  intro m hm
  rw [has_of _ _ m hm, has_zero, mem_list w m 256]
  simp [hm]
theorem within_eq (a b : Nat → BitVec 64) : eqW (fun k => a k &&& b k) a = eqW (fun k => a k &&& ~~~ b k) fun _ => 0 := by
  rw [Bool.eq_iff_iff]
  constructor
  · intro h
    refine eqW_of fun k hk => ?_
    have := eqW_to h k hk
    apply BitVec.eq_of_getLsbD_eq
    intro i hi
    have h1 := congrArg (fun z => z.getLsbD i) this
    simp only [BitVec.getLsbD_and] at h1
    simp only [BitVec.getLsbD_and, BitVec.getLsbD_not, hi, decide_true, Bool.true_and]
    rw [show ((0 : BitVec 64)).getLsbD i = false from BitVec.getLsbD_zero]
    cases h2 : (a k).getLsbD i <;> cases h3 : (b k).getLsbD i <;> simp_all
  · intro h
    refine eqW_of fun k hk => ?_
    have := eqW_to h k hk
    apply BitVec.eq_of_getLsbD_eq
    intro i hi
    have h1 := congrArg (fun z => z.getLsbD i) this
    simp only [BitVec.getLsbD_and, BitVec.getLsbD_not, hi, decide_true, Bool.true_and] at h1
    rw [show ((0 : BitVec 64)).getLsbD i = false from BitVec.getLsbD_zero] at h1
    simp only [BitVec.getLsbD_and]
    cases h2 : (a k).getLsbD i <;> cases h3 : (b k).getLsbD i <;> simp_all
end Go.Proofs.YtcnnhnjcnekhcaaGreat.Ab
/-
  CONSTRAINTS: Check, both ways.
-/
namespace Go.Proofs.YtcnnhnjcnekhcaaGreat.Ab
open Go
def symF (p : PolD) (a : Int) : Int := if sortI a == 0 then (p.us.length : Int) else if sortI a == 1 then (p.ro.length : Int) else (p.ty.length : Int)
/-- the error of a node in a policy -/
def nodeP (p : PolD) (lim : Int) (e : Xp) : Int :=
  if nodeF e false lim != 0 then nodeF e false lim
  else if e.op != 9 then 0
  else if !insW e.w (allW (clip (symF p e.a))) then 3
  else if eqW e.w zW then 2 else 0
theorem symbols_holds (p : PolD) (a : Int) : Holds Tryz.prog gl 67 [.d (dPol p), .d (.int .i64 a)] (.d (.int .i64 (symF p a))) := by
  refine holds_of_body hm1 (enters_some (fn := Tryz.f67) (by kernel_rfl) (by kernel_rfl) (by kernel_rfl)) (h := h67) ?_; rw [body67]; intro hwf
  simp only [sS, true_and, List.map_cons, List.map_nil, vget, bget, List.getD_cons_zero, List.getD_cons_succ, Box.vals, dI, Nat.le_refl, sP]
  refine callP_of (sort_holds a) ?_
  simp only [sS, true_and, List.map_cons, List.map_nil, vget, bget, List.getD_cons_zero, List.getD_cons_succ, Box.vals, dI, Nat.le_refl, sP]
  repeat' first | with_reducible refine And.intro (fun h => ?_) (fun h => ?_)
  all_goals (simp only [symF]; simp_all)
theorem numberR_holds (p : PolD) (a : Int) : Holds Tryz.prog gl 71 [.d (dPol p), .d (.int .i64 a)] (.d (.int .i64 (symF p a))) := by
  refine holds_of_body hm1 (enters_some (fn := Tryz.f71) (by kernel_rfl) (by kernel_rfl) (by kernel_rfl)) (h := h71) ?_; rw [body71]; intro hwf
  simp only [sS, true_and, List.map_cons, List.map_nil, vget, bget, List.getD_cons_zero, List.getD_cons_succ, Box.vals, dI, Nat.le_refl, sP]
  refine callP_of (sortR_holds a) ?_
  simp only [sS, true_and, List.map_cons, List.map_nil, vget, bget, List.getD_cons_zero, List.getD_cons_succ, Box.vals, dI, Nat.le_refl, sP]
  repeat' first | with_reducible refine And.intro (fun h => ?_) (fun h => ?_)
  all_goals (simp only [symF]; simp_all)
theorem nodeC_holds {e : Xp} {x : D} (hx : IsE e x) (p : PolD) (lim : Int) : Holds Tryz.prog gl 33 [.d x, .d (dPol p), .d (.int .i64 lim)] (.d (.int .i64 (nodeP p lim e))) := by
  refine holds_of_body hm1 (enters_some (fn := Tryz.f33) (by kernel_rfl) (by kernel_rfl) (by kernel_rfl)) (h := h33) ?_; rw [body33]; intro hwf
  have h1 := form_holds hx false
  have h2 := meaning_holds hx lim
  have h3 := symbols_holds p e.a
  have h4 := all_holds (symF p e.a)
  have h5 : Holds Tryz.prog gl 65 [.d (dSet e.w), .d (dSet (allW (clip (symF p e.a))))] (.d (.bool (insW e.w (allW (clip (symF p e.a)))))) := by
    have h := within_holds e.w (allW (clip (symF p e.a)))
    rw [within_eq] at h
    exact h
  obtain ⟨nm, kd, L, rfl, hn, hl, hd, hk⟩ := hx.inv
  clear hwf hn hd hk hl hx
  simp only [sS, true_and, List.map_cons, List.map_nil, vget, bget, List.getD_cons_zero, List.getD_cons_succ, Box.vals, dI, Nat.le_refl, sP]
  refine callP_of h1 ?_
  simp only [sS, true_and, List.map_cons, List.map_nil, vget, bget, List.getD_cons_zero, List.getD_cons_succ, Box.vals, dI, Nat.le_refl, sP]
  by_cases hf : formF e false = true
  · have e1 : formE e false = 0 := by rw [formE, if_pos hf]
    have e2 : nodeF e false lim = meaningF e lim := by rw [nodeF, if_pos hf]
    rw [e1, nodeP, e2]
    refine And.intro (fun h => absurd h (by decide)) (fun _ => ?_)
    refine callP_of h2 ?_
    simp only [sS, true_and, List.map_cons, List.map_nil, vget, bget, List.getD_cons_zero, List.getD_cons_succ, Box.vals, dI, Nat.le_refl, sP]
    refine And.intro (fun h => ?_) (fun h => ?_)
    · rw [if_pos h]
    rw [if_neg (by rw [h]; decide)]
    refine And.intro (fun h => ?_) (fun h => ?_)
    · rw [if_pos h]
    rw [if_neg (by rw [h]; decide)]
    refine callP_of h3 ?_
    simp only [sS, true_and, List.map_cons, List.map_nil, vget, bget, List.getD_cons_zero, List.getD_cons_succ, Box.vals, dI, Nat.le_refl, sP]
    refine callP_of h4 ?_
    simp only [sS, true_and, List.map_cons, List.map_nil, vget, bget, List.getD_cons_zero, List.getD_cons_succ, Box.vals, dI, Nat.le_refl, sP]
    refine callP_of h5 ?_
    simp only [sS, true_and, List.map_cons, List.map_nil, vget, bget, List.getD_cons_zero, List.getD_cons_succ, Box.vals, dI, Nat.le_refl, sP, build_zset]
    refine And.intro (fun h => ?_) (fun h => ?_)
    · rw [if_pos h]
    rw [if_neg (by rw [h]; decide)]
    refine And.intro (fun h => ?_) (fun h => ?_)
    · rw [if_pos h]
    · rw [if_neg (by rw [h]; decide)]
  · have e1 : formE e false = 2 := by rw [formE, if_neg hf]
    have e2 : nodeF e false lim = 2 := by rw [nodeF, if_neg hf]
    rw [e1, nodeP, e2]
    refine And.intro (fun _ => ?_) (fun h => absurd h (by decide))
    rfl
def limF (v : Bool) : Int := if v then 15 else 10
theorem limited_holds (v : Bool) : Holds Tryz.prog gl 34 [.d (.bool v)] (.d (.int .i64 (limF v))) := by
  refine holds_of_body hm1 (enters_some (fn := Tryz.f34) (by kernel_rfl) (by kernel_rfl) (by kernel_rfl)) (h := h34) ?_; rw [body34]; intro hwf
  simp only [sS, true_and, List.map_cons, List.map_nil, vget, bget, List.getD_cons_zero, List.getD_cons_succ, Box.vals, dI, Nat.le_refl]
  repeat' first | with_reducible refine And.intro (fun h => ?_) (fun h => ?_)
  all_goals (simp only [limF]; simp_all)
theorem load_pol (p : PolD) : loadV true 17 (.ref (cPol p) 0) = some (.d (dPol p)) := rfl
theorem load_b (b : Bool) : loadV false 1 (.ref [.d (.bool b)] 0) = some (.d (.bool b)) := rfl
theorem dem_ref1 (x : SV) : demote (.ref [x] 0) = .ref [x] 0 := rfl
theorem map_cPol (p : PolD) : List.map demote (cPol p) = cPol p := rfl
theorem dem_refP (p : PolD) : demote (.ref (cPol p) 0) = .ref (cPol p) 0 := rfl
def checkF (p : PolD) (v : Bool) (e : Xp) : Int := if e.lv > 12 then 4 else firstF (nodeP p (limF v)) e
theorem check1_holds {e : Xp} {x : D} (hx : IsE e x) (p : PolD) (v : Bool) : Holds Tryz.prog gl 32 [.d x, .ref (cPol p) 0, .ref [.d (.bool v)] 0] (.d (.int .i64 (nodeP p (limF v) e))) := by
  refine holds_of_body hm1 (enters_some (fn := Tryz.f32) (by kernel_rfl) (by kernel_rfl) (by kernel_rfl)) (h := h32) ?_; rw [body32]; intro hwf
  have h2 := nodeC_holds hx p (limF v)
  obtain ⟨cs, c1, c2, c3, c4⟩ := hx.cells
  simp only [sS, true_and, List.map_cons, List.map_nil, vget, bget, List.getD_cons_zero, List.getD_cons_succ, Box.vals, dI, Nat.le_refl, c1, c2, c3, dem_refP, dem_ref1, load_pol, load_b]
  refine callP_of (limited_holds v) ?_
  simp only [sS, true_and, List.map_cons, List.map_nil, vget, bget, List.getD_cons_zero, List.getD_cons_succ, Box.vals, dI, Nat.le_refl]
  refine callP_of h2 ?_
  simp only [sS, true_and, List.map_cons, List.map_nil, vget, bget, List.getD_cons_zero, List.getD_cons_succ, Box.vals, dI, Nat.le_refl]
theorem checkC_holds {e : Xp} {x : D} (hx : IsE e x) (hlv : e.lv ≤ 1000) (p : PolD) (v : Bool) : Holds Tryz.prog gl 11 [.d x, .d (dPol p), .d (.bool v)] (.d (.int .i64 (checkF p v e))) := by
  refine holds_of_body hm1 (enters_some (fn := Tryz.f11) (by kernel_rfl) (by kernel_rfl) (by kernel_rfl)) (h := h11) ?_; rw [body11]; intro hwf
  have h1 := levels_holds e.lv e x (Nat.le_refl _) hlv hx
  have h2 := first_holds (g := .clo (.func 32) [] [.ref (cPol p) 0, .ref [.d (.bool v)] 0]) (F := nodeP p (limF v)) e.lv e x (Nat.le_refl _) hx ⟨rfl, fun k y _ hk K hK => by rw [withFn_clo]; exact callP_of (check1_holds hk p v) hK⟩
  obtain ⟨cs, c1, c2, c3, c4⟩ := hx.cells
  have cb : cellsV (.d (.bool v)) = some [.d (.bool v)] := rfl
  simp only [sS, true_and, List.map_cons, List.map_nil, vget, bget, List.getD_cons_zero, List.getD_cons_succ, Box.vals, dI, Nat.le_refl, sP, c1, c2, c3, cb, List.length_singleton, map_cPol]
  refine callP_of h1 ?_
  simp only [sS, true_and, List.map_cons, List.map_nil, vget, bget, List.getD_cons_zero, List.getD_cons_succ, Box.vals, dI, Nat.le_refl]
  refine And.intro (fun h => ?_) (fun h => ?_)
  · have : e.lv > 12 := by have := of_decide_eq_true h; omega
    rw [checkF, if_pos this]
  · have : ¬ e.lv > 12 := by have := of_decide_eq_false h; omega
    refine callP_of h2 ?_
    simp only [sS, true_and, List.map_cons, List.map_nil, vget, bget, List.getD_cons_zero, List.getD_cons_succ, Box.vals, dI, Nat.le_refl]
    rw [checkF, if_neg this]
theorem levels17_holds : ∀ (n : Nat) (e : Xp) (x : D) (m : Nat), e.lv ≤ n → IsE e x → m ≤ 100 → Holds Tryz.prog gl 35 [.d x, .d (.int .i64 (m : Int))] (.d (.int .i64 ((min e.lv (m + 1) : Nat) : Int)))
  | 0, e, x, _, hn, _, _ => absurd hn (by have := lv_pos e; omega)
  | n + 1, e, x, m, hn, hx, hm => by
    refine holds_of_body hm1 (enters_some (fn := Tryz.f35) (by kernel_rfl) (by kernel_rfl) (by kernel_rfl)) (h := h35) ?_; rw [body35]; intro hwf
    have hlv := e.lv_eq
    obtain ⟨nm, kd, L, rfl, hnm, hl, hd, hk⟩ := hx.inv
    have hcap := ex_cap hwf hd
    simp only [sS, true_and, List.map_cons, List.map_nil, vget, bget, List.getD_cons_zero, List.getD_cons_succ, Box.vals, dI, Nat.le_refl]
    refine loopP_count (fun i => [.d (.int .i64 (m : Int)), .d (.int .i64 ((min (Xp.lv.lvs (e.kids.take i)) m : Nat) : Int)), .d (.int .i64 ((i : Nat) : Int))]) (fun i => [cEx e.op e.a e.rel e.b nm e.w kd]) L.length (fun i hi I hI => ?_) (fun I => ?_)
    · simp only [sS, true_and, List.map_cons, List.map_nil, vget, bget, List.getD_cons_zero, List.getD_cons_succ, Box.vals, dI, Nat.le_refl, hd.len]
      refine And.intro (fun _ => ?_) (fun h => absurd h (by simp; omega))
      refine And.intro (fun h0 => ?_) (fun h0 => ?_)
      · have hm0 : 1 ≤ m := by have := of_decide_eq_true h0; omega
        obtain ⟨y, hy⟩ := get_some hi
        obtain ⟨k, hky⟩ := get_some (show i < e.kids.length by omega)
        have hek := hk i k y hky hy
        have hlt := Xp.kid_lt hky
        rw [hd.at hy]
        simp only [sS, true_and, List.map_cons, List.map_nil, vget, bget, List.getD_cons_zero, List.getD_cons_succ, Box.vals, dI, Nat.le_refl, hek.load]
        rw [sub_int1 (by omega) (by omega)]
        simp only [sS, true_and, List.map_cons, List.map_nil, vget, bget, List.getD_cons_zero, List.getD_cons_succ, Box.vals, dI, Nat.le_refl]
        rw [show (m : Int) - 1 = ((m - 1 : Nat) : Int) from by omega]
        refine callP_of (levels17_holds n k y (m - 1) (by omega) hek (by omega)) ?_
        simp only [sS, true_and, List.map_cons, List.map_nil, vget, bget, List.getD_cons_zero, List.getD_cons_succ, Box.vals, dI, Nat.le_refl, fold_max, maxD_natI]
        refine bindO_to (add_up hi hcap) ?_
        have := lvs_min m hky
        rw [show m - 1 + 1 = m from by omega]
        rw [this] at hI
        exact hI
      · have hm0 : m = 0 := by have := of_decide_eq_false h0; omega
        subst hm0
        simp only [Nat.min_zero]
        refine bindO_to (show binV none .add (.d (.int .i64 ((0 : Nat) : Int))) (.d (.int .i64 1)) = some (.d (.int .i64 1)) from rfl) ?_
        simp only [sS, true_and, List.map_cons, List.map_nil, vget, bget, List.getD_cons_zero, List.getD_cons_succ, Box.vals, dI, Nat.le_refl]
        have : min e.lv (0 + 1) = 1 := by have := lv_pos e; omega
        rw [this]
        rfl
    · simp only [sS, true_and, List.map_cons, List.map_nil, vget, bget, List.getD_cons_zero, List.getD_cons_succ, Box.vals, dI, Nat.le_refl, hd.len]
      refine And.intro (fun h => absurd h (by simp)) (fun _ => ?_)
      rw [hl, List.take_length]
      refine bindO_to (add_one (by omega)) ?_
      simp only [sS, true_and, List.map_cons, List.map_nil, vget, bget, List.getD_cons_zero, List.getD_cons_succ, Box.vals, dI, Nat.le_refl]
      rw [hlv, show min (Xp.lv.lvs e.kids) m + 1 = min (Xp.lv.lvs e.kids + 1) (m + 1) from by omega]
theorem listW_nil {w : Nat → BitVec 64} : ((((listW w 256).length : Nat) : Int) == 0) = eqW w zW := by
  rw [Bool.eq_iff_iff]
  constructor
  · intro h
    have h0 : listW w 256 = [] := List.length_eq_zero_iff.1 (by simpa using h)
    have := of_list w
    rw [h0] at this
    have h2 : eqW (fun _ => 0) w = true := this
    exact eqW_of fun k hk => (eqW_to h2 k hk).symm
  · intro h
    have h0 : listW w 256 = [] := by
      cases hl : listW w 256 with
      | nil => rfl
      | cons a l =>
        exfalso
        have hmem : ∀ i, ∀ z ∈ listW w i, ∃ m, m < i ∧ z = (m : Int) := by
          intro i
          induction i with
          | zero => intro z hz; simp [listW] at hz
          | succ i ih =>
            intro z hz
            rw [listW, List.mem_append] at hz
            rcases hz with hz | hz
            · obtain ⟨m, h1, h2⟩ := ih z hz
              exact ⟨m, by omega, h2⟩
            · split at hz
              · simp at hz; exact ⟨i, by omega, hz⟩
              · simp at hz
        obtain ⟨m, hm, rfl⟩ := hmem 256 a (by rw [hl]; simp)
        have h3 := mem_list w m 256
        rw [hl] at h3
        have h4 : hasW w m = true := by simp at h3; exact h3.2
        rw [eqW_has.1 h m hm] at h4
        have h5 : hasW zW m = false := has_zero m
        rw [h5] at h4
        cases h4
    rw [h0]
    rfl
theorem len_nown (l : List Int) : lenL (demote (nown l)) = some (.d (.int .i64 (l.length : Int))) := by
  cases l with
  | nil => rfl
  | cons a l => simp [nown, demote, lenL, elemsAny]
theorem isTup_nown (l : List Int) : isTup (nown l) = false := by cases l <;> rfl
theorem countR_holds (w : Nat → BitVec 64) : Holds Tryz.prog gl 72 [.d (dSet w)] (.d (.int .i64 ((listW w 256).length : Int))) := by
  refine holds_of_body hm1 (enters_some (fn := Tryz.f72) (by kernel_rfl) (by kernel_rfl) (by kernel_rfl)) (h := h72) ?_; rw [body72]; intro hwf
  simp only [sS, true_and, List.map_cons, List.map_nil, vget, bget, List.getD_cons_zero, List.getD_cons_succ, Box.vals, dI, Nat.le_refl, cells_set, len_cSet, part_set]
  refine callP_to (listR_holds w) (isTup_nown _) ?_
  simp only [sS, true_and, List.map_cons, List.map_nil, vget, bget, List.getD_cons_zero, List.getD_cons_succ, Box.vals, dI, Nat.le_refl, len_nown]
theorem checkR1_holds (p : PolD) (v : Bool) : ∀ (n : Nat) (e : Xp) (x : D), e.lv ≤ n → IsE e x → Holds Tryz.prog gl 36 [.d x, .d (dPol p), .d (.bool v)] (.d (.int .i64 (firstF (nodeP p (limF v)) e)))
  | 0, e, x, hn, _ => absurd hn (by have := lv_pos e; omega)
  | n + 1, e, x, hn, hx => by
    refine holds_of_body hm1 (enters_some (fn := Tryz.f36) (by kernel_rfl) (by kernel_rfl) (by kernel_rfl)) (h := h36) ?_; rw [body36]; intro hwf
    have h1 := nodeR_holds hx false v
    have h3 := numberR_holds p e.a
    have h4 := allR_holds (symF p e.a)
    have h5 : Holds Tryz.prog gl 69 [.d (dSet e.w), .d (dSet (allW (clip (symF p e.a))))] (.d (.bool (insW e.w (allW (clip (symF p e.a)))))) := withinR_holds e.w (allW (clip (symF p e.a)))
    have h6 := countR_holds e.w
    obtain ⟨nm, kd, L, rfl, hnm, hl, hd, hk⟩ := hx.inv
    have hcap := ex_cap hwf hd
    have hloop : loopP (fun vs17 bs18 I19 =>
            bindO (partV false 1 9 (bget bs18 0)) fun r20 =>
            bindO (lenL (demote (demote r20))) fun r21 =>
            bindO (binV none .lss (demote (demote (vget vs17 1))) (demote r21)) fun r22 =>
            ifP r22
              (bindO (partV false 1 9 (bget bs18 0)) fun r23 =>
              bindO (elemPtr 10 (demote (demote r23)) (demote (demote (vget vs17 1)))) fun r24 =>
              bindO (loadV true 10 (demote r24)) fun r25 =>
              bindO (partV true 17 0 (bget bs18 1)) fun r26 =>
              callP (Holds Tryz.prog gl) 36 [(demote (demote r25)), (demote (demote (demote r26))), (demote (demote (demote (vget vs17 0))))] fun r27 =>
              bindO (binV (some (false, [.int])) .neq (demote (demote (demote r27))) (.d (.int .i64 0))) fun r28 =>
              ifP r28
                ((SV.noRef (demote (demote (demote r27)))) = true ∧
                ((demote (demote (demote r27))) = SV.d (.int .i64 (firstF.go (nodeP p (limF v)) e.kids))))
                (bindO (binV none .add (demote (demote (vget vs17 1))) (.d (.int .i64 1))) fun r29 =>
                (I19 [(vget vs17 0), (demote r29)] [(Box.vals (Box.cells (bget bs18 0))), (Box.vals (Box.cells (bget bs18 1)))])))
              ((SV.noRef (.d (.int .i64 0))) = true ∧
              (SV.d (.int .i64 0) = SV.d (.int .i64 (firstF.go (nodeP p (limF v)) e.kids)))))
          [.d (.bool v), (.d (.int .i64 0))] [(Box.vals (Box.cells (cEx e.op e.a e.rel e.b nm e.w kd))), (Box.vals (Box.cells (cPol p)))] := by
      refine loopP_inv (fun i => firstF.go (nodeP p (limF v)) (e.kids.take i) = 0) (fun i => [.d (.bool v), .d (.int .i64 ((i : Nat) : Int))]) (fun i => [cEx e.op e.a e.rel e.b nm e.w kd, cPol p]) L.length rfl (fun i hi hJ I hI => ?_) (fun hJ I => ?_)
      · simp only [sS, true_and, List.map_cons, List.map_nil, vget, bget, List.getD_cons_zero, List.getD_cons_succ, Box.vals, dI, Nat.le_refl, sP, hd.len]
        refine And.intro (fun _ => ?_) (fun h => absurd h (by simp; omega))
        obtain ⟨y, hy⟩ := get_some hi
        obtain ⟨k, hky⟩ := get_some (show i < e.kids.length by omega)
        have hek := hk i k y hky hy
        have hlt := Xp.kid_lt hky
        rw [hd.at hy]
        simp only [sS, true_and, List.map_cons, List.map_nil, vget, bget, List.getD_cons_zero, List.getD_cons_succ, Box.vals, dI, Nat.le_refl, sP, hek.load]
        refine callP_of (checkR1_holds p v n k y (by omega) hek) ?_
        simp only [sS, true_and, List.map_cons, List.map_nil, vget, bget, List.getD_cons_zero, List.getD_cons_succ, Box.vals, dI, Nat.le_refl]
        have ht := firsts_take hky hJ
        refine And.intro (fun h' => ?_) (fun h' => ?_)
        · have h1 : firstF (nodeP p (limF v)) k ≠ 0 := by simpa using h'
          rw [firsts_ne (i := i + 1) (by rw [ht]; exact h1), ht]
        · have h1 : firstF (nodeP p (limF v)) k = 0 := by simpa using h'
          refine bindO_to (add_up hi hcap) ?_
          exact hI (by rw [ht, h1])
      · simp only [sS, true_and, List.map_cons, List.map_nil, vget, bget, List.getD_cons_zero, List.getD_cons_succ, Box.vals, dI, Nat.le_refl, sP, hd.len]
        refine And.intro (fun h => absurd h (by simp)) (fun _ => ?_)
        rw [hl, List.take_length] at hJ
        rw [hJ]
    have e0 : nodeRF e false v = nodeF e false (limF v) := rfl
    rw [e0] at h1
    rw [firstF_eq]
    simp only [sS, true_and, List.map_cons, List.map_nil, vget, bget, List.getD_cons_zero, List.getD_cons_succ, Box.vals, dI, Nat.le_refl, sP] at hloop
    simp only [sS, true_and, List.map_cons, List.map_nil, vget, bget, List.getD_cons_zero, List.getD_cons_succ, Box.vals, dI, Nat.le_refl, sP]
    clear hwf hx hd hnm hk
    refine callP_of h1 ?_
    simp only [sS, true_and, List.map_cons, List.map_nil, vget, bget, List.getD_cons_zero, List.getD_cons_succ, Box.vals, dI, Nat.le_refl, sP]
    refine And.intro (fun h => ?_) (fun h => ?_)
    · have e1 : nodeP p (limF v) e = nodeF e false (limF v) := by rw [nodeP, if_pos h]
      rw [e1, if_pos h]
    have e1 : nodeP p (limF v) e = if e.op != 9 then 0 else if !insW e.w (allW (clip (symF p e.a))) then 3 else if eqW e.w zW then 2 else 0 := by rw [nodeP, if_neg (by rw [h]; decide)]
    refine And.intro (fun h9 => ?_) (fun h9 => ?_)
    · rw [if_neg (by rw [bne, h9]; decide)] at e1
      refine callP_of h3 ?_
      simp only [sS, true_and, List.map_cons, List.map_nil, vget, bget, List.getD_cons_zero, List.getD_cons_succ, Box.vals, dI, Nat.le_refl, sP]
      refine callP_of h4 ?_
      simp only [sS, true_and, List.map_cons, List.map_nil, vget, bget, List.getD_cons_zero, List.getD_cons_succ, Box.vals, dI, Nat.le_refl, sP]
      refine callP_of h5 ?_
      simp only [sS, true_and, List.map_cons, List.map_nil, vget, bget, List.getD_cons_zero, List.getD_cons_succ, Box.vals, dI, Nat.le_refl, sP]
      refine And.intro (fun h => ?_) (fun h => ?_)
      · rw [if_pos h] at e1
        rw [e1]
        rfl
      rw [if_neg (by rw [h]; decide)] at e1
      refine callP_of h6 ?_
      simp only [sS, true_and, List.map_cons, List.map_nil, vget, bget, List.getD_cons_zero, List.getD_cons_succ, Box.vals, dI, Nat.le_refl, sP, listW_nil]
      refine And.intro (fun h => ?_) (fun h => ?_)
      · rw [if_pos h] at e1
        rw [e1]
        rfl
      · rw [if_neg (by rw [h]; decide)] at e1
        rw [e1]
        exact hloop
    · rw [if_pos (by rw [bne, h9]; decide)] at e1
      rw [e1]
      exact hloop
theorem checkR_holds {e : Xp} {x : D} (hx : IsE e x) (p : PolD) (v : Bool) : Holds Tryz.prog gl 12 [.d x, .d (dPol p), .d (.bool v)] (.d (.int .i64 (checkF p v e))) := by
  refine holds_of_body hm1 (enters_some (fn := Tryz.f12) (by kernel_rfl) (by kernel_rfl) (by kernel_rfl)) (h := h12) ?_; rw [body12]; intro hwf
  have h1 := levels17_holds e.lv e x 12 (Nat.le_refl _) hx (by decide)
  have h2 := checkR1_holds p v e.lv e x (Nat.le_refl _) hx
  obtain ⟨cs, c1, c2, c3, c4⟩ := hx.cells
  simp only [sS, true_and, List.map_cons, List.map_nil, vget, bget, List.getD_cons_zero, List.getD_cons_succ, Box.vals, dI, Nat.le_refl, sP, c1, c2, c3]
  refine callP_of h1 ?_
  simp only [sS, true_and, List.map_cons, List.map_nil, vget, bget, List.getD_cons_zero, List.getD_cons_succ, Box.vals, dI, Nat.le_refl]
  refine And.intro (fun h => ?_) (fun h => ?_)
  · have : e.lv > 12 := by have := of_decide_eq_true h; omega
    rw [checkF, if_pos this]
  · have : ¬ e.lv > 12 := by have := of_decide_eq_false h; omega
    refine callP_of h2 ?_
    simp only [sS, true_and, List.map_cons, List.map_nil, vget, bget, List.getD_cons_zero, List.getD_cons_succ, Box.vals, dI, Nat.le_refl]
    rw [checkF, if_neg this]
end Go.Proofs.YtcnnhnjcnekhcaaGreat.Ab
/-
  CONSTRAINTS: Denied and Valid, both ways.
-/
namespace Go.Proofs.YtcnnhnjcnekhcaaGreat.Ab
open Go
theorem build_case2 (s t : CtxD) : buildD Tryz.prog 60 [(0, dCtx s), (1, dCtx t)] = some (dCase ⟨s, t, zC⟩) := by kernel_rfl
theorem build_case3 (s t r : CtxD) : buildD Tryz.prog 60 [(0, dCtx s), (1, dCtx t), (2, dCtx r)] = some (dCase ⟨s, t, r⟩) := by kernel_rfl
theorem parts_c2 (s t : CtxD) : partsS [(0, .v (.d (dCtx s))), (1, .v (.d (dCtx t)))] = some [(0, dCtx s), (1, dCtx t)] := rfl
theorem parts_c3 (s t r : CtxD) : partsS [(0, .v (.d (dCtx s))), (1, .v (.d (dCtx t))), (2, .v (.d (dCtx r)))] = some [(0, dCtx s), (1, dCtx t), (2, dCtx r)] := rfl
def denR (p : PolD) (cls : Int) (s t : CtxD) : SV := .tup [.d (dU (orP (blkF cls s t) p.cs)), .d (.int .i64 (orM (first (blkF cls s t) p.cs)))]
def valR (p : PolD) (cls : Int) (s t r : CtxD) : SV := .tup [.d (.bool (first (vioF cls s t r) p.cs).isNone), .d (.int .i64 (orM (first (vioF cls s t r) p.cs)))]
theorem den_step {p : CsD → Bool} {l : List CsD} {i : Nat} {c : CsD} (h : l[i]? = some c) (hp : p c = false) : orP p (l.take (i + 1)) = orP p (l.take i) ∧ first p (l.take (i + 1)) = first p (l.take i) := by
  rw [orP_take h, first_take h, hp]
  refine ⟨rfl, ?_⟩
  cases first p (l.take i) <;> rfl
theorem deniedC_holds (p : PolD) (hlv : ∀ (i : Nat) c, p.cs[i]? = some c → c.e.lv ≤ 1000) (cls : Int) (s t : CtxD) : Holds Tryz.prog gl 16 [.d (dPol p), .d (.int .i64 cls), .d (dCtx s), .d (dCtx t)] (denR p cls s t) := by
  refine holds_of_body hm1 (enters_some (fn := Tryz.f16) (by kernel_rfl) (by kernel_rfl) (by kernel_rfl)) (h := h16) ?_; rw [body16]; intro hwf
  simp only [sS, true_and, List.map_cons, List.map_nil, vget, bget, List.getD_cons_zero, List.getD_cons_succ, Box.vals, dI, Nat.le_refl, sP]
  refine loopP_count (fun i => [.d (.int .i64 cls), .d (dU (orP (blkF cls s t) (p.cs.take i))), .d (.int .i64 (orM (first (blkF cls s t) (p.cs.take i)))), .d p.csX, .d (.int .i64 (p.cs.length : Int)), .d (.int .i64 ((i : Nat) : Int))]) (fun i => [cPol p, cCtx s, cCtx t]) p.cs.length (fun i hi I hI => ?_) (fun I => ?_)
  · simp only [sS, true_and, List.map_cons, List.map_nil, vget, bget, List.getD_cons_zero, List.getD_cons_succ, Box.vals, dI, Nat.le_refl, sP]
    refine And.intro (fun _ => ?_) (fun h => absurd h (by simp; omega))
    obtain ⟨c, hc⟩ := get_some hi
    simp only [p.g_cs hc, sS, true_and, List.map_cons, List.map_nil, vget, bget, List.getD_cons_zero, List.getD_cons_succ, Box.vals, dI, Nat.le_refl, sP, sW, Nat.zero_add, add_up hi p.csM, parts_c2, build_case2]
    have hno : blkF cls s t c = false → I [.d (.int .i64 cls), .d (dU (orP (blkF cls s t) (p.cs.take i))), .d (.int .i64 (orM (first (blkF cls s t) (p.cs.take i)))), .d p.csX, .d (.int .i64 (p.cs.length : Int)), .d (.int .i64 ((i + 1 : Nat) : Int))] [cPol p, cCtx s, cCtx t] := fun h => by
      obtain ⟨e1, e2⟩ := den_step hc h
      rw [e1, e2] at hI
      exact hI
    refine And.intro (fun h1 => ?_) (fun h1 => ?_)
    · exact hno (by rw [blkF, h1]; rfl)
    refine And.intro (fun h2 => ?_) (fun h2 => ?_)
    · exact hno (by
        have : (c.cls == cls) = false := by simpa [bne] using h2
        rw [blkF, this, Bool.false_and, Bool.and_false])
    have h2' : (c.cls == cls) = true := by simpa [bne] using h2
    refine callP_of (evalC_holds c.h _ (hlv i c hc)) ?_
    simp only [sS, true_and, List.map_cons, List.map_nil, vget, bget, List.getD_cons_zero, List.getD_cons_succ, Box.vals, dI, Nat.le_refl]
    refine And.intro (fun h3 => ?_) (fun h3 => ?_)
    · have h3' : evF c.e ⟨s, t, zC⟩ = true := h3
      exact hno (by rw [blkF, h3', Bool.not_true, Bool.and_false, Bool.and_false])
    have hb : blkF cls s t c = true := by
      have h3' : evF c.e ⟨s, t, zC⟩ = false := h3
      rw [blkF, h1, h2', h3']; rfl
    have e1 : orP (blkF cls s t) (p.cs.take (i + 1)) = orP (blkF cls s t) (p.cs.take i) ||| c.perms := by rw [orP_take hc, if_pos hb]
    have e2 := first_take (p := blkF cls s t) hc
    rw [e1, e2] at hI
    refine And.intro (fun h4 => ?_) (fun h4 => ?_)
    · rw [orM_neg] at h4
      cases hf : first (blkF cls s t) (p.cs.take i) with
      | some k => rw [hf] at h4; cases h4
      | none =>
        rw [hf] at hI
        simp only [hb, ↓reduceIte] at hI
        exact hI
    · rw [orM_neg] at h4
      cases hf : first (blkF cls s t) (p.cs.take i) with
      | none => rw [hf] at h4; cases h4
      | some k =>
        rw [hf] at hI
        exact hI
  · simp only [sS, true_and, List.map_cons, List.map_nil, vget, bget, List.getD_cons_zero, List.getD_cons_succ, Box.vals, dI, Nat.le_refl, sP]
    refine And.intro (fun h => absurd h (by simp)) (fun _ => ?_)
    rw [List.take_length]
    rfl
theorem deniedR_holds (p : PolD) (cls : Int) (s t : CtxD) : Holds Tryz.prog gl 18 [.d (dPol p), .d (.int .i64 cls), .d (dCtx s), .d (dCtx t)] (denR p cls s t) := by
  refine holds_of_body hm1 (enters_some (fn := Tryz.f18) (by kernel_rfl) (by kernel_rfl) (by kernel_rfl)) (h := h18) ?_; rw [body18]; intro hwf
  simp only [sS, true_and, List.map_cons, List.map_nil, vget, bget, List.getD_cons_zero, List.getD_cons_succ, Box.vals, dI, Nat.le_refl, sP]
  refine loopP_count (fun i => [.d (.int .i64 cls), .d (dU (orP (blkF cls s t) (p.cs.take i))), .d (.int .i64 (orM (first (blkF cls s t) (p.cs.take i)))), .d (.int .i64 ((i : Nat) : Int))]) (fun i => [cPol p, cCtx s, cCtx t]) p.cs.length (fun i hi I hI => ?_) (fun I => ?_)
  · simp only [sS, true_and, List.map_cons, List.map_nil, vget, bget, List.getD_cons_zero, List.getD_cons_succ, Box.vals, dI, Nat.le_refl, sP]
    refine And.intro (fun _ => ?_) (fun h => absurd h (by simp; omega))
    obtain ⟨c, hc⟩ := get_some hi
    simp only [p.g_cs hc, sS, true_and, List.map_cons, List.map_nil, vget, bget, List.getD_cons_zero, List.getD_cons_succ, Box.vals, dI, Nat.le_refl, sP, sW, Nat.zero_add, add_up hi p.csM, parts_c2, build_case2]
    have hno : blkF cls s t c = false → I [.d (.int .i64 cls), .d (dU (orP (blkF cls s t) (p.cs.take i))), .d (.int .i64 (orM (first (blkF cls s t) (p.cs.take i)))), .d (.int .i64 ((i + 1 : Nat) : Int))] [cPol p, cCtx s, cCtx t] := fun h => by
      obtain ⟨e1, e2⟩ := den_step hc h
      rw [e1, e2] at hI
      exact hI
    refine And.intro (fun h1 => ?_) (fun h1 => ?_)
    · exact hno (by rw [blkF, h1]; rfl)
    refine And.intro (fun h2 => ?_) (fun h2 => ?_)
    · exact hno (by
        have : (c.cls == cls) = false := by simpa [bne] using h2
        rw [blkF, this, Bool.false_and, Bool.and_false])
    have h2' : (c.cls == cls) = true := by simpa [bne] using h2
    refine callP_of (evalR_holds c.h _) ?_
    simp only [sS, true_and, List.map_cons, List.map_nil, vget, bget, List.getD_cons_zero, List.getD_cons_succ, Box.vals, dI, Nat.le_refl]
    refine And.intro (fun h3 => ?_) (fun h3 => ?_)
    · have h3' : evF c.e ⟨s, t, zC⟩ = true := h3
      exact hno (by rw [blkF, h3', Bool.not_true, Bool.and_false, Bool.and_false])
    have hb : blkF cls s t c = true := by
      have h3' : evF c.e ⟨s, t, zC⟩ = false := h3
      rw [blkF, h1, h2', h3']; rfl
    have e1 : orP (blkF cls s t) (p.cs.take (i + 1)) = orP (blkF cls s t) (p.cs.take i) ||| c.perms := by rw [orP_take hc, if_pos hb]
    have e2 := first_take (p := blkF cls s t) hc
    rw [e1, e2] at hI
    refine And.intro (fun h4 => ?_) (fun h4 => ?_)
    · rw [orM_neg] at h4
      cases hf : first (blkF cls s t) (p.cs.take i) with
      | some k => rw [hf] at h4; cases h4
      | none =>
        rw [hf] at hI
        simp only [hb, ↓reduceIte] at hI
        exact hI
    · rw [orM_neg] at h4
      cases hf : first (blkF cls s t) (p.cs.take i) with
      | none => rw [hf] at h4; cases h4
      | some k =>
        rw [hf] at hI
        exact hI
  · simp only [sS, true_and, List.map_cons, List.map_nil, vget, bget, List.getD_cons_zero, List.getD_cons_succ, Box.vals, dI, Nat.le_refl, sP]
    refine And.intro (fun h => absurd h (by simp)) (fun _ => ?_)
    rw [List.take_length]
    rfl
theorem validC_holds (p : PolD) (hlv : ∀ (i : Nat) c, p.cs[i]? = some c → c.e.lv ≤ 1000) (cls : Int) (s t r : CtxD) : Holds Tryz.prog gl 19 [.d (dPol p), .d (.int .i64 cls), .d (dCtx s), .d (dCtx t), .d (dCtx r)] (valR p cls s t r) := by
  refine holds_of_body hm1 (enters_some (fn := Tryz.f19) (by kernel_rfl) (by kernel_rfl) (by kernel_rfl)) (h := h19) ?_; rw [body19]; intro hwf
  simp only [sS, true_and, List.map_cons, List.map_nil, vget, bget, List.getD_cons_zero, List.getD_cons_succ, Box.vals, dI, Nat.le_refl, sP]
  refine loopP_inv (fun i => ∀ (j : Nat) c, j < i → p.cs[j]? = some c → vioF cls s t r c = false) (fun i => [.d (.int .i64 cls), .d p.csX, .d (.int .i64 (p.cs.length : Int)), .d (.int .i64 ((i : Nat) : Int))]) (fun i => [cPol p, cCtx s, cCtx t, cCtx r]) p.cs.length (fun j c hj => by omega) (fun i hi hJ I hI => ?_) (fun hJ I => ?_)
  · simp only [sS, true_and, List.map_cons, List.map_nil, vget, bget, List.getD_cons_zero, List.getD_cons_succ, Box.vals, dI, Nat.le_refl, sP]
    refine And.intro (fun _ => ?_) (fun h => absurd h (by simp; omega))
    obtain ⟨c, hc⟩ := get_some hi
    simp only [p.g_cs hc, sS, true_and, List.map_cons, List.map_nil, vget, bget, List.getD_cons_zero, List.getD_cons_succ, Box.vals, dI, Nat.le_refl, sP, sW, Nat.zero_add, add_up hi p.csM, parts_c3, build_case3]
    have hno : vioF cls s t r c = false → I [.d (.int .i64 cls), .d p.csX, .d (.int .i64 (p.cs.length : Int)), .d (.int .i64 ((i + 1 : Nat) : Int))] [cPol p, cCtx s, cCtx t, cCtx r] := fun h => hI fun j c' hj hc' => by
      rcases Nat.lt_or_ge j i with h2 | h2
      · exact hJ j c' h2 hc'
      · have : j = i := by omega
        subst this
        rw [hc] at hc'
        cases hc'
        exact h
    refine And.intro (fun h1 => ?_) (fun h1 => hno (by rw [vioF, h1]; rfl))
    refine And.intro (fun h2 => ?_) (fun h2 => hno (by rw [vioF, h2, Bool.false_and, Bool.and_false]))
    refine callP_of (evalC_holds c.h _ (hlv i c hc)) ?_
    simp only [sS, true_and, List.map_cons, List.map_nil, vget, bget, List.getD_cons_zero, List.getD_cons_succ, Box.vals, dI, Nat.le_refl]
    refine And.intro (fun h3 => ?_) (fun h3 => ?_)
    · have h3' : (!evF c.e ⟨s, t, r⟩) = true := h3
      have hb : vioF cls s t r c = true := by rw [vioF, h1, h2, h3']; rfl
      rw [valR, first_at hc hb hJ]
      rfl
    · have h3' : (!evF c.e ⟨s, t, r⟩) = false := h3
      exact hno (by rw [vioF, h3', Bool.and_false, Bool.and_false])
  · simp only [sS, true_and, List.map_cons, List.map_nil, vget, bget, List.getD_cons_zero, List.getD_cons_succ, Box.vals, dI, Nat.le_refl, sP]
    refine And.intro (fun h => absurd h (by simp)) (fun _ => ?_)
    rw [valR, first_none fun j c hc => hJ j c (List.getElem?_eq_some_iff.1 hc).1 hc]
    rfl
theorem validR_holds (p : PolD) (cls : Int) (s t r : CtxD) : Holds Tryz.prog gl 20 [.d (dPol p), .d (.int .i64 cls), .d (dCtx s), .d (dCtx t), .d (dCtx r)] (valR p cls s t r) := by
  refine holds_of_body hm1 (enters_some (fn := Tryz.f20) (by kernel_rfl) (by kernel_rfl) (by kernel_rfl)) (h := h20) ?_; rw [body20]; intro hwf
  simp only [sS, true_and, List.map_cons, List.map_nil, vget, bget, List.getD_cons_zero, List.getD_cons_succ, Box.vals, dI, Nat.le_refl, sP]
  refine loopP_inv (fun i => ∀ (j : Nat) c, j < i → p.cs[j]? = some c → vioF cls s t r c = false) (fun i => [.d (.int .i64 cls), .d (.int .i64 ((i : Nat) : Int))]) (fun i => [cPol p, cCtx s, cCtx t, cCtx r]) p.cs.length (fun j c hj => by omega) (fun i hi hJ I hI => ?_) (fun hJ I => ?_)
  · simp only [sS, true_and, List.map_cons, List.map_nil, vget, bget, List.getD_cons_zero, List.getD_cons_succ, Box.vals, dI, Nat.le_refl, sP]
    refine And.intro (fun _ => ?_) (fun h => absurd h (by simp; omega))
    obtain ⟨c, hc⟩ := get_some hi
    simp only [p.g_cs hc, sS, true_and, List.map_cons, List.map_nil, vget, bget, List.getD_cons_zero, List.getD_cons_succ, Box.vals, dI, Nat.le_refl, sP, sW, Nat.zero_add, add_up hi p.csM, parts_c3, build_case3]
    have hno : vioF cls s t r c = false → I [.d (.int .i64 cls), .d (.int .i64 ((i + 1 : Nat) : Int))] [cPol p, cCtx s, cCtx t, cCtx r] := fun h => hI fun j c' hj hc' => by
      rcases Nat.lt_or_ge j i with h2 | h2
      · exact hJ j c' h2 hc'
      · have : j = i := by omega
        subst this
        rw [hc] at hc'
        cases hc'
        exact h
    refine And.intro (fun h1 => ?_) (fun h1 => hno (by rw [vioF, h1]; rfl))
    refine And.intro (fun h2 => ?_) (fun h2 => hno (by rw [vioF, h2, Bool.false_and, Bool.and_false]))
    refine callP_of (evalR_holds c.h _) ?_
    simp only [sS, true_and, List.map_cons, List.map_nil, vget, bget, List.getD_cons_zero, List.getD_cons_succ, Box.vals, dI, Nat.le_refl]
    refine And.intro (fun h3 => ?_) (fun h3 => ?_)
    · have h3' : (!evF c.e ⟨s, t, r⟩) = true := h3
      have hb : vioF cls s t r c = true := by rw [vioF, h1, h2, h3']; rfl
      rw [valR, first_at hc hb hJ]
      rfl
    · have h3' : (!evF c.e ⟨s, t, r⟩) = false := h3
      exact hno (by rw [vioF, h3', Bool.and_false, Bool.and_false])
  · simp only [sS, true_and, List.map_cons, List.map_nil, vget, bget, List.getD_cons_zero, List.getD_cons_succ, Box.vals, dI, Nat.le_refl, sP]
    refine And.intro (fun h => absurd h (by simp)) (fun _ => ?_)
    rw [valR, first_none fun j c hc => hJ j c (List.getElem?_eq_some_iff.1 hc).1 hc]
    rfl
end Go.Proofs.YtcnnhnjcnekhcaaGreat.Ab
