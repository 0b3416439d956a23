/-
  NAMES: what a name means, both ways.
-/
import Derived.Test.YtcnnhnjcnekhcaaGreatQa
import Derived.Test.YtcnnhnjcnekhcaaGreatVb
import Derived.Test.YtcnnhnjcnekhcaaGreatTp
set_option linter.unusedVariables false
set_option linter.unusedSimpArgs false
namespace Go.Proofs.YtcnnhnjcnekhcaaGreat.Ab
open Go
theorem first_get {α : Type} {p : α → Bool} : ∀ {l : List α} {i : Nat}, first p l = some i → ∃ x, l[i]? = some x ∧ p x = true
  | [], i, h => by simp [first] at h
  | x :: l, i, h => by
    rw [first] at h
    by_cases hx : p x = true
    · rw [if_pos hx] at h; cases h; exact ⟨x, rfl, hx⟩
    · rw [if_neg hx] at h
      cases hf : first p l with
      | none => rw [hf] at h; cases h
      | some j =>
        rw [hf] at h
        simp only [Option.map_some, Option.some.injEq] at h
        subst h
        obtain ⟨y, h1, h2⟩ := first_get hf
        exact ⟨y, by simpa using h1, h2⟩
theorem first_no {α : Type} {p : α → Bool} : ∀ {l : List α}, first p l = none → ∀ (j : Nat) y, l[j]? = some y → p y = false
  | [], _, j, y, h => by simp at h
  | x :: l, h, j, y, hy => by
    rw [first] at h
    by_cases hx : p x = true
    · rw [if_pos hx] at h; cases h
    · rw [if_neg hx] at h
      have h' : first p l = none := by
        cases hf : first p l with
        | none => rfl
        | some k => rw [hf] at h; cases h
      cases j with
      | zero => simp at hy; subst hy; simpa using hx
      | succ j => exact first_no h' j y (by simpa using hy)
def oneF (i : Nat) : Nat → BitVec 64 := ofW [(i : Int)] zW
/-- what a name means -/
def lookF (p : PolD) (a : Int) (s : List UInt8) : Option (Nat → BitVec 64) :=
  if sortI a == 0 then (first (fun u => UsD.name u == s) p.us).map oneF
  else if sortI a == 1 then (first (fun r => RoD.name r == s) p.ro).map oneF
  else match first (fun t => TyD.name t == s || hasS s t.als) p.ty with
    | some i => some (oneF i)
    | none => match first (fun x => AtD.name x == s) p.at_ with
      | some i => (p.at_[i]?).map AtD.w
      | none => none
def lookR (p : PolD) (a : Int) (s : List UInt8) : SV := .tup [.d (dSet ((lookF p a s).getD zW)), .d (.bool (lookF p a s).isSome)]
theorem load_strR (s : List UInt8) : loadV false 1 (.ref [.d (.str s)] 0) = some (.d (.str s)) := rfl
theorem dem_refS (s : List UInt8) : demote (.ref [.d (.str s)] 0) = .ref [.d (.str s)] 0 := rfl
theorem dem_clo (f : Fn) (a b : List SV) : demote (.clo f a b) = .clo f a b := rfl
theorem cells_str (s : List UInt8) : cellsV (.d (.str s)) = some [.d (.str s)] := rfl
theorem map_str (s : List UInt8) : List.map demote [SV.d (.str s)] = [.d (.str s)] := rfl
set_option maxRecDepth 4000 in
theorem index_holds (l : List (List UInt8)) {x : D} (hx : IsD 1 (dStrs l) x) (hl : l.length ≤ maxLen) (s : List UInt8) : Holds Tryz.prog gl 140 [.d x, .d (.str s)] (.d (.int .i64 (orM (first (fun t => s == t) l)))) := by
  refine holds_of_body hm1 (enters_some (fn := Tryz.f140) (by kernel_rfl) (by kernel_rfl) (by kernel_rfl)) (h := h140) ?_; rw [body140]; intro hwf
  simp only [sS, true_and, List.map_cons, List.map_nil, vget, bget, List.getD_cons_zero, List.getD_cons_succ, Box.vals, dI, Nat.le_refl, hx.len, len_strs]
  refine loopP_inv (fun i => ∀ (j : Nat) k, j < i → l[j]? = some k → (s == k) = false) (fun i => [.d x, .d (.str s), .d (.int .i64 (l.length : Int)), .d (.int .i64 ((i : Nat) : Int))]) (fun i => []) l.length (fun j k hj _ => by omega) (fun i hi hJ I hI => ?_) (fun hJ I => ?_)
  · simp only [sS, true_and, List.map_cons, List.map_nil, vget, bget, List.getD_cons_zero, List.getD_cons_succ, Box.vals, dI, Nat.le_refl]
    refine And.intro (fun _ => ?_) (fun h => absurd h (by simp; omega))
    obtain ⟨t, ht⟩ := get_some hi
    have ht' : (dStrs l)[i]? = some (.str t) := by rw [dStrs, List.getElem?_map, ht]; rfl
    simp only [hx.at ht', sS, true_and, List.map_cons, List.map_nil, vget, bget, List.getD_cons_zero, List.getD_cons_succ, Box.vals, dI, Nat.le_refl, sW, Nat.zero_add, eql_str]
    refine And.intro (fun h => ?_) (fun h => ?_)
    · rw [first_at ht (by simpa using h) hJ]; rfl
    · refine bindO_to (add_up hi hl) ?_
      refine hI fun j k' hj hk' => ?_
      rcases Nat.lt_or_ge j i with h2 | h2
      · exact hJ j k' h2 hk'
      · have : j = i := by omega
        subst this
        rw [ht] at hk'
        cases hk'
        simpa using h
  · simp only [sS, true_and, List.map_cons, List.map_nil, vget, bget, List.getD_cons_zero, List.getD_cons_succ, Box.vals, dI, Nat.le_refl]
    refine And.intro (fun h => absurd h (by simp)) (fun _ => ?_)
    rw [first_none fun j k hk' => hJ j k (List.getElem?_eq_some_iff.1 hk').1 hk']
    rfl
theorem contains_holds (l : List (List UInt8)) {x : D} (hx : IsD 1 (dStrs l) x) (hl : l.length ≤ maxLen) (s : List UInt8) : Holds Tryz.prog gl 121 [.d x, .d (.str s)] (.d (.bool (hasS s l))) := by
  refine holds_of_body hm1 (enters_some (fn := Tryz.f121) (by kernel_rfl) (by kernel_rfl) (by kernel_rfl)) (h := h121) ?_; rw [body121]; intro hwf
  simp only [sS, true_and, List.map_cons, List.map_nil, vget, bget, List.getD_cons_zero, List.getD_cons_succ, Box.vals, dI, Nat.le_refl]
  refine callP_of (index_holds l hx hl s) ?_
  simp only [sS, true_and, List.map_cons, List.map_nil, vget, bget, List.getD_cons_zero, List.getD_cons_succ, Box.vals, dI, Nat.le_refl, orM_geq]
  have : (first (fun t => s == t) l).isSome = hasS s l := by
    cases hf : first (fun t => s == t) l with
    | some i =>
      obtain ⟨t, h1, h2⟩ := first_get hf
      have e : s = t := by simpa using h2
      rw [hasS_get h1 (by rw [e]; simp)]; rfl
    | none =>
      rw [hasS_none fun i t ht => ?_]; rfl
      cases hs : (t == s) with
      | false => rfl
      | true =>
        exfalso
        have hne : ∀ (j : Nat) k, l[j]? = some k → (s == k) = false := first_no hf
        have h3 := hne i t ht
        have e : t = s := by simpa using hs
        rw [e] at h3
        simp at h3
  rw [this]
set_option maxRecDepth 4000 in
theorem indexUsD_holds (p : PolD) (s : List UInt8) : Holds Tryz.prog gl 114 [.d p.usX, .clo (.func 115) [] [.ref [.d (.str s)] 0]] (.d (.int .i64 (orM (first (fun u => UsD.name u == s) p.us)))) := by
  have hp : ∀ (i : Nat) t, p.us[i]? = some t → Holds Tryz.prog gl 115 [.d t.enc, .ref [.d (.str s)] 0] (.d (.bool ((fun u => UsD.name u == s) t))) := by
    intro i t ht
    refine holds_of_body hm1 (enters_some (fn := Tryz.f115) (by kernel_rfl) (by kernel_rfl) (by kernel_rfl)) (h := h115) ?_; rw [body115]; intro hwf
    simp only [sS, true_and, List.map_cons, List.map_nil, vget, bget, List.getD_cons_zero, List.getD_cons_succ, Box.vals, dI, Nat.le_refl, sP, sW, Nat.zero_add, load_strR, dem_refS, eql_str]

  refine holds_of_body hm1 (enters_some (fn := Tryz.f114) (by kernel_rfl) (by kernel_rfl) (by kernel_rfl)) (h := h114) ?_; rw [body114]; intro hwf
  simp only [sS, true_and, List.map_cons, List.map_nil, vget, bget, List.getD_cons_zero, List.getD_cons_succ, Box.vals, dI, Nat.le_refl, sP, dem_clo]
  refine loopP_inv (fun i => ∀ (j : Nat) k, j < i → p.us[j]? = some k → (fun u => UsD.name u == s) k = false) (fun i => [.d p.usX, .clo (.func 115) [] [.ref [.d (.str s)] 0], .d (.int .i64 (p.us.length : Int)), .d (.int .i64 ((i : Nat) : Int))]) (fun i => []) p.us.length (fun j k hj _ => by omega) (fun i hi hJ I hI => ?_) (fun hJ I => ?_)
  · simp only [sS, true_and, List.map_cons, List.map_nil, vget, bget, List.getD_cons_zero, List.getD_cons_succ, Box.vals, dI, Nat.le_refl, dem_clo]
    refine And.intro (fun _ => ?_) (fun h => absurd h (by simp; omega))
    obtain ⟨t, ht⟩ := get_some hi
    simp only [p.g_us ht, sS, true_and, List.map_cons, List.map_nil, vget, bget, List.getD_cons_zero, List.getD_cons_succ, Box.vals, dI, Nat.le_refl, sP, dem_clo, withFn_clo]
    refine callP_of (hp i t ht) ?_
    simp only [sS, true_and, List.map_cons, List.map_nil, vget, bget, List.getD_cons_zero, List.getD_cons_succ, Box.vals, dI, Nat.le_refl]
    refine And.intro (fun h => ?_) (fun h => ?_)
    · rw [first_at ht (by simpa using h) hJ]; rfl
    · refine bindO_to (add_up hi p.usM) ?_
      refine hI fun j k' hj hk' => ?_
      rcases Nat.lt_or_ge j i with h2 | h2
      · exact hJ j k' h2 hk'
      · have : j = i := by omega
        subst this
        rw [ht] at hk'
        cases hk'
        simpa using h
  · simp only [sS, true_and, List.map_cons, List.map_nil, vget, bget, List.getD_cons_zero, List.getD_cons_succ, Box.vals, dI, Nat.le_refl]
    refine And.intro (fun h => absurd h (by simp)) (fun _ => ?_)
    rw [first_none fun j k hk' => hJ j k (List.getElem?_eq_some_iff.1 hk').1 hk']
    rfl
set_option maxRecDepth 4000 in
theorem indexRoD_holds (p : PolD) (s : List UInt8) : Holds Tryz.prog gl 117 [.d p.roX, .clo (.func 118) [] [.ref [.d (.str s)] 0]] (.d (.int .i64 (orM (first (fun r => RoD.name r == s) p.ro)))) := by
  have hp : ∀ (i : Nat) t, p.ro[i]? = some t → Holds Tryz.prog gl 118 [.d t.enc, .ref [.d (.str s)] 0] (.d (.bool ((fun r => RoD.name r == s) t))) := by
    intro i t ht
    refine holds_of_body hm1 (enters_some (fn := Tryz.f118) (by kernel_rfl) (by kernel_rfl) (by kernel_rfl)) (h := h118) ?_; rw [body118]; intro hwf
    simp only [sS, true_and, List.map_cons, List.map_nil, vget, bget, List.getD_cons_zero, List.getD_cons_succ, Box.vals, dI, Nat.le_refl, sP, sW, Nat.zero_add, load_strR, dem_refS, eql_str]

  refine holds_of_body hm1 (enters_some (fn := Tryz.f117) (by kernel_rfl) (by kernel_rfl) (by kernel_rfl)) (h := h117) ?_; rw [body117]; intro hwf
  simp only [sS, true_and, List.map_cons, List.map_nil, vget, bget, List.getD_cons_zero, List.getD_cons_succ, Box.vals, dI, Nat.le_refl, sP, dem_clo]
  refine loopP_inv (fun i => ∀ (j : Nat) k, j < i → p.ro[j]? = some k → (fun r => RoD.name r == s) k = false) (fun i => [.d p.roX, .clo (.func 118) [] [.ref [.d (.str s)] 0], .d (.int .i64 (p.ro.length : Int)), .d (.int .i64 ((i : Nat) : Int))]) (fun i => []) p.ro.length (fun j k hj _ => by omega) (fun i hi hJ I hI => ?_) (fun hJ I => ?_)
  · simp only [sS, true_and, List.map_cons, List.map_nil, vget, bget, List.getD_cons_zero, List.getD_cons_succ, Box.vals, dI, Nat.le_refl, dem_clo]
    refine And.intro (fun _ => ?_) (fun h => absurd h (by simp; omega))
    obtain ⟨t, ht⟩ := get_some hi
    simp only [p.g_ro ht, sS, true_and, List.map_cons, List.map_nil, vget, bget, List.getD_cons_zero, List.getD_cons_succ, Box.vals, dI, Nat.le_refl, sP, dem_clo, withFn_clo]
    refine callP_of (hp i t ht) ?_
    simp only [sS, true_and, List.map_cons, List.map_nil, vget, bget, List.getD_cons_zero, List.getD_cons_succ, Box.vals, dI, Nat.le_refl]
    refine And.intro (fun h => ?_) (fun h => ?_)
    · rw [first_at ht (by simpa using h) hJ]; rfl
    · refine bindO_to (add_up hi p.roM) ?_
      refine hI fun j k' hj hk' => ?_
      rcases Nat.lt_or_ge j i with h2 | h2
      · exact hJ j k' h2 hk'
      · have : j = i := by omega
        subst this
        rw [ht] at hk'
        cases hk'
        simpa using h
  · simp only [sS, true_and, List.map_cons, List.map_nil, vget, bget, List.getD_cons_zero, List.getD_cons_succ, Box.vals, dI, Nat.le_refl]
    refine And.intro (fun h => absurd h (by simp)) (fun _ => ?_)
    rw [first_none fun j k hk' => hJ j k (List.getElem?_eq_some_iff.1 hk').1 hk']
    rfl
set_option maxRecDepth 4000 in
theorem indexTyD_holds (p : PolD) (ha : ∀ t ∈ p.ty, t.als.length ≤ 4) (s : List UInt8) : Holds Tryz.prog gl 119 [.d p.tyX, .clo (.func 120) [] [.ref [.d (.str s)] 0]] (.d (.int .i64 (orM (first (fun t => TyD.name t == s || hasS s t.als) p.ty)))) := by
  have hp : ∀ (i : Nat) t, p.ty[i]? = some t → Holds Tryz.prog gl 120 [.d t.enc, .ref [.d (.str s)] 0] (.d (.bool ((fun t => TyD.name t == s || hasS s t.als) t))) := by
    intro i t ht
    refine holds_of_body hm1 (enters_some (fn := Tryz.f120) (by kernel_rfl) (by kernel_rfl) (by kernel_rfl)) (h := h120) ?_; rw [body120]; intro hwf
    simp only [sS, true_and, List.map_cons, List.map_nil, vget, bget, List.getD_cons_zero, List.getD_cons_succ, Box.vals, dI, Nat.le_refl, sP, sW, Nat.zero_add, load_strR, dem_refS, eql_str]
    repeat' first | with_reducible refine And.intro (fun h => ?_) (fun h => ?_) | (with_reducible refine callP_of (contains_holds t.als t.alsH (Nat.le_trans (ha t (List.mem_of_getElem? ht)) (by decide)) s) ?_; simp only [sS, true_and, List.map_cons, List.map_nil, vget, bget, List.getD_cons_zero, List.getD_cons_succ, Box.vals, dI, Nat.le_refl])
    all_goals simp_all
  refine holds_of_body hm1 (enters_some (fn := Tryz.f119) (by kernel_rfl) (by kernel_rfl) (by kernel_rfl)) (h := h119) ?_; rw [body119]; intro hwf
  simp only [sS, true_and, List.map_cons, List.map_nil, vget, bget, List.getD_cons_zero, List.getD_cons_succ, Box.vals, dI, Nat.le_refl, sP, dem_clo]
  refine loopP_inv (fun i => ∀ (j : Nat) k, j < i → p.ty[j]? = some k → (fun t => TyD.name t == s || hasS s t.als) k = false) (fun i => [.d p.tyX, .clo (.func 120) [] [.ref [.d (.str s)] 0], .d (.int .i64 (p.ty.length : Int)), .d (.int .i64 ((i : Nat) : Int))]) (fun i => []) p.ty.length (fun j k hj _ => by omega) (fun i hi hJ I hI => ?_) (fun hJ I => ?_)
  · simp only [sS, true_and, List.map_cons, List.map_nil, vget, bget, List.getD_cons_zero, List.getD_cons_succ, Box.vals, dI, Nat.le_refl, dem_clo]
    refine And.intro (fun _ => ?_) (fun h => absurd h (by simp; omega))
    obtain ⟨t, ht⟩ := get_some hi
    simp only [p.g_ty ht, sS, true_and, List.map_cons, List.map_nil, vget, bget, List.getD_cons_zero, List.getD_cons_succ, Box.vals, dI, Nat.le_refl, sP, dem_clo, withFn_clo]
    refine callP_of (hp i t ht) ?_
    simp only [sS, true_and, List.map_cons, List.map_nil, vget, bget, List.getD_cons_zero, List.getD_cons_succ, Box.vals, dI, Nat.le_refl]
    refine And.intro (fun h => ?_) (fun h => ?_)
    · rw [first_at ht (by simpa using h) hJ]; rfl
    · refine bindO_to (add_up hi p.tyM) ?_
      refine hI fun j k' hj hk' => ?_
      rcases Nat.lt_or_ge j i with h2 | h2
      · exact hJ j k' h2 hk'
      · have : j = i := by omega
        subst this
        rw [ht] at hk'
        cases hk'
        simpa using h
  · simp only [sS, true_and, List.map_cons, List.map_nil, vget, bget, List.getD_cons_zero, List.getD_cons_succ, Box.vals, dI, Nat.le_refl]
    refine And.intro (fun h => absurd h (by simp)) (fun _ => ?_)
    rw [first_none fun j k hk' => hJ j k (List.getElem?_eq_some_iff.1 hk').1 hk']
    rfl
set_option maxRecDepth 4000 in
theorem indexAtD_holds (p : PolD) (s : List UInt8) : Holds Tryz.prog gl 122 [.d p.at_X, .clo (.func 123) [] [.ref [.d (.str s)] 0]] (.d (.int .i64 (orM (first (fun x => AtD.name x == s) p.at_)))) := by
  have hp : ∀ (i : Nat) t, p.at_[i]? = some t → Holds Tryz.prog gl 123 [.d t.enc, .ref [.d (.str s)] 0] (.d (.bool ((fun x => AtD.name x == s) t))) := by
    intro i t ht
    refine holds_of_body hm1 (enters_some (fn := Tryz.f123) (by kernel_rfl) (by kernel_rfl) (by kernel_rfl)) (h := h123) ?_; rw [body123]; intro hwf
    simp only [sS, true_and, List.map_cons, List.map_nil, vget, bget, List.getD_cons_zero, List.getD_cons_succ, Box.vals, dI, Nat.le_refl, sP, sW, Nat.zero_add, load_strR, dem_refS, eql_str]

  refine holds_of_body hm1 (enters_some (fn := Tryz.f122) (by kernel_rfl) (by kernel_rfl) (by kernel_rfl)) (h := h122) ?_; rw [body122]; intro hwf
  simp only [sS, true_and, List.map_cons, List.map_nil, vget, bget, List.getD_cons_zero, List.getD_cons_succ, Box.vals, dI, Nat.le_refl, sP, dem_clo]
  refine loopP_inv (fun i => ∀ (j : Nat) k, j < i → p.at_[j]? = some k → (fun x => AtD.name x == s) k = false) (fun i => [.d p.at_X, .clo (.func 123) [] [.ref [.d (.str s)] 0], .d (.int .i64 (p.at_.length : Int)), .d (.int .i64 ((i : Nat) : Int))]) (fun i => []) p.at_.length (fun j k hj _ => by omega) (fun i hi hJ I hI => ?_) (fun hJ I => ?_)
  · simp only [sS, true_and, List.map_cons, List.map_nil, vget, bget, List.getD_cons_zero, List.getD_cons_succ, Box.vals, dI, Nat.le_refl, dem_clo]
    refine And.intro (fun _ => ?_) (fun h => absurd h (by simp; omega))
    obtain ⟨t, ht⟩ := get_some hi
    simp only [p.g_at_ ht, sS, true_and, List.map_cons, List.map_nil, vget, bget, List.getD_cons_zero, List.getD_cons_succ, Box.vals, dI, Nat.le_refl, sP, dem_clo, withFn_clo]
    refine callP_of (hp i t ht) ?_
    simp only [sS, true_and, List.map_cons, List.map_nil, vget, bget, List.getD_cons_zero, List.getD_cons_succ, Box.vals, dI, Nat.le_refl]
    refine And.intro (fun h => ?_) (fun h => ?_)
    · rw [first_at ht (by simpa using h) hJ]; rfl
    · refine bindO_to (add_up hi p.at_M) ?_
      refine hI fun j k' hj hk' => ?_
      rcases Nat.lt_or_ge j i with h2 | h2
      · exact hJ j k' h2 hk'
      · have : j = i := by omega
        subst this
        rw [ht] at hk'
        cases hk'
        simpa using h
  · simp only [sS, true_and, List.map_cons, List.map_nil, vget, bget, List.getD_cons_zero, List.getD_cons_succ, Box.vals, dI, Nat.le_refl]
    refine And.intro (fun h => absurd h (by simp)) (fun _ => ?_)
    rw [first_none fun j k hk' => hJ j k (List.getElem?_eq_some_iff.1 hk').1 hk']
    rfl
theorem set_four (a b c d : SV) (w : Nat → BitVec 64) : setAt [a, b, c, d] 0 (cSet w) = cSet w := rfl
theorem parts_i1 (n : Int) : partsS [(0, .v (.d (.int .i64 n)))] = some [(0, .int .i64 n)] := rfl
theorem fit_i1 (n : Int) : partsFit 1 1 [(0, .int .i64 n)] = true := rfl
theorem el_i1 (z : D) (n : Int) : buildElems z [(0, .int .i64 n)] 1 0 = [.int .i64 n] := rfl
theorem of_one (n : Int) : Holds Tryz.prog gl 116 [.full 1 [.int .i64 n]] (.d (dSet (ofW [n] fun _ => 0))) := of_holds [n] .full (by simp)
theorem ofR_one (n : Int) : Holds Tryz.prog gl 62 [.full 1 [.int .i64 n]] (.d (dSet (ofW [n] fun _ => 0))) := ofR_holds [n] .full (by simp)
theorem one_none : ofW [(-1 : Int)] (fun _ => 0) = zW := by
  simp [ofW, withW]; rfl
set_option maxRecDepth 4000 in
theorem named_holds (p : PolD) (ha : ∀ t ∈ p.ty, t.als.length ≤ 4) (a : Int) (s : List UInt8) : Holds Tryz.prog gl 77 [.d (dPol p), .d (.int .i64 a), .d (.str s)] (lookR p a s) := by
  refine holds_of_body hm1 (enters_some (fn := Tryz.f77) (by kernel_rfl) (by kernel_rfl) (by kernel_rfl)) (h := h77) ?_; rw [body77]; intro hwf
  simp only [sS, true_and, List.map_cons, List.map_nil, vget, bget, List.getD_cons_zero, List.getD_cons_succ, Box.vals, dI, Nat.le_refl, sP, cells_str, List.length_singleton, map_str]
  refine callP_of (sort_holds a) ?_
  simp only [sS, true_and, List.map_cons, List.map_nil, vget, bget, List.getD_cons_zero, List.getD_cons_succ, Box.vals, dI, Nat.le_refl]
  refine And.intro (fun h0 => ?_) (fun h0 => ?_)
  · refine callP_of (indexUsD_holds p s) ?_
    simp only [sS, true_and, List.map_cons, List.map_nil, vget, bget, List.getD_cons_zero, List.getD_cons_succ, Box.vals, dI, Nat.le_refl, parts_i1, fit_i1, el_i1]
    refine callP_of (of_one _) ?_
    simp only [sS, true_and, List.map_cons, List.map_nil, vget, bget, List.getD_cons_zero, List.getD_cons_succ, Box.vals, dI, Nat.le_refl, cells_set, len_cSet, set_four, part_set, orM_geq]
    rw [lookR, lookF, if_pos h0]
    cases first (fun u => UsD.name u == s) p.us with
    | none => simp only [Option.map_none, orM, one_none]; rfl
    | some i => rfl
  refine And.intro (fun h1 => ?_) (fun h1 => ?_)
  · refine callP_of (indexRoD_holds p s) ?_
    simp only [sS, true_and, List.map_cons, List.map_nil, vget, bget, List.getD_cons_zero, List.getD_cons_succ, Box.vals, dI, Nat.le_refl, parts_i1, fit_i1, el_i1]
    refine callP_of (of_one _) ?_
    simp only [sS, true_and, List.map_cons, List.map_nil, vget, bget, List.getD_cons_zero, List.getD_cons_succ, Box.vals, dI, Nat.le_refl, cells_set, len_cSet, set_four, part_set, orM_geq]
    rw [lookR, lookF, if_neg (by simp [h0]), if_pos h1]
    cases first (fun u => RoD.name u == s) p.ro with
    | none => simp only [Option.map_none, orM, one_none]; rfl
    | some i => rfl
  rw [lookR, lookF, if_neg (by simp [h0]), if_neg (by simp [h1])]
  refine callP_of (indexTyD_holds p ha s) ?_
  simp only [sS, true_and, List.map_cons, List.map_nil, vget, bget, List.getD_cons_zero, List.getD_cons_succ, Box.vals, dI, Nat.le_refl, orM_geq]
  cases hf : first (fun t => TyD.name t == s || hasS s t.als) p.ty with
  | some i =>
    refine And.intro (fun _ => ?_) (fun h => by simp at h)
    simp only [parts_i1, fit_i1, el_i1, sS, true_and, List.map_cons, List.map_nil, vget, bget, List.getD_cons_zero, List.getD_cons_succ, Box.vals, dI, Nat.le_refl]
    refine callP_of (of_one _) ?_
    simp only [sS, true_and, List.map_cons, List.map_nil, vget, bget, List.getD_cons_zero, List.getD_cons_succ, Box.vals, dI, Nat.le_refl, cells_set, len_cSet, set_four, part_set]
    rfl
  | none =>
    refine And.intro (fun h => by simp at h) (fun _ => ?_)
    refine callP_of (indexAtD_holds p s) ?_
    simp only [sS, true_and, List.map_cons, List.map_nil, vget, bget, List.getD_cons_zero, List.getD_cons_succ, Box.vals, dI, Nat.le_refl, orM_neg]
    cases hg : first (fun x => AtD.name x == s) p.at_ with
    | none =>
      refine And.intro (fun _ => ?_) (fun h => by simp at h)
      simp only [build_zset, cells_set, len_cSet, set_four, part_set, sS, true_and, List.map_cons, List.map_nil, vget, bget, List.getD_cons_zero, List.getD_cons_succ, Box.vals, dI, Nat.le_refl]
      rfl
    | some i =>
      refine And.intro (fun h => by simp at h) (fun _ => ?_)
      obtain ⟨t, ht, _⟩ := first_get hg
      have e1 : orM (some i) = (i : Int) := rfl
      rw [e1]
      simp only [p.g_at_ ht, sS, true_and, List.map_cons, List.map_nil, vget, bget, List.getD_cons_zero, List.getD_cons_succ, Box.vals, dI, Nat.le_refl, sP, sW, Nat.zero_add, cells_set, len_cSet, set_four, part_set]
      rw [ht]
      rfl
set_option maxRecDepth 4000 in
theorem namedR_holds (p : PolD) (hal : ∀ t ∈ p.ty, t.als.length ≤ 4) (a : Int) (s : List UInt8) : Holds Tryz.prog gl 79 [.d (dPol p), .d (.int .i64 a), .d (.str s)] (lookR p a s) := by
  refine holds_of_body hm1 (enters_some (fn := Tryz.f79) (by kernel_rfl) (by kernel_rfl) (by kernel_rfl)) (h := h79) ?_; rw [body79]; intro hwf
  simp only [sS, true_and, List.map_cons, List.map_nil, vget, bget, List.getD_cons_zero, List.getD_cons_succ, Box.vals, dI, Nat.le_refl, sP]
  refine callP_of (sortR_holds a) ?_
  simp only [sS, true_and, List.map_cons, List.map_nil, vget, bget, List.getD_cons_zero, List.getD_cons_succ, Box.vals, dI, Nat.le_refl]
  refine And.intro (fun h0 => ?_) (fun h0 => ?_)
  · rw [lookR, lookF, if_pos h0]
    refine loopP_inv (fun i => ∀ (j : Nat) k, j < i → p.us[j]? = some k → (fun u => UsD.name u == s) k = false) (fun i => [.d (.str s), .d (.int .i64 ((i : Nat) : Int))]) (fun i => [cPol p, [.d (.int .u64 0), .d (.int .u64 0), .d (.int .u64 0), .d (.int .u64 0)]]) p.us.length (fun j k hj _ => by omega) (fun i hi hJ I hI => ?_) (fun hJ I => ?_)
    · simp only [sS, true_and, List.map_cons, List.map_nil, vget, bget, List.getD_cons_zero, List.getD_cons_succ, Box.vals, dI, Nat.le_refl, sP]
      refine And.intro (fun _ => ?_) (fun h => absurd h (by simp; omega))
      obtain ⟨t, ht⟩ := get_some hi
      simp only [p.g_us ht, sS, true_and, List.map_cons, List.map_nil, vget, bget, List.getD_cons_zero, List.getD_cons_succ, Box.vals, dI, Nat.le_refl, sP, sW, Nat.zero_add, eql_str, parts_i1, fit_i1, el_i1]
      refine And.intro (fun h => ?_) (fun h => ?_)
      · refine callP_of (ofR_one _) ?_
        simp only [sS, true_and, List.map_cons, List.map_nil, vget, bget, List.getD_cons_zero, List.getD_cons_succ, Box.vals, dI, Nat.le_refl, cells_set, len_cSet, set_four, part_set, List.length_cons, List.length_nil]
        rw [first_at (p := fun u => UsD.name u == s) ht (by simpa using h) hJ]; rfl
      · refine bindO_to (add_up hi p.usM) ?_
        refine hI fun j k' hj hk' => ?_
        rcases Nat.lt_or_ge j i with h2 | h2
        · exact hJ j k' h2 hk'
        · have : j = i := by omega
          subst this
          rw [ht] at hk'
          cases hk'
          simpa using h
    · simp only [sS, true_and, List.map_cons, List.map_nil, vget, bget, List.getD_cons_zero, List.getD_cons_succ, Box.vals, dI, Nat.le_refl, sP, build_zset, cells_set, len_cSet, set_four, part_set, List.length_cons, List.length_nil]
      refine And.intro (fun h => absurd h (by simp)) (fun _ => ?_)
      rw [first_none (p := fun u => UsD.name u == s) fun j k hk' => hJ j k (List.getElem?_eq_some_iff.1 hk').1 hk']
      rfl
  refine And.intro (fun h1 => ?_) (fun h1 => ?_)
  · rw [lookR, lookF, if_neg (by simp [h0]), if_pos h1]
    refine loopP_inv (fun i => ∀ (j : Nat) k, j < i → p.ro[j]? = some k → (fun u => RoD.name u == s) k = false) (fun i => [.d (.str s), .d (.int .i64 ((i : Nat) : Int))]) (fun i => [cPol p, [.d (.int .u64 0), .d (.int .u64 0), .d (.int .u64 0), .d (.int .u64 0)]]) p.ro.length (fun j k hj _ => by omega) (fun i hi hJ I hI => ?_) (fun hJ I => ?_)
    · simp only [sS, true_and, List.map_cons, List.map_nil, vget, bget, List.getD_cons_zero, List.getD_cons_succ, Box.vals, dI, Nat.le_refl, sP]
      refine And.intro (fun _ => ?_) (fun h => absurd h (by simp; omega))
      obtain ⟨t, ht⟩ := get_some hi
      simp only [p.g_ro ht, sS, true_and, List.map_cons, List.map_nil, vget, bget, List.getD_cons_zero, List.getD_cons_succ, Box.vals, dI, Nat.le_refl, sP, sW, Nat.zero_add, eql_str, parts_i1, fit_i1, el_i1]
      refine And.intro (fun h => ?_) (fun h => ?_)
      · refine callP_of (ofR_one _) ?_
        simp only [sS, true_and, List.map_cons, List.map_nil, vget, bget, List.getD_cons_zero, List.getD_cons_succ, Box.vals, dI, Nat.le_refl, cells_set, len_cSet, set_four, part_set, List.length_cons, List.length_nil]
        rw [first_at (p := fun u => RoD.name u == s) ht (by simpa using h) hJ]; rfl
      · refine bindO_to (add_up hi p.roM) ?_
        refine hI fun j k' hj hk' => ?_
        rcases Nat.lt_or_ge j i with h2 | h2
        · exact hJ j k' h2 hk'
        · have : j = i := by omega
          subst this
          rw [ht] at hk'
          cases hk'
          simpa using h
    · simp only [sS, true_and, List.map_cons, List.map_nil, vget, bget, List.getD_cons_zero, List.getD_cons_succ, Box.vals, dI, Nat.le_refl, sP, build_zset, cells_set, len_cSet, set_four, part_set, List.length_cons, List.length_nil]
      refine And.intro (fun h => absurd h (by simp)) (fun _ => ?_)
      rw [first_none (p := fun u => RoD.name u == s) fun j k hk' => hJ j k (List.getElem?_eq_some_iff.1 hk').1 hk']
      rfl
  rw [lookR, lookF, if_neg (by simp [h0]), if_neg (by simp [h1])]
  refine loopP_inv (fun i => ∀ (j : Nat) k, j < i → p.ty[j]? = some k → (fun t => TyD.name t == s || hasS s t.als) k = false) (fun i => [.d (.str s), .d (.int .i64 ((i : Nat) : Int))]) (fun i => [cPol p, [.d (.int .u64 0), .d (.int .u64 0), .d (.int .u64 0), .d (.int .u64 0)]]) p.ty.length (fun j k hj _ => by omega) (fun i hi hJ I hI => ?_) (fun hJ I => ?_)
  · simp only [sS, true_and, List.map_cons, List.map_nil, vget, bget, List.getD_cons_zero, List.getD_cons_succ, Box.vals, dI, Nat.le_refl, sP]
    refine And.intro (fun _ => ?_) (fun h => absurd h (by simp; omega))
    obtain ⟨t, ht⟩ := get_some hi
    have hal := hal t (List.mem_of_getElem? ht)
    simp only [p.g_ty ht, sS, true_and, List.map_cons, List.map_nil, vget, bget, List.getD_cons_zero, List.getD_cons_succ, Box.vals, dI, Nat.le_refl, sP, sW, Nat.zero_add, eql_str]
    rw [show (t.name == s) = (t.name == s || hasS s (t.als.take 0)) from by simp [hasS]]
    refine loopP_count (fun k => [.d (.str s), .d (.int .i64 ((i : Nat) : Int)), .d (.bool (t.name == s || hasS s (t.als.take k))), .d (.int .i64 ((k : Nat) : Int))]) (fun k => [cPol p, [.d (.int .u64 0), .d (.int .u64 0), .d (.int .u64 0), .d (.int .u64 0)]]) t.als.length (fun k hk I2 hI2 => ?_) (fun I2 => ?_)
    · simp only [p.g_ty ht, sS, true_and, List.map_cons, List.map_nil, vget, bget, List.getD_cons_zero, List.getD_cons_succ, Box.vals, dI, Nat.le_refl, sP, sW, Nat.zero_add]
      refine And.intro (fun _ => ?_) (fun h => absurd h (by simp; omega))
      obtain ⟨n, hn⟩ := get_some hk
      have hn' : (dStrs t.als)[k]? = some (.str n) := by rw [dStrs, List.getElem?_map, hn]; rfl
      have htk : hasS s (t.als.take (k + 1)) = (hasS s (t.als.take k) || n == s) := by rw [take_get hn, hasS, hasS, List.any_append]; simp
      rw [htk] at hI2
      refine And.intro (fun h => ?_) (fun h => ?_)
      · refine bindO_to (add_up hk (by simp only [maxLen]; omega)) ?_
        rw [← Bool.or_assoc, h, Bool.true_or] at hI2
        exact hI2
      · simp only [t.alsH.at hn', sS, true_and, List.map_cons, List.map_nil, vget, bget, List.getD_cons_zero, List.getD_cons_succ, Box.vals, dI, Nat.le_refl, sW, Nat.zero_add, eql_str]
        refine bindO_to (add_up hk (by simp only [maxLen]; omega)) ?_
        rw [← Bool.or_assoc, h, Bool.false_or] at hI2
        exact hI2
    · simp only [p.g_ty ht, sS, true_and, List.map_cons, List.map_nil, vget, bget, List.getD_cons_zero, List.getD_cons_succ, Box.vals, dI, Nat.le_refl, sP, sW, Nat.zero_add, parts_i1, fit_i1, el_i1, List.take_length]
      refine And.intro (fun h => absurd h (by simp)) (fun _ => ?_)
      refine And.intro (fun h => ?_) (fun h => ?_)
      · refine callP_of (ofR_one _) ?_
        simp only [sS, true_and, List.map_cons, List.map_nil, vget, bget, List.getD_cons_zero, List.getD_cons_succ, Box.vals, dI, Nat.le_refl, cells_set, len_cSet, set_four, part_set, List.length_cons, List.length_nil]
        rw [first_at (p := fun t => TyD.name t == s || hasS s t.als) ht h hJ]; rfl
      · refine bindO_to (add_up hi p.tyM) ?_
        refine hI fun j k' hj hk' => ?_
        rcases Nat.lt_or_ge j i with h2 | h2
        · exact hJ j k' h2 hk'
        · have : j = i := by omega
          subst this
          rw [ht] at hk'
          cases hk'
          exact h
  · simp only [sS, true_and, List.map_cons, List.map_nil, vget, bget, List.getD_cons_zero, List.getD_cons_succ, Box.vals, dI, Nat.le_refl, sP]
    refine And.intro (fun h => absurd h (by simp)) (fun _ => ?_)
    rw [first_none (p := fun t => TyD.name t == s || hasS s t.als) fun j k hk' => hJ j k (List.getElem?_eq_some_iff.1 hk').1 hk']
    refine loopP_inv (fun i => ∀ (j : Nat) k, j < i → p.at_[j]? = some k → (fun x => AtD.name x == s) k = false) (fun i => [.d (.str s), .d (.int .i64 ((i : Nat) : Int))]) (fun i => [cPol p, [.d (.int .u64 0), .d (.int .u64 0), .d (.int .u64 0), .d (.int .u64 0)]]) p.at_.length (fun j k hj _ => by omega) (fun i hi hJ I hI => ?_) (fun hJ I => ?_)
    · simp only [sS, true_and, List.map_cons, List.map_nil, vget, bget, List.getD_cons_zero, List.getD_cons_succ, Box.vals, dI, Nat.le_refl, sP]
      refine And.intro (fun _ => ?_) (fun h => absurd h (by simp; omega))
      obtain ⟨t, ht⟩ := get_some hi
      simp only [p.g_at_ ht, sS, true_and, List.map_cons, List.map_nil, vget, bget, List.getD_cons_zero, List.getD_cons_succ, Box.vals, dI, Nat.le_refl, sP, sW, Nat.zero_add, eql_str]
      refine And.intro (fun h => ?_) (fun h => ?_)
      · simp only [sS, true_and, List.map_cons, List.map_nil, vget, bget, List.getD_cons_zero, List.getD_cons_succ, Box.vals, dI, Nat.le_refl, cells_set, len_cSet, set_four, part_set, List.length_cons, List.length_nil]
        rw [first_at (p := fun x => AtD.name x == s) ht (by simpa using h) hJ]
        simp only [ht]; rfl
      · refine bindO_to (add_up hi p.at_M) ?_
        refine hI fun j k' hj hk' => ?_
        rcases Nat.lt_or_ge j i with h2 | h2
        · exact hJ j k' h2 hk'
        · have : j = i := by omega
          subst this
          rw [ht] at hk'
          cases hk'
          simpa using h
    · simp only [sS, true_and, List.map_cons, List.map_nil, vget, bget, List.getD_cons_zero, List.getD_cons_succ, Box.vals, dI, Nat.le_refl, sP, build_zset, cells_set, len_cSet, set_four, part_set, List.length_cons, List.length_nil]
      refine And.intro (fun h => absurd h (by simp)) (fun _ => ?_)
      rw [first_none (p := fun x => AtD.name x == s) fun j k hk' => hJ j k (List.getElem?_eq_some_iff.1 hk').1 hk']
      rfl

end Go.Proofs.YtcnnhnjcnekhcaaGreat.Ab
/-
  EXPRESSIONS TRANSLATED: the plain terms.
-/
namespace Go.Proofs.YtcnnhnjcnekhcaaGreat.Ab
open Go
theorem enc_list {l : List Xp} (h : ∀ (i : Nat) k, l[i]? = some k → ∃ y, IsE k y) : ∃ L : List D, L.length = l.length ∧ ∀ (i : Nat) k y, l[i]? = some k → L[i]? = some y → IsE k y := by
  induction l with
  | nil => exact ⟨[], rfl, fun i k y h => by simp at h⟩
  | cons x l ih =>
    obtain ⟨L, h1, h2⟩ := ih fun i k hk => h (i + 1) k (by simpa using hk)
    obtain ⟨y, hy⟩ := h 0 x rfl
    refine ⟨y :: L, by simp [h1], fun i k z hk hz => ?_⟩
    cases i with
    | zero => simp at hk hz; subst hk; subst hz; exact hy
    | succ i => exact h2 i k z (by simpa using hk) (by simpa using hz)
theorem enc_ex : ∀ (n : Nat) (e : Xp), e.lv ≤ n → ∃ y, IsE e y
  | 0, e, h => absurd h (by have := lv_pos e; omega)
  | n + 1, e, h => by
    obtain ⟨L, h1, h2⟩ := enc_list (l := e.kids) fun i k hk => enc_ex n k (by have := Xp.kid_lt hk; omega)
    cases e with
    | mk op a rel b names w kids => exact ⟨_, .mk op a rel b names w kids (.sl .ro 1 (dStrs names)) (.sl .ro 10 L) L .ro h1 h2 .ro⟩
/-- what names mean together -/
def uniO (p : PolD) (a : Int) (o : Option (Nat → BitVec 64)) (s : List UInt8) : Option (Nat → BitVec 64) := match o with
  | none => none
  | some w => match lookF p a s with
    | none => none
    | some v => some fun k => w k ||| v k
def uniF (p : PolD) (a : Int) (l : List (List UInt8)) : Option (Nat → BitVec 64) := l.foldl (uniO p a) (some zW)
theorem uni_take (p : PolD) (a : Int) {l : List (List UInt8)} {i : Nat} {s : List UInt8} (h : l[i]? = some s) : uniF p a (l.take (i + 1)) = uniO p a (uniF p a (l.take i)) s := by
  rw [take_get h, uniF, uniF, List.foldl_append]; rfl
theorem uni_none (p : PolD) (a : Int) : ∀ l : List (List UInt8), l.foldl (uniO p a) none = none
  | [] => rfl
  | _ :: l => uni_none p a l
theorem uni_cut (p : PolD) (a : Int) {l : List (List UInt8)} {i : Nat} (h : uniF p a (l.take i) = none) : uniF p a l = none := by
  have e : uniF p a l = (l.drop i).foldl (uniO p a) (uniF p a (l.take i)) := by rw [uniF, uniF, ← List.foldl_append, List.take_append_drop]
  rw [e, h]
  exact uni_none p a _
/-- an expression without names -/
def trF (p : PolD) : Xp → Xp
  | .mk op a rel b names w kids => if op == 9 then (if eqW ((uniF p a names).getD zW) zW then .mk 8 a 1 a [] zW [] else .mk 9 a 0 0 [] ((uniF p a names).getD zW) []) else .mk op a rel b [] zW (go kids)
where go : List Xp → List Xp
  | [] => []
  | k :: l => trF p k :: go l
theorem trF_eq (p : PolD) (e : Xp) : trF p e = if e.op == 9 then (if eqW ((uniF p e.a e.names).getD zW) zW then .mk 8 e.a 1 e.a [] zW [] else .mk 9 e.a 0 0 [] ((uniF p e.a e.names).getD zW) []) else .mk e.op e.a e.rel e.b [] zW (trF.go p e.kids) := by cases e; rfl
theorem trs_get {p : PolD} : ∀ {l : List Xp} {i : Nat} {k : Xp}, l[i]? = some k → (trF.go p l)[i]? = some (trF p k)
  | [], i, k, h => by simp at h
  | x :: l, 0, k, h => by simp at h; subst h; rfl
  | x :: l, i + 1, k, h => by rw [trF.go]; simpa using trs_get (l := l) (by simpa using h)
theorem trs_len {p : PolD} : ∀ l : List Xp, (trF.go p l).length = l.length
  | [] => rfl
  | x :: l => by rw [trF.go, List.length_cons, List.length_cons, trs_len l]
/-- the error of a node with names -/
def cmp1 (p : PolD) (lim : Int) (e : Xp) : Int := if nodeF e true lim != 0 then nodeF e true lim else if (uniF p e.a e.names).isNone then 11 else 0
theorem first_node {F : Xp → Int} {e : Xp} (h : firstF F e = 0) : F e = 0 := by
  rw [firstF_eq] at h
  by_cases hx : F e = 0
  · exact hx
  · rw [if_pos (by simpa using hx)] at h; exact absurd h hx
theorem first_kids {F : Xp → Int} {e : Xp} (h : firstF F e = 0) : firstF.go F e.kids = 0 := by
  have h1 := first_node h
  rw [firstF_eq, if_neg (by simpa using h1)] at h; exact h
theorem firsts_kid {F : Xp → Int} : ∀ {l : List Xp} {i : Nat} {k : Xp}, firstF.go F l = 0 → l[i]? = some k → firstF F k = 0
  | [], i, k, _, h => by simp at h
  | x :: l, i, k, h0, h => by
    rw [firstF.go] at h0
    by_cases hx : firstF F x = 0
    · rw [if_neg (by simpa using hx)] at h0
      cases i with
      | zero => simp at h; subst h; exact hx
      | succ i => exact firsts_kid h0 (by simpa using h)
    · rw [if_pos (by simpa using hx)] at h0; exact absurd h0 hx
theorem first_kid {F : Xp → Int} {e k : Xp} {i : Nat} (h : firstF F e = 0) (hk : e.kids[i]? = some k) : firstF F k = 0 := firsts_kid (first_kids h) hk
theorem form_kids {e : Xp} {s : Bool} (h : formF e s = true) : e.kids.length ≤ 2 := by
  unfold formF bareF lenK at h
  grind
theorem node_form {e : Xp} {s : Bool} {lim : Int} (h : nodeF e s lim = 0) : formF e s = true := by
  unfold nodeF at h
  by_cases hf : formF e s = true
  · exact hf
  · rw [if_neg hf] at h; cases h
theorem cmp1_node {p : PolD} {lim : Int} {e : Xp} (h : cmp1 p lim e = 0) : nodeF e true lim = 0 ∧ (uniF p e.a e.names).isSome = true := by
  unfold cmp1 at h
  by_cases hx : nodeF e true lim = 0
  · rw [if_neg (by simpa using hx)] at h
    refine ⟨hx, ?_⟩
    cases hu : uniF p e.a e.names with
    | none => rw [hu] at h; cases h
    | some w => rfl
  · rw [if_pos (by simpa using hx)] at h; exact absurd h hx
end Go.Proofs.YtcnnhnjcnekhcaaGreat.Ab
/-
  EXPRESSIONS TRANSLATED, without the reference.
-/
namespace Go.Proofs.YtcnnhnjcnekhcaaGreat.Ab
open Go
theorem ex_capN {op a rel b : Int} {nm kd : D} {w : Nat → BitVec 64} {rest : List SV} {l : List (List UInt8)} (hwf : SV.WfL (.d (.agg (fEx op a rel b nm w kd)) :: rest)) (hd : IsD 1 (dStrs l) nm) : l.length ≤ maxLen := by
  have := (SV.WfL_iff _).1 hwf (.d (.agg (fEx op a rel b nm w kd))) (by simp)
  simp only [SV.Wf, D.Wf, fEx, D.WfL] at this
  have h4 := this.2.2.2.2.1
  cases hd with
  | nil s h =>
    have : l.length = 0 := by rw [← len_strs, h]; rfl
    omega
  | ro => rw [← len_strs]; exact h4.1
def uniR (p : PolD) (a : Int) (l : List (List UInt8)) : SV := .tup [.d (dSet ((uniF p a l).getD zW)), .d (.bool (uniF p a l).isSome)]
theorem lookR_eq (p : PolD) (a : Int) (s : List UInt8) : lookR p a s = .tup [.d (dSet ((lookF p a s).getD zW)), .d (.bool (lookF p a s).isSome)] := rfl
set_option maxRecDepth 4000 in
theorem union_of {e : Xp} {x : D} (hx : IsE e x) (p : PolD) (ha : ∀ t ∈ p.ty, t.als.length ≤ 4) : Holds Tryz.prog gl 40 [.d x, .d (dPol p)] (uniR p e.a e.names) := by
  refine holds_of_body hm1 (enters_some (fn := Tryz.f40) (by kernel_rfl) (by kernel_rfl) (by kernel_rfl)) (h := h40) ?_; rw [body40]; intro hwf
  obtain ⟨nm, kd, L, rfl, hnm, hl, hd, hk⟩ := hx.inv
  have hcap := ex_capN hwf hnm
  simp only [sS, true_and, List.map_cons, List.map_nil, vget, bget, List.getD_cons_zero, List.getD_cons_succ, Box.vals, dI, Nat.le_refl, sP, hnm.len, len_strs]
  rw [show [SV.d (.int .u64 0), .d (.int .u64 0), .d (.int .u64 0), .d (.int .u64 0)] = cSet zW from rfl]
  refine loopP_ex (fun i w => uniF p e.a (e.names.take i) = some w) (fun i w => [.d nm, .d (.int .i64 (e.names.length : Int)), .d (.int .i64 ((i : Nat) : Int))]) (fun i w => [cEx e.op e.a e.rel e.b nm e.w kd, cPol p, cSet zW, cSet w]) e.names.length zW rfl (fun i w hi hJ I hI => ?_) (fun w hJ I => ?_)
  · simp only [sS, true_and, List.map_cons, List.map_nil, vget, bget, List.getD_cons_zero, List.getD_cons_succ, Box.vals, dI, Nat.le_refl, sP]
    refine And.intro (fun _ => ?_) (fun h => absurd h (by simp; omega))
    obtain ⟨t, ht⟩ := get_some hi
    have ht' : (dStrs e.names)[i]? = some (.str t) := by rw [dStrs, List.getElem?_map, ht]; rfl
    simp only [hnm.at ht', sS, true_and, List.map_cons, List.map_nil, vget, bget, List.getD_cons_zero, List.getD_cons_succ, Box.vals, dI, Nat.le_refl, sP, sW, Nat.zero_add]
    refine call2 (named_holds p ha e.a t) ?_
    simp only [sS, true_and, List.map_cons, List.map_nil, vget, bget, List.getD_cons_zero, List.getD_cons_succ, Box.vals, dI, Nat.le_refl, cells_set, len_cSet, set_four, part_set]
    have hu := uni_take p e.a ht
    rw [hJ] at hu
    refine And.intro (fun h => ?_) (fun h => ?_)
    · have hn : uniF p e.a e.names = none := uni_cut p e.a (i := i + 1) (by
        rw [hu, uniO]
        cases hf : lookF p e.a t with
        | none => rfl
        | some v => rw [hf] at h; cases h)
      simp only [sS, true_and, List.map_cons, List.map_nil, vget, bget, List.getD_cons_zero, List.getD_cons_succ, Box.vals, dI, Nat.le_refl, build_zset, cells_set, len_cSet, set_all, part_set]
      rw [uniR, hn]; rfl
    · obtain ⟨v, hv⟩ : ∃ v, lookF p e.a t = some v := by
        cases hf : lookF p e.a t with
        | none => rw [hf] at h; cases h
        | some v => exact ⟨v, rfl⟩
      rw [uniO, hv] at hu
      rw [hv]
      simp only [Option.getD_some]
      refine callP_of (union_holds w v) ?_
      simp only [sS, true_and, List.map_cons, List.map_nil, vget, bget, List.getD_cons_zero, List.getD_cons_succ, Box.vals, dI, Nat.le_refl, cells_set, len_cSet, set_all]
      refine bindO_to (add_up hi hcap) ?_
      exact hI _ hu
  · simp only [sS, true_and, List.map_cons, List.map_nil, vget, bget, List.getD_cons_zero, List.getD_cons_succ, Box.vals, dI, Nat.le_refl, sP, cells_set, len_cSet, set_all, part_set]
    refine And.intro (fun h => absurd h (by simp)) (fun _ => ?_)
    rw [List.take_length] at hJ
    rw [uniR, hJ]; rfl
theorem compile1_holds {e : Xp} {x : D} (hx : IsE e x) (p : PolD) (ha : ∀ t ∈ p.ty, t.als.length ≤ 4) (v : Bool) : Holds Tryz.prog gl 37 [.d x, .ref [.d (.bool v)] 0, .ref (cPol p) 0] (.d (.int .i64 (cmp1 p (limF v) e))) := by
  refine holds_of_body hm1 (enters_some (fn := Tryz.f37) (by kernel_rfl) (by kernel_rfl) (by kernel_rfl)) (h := h37) ?_; rw [body37]; intro hwf
  have h1 := form_holds hx true
  have h2 := meaning_holds hx (limF v)
  have h3 := union_of hx p ha
  obtain ⟨cs, c1, c2, c3, c4⟩ := hx.cells
  simp only [sS, true_and, List.map_cons, List.map_nil, vget, bget, List.getD_cons_zero, List.getD_cons_succ, Box.vals, dI, Nat.le_refl, c1, c2, c3, dem_refP, dem_ref1, load_pol, load_b]
  refine callP_of h1 ?_
  simp only [sS, true_and, List.map_cons, List.map_nil, vget, bget, List.getD_cons_zero, List.getD_cons_succ, Box.vals, dI, Nat.le_refl]
  refine And.intro (fun h => ?_) (fun h => ?_)
  · have hf : formF e true = false := by unfold formE at h; grind
    have e0 : cmp1 p (limF v) e = 2 := by simp [cmp1, nodeF, hf]
    rw [e0, formE, if_neg (by simp [hf])]
  have hf : formF e true = true := by unfold formE at h; grind
  refine callP_of (limited_holds v) ?_
  simp only [sS, true_and, List.map_cons, List.map_nil, vget, bget, List.getD_cons_zero, List.getD_cons_succ, Box.vals, dI, Nat.le_refl]
  refine callP_of h2 ?_
  simp only [sS, true_and, List.map_cons, List.map_nil, vget, bget, List.getD_cons_zero, List.getD_cons_succ, Box.vals, dI, Nat.le_refl]
  have hn : nodeF e true (limF v) = meaningF e (limF v) := by rw [nodeF, if_pos hf]
  refine And.intro (fun h => ?_) (fun h => ?_)
  · rw [cmp1, hn, if_pos h]
  refine call2 h3 ?_
  simp only [sS, true_and, List.map_cons, List.map_nil, vget, bget, List.getD_cons_zero, List.getD_cons_succ, Box.vals, dI, Nat.le_refl, cells_set, len_cSet]
  rw [cmp1, hn, if_neg (by simp [h])]
  cases uniF p e.a e.names <;> (refine And.intro (fun h => ?_) (fun h => ?_) <;> first | rfl | cases h)
theorem build_ex4 (op a rel b : Int) : buildD Tryz.prog 28 [(0, .int .i64 op), (1, .int .i64 a), (2, .int .i64 rel), (3, .int .i64 b)] = some (.agg (fEx op a rel b (.sl .nil 0 []) zW (.sl .nil 0 []))) := by kernel_rfl
theorem build_ex5 (op a : Int) (w : Nat → BitVec 64) : buildD Tryz.prog 28 [(0, .int .i64 op), (1, .int .i64 a), (5, dSet w)] = some (.agg (fEx op a 0 0 (.sl .nil 0 []) w (.sl .nil 0 []))) := by kernel_rfl
theorem parts_ex4 (op a rel b : Int) : partsS [(0, .v (.d (.int .i64 op))), (1, .v (.d (.int .i64 a))), (2, .v (.d (.int .i64 rel))), (3, .v (.d (.int .i64 b)))] = some [(0, .int .i64 op), (1, .int .i64 a), (2, .int .i64 rel), (3, .int .i64 b)] := rfl
theorem parts_ex5 (op a : Int) (w : Nat → BitVec 64) : partsS [(0, .v (.d (.int .i64 op))), (1, .v (.d (.int .i64 a))), (5, .v (.d (dSet w)))] = some [(0, .int .i64 op), (1, .int .i64 a), (5, dSet w)] := rfl
theorem parts_one (x : D) : partsS [(0, .v (.d x))] = some [(0, x)] := rfl
theorem el_one (z x : D) : buildElems z [(0, x)] 1 0 = [x] := rfl
theorem IsE.fit {k : Xp} {y : D} (h : IsE k y) : partsFit 10 1 [(0, y)] = true := by
  obtain ⟨nm, kd, L, rfl, _⟩ := h.inv
  rfl
/-- an expression's cells, with lists that grow -/
def cEw (op a rel b : Int) (nm : SV) (w : Nat → BitVec 64) (kd : SV) : List SV := [.d (.int .i64 op), .d (.int .i64 a), .d (.int .i64 rel), .d (.int .i64 b), nm, .d (dW (w 0)), .d (dW (w 1)), .d (dW (w 2)), .d (dW (w 3)), kd]
section
variable (op a rel b : Int) (nm : SV) (w : Nat → BitVec 64) (kd x : SV)
theorem get_cEw9 : (cEw op a rel b nm w kd)[9]? = some kd := rfl
theorem get_cEw4 : (cEw op a rel b nm w kd)[4]? = some nm := rfl
theorem set_cEw9 : (cEw op a rel b nm w kd).set 9 x = cEw op a rel b nm w x := rfl
theorem set_cEw4 : (cEw op a rel b nm w kd).set 4 x = cEw op a rel b x w kd := rfl
theorem at_cEw9 : setAt (cEw op a rel b nm w kd) 9 [x] = cEw op a rel b nm w x := rfl
theorem at_cEw4 : setAt (cEw op a rel b nm w kd) 4 [x] = cEw op a rel b x w kd := rfl
theorem at_cEw5 (v : Nat → BitVec 64) : setAt (cEw op a rel b nm w kd) 5 (cSet v) = cEw op a rel b nm v kd := rfl
theorem part_cEw5 : partV true 4 5 (cEw op a rel b nm w kd) = some (.d (dSet w)) := rfl
theorem part_cEw0 : partV false 1 0 (cEw op a rel b nm w kd) = some (.d (.int .i64 op)) := rfl
theorem len_cEw : (cEw op a rel b nm w kd).length = 10 := rfl
theorem all_cEw (op' a' rel' b' : Int) (nm' : D) (w' : Nat → BitVec 64) (kd' : D) : setAt (cEw op a rel b nm w kd) 0 (cEx op' a' rel' b' nm' w' kd') = cEx op' a' rel' b' nm' w' kd' := rfl
end
theorem cEw_ex (op a rel b : Int) (w : Nat → BitVec 64) : cEx op a rel b (.sl .nil 0 []) w (.sl .nil 0 []) = cEw op a rel b (gown 1 []) w (gown 10 []) := rfl
theorem part_cEw (op a rel b : Int) (N L : List D) (w : Nat → BitVec 64) : partV true 10 0 (cEw op a rel b (gown 1 N) w (gown 10 L)) = some (.d (.agg (fEx op a rel b (gsl 1 N) w (gsl 10 L)))) := by
  cases N <;> cases L <;> rfl
/-- what is gathered of the kids -/
def Gath (F : Xp → Xp) (l : List Xp) (L : List D) : Prop := L.length = l.length ∧ ∀ (i : Nat) k y, l[i]? = some k → L[i]? = some y → IsE (F k) y
theorem Gath.nil (F : Xp → Xp) : Gath F [] [] := ⟨rfl, fun i k y h => by simp at h⟩
theorem Gath.snoc {F : Xp → Xp} {l : List Xp} {L : List D} {k : Xp} {y : D} (h : Gath F l L) (hy : IsE (F k) y) : Gath F (l ++ [k]) (L ++ [y]) := by
  refine ⟨by rw [List.length_append, List.length_append, h.1]; rfl, fun i k' y' h1 h2 => ?_⟩
  rcases Nat.lt_or_ge i l.length with hi | hi
  · rw [List.getElem?_append_left hi] at h1
    rw [List.getElem?_append_left (by rw [h.1]; exact hi)] at h2
    exact h.2 i k' y' h1 h2
  · rw [List.getElem?_append_right hi] at h1
    rw [List.getElem?_append_right (by rw [h.1]; exact hi), h.1] at h2
    have hz : i - l.length = 0 := by
      rcases Nat.eq_zero_or_pos (i - l.length) with h0 | h0
      · exact h0
      · rw [List.getElem?_eq_none (by simp; omega)] at h1; cases h1
    rw [hz] at h1 h2
    simp at h1 h2
    subst h1; subst h2
    exact hy
theorem Gath.isE {F : Xp → Xp} {l l' : List Xp} {L : List D} (h : Gath F l L) (hl : l'.length = l.length) (hg : ∀ (i : Nat) k, l[i]? = some k → l'[i]? = some (F k)) (op a rel b : Int) (N : List (List UInt8)) (w : Nat → BitVec 64) : IsE (.mk op a rel b N w l') (.agg (fEx op a rel b (gsl 1 (dStrs N)) w (gsl 10 L))) := by
  refine .mk op a rel b N w l' _ _ L (is_gsl _ _) (by rw [h.1, hl]) (fun i k y h1 h2 => ?_) (is_gsl _ _)
  have hi : i < l.length := by rw [← hl]; exact (List.getElem?_eq_some_iff.1 h1).1
  obtain ⟨k', hk'⟩ := get_some hi
  rw [hg i k' hk'] at h1
  cases h1
  exact h.2 i k' y hk' h2
end Go.Proofs.YtcnnhnjcnekhcaaGreat.Ab
/-
  EXPRESSIONS TRANSLATED, without the reference: the walk.
-/
namespace Go.Proofs.YtcnnhnjcnekhcaaGreat.Ab
open Go
theorem isE_leaf (op a rel b : Int) (w : Nat → BitVec 64) : IsE (.mk op a rel b [] w []) (.agg (fEx op a rel b (.sl .nil 0 []) w (.sl .nil 0 []))) :=
  .mk op a rel b [] w [] _ _ [] (.nil 0 rfl) rfl (fun i k y h1 h2 => by simp at h1) (.nil 0 rfl)
set_option maxRecDepth 4000 in
theorem translated_holds (p : PolD) (ha : ∀ t ∈ p.ty, t.als.length ≤ 4) (F : Xp → Int) (hF : ∀ e, F e = 0 → e.kids.length ≤ 2) : ∀ (n : Nat) (e : Xp) (x : D), e.lv ≤ n → IsE e x → firstF F e = 0 →
    ∃ y, IsE (trF p e) y ∧ Holds Tryz.prog gl 41 [.d x, .d (dPol p)] (.d y)
  | 0, e, x, hn, _, _ => absurd hn (by have := lv_pos e; omega)
  | n + 1, e, x, hn, hx, hf => by
    obtain ⟨y0, hy0⟩ := enc_ex _ (trF p e) (Nat.le_refl _)
    have hh : body Tryz.prog gl (Holds Tryz.prog gl) h41 41 [.d x, .d (dPol p)] fun r => ∃ y, r = .d y ∧ IsE (trF p e) y := by
      rw [body41]; intro hwf
      have h3 := union_of hx p ha
      have hx0 := hx
      obtain ⟨nm, kd, L, rfl, hnm, hl, hd, hk⟩ := hx.inv
      have hcap := ex_cap hwf hd
      have hk2 := hF e (first_node hf)
      rw [trF_eq]
      simp only [sS, true_and, List.map_cons, List.map_nil, vget, bget, List.getD_cons_zero, List.getD_cons_succ, Box.vals, dI, Nat.le_refl, sP]
      refine And.intro (fun h9 => ?_) (fun h9 => ?_)
      · rw [if_pos h9]
        refine call2 h3 ?_
        simp only [sS, true_and, List.map_cons, List.map_nil, vget, bget, List.getD_cons_zero, List.getD_cons_succ, Box.vals, dI, Nat.le_refl, cells_set, len_cSet, set_four, part_set, build_zset, show dSet (fun _ => 0) = dSet zW from rfl]
        refine And.intro (fun h => ?_) (fun h => ?_)
        · rw [if_pos h]
          simp only [parts_ex4, build_ex4, sS, true_and, List.map_cons, List.map_nil, vget, bget, List.getD_cons_zero, List.getD_cons_succ, Box.vals, dI, Nat.le_refl, set_ex]
          exact ⟨_, rfl, isE_leaf _ _ _ _ _⟩
        · rw [if_neg (by simp [h])]
          simp only [parts_ex5, build_ex5, sS, true_and, List.map_cons, List.map_nil, vget, bget, List.getD_cons_zero, List.getD_cons_succ, Box.vals, dI, Nat.le_refl, set_ex]
          have h9' : e.op = 9 := by simpa using h9
          rw [h9']
          exact ⟨_, rfl, isE_leaf _ _ _ _ _⟩
      · rw [if_neg (by simp [h9])]
        simp only [parts_ex4, build_ex4, sS, true_and, List.map_cons, List.map_nil, vget, bget, List.getD_cons_zero, List.getD_cons_succ, Box.vals, dI, Nat.le_refl, set_ex, hd.len]
        rw [cEw_ex]
        refine loopP_ex (fun i M => Gath (trF p) (e.kids.take i) M) (fun i M => [.d kd, .d (.int .i64 (L.length : Int)), .d (.int .i64 ((i : Nat) : Int))]) (fun i M => [cEx e.op e.a e.rel e.b nm e.w kd, cPol p, cEx 0 0 0 0 (.sl .nil 0 []) zW (.sl .nil 0 []), cEw e.op e.a e.rel e.b (gown 1 []) zW (gown 10 M)]) L.length [] (Gath.nil _) (fun i M hi hJ I hI => ?_) (fun M hJ I => ?_)
        · simp only [sS, true_and, List.map_cons, List.map_nil, vget, bget, List.getD_cons_zero, List.getD_cons_succ, Box.vals, dI, Nat.le_refl, sP]
          refine And.intro (fun _ => ?_) (fun h => absurd h (by simp; omega))
          obtain ⟨y, hy⟩ := get_some hi
          obtain ⟨k, hky⟩ := get_some (show i < e.kids.length by omega)
          have hek := hk i k y hky hy
          have hlt := Xp.kid_lt hky
          obtain ⟨cs, c1, c2, c3, c4⟩ := hek.cells
          simp only [hd.at hy, hek.load, c1, c2, c3, c4, get_cEw9, sS, true_and, List.map_cons, List.map_nil, vget, bget, List.getD_cons_zero, List.getD_cons_succ, Box.vals, dI, Nat.le_refl, sP]
          obtain ⟨z, hz, hzh⟩ := translated_holds p ha F hF n k y (by omega) hek (first_kid hf hky)
          refine callP_of hzh ?_
          simp only [parts_one, el_one, hz.fit, sS, true_and, List.map_cons, List.map_nil, vget, bget, List.getD_cons_zero, List.getD_cons_succ, Box.vals, dI, Nat.le_refl]
          have hM := hJ.1
          rw [List.length_take] at hM
          refine app_gown (elems_full _ _) ?_ ?_
          · show (_ + 1) * 112 ≤ _; omega
          simp only [cells_gown, set_cEw9, at_cEw9, len_cEw, List.length_singleton, sS, true_and, List.map_cons, List.map_nil, vget, bget, List.getD_cons_zero, List.getD_cons_succ, Box.vals, dI, Nat.le_refl]
          refine ⟨by decide, ?_⟩
          refine bindO_to (add_up hi hcap) ?_
          refine hI _ ?_
          rw [take_get hky]
          exact hJ.snoc hz
        · simp only [sS, true_and, List.map_cons, List.map_nil, vget, bget, List.getD_cons_zero, List.getD_cons_succ, Box.vals, dI, Nat.le_refl, sP, part_cEw, cells_ex, len_cEx]
          refine And.intro (fun h => absurd h (by simp)) (fun _ => ?_)
          rw [hl, List.take_length] at hJ
          exact ⟨rfl, _, rfl, hJ.isE (trs_len _) (fun i k => trs_get) _ _ _ _ [] _⟩
    obtain ⟨r, ⟨y, rfl, hy⟩, hr⟩ := holds_some hm1 (enters_some (fn := Tryz.f41) (by kernel_rfl) (by kernel_rfl) (by kernel_rfl)) ⟨_, y0, rfl, hy0⟩ hh
    exact ⟨y, hy, hr⟩
/-- the error of a source's expression, and what it means -/
def cmpE (p : PolD) (v : Bool) (e : Xp) : Int := if e.lv > 12 then 4 else firstF (cmp1 p (limF v)) e
def zX : Xp := .mk 0 0 0 0 [] zW []
def cmpT (p : PolD) (v : Bool) (e : Xp) : Xp := if cmpE p v e == 0 then trF p e else zX
theorem cmp1_kids (p : PolD) (lim : Int) (e : Xp) (h : cmp1 p lim e = 0) : e.kids.length ≤ 2 := form_kids (node_form (cmp1_node h).1)
theorem build_ex0 : buildD Tryz.prog 28 [] = some (.agg (fEx 0 0 0 0 (.sl .nil 0 []) zW (.sl .nil 0 []))) := by kernel_rfl
theorem isE_zX : IsE zX (.agg (fEx 0 0 0 0 (.sl .nil 0 []) zW (.sl .nil 0 []))) := isE_leaf 0 0 0 0 zW
set_option maxRecDepth 4000 in
theorem compileC_holds {e : Xp} {x : D} (hx : IsE e x) (hlv : e.lv ≤ 1000) (p : PolD) (ha : ∀ t ∈ p.ty, t.als.length ≤ 4) (v : Bool) :
    ∃ y, IsE (cmpT p v e) y ∧ Holds Tryz.prog gl 13 [.d x, .d (dPol p), .d (.bool v)] (.tup [.d y, .d (.int .i64 (cmpE p v e))]) := by
  obtain ⟨y0, hy0⟩ := enc_ex _ (cmpT p v e) (Nat.le_refl _)
  have hh : body Tryz.prog gl (Holds Tryz.prog gl) h13 13 [.d x, .d (dPol p), .d (.bool v)] fun r => ∃ y, r = .tup [.d y, .d (.int .i64 (cmpE p v e))] ∧ IsE (cmpT p v e) y := by
    rw [body13]; intro hwf
    have h1 := levels_holds e.lv e x (Nat.le_refl _) hlv hx
    have h2 := first_holds (g := .clo (.func 37) [] [.ref [.d (.bool v)] 0, .ref (cPol p) 0]) (F := cmp1 p (limF v)) e.lv e x (Nat.le_refl _) hx ⟨rfl, fun k y _ hk K hK => by rw [withFn_clo]; exact callP_of (compile1_holds hk p ha v) hK⟩
    have h3 := fun h => translated_holds p ha (cmp1 p (limF v)) (cmp1_kids p _) e.lv e x (Nat.le_refl _) hx h
    obtain ⟨cs, c1, c2, c3, c4⟩ := hx.cells
    have cb : cellsV (.d (.bool v)) = some [.d (.bool v)] := rfl
    simp only [sS, true_and, List.map_cons, List.map_nil, vget, bget, List.getD_cons_zero, List.getD_cons_succ, Box.vals, dI, Nat.le_refl, sP, c1, c2, c3, cb, List.length_singleton, map_cPol]
    refine callP_of h1 ?_
    simp only [sS, true_and, List.map_cons, List.map_nil, vget, bget, List.getD_cons_zero, List.getD_cons_succ, Box.vals, dI, Nat.le_refl]
    refine And.intro (fun h => ?_) (fun h => ?_)
    · have e1 : cmpE p v e = 4 := by rw [cmpE, if_pos (by have := of_decide_eq_true h; omega)]
      simp only [build_ex0, sS, true_and, List.map_cons, List.map_nil, vget, bget, List.getD_cons_zero, List.getD_cons_succ, Box.vals, dI, Nat.le_refl, set_ex]
      rw [cmpT, e1]
      exact ⟨_, rfl, isE_zX⟩
    · have e1 : cmpE p v e = firstF (cmp1 p (limF v)) e := by rw [cmpE, if_neg (by have := of_decide_eq_false h; omega)]
      refine callP_of h2 ?_
      simp only [sS, true_and, List.map_cons, List.map_nil, vget, bget, List.getD_cons_zero, List.getD_cons_succ, Box.vals, dI, Nat.le_refl]
      rw [cmpT, e1]
      refine And.intro (fun h' => ?_) (fun h' => ?_)
      · simp only [build_ex0, sS, true_and, List.map_cons, List.map_nil, vget, bget, List.getD_cons_zero, List.getD_cons_succ, Box.vals, dI, Nat.le_refl, set_ex]
        refine ⟨_, rfl, ?_⟩
        rw [if_neg (by simpa using h')]
        exact isE_zX
      · have h0 : firstF (cmp1 p (limF v)) e = 0 := by simpa using h'
        obtain ⟨z, hz, hzh⟩ := h3 h0
        refine callP_of hzh ?_
        obtain ⟨cs', d1, d2, d3, d4⟩ := hz.cells
        simp only [d1, d2, d3, d4, sS, true_and, List.map_cons, List.map_nil, vget, bget, List.getD_cons_zero, List.getD_cons_succ, Box.vals, dI, Nat.le_refl]
        rw [h0]
        refine ⟨_, rfl, ?_⟩
        rw [if_pos (by rfl)]
        exact hz
  obtain ⟨r, ⟨y, rfl, hy⟩, hr⟩ := holds_some hm1 (enters_some (fn := Tryz.f13) (by kernel_rfl) (by kernel_rfl) (by kernel_rfl)) ⟨_, y0, rfl, hy0⟩ hh
  exact ⟨y, hy, hr⟩
end Go.Proofs.YtcnnhnjcnekhcaaGreat.Ab
/-
  EXPRESSIONS TRANSLATED, the reference.
-/
namespace Go.Proofs.YtcnnhnjcnekhcaaGreat.Ab
open Go
theorem form9 {e : Xp} {s : Bool} (h : formF e s = true) (h9 : e.op = 9) : e.b = 0 ∧ e.rel = 0 ∧ e.kids = [] := by
  unfold formF at h
  rw [h9] at h
  simp [lenK] at h
  exact ⟨h.1, h.2.1, h.2.2.1⟩
theorem formN {e : Xp} {s : Bool} (h : formF e s = true) (h9 : e.op ≠ 9) : e.names = [] ∧ eqW e.w zW = true := by
  have h2 : lenN e = 0 ∧ eqW e.w zW = true := by
    unfold formF bareF at h
    grind
  refine ⟨?_, h2.2⟩
  have := h2.1
  unfold lenN at this
  exact List.eq_nil_of_length_eq_zero (by omega)
theorem all_cEx (op a rel b : Int) (nm : D) (w : Nat → BitVec 64) (kd : D) (op' a' rel' b' : Int) (nm' : D) (w' : Nat → BitVec 64) (kd' : D) : setAt (cEx op a rel b nm w kd) 0 (cEx op' a' rel' b' nm' w' kd') = cEx op' a' rel' b' nm' w' kd' := rfl
theorem cmp1_go {p : PolD} {lim : Int} {e : Xp} (h : cmp1 p lim e = 0) : firstF (cmp1 p lim) e = firstF.go (cmp1 p lim) e.kids := by
  rw [firstF_eq, if_neg (by simp [h])]
theorem cmp1_at {p : PolD} {lim : Int} {e : Xp} (h : cmp1 p lim e ≠ 0) : firstF (cmp1 p lim) e = cmp1 p lim e := by
  rw [firstF_eq, if_pos (by simpa using h)]
set_option maxRecDepth 4000 in
theorem compileR1_holds (p : PolD) (ha : ∀ t ∈ p.ty, t.als.length ≤ 4) (v : Bool) : ∀ (n : Nat) (e : Xp) (x : D), e.lv ≤ n → IsE e x →
    ∃ y, IsE (if firstF (cmp1 p (limF v)) e == 0 then trF p e else zX) y ∧ Holds Tryz.prog gl 42 [.d x, .d (dPol p), .d (.bool v)] (.tup [.d y, .d (.int .i64 (firstF (cmp1 p (limF v)) e))])
  | 0, e, x, hn, _ => absurd hn (by have := lv_pos e; omega)
  | n + 1, e, x, hn, hx => by
    obtain ⟨y0, hy0⟩ := enc_ex _ (if firstF (cmp1 p (limF v)) e == 0 then trF p e else zX) (Nat.le_refl _)
    have hh : body Tryz.prog gl (Holds Tryz.prog gl) h42 42 [.d x, .d (dPol p), .d (.bool v)] fun r => ∃ y, r = .tup [.d y, .d (.int .i64 (firstF (cmp1 p (limF v)) e))] ∧ IsE (if firstF (cmp1 p (limF v)) e == 0 then trF p e else zX) y := by
      rw [body42]; intro hwf
      have hnode : Holds Tryz.prog gl 68 [.d x, .d (.bool true), .d (.bool v)] (.d (.int .i64 (nodeF e true (limF v)))) := nodeR_holds hx true v
      obtain ⟨nm, kd, L, rfl, hnm, hl, hd, hk⟩ := hx.inv
      have hcap := ex_cap hwf hd
      have hcapN := ex_capN hwf hnm
      simp only [sS, true_and, List.map_cons, List.map_nil, vget, bget, List.getD_cons_zero, List.getD_cons_succ, Box.vals, dI, Nat.le_refl, sP]
      refine callP_of hnode ?_
      simp only [sS, true_and, List.map_cons, List.map_nil, vget, bget, List.getD_cons_zero, List.getD_cons_succ, Box.vals, dI, Nat.le_refl]
      refine And.intro (fun h => ?_) (fun h => ?_)
      · simp only [build_ex0, sS, true_and, List.map_cons, List.map_nil, vget, bget, List.getD_cons_zero, List.getD_cons_succ, Box.vals, dI, Nat.le_refl, set_ex]
        have hc : cmp1 p (limF v) e = nodeF e true (limF v) := by rw [cmp1, if_pos h]
        rw [cmp1_at (by rw [hc]; simpa using h), hc]
        refine ⟨_, rfl, ?_⟩
        rw [if_neg (by simpa using h)]
        exact isE_zX
      have hn0 : nodeF e true (limF v) = 0 := by simpa using h
      have hform := node_form hn0
      have hk2 := form_kids hform
      simp only [parts_ex4, build_ex4, sS, true_and, List.map_cons, List.map_nil, vget, bget, List.getD_cons_zero, List.getD_cons_succ, Box.vals, dI, Nat.le_refl, set_ex]
      rw [cEw_ex]
      refine loopP_ex (fun i w => uniF p e.a (e.names.take i) = some w) (fun i w => [.d (.bool v), .d (.int .i64 ((i : Nat) : Int))]) (fun i w => [cEx e.op e.a e.rel e.b nm e.w kd, cPol p, cEx 0 0 0 0 (.sl .nil 0 []) zW (.sl .nil 0 []), cEw e.op e.a e.rel e.b (gown 1 []) w (gown 10 [])]) e.names.length zW rfl (fun i w hi hJ I hI => ?_) (fun w hJ I => ?_)
      · simp only [sS, true_and, List.map_cons, List.map_nil, vget, bget, List.getD_cons_zero, List.getD_cons_succ, Box.vals, dI, Nat.le_refl, sP, hnm.len, len_strs]
        refine And.intro (fun _ => ?_) (fun h => absurd h (by simp; omega))
        obtain ⟨t, ht⟩ := get_some hi
        have ht' : (dStrs e.names)[i]? = some (.str t) := by rw [dStrs, List.getElem?_map, ht]; rfl
        simp only [hnm.at ht', sS, true_and, List.map_cons, List.map_nil, vget, bget, List.getD_cons_zero, List.getD_cons_succ, Box.vals, dI, Nat.le_refl, sP, sW, Nat.zero_add]
        refine call2 (namedR_holds p ha e.a t) ?_
        simp only [sS, true_and, List.map_cons, List.map_nil, vget, bget, List.getD_cons_zero, List.getD_cons_succ, Box.vals, dI, Nat.le_refl, cells_set, len_cSet, set_four, part_set]
        have hu := uni_take p e.a ht
        rw [hJ] at hu
        refine And.intro (fun h => ?_) (fun h => ?_)
        · have hn : uniF p e.a e.names = none := uni_cut p e.a (i := i + 1) (by
            rw [hu, uniO]
            cases hf : lookF p e.a t with
            | none => rfl
            | some v => rw [hf] at h; cases h)
          simp only [sS, true_and, List.map_cons, List.map_nil, vget, bget, List.getD_cons_zero, List.getD_cons_succ, Box.vals, dI, Nat.le_refl, build_ex0, all_cEx]
          have hc : cmp1 p (limF v) e = 11 := by rw [cmp1, if_neg (by simp [hn0]), hn]; rfl
          rw [cmp1_at (by rw [hc]; decide), hc]
          refine ⟨_, rfl, ?_⟩
          rw [if_neg (by decide)]
          exact isE_zX
        · obtain ⟨u, hv⟩ : ∃ u, lookF p e.a t = some u := by
            cases hf : lookF p e.a t with
            | none => rw [hf] at h; cases h
            | some v => exact ⟨v, rfl⟩
          rw [uniO, hv] at hu
          rw [hv]
          simp only [Option.getD_some, part_cEw5, sS, true_and, List.map_cons, List.map_nil, vget, bget, List.getD_cons_zero, List.getD_cons_succ, Box.vals, dI, Nat.le_refl]
          refine callP_of (unionR_holds w u) ?_
          simp only [sS, true_and, List.map_cons, List.map_nil, vget, bget, List.getD_cons_zero, List.getD_cons_succ, Box.vals, dI, Nat.le_refl, cells_set, len_cSet, at_cEw5, len_cEw]
          refine ⟨by decide, ?_⟩
          refine bindO_to (add_up hi hcapN) ?_
          exact hI _ hu
      · rw [List.take_length] at hJ
        have hc : cmp1 p (limF v) e = 0 := by rw [cmp1, if_neg (by simp [hn0]), hJ]; rfl
        rw [cmp1_go hc]
        simp only [sS, true_and, List.map_cons, List.map_nil, vget, bget, List.getD_cons_zero, List.getD_cons_succ, Box.vals, dI, Nat.le_refl, sP, hnm.len, len_strs, part_cEw5]
        refine And.intro (fun h => absurd h (by simp)) (fun _ => ?_)
        refine And.intro (fun h9 => ?_) (fun h9 => ?_)
        · have h9' : e.op = 9 := by simpa using h9
          obtain ⟨f1, f2, f3⟩ := form9 hform h9'
          refine callP_of (countR_holds w) ?_
          simp only [sS, true_and, List.map_cons, List.map_nil, vget, bget, List.getD_cons_zero, List.getD_cons_succ, Box.vals, dI, Nat.le_refl, listW_nil]
          refine And.intro (fun hz => ?_) (fun hz => ?_)
          · simp only [parts_ex4, build_ex4, sS, true_and, List.map_cons, List.map_nil, vget, bget, List.getD_cons_zero, List.getD_cons_succ, Box.vals, dI, Nat.le_refl, all_cEw, len_cEw]
            rw [cEw_ex]
            have hT : trF p e = .mk 8 e.a 1 e.a [] zW (trF.go p e.kids) := by
              rw [trF_eq, if_pos h9, hJ, Option.getD_some, if_pos hz, f3]; rfl
            refine loopP_ex (fun i M => firstF.go (cmp1 p (limF v)) (e.kids.take i) = 0 ∧ Gath (trF p) (e.kids.take i) M) (fun i M => [.d (.bool v), .d (.int .i64 ((i : Nat) : Int))]) (fun i M => [cEx e.op e.a e.rel e.b nm e.w kd, cPol p, cEx 0 0 0 0 (.sl .nil 0 []) zW (.sl .nil 0 []), cEw (8) (e.a) (1) (e.a) (gown 1 []) zW (gown 10 M)]) L.length [] ⟨rfl, Gath.nil _⟩ (fun i M hi hJ I hI => ?_) (fun M hJ I => ?_)
            · simp only [sS, true_and, List.map_cons, List.map_nil, vget, bget, List.getD_cons_zero, List.getD_cons_succ, Box.vals, dI, Nat.le_refl, sP, hd.len]
              refine And.intro (fun _ => ?_) (fun h => absurd h (by simp; omega))
              obtain ⟨y, hy⟩ := get_some hi
              obtain ⟨k, hky⟩ := get_some (show i < e.kids.length by omega)
              have hek := hk i k y hky hy
              have hlt := Xp.kid_lt hky
              simp only [hd.at hy, hek.load, sS, true_and, List.map_cons, List.map_nil, vget, bget, List.getD_cons_zero, List.getD_cons_succ, Box.vals, dI, Nat.le_refl, sP]
              obtain ⟨z, hz, hzh⟩ := compileR1_holds p ha v n k y (by omega) hek
              obtain ⟨cs, c1, c2, c3, c4⟩ := hz.cells
              refine call2 hzh ?_
              simp only [c1, c2, c3, c4, sS, true_and, List.map_cons, List.map_nil, vget, bget, List.getD_cons_zero, List.getD_cons_succ, Box.vals, dI, Nat.le_refl]
              have ht := firsts_take hky hJ.1
              refine And.intro (fun h' => ?_) (fun h' => ?_)
              · have hne : firstF (cmp1 p (limF v)) k ≠ 0 := by simpa using h'
                have hgo : firstF.go (cmp1 p (limF v)) e.kids = firstF (cmp1 p (limF v)) k := by rw [firsts_ne (i := i + 1) (by rw [ht]; exact hne), ht]
                simp only [build_ex0, sS, true_and, List.map_cons, List.map_nil, vget, bget, List.getD_cons_zero, List.getD_cons_succ, Box.vals, dI, Nat.le_refl, all_cEx]
                rw [hgo]
                refine ⟨_, rfl, ?_⟩
                rw [if_neg (by simpa using hne)]
                exact isE_zX
              · have h0 : firstF (cmp1 p (limF v)) k = 0 := by simpa using h'
                rw [h0, if_pos (by rfl)] at hz
                simp only [get_cEw9, parts_one, el_one, hz.fit, sS, true_and, List.map_cons, List.map_nil, vget, bget, List.getD_cons_zero, List.getD_cons_succ, Box.vals, dI, Nat.le_refl]
                have hM := hJ.2.1
                rw [List.length_take] at hM
                refine app_gown (elems_full _ _) ?_ ?_
                · show (_ + 1) * 112 ≤ _; omega
                simp only [cells_gown, set_cEw9, at_cEw9, len_cEw, List.length_singleton, sS, true_and, List.map_cons, List.map_nil, vget, bget, List.getD_cons_zero, List.getD_cons_succ, Box.vals, dI, Nat.le_refl]
                refine ⟨by decide, ?_⟩
                refine bindO_to (add_up hi hcap) ?_
                refine hI _ ⟨by rw [ht, h0], ?_⟩
                rw [take_get hky]
                exact hJ.2.snoc hz
            · simp only [sS, true_and, List.map_cons, List.map_nil, vget, bget, List.getD_cons_zero, List.getD_cons_succ, Box.vals, dI, Nat.le_refl, sP, hd.len, part_cEw, cells_ex, len_cEx, all_cEx]
              refine And.intro (fun h => absurd h (by simp)) (fun _ => ?_)
              rw [hl, List.take_length] at hJ
              rw [hJ.1]
              refine ⟨_, rfl, ?_⟩
              rw [if_pos (by rfl), hT]
              exact hJ.2.isE (trs_len _) (fun i k => trs_get) _ _ _ _ [] _
          · have hT : trF p e = .mk e.op e.a e.rel e.b [] w (trF.go p e.kids) := by
              rw [trF_eq, if_pos h9, hJ, Option.getD_some, if_neg (by simp [hz]), f1, f2, f3, h9']; rfl
            refine loopP_ex (fun i M => firstF.go (cmp1 p (limF v)) (e.kids.take i) = 0 ∧ Gath (trF p) (e.kids.take i) M) (fun i M => [.d (.bool v), .d (.int .i64 ((i : Nat) : Int))]) (fun i M => [cEx e.op e.a e.rel e.b nm e.w kd, cPol p, cEx 0 0 0 0 (.sl .nil 0 []) zW (.sl .nil 0 []), cEw (e.op) (e.a) (e.rel) (e.b) (gown 1 []) w (gown 10 M)]) L.length [] ⟨rfl, Gath.nil _⟩ (fun i M hi hJ I hI => ?_) (fun M hJ I => ?_)
            · simp only [sS, true_and, List.map_cons, List.map_nil, vget, bget, List.getD_cons_zero, List.getD_cons_succ, Box.vals, dI, Nat.le_refl, sP, hd.len]
              refine And.intro (fun _ => ?_) (fun h => absurd h (by simp; omega))
              obtain ⟨y, hy⟩ := get_some hi
              obtain ⟨k, hky⟩ := get_some (show i < e.kids.length by omega)
              have hek := hk i k y hky hy
              have hlt := Xp.kid_lt hky
              simp only [hd.at hy, hek.load, sS, true_and, List.map_cons, List.map_nil, vget, bget, List.getD_cons_zero, List.getD_cons_succ, Box.vals, dI, Nat.le_refl, sP]
              obtain ⟨z, hz, hzh⟩ := compileR1_holds p ha v n k y (by omega) hek
              obtain ⟨cs, c1, c2, c3, c4⟩ := hz.cells
              refine call2 hzh ?_
              simp only [c1, c2, c3, c4, sS, true_and, List.map_cons, List.map_nil, vget, bget, List.getD_cons_zero, List.getD_cons_succ, Box.vals, dI, Nat.le_refl]
              have ht := firsts_take hky hJ.1
              refine And.intro (fun h' => ?_) (fun h' => ?_)
              · have hne : firstF (cmp1 p (limF v)) k ≠ 0 := by simpa using h'
                have hgo : firstF.go (cmp1 p (limF v)) e.kids = firstF (cmp1 p (limF v)) k := by rw [firsts_ne (i := i + 1) (by rw [ht]; exact hne), ht]
                simp only [build_ex0, sS, true_and, List.map_cons, List.map_nil, vget, bget, List.getD_cons_zero, List.getD_cons_succ, Box.vals, dI, Nat.le_refl, all_cEx]
                rw [hgo]
                refine ⟨_, rfl, ?_⟩
                rw [if_neg (by simpa using hne)]
                exact isE_zX
              · have h0 : firstF (cmp1 p (limF v)) k = 0 := by simpa using h'
                rw [h0, if_pos (by rfl)] at hz
                simp only [get_cEw9, parts_one, el_one, hz.fit, sS, true_and, List.map_cons, List.map_nil, vget, bget, List.getD_cons_zero, List.getD_cons_succ, Box.vals, dI, Nat.le_refl]
                have hM := hJ.2.1
                rw [List.length_take] at hM
                refine app_gown (elems_full _ _) ?_ ?_
                · show (_ + 1) * 112 ≤ _; omega
                simp only [cells_gown, set_cEw9, at_cEw9, len_cEw, List.length_singleton, sS, true_and, List.map_cons, List.map_nil, vget, bget, List.getD_cons_zero, List.getD_cons_succ, Box.vals, dI, Nat.le_refl]
                refine ⟨by decide, ?_⟩
                refine bindO_to (add_up hi hcap) ?_
                refine hI _ ⟨by rw [ht, h0], ?_⟩
                rw [take_get hky]
                exact hJ.2.snoc hz
            · simp only [sS, true_and, List.map_cons, List.map_nil, vget, bget, List.getD_cons_zero, List.getD_cons_succ, Box.vals, dI, Nat.le_refl, sP, hd.len, part_cEw, cells_ex, len_cEx, all_cEx]
              refine And.intro (fun h => absurd h (by simp)) (fun _ => ?_)
              rw [hl, List.take_length] at hJ
              rw [hJ.1]
              refine ⟨_, rfl, ?_⟩
              rw [if_pos (by rfl), hT]
              exact hJ.2.isE (trs_len _) (fun i k => trs_get) _ _ _ _ [] _
        · have h9' : e.op ≠ 9 := by simpa using h9
          obtain ⟨f1, _⟩ := formN hform h9'
          have hw : w = zW := by
            rw [f1] at hJ
            cases hJ; rfl
          have hT : trF p e = .mk e.op e.a e.rel e.b [] w (trF.go p e.kids) := by
            rw [trF_eq, if_neg (by simp [h9]), hw]
          refine loopP_ex (fun i M => firstF.go (cmp1 p (limF v)) (e.kids.take i) = 0 ∧ Gath (trF p) (e.kids.take i) M) (fun i M => [.d (.bool v), .d (.int .i64 ((i : Nat) : Int))]) (fun i M => [cEx e.op e.a e.rel e.b nm e.w kd, cPol p, cEx 0 0 0 0 (.sl .nil 0 []) zW (.sl .nil 0 []), cEw (e.op) (e.a) (e.rel) (e.b) (gown 1 []) w (gown 10 M)]) L.length [] ⟨rfl, Gath.nil _⟩ (fun i M hi hJ I hI => ?_) (fun M hJ I => ?_)
          · simp only [sS, true_and, List.map_cons, List.map_nil, vget, bget, List.getD_cons_zero, List.getD_cons_succ, Box.vals, dI, Nat.le_refl, sP, hd.len]
            refine And.intro (fun _ => ?_) (fun h => absurd h (by simp; omega))
            obtain ⟨y, hy⟩ := get_some hi
            obtain ⟨k, hky⟩ := get_some (show i < e.kids.length by omega)
            have hek := hk i k y hky hy
            have hlt := Xp.kid_lt hky
            simp only [hd.at hy, hek.load, sS, true_and, List.map_cons, List.map_nil, vget, bget, List.getD_cons_zero, List.getD_cons_succ, Box.vals, dI, Nat.le_refl, sP]
            obtain ⟨z, hz, hzh⟩ := compileR1_holds p ha v n k y (by omega) hek
            obtain ⟨cs, c1, c2, c3, c4⟩ := hz.cells
            refine call2 hzh ?_
            simp only [c1, c2, c3, c4, sS, true_and, List.map_cons, List.map_nil, vget, bget, List.getD_cons_zero, List.getD_cons_succ, Box.vals, dI, Nat.le_refl]
            have ht := firsts_take hky hJ.1
            refine And.intro (fun h' => ?_) (fun h' => ?_)
            · have hne : firstF (cmp1 p (limF v)) k ≠ 0 := by simpa using h'
              have hgo : firstF.go (cmp1 p (limF v)) e.kids = firstF (cmp1 p (limF v)) k := by rw [firsts_ne (i := i + 1) (by rw [ht]; exact hne), ht]
              simp only [build_ex0, sS, true_and, List.map_cons, List.map_nil, vget, bget, List.getD_cons_zero, List.getD_cons_succ, Box.vals, dI, Nat.le_refl, all_cEx]
              rw [hgo]
              refine ⟨_, rfl, ?_⟩
              rw [if_neg (by simpa using hne)]
              exact isE_zX
            · have h0 : firstF (cmp1 p (limF v)) k = 0 := by simpa using h'
              rw [h0, if_pos (by rfl)] at hz
              simp only [get_cEw9, parts_one, el_one, hz.fit, sS, true_and, List.map_cons, List.map_nil, vget, bget, List.getD_cons_zero, List.getD_cons_succ, Box.vals, dI, Nat.le_refl]
              have hM := hJ.2.1
              rw [List.length_take] at hM
              refine app_gown (elems_full _ _) ?_ ?_
              · show (_ + 1) * 112 ≤ _; omega
              simp only [cells_gown, set_cEw9, at_cEw9, len_cEw, List.length_singleton, sS, true_and, List.map_cons, List.map_nil, vget, bget, List.getD_cons_zero, List.getD_cons_succ, Box.vals, dI, Nat.le_refl]
              refine ⟨by decide, ?_⟩
              refine bindO_to (add_up hi hcap) ?_
              refine hI _ ⟨by rw [ht, h0], ?_⟩
              rw [take_get hky]
              exact hJ.2.snoc hz
          · simp only [sS, true_and, List.map_cons, List.map_nil, vget, bget, List.getD_cons_zero, List.getD_cons_succ, Box.vals, dI, Nat.le_refl, sP, hd.len, part_cEw, cells_ex, len_cEx, all_cEx]
            refine And.intro (fun h => absurd h (by simp)) (fun _ => ?_)
            rw [hl, List.take_length] at hJ
            rw [hJ.1]
            refine ⟨_, rfl, ?_⟩
            rw [if_pos (by rfl), hT]
            exact hJ.2.isE (trs_len _) (fun i k => trs_get) _ _ _ _ [] _
    obtain ⟨r, ⟨y, rfl, hy⟩, hr⟩ := holds_some hm1 (enters_some (fn := Tryz.f42) (by kernel_rfl) (by kernel_rfl) (by kernel_rfl)) ⟨_, y0, rfl, hy0⟩ hh
    exact ⟨y, hy, hr⟩
set_option maxRecDepth 4000 in
theorem compileR_holds {e : Xp} {x : D} (hx : IsE e x) (p : PolD) (ha : ∀ t ∈ p.ty, t.als.length ≤ 4) (v : Bool) :
    ∃ y, IsE (cmpT p v e) y ∧ Holds Tryz.prog gl 14 [.d x, .d (dPol p), .d (.bool v)] (.tup [.d y, .d (.int .i64 (cmpE p v e))]) := by
  obtain ⟨y0, hy0⟩ := enc_ex _ (cmpT p v e) (Nat.le_refl _)
  have hh : body Tryz.prog gl (Holds Tryz.prog gl) h14 14 [.d x, .d (dPol p), .d (.bool v)] fun r => ∃ y, r = .tup [.d y, .d (.int .i64 (cmpE p v e))] ∧ IsE (cmpT p v e) y := by
    rw [body14]; intro hwf
    have h1 := levels17_holds e.lv e x 12 (Nat.le_refl _) hx (by decide)
    obtain ⟨z, hz, hzh⟩ := compileR1_holds p ha v e.lv e x (Nat.le_refl _) hx
    obtain ⟨cs, c1, c2, c3, c4⟩ := hx.cells
    obtain ⟨cs', d1, d2, d3, d4⟩ := hz.cells
    simp only [sS, true_and, List.map_cons, List.map_nil, vget, bget, List.getD_cons_zero, List.getD_cons_succ, Box.vals, dI, Nat.le_refl, sP, c1, c2, c3]
    refine callP_of h1 ?_
    simp only [sS, true_and, List.map_cons, List.map_nil, vget, bget, List.getD_cons_zero, List.getD_cons_succ, Box.vals, dI, Nat.le_refl]
    refine And.intro (fun h => ?_) (fun h => ?_)
    · have e1 : cmpE p v e = 4 := by rw [cmpE, if_pos (by have := of_decide_eq_true h; omega)]
      simp only [build_ex0, sS, true_and, List.map_cons, List.map_nil, vget, bget, List.getD_cons_zero, List.getD_cons_succ, Box.vals, dI, Nat.le_refl, set_ex]
      rw [cmpT, e1]
      exact ⟨_, rfl, isE_zX⟩
    · have e1 : cmpE p v e = firstF (cmp1 p (limF v)) e := by rw [cmpE, if_neg (by have := of_decide_eq_false h; omega)]
      refine call2 hzh ?_
      simp only [d1, d2, d3, d4, sS, true_and, List.map_cons, List.map_nil, vget, bget, List.getD_cons_zero, List.getD_cons_succ, Box.vals, dI, Nat.le_refl]
      rw [cmpT, e1]
      exact ⟨_, rfl, hz⟩
  obtain ⟨r, ⟨y, rfl, hy⟩, hr⟩ := holds_some hm1 (enters_some (fn := Tryz.f14) (by kernel_rfl) (by kernel_rfl) (by kernel_rfl)) ⟨_, y0, rfl, hy0⟩ hh
  exact ⟨y, hy, hr⟩
end Go.Proofs.YtcnnhnjcnekhcaaGreat.Ab
/-
  EXPRESSIONS THAT ARE THE SAME.
-/
namespace Go.Proofs.YtcnnhnjcnekhcaaGreat.Ab
open Go
/-- the same but for words of a set that do not count -/
inductive SameX : Xp → Xp → Prop
  | mk (op a rel b : Int) (names : List (List UInt8)) (w w' : Nat → BitVec 64) (kids kids' : List Xp) (hw : eqW w w' = true) (hl : kids.length = kids'.length)
      (hk : ∀ (i : Nat) k k', kids[i]? = some k → kids'[i]? = some k' → SameX k k') : SameX (.mk op a rel b names w kids) (.mk op a rel b names w' kids')
theorem SameX.refl : ∀ (n : Nat) (e : Xp), e.lv ≤ n → SameX e e
  | 0, e, h => absurd h (by have := lv_pos e; omega)
  | n + 1, e, h => by
    have hk : ∀ (i : Nat) k, e.kids[i]? = some k → SameX k k := fun i k hk => SameX.refl n k (by have := Xp.kid_lt hk; omega)
    cases e with
    | mk op a rel b names w kids => exact .mk op a rel b names w w kids kids (eqW_refl w) rfl (fun i k k' h1 h2 => by
        rw [h1] at h2; cases h2; exact hk i k h1)
theorem SameX.inv {e f : Xp} (h : SameX e f) : e.op = f.op ∧ e.a = f.a ∧ e.rel = f.rel ∧ e.b = f.b ∧ e.names = f.names ∧ eqW e.w f.w = true ∧ e.kids.length = f.kids.length ∧ ∀ (i : Nat) k k', e.kids[i]? = some k → f.kids[i]? = some k' → SameX k k' := by
  cases h with
  | mk op a rel b names w w' kids kids' hw hl hk => exact ⟨rfl, rfl, rfl, rfl, rfl, hw, hl, hk⟩
theorem texts_same (l : List (List UInt8)) {x y : D} (hx : IsD 1 (dStrs l) x) (hy : IsD 1 (dStrs l) y) (hl : l.length ≤ maxLen) : Holds Tryz.prog gl 43 [.d x, .d y] (.d (.bool true)) := by
  refine holds_of_body hm1 (enters_some (fn := Tryz.f43) (by kernel_rfl) (by kernel_rfl) (by kernel_rfl)) (h := h43) ?_; rw [body43]; intro hwf
  simp only [sS, true_and, List.map_cons, List.map_nil, vget, bget, List.getD_cons_zero, List.getD_cons_succ, Box.vals, dI, Nat.le_refl, hx.len, hy.len, len_strs, bne_self_eq_false]
  refine And.intro (fun h => by cases h) (fun _ => ?_)
  refine loopP_count (fun i => [.d x, .d y, .d (.int .i64 ((i : Nat) : Int))]) (fun i => []) l.length (fun i hi I hI => ?_) (fun I => ?_)
  · simp only [sS, true_and, List.map_cons, List.map_nil, vget, bget, List.getD_cons_zero, List.getD_cons_succ, Box.vals, dI, Nat.le_refl, hx.len, len_strs]
    refine And.intro (fun _ => ?_) (fun h => absurd h (by simp; omega))
    obtain ⟨t, ht⟩ := get_some hi
    have ht' : (dStrs l)[i]? = some (.str t) := by rw [dStrs, List.getElem?_map, ht]; rfl
    simp only [hx.at ht', hy.at ht', sS, true_and, List.map_cons, List.map_nil, vget, bget, List.getD_cons_zero, List.getD_cons_succ, Box.vals, dI, Nat.le_refl, sW, Nat.zero_add, neq_str, beq_self_eq_true, Bool.not_true]
    refine And.intro (fun h => by cases h) (fun _ => ?_)
    exact bindO_to (add_up hi hl) hI
  · simp only [sS, true_and, List.map_cons, List.map_nil, vget, bget, List.getD_cons_zero, List.getD_cons_succ, Box.vals, dI, Nat.le_refl, hx.len, len_strs]
    refine And.intro (fun h => absurd h (by simp)) (fun _ => trivial)
set_option maxRecDepth 4000 in
theorem same_holds : ∀ (n : Nat) (e f : Xp) (x y : D), e.lv ≤ n → SameX e f → IsE e x → IsE f y → Holds Tryz.prog gl 15 [.d x, .d y] (.d (.bool true))
  | 0, e, f, x, y, hn, _, _, _ => absurd hn (by have := lv_pos e; omega)
  | n + 1, e, f, x, y, hn, hs, hx, hy => by
    refine holds_of_body hm1 (enters_some (fn := Tryz.f15) (by kernel_rfl) (by kernel_rfl) (by kernel_rfl)) (h := h15) ?_; rw [body15]; intro hwf
    obtain ⟨s1, s2, s3, s4, s5, s6, s7, s8⟩ := hs.inv
    obtain ⟨nm, kd, L, rfl, hnm, hl, hd, hk⟩ := hx.inv
    obtain ⟨nm', kd', L', rfl, hnm', hl', hd', hk'⟩ := hy.inv
    have hcap := ex_cap hwf hd
    have hcapN := ex_capN hwf hnm
    rw [← s5] at hnm'
    have hlL : L'.length = L.length := by omega
    simp only [sS, true_and, List.map_cons, List.map_nil, vget, bget, List.getD_cons_zero, List.getD_cons_succ, Box.vals, dI, Nat.le_refl, s1, s2, s3, s4, s6, bne_self_eq_false, Bool.not_true]
    refine And.intro (fun h => by cases h) (fun _ => ?_)
    refine And.intro (fun h => by cases h) (fun _ => ?_)
    refine And.intro (fun h => by cases h) (fun _ => ?_)
    refine And.intro (fun h => by cases h) (fun _ => ?_)
    refine And.intro (fun h => by cases h) (fun _ => ?_)
    refine callP_of (texts_same e.names hnm hnm' hcapN) ?_
    simp only [sS, true_and, List.map_cons, List.map_nil, vget, bget, List.getD_cons_zero, List.getD_cons_succ, Box.vals, dI, Nat.le_refl, hd.len, hd'.len, hlL, bne_self_eq_false, Bool.not_true]
    refine And.intro (fun h => by cases h) (fun _ => ?_)
    refine And.intro (fun h => by cases h) (fun _ => ?_)
    refine loopP_count (fun i => [.d (.int .i64 ((i : Nat) : Int))]) (fun i => [cEx f.op f.a f.rel f.b nm e.w kd, cEx f.op f.a f.rel f.b nm' f.w kd']) L.length (fun i hi I hI => ?_) (fun I => ?_)
    · simp only [sS, true_and, List.map_cons, List.map_nil, vget, bget, List.getD_cons_zero, List.getD_cons_succ, Box.vals, dI, Nat.le_refl, hd.len]
      refine And.intro (fun _ => ?_) (fun h => absurd h (by simp; omega))
      obtain ⟨y, hy⟩ := get_some hi
      obtain ⟨k, hky⟩ := get_some (show i < e.kids.length by omega)
      obtain ⟨y', hy'⟩ := get_some (show i < L'.length by omega)
      obtain ⟨k', hky'⟩ := get_some (show i < f.kids.length by omega)
      have hek := hk i k y hky hy
      have hek' := hk' i k' y' hky' hy'
      have hlt := Xp.kid_lt hky
      simp only [hd.at hy, hd'.at hy', hek.load, hek'.load, sS, true_and, List.map_cons, List.map_nil, vget, bget, List.getD_cons_zero, List.getD_cons_succ, Box.vals, dI, Nat.le_refl]
      refine callP_of (same_holds n k k' y y' (by omega) (s8 i k k' hky hky') hek hek') ?_
      simp only [sS, true_and, List.map_cons, List.map_nil, vget, bget, List.getD_cons_zero, List.getD_cons_succ, Box.vals, dI, Nat.le_refl, Bool.not_true]
      refine And.intro (fun h => by cases h) (fun _ => ?_)
      exact bindO_to (add_up hi hcap) hI
    · simp only [sS, true_and, List.map_cons, List.map_nil, vget, bget, List.getD_cons_zero, List.getD_cons_succ, Box.vals, dI, Nat.le_refl, hd.len]
      refine And.intro (fun h => absurd h (by simp)) (fun _ => trivial)
end Go.Proofs.YtcnnhnjcnekhcaaGreat.Ab
