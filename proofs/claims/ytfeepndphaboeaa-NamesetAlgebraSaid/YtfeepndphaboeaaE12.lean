/-
  WHAT WAS WRITTEN IS MEANT.
-/
import Derived.Test.YtfeepndphaboeaaE11
set_option linter.unusedVariables false
set_option linter.unusedSimpArgs false
namespace Go.Proofs.Ytfeepndphaboeaa.Ab
open Go

theorem has_or (a b : Nat → BitVec 64) (m : Nat) : hasW (orW a b) m = (hasW a m || hasW b m) := by
  unfold hasW orW
  exact BitVec.getLsbD_or
theorem has_and (a b : Nat → BitVec 64) (m : Nat) : hasW (fun k => a k &&& b k) m = (hasW a m && hasW b m) := by
  unfold hasW
  exact BitVec.getLsbD_and
theorem has_acc (F : List UInt8 → Option (Nat → BitVec 64)) (m : Nat) : ∀ (l : List (List UInt8)) (s0 : Nat → BitVec 64), hasW (accF orW F l s0) m = (hasW s0 m || l.any fun n => hasW ((F n).getD fun _ => 0) m)
  | [], s0 => by simp [accF]
  | n :: l, s0 => by
    show hasW (accF orW F l (orW s0 ((F n).getD fun _ => 0))) m = _
    rw [has_acc F m l, has_or, List.any_cons, Bool.or_assoc]
theorem has_all (m : Nat) (hm : m < 256) : ∀ i, hasW (allW i) m = decide (m < i)
  | 0 => by
    have : hasW (allW 0) m = false := has_zero m
    rw [this]
    simp
  | i + 1 => by
    rw [allW, has_with _ _ m hm, has_all m hm i]
    by_cases h1 : m < i
    · have h2 : m < i + 1 := by omega
      simp [h1, h2]
    · by_cases h2 : m = i
      · subst h2; simp
      · have h3 : ¬ m < i + 1 := by omega
        have h4 : ¬ ((m : Int) = (i : Int)) := by omega
        simp [h1, h3, h4]
theorem clip_nat {n : Nat} (h : n ≤ 256) : clip (n : Int) = n := by unfold clip; omega
theorem mem_nm (w : Nat → BitVec 64) (l : List TyD) (s : List UInt8) : ∀ i, s ∈ nmW w l i ↔ ∃ j, j < i ∧ hasI w (j : Int) = true ∧ ∃ t, l[j]? = some t ∧ t.name = s
  | 0 => by simp [nmW]
  | i + 1 => by
    rw [nmW, List.mem_append, mem_nm w l s i]
    constructor
    · rintro (⟨j, h1, h2, h3⟩ | h)
      · exact ⟨j, by omega, h2, h3⟩
      · cases hi : hasI w (i : Int) with
        | false => rw [hi] at h; simp at h
        | true =>
          rw [hi] at h
          cases ht : l[i]? with
          | none => rw [ht] at h; simp at h
          | some t =>
            rw [ht] at h
            simp at h
            exact ⟨i, by omega, hi, t, ht, h.symm⟩
    · rintro ⟨j, h1, h2, t, h3, h4⟩
      rcases Nat.lt_or_ge j i with h | h
      · exact .inl ⟨j, h, h2, t, h3, h4⟩
      · have : j = i := by omega
        subst this
        right
        rw [h2, h3]
        simp [h4]
theorem mem_vc (m : Nat) (l : List (List UInt8)) (s : List UInt8) : ∀ i, s ∈ vcW m l i ↔ ∃ j, j < i ∧ j < 32 ∧ m / 2 ^ j % 2 = 1 ∧ l[j]? = some s
  | 0 => by simp [vcW]
  | i + 1 => by
    rw [vcW, List.mem_append, mem_vc m l s i]
    constructor
    · rintro (⟨j, h1, h2⟩ | h)
      · exact ⟨j, by omega, h2⟩
      · by_cases hb : i < 32 ∧ m / 2 ^ i % 2 = 1
        · rw [if_pos hb] at h
          cases ht : l[i]? with
          | none => rw [ht] at h; simp at h
          | some t =>
            rw [ht] at h
            simp at h
            exact ⟨i, by omega, hb.1, hb.2, by rw [ht, h]⟩
        · rw [if_neg hb] at h
          simp at h
    · rintro ⟨j, h1, h2, h3, h4⟩
      rcases Nat.lt_or_ge j i with h | h
      · exact .inl ⟨j, h, h2, h3, h4⟩
      · have : j = i := by omega
        subst this
        right
        rw [if_pos ⟨h2, h3⟩, h4]
        simp
theorem has_one (j m : Nat) (hm : m < 256) : hasW (ofW [(j : Int)] fun _ => 0) m = decide (m = j) := by
  rw [has_of _ _ m hm, has_zero]
  by_cases h : m = j
  · subst h; simp
  · have : ¬ ((m : Int) = (j : Int)) := by omega
    simp [h, this]
theorem togF_some {F : List UInt8 → Option (Nat → BitVec 64)} {l : List (List UInt8)} (h : ∀ s ∈ l, (F s).isSome = true) : togF F l = some (accF orW F l fun _ => 0) := by
  rw [togF, if_pos]
  exact List.all_eq_true.2 h
theorem wr_types (w : Nat → BitVec 64) (e : EnvD) (hlen : e.tys.length ≤ 256) (hd : ∀ i t, e.tys[i]? = some t → tyF e t.name = some i) (n : NsD) (ha : n.all = false) (hno : n.not = false)
    (hn : n.names = nmW w e.tys e.tys.length) (hx : n.ex = []) : ∃ v, typF n e = some v ∧ eqW v (fun k => w k &&& allW (clip (e.tys.length : Int)) k) = true := by
  have hone : ∀ s ∈ n.names, ∃ j, j < e.tys.length ∧ hasI w (j : Int) = true ∧ oneF e s = some (ofW [(j : Int)] fun _ => 0) := by
    intro s hs
    rw [hn, mem_nm] at hs
    obtain ⟨j, h1, h2, t, h3, h4⟩ := hs
    refine ⟨j, h1, h2, ?_⟩
    have := hd j t h3
    rw [h4] at this
    rw [oneF, this]
    exact if_pos (by omega)
  have h1 : togF (oneF e) n.names = some (accF orW (oneF e) n.names fun _ => 0) := togF_some fun s hs => by
    obtain ⟨j, _, _, h⟩ := hone s hs
    rw [h]; rfl
  have h2 : togF (oneF e) n.ex = some (accF orW (oneF e) n.ex fun _ => 0) := togF_some fun s hs => by rw [hx] at hs; simp at hs
  refine ⟨_, by rw [typF_eq, h1, h2], ?_⟩
  rw [eqW_has]
  intro m hm
  have hz : accF orW (oneF e) n.ex (fun _ => 0) = fun _ => 0 := by rw [hx]; rfl
  rw [combW, hno, ha, hz]
  simp only [Bool.false_eq_true, ↓reduceIte]
  have e1 : ∀ a : Nat → BitVec 64, hasW (subW (orW (fun _ => 0) a) fun _ => 0) m = hasW a m := by
    intro a
    have : subW (orW (fun _ => 0) a) (fun _ => 0) = a := by
      funext k
      simp only [subW, orW, z_or, and_n0]
    rw [this]
  rw [e1, has_acc, has_zero, Bool.false_or, has_and, clip_nat hlen, has_all m hm]
  rw [Bool.eq_iff_iff, List.any_eq_true, Bool.and_eq_true, decide_eq_true_eq]
  constructor
  · rintro ⟨s, hs, h⟩
    obtain ⟨j, hj, hw, ho⟩ := hone s hs
    rw [ho, Option.getD_some, has_one j m hm, decide_eq_true_eq] at h
    subst h
    refine ⟨?_, hj⟩
    rw [hasI] at hw
    simp only [Bool.and_eq_true] at hw
    simpa using hw.2
  · rintro ⟨hw, hj⟩
    obtain ⟨t, ht⟩ := get_some hj
    have hi : hasI w (m : Int) = true := by
      rw [hasI]
      have : (m : Int) < 256 := by omega
      simp [this, hw]
    refine ⟨t.name, ?_, ?_⟩
    · rw [hn, mem_nm]
      exact ⟨m, hj, hi, t, ht, rfl⟩
    · have ho : oneF e t.name = some (ofW [(m : Int)] fun _ => 0) := by rw [oneF, hd m t ht]; exact if_pos hm
      rw [ho, Option.getD_some, has_one m m hm]
      simp

theorem lowW_nat (w : Nat → BitVec 64) : lowW w = (((w 0).toNat % 2 ^ 32 : Nat) : Int) := by
  show (((w 0).toNat : Int)) % 2 ^ 32 = _
  generalize (w 0).toNat = q
  omega
theorem and_u32g {a b : Nat} (ha : a < 2 ^ 32) (hb : b < 2 ^ 32) : binV none .and (.d (.int .u32 (a : Int))) (.d (.int .u32 (b : Int))) = some (.d (.int .u32 ((a &&& b : Nat) : Int))) := by
  have h0 : ∀ q : Nat, q < 2 ^ 32 → (BitVec.ofInt 32 (q : Int)).toNat = q := fun q hq => by
    rw [BitVec.toNat_ofInt]
    omega
  have e : (BitVec.ofInt IntKind.u32.bits (a : Int) &&& BitVec.ofInt IntKind.u32.bits (b : Int)).toNat = a &&& b := by
    show (BitVec.ofInt 32 (a : Int) &&& BitVec.ofInt 32 (b : Int)).toNat = a &&& b
    rw [BitVec.toNat_and, h0 a ha, h0 b hb]
  have hlt : a &&& b < 2 ^ 32 := Nat.lt_of_le_of_lt Nat.and_le_left ha
  have hw : IntKind.u32.wrap ((a &&& b : Nat) : Int) = ((a &&& b : Nat) : Int) := by
    show ((a &&& b : Nat) : Int) % 2 ^ 32 = _
    omega
  simp only [binV, binD, intBop, ↓reduceIte, e, hw]
theorem has_bit (w : Nat → BitVec 64) {j : Nat} (h : j < 64) : (w 0).toNat.testBit j = hasW w j := by
  unfold hasW
  rw [show j / 64 = 0 by omega, show j % 64 = j by omega]
  rfl
theorem bit_one (m j : Nat) : m.testBit j = decide (m / 2 ^ j % 2 = 1) := Nat.testBit_eq_decide_div_mod_eq
theorem wr_perms (m : Nat) (hm : m < 2 ^ 32) (names : List (List UInt8)) (hd : ∀ i s, names[i]? = some s → idx names s = some i) (n : NsD) (ha : n.all = false) (hno : n.not = false)
    (hn : n.names = vcW m names names.length) (hx : n.ex = []) : ∃ v, lstF names 32 n = some v ∧ lowW v = ((m &&& ((allW (clip ((min names.length 32 : Nat) : Int))) 0).toNat % 2 ^ 32 : Nat) : Int) := by
  have hone : ∀ s ∈ n.names, ∃ j, j < names.length ∧ j < 32 ∧ m.testBit j = true ∧ numW names 32 s = some (ofW [(j : Int)] fun _ => 0) := by
    intro s hs
    rw [hn, mem_vc] at hs
    obtain ⟨j, h1, h2, h3, h4⟩ := hs
    refine ⟨j, h1, h2, by rw [bit_one]; exact decide_eq_true h3, ?_⟩
    rw [numW, hd j s h4]
    exact if_pos h2
  have h1 : togF (numW names 32) n.names = some (accF orW (numW names 32) n.names fun _ => 0) := togF_some fun s hs => by
    obtain ⟨j, _, _, _, h⟩ := hone s hs
    rw [h]; rfl
  have h2 : togF (numW names 32) n.ex = some (accF orW (numW names 32) n.ex fun _ => 0) := togF_some fun s hs => by rw [hx] at hs; simp at hs
  refine ⟨_, by rw [lstF, meanF_eq, h1, h2], ?_⟩
  have hz : accF orW (numW names 32) n.ex (fun _ => 0) = fun _ => 0 := by rw [hx]; rfl
  rw [combW, hno, ha, hz]
  simp only [Bool.false_eq_true, ↓reduceIte]
  have e1 : ∀ a : Nat → BitVec 64, subW (orW (fun _ => 0) a) (fun _ => 0) = a := by
    intro a
    funext k
    simp only [subW, orW, z_or, and_n0]
  rw [e1, lowW_nat]
  congr 1
  apply Nat.eq_of_testBit_eq
  intro j
  rw [Nat.testBit_mod_two_pow, Nat.testBit_and, Nat.testBit_mod_two_pow]
  by_cases hj : j < 32
  · rw [has_bit _ (by omega), has_bit _ (by omega), has_acc, has_zero, Bool.false_or, clip_nat (by omega), has_all j (by omega)]
    simp only [hj, decide_true, Bool.true_and]
    rw [Bool.eq_iff_iff, List.any_eq_true, Bool.and_eq_true, decide_eq_true_eq]
    constructor
    · rintro ⟨s, hs, h⟩
      obtain ⟨i, hi, h32, hb, ho⟩ := hone s hs
      rw [ho, Option.getD_some, has_one i j (by omega), decide_eq_true_eq] at h
      subst h
      exact ⟨hb, by omega⟩
    · rintro ⟨hb, hl⟩
      obtain ⟨s, hs⟩ := get_some (l := names) (i := j) (by omega)
      refine ⟨s, ?_, ?_⟩
      · rw [hn, mem_vc]
        rw [bit_one, decide_eq_true_eq] at hb
        exact ⟨j, by omega, hj, hb, hs⟩
      · have ho : numW names 32 s = some (ofW [(j : Int)] fun _ => 0) := by rw [numW, hd j s hs]; exact if_pos hj
        rw [ho, Option.getD_some, has_one j j (by omega)]
        simp
  · simp [hj]
/-- different names -/
def dfB (e : EnvD) : Nat → Bool
  | 0 => decide (e.tys.length ≤ 256)
  | i + 1 => dfB e i && (match e.tys[i]? with | some t => (((tyF e t.name).getD 0 : Nat) : Int) == (i : Int) | none => true)
theorem dfB_true (e : EnvD) : ∀ k, k ≤ e.tys.length → dfB e k = true → e.tys.length ≤ 256 ∧ ∀ i t, i < k → e.tys[i]? = some t → tyF e t.name = some i
  | 0, _, h => ⟨of_decide_eq_true h, fun i t hi => by omega⟩
  | k + 1, hk, h => by
    rw [dfB, Bool.and_eq_true] at h
    obtain ⟨h1, h2⟩ := dfB_true e k (by omega) h.1
    refine ⟨h1, fun i t hi ht => ?_⟩
    rcases Nat.lt_or_ge i k with hh | hh
    · exact h2 i t hh ht
    · have : i = k := by omega
      subst this
      have h3 := h.2
      rw [ht] at h3
      simp only [beq_iff_eq] at h3
      have hs : (tyF e t.name).isSome = true := by
        cases hf : tyF e t.name with
        | some _ => rfl
        | none =>
          exfalso
          rw [tyF] at hf
          have hp : isTy t.name t = true := by simp [isTy]
          have : ∀ (l : List TyD) (j : Nat), l[j]? = some t → first (isTy t.name) l = none → False := by
            intro l
            induction l with
            | nil => intro j hj; simp at hj
            | cons a l ih =>
              intro j hj hnone
              rw [first] at hnone
              by_cases hpa : isTy t.name a = true
              · rw [if_pos hpa] at hnone; cases hnone
              · rw [if_neg hpa] at hnone
                cases j with
                | zero => simp at hj; subst hj; exact hpa hp
                | succ j => exact ih j (by simpa using hj) (by simpa using hnone)
          exact this e.tys i ht hf
      obtain ⟨q, hq⟩ := Option.isSome_iff_exists.1 hs
      rw [hq, Option.getD_some] at h3
      rw [hq]
      congr 1
      omega
theorem names_diff (e : EnvD) (hd : ∀ i t, e.tys[i]? = some t → tyF e t.name = some i) : ∀ i s, (e.tys.map TyD.name)[i]? = some s → idx (e.tys.map TyD.name) s = some i := by
  intro i s hs
  refine first_at hs (beq_self_eq_true s) (fun j y hj hy => ?_)
  rw [List.getElem?_map] at hs hy
  obtain ⟨t, ht, rfl⟩ := Option.map_eq_some_iff.1 hs
  obtain ⟨u, hu, rfl⟩ := Option.map_eq_some_iff.1 hy
  obtain ⟨_, _, _, h3⟩ := first_some (hd i t ht)
  have := h3 j u hj hu
  rw [isTy, Bool.or_eq_false_iff] at this
  exact this.1
end Go.Proofs.Ytfeepndphaboeaa.Ab
