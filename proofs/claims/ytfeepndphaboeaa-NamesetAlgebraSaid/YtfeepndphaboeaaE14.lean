/-
  THE ALGEBRA OF SETS OF NAMES: plain laws.
-/
import Derived.Test.YtfeepndphaboeaaE13
set_option linter.unusedVariables false
set_option linter.unusedSimpArgs false
namespace Go.Proofs.Ytfeepndphaboeaa.Ab
open Go

theorem has_sub (a b : Nat → BitVec 64) (m : Nat) : hasW (subW a b) m = (hasW a m && !hasW b m) := by
  unfold hasW subW
  rw [BitVec.getLsbD_and, BitVec.getLsbD_not]
  have : m % 64 < 64 := Nat.mod_lt _ (by decide)
  simp [this]
theorem has_comb (n : NsD) (i o all : Nat → BitVec 64) (m : Nat) : hasW (combW n i o all) m =
    if n.not then hasW all m && !(((n.all && hasW all m) || hasW i m) && !hasW o m) else (((n.all && hasW all m) || hasW i m) && !hasW o m) := by
  have h0 : hasW (if n.all then all else fun _ => 0) m = (n.all && hasW all m) := by
    cases n.all with
    | true => simp
    | false => simp only [Bool.false_eq_true, ↓reduceIte, Bool.false_and]; exact has_zero m
  unfold combW
  cases n.not with
  | true => simp only [↓reduceIte]; rw [has_sub, has_sub, has_or, h0]
  | false => simp only [Bool.false_eq_true, ↓reduceIte]; rw [has_sub, has_or, h0]
/-- each name twice, from behind -/
def twN (l : List (List UInt8)) : Nat → List (List UInt8)
  | 0 => []
  | i + 1 => twN l i ++ (match l[l.length - 1 - i]?, l[0]? with | some s, some t => [s, t] | _, _ => [])
theorem twN_len (l : List (List UInt8)) : ∀ i, (twN l i).length ≤ 2 * i
  | 0 => Nat.le_refl _
  | i + 1 => by
    have := twN_len l i
    rw [twN, List.length_append]
    cases l[l.length - 1 - i]? <;> cases l[0]? <;> simp <;> omega
theorem mem_tw (l : List (List UInt8)) (s : List UInt8) : ∀ i, i ≤ l.length → (s ∈ twN l i ↔ ∃ j, j < i ∧ (l[l.length - 1 - j]? = some s ∨ l[0]? = some s))
  | 0, _ => by simp [twN]
  | i + 1, hi => by
    obtain ⟨a, ha⟩ := get_some (l := l) (i := l.length - 1 - i) (by omega)
    obtain ⟨b, hb⟩ := get_some (l := l) (i := 0) (by omega)
    rw [twN, List.mem_append, mem_tw l s i (by omega), ha, hb]
    simp only [List.mem_cons, List.not_mem_nil, or_false, Option.some.injEq]
    constructor
    · rintro (⟨j, h1, h2⟩ | h)
      · exact ⟨j, by omega, h2⟩
      · refine ⟨i, by omega, ?_⟩
        rw [ha, Option.some.injEq]
        rcases h with h | h
        · exact .inl h.symm
        · exact .inr h.symm
    · rintro ⟨j, h1, h2⟩
      rcases Nat.lt_or_ge j i with h | h
      · exact .inl ⟨j, h, h2⟩
      · have : j = i := by omega
        subst this
        rw [ha, Option.some.injEq] at h2
        right
        rcases h2 with h2 | h2
        · exact .inl h2.symm
        · exact .inr h2.symm
theorem mem_tw_all (l : List (List UInt8)) (s : List UInt8) : s ∈ twN l l.length ↔ s ∈ l := by
  rw [mem_tw l s _ (Nat.le_refl _)]
  constructor
  · rintro ⟨j, _, h | h⟩
    · exact List.mem_of_getElem? h
    · exact List.mem_of_getElem? h
  · intro h
    obtain ⟨j, hj, rfl⟩ := List.mem_iff_getElem.1 h
    refine ⟨l.length - 1 - j, by omega, .inl ?_⟩
    rw [show l.length - 1 - (l.length - 1 - j) = j by omega]
    exact List.getElem?_eq_getElem hj
theorem allF_mem {F : List UInt8 → Option (Nat → BitVec 64)} {l m : List (List UInt8)} (h : ∀ s, s ∈ l ↔ s ∈ m) : allF F l = allF F m := by
  unfold allF
  rw [Bool.eq_iff_iff, List.all_eq_true, List.all_eq_true]
  exact ⟨fun hl s hs => hl s ((h s).2 hs), fun hm s hs => hm s ((h s).1 hs)⟩
theorem acc_mem {F : List UInt8 → Option (Nat → BitVec 64)} {l m : List (List UInt8)} (h : ∀ s, s ∈ l ↔ s ∈ m) (k : Nat) : hasW (accF orW F l fun _ => 0) k = hasW (accF orW F m fun _ => 0) k := by
  rw [has_acc, has_acc, Bool.eq_iff_iff, Bool.or_eq_true, Bool.or_eq_true, List.any_eq_true, List.any_eq_true]
  constructor
  · rintro (h1 | ⟨s, h1, h2⟩)
    · exact .inl h1
    · exact .inr ⟨s, (h s).1 h1, h2⟩
  · rintro (h1 | ⟨s, h1, h2⟩)
    · exact .inl h1
    · exact .inr ⟨s, (h s).2 h1, h2⟩
/-- what is meant is there -/
theorem one_in (e : EnvD) (s : List UInt8) (x : Nat → BitVec 64) (hx : oneF e s = some x) (m : Nat) (hm : m < 256) (h : hasW x m = true) : hasW (allW (clip (e.tys.length : Int))) m = true := by
  have hat : ∀ x, atF e s = some x → hasW x m = true → hasW (allW (clip (e.tys.length : Int))) m = true := by
    intro x hx h
    rw [atF] at hx
    split at hx
    · split at hx
      · rw [← Option.some.inj hx, has_and, Bool.and_eq_true] at h
        exact h.2
      · cases hx
    · cases hx
  cases hk : tyF e s with
  | none =>
    have e1 : oneF e s = atF e s := by rw [oneF, hk]
    rw [e1] at hx
    exact hat x hx h
  | some k =>
    by_cases h2 : k < 256
    · have e1 : oneF e s = some (ofW [(k : Int)] fun _ => 0) := by rw [oneF, hk]; exact if_pos h2
      rw [e1] at hx
      rw [← Option.some.inj hx, has_one k m hm, decide_eq_true_eq] at h
      have := first_lt hk
      rw [has_all m hm, decide_eq_true_eq]
      unfold clip
      omega
    · have e1 : oneF e s = atF e s := by rw [oneF, hk]; exact if_neg h2
      rw [e1] at hx
      exact hat x hx h
theorem acc_in (e : EnvD) (l : List (List UInt8)) (m : Nat) (hm : m < 256) (h : hasW (accF orW (oneF e) l fun _ => 0) m = true) : hasW (allW (clip (e.tys.length : Int))) m = true := by
  rw [has_acc, has_zero, Bool.false_or, List.any_eq_true] at h
  obtain ⟨s, _, h⟩ := h
  cases hx : oneF e s with
  | none => rw [hx] at h; simp only [Option.getD_none] at h; rw [has_zero] at h; cases h
  | some x => rw [hx, Option.getD_some] at h; exact one_in e s x hx m hm h
theorem typF_cases (n : NsD) (e : EnvD) : (allF (oneF e) n.names && allF (oneF e) n.ex) = false ∧ typF n e = none ∨
    (allF (oneF e) n.names && allF (oneF e) n.ex) = true ∧ typF n e = some (combW n (accF orW (oneF e) n.names fun _ => 0) (accF orW (oneF e) n.ex fun _ => 0) (allW (clip (e.tys.length : Int)))) := by
  rw [typF_eq, togF, togF]
  cases allF (oneF e) n.names <;> cases allF (oneF e) n.ex <;> simp
end Go.Proofs.Ytfeepndphaboeaa.Ab
