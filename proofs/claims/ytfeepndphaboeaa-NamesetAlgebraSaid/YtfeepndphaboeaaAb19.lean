/-
  THE ABSTRACT WALK: regions.
-/
import Derived.Test.YtfeepndphaboeaaAb18
set_option linter.unusedVariables false
set_option linter.unusedSimpArgs false
namespace Go.Proofs.Ytfeepndphaboeaa.Ab
open Go Go.RowKit

theorem reach_old : ∀ (l : List Oper) (acc : List Nat) (k : Nat), k < acc.length → (reach acc l)[k]? = acc[k]?
  | [], acc, k, _ => rfl
  | o :: l, acc, k, h => by
    rw [reach, reach_old l _ k (by simp; omega), List.getElem?_append_left h]

theorem mask_spec (acc : List Nat) (i : Nat) : ∀ (es : List Edge) (s : Nat), (es.foldl (fun s e => bif Region.binds .any e then s ||| 2 ^ e.on ||| acc.getD e.on 0 else s) s).testBit i = true →
    s.testBit i = true ∨ ∃ e ∈ es, Region.binds .any e = true ∧ (e.on = i ∨ (acc.getD e.on 0).testBit i = true)
  | [], s, h => .inl h
  | e :: es, s, h => by
    rw [List.foldl_cons] at h
    rcases mask_spec acc i es _ h with h | ⟨e', he, hb, h⟩
    · cases hb : Region.binds .any e with
      | false => rw [hb] at h; exact .inl h
      | true =>
        rw [hb] at h
        simp only [cond_true, Nat.testBit_or, Bool.or_eq_true] at h
        rcases h with (h | h) | h
        · exact .inl h
        · refine .inr ⟨e, by simp, hb, .inl ?_⟩
          simpa [Nat.testBit_two_pow] using h
        · exact .inr ⟨e, by simp, hb, .inr h⟩
    · exact .inr ⟨e', by simp [he], hb, h⟩

theorem reach_spec : ∀ (l : List Oper) (acc : List Nat) (k i : Nat), acc.length ≤ k → ((reach acc l).getD k 0).testBit i = true →
    ∃ o, l[k - acc.length]? = some o ∧ ∃ e ∈ o.after.toList, Region.binds .any e = true ∧ (e.on = i ∨ (e.on < k ∧ ((reach acc l).getD e.on 0).testBit i = true))
  | [], acc, k, i, hk, h => by
    rw [reach, List.getD_eq_getElem?_getD, List.getElem?_eq_none hk] at h
    simp at h
  | o :: l, acc, k, i, hk, h => by
    rw [reach] at h ⊢
    rcases Nat.eq_or_lt_of_le hk with hk' | hk'
    · subst hk'
      refine ⟨o, by simp, ?_⟩
      rw [List.getD_eq_getElem?_getD, reach_old l _ acc.length (by simp), List.getElem?_append_right (Nat.le_refl _)] at h
      simp only [Nat.sub_self, List.getElem?_cons_zero, Option.getD_some] at h
      rcases mask_spec acc i _ 0 h with h | ⟨e, he, hb, h⟩
      · simp at h
      · refine ⟨e, he, hb, h.imp id fun h => ?_⟩
        have hlt : e.on < acc.length := by
          rcases Nat.lt_or_ge e.on acc.length with h' | h'
          · exact h'
          · rw [List.getD_eq_getElem?_getD, List.getElem?_eq_none h'] at h; simp at h
        refine ⟨hlt, ?_⟩
        rw [List.getD_eq_getElem?_getD, reach_old l _ e.on (by simp; omega), List.getElem?_append_left hlt, ← List.getD_eq_getElem?_getD]
        exact h
    · obtain ⟨p, hp, hr⟩ := reach_spec l _ k i (by simp; omega) h
      refine ⟨p, ?_, hr⟩
      rw [← hp]
      have : k - acc.length = (k - (acc ++ [o.after.toList.foldl (fun s e => bif Region.binds .any e then s ||| 2 ^ e.on ||| acc.getD e.on 0 else s) 0]).length) + 1 := by simp; omega
      rw [this, List.getElem?_cons_succ]

section
variable {P : Program} {gl : Nat → Option D} {ops : Array Oper} {lin : Nat → Bool} {base : Nat}

/-- listed: with an operation all that it waits for -/
def Closed (ops : Array Oper) (listed : Array Bool) : Prop := ∀ (j : Nat) o, ops[j]? = some o → listed.getD j false = true → ∀ e ∈ o.after, Region.binds .any e = true → listed.getD e.on false = true

theorem Closed.waits {listed : Array Bool} (hc : Closed ops listed) {i : Nat} : ∀ (j : Nat) o, ops[j]? = some o → (∀ e ∈ o.after, Region.binds .any e = true → listed.getD e.on false = true) →
    ((reach [] ops.toList).getD j 0).testBit i = true → listed.getD i false = true := by
  intro j
  induction j using Nat.strongRecOn with
  | _ j ih =>
    intro o ho hall h
    obtain ⟨o', ho', e, he, hb, h⟩ := reach_spec ops.toList [] j i (Nat.zero_le _) h
    simp only [List.length_nil, Nat.sub_zero, Array.getElem?_toList] at ho'
    rw [ho] at ho'
    cases ho'
    have hl := hall e (by simpa using he) hb
    rcases h with h | ⟨hlt, h⟩
    · rw [← h]; exact hl
    · have hex : ∃ p, ops[e.on]? = some p := by
        have := (Array.getElem?_eq_some_iff.1 ho).1
        exact ⟨ops[e.on], by simp [show e.on < ops.size by omega]⟩
      obtain ⟨p, hp⟩ := hex
      exact ih e.on hlt p hp (hc e.on p hp hl) h

theorem Closed.set {listed : Array Bool} (hc : Closed ops listed) {j : Nat} (hj : j ∈ Region.ready .any ops listed) : Closed ops (listed.setIfInBounds j true) := by
  obtain ⟨_, o, ho, hall⟩ := mem_ready.1 hj
  intro k p hk hl e he hb
  by_cases hjk : j = k
  · subst hjk
    rw [ho] at hk; cases hk
    exact getD_set_true (hall e he hb)
  · rw [getD_set_ne false hjk] at hl
    exact getD_set_true (hc k p hk hl e he hb)

/-- whatever order is picked from here on -/
def AnyE (P : Program) (gl : Nat → Option D) (ops : Array Oper) (lin : Nat → Bool) (base : Nat) (Q : Env → Prop) : Nat → Array Bool → Env → Prop
  | 0, listed, e => Region.ready .any ops listed = [] ∧ Q e
  | fuel + 1, listed, e =>
    (Region.ready .any ops listed = [] → Q e) ∧
    ∀ i ∈ Region.ready .any ops listed, ∃ o, ops[i]? = some o ∧ step1 P gl (Holds P gl) ops.toList (base + rankOf ops.toList i) (lin i) o e (AnyE P gl ops lin base Q fuel (listed.setIfInBounds i true))

/-! ### steps in the world -/
theorem wanted_of {w0 : World} {St0 : Nat → Nat → Prop} {e : Env} {a : Act} {w : World} {g : Gh} (hI : Inv gl w0 St0 e a w g) {o : Oper} {c : Bool} (h : gsel ops.toList o e = some c) : Region.wanted o (yielded ops a.tmps) = c := by
  unfold gsel at h
  unfold Region.wanted
  split at h
  · rename_i hg; rw [hg]; exact (Option.some.inj h)
  · rename_i j want hg
    rw [hg]
    simp only
    unfold yielded
    split at h
    · rename_i t ht
      have ht' : (ops[j]?).bind (·.dst) = some t := by
        rw [Array.getElem?_toList] at ht
        cases hj : ops[j]? with
        | none => rw [hj] at ht; cases ht
        | some q => rw [hj] at ht; exact ht
      rw [ht']
      have hs := getD_slot hI t
      have hlt : ∀ {s}, e.slots.getD t (.v .undef) = s → s ≠ .v .undef → a.tmps[t]? = some (a.tmps.getD t undef) := by
        intro s h1 h2
        have : t < e.slots.length := by
          rcases Nat.lt_or_ge t e.slots.length with h | h
          · exact h
          · rw [List.getD_eq_getElem?_getD, List.getElem?_eq_none h] at h1; exact absurd h1.symm h2
        rw [← hI.size] at this
        simp [this]
      split at h
      · rename_i c' hx
        rw [hx] at hs
        have hv := hs.v_inv.data.bool_inv
        have h1 := hlt hx (by simp)
        simp only [Act.eval] at hv
        rw [hv] at h1
        simp only [Option.bind_some, h1]
        cases h
        cases c' <;> cases want <;> rfl
      · rename_i vs hx
        rw [hx] at hs
        obtain ⟨tv, hv, _⟩ := hs.t_inv
        have h1 := hlt hx (by simp)
        simp only [Act.eval] at hv
        rw [hv] at h1
        simp only [Option.bind_some, h1]
        cases h
        rfl
      · cases h
    · cases h

theorem skip_inv {w0 : World} {St0 : Nat → Nat → Prop} {e : Env} {a : Act} {w : World} {g : Gh} (hI : Inv gl w0 St0 e a w g) (dst : Option Nat) : Inv gl w0 St0 ⟨putSlot e.slots dst (.t []), e.boxes⟩ (a.put dst undef) w g :=
  hI.value (.t _ [] #[] rfl (fun j x v h => by simp at h))

/-- one step -/
theorem step1_wp {w0 : World} {St0 : Nat → Nat → Prop} {e : Env} {a : Act} {w : World} {g : Gh} (hI : Inv gl w0 St0 e a w g) {i id : Nat} {l : Bool} {o : Oper} (ho : ops[i]? = some o) {k : Env → Prop}
    (h : step1 P gl (Holds P gl) ops.toList id l o e k) {next : Act → World → Prop} {Q : Exit → Act → World → Prop} (hn : ∀ e' a' w' g', Inv gl w0 St0 e' a' w' g' → k e' → next a' w') : wpOp P ops Q i next a w := by
  have h' := guardP_iff.1 h
  unfold wpOp
  simp only [ho]
  split at h'
  · rename_i hg
    rw [if_pos (wanted_of hI hg)]
    exact .inl (evOp_goes hI h' next Q fun e' v w' g' hinv hk => hn e' _ w' g' hinv hk)
  · rename_i hg
    rw [if_neg (by rw [wanted_of hI hg]; simp)]
    exact hn _ _ _ _ (skip_inv hI o.dst) h'
  · exact h'.elim

/-- a step that goes through leaves a state that can be -/
theorem good_step {e e' : Env} (hG : Good gl e) {i id : Nat} {l : Bool} {o : Oper} (ho : ops[i]? = some o) (h : step1 P gl (Holds P gl) ops.toList id l o e (fun x => x = e')) : Good gl e' := by
  obtain ⟨w0, St0, a, w, g, hI⟩ := hG
  have := step1_wp (Q := fun _ _ _ => False) hI ho h (next := fun a' w' => ∃ g', Inv gl w0 St0 e' a' w' g') (fun e'' a' w' g' hinv hk => ⟨g', hk ▸ hinv⟩)
  have fromWp : ∀ {next : Act → World → Prop}, o.wp P a w next (fun _ _ _ => False) → ∃ a' w', next a' w' := by
    intro next h
    unfold Oper.wp at h
    generalize (execOp a.eval o).run P w = r at h
    cases r with
    | ok n w' =>
      cases n <;> simp only [Oper.upon] at h
      case value v => exact ⟨_, _, h⟩
      case skip => exact ⟨_, _, h⟩
      case defer d => exact ⟨_, _, h⟩
      case enter f args =>
        obtain ⟨e, w'', fr, hR, _⟩ := h []
        cases e with
        | returned v => exact ⟨_, _, hR⟩
        | panicked c => exact hR.elim
        | outgrown => obtain ⟨_, _, hf⟩ := hR; exact hf.elim
      case row row args =>
        obtain ⟨v, w'', hR, _⟩ := h default []
        exact ⟨_, _, hR⟩
    | halt x w' => cases x <;> simp only [Oper.upon] at h
  unfold wpOp at this
  simp only [ho] at this
  have fin' : ∃ a' w', ∃ g', Inv gl w0 St0 e' a' w' g' := by
    split at this
    · rcases this with h | ⟨_, _, _, hf⟩
      · exact fromWp h
      · exact hf.elim
    · exact ⟨_, _, this⟩
  obtain ⟨a', w', g', hinv⟩ := fin'
  exact ⟨w0, St0, a', w', g', hinv⟩

/-- **an operation that may come up now may be taken first** -/
theorem any_first {Q : Env → Prop} {i : Nat} {oi : Oper} (hi : ops[i]? = some oi) : ∀ (fuel : Nat) (listed : Array Bool) (e : Env) (src : Option (Nat × Slot)) (s : Slot) (U : Option (Nat × Box)),
    (∀ (j : Nat) oj, ops[j]? = some oj → j ≠ i → listed.getD j true = false → ((reach [] ops.toList).getD j 0).testBit i = false → indep ops (lin i) (lin j) oi oj = true) →
    Closed ops listed → i ∈ Region.ready .any ops listed → Good gl e → Out P gl (Holds P gl) ops (base + rankOf ops.toList i) (lin i) oi e src s U →
    AnyE P gl ops lin base Q fuel (listed.setIfInBounds i true) (fin oi src s U e) → AnyE P gl ops lin base Q (fuel + 1) listed e := by
  intro fuel
  induction fuel with
  | zero =>
    intro listed e src s U _ _ hr _ hO H
    refine ⟨fun h => (by rw [h] at hr; cases hr), fun j hj => ?_⟩
    by_cases hji : j = i
    · subst hji; exact ⟨oi, hi, hO.run H⟩
    · have := ready_mono hj hji
      rw [H.1] at this
      cases this
  | succ fuel ih =>
    intro listed e src s U hfree hc hr hG hO H
    refine ⟨fun h => (by rw [h] at hr; cases hr), fun j hj => ?_⟩
    by_cases hji : j = i
    · subst hji; exact ⟨oi, hi, hO.run H⟩
    · obtain ⟨oj, hoj, h1⟩ := H.2 j (ready_mono hj hji)
      obtain ⟨hjun, oj', hoj', hall⟩ := mem_ready.1 hj
      rw [hoj] at hoj'
      cases hoj'
      have hnw : ((reach [] ops.toList).getD j 0).testBit i = false := by
        cases hb : ((reach [] ops.toList).getD j 0).testBit i with
        | false => rfl
        | true =>
          have h2 := hc.waits j oj hoj hall hb
          have h0 := (mem_ready.1 hr).1
          rcases Nat.lt_or_ge i listed.size with h' | h'
          · simp [h'] at h0 h2; rw [h0] at h2; cases h2
          · simp [Array.getElem?_eq_none h'] at h2
      have hind := indep_iff (hfree j oj hoj hji hjun hnw)
      obtain ⟨src', s', U', hk, hO', _⟩ := step1_spec h1
      obtain ⟨d1, d2, d3⟩ := diamond hG hind hO hO'
      refine ⟨oj, hoj, d1.run ?_⟩
      rw [Array.setIfInBounds_comm _ _ (Ne.symm hji)] at hk
      refine ih (listed.setIfInBounds j true) _ src s U (fun k ok hk hki hun hno => ?_) (hc.set hj) (ready_mono hr (Ne.symm hji)) (good_step hG hoj (d1.run rfl)) d2 (by rw [← d3]; exact hk)
      refine hfree k ok hk hki ?_ hno
      by_cases hjk : j = k
      · subst hjk; exact hjun
      · rw [getD_set_ne true hjk] at hun; exact hun

theorem okRest_spec {R : List Nat} {i : Nat} {o : Oper} : ∀ {l : List Oper} {j : Nat}, okRest ops lin R i o l j = true → ∀ (n : Nat) p, l[n]? = some p → (R.getD (j + n) 0).testBit i = true ∨ indep ops (lin i) (lin (j + n)) o p = true
  | [], j, _, n, p, h => by simp at h
  | q :: l, j, h, n, p, hp => by
    simp only [okRest, Bool.and_eq_true, Bool.or_eq_true] at h
    cases n with
    | zero => simp at hp; subst hp; exact h.1
    | succ n =>
      have := okRest_spec h.2 n p (by simpa using hp)
      rw [show j + (n + 1) = j + 1 + n by omega]
      exact this

theorem evOps_eq {all : List Oper} {C : Con} (o : Oper) (rest : List Oper) (i : Nat) (e : Env) (k : Env → Prop) :
    evOps P gl C lin all base (o :: rest) i e k = step1 P gl C all (base + rankOf all i) (lin i) o e (fun e'' => evOps P gl C lin all base rest (i + 1) e'' k) := rfl

theorem any_lex {K : Env → Prop} : ∀ (l : List Oper) (i : Nat) (listed : Array Bool) (e : Env), (∀ j, l[j]? = ops[i + j]?) → (∀ j, j < i → listed.getD j false = true) → (∀ j, i ≤ j → j < ops.size → listed.getD j true = false) → listed.size = ops.size →
    Closed ops listed → Good gl e → okPairs ops lin (reach [] ops.toList) l i = true → evOps P gl (Holds P gl) lin ops.toList base l i e K → AnyE P gl ops lin base K l.length listed e
  | [], i, listed, e, hl, h1, h2, hsz, _, _, _, h => by
    refine ⟨?_, h⟩
    rw [List.eq_nil_iff_forall_not_mem]
    intro j hj
    obtain ⟨hun, o, ho, _⟩ := mem_ready.1 hj
    have hlt : j < ops.size := (Array.getElem?_eq_some_iff.1 ho).1
    have hle : ops.size ≤ i := by
      have := hl 0
      simp only [List.getElem?_nil, Nat.add_zero] at this
      exact Array.getElem?_eq_none_iff.1 this.symm
    have := h1 j (by omega)
    simp [hsz, hlt] at this hun
    rw [this] at hun; cases hun
  | o :: l, i, listed, e, hl, h1, h2, hsz, hc, hG, hB, h => by
    have h0 : ops[i]? = some o := by simpa using (hl 0).symm
    have hlt : i < ops.size := (Array.getElem?_eq_some_iff.1 h0).1
    simp only [okPairs, Bool.and_eq_true] at hB
    obtain ⟨⟨hr, hp⟩, hB'⟩ := hB
    have hready : i ∈ Region.ready .any ops listed := by
      refine mem_ready.2 ⟨h2 i (Nat.le_refl _) hlt, o, h0, fun e he hb => ?_⟩
      have := List.all_eq_true.1 hr e (by simpa using he)
      rw [hb] at this
      simp only [Bool.not_true, Bool.false_or] at this
      exact h1 e.on (Nat.lt_of_succ_le (Nat.le_of_ble_eq_true this))
    rw [evOps_eq] at h
    obtain ⟨src, s, U, hk, hO, _⟩ := step1_spec h
    refine any_first h0 l.length listed e src s U (fun j oj hoj hji hun hno => ?_) hc hready hG hO ?_
    · have hjl : j < ops.size := (Array.getElem?_eq_some_iff.1 hoj).1
      have hij : i < j := by
        rcases Nat.lt_or_ge i j with h | h
        · exact h
        · exfalso
          have := h1 j (by omega)
          simp [hsz, hjl] at this hun
          rw [this] at hun; cases hun
      have hlj : l[j - (i + 1)]? = some oj := by
        have := hl (j - i)
        rw [show i + (j - i) = j by omega, hoj] at this
        rw [show j - i = (j - (i + 1)) + 1 by omega] at this
        simpa using this
      have := okRest_spec hp (j - (i + 1)) oj hlj
      rw [show i + 1 + (j - (i + 1)) = j by omega, hno] at this
      simpa using this
    · refine any_lex l (i + 1) _ _ (fun j => ?_) (fun j hj => ?_) (fun j hj hjs => ?_) (by simpa using hsz) (hc.set hready) (good_step hG h0 (hO.run rfl)) hB' hk
      · have := hl (j + 1)
        simpa [Nat.add_assoc, Nat.add_comm 1 j] using this
      · by_cases hij : i = j
        · subst hij
          simp [hsz, hlt]
        · exact getD_set_true (h1 j (by omega))
      · rw [getD_set_ne true (by omega)]
        exact h2 j (by omega) hjs

theorem any_wp {w0 : World} {St0 : Nat → Nat → Prop} {K : Env → Prop} {Q : Exit → Act → World → Prop} (hQ : ∀ e a w g, Inv gl w0 St0 e a w g → K e → Q .normal a w) : ∀ (fuel : Nat) (listed : Array Bool) (e : Env) (a : Act) (w : World) (g : Gh),
    Inv gl w0 St0 e a w g → AnyE P gl ops lin base K fuel listed e → wpAny P .any ops Q fuel listed a w
  | 0, _, e, a, w, g, hI, h => ⟨h.1, hQ e a w g hI h.2⟩
  | fuel + 1, _, e, a, w, g, hI, h => ⟨fun h0 => hQ e a w g hI (h.1 h0), fun i hi => by
      obtain ⟨o, ho, hs⟩ := h.2 i hi
      exact step1_wp hI ho hs fun e' a' w' g' hinv hk => any_wp hQ fuel _ e' a' w' g' hinv hk⟩

theorem list_wp {w0 : World} {St0 : Nat → Nat → Prop} {K : Env → Prop} {Q : Exit → Act → World → Prop} (hQ : ∀ e a w g, Inv gl w0 St0 e a w g → K e → Q .normal a w) : ∀ (l : List Oper) (i : Nat) (e : Env) (a : Act) (w : World) (g : Gh),
    (∀ j, l[j]? = ops[i + j]?) → Inv gl w0 St0 e a w g → evOps P gl (Holds P gl) lin ops.toList base l i e K → wpOps P ops Q (List.range' i l.length) a w
  | [], _, e, a, w, g, _, hI, h => hQ e a w g hI h
  | o :: l, i, e, a, w, g, hl, hI, h => by
    have h0 : ops[i]? = some o := by simpa using (hl 0).symm
    rw [List.length_cons, List.range'_succ, wpOps_cons]
    rw [evOps_eq] at h
    exact step1_wp hI h0 h fun e' a' w' g' hinv hk => list_wp hQ l (i + 1) e' a' w' g' (fun j => by have := hl (j + 1); simpa [Nat.add_assoc, Nat.add_comm 1 j] using this) hinv hk

/-- places for variables that are not made yet -/
theorem Inv.room_for {w0 : World} {St0 : Nat → Nat → Prop} {e : Env} {a : Act} {w : World} {g : Gh} (hI : Inv gl w0 St0 e a w g) (n : Nat) :
    Inv gl w0 St0 ⟨e.slots, e.boxes ++ List.replicate n .none⟩ a w { g with bx := g.bx ++ List.replicate n none } := by
  have hmem : ∀ b, some b ∈ g.bx ++ List.replicate n (none : Option Nat) → some b ∈ g.bx := fun b h => by
    rcases List.mem_append.1 h with h | h
    · exact h
    · have := (List.mem_replicate.1 h).2; cases this
  have hget : ∀ (i : Nat) blk, (g.bx ++ List.replicate n (none : Option Nat))[i]? = some (some blk) → g.bx[i]? = some (some blk) := fun i blk h => by
    rw [List.getElem?_append] at h
    split at h
    · exact h
    · have := (List.mem_replicate.1 (List.mem_of_getElem? h)).2; cases this
  have hX : Ext w0.heap.size w g w { g with bx := g.bx ++ List.replicate n none } (fun _ => False) := by
    refine ⟨fun _ _ h => ⟨h, rfl⟩, fun _ _ _ => rfl, fun i blk h => ?_, fun p b a' c _ ho => ?_⟩
    · simp only; rw [List.getElem?_append_left (List.getElem?_eq_some_iff.1 h).1]; exact h
    · obtain ⟨h1, h2, h3, h4, h5⟩ := ho
      exact ⟨h1, h2, fun h => h3 (hmem b h), h4, h5⟩
  refine ⟨hI.below, hI.size, fun i s hs => hX.slot (fun _ h => h) (hI.slots i s hs), by simp [hI.bxlen], fun b bx blk h1 h2 => ?_, fun i j blk h1 h2 => hI.nodup i j blk (hget i blk h1) (hget j blk h2), hI.st0,
    fun b o h => ⟨(hI.st1 b o h).1, fun hm => (hI.st1 b o h).2.1 (hmem b hm), (hI.st1 b o h).2.2⟩, fun b h => hI.bxlt b (hmem b h), hI.glob.ext hX, hI.defers⟩
  have h2' := hget b blk h2
  simp only at h1
  rw [List.getElem?_append_left (by rw [← hI.bxlen]; exact (List.getElem?_eq_some_iff.1 h2').1)] at h1
  exact hX.box (fun _ h => h) rfl (hI.boxes b bx blk h1 h2')

/-- a draw -/
theorem Inv.drew {w0 : World} {St0 : Nat → Nat → Prop} {e : Env} {a : Act} {w : World} {g : Gh} (hI : Inv gl w0 St0 e a w g) : Inv gl w0 St0 e a { w with drawn := w.drawn + 1 } g := by
  have hX : Ext w0.heap.size w g { w with drawn := w.drawn + 1 } g (fun _ => False) := ⟨fun _ _ h => ⟨h, rfl⟩, fun _ _ _ => rfl, fun _ _ h => h, fun _ _ _ _ _ h => h⟩
  refine ⟨⟨hI.below.os, hI.below.tape, hI.below.output, hI.below.size, hI.below.block⟩, hI.size, fun i s hs => hX.slot (fun _ h => h) (hI.slots i s hs), hI.bxlen, fun b bx blk h1 h2 => hX.box (fun _ h => h) rfl (hI.boxes b bx blk h1 h2), hI.nodup, hI.st0, hI.st1, hI.bxlt, hI.glob.ext hX, hI.defers⟩

/-- A REGION -/
theorem region_wp {w0 : World} {St0 : Nat → Nat → Prop} {e : Env} {a : Act} {w : World} {g : Gh} (hI : Inv gl w0 St0 e a w g) {id : Nat} {draw : Bool} {K : Env → Prop} {Q : Exit → Act → World → Prop} (hm : P.follows .mixedOrders = true)
    (hok : (!draw || okAny lin ops) = true) (h : evRegion P gl (Holds P gl) lin ops.toList e K) (hQ : ∀ e a w g, Inv gl w0 St0 e a w g → K e → Q .normal a w) : (Code.region id ops draw).wp P Q a w := by
  unfold evRegion at h
  have hI' := hI.room_for (rankOf ops.toList ops.toList.length)
  cases draw with
  | false =>
    refine wp_region ?_
    have := list_wp (base := e.boxes.length) (lin := lin) hQ ops.toList 0 _ a w _ (fun j => by simp) hI' h
    rw [List.range_eq_range']
    simpa using this
  | true =>
    simp only [Bool.not_true, Bool.false_or] at hok
    refine wp_region_any hm ?_
    have hI2 := hI'.drew
    have hsz : (Array.replicate ops.size false).size = ops.size := by simp
    have := any_lex (P := P) (gl := gl) (base := e.boxes.length) (lin := lin) ops.toList 0 (Array.replicate ops.size false) _ (fun j => by simp) (fun j hj => by omega) (fun j _ hj => by simp [hj]) hsz
      (fun j o ho hl => by
        have hj : j < ops.size := (Array.getElem?_eq_some_iff.1 ho).1
        simp [hj] at hl) ⟨w0, St0, a, _, _, hI2⟩ hok h
    have h2 := any_wp hQ _ _ _ _ _ _ hI2 this
    simpa using h2

end
end Go.Proofs.Ytfeepndphaboeaa.Ab
