/-
  THE ABSTRACT WALK: a function's code.
-/
import Derived.Test.YtfeepndphaboeaaAb19
set_option linter.unusedVariables false
set_option linter.unusedSimpArgs false
namespace Go.Proofs.Ytfeepndphaboeaa.Ab
open Go Go.RowKit

def Ex.to : Ex → Exit
  | .normal => .normal
  | .exit i => .exit i
  | .ret => .ret

/-- what code leaves as it is -/
def Fr (c : Code) (e e' : Env) : Prop := e'.slots.length = e.slots.length ∧ e.boxes.length ≤ e'.boxes.length ∧
  ∀ t, t ∉ writesOf c → (e'.slots.getD t (.v .undef)).stays = (e.slots.getD t (.v .undef)).stays

theorem cond_elim {b : Bool} {A : Prop} (h : cond b A False) : b = true ∧ A := by cases b; exact h.elim; exact ⟨rfl, h⟩
theorem cond_intro {b : Bool} {A : Prop} (hb : b = true) (h : A) : cond b A False := by subst hb; exact h

section
variable {P : Program} {gl : Nat → Option D} {h : Hints}

theorem evOps_mono {all : List Oper} {lin : Nat → Bool} {base : Nat} {K K' : Env → Prop} (hk : ∀ e, K e → K' e) : ∀ (l : List Oper) (i : Nat) (e : Env),
    evOps P gl (Holds P gl) lin all base l i e K → evOps P gl (Holds P gl) lin all base l i e K'
  | [], _, _, h => hk _ h
  | o :: l, i, e, h => by
    rw [evOps_eq] at h ⊢
    have hall : all = all.toArray.toList := by simp
    rw [hall] at h ⊢
    obtain ⟨src, s, U, hk', hO, _⟩ := step1_spec h
    refine hO.run ?_
    rw [← hall] at hk' ⊢
    exact evOps_mono hk l (i + 1) _ hk'

theorem evOps_frame {all : List Oper} {lin : Nat → Bool} {base : Nat} {K : Env → Prop} : ∀ (l : List Oper) (i : Nat) (e : Env),
    evOps P gl (Holds P gl) lin all base l i e K → evOps P gl (Holds P gl) lin all base l i e fun e' => K e' ∧ e'.slots.length = e.slots.length ∧ e'.boxes.length = e.boxes.length ∧
      ∀ t, t ∉ l.filterMap (·.dst) → (e'.slots.getD t (.v .undef)).stays = (e.slots.getD t (.v .undef)).stays
  | [], _, _, h => ⟨h, rfl, rfl, fun _ _ => rfl⟩
  | o :: l, i, e, h => by
    rw [evOps_eq] at h ⊢
    have hall : all = all.toArray.toList := by simp
    rw [hall] at h ⊢
    obtain ⟨src, s, U, hk', hO, hst⟩ := step1_spec h
    refine hO.run ?_
    rw [← hall] at hk' ⊢
    refine evOps_mono (fun e' ⟨hK, h1, h2, h3⟩ => ⟨hK, ?_, ?_, fun t ht => ?_⟩) l (i + 1) _ (evOps_frame l (i + 1) _ hk')
    · rw [h1]; unfold fin setO; simp only [putSlot_length]; cases src <;> simp
    · rw [h2]; unfold fin upd; cases U <;> simp
    · have hd : ∀ d, o.dst = some d → d ≠ t := fun d hd hh => by
        subst hh
        exact ht (List.mem_filterMap.2 ⟨o, by simp, hd⟩)
      have ht' : t ∉ l.filterMap (·.dst) := fun hm => by
        obtain ⟨o', ho', hd'⟩ := List.mem_filterMap.1 hm
        exact ht (List.mem_filterMap.2 ⟨o', by simp [ho'], hd'⟩)
      rw [h3 t ht']
      unfold fin putSlot setO
      simp only
      have hset : ((match src with | none => e.slots | some (t, s) => e.slots.set t s).getD t (.v .undef)).stays = (e.slots.getD t (.v .undef)).stays := by
        cases src with
        | none => rfl
        | some p =>
          obtain ⟨t', d⟩ := p
          simp only
          by_cases htt : t' = t
          · subst htt
            have := hst t' d rfl
            rcases Nat.lt_or_ge t' e.slots.length with hl | hl
            · rw [List.getD_eq_getElem?_getD, List.getElem?_set_self hl]; exact this
            · rw [List.set_eq_of_length_le hl]
          · rw [getD_set_ne' htt]
      cases hd' : o.dst with
      | none => exact hset
      | some d => simp only; rw [getD_set_ne' (hd d hd')]; exact hset

theorem condP_frame {e : Env} {c : Operand} {A B A' B' : Env → Prop} (hA : A e → A' e) (hB : B e → B' e) (h : condP e c A B) : condP e c A' B' := by
  cases c with
  | tmp t =>
    simp only [condP] at h ⊢
    cases hx : e.slots.getD t (.v .undef) with
    | v x =>
      rw [hx] at h
      obtain ⟨b, rfl, h1, h2⟩ := ifP_bool h
      cases b
      · have := h2 rfl
        rw [setB_self hx] at this
        show B' _
        rw [setB_self hx]
        exact hB this
      · have := h1 rfl
        rw [setB_self hx] at this
        show A' _
        rw [setB_self hx]
        exact hA this
    | _ => rw [hx] at h; exact h.elim
  | const v =>
    cases v with
    | bool b => cases b; exact hB h; exact hA h
    | _ => exact h.elim
  | _ => exact h.elim
theorem condP_mono {e : Env} {c : Operand} {A B A' B' : Env → Prop} (hA : ∀ e, A e → A' e) (hB : ∀ e, B e → B' e) (h : condP e c A B) : condP e c A' B' := condP_frame (hA e) (hB e) h

theorem aw_mono : ∀ (c : Code) {Q Q' : Ex → Env → Prop} {e : Env}, (∀ x e, Q x e → Q' x e) → aw P gl (Holds P gl) h c Q e → aw P gl (Holds P gl) h c Q' e
  | .skip, _, _, _, hq, hh => hq _ _ hh
  | .region id ops draw, Q, Q', e, hq, hh => by
    obtain ⟨hb, hh⟩ := cond_elim (hh : cond _ _ False)
    exact cond_intro hb (evOps_mono (hq .normal) _ _ _ hh)
  | .seq a b, Q, Q', e, hq, hh => by
    simp only [aw] at hh ⊢
    refine aw_mono a (fun x e' hx => ?_) hh
    cases x with
    | normal => exact aw_mono b hq hx
    | exit i => exact hq _ _ hx
    | ret => exact hq _ _ hx
  | .cond c a b, Q, Q', e, hq, hh => by
    simp only [aw] at hh ⊢
    exact condP_mono (fun e' => aw_mono a hq) (fun e' => aw_mono b hq) hh
  | .block id b, Q, Q', e, hq, hh => by
    simp only [aw] at hh ⊢
    refine aw_mono b (fun x e' hx => ?_) hh
    cases x with
    | normal => exact hq _ _ hx
    | exit i =>
      have hx' : cond (i == id) (Q .normal e') (Q (.exit i) e') := hx
      show cond (i == id) (Q' .normal e') (Q' (.exit i) e')
      cases hb : (i == id) <;> rw [hb] at hx' <;> exact hq _ _ hx'
    | ret => exact hq _ _ hx
  | .loop b, Q, Q', e, hq, hh => by
    obtain ⟨hb, hh⟩ := cond_elim (hh : cond _ _ False)
    refine cond_intro hb fun I hI => hh I fun vs bs hF => hI vs bs (aw_mono b (fun x e' hx => ?_) hF)
    cases x with
    | normal => exact hx
    | exit i => exact hq _ _ hx
    | ret => exact hq _ _ hx
  | .exit id, _, _, _, hq, hh => hq _ _ hh
  | .ret, _, _, _, hq, hh => hq _ _ hh
  | .goto _, _, _, _, _, hh => hh
  | .label _, _, _, _, _, hh => hh
  | .scope _, _, _, _, _, hh => hh
  | .rangeFunc _ _ _ _, _, _, _, _, hh => hh
  | .refuse _, _, _, _, _, hh => hh

theorem Fr.refl (c : Code) (e : Env) : Fr c e e := ⟨rfl, Nat.le_refl _, fun _ _ => rfl⟩
theorem Fr.trans {a b c : Code} {e e1 e2 : Env} (h1 : Fr a e e1) (h2 : Fr b e1 e2) (ha : ∀ t, t ∈ writesOf a → t ∈ writesOf c) (hb : ∀ t, t ∈ writesOf b → t ∈ writesOf c) : Fr c e e2 :=
  ⟨h2.1.trans h1.1, Nat.le_trans h1.2.1 h2.2.1, fun t ht => (h2.2.2 t fun hm => ht (hb t hm)).trans (h1.2.2 t fun hm => ht (ha t hm))⟩
theorem Fr.mono {a c : Code} {e e1 : Env} (h1 : Fr a e e1) (ha : ∀ t, t ∈ writesOf a → t ∈ writesOf c) : Fr c e e1 := ⟨h1.1, h1.2.1, fun t ht => h1.2.2 t fun hm => ht (ha t hm)⟩

theorem restartSlots_get (vars consts : List Nat) (vs : List SV) : ∀ (l : List Slot) (t i : Nat), (restartSlots vars consts vs l t)[i]? = (l[i]?).map fun s => match place (t + i) vars 0 with
    | some j => .v (vget vs j)
    | none => bif consts.contains (t + i) then s.stays else .v .undef
  | [], _, _ => by simp [restartSlots]
  | s :: l, t, i => by
    cases i with
    | zero => simp only [restartSlots, List.getElem?_cons_zero, Option.map_some, Nat.add_zero]; cases place t vars 0 <;> rfl
    | succ i =>
      simp only [restartSlots, List.getElem?_cons_succ]
      rw [restartSlots_get vars consts vs l (t + 1) i, show t + 1 + i = t + (i + 1) by omega]
theorem restartSlots_length (vars consts : List Nat) (vs : List SV) : ∀ (l : List Slot) (t : Nat), (restartSlots vars consts vs l t).length = l.length
  | [], _ => rfl
  | _ :: l, t => by simp [restartSlots, restartSlots_length vars consts vs l (t + 1)]
theorem restartBoxes_get (bs : List (List SV)) : ∀ (l : List Box) (t i : Nat), (restartBoxes bs l t)[i]? = (l[i]?).map fun _ => Box.cells (bget bs (t + i))
  | [], _, _ => by simp [restartBoxes]
  | s :: l, t, i => by
    cases i with
    | zero => simp [restartBoxes]
    | succ i =>
      simp only [restartBoxes, List.getElem?_cons_succ]
      rw [restartBoxes_get bs l (t + 1) i, show t + 1 + i = t + (i + 1) by omega]
theorem restartBoxes_length (bs : List (List SV)) : ∀ (l : List Box) (t : Nat), (restartBoxes bs l t).length = l.length
  | [], _ => rfl
  | _ :: l, t => by simp [restartBoxes, restartBoxes_length bs l (t + 1)]

theorem place_spec {t : Nat} : ∀ {l : List Nat} {i j : Nat}, place t l i = some j → i ≤ j ∧ l[j - i]? = some t
  | [], i, j, h => by cases h
  | v :: l, i, j, h => by
    simp only [place] at h
    cases hv : v == t with
    | true =>
      rw [hv] at h
      simp only [cond_true, Option.some.injEq] at h
      subst h
      have := beq_iff_eq.1 hv
      subst this
      simp
    | false =>
      rw [hv] at h
      obtain ⟨h1, h2⟩ := place_spec (l := l) h
      refine ⟨by omega, ?_⟩
      rw [show j - i = (j - (i + 1)) + 1 by omega, List.getElem?_cons_succ]
      exact h2
theorem place_none {t : Nat} : ∀ {l : List Nat} {i : Nat}, l.contains t = false → place t l i = none
  | [], _, _ => rfl
  | v :: l, i, h => by
    simp only [List.contains_cons, Bool.or_eq_false_iff] at h
    simp only [place]
    have : (v == t) = false := by rw [beq_eq_false_iff_ne] at *; exact fun hh => h.1 hh.symm
    rw [this]
    exact place_none h.2

theorem keepsOk_spec {ws vars consts : List Nat} : ∀ {l : List Slot} {t : Nat}, keepsOk ws vars consts l t = true → ∀ (i : Nat) s, l[i]? = some s → (t + i) ∉ ws → s.stays = .v .undef ∨ (vars.contains (t + i) = false ∧ consts.contains (t + i) = true)
  | [], _, _, i, s, h, _ => by simp at h
  | s' :: l, t, hk, i, s, h, hw => by
    simp only [keepsOk, Bool.and_eq_true] at hk
    cases i with
    | zero =>
      simp at h
      subst h
      have hk1 := hk.1
      cases s' with
      | v x => exact .inl rfl
      | t x => exact .inl rfl
      | _ =>
        refine .inr ?_
        simp only [Bool.or_eq_true, Bool.and_eq_true, Bool.not_eq_true'] at hk1
        rcases hk1 with h | h
        · exact absurd (by simpa using h) hw
        · exact h
    | succ i =>
      have := keepsOk_spec hk.2 i s (by simpa using h) (by rw [show t + 1 + i = t + (i + 1) by omega]; exact hw)
      rw [show t + 1 + i = t + (i + 1) by omega] at this
      exact this

theorem stays_stays (s : Slot) : s.stays.stays = s.stays := by cases s <;> rfl

/-- the environment at a loop's head, made anew -/
def again (vars consts : List Nat) (vs : List SV) (bs : List (List SV)) (e : Env) : Env := ⟨restartSlots vars consts vs e.slots 0, restartBoxes bs e.boxes 0⟩

theorem again_fr {b : Code} {vars consts : List Nat} {vs : List SV} {bs : List (List SV)} {e : Env} (hk : keepsOk (writesOf b) vars consts e.slots 0 = true) : Fr b e (again vars consts vs bs e) := by
  refine ⟨restartSlots_length _ _ _ _ _, by simp [again, restartBoxes_length], fun t ht => ?_⟩
  simp only [again, List.getD_eq_getElem?_getD, restartSlots_get]
  cases hs : e.slots[t]? with
  | none => rfl
  | some s =>
    simp only [Option.map_some, Option.getD_some, Nat.zero_add]
    rcases keepsOk_spec hk t s hs (by simpa using ht) with h | ⟨h1, h2⟩
    · rw [h]
      split
      · rfl
      · cases consts.contains t <;> simp [h, Slot.stays]
    · rw [Nat.zero_add] at h1 h2
      rw [place_none h1]
      simp only [h2, cond_true, stays_stays]

theorem aw_frame : ∀ (c : Code) {Q : Ex → Env → Prop} {e : Env}, aw P gl (Holds P gl) h c Q e → aw P gl (Holds P gl) h c (fun x e' => Q x e' ∧ Fr c e e') e
  | .skip, _, e, hh => ⟨hh, Fr.refl _ _⟩
  | .region id ops draw, Q, e, hh => by
    obtain ⟨hb, hh⟩ := cond_elim (hh : cond _ _ False)
    refine cond_intro hb (evOps_mono (fun e' ⟨h1, h2, h3, h4⟩ => ⟨h1, h2, ?_, h4⟩) _ _ _ (evOps_frame _ _ _ hh))
    rw [h3]; simp
  | .seq a b, Q, e, hh => by
    refine aw_mono a (fun x e' hx => ?_) (aw_frame a hh)
    obtain ⟨hx, hf⟩ := hx
    cases x with
    | normal => exact aw_mono b (fun y e2 hy => ⟨hy.1, hf.trans hy.2 (fun t ht => by simp [writesOf, ht]) (fun t ht => by simp [writesOf, ht])⟩) (aw_frame b hx)
    | exit i => exact ⟨hx, hf.mono fun t ht => by simp [writesOf, ht]⟩
    | ret => exact ⟨hx, hf.mono fun t ht => by simp [writesOf, ht]⟩
  | .cond c a b, Q, e, hh =>
    condP_frame (A := aw P gl (Holds P gl) h a Q) (B := aw P gl (Holds P gl) h b Q)
      (fun ha => aw_mono a (fun y e2 hy => ⟨hy.1, hy.2.mono fun t ht => by simp [writesOf, ht]⟩) (aw_frame a ha)) (fun hb => aw_mono b (fun y e2 hy => ⟨hy.1, hy.2.mono fun t ht => by simp [writesOf, ht]⟩) (aw_frame b hb)) hh
  | .block id b, Q, e, hh => by
    refine aw_mono b (fun x e' hx => ?_) (aw_frame b hh)
    obtain ⟨hx, hf⟩ := hx
    have hf' : Fr (.block id b) e e' := hf
    cases x with
    | normal => exact ⟨hx, hf'⟩
    | exit i =>
      have hx' : cond (i == id) (Q .normal e') (Q (.exit i) e') := hx
      show cond (i == id) (Q .normal e' ∧ Fr (.block id b) e e') (Q (.exit i) e' ∧ Fr (.block id b) e e')
      cases hb : (i == id) <;> rw [hb] at hx' <;> exact ⟨hx', hf'⟩
    | ret => exact ⟨hx, hf'⟩
  | .loop b, Q, e, hh => by
    obtain ⟨hb, hh⟩ := cond_elim (hh : cond _ _ False)
    have hk := (Bool.and_eq_true _ _ ▸ hb).2
    refine cond_intro hb fun I hI => ?_
    refine hh I fun vs bs hF => hI vs bs (aw_mono b (fun x e' hx => ?_) (aw_frame b hF))
    obtain ⟨hx, hf⟩ := hx
    have hf' : Fr (.loop b) e e' := (again_fr (vs := vs) (bs := bs) hk).trans (b := b) hf (fun t ht => ht) (fun t ht => ht)
    cases x with
    | normal => exact hx
    | exit i => exact ⟨hx, hf'⟩
    | ret => exact ⟨hx, hf'⟩
  | .exit id, _, e, hh => ⟨hh, Fr.refl _ _⟩
  | .ret, _, e, hh => ⟨hh, Fr.refl _ _⟩
  | .goto _, _, _, hh => hh
  | .label _, _, _, hh => hh
  | .scope _, _, _, hh => hh
  | .rangeFunc _ _ _ _, _, _, hh => hh
  | .refuse _, _, _, hh => hh

end
end Go.Proofs.Ytfeepndphaboeaa.Ab
