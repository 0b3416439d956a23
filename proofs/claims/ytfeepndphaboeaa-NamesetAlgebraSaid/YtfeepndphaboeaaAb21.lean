/-
  THE ABSTRACT WALK IS SOUND.
-/
import Derived.Test.YtfeepndphaboeaaAb20
set_option linter.unusedVariables false
set_option linter.unusedSimpArgs false
namespace Go.Proofs.Ytfeepndphaboeaa.Ab
open Go Go.RowKit

section
variable {P : Program} {gl : Nat → Option D} {h : Hints}

/-- the variables at a loop's head -/
def Gh.cut (g : Gh) (n : Nat) : Gh := { g with bx := g.bx.take n }

theorem cut_get {g : Gh} {n i : Nat} {x : Option Nat} (hi : i < n) : (g.cut n).bx[i]? = some x ↔ g.bx[i]? = some x := by
  simp only [Gh.cut]; rw [List.getElem?_take, if_pos hi]
theorem cut_get_inv {g : Gh} {n i : Nat} {x : Option Nat} (h : (g.cut n).bx[i]? = some x) : i < n ∧ g.bx[i]? = some x := by
  simp only [Gh.cut] at h
  rw [List.getElem?_take] at h
  split at h
  · exact ⟨by assumption, h⟩
  · cases h
theorem cut_mem {g : Gh} {n : Nat} {x : Option Nat} (h : x ∈ (g.cut n).bx) : x ∈ g.bx := List.mem_of_mem_take h

theorem cut_own {base : Nat} {w : World} {g : Gh} {n : Nat} {p : Pos} {b a c : Nat} (h : OwnAt base w g p b a c) : OwnAt base w (g.cut n) p b a c :=
  ⟨h.1, h.2.1, fun hm => h.2.2.1 (cut_mem hm), h.2.2.2⟩

/-- a pointer or closure that was there at the head -/
theorem cut_slot {base base0 : Nat} {w w1 : World} {g g1 : Gh} {s : Slot} {v v1 : Value} {O O1 : Nat → Nat → Nat → Nat → Prop} (h0 : RepS base0 w g O s v) (h1 : RepS base w1 g1 O1 s v1) {n : Nat} (hn : g.bx.length ≤ n) :
    ∀ O2, (∀ x, s ≠ .v x) → (∀ x, s ≠ .t x) → RepS base w1 (g1.cut n) O2 s v1 := by
  have key : ∀ {s : Slot} {v1 : Value} {O1 : Nat → Nat → Nat → Nat → Prop}, RepS base w1 g1 O1 s v1 → ∀ {O v}, RepS base0 w g O s v → ∀ O2, (∀ j b a c, O1 j b a c → O2 j b a c) → RepS base w1 (g1.cut n) O2 s v1 := by
    intro s v1 O1 h1
    induction h1 with
    | v O1 x y hx => intro O v _ O2 hO; exact .v _ _ _ (hx.mono (fun _ _ h => ⟨h, rfl⟩) (fun _ _ _ => rfl) _ (hO 0))
    | p O1 b off blk hb =>
      intro O v h0 O2 hO
      obtain ⟨blk0, _, hb0⟩ := h0.p_inv
      have := (List.getElem?_eq_some_iff.1 hb0).1
      exact .p _ b off blk ((cut_get (by omega)).2 hb)
    | c O1 f first cap fv cv hf hc _ _ ihf ihc =>
      intro O v h0 O2 hO
      cases h0 with
      | c _ _ _ _ fv0 cv0 hf0 hc0 rf0 rc0 =>
        refine .c _ f first cap fv cv hf hc (fun i x v hx hv => ?_) (fun i x v hx hv => ?_)
        · have hi : i < fv0.size := by rw [← hf0]; exact (List.getElem?_eq_some_iff.1 hx).1
          exact ihf i x v hx hv (rf0 i x fv0[i] hx (by simp)) _ (fun _ _ _ _ h => h)
        · have hi : i < cv0.size := by rw [← hc0]; exact (List.getElem?_eq_some_iff.1 hx).1
          exact ihc i x v hx hv (rc0 i x cv0[i] hx (by simp)) _ (fun _ _ _ _ h => h)
    | t O1 xs vs hl hc =>
      intro O v _ O2 hO
      exact .t _ xs vs hl fun j x v a b => (hc j x v a b).mono (fun _ _ h => ⟨h, rfl⟩) (fun _ _ _ => rfl) _ (hO j)
  intro O2 hv ht
  cases h1 with
  | v _ x _ _ => exact absurd rfl (hv x)
  | t _ x _ _ _ => exact absurd rfl (ht x)
  | p _ b off blk hb => exact key (.p O2 b off blk hb) h0 _ (fun _ _ _ _ h => h)
  | c _ f first cap fv cv hf hc rf rc => exact key (.c O2 f first cap fv cv hf hc rf rc) h0 _ (fun _ _ _ _ h => h)

theorem again_inv {w0 : World} {St0 : Nat → Nat → Prop} {e e1 : Env} {a a1 : Act} {w w1 : World} {g g1 : Gh} (hI : Inv gl w0 St0 e a w g) (hI1 : Inv gl w0 St0 e1 a1 w1 g1) {b : Code} (hf : Fr b e e1) {vars consts : List Nat}
    (hc : ∀ t ∈ consts, t ∉ writesOf b) : Inv gl w0 St0 (again vars consts (valsOf e1 vars) (boxesOf e.boxes.length e1) e) a1 w1 (g1.cut e.boxes.length) := by
  have hX : Ext w0.heap.size w1 g1 w1 { g1 with bx := g1.bx } (fun _ => False) := ⟨fun _ _ h => ⟨h, rfl⟩, fun _ _ _ => rfl, fun _ _ h => h, fun _ _ _ _ _ h => h⟩
  refine ⟨hI1.below, ?_, ?_, ?_, ?_, ?_, hI1.st0, ?_, ?_, ?_, hI1.defers⟩
  · rw [hI1.size, hf.1]; simp [again, restartSlots_length]
  · intro i s hs
    simp only [again, restartSlots_get, Option.map_eq_some_iff, Nat.zero_add] at hs
    obtain ⟨s0, hs0, rfl⟩ := hs
    have h1 := getD_slot hI1 i
    simp only [Act.eval] at h1
    split
    · rename_i j hj
      obtain ⟨_, hj2⟩ := place_spec hj
      simp only [Nat.sub_zero] at hj2
      have hv : vget (valsOf e1 vars) j = (e1.slots.getD i (.v .undef)).toSV := by
        simp [vget, valsOf, List.getD_eq_getElem?_getD, List.getElem?_map, hj2]
      rw [hv]
      cases hsl : e1.slots.getD i (.v .undef) with
      | v x =>
        rw [hsl] at h1
        exact .v _ _ _ (h1.v_inv.mono (fun _ _ h => ⟨h, rfl⟩) (fun _ _ _ => rfl) _ (fun _ _ _ h => cut_own h))
      | _ => exact .v _ _ _ (.undef _ _)
    · cases hcc : consts.contains i with
      | false => exact .v _ _ _ (.undef _ _)
      | true =>
        have hnw := hc i (by simpa using hcc)
        have hst := hf.2.2 i hnw
        have hs0' : e.slots.getD i (.v .undef) = s0 := by rw [List.getD_eq_getElem?_getD, hs0]; rfl
        rw [hs0'] at hst
        have h0 := hI.slots i s0 hs0
        cases s0 with
        | v x => exact .v _ _ _ (.undef _ _)
        | t x => exact .v _ _ _ (.undef _ _)
        | p b' off =>
          have hs1 : e1.slots.getD i (.v .undef) = .p b' off := by
            revert hst
            cases e1.slots.getD i (.v .undef) <;> simp [Slot.stays]
          rw [hs1] at h1
          exact cut_slot h0 h1 (by rw [hI.bxlen]; exact Nat.le_refl _) _ (by simp) (by simp)
        | c f first cap =>
          have hs1 : e1.slots.getD i (.v .undef) = .c f first cap := by
            revert hst
            cases e1.slots.getD i (.v .undef) <;> simp [Slot.stays] <;> intros <;> simp_all
          rw [hs1] at h1
          exact cut_slot h0 h1 (by rw [hI.bxlen]; exact Nat.le_refl _) _ (by simp) (by simp)
  · simp only [again, restartBoxes_length, Gh.cut, List.length_take, hI1.bxlen]
    have := hf.2.1
    omega
  · intro b' bx blk h1 h2
    obtain ⟨hlt, h2⟩ := cut_get_inv h2
    simp only [again, restartBoxes_get, Option.map_eq_some_iff, Nat.zero_add] at h1
    obtain ⟨bx0, _, rfl⟩ := h1
    have hlt1 : b' < e1.boxes.length := by rw [← hI1.bxlen]; exact (List.getElem?_eq_some_iff.1 h2).1
    obtain ⟨r1, c, t, r2, r3, r4⟩ := hI1.boxes b' e1.boxes[b'] blk (by simp) h2
    have hvals : bget (boxesOf e.boxes.length e1) b' = e1.boxes[b'].vals := by
      simp [bget, boxesOf, List.getD_eq_getElem?_getD, List.getElem?_map, List.getElem?_take, hlt, hlt1]
    rw [hvals]
    refine ⟨r1, c, t, r2, r3, ?_⟩
    revert r4
    cases e1.boxes[b'] with
    | none => intro r4; exact r4.elim
    | cells cs =>
      intro r4
      exact ⟨r4.1, fun j x y hx hy => (r4.2 j x y hx hy).mono (fun _ _ h => ⟨h, rfl⟩) (fun _ _ _ => rfl) _ (fun _ _ _ h => cut_own h)⟩
    | one s =>
      intro r4
      refine ⟨by simp [Box.vals, r4.1], fun j x y hx hy => ?_⟩
      have : x = .undef := by
        cases j <;> simp [Box.vals] at hx
        exact hx.symm
      subst this
      exact .undef _ _
  · intro i j blk h1 h2
    exact hI1.nodup i j blk (cut_get_inv h1).2 (cut_get_inv h2).2
  · intro b' o h'
    exact ⟨(hI1.st1 b' o h').1, fun hm => (hI1.st1 b' o h').2.1 (cut_mem hm), (hI1.st1 b' o h').2.2⟩
  · intro b' h'
    exact hI1.bxlt b' (cut_mem h')
  · exact hI1.glob

theorem aw_sound (hm : P.follows .mixedOrders = true) : ∀ (c : Code) {w0 : World} {St0 : Nat → Nat → Prop} {QA : Ex → Env → Prop} {e : Env} {a : Act} {w : World} {g : Gh} {Q : Exit → Act → World → Prop},
    Inv gl w0 St0 e a w g → aw P gl (Holds P gl) h c QA e → (∀ x e' a' w' g', Inv gl w0 St0 e' a' w' g' → QA x e' → Q x.to a' w') → c.wp P Q a w
  | .skip, _, _, _, _, _, _, _, _, hI, hh, hQ => wp_skip (hQ .normal _ _ _ _ hI hh)
  | .region id ops draw, w0, St0, QA, e, a, w, g, Q, hI, hh, hQ => by
    obtain ⟨hb, hh⟩ := cond_elim (hh : cond _ _ False)
    exact region_wp hI hm hb hh fun e' a' w' g' hI' hk => hQ .normal e' a' w' g' hI' hk
  | .seq x y, w0, St0, QA, e, a, w, g, Q, hI, hh, hQ => by
    refine wp_seq (aw_sound hm x hI hh fun ex e' a' w' g' hI' hk => ?_)
    cases ex with
    | normal => exact aw_sound hm y hI' hk hQ
    | exit i => exact hQ (.exit i) e' a' w' g' hI' hk
    | ret => exact hQ .ret e' a' w' g' hI' hk
  | .cond c x y, w0, St0, QA, e, a, w, g, Q, hI, hh, hQ => by
    have hh : condP e c (aw P gl (Holds P gl) h x QA) (aw P gl (Holds P gl) h y QA) := hh
    cases c with
    | tmp t =>
      simp only [condP] at hh
      have hs := getD_slot hI t
      cases hx : e.slots.getD t (.v .undef) with
      | v z =>
        rw [hx] at hh hs
        obtain ⟨b, rfl, h1, h2⟩ := ifP_bool hh
        have hv := hs.v_inv.data.bool_inv
        refine wp_cond_split hv (fun hb => ?_) (fun hb => ?_)
        · have := h1 hb
          subst hb
          rw [setB_self hx] at this
          exact aw_sound hm x hI this hQ
        · have := h2 hb
          subst hb
          rw [setB_self hx] at this
          exact aw_sound hm y hI this hQ
      | _ => rw [hx] at hh; exact hh.elim
    | const v =>
      cases v with
      | bool b =>
        refine wp_cond_split (t := b) rfl (fun hb => ?_) (fun hb => ?_)
        · subst hb; exact aw_sound hm x hI hh hQ
        · subst hb; exact aw_sound hm y hI hh hQ
      | _ => exact hh.elim
    | _ => exact hh.elim
  | .block id b, w0, St0, QA, e, a, w, g, Q, hI, hh, hQ => by
    refine wp_block (aw_sound hm b hI hh fun ex e' a' w' g' hI' hk => ?_)
    cases ex with
    | normal => exact hQ .normal e' a' w' g' hI' hk
    | exit i =>
      have hk' : cond (i == id) (QA .normal e') (QA (.exit i) e') := hk
      show (if i = id then Q .normal a' w' else Q (.exit i) a' w')
      cases hb : (i == id) with
      | true =>
        rw [hb] at hk'
        rw [if_pos (beq_iff_eq.1 hb)]
        exact hQ .normal e' a' w' g' hI' hk'
      | false =>
        rw [hb] at hk'
        rw [if_neg (beq_eq_false_iff_ne.1 hb)]
        exact hQ (.exit i) e' a' w' g' hI' hk'
    | ret => exact hQ .ret e' a' w' g' hI' hk
  | .loop b, w0, St0, QA, e, a, w, g, Q, hI, hh, hQ => by
    obtain ⟨hb, hh⟩ := cond_elim (hh : cond _ _ False)
    simp only [Bool.and_eq_true, List.all_eq_true, Bool.not_eq_true', List.contains_eq_mem, decide_eq_false_iff_not] at hb
    obtain ⟨hcon, hk⟩ := hb
    let LW : Act → World → Prop := fun a1 w1 => ∀ (fr : Frame) (k : List Item) (cs : List Frame), ∃ ex a' w', Q ex a' w' ∧ Arrives P (lone (fr.at a1 (.code b :: .inLoop b :: k)) cs w1) fr k cs ex a' w'
    let I : List SV → List (List SV) → Prop := fun vs bs => ∀ e1 a1 w1 g1, Inv gl w0 St0 e1 a1 w1 g1 → Fr b e e1 → valsOf e1 (keepAt h.keep (firstId b)).1 = vs → boxesOf e.boxes.length e1 = bs → LW a1 w1
    have key : I _ _ := hh I fun vs bs hF e1 a1 w1 g1 hI1 hfr hvs hbs => by
      subst hvs hbs
      have hIr := again_inv hI hI1 hfr (vars := (keepAt h.keep (firstId b)).1) hcon
      have hbody := aw_sound hm b (Q := fun ex a' w' => match ex with | .normal => LW a' w' | ex => Q ex a' w') hIr (aw_frame b hF) (fun ex e' a' w' g' hI' hk' => by
        obtain ⟨hk1, hk2⟩ := hk'
        cases ex with
        | normal => exact hk1 e' a' w' g' hI' ((again_fr hk).trans hk2 (fun t ht => ht) (fun t ht => ht)) rfl rfl
        | exit i => exact hQ (.exit i) e' a' w' g' hI' hk1
        | ret => exact hQ .ret e' a' w' g' hI' hk1)
      intro fr k cs
      obtain ⟨ex, a2, w2, hq, harr⟩ := hbody fr (.inLoop b :: k) cs
      cases ex with
      | normal =>
        obtain ⟨e₂, a₂, w₂, hq₂, harr₂⟩ := hq fr k cs
        exact ⟨e₂, a₂, w₂, hq₂, .of_steps (Steps.trans harr (.one step_inLoop)) harr₂⟩
      | exit id => exact ⟨_, a2, w2, hq, .pass (x := .inLoop b) rfl (fun _ _ => .inl (by simp)) harr⟩
      | goto l => exact ⟨_, a2, w2, hq, .pass (x := .inLoop b) rfl (fun _ _ => .inl (by simp)) harr⟩
      | ret => exact ⟨_, a2, w2, hq, .pass (x := .inLoop b) rfl (fun _ _ => .inl (by simp)) harr⟩
      | panic ch => exact ⟨_, a2, w2, hq, .pass (x := .inLoop b) rfl (fun _ _ => .inl (by simp)) harr⟩
      | outgrown => exact ⟨_, a2, w2, hq, .pass (x := .inLoop b) rfl (fun _ _ => .inl (by simp)) harr⟩
    have hLW : LW a w := key e a w g hI (Fr.refl _ _) rfl rfl
    intro fr k cs
    obtain ⟨ex, a', w', hq, harr⟩ := hLW fr k cs
    exact ⟨ex, a', w', hq, .of_steps (.one step_loop) harr⟩
  | .exit id, _, _, _, _, _, _, _, _, hI, hh, hQ => wp_exit (hQ (.exit id) _ _ _ _ hI hh)
  | .ret, _, _, _, _, _, _, _, _, hI, hh, hQ => wp_ret (hQ .ret _ _ _ _ hI hh)
  | .goto _, _, _, _, _, _, _, _, _, _, hh, _ => hh.elim
  | .label _, _, _, _, _, _, _, _, _, _, hh, _ => hh.elim
  | .scope _, _, _, _, _, _, _, _, _, _, hh, _ => hh.elim
  | .rangeFunc _ _ _ _, _, _, _, _, _, _, _, _, _, hh, _ => hh.elim
  | .refuse _, _, _, _, _, _, _, _, _, _, hh, _ => hh.elim

end
end Go.Proofs.Ytfeepndphaboeaa.Ab
