/-
  THE ABSTRACT WALK: steps of the world that keep what is known.
-/
import Derived.Test.YtfeepndphaboeaaAb2
import Derived.Test.YtfeepndphaboeaaAb1b
set_option linter.unusedVariables false
set_option linter.unusedSimpArgs false
namespace Go.Proofs.Ytfeepndphaboeaa.Ab
open Go Go.RowKit

/-- from one world to a later one: what stays is as it was; owners but the lost ones own as before -/
structure Ext (base : Nat) (w : World) (g : Gh) (w' : World) (g' : Gh) (lost : Pos → Prop) : Prop where
  st : ∀ b o, g.St b o → g'.St b o ∧ w'.cell? ⟨b, o, none⟩ = w.cell? ⟨b, o, none⟩
  bs : ∀ b o, b < base → w'.cell? ⟨b, o, none⟩ = w.cell? ⟨b, o, none⟩
  bx : ∀ (i : Nat) blk, g.bx[i]? = some (some blk) → g'.bx[i]? = some (some blk)
  own : ∀ p b a c, ¬ lost p → OwnAt base w g p b a c → OwnAt base w' g' p b a c

theorem RepS.mono {base : Nat} {w w' : World} {g g' : Gh} {O O' : Nat → Nat → Nat → Nat → Prop} {s : Slot} {v : Value} (r : RepS base w g O s v)
    (st : ∀ b o, g.St b o → g'.St b o ∧ w'.cell? ⟨b, o, none⟩ = w.cell? ⟨b, o, none⟩) (bs : ∀ b o, b < base → w'.cell? ⟨b, o, none⟩ = w.cell? ⟨b, o, none⟩)
    (bx : ∀ (i : Nat) blk, g.bx[i]? = some (some blk) → g'.bx[i]? = some (some blk)) (hO : ∀ j b a c, O j b a c → O' j b a c) : RepS base w' g' O' s v := by
  induction r generalizing O' with
  | v O x y h => exact .v _ x y (h.mono st bs _ (hO 0))
  | p O b off blk h => exact .p _ b off blk (bx _ _ h)
  | c O f first cap fv cv hf hc _ _ ihf ihc => exact .c _ f first cap fv cv hf hc (fun i x v a b => ihf i x v a b (fun _ _ _ _ h => h)) (fun i x v a b => ihc i x v a b (fun _ _ _ _ h => h))
  | t O xs vs hl hc => exact .t _ xs vs hl fun j x v a b => (hc j x v a b).mono st bs _ (hO j)

theorem RepS.demote {base : Nat} {w : World} {g : Gh} {O O' : Nat → Nat → Nat → Nat → Prop} {s : Slot} {v : Value} (r : RepS base w g O s v) : RepS base w g O' s.demote v := by
  cases r with
  | v _ x _ h => exact .v _ _ _ h.demote
  | p _ b off blk h => exact .p _ b off blk h
  | c _ f first cap fv cv hf hc rf rc => exact .c _ f first cap fv cv hf hc rf rc
  | t _ xs vs hl hc =>
    refine .t _ _ vs (by simpa using hl) fun j x v a b => ?_
    simp only [List.getElem?_map, Option.map_eq_some_iff] at a
    obtain ⟨x', a, rfl⟩ := a
    exact (hc j x' v a b).demote

theorem Ext.refl (base : Nat) (w : World) (g : Gh) : Ext base w g w g (fun _ => False) := ⟨fun _ _ h => ⟨h, rfl⟩, fun _ _ _ => rfl, fun _ _ h => h, fun _ _ _ _ _ h => h⟩

theorem Ext.slot {base : Nat} {w w' : World} {g g' : Gh} {lost : Pos → Prop} (h : Ext base w g w' g' lost) {i : Nat} (hl : ∀ j, ¬ lost (.s i j)) {s : Slot} {v : Value}
    (r : RepS base w g (slotO base w g i) s v) : RepS base w' g' (slotO base w' g' i) s v :=
  r.mono h.st h.bs h.bx fun j b a c ho => h.own _ b a c (hl j) ho

theorem Ext.none {base : Nat} {w w' : World} {g g' : Gh} {lost : Pos → Prop} (h : Ext base w g w' g' lost) {s : Slot} {v : Value}
    {O O' : Nat → Nat → Nat → Nat → Prop} (r : RepS base w g O s v) : RepS base w' g' O' s.demote v :=
  (r.demote (O' := fun _ _ _ _ => False)).mono h.st h.bs h.bx fun _ _ _ _ h => h.elim

theorem Ext.repD {base : Nat} {w w' : World} {g g' : Gh} {lost : Pos → Prop} (h : Ext base w g w' g' lost) {x : D} {v : Value} (r : RepD w g.St x v) : RepD w' g'.St x v := r.mono h.st

/-- a variable that was not touched -/
theorem Ext.box {base : Nat} {w w' : World} {g g' : Gh} {lost : Pos → Prop} (h : Ext base w g w' g' lost) {b : Nat} {bx : Box} {blk : Nat} (hl : ∀ j, ¬ lost (.b b j))
    (hb : w'.heap[blk]? = w.heap[blk]?) (r : RepB base w g b bx blk) : RepB base w' g' b bx blk := by
  obtain ⟨h0, c, t, hc, h1, hr⟩ := r
  refine ⟨h0, c, t, hb.trans hc, h1, ?_⟩
  cases bx with
  | none => exact hr.elim
  | cells cs => exact ⟨hr.1, fun j x y hx hy => (hr.2 j x y hx hy).mono h.st h.bs _ fun b' a c' ho => h.own _ b' a c' (hl j) ho⟩
  | one s => exact ⟨hr.1, fun y hy => (hr.2 y hy).mono h.st h.bs h.bx fun _ b' a c' ho => h.own _ b' a c' (hl 0) ho⟩

theorem getD_putSlot {l : List Slot} {dst : Option Nat} {s : Slot} {i : Nat} {x : Slot} (h : (putSlot l dst s)[i]? = some x) : (dst = some i ∧ x = s) ∨ (dst ≠ some i ∧ l[i]? = some x) := by
  cases dst with
  | none => exact .inr ⟨by simp, h⟩
  | some d =>
    simp only [putSlot, List.getElem?_set] at h
    by_cases hd : d = i
    · subst hd
      simp only [↓reduceIte] at h
      split at h
      · exact .inl ⟨rfl, (Option.some.inj h).symm⟩
      · cases h
    · simp only [hd, ↓reduceIte] at h
      exact .inr ⟨by simpa using hd, h⟩

theorem put_getD (a : Act) (dst : Option Tmp) (v : Value) (i : Nat) (h : i < a.tmps.size) : (a.put dst v).tmps.getD i undef = if dst = some i then v else a.tmps.getD i undef := by
  cases dst with
  | none => simp [Act.put]
  | some d =>
    simp only [Act.put, Array.getD_eq_getD_getElem?, Array.getElem?_setIfInBounds]
    by_cases hd : d = i
    · subst hd; simp [h]
    · simp [hd]

theorem put_size (a : Act) (dst : Option Tmp) (v : Value) : (a.put dst v).tmps.size = a.tmps.size := by cases dst <;> simp [Act.put]
theorem put_defers (a : Act) (dst : Option Tmp) (v : Value) : (a.put dst v).defers = a.defers := by cases dst <;> rfl
theorem putSlot_length (l : List Slot) (dst : Option Nat) (s : Slot) : (putSlot l dst s).length = l.length := by cases dst <;> simp [putSlot]

theorem ofScal_rep {w : World} {St : Nat → Nat → Prop} {v : Value} {x : D} (h : ofScal v = some x) : RepD w St x v := by
  unfold ofScal at h
  split at h
  · cases h; exact .bool _
  · rename_i k n
    cases hw : wfI k n with
    | true => rw [hw] at h; cases h; exact .int _ _ hw
    | false => rw [hw] at h; cases h
  · rename_i s
    cases hw : Nat.ble s.size maxLen with
    | true => rw [hw] at h; cases h; exact .str _ (Nat.le_of_ble_eq_true hw)
    | false => rw [hw] at h; cases h
  · cases h; exact .nilsl 0
  · cases h; exact .nilptr
  · cases h; exact .nilfn
  · cases h; exact .nilif
  · rename_i f first captured
    cases hw : (first.isEmpty && captured.isEmpty) with
    | true =>
      rw [hw] at h; cases h
      simp only [Bool.and_eq_true, Array.isEmpty_iff] at hw
      obtain ⟨rfl, rfl⟩ := hw
      exact .fn f
    | false => rw [hw] at h; cases h
  · cases h

theorem ofScal_one {v : Value} {x : D} (h : ofScal v = some x) : x.one = true := by
  have : ∀ {w : World} {St}, RepD w St x v := ofScal_rep h
  unfold ofScal at h
  split at h <;> first | (cases h; rfl) | (cases h) | skip
  · rename_i k n; cases hw : wfI k n <;> rw [hw] at h <;> cases h; rfl
  · rename_i s; cases hw : Nat.ble s.size maxLen <;> rw [hw] at h <;> cases h; rfl
  · rename_i f first captured; cases hw : (first.isEmpty && captured.isEmpty) <;> rw [hw] at h <;> cases h; rfl

theorem ofScals_one : ∀ {vs : List Value} {xs : List D}, ofScals vs = some xs → ∀ x ∈ xs, x.one = true
  | [], xs, h => by cases h; simp
  | v :: vs, xs, h => by
    simp only [ofScals] at h
    split at h
    · rename_i x hx
      split at h
      · rename_i r hr
        cases h
        intro y hy
        rcases List.mem_cons.1 hy with rfl | hy
        · exact ofScal_one hx
        · exact ofScals_one hr y hy
      · cases h
    · cases h

theorem ofScals_rep {w : World} {St : Nat → Nat → Prop} : ∀ {vs : List Value} {xs : List D}, ofScals vs = some xs →
    xs.length = vs.length ∧ ∀ (i : Nat) x v, xs[i]? = some x → vs[i]? = some v → RepD w St x v
  | [], xs, h => by cases h; simp
  | v :: vs, xs, h => by
    simp only [ofScals] at h
    split at h
    · rename_i x hx
      split at h
      · rename_i r hr
        cases h
        obtain ⟨h1, h2⟩ := ofScals_rep (w := w) (St := St) hr
        refine ⟨by simp [h1], fun i y u hy hu => ?_⟩
        cases i with
        | zero => simp only [List.getElem?_cons_zero, Option.some.injEq] at hy hu; subst hy hu; exact ofScal_rep hx
        | succ i => simp only [List.getElem?_cons_succ] at hy hu; exact h2 i y u hy hu
      · cases h
    · cases h

theorem ofVal_rep {w : World} {St : Nat → Nat → Prop} {v : Value} {x : D} (h : ofVal v = some x) : RepD w St x v := by
  unfold ofVal at h
  split at h
  · split at h
    · rename_i cs l hl
      cases h
      obtain ⟨h1, h2⟩ := ofScals_rep (w := w) (St := St) hl
      exact .agg l _ (ofScals_one hl) (by simpa using h1) fun i d v hd hv => h2 i d v hd (by simpa using hv)
    · cases h
  · exact ofScal_rep h

section
variable {gl : Nat → Option D} {w0 : World} {St0 : Nat → Nat → Prop}

theorem GlobOK.ext {base : Nat} {w w' : World} {g g' : Gh} {lost : Pos → Prop} (h : Ext base w g w' g' lost) (r : GlobOK gl w g.St) : GlobOK gl w' g'.St := by
  intro n x hx
  obtain ⟨h0, vs, h1, h2⟩ := r n x hx
  exact ⟨h0, vs, fun i hi => ⟨(h.st _ _ (h1 i hi).2).2.trans (h1 i hi).1, (h.st _ _ (h1 i hi).2).1⟩, fun i c hc => h.repD (h2 i c hc)⟩

/-- THE STEP: a value put in a slot, the other slots as shown, the variables as given -/
theorem Inv.stepG {e : Env} {a : Act} {w : World} {g : Gh} (hI : Inv gl w0 St0 e a w g) {w' : World} {g' : Gh} {lost : Pos → Prop} (hX : Ext w0.heap.size w g w' g' lost)
    {slots : List Slot} {bxs : List Box} {dst : Option Nat} {s : Slot} {v : Value}
    (hbelow : Below w0.heap.size w w')
    (hlen : slots.length = e.slots.length)
    (hs : ∀ (i : Nat) x, slots[i]? = some x → dst ≠ some i → RepS w0.heap.size w' g' (slotO w0.heap.size w' g' i) x (a.tmps.getD i undef))
    (hdst : ∀ d, dst = some d → RepS w0.heap.size w' g' (slotO w0.heap.size w' g' d) s v)
    (hbxlen : g'.bx.length = bxs.length)
    (hbx : ∀ (b : Nat) bx blk, bxs[b]? = some bx → g'.bx[b]? = some (some blk) → RepB w0.heap.size w' g' b bx blk)
    (hnd : ∀ (i j : Nat) blk, g'.bx[i]? = some (some blk) → g'.bx[j]? = some (some blk) → i = j) (hblt : ∀ b, some b ∈ g'.bx → w0.heap.size ≤ b ∧ b < w'.heap.size)
    (hst1 : ∀ b o, g'.St b o → (St0 b o ∨ w0.heap.size ≤ b) ∧ some b ∉ g'.bx ∧ b < w'.heap.size) :
    Inv gl w0 St0 ⟨putSlot slots dst s, bxs⟩ (a.put dst v) w' g' := by
  refine ⟨hI.below.trans hbelow, ?_, ?_, hbxlen, hbx, hnd, fun b o h => (hX.st b o (hI.st0 b o h)).1, hst1, hblt, hI.glob.ext hX, (put_defers a dst v).trans hI.defers⟩
  · rw [put_size, putSlot_length, hlen, hI.size]
  · intro i x hx
    have hi : i < a.tmps.size := by
      have := (List.getElem?_eq_some_iff.1 hx).1
      rw [putSlot_length, hlen] at this
      rw [hI.size]; exact this
    rw [put_getD a dst v i hi]
    rcases getD_putSlot hx with ⟨hd, rfl⟩ | ⟨hd, hx'⟩
    · simp only [hd, ↓reduceIte]; exact hdst i hd
    · simp only [hd, ↓reduceIte]
      exact hs i x hx' hd

/-- THE STEP: slots demoted -/
theorem Inv.step {e : Env} {a : Act} {w : World} {g : Gh} (hI : Inv gl w0 St0 e a w g) {w' : World} {g' : Gh} {lost : Pos → Prop} (hX : Ext w0.heap.size w g w' g' lost)
    {slots : List Slot} {bxs : List Box} {dst : Option Nat} {s : Slot} {v : Value}
    (hbelow : Below w0.heap.size w w')
    (hlen : slots.length = e.slots.length)
    (hs : ∀ (i : Nat) x, slots[i]? = some x → dst ≠ some i → ∃ y, e.slots[i]? = some y ∧ ((x = y ∧ ∀ j, ¬ lost (.s i j)) ∨ x = y.demote))
    (hdst : ∀ d, dst = some d → RepS w0.heap.size w' g' (slotO w0.heap.size w' g' d) s v)
    (hbxlen : g'.bx.length = bxs.length)
    (hbx : ∀ (b : Nat) bx blk, bxs[b]? = some bx → g'.bx[b]? = some (some blk) → RepB w0.heap.size w' g' b bx blk)
    (hnd : ∀ (i j : Nat) blk, g'.bx[i]? = some (some blk) → g'.bx[j]? = some (some blk) → i = j) (hblt : ∀ b, some b ∈ g'.bx → w0.heap.size ≤ b ∧ b < w'.heap.size)
    (hst1 : ∀ b o, g'.St b o → (St0 b o ∨ w0.heap.size ≤ b) ∧ some b ∉ g'.bx ∧ b < w'.heap.size) :
    Inv gl w0 St0 ⟨putSlot slots dst s, bxs⟩ (a.put dst v) w' g' := by
  refine hI.stepG hX hbelow hlen (fun i x hx hd => ?_) hdst hbxlen hbx hnd hblt hst1
  obtain ⟨y, hy, ⟨rfl, hl⟩ | rfl⟩ := hs i x hx hd
  · exact hX.slot hl (hI.slots i x hy)
  · exact hX.none (hI.slots i y hy)

/-- the common case: the world may have grown, the variables are the same -/
theorem Inv.step0 {e : Env} {a : Act} {w : World} {g : Gh} (hI : Inv gl w0 St0 e a w g) {w' : World} {g' : Gh} {dst : Option Nat}
    (hX : Ext w0.heap.size w g w' g' (fun p => ∃ d j, dst = some d ∧ p = .s d j))
    {s : Slot} {v : Value} (hbelow : Below w.heap.size w w')
    (hdst : ∀ d, dst = some d → RepS w0.heap.size w' g' (slotO w0.heap.size w' g' d) s v) (hbx : g'.bx = g.bx)
    (hst1 : ∀ b o, g'.St b o → g.St b o ∨ (w.heap.size ≤ b ∧ b < w'.heap.size)) :
    Inv gl w0 St0 ⟨putSlot e.slots dst s, e.boxes⟩ (a.put dst v) w' g' := by
  have hle : w0.heap.size ≤ w.heap.size := hI.below.size
  refine hI.step hX (hbelow.mono hle) rfl (fun i x hx hd => ⟨x, hx, .inl ⟨rfl, fun j => ?_⟩⟩) hdst (by rw [hbx]; exact hI.bxlen) ?_ (by rw [hbx]; exact hI.nodup) ?_ ?_
  · rintro ⟨d, j', h1, h2⟩
    cases h2
    exact hd h1
  · intro b bx blk h1 h2
    rw [hbx] at h2
    have hlt : blk < w.heap.size := (hI.bxlt blk (List.mem_of_getElem? h2)).2
    exact hX.box (fun j => by rintro ⟨d, j', _, h⟩; cases h) (hbelow.block blk hlt) (hI.boxes b bx blk h1 h2)
  · intro b hb
    rw [hbx] at hb
    exact ⟨(hI.bxlt b hb).1, Nat.lt_of_lt_of_le (hI.bxlt b hb).2 hbelow.size⟩
  · intro b o h
    rw [hbx]
    rcases hst1 b o h with h | h
    · obtain ⟨h1, h2, h3⟩ := hI.st1 b o h
      exact ⟨h1, h2, Nat.lt_of_lt_of_le h3 hbelow.size⟩
    · exact ⟨.inr (Nat.le_trans hle h.1), fun hm => by have := (hI.bxlt b hm).2; omega, h.2⟩

/-- nothing turns but a slot -/
theorem Inv.value {e : Env} {a : Act} {w : World} {g : Gh} (hI : Inv gl w0 St0 e a w g) {dst : Option Nat} {s : Slot} {v : Value}
    (hdst : RepS w0.heap.size w g (fun _ _ _ _ => False) s v) : Inv gl w0 St0 ⟨putSlot e.slots dst s, e.boxes⟩ (a.put dst v) w g := by
  refine hI.step0 (w' := w) (g' := g) ⟨fun _ _ h => ⟨h, rfl⟩, fun _ _ _ => rfl, fun _ _ h => h, fun _ _ _ _ _ h => h⟩ (Below.refl _ _) (fun d _ => ?_) rfl (fun _ _ h => .inl h)
  exact hdst.mono (fun _ _ h => ⟨h, rfl⟩) (fun _ _ _ => rfl) (fun _ _ h => h) (fun _ _ _ _ h => h.elim)

/-- an operand -/
theorem Inv.opnd {e : Env} {a : Act} {w : World} {g : Gh} (hI : Inv gl w0 St0 e a w g) (x : Operand) : RepS w0.heap.size w g (fun _ _ _ _ => False) (opnd gl e x).demote (a.eval x) := by
  cases x with
  | tmp t =>
    simp only [Ab.opnd, Act.eval, List.getD_eq_getElem?_getD]
    cases h : e.slots[t]? with
    | none => exact .v _ _ _ (.undef _ _)
    | some s => exact (hI.slots t s h).demote
  | const v =>
    simp only [Ab.opnd, Act.eval]
    cases h : ofVal v with
    | none => exact .v _ _ _ (.undef _ _)
    | some d => exact .v _ _ _ (.d _ _ _ (ofVal_rep h))
  | func f => exact .v _ _ _ (.d _ _ _ (.fn _))
  | global n =>
    simp only [Ab.opnd, Act.eval]
    cases h : gl n with
    | none => exact .v _ _ _ (.undef _ _)
    | some x =>
      obtain ⟨h0, vs, h1, h2⟩ := hI.glob n x h
      exact .v _ _ _ (.dptr _ x 0 n 0 vs h0 (by simpa using h1) h2)

end
end Go.Proofs.Ytfeepndphaboeaa.Ab
