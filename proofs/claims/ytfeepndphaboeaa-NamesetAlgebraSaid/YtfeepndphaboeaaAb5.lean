/-
  THE ABSTRACT WALK: equality of aggregates; the operations that only compute.
-/
import Derived.Test.YtfeepndphaboeaaAb4
import Derived.Laws.StructEq
import Derived.ChangeKeysEq
set_option linter.unusedVariables false
set_option linter.unusedSimpArgs false
namespace Go.Proofs.Ytfeepndphaboeaa.Ab
open Go Go.RowKit

section
variable {P : Program} {gl : Nat → Option D} {w0 : World} {St0 : Nat → Nat → Prop} {e : Env} {a : Act} {w : World} {g : Gh}

theorem ckOk_length : ∀ {ks : List CK} {xs : List D}, ckOk ks xs = true → xs.length = ks.length
  | [], [], _ => rfl
  | [], _ :: _, h => by simp [ckOk] at h
  | k :: ks, [], h => by cases k <;> simp [ckOk] at h
  | k :: ks, x :: xs, h => by
    cases k <;> cases x <;> simp only [ckOk, Bool.false_eq_true] at h <;> simp [ckOk_length h]

theorem ckOk_append : ∀ {ks ls : List CK} {xs : List D}, ckOk (ks ++ ls) xs = true → ckOk ks (xs.take ks.length) = true ∧ ckOk ls (xs.drop ks.length) = true
  | [], ls, xs, h => by simpa [ckOk] using h
  | k :: ks, ls, [], h => by cases k <;> simp [ckOk] at h
  | k :: ks, ls, x :: xs, h => by
    cases k <;> cases x <;> simp only [List.cons_append, ckOk, Bool.false_eq_true] at h <;> simpa [ckOk] using ckOk_append h

theorem eqCells_append : ∀ (xs ys xs' ys' : List D), xs.length = ys.length → eqCells (xs ++ xs') (ys ++ ys') = (match eqCells xs ys with
    | some b => (match eqCells xs' ys' with | some c => some (b && c) | none => none) | none => none)
  | [], [], xs', ys', _ => by
    simp only [List.nil_append, eqCells]
    cases eqCells xs' ys' <;> simp
  | x :: xs, y :: ys, xs', ys', h => by
    simp only [List.cons_append, eqCells]
    rw [eqCells_append xs ys xs' ys' (by simpa using h)]
    cases eqScal x y <;> simp
    cases eqCells xs ys <;> simp
    cases eqCells xs' ys' <;> simp [Bool.and_assoc]
  | [], _ :: _, _, _, h => by simp at h
  | _ :: _, [], _, _, h => by simp at h

/-- cells that stand for data, one by one -/
def RepCs (w : World) (St : Nat → Nat → Prop) (xs : List D) (vs : Array Value) : Prop :=
  xs.length = vs.size ∧ ∀ (i : Nat) x v, xs[i]? = some x → vs[i]? = some v → RepD w St x v

theorem RepCs.agg {w : World} {St : Nat → Nat → Prop} {xs : List D} {vs : Array Value} (h : RepCs w St xs vs) (hf : ∀ d ∈ xs, d.one = true) : RepD w St (.agg xs) (.agg vs) := .agg xs vs hf h.1 h.2
theorem RepCs.extract {w : World} {St : Nat → Nat → Prop} {xs : List D} {vs : Array Value} (h : RepCs w St xs vs) (off n : Nat) :
    RepCs w St ((xs.drop off).take n) (vs.extract off (off + n)) := by
  refine ⟨by simp [h.1]; omega, fun i x v hx hv => ?_⟩
  rw [List.getElem?_take] at hx
  split at hx
  · rename_i hi
    rw [List.getElem?_drop] at hx
    rw [Array.getElem?_extract] at hv
    split at hv
    · exact h.2 (off + i) x v hx hv
    · cases hv
  · cases hx

theorem sizeOf_run {t : TypeId} {n : Nat} (h : sizeOf? P t = some n) (w : World) : (sizeOf t).run P w = .ok n w := by
  unfold sizeOf? at h
  split at h
  · rename_i i hi
    cases h
    simp [sizeOf, typeInfo, hi]
  · cases h

theorem aggOf_run {t : TypeId} {b : Bool} (h : aggOf? P t = some b) (w : World) : (isAgg t).run P w = .ok b w := by
  unfold aggOf? at h
  split at h
  · rename_i fs hu; cases h; simp [isAgg, run_underlying hu]
  · rename_i n e' hu; cases h; simp [isAgg, run_underlying hu]
  · rename_i d h1 h2 hu
    cases h
    simp only [isAgg, Sem.run_bind, run_underlying hu, Result.andThen_ok]
    cases d <;> first | rfl | (exact absurd hu (h1 _)) | (exact absurd hu (h2 _ _))
  · cases h

theorem lay_run {t : TypeId} {b : Bool} {n : Nat} (h : lay? P t = some (b, n)) : aggOf? P t = some b ∧ sizeOf? P t = some n ∧ (b = false → n = 1) := by
  unfold lay? at h
  split at h
  · rename_i b' hb
    split at h
    · rename_i i hi
      cases hc : (b' || Nat.beq i.size 1) with
      | false => rw [hc] at h; cases h
      | true =>
        rw [hc] at h
        cases h
        refine ⟨hb, by simp [sizeOf?, hi], fun hf => ?_⟩
        subst hf
        exact Nat.eq_of_beq_eq_true (by simpa using hc)
    · cases h
  · cases h

theorem part_run {t : TypeId} {b : Bool} {n : Nat} (hb : aggOf? P t = some b) (hn : sizeOf? P t = some n) (cs : Array Value) (off : Nat) (w : World) :
    (part t cs off).run P w = if b then .ok (.agg (cs.extract off (off + n))) w else (match cs[off]? with | some v => .ok v w | none => .halt (.stuck "part: no such cell") w) := by
  unfold part
  simp only [Sem.run_bind, aggOf_run hb, Result.andThen_ok]
  cases b
  · simp only [Bool.false_eq_true, if_false]
    cases cs[off]? <;> rfl
  · simp [sizeOf_run hn]

/-- a value of a type whose cells stand for 'xs' -/
def ValOf (w : World) (St : Nat → Nat → Prop) (b : Bool) (xs : List D) (v : Value) : Prop :=
  if b then ∃ cs, v = .agg cs ∧ RepCs w St xs cs else ∃ x, xs = [x] ∧ RepD w St x v

theorem shapeOf_size {f : Nat} {t : TypeId} {ks : List CK} (h : shapeOf P f t = some ks) : sizeOf? P t = some ks.length ∧
    ((aggOf? P t = some false ∧ ks.length = 1) ∨ aggOf? P t = some true) := by
  cases f with
  | zero => simp [shapeOf] at h
  | succ f =>
    rw [shapeOf] at h
    split at h
    · rename_i hu; split at h <;> cases h; rename_i hs; exact ⟨hs, .inl ⟨by simp [aggOf?, hu], rfl⟩⟩
    · rename_i hu; split at h <;> cases h; rename_i hs; exact ⟨hs, .inl ⟨by simp [aggOf?, hu], rfl⟩⟩
    · rename_i hu; split at h <;> cases h; rename_i hs; exact ⟨hs, .inl ⟨by simp [aggOf?, hu], rfl⟩⟩
    · rename_i n e' hu
      split at h
      · rename_i ks' hks
        split at h
        · rename_i s hs
          cases hc : Nat.beq s (n * ks'.length) with
          | true =>
            rw [hc] at h; cases h
            have : (repeatL ks' n).length = n * ks'.length := by
              clear hc hu hs
              induction n with
              | zero => simp [repeatL]
              | succ n ih => simp [repeatL, ih, Nat.succ_mul]; omega
            have h2 := Nat.eq_of_beq_eq_true hc
            exact ⟨by rw [hs, this, h2], .inr (by simp [aggOf?, hu])⟩
          | false => rw [hc] at h; cases h
        · cases h
      · cases h
    · rename_i fs hu
      cases hst : P.stoodInHeld t with
      | true => rw [hst] at h; cases h
      | false =>
        rw [hst] at h
        simp only [cond_false] at h
        split at h
        · rename_i ks' hks
          split at h
          · rename_i s hs
            cases hc : Nat.beq s ks'.length with
            | true =>
              rw [hc] at h; cases h
              have h2 := Nat.eq_of_beq_eq_true hc
              exact ⟨by rw [hs, h2], .inr (by simp [aggOf?, hu])⟩
            | false => rw [hc] at h; cases h
          · cases h
        · cases h
    · cases h

theorem RepCs.valOf {xs : List D} {vs : Array Value} (h : RepCs w g.St xs vs) {t : TypeId} {b : Bool} {n off : Nat} (hb : aggOf? P t = some b) (hn : sizeOf? P t = some n)
    (h1 : b = false → n = 1) (hle : off + n ≤ xs.length) : ∃ v, (part t vs off).run P w = .ok v w ∧ ValOf w g.St b ((xs.drop off).take n) v := by
  rw [part_run hb hn]
  cases b with
  | true => exact ⟨_, by simp; rfl, by simp only [ValOf, if_true]; exact ⟨_, rfl, h.extract off n⟩⟩
  | false =>
    have hn1 := h1 rfl
    subst hn1
    have hlt : off < xs.length := by omega
    have hlt' : off < vs.size := by rw [← h.1]; exact hlt
    refine ⟨vs[off], by simp [hlt'], ?_⟩
    simp only [ValOf, Bool.false_eq_true, if_false]
    refine ⟨xs[off], ?_, h.2 off _ _ (by simp) (by simp)⟩
    rw [List.drop_eq_getElem_cons hlt, List.take_succ_cons, List.take_zero]

theorem eqFields_shape (d : Nat) (go : TypeId → Option (List CK)) (hsz : ∀ t ks, go t = some ks → sizeOf? P t = some ks.length ∧ ((aggOf? P t = some false ∧ ks.length = 1) ∨ aggOf? P t = some true))
    (ih : ∀ (t : TypeId) (ks : List CK) (b : Bool) (xs ys : List D) (vx vy : Value) (r : Bool), go t = some ks → aggOf? P t = some b →
      ckOk ks xs = true → ckOk ks ys = true → ValOf w g.St b xs vx → ValOf w g.St b ys vy → eqCells xs ys = some r → (Op.equalIn d t vx vy).run P w = .ok r w)
    {xs ys : List D} {cx cy : Array Value} (rx : RepCs w g.St xs cx) (ry : RepCs w g.St ys cy) : ∀ (fs : List Field) (off : Nat) (ks : List CK) (r : Bool), shapeFields go fs off = some ks → off ≤ xs.length → off ≤ ys.length →
      ckOk ks (xs.drop off) = true → ckOk ks (ys.drop off) = true → eqCells (xs.drop off) (ys.drop off) = some r → (Op.eqFields d cx cy fs).run P w = .ok r w
  | [], off, ks, r, h, _, _, hx, hy, he => by
    simp only [shapeFields, Option.some.injEq] at h
    subst h
    have h1 := ckOk_length hx
    have h2 := ckOk_length hy
    rw [List.eq_nil_of_length_eq_zero h1, List.eq_nil_of_length_eq_zero h2] at he
    simp only [eqCells, Option.some.injEq] at he
    subst he
    rfl
  | f :: fs, off, ks, r, h, hox, hoy, hx, hy, he => by
    simp only [shapeFields] at h
    split at h
    · rename_i kf hkf
      cases hc : (f.name != "_" && Nat.beq f.offset off) with
      | false => rw [hc] at h; cases h
      | true =>
        rw [hc] at h
        simp only [cond_true] at h
        split at h
        · rename_i kr hkr
          cases h
          simp only [Bool.and_eq_true, bne_iff_ne, ne_eq] at hc
          have hoff := Nat.eq_of_beq_eq_true hc.2
          obtain ⟨hx1, hx2⟩ := ckOk_append hx
          obtain ⟨hy1, hy2⟩ := ckOk_append hy
          obtain ⟨hs, hag⟩ := hsz _ _ hkf
          have lx := ckOk_length hx
          have ly := ckOk_length hy
          simp only [List.length_drop, List.length_append] at lx ly
          rw [← List.take_append_drop kf.length (xs.drop off), ← List.take_append_drop kf.length (ys.drop off),
            eqCells_append _ _ _ _ (by simp; omega)] at he
          split at he
          · rename_i b1 hb1
            split at he
            · rename_i b2 hb2
              cases he
              have rest := eqFields_shape d go hsz ih rx ry fs (off + kf.length) kr b2 hkr (by omega) (by omega) (by rw [List.drop_drop] at hx2; exact hx2) (by rw [List.drop_drop] at hy2; exact hy2)
                (by rw [List.drop_drop, List.drop_drop] at hb2; exact hb2)
              obtain ⟨b, hb, h1⟩ : ∃ b, aggOf? P f.type = some b ∧ (b = false → kf.length = 1) := by
                rcases hag with ⟨h1, h2⟩ | h1
                · exact ⟨false, h1, fun _ => h2⟩
                · exact ⟨true, h1, by simp⟩
              obtain ⟨vx, px, qx⟩ := rx.valOf (off := f.offset) hb hs h1 (by omega)
              obtain ⟨vy, py, qy⟩ := ry.valOf (off := f.offset) hb hs h1 (by omega)
              rw [hoff] at qx qy
              have hq := ih f.type kf b _ _ vx vy b1 hkf hb hx1 hy1 qx qy hb1
              simp only [Op.eqFields, if_pos hc.1, Sem.run_bind, px, py, hq, Result.andThen_ok]
              cases b1
              · simp
              · simpa using rest
            · cases he
          · cases he
        · cases h
    · cases h

theorem eqItems_shape (d : Nat) (t : TypeId) (ks : List CK) (b : Bool) (hb : aggOf? P t = some b) (hs : sizeOf? P t = some ks.length) (h1 : b = false → ks.length = 1)
    (ih : ∀ (xs ys : List D) (vx vy : Value) (r : Bool), ckOk ks xs = true → ckOk ks ys = true → ValOf w g.St b xs vx → ValOf w g.St b ys vy → eqCells xs ys = some r →
      (Op.equalIn d t vx vy).run P w = .ok r w)
    {xs ys : List D} {cx cy : Array Value} (rx : RepCs w g.St xs cx) (ry : RepCs w g.St ys cy) : ∀ (n i : Nat) (r : Bool), ckOk (repeatL ks n) (xs.drop (i * ks.length)) = true →
      ckOk (repeatL ks n) (ys.drop (i * ks.length)) = true → eqCells (xs.drop (i * ks.length)) (ys.drop (i * ks.length)) = some r →
      (Op.eqItems d t ks.length cx cy (List.range' i n)).run P w = .ok r w
  | 0, i, r, hx, hy, he => by
    rw [List.eq_nil_of_length_eq_zero (ckOk_length hx), List.eq_nil_of_length_eq_zero (ckOk_length hy)] at he
    simp only [eqCells, Option.some.injEq] at he
    subst he
    rfl
  | n + 1, i, r, hx, hy, he => by
    simp only [repeatL] at hx hy
    obtain ⟨hx1, hx2⟩ := ckOk_append hx
    obtain ⟨hy1, hy2⟩ := ckOk_append hy
    have lx := ckOk_length hx
    have ly := ckOk_length hy
    simp only [List.length_drop, List.length_append] at lx ly
    rw [← List.take_append_drop ks.length (xs.drop (i * ks.length)), ← List.take_append_drop ks.length (ys.drop (i * ks.length)),
      eqCells_append _ _ _ _ (by simp; omega)] at he
    split at he
    · rename_i b1 hb1
      split at he
      · rename_i b2 hb2
        cases he
        have e : i * ks.length + ks.length = (i + 1) * ks.length := by rw [Nat.succ_mul]
        have rest := eqItems_shape d t ks b hb hs h1 ih rx ry n (i + 1) b2 (by rw [List.drop_drop, e] at hx2; exact hx2) (by rw [List.drop_drop, e] at hy2; exact hy2)
          (by rw [List.drop_drop, List.drop_drop, e] at hb2; exact hb2)
        by_cases hz : ks.length = 0 ∧ xs.length < i * ks.length
        · rw [hz.1] at hz; omega
        have kx : i * ks.length + ks.length ≤ xs.length := by
          by_cases h0 : ks.length = 0
          · rw [h0]; omega
          · omega
        have ky : i * ks.length + ks.length ≤ ys.length := by
          by_cases h0 : ks.length = 0
          · rw [h0]; omega
          · omega
        obtain ⟨vx, px, qx⟩ := rx.valOf (off := i * ks.length) hb hs h1 kx
        obtain ⟨vy, py, qy⟩ := ry.valOf (off := i * ks.length) hb hs h1 ky
        have hq := ih _ _ vx vy b1 hx1 hy1 qx qy hb1
        simp only [List.range'_succ, Op.eqItems, Sem.run_bind, px, py, hq, Result.andThen_ok]
        cases b1
        · simp
        · simpa using rest
      · cases he
    · cases he

theorem equalIn_shape : ∀ (f d : Nat) (t : TypeId) (ks : List CK) (b : Bool) (xs ys : List D) (vx vy : Value) (r : Bool), shapeOf P f t = some ks → f ≤ d → aggOf? P t = some b →
    ckOk ks xs = true → ckOk ks ys = true → ValOf w g.St b xs vx → ValOf w g.St b ys vy → eqCells xs ys = some r → (Op.equalIn d t vx vy).run P w = .ok r w := by
  intro f
  induction f with
  | zero => intro d t ks b xs ys vx vy r h; simp [shapeOf] at h
  | succ f ih =>
    intro d t ks b xs ys vx vy r hsh hd hb hx hy rx ry he
    obtain ⟨d, rfl⟩ : ∃ d', d = d' + 1 := ⟨d - 1, by omega⟩
    have hsz := shapeOf_size hsh
    rw [shapeOf] at hsh
    split at hsh
    · -- bool
      rename_i hu
      split at hsh <;> cases hsh
      have : b = false := by simpa [aggOf?, hu] using hb.symm
      subst this
      simp only [ValOf, Bool.false_eq_true, if_false] at rx ry
      obtain ⟨x, rfl, rx⟩ := rx
      obtain ⟨y, rfl, ry⟩ := ry
      cases x <;> simp [ckOk] at hx
      cases y <;> simp [ckOk] at hy
      cases rx; cases ry
      rw [run_equalIn_bool' w d t _ _ hu]
      simp [eqCells, eqScal] at he
      rw [← he]
    · rename_i k hu
      split at hsh <;> cases hsh
      have : b = false := by simpa [aggOf?, hu] using hb.symm
      subst this
      simp only [ValOf, Bool.false_eq_true, if_false] at rx ry
      obtain ⟨x, rfl, rx⟩ := rx
      obtain ⟨y, rfl, ry⟩ := ry
      cases x <;> simp [ckOk] at hx
      cases y <;> simp [ckOk] at hy
      rename_i k1 n1 k2 n2
      cases rx; cases ry
      by_cases hk : k1 = k2
      · subst hk
        rw [run_equalIn_int w d t _ k _ _ hu]
        simp [eqCells, eqScal] at he
        rw [← he]
      · simp [eqCells, eqScal, hk] at he
    · rename_i hu
      split at hsh <;> cases hsh
      have : b = false := by simpa [aggOf?, hu] using hb.symm
      subst this
      simp only [ValOf, Bool.false_eq_true, if_false] at rx ry
      obtain ⟨x, rfl, rx⟩ := rx
      obtain ⟨y, rfl, ry⟩ := ry
      cases x <;> simp [ckOk] at hx
      cases y <;> simp [ckOk] at hy
      cases rx with | str s1 _ =>
      cases ry with | str s2 _ =>
      rw [run_equalIn_string w d t _ _ hu]
      rw [ByteArray.toList_eq, ByteArray.toList_eq]
      simp only [eqCells, eqScal, Bool.and_true, Option.some.injEq] at he
      rw [← he]
    · -- array
      rename_i n e' hu
      split at hsh
      · rename_i ks' hks
        split at hsh
        · rename_i s hs
          cases hc : Nat.beq s (n * ks'.length) with
          | false => rw [hc] at hsh; cases hsh
          | true =>
            rw [hc] at hsh; cases hsh
            have : b = true := by simpa [aggOf?, hu] using hb.symm
            subst this
            simp only [ValOf, if_true] at rx ry
            obtain ⟨cx, rfl, rx⟩ := rx
            obtain ⟨cy, rfl, ry⟩ := ry
            obtain ⟨hes, hag⟩ := shapeOf_size hks
            obtain ⟨b, hb', h1⟩ : ∃ b, aggOf? P e' = some b ∧ (b = false → ks'.length = 1) := by
              rcases hag with ⟨h1, h2⟩ | h1
              · exact ⟨false, h1, fun _ => h2⟩
              · exact ⟨true, h1, by simp⟩
            obtain ⟨i, hi, his⟩ : ∃ i, P.info? e' = some i ∧ P.cellsOf e' = ks'.length := by
              unfold sizeOf? at hes
              split at hes
              · rename_i i hi; exact ⟨i, hi, by simpa [Program.cellsOf, hi] using hes⟩
              · cases hes
            rw [run_equalIn_array w d _ _ hu hi, his, List.range_eq_range']
            exact eqItems_shape d e' ks' b hb' hes h1 (fun xs ys vx vy r => ih d e' ks' b xs ys vx vy r hks (by omega) hb') rx ry n 0 r (by simpa using hx) (by simpa using hy) (by simpa using he)
        · cases hsh
      · cases hsh
    · -- struct
      rename_i fs hu
      cases hst : P.stoodInHeld t with
      | true => rw [hst] at hsh; cases hsh
      | false =>
        rw [hst] at hsh
        simp only [cond_false] at hsh
        split at hsh
        · rename_i ks' hks
          split at hsh
          · rename_i s hs
            cases hc : Nat.beq s ks'.length with
            | false => rw [hc] at hsh; cases hsh
            | true =>
              rw [hc] at hsh; cases hsh
              have : b = true := by simpa [aggOf?, hu] using hb.symm
              subst this
              simp only [ValOf, if_true] at rx ry
              obtain ⟨cx, rfl, rx⟩ := rx
              obtain ⟨cy, rfl, ry⟩ := ry
              have hfo : P.fieldsOf t = fs := by simp [Program.fieldsOf, hu]
              rw [run_equalIn_struct w d t _ _ (by rw [hfo]; exact hu) hst, hfo]
              exact eqFields_shape d (shapeOf P f) (fun t ks h => shapeOf_size h) (fun t ks b xs ys vx vy r h => ih d t ks b xs ys vx vy r h (by omega)) rx ry fs.toList 0 _ r hks (Nat.zero_le _) (Nat.zero_le _) (by simpa using hx) (by simpa using hy) (by simpa using he)
          · cases hsh
        · cases hsh
    · cases hsh

end
end Go.Proofs.Ytfeepndphaboeaa.Ab
