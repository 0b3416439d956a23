/-
  THE ABSTRACT WALK: parts of slices and strings; lengths; the least and the greatest.
-/
import Derived.Test.YtfeepndphaboeaaAb10
set_option linter.unusedVariables false
set_option linter.unusedSimpArgs false
namespace Go.Proofs.Ytfeepndphaboeaa.Ab
open Go Go.RowKit

section
variable {P : Program} {gl : Nat → Option D} {w0 : World} {St0 : Nat → Nat → Prop} {e : Env} {a : Act} {w : World} {g : Gh}

theorem Inv.optV (hI : Inv gl w0 St0 e a w g) (x : Option Operand) : (x = none ∧ Ab.optV (fun x => (Ab.opnd gl e x).demote) x = none) ∨
    ∃ y s, x = some y ∧ Ab.optV (fun x => (Ab.opnd gl e x).demote) x = some s ∧ RepV w g.St w0.heap.size (fun _ _ _ => False) s (a.eval y) := by
  cases x with
  | none => exact .inl ⟨rfl, rfl⟩
  | some y => exact .inr ⟨y, _, rfl, rfl, hI.opToSV y⟩

/-- an optional operand's value -/
inductive OptRep (w : World) (St : Nat → Nat → Prop) (base : Nat) : Option SV → Option Value → Prop
  | none : OptRep w St base none none
  | some (s : SV) (v : Value) (h : RepV w St base (fun _ _ _ => False) s v) : OptRep w St base (some s) (some v)

theorem Inv.opt (hI : Inv gl w0 St0 e a w g) (x : Option Operand) : OptRep w g.St w0.heap.size (Ab.optV (fun x => (Ab.opnd gl e x).demote) x) (x.map a.eval) := by
  cases x with
  | none => exact .none
  | some y => exact .some _ _ (hI.opToSV y)

theorem sliceBound_run {n m : Nat} (c : BoundsCode) {x : SV} {j : Nat} (h : indexOk x (n + 1) = some j) (hm : n ≤ m) {St : Nat → Nat → Prop} {base : Nat} {O : Nat → Nat → Nat → Prop} {v : Value} (r : RepV w St base O x v) :
    (Instr.sliceBound v m c).run P w = .ok j w ∧ j ≤ n := by
  obtain ⟨kk, ii, rfl, h1, h2, rfl⟩ := indexOk_spec h
  have hv := r.int
  refine ⟨?_, by omega⟩
  have : 0 ≤ ii ∧ ii ≤ (m : Int) := ⟨h1, by omega⟩
  simp [Instr.sliceBound, hv, asIntOf, this]

theorem bounds_run {n cap : Nat} (isS : Bool) (hc : n ≤ cap) {lo hi : Option SV} {vlo vhi : Option Value} {St : Nat → Nat → Prop} {base : Nat} (rlo : OptRep w St base lo vlo) (rhi : OptRep w St base hi vhi)
    {hh ll : Nat} (h1 : hiOf n hi = some hh) (h2 : loOf hh lo = some ll) :
    (Instr.sliceBounds isS n cap vlo vhi none).run P w = .ok (ll, hh, cap) w ∧ hh ≤ n ∧ ll ≤ hh := by
  unfold Instr.sliceBounds
  cases rhi with
  | none =>
    simp only [hiOf, Option.some.injEq] at h1
    subst h1
    cases rlo with
    | none => simp only [loOf, Option.some.injEq] at h2; subst h2; exact ⟨by simp, Nat.le_refl _, Nat.zero_le _⟩
    | some s v r =>
      obtain ⟨q1, q2⟩ := sliceBound_run (P := P) (w := w) .sliceB h2 (Nat.le_refl _) r
      exact ⟨by simp [q1], Nat.le_refl _, q2⟩
  | some s v r =>
    obtain ⟨p1, p2⟩ := sliceBound_run (P := P) (w := w) (if isS then .sliceAcap else .sliceAlen) h1 hc r
    cases rlo with
    | none => simp only [loOf, Option.some.injEq] at h2; subst h2; exact ⟨by simp [p1], p2, Nat.zero_le _⟩
    | some s v r =>
      obtain ⟨q1, q2⟩ := sliceBound_run (P := P) (w := w) .sliceB h2 (Nat.le_refl _) r
      exact ⟨by simp [p1, q1], p2, q2⟩

theorem bounds3_run {n cap : Nat} (hc : n ≤ cap) {lo : Option SV} {hi mx : SV} {vlo : Option Value} {vhi vmx : Value} {St : Nat → Nat → Prop} {base : Nat} (rlo : OptRep w St base lo vlo)
    (rhi : RepV w St base (fun _ _ _ => False) hi vhi) (rmx : RepV w St base (fun _ _ _ => False) mx vmx)
    {hh mm ll : Nat} (h0 : indexOk mx (n + 1) = some mm) (h1 : indexOk hi (n + 1) = some hh) (he : hh = mm) (h2 : loOf hh lo = some ll) :
    (Instr.sliceBounds true n cap vlo (some vhi) (some vmx)).run P w = .ok (ll, hh, hh) w ∧ hh ≤ n ∧ ll ≤ hh := by
  unfold Instr.sliceBounds
  subst he
  obtain ⟨o1, o2⟩ := sliceBound_run (P := P) (w := w) .slice3Acap h0 hc rmx
  have h1' : indexOk hi (hh + 1) = some hh := by
    obtain ⟨kk, ii, rfl, a1, a2, a3⟩ := indexOk_spec h1
    simp only [indexOk]
    rw [if_pos (by omega), ← a3]
  obtain ⟨p1, _⟩ := sliceBound_run (P := P) (w := w) .slice3B h1' (Nat.le_refl _) rhi
  cases rlo with
  | none => simp only [loOf, Option.some.injEq] at h2; subst h2; exact ⟨by simp [o1, p1], o2, Nat.zero_le _⟩
  | some s v r =>
    obtain ⟨q1, q2⟩ := sliceBound_run (P := P) (w := w) .slice3C h2 (Nat.le_refl _) r
    exact ⟨by simp [o1, p1, q1], o2, q2⟩

theorem subOf_spec {L : List D} {lo hi : Option SV} {r : List D} (h : subOf L lo hi = some r) : ∃ hh ll, hiOf L.length hi = some hh ∧
    loOf hh lo = some ll ∧ r = (L.take hh).drop ll := by
  unfold subOf at h
  split at h
  · rename_i hh h1
    split at h
    · rename_i ll h2
      cases h
      exact ⟨hh, ll, h1, h2, rfl⟩
    · cases h
  · cases h

/-- a part of a slice that is read -/
theorem sub_rep {St : Nat → Nat → Prop} {sz : Nat} {L : List D} {b off cap hh ll c' : Nat} (h : RepD w St (.sl .ro sz L) (.slice (some ⟨b, off, none⟩) L.length cap)) (hh' : hh ≤ L.length) (hl : ll ≤ hh) (hc : hh - ll ≤ c') :
    RepD w St (.sl .ro sz ((L.take hh).drop ll)) (.slice (some ⟨b, off + ll * sz, none⟩) (hh - ll) c') := by
  cases h with
  | slz _ _ _ ha => exact absurd rfl ha
  | sl _ _ _ _ _ vs hcap hm hsz hf hcell hc =>
    have hlen : ((L.take hh).drop ll).length = hh - ll := by simp; omega
    have := RepD.sl (w := w) (St := St) sz ((L.take hh).drop ll) b (off + ll * sz) c' (fun o => vs (ll * sz + o)) (by omega) (by omega)
      (fun x hx => hsz x (List.mem_of_mem_take (List.mem_of_mem_drop hx))) (fun x hx => hf x (List.mem_of_mem_take (List.mem_of_mem_drop hx)))
      (fun o ho => by
        rw [hlen] at ho
        rw [Nat.add_assoc]
        refine hcell (ll * sz + o) ?_
        have : ll * sz + (hh - ll) * sz = hh * sz := by rw [← Nat.add_mul]; congr 1; omega
        have : hh * sz ≤ L.length * sz := Nat.mul_le_mul_right _ hh'
        omega)
      (fun i x j c hx hc' => by
        rw [List.getElem?_drop, List.getElem?_take] at hx
        split at hx
        · have := hc (ll + i) x j c hx hc'
          rw [Nat.add_mul, Nat.add_assoc] at this
          exact this
        · cases hx)
    rw [hlen] at this
    exact this

theorem goes_slice (hI : Inv gl w0 St0 e a w g) {o : Oper} {t : TypeId} {x : Operand} {lo hi mx : Option Operand} (ho : o.op = .slice t x lo hi mx) {k : Slot → List Box → Prop}
    (h : bindO (sliceV P t (Ab.demote ((Ab.opnd gl e x).demote).toSV) (Ab.optV (fun x => (Ab.opnd gl e x).demote) lo) (Ab.optV (fun x => (Ab.opnd gl e x).demote) hi) (Ab.optV (fun x => (Ab.opnd gl e x).demote) mx)) fun r => k (.v r) e.boxes) :
    Goes P gl w0 St0 e.slots o a w k := by
  obtain ⟨r, hr, hk⟩ := bindO_some h
  clear h
  have hx := (hI.opToSV x).demote (O' := fun _ _ _ => False)
  have rlo := hI.opt lo
  have rhi := hI.opt hi
  have rmx := hI.opt mx
  generalize Ab.demote ((Ab.opnd gl e x).demote).toSV = sx at hr hx
  generalize Ab.optV (fun x => (Ab.opnd gl e x).demote) lo = slo at hr rlo
  generalize Ab.optV (fun x => (Ab.opnd gl e x).demote) hi = shi at hr rhi
  generalize Ab.optV (fun x => (Ab.opnd gl e x).demote) mx = smx at hr rmx
  unfold sliceV at hr
  split at hr
  · -- string
    rename_i hu
    split at hr
    · rename_i s
      split at hr
      · rename_i l hl
        cases hr
        obtain ⟨bs, hv, hs, hmax⟩ := hx.data.str_inv
        unfold subStr at hl
        split at hl
        · rename_i hh h1
          split at hl
          · rename_i ll h2
            cases hl
            have hsl : s.length = bs.size := by rw [hs, Array.length_toList]; rfl
            rw [hsl] at h1
            have hb := bounds_run (P := P) (w := w) false (Nat.le_refl bs.size) rlo rhi h1 h2
            have e2 : mx.map a.eval = none := by generalize mx.map a.eval = q at rmx; cases rmx; rfl
            refine Goes.valueV hI (v := .string (bs.extract ll hh)) ?_ (.d _ _ _ ?_) hk
            · simp [execOp, ho, Instr.sliceAt, run_underlying hu, Instr.slice, hv, hb.1, e2]
            · have : (bs.extract ll hh).data.toList = (s.take hh).drop ll := by
                rw [hs, ByteArray.data_extract, Array.toList_extract, List.extract_eq_drop_take']
              rw [← this]
              refine .str _ ?_
              have : (bs.extract ll hh).size ≤ bs.size := by rw [ByteArray.size_extract]; omega
              omega
          · cases hl
        · cases hl
      · cases hr
    · cases hr
  · -- slice
    rename_i e' hu
    split at hr
    · rename_i kk sz L s hL hs
      have hd := hx.toD hL
      split at hr
      · -- two bounds
        rename_i rr hsub
        obtain ⟨hh, ll, h1, h2, rfl⟩ := subOf_spec hsub
        have e2 : mx.map a.eval = none := by generalize mx.map a.eval = q at rmx; cases rmx; rfl
        split at hr
        · cases hr
          generalize hv : a.eval x = u at hd
          cases hd
          have hb := bounds_run (P := P) (w := w) true (Nat.le_refl 0) rlo rhi h1 h2
          have hl0 : ll = 0 := by have := hb.2; simp at this; omega
          have hh0 : hh = 0 := by have := hb.2; simp at this; omega
          subst hl0 hh0
          refine Goes.valueV hI (v := .slice none 0 0) ?_ (.d _ _ _ (.nilsl _)) hk
          simp [execOp, ho, Instr.sliceAt, run_underlying hu, Instr.slice, hv, hb.1, e2, sizeOf_run hs]
        · split at hr
          · rename_i hsz
            cases hr
            subst hsz
            generalize hv : a.eval x = u at hd
            have hd' := hd
            cases hd with
            | slz _ ad cap ha =>
              have hb := bounds_run (P := P) (w := w) true (Nat.zero_le cap) rlo rhi h1 h2
              have hl0 : ll = 0 := by have := hb.2; simp at this; omega
              have hh0 : hh = 0 := by have := hb.2; simp at this; omega
              subst hl0 hh0
              refine Goes.valueV hI (v := .slice (some ad) 0 cap) ?_ (.d _ _ _ (.slz _ ad cap ha)) hk
              simp only [execOp, ho, Instr.sliceAt, Sem.run_bind, run_underlying hu, Result.andThen_ok, Instr.slice, hv, e2, hb.1, sizeOf_run hs]
              by_cases hcl : cap = 0
              · simp [hcl]
              · simp [hcl]
                rfl
            | sl _ _ b off cap vs hcap hm _ hf hcell hc =>
              have hb := bounds_run (P := P) (w := w) true hcap rlo rhi h1 h2
              refine Goes.valueV hI (v := .slice (some (if cap = ll then ⟨b, off, none⟩ else ⟨b, off + ll * sz, none⟩)) (hh - ll) (cap - ll)) ?_ (.d _ _ _ ?_) hk
              · have := addr_add b off (ll * sz)
                simp only [execOp, ho, Instr.sliceAt, Sem.run_bind, run_underlying hu, Result.andThen_ok, Instr.slice, hv, e2, hb.1, sizeOf_run hs]
                by_cases hcl : cap = ll
                · simp [hcl]
                · simp [hcl, this]
              · by_cases hcl : cap = ll
                · have hhl : hh = ll := by omega
                  have hll : ll = L.length := by omega
                  simp only [hcl, ↓reduceIte]
                  have e0 : (L.take hh).drop ll = [] := List.drop_eq_nil_of_le (by simp; omega)
                  rw [e0]
                  have := RepD.sl (w := w) (St := g.St) sz [] b off (ll - ll) vs (by simp) (by simp) (by simp) (by simp) (by simp) (by simp)
                  simpa [hhl] using this
                · simp only [hcl, ↓reduceIte]
                  exact sub_rep hd' hb.2.1 hb.2.2 (by omega)
          · cases hr
      · -- three bounds
        rename_i rr m hsub
        obtain ⟨hh, ll, h1, h2, rfl⟩ := subOf_spec hsub
        split at hr
        · rename_i hsv mm hmm
          split at hr
          · rename_i k1 av k2 bv
            split at hr
            · rename_i hab
              simp only [hiOf] at h1
              have hmh : hh = mm := by
                obtain ⟨_, i1, q1, _, _, q2⟩ := indexOk_spec h1
                obtain ⟨_, i2, q3, _, _, q4⟩ := indexOk_spec hmm
                cases q1; cases q3; rw [q2, q4, hab]
              generalize hqh : hi.map a.eval = qh at rhi
              generalize hqm : mx.map a.eval = qm at rmx
              cases rhi with
              | some _ vh rh =>
                cases rmx with
                | some _ vm rm =>
                  split at hr
                  · cases hr
                    generalize hv : a.eval x = u at hd
                    cases hd
                    have hb := bounds3_run (P := P) (w := w) (Nat.le_refl 0) rlo rh rm hmm h1 hmh h2
                    have hl0 : ll = 0 := by have := hb.2; simp at this; omega
                    have hh0 : hh = 0 := by have := hb.2; simp at this; omega
                    subst hl0 hh0
                    refine Goes.valueV hI (v := .slice none 0 0) ?_ (.d _ _ _ (.nilsl _)) hk
                    simp [execOp, ho, Instr.sliceAt, run_underlying hu, Instr.slice, hv, hb.1, hqh, hqm, sizeOf_run hs]
                  · split at hr
                    · rename_i hsz
                      cases hr
                      subst hsz
                      generalize hv : a.eval x = u at hd
                      have hd' := hd
                      cases hd with
                      | slz _ ad cap ha =>
                        have hb := bounds3_run (P := P) (w := w) (Nat.zero_le cap) rlo rh rm hmm h1 hmh h2
                        have hl0 : ll = 0 := by have := hb.2; simp at this; omega
                        have hh0 : hh = 0 := by have := hb.2; simp at this; omega
                        subst hl0 hh0
                        refine Goes.valueV hI (v := .slice (some ad) 0 0) ?_ ?_ hk
                        · simp [execOp, ho, Instr.sliceAt, run_underlying hu, Instr.slice, hv, hb.1, hqh, hqm, sizeOf_run hs]
                        · exact .full _ sz [] ad (.slz sz ad 0 ha)
                      | sl _ _ b off cap vs hcap hm _ hf hcell hc =>
                        have hb := bounds3_run (P := P) (w := w) hcap rlo rh rm hmm h1 hmh h2
                        have hlen : ((L.take hh).drop ll).length = hh - ll := by simp; omega
                        by_cases hcl : hh = ll
                        · subst hcl
                          have e0 : (L.take hh).drop hh = [] := List.drop_eq_nil_of_le (by simp; omega)
                          rw [e0] at hk
                          refine Goes.valueV hI (v := .slice (some ⟨b, off, none⟩) 0 0) ?_ ?_ hk
                          · simp [execOp, ho, Instr.sliceAt, run_underlying hu, Instr.slice, hv, hb.1, hqh, hqm, sizeOf_run hs]
                          · exact .full _ sz [] ⟨b, off, none⟩ (RepD.sl sz [] b off 0 vs (by simp) (by simp) (by simp) (by simp) (by simp) (by simp))
                        · refine Goes.valueV hI (v := .slice (some ⟨b, off + ll * sz, none⟩) (hh - ll) (hh - ll)) ?_ ?_ hk
                          · have := addr_add b off (ll * sz)
                            simp [execOp, ho, Instr.sliceAt, run_underlying hu, Instr.slice, hv, hb.1, hqh, hqm, sizeOf_run hs, hcl, this]
                          · have := sub_rep (c' := hh - ll) hd' hb.2.1 hb.2.2 (Nat.le_refl _)
                            rw [← hlen] at this ⊢
                            exact .full _ sz _ _ this
                    · cases hr
            · cases hr
          · cases hr
        · cases hr
      · cases hr
    · cases hr
  · cases hr

end
end Go.Proofs.Ytfeepndphaboeaa.Ab
