/-
  THE ABSTRACT WALK: variables: made, read, written; parts of slices and structs.
-/
import Derived.Test.YtfeepndphaboeaaAb7
set_option linter.unusedVariables false
set_option linter.unusedSimpArgs false
namespace Go.Proofs.Ytfeepndphaboeaa.Ab
open Go Go.RowKit

section
variable {P : Program} {gl : Nat → Option D} {w0 : World} {St0 : Nat → Nat → Prop} {e : Env} {a : Act} {w : World} {g : Gh}

theorem Inv.opS (hI : Inv gl w0 St0 e a w g) {x : Operand} {s : Slot} (h : (Ab.opnd gl e x).demote = s) : RepS w0.heap.size w g (fun _ _ _ _ => False) s (a.eval x) := h ▸ hI.opnd x

theorem RepS.v_inv {base : Nat} {O : Nat → Nat → Nat → Nat → Prop} {x : SV} {v : Value} (h : RepS base w g O (.v x) v) : RepV w g.St base (O 0) x v := by
  cases h with
  | v _ _ _ h => exact h
theorem RepS.p_inv {base : Nat} {O : Nat → Nat → Nat → Nat → Prop} {b off : Nat} {v : Value} (h : RepS base w g O (.p b off) v) : ∃ blk, v = .pointer (some ⟨blk, off, none⟩) ∧ g.bx[b]? = some (some blk) := by
  cases h with
  | p _ _ _ blk h => exact ⟨blk, rfl, h⟩
theorem RepS.t_inv {base : Nat} {O : Nat → Nat → Nat → Nat → Prop} {xs : List SV} {v : Value} (h : RepS base w g O (.t xs) v) :
    ∃ vs, v = .tuple vs ∧ xs.length = vs.size ∧ ∀ (j : Nat) x v, xs[j]? = some x → vs[j]? = some v → RepV w g.St base (O j) x v := by
  cases h with
  | t _ _ vs hl hc => exact ⟨vs, rfl, hl, hc⟩

/-- a cell's value is of one cell -/
theorem RepV.oneCell {St : Nat → Nat → Prop} {base : Nat} {O : Nat → Nat → Nat → Prop} {x : SV} {v : Value} (h : RepV w St base O x v) (hx : (match x with | .d y => y.one = true | .undef => False | _ => True)) :
    v.oneCell' = true := by
  cases h <;> first | rfl | (exact RepD.oneCell (by assumption) hx) | exact hx.elim

/-- cellsV: the value's cells stand for them -/
theorem RepV.cells {St : Nat → Nat → Prop} {base : Nat} {O : Nat → Nat → Nat → Prop} {x : SV} {v : Value} (h : RepV w St base O x v) {l : List SV} (hl : cellsV x = some l) :
    l.length = v.cells.size ∧ (∀ y ∈ v.cells, y.oneCell' = true) ∧ ∀ (i : Nat) c y, l[i]? = some c → v.cells[i]? = some y → RepV w St base O c y := by
  have one : ∀ (c : SV) (u : Value), RepV w St base O c u → u.oneCell' = true → u.cells = #[u] → [c].length = u.cells.size ∧ (∀ y ∈ u.cells, y.oneCell' = true) ∧ ∀ (i : Nat) c' y, [c][i]? = some c' → u.cells[i]? = some y → RepV w St base O c' y := by
    intro c u hr h1 hu
    rw [hu]
    refine ⟨rfl, by simpa using h1, fun i c' y hc hy => ?_⟩
    cases i with
    | zero => simp at hc hy; subst hc hy; exact hr
    | succ i => simp at hc
  cases h with
  | d _ y _ hd =>
    simp only [cellsV, Option.some.injEq] at hl
    subst hl
    by_cases hy : y.one = true
    · have hc : y.cells = [y] := by cases y <;> first | rfl | simp [D.one] at hy
      have h1 := hd.oneCell hy
      have hv : v.cells = #[v] := by cases v <;> first | rfl | simp [Value.oneCell'] at h1
      rw [hc]
      exact one (.d y) v (.d _ _ _ hd) h1 hv
    · cases y <;> simp only [D.one, not_true_eq_false] at hy
      rename_i ds
      obtain ⟨vs, rfl, ⟨hs, hc⟩, hf⟩ := hd.agg_inv
      refine ⟨by simpa [D.cells, Value.cells] using hs, fun y hy => ?_, fun i c y hc' hy => ?_⟩
      · obtain ⟨i, hi, rfl⟩ := Array.mem_iff_getElem.1 hy
        have hi' : i < ds.length := by rw [hs]; exact hi
        exact (hc i ds[i] _ (List.getElem?_eq_getElem hi') (Array.getElem?_eq_getElem hi)).oneCell (hf _ (List.getElem_mem hi'))
      · simp only [D.cells, List.getElem?_map, Option.map_eq_some_iff] at hc'
        obtain ⟨d, hd', rfl⟩ := hc'
        exact .d _ _ _ (hc i d y hd' hy)
  | own _ sz L gg cap hd hcap ho => simp only [cellsV, Option.some.injEq] at hl; subst hl; exact one _ _ (.own _ sz L gg cap hd hcap ho) rfl rfl
  | full _ sz L ad hd => simp only [cellsV, Option.some.injEq] at hl; subst hl; exact one _ _ (.full _ sz L ad hd) rfl rfl
  | ref _ cs off b o vs hb h1 h2 => simp only [cellsV, Option.some.injEq] at hl; subst hl; exact one _ _ (.ref _ cs off b o vs hb h1 h2) rfl rfl
  | dptr _ y off b o vs h0 h1 h2 => simp only [cellsV, Option.some.injEq] at hl; subst hl; exact one _ _ (.dptr _ y off b o vs h0 h1 h2) rfl rfl
  | clo _ f first cap fv cv h1 h2 h3 h4 => simp only [cellsV, Option.some.injEq] at hl; subst hl; exact one _ _ (.clo _ f first cap fv cv h1 h2 h3 h4) rfl rfl
  | undef _ _ => simp [cellsV] at hl

theorem zeroCells_rep {t : TypeId} {z : List D} (h : zeroCells? P t = some z) : ∃ zv : Value, (∀ w : World, (zeroValue t).run P w = .ok zv w) ∧ z.length = zv.cells.size ∧ (∀ d ∈ z, d.one = true) ∧
    ∀ (w : World) (St : Nat → Nat → Prop) (i : Nat) x v, z[i]? = some x → zv.cells[i]? = some v → RepD w St x v := by
  unfold zeroCells? at h
  split at h
  · rename_i i hi
    split at h
    · rename_i zv hz
      refine ⟨zv, fun w => by simp [zeroValue, typeInfo, hi, hz], ?_, ofScals_one h, fun w St j x v hx hv => ?_⟩
      · have := (ofScals_rep (w := default) (St := fun _ _ => False) h).1
        simpa using this
      · exact (ofScals_rep (w := w) (St := St) h).2 j x v hx (by simpa using hv)
    · cases h
  · cases h

theorem goes_alloc (hI : Inv gl w0 St0 e a w g) {o : Oper} {t : TypeId} (ho : o.op = .alloc t) {id : Nat} {k : Slot → List Box → Prop}
    (hid : e.boxes[id]? = some .none)
    (h : bindO (zeroCells? P t) fun z => k (.p id 0) (e.boxes.set id (.cells (z.map .d)))) : Goes P gl w0 St0 e.slots o a w k := by
  obtain ⟨z, hz, hk⟩ := bindO_some h
  obtain ⟨zv, hrun, hlen, hone, hrep⟩ := zeroCells_rep hz
  refine Goes.newBox hI hid (cells := zv.cells) (t := t) (bx := .cells (z.map .d)) ?_ ?_ ?_ hk
  · simp [execOp, ho, Instr.alloc, hrun, newVar, newRow]
  · intro y hy
    obtain ⟨i, hi, rfl⟩ := Array.mem_iff_getElem.1 hy
    have hi' : i < z.length := by rw [hlen]; exact hi
    exact (hrep w (fun _ _ => False) i z[i] _ (List.getElem?_eq_getElem hi') (Array.getElem?_eq_getElem hi)).oneCell (hone _ (List.getElem_mem hi'))
  · intro w' g' O hX
    refine ⟨by simpa using hlen, fun j x y hx hy => ?_⟩
    simp only [List.getElem?_map, Option.map_eq_some_iff] at hx
    obtain ⟨d, hd, rfl⟩ := hx
    exact .d _ _ _ (hrep _ _ j d y hd hy)

theorem goes_box (hI : Inv gl w0 St0 e a w g) {o : Oper} {t : TypeId} {x : Operand} (ho : o.op = .box t x) {id : Nat} {k : Slot → List Box → Prop}
    (hid : e.boxes[id]? = some .none)
    (h : bindO (sizeOf? P t) fun sz => (match (Ab.opnd gl e x).demote with
    | .v y => bindO (cellsV y) fun l => l.length = sz ∧ k (.p id 0) (e.boxes.set id (.cells l))
    | .t _ => False
    | s => (match sz with | 1 => k (.p id 0) (e.boxes.set id (.one s)) | _ => False))) : Goes P gl w0 St0 e.slots o a w k := by
  obtain ⟨sz, hsz, h⟩ := bindO_some h
  have hx := hI.opnd x
  have hrun : (execOp a.eval o).run P w = .ok (.value (.pointer (some ⟨w.heap.size, 0, none⟩))) (w.alloc (.cells (a.eval x).cells t)) := by
    simp [execOp, ho, Instr.box, newVar, newRow]
  have hslot : ∀ s, (Ab.opnd gl e x).demote = s → (∀ y, s ≠ .v y) → (∀ y, s ≠ .t y) → k (.p id 0) (e.boxes.set id (.one s)) → Goes P gl w0 St0 e.slots o a w k := by
    intro s hs h1 h2 hk
    rw [hs] at hx
    have hc : (a.eval x).cells = #[a.eval x] := by
      clear hrun
      generalize a.eval x = u at hx
      cases hx with
      | v _ y _ _ => exact absurd rfl (h1 y)
      | p => rfl
      | c => rfl
      | t _ y _ _ _ => exact absurd rfl (h2 y)
    have h1c : (a.eval x).oneCell' = true := by
      clear hrun hc
      generalize a.eval x = u at hx
      cases hx with
      | v _ y _ _ => exact absurd rfl (h1 y)
      | p => rfl
      | c => rfl
      | t _ y _ _ _ => exact absurd rfl (h2 y)
    refine Goes.newBox hI hid (bx := .one s) hrun (by rw [hc]; simpa using h1c) (fun w' g' O hX => ?_) hk
    refine ⟨by rw [hc]; rfl, fun y hy => ?_⟩
    rw [hc] at hy
    simp at hy
    subst hy
    exact hx.mono hX.st hX.bs hX.bx fun _ _ _ _ h => h.elim
  split at h
  · rename_i y hy
    obtain ⟨l, hl, hlen, hk⟩ := bindO_some h
    rw [hy] at hx
    obtain ⟨h1, h2, h3⟩ := hx.v_inv.cells hl
    refine Goes.newBox hI hid (bx := .cells l) hrun h2 (fun w' g' O hX => ⟨h1, fun j c u hc hu => ?_⟩) hk
    exact (h3 j c u hc hu).mono hX.st hX.bs _ (fun _ _ _ h => h.elim)
  · exact h.elim
  · rename_i h1 h2
    split at h
    · exact hslot _ rfl (fun y hy => h1 y hy) (fun y hy => h2 y hy) h
    · exact h.elim

/-! ### reading -/
theorem loadVar_run {t : TypeId} {b : Bool} {n : Nat} (hl : lay? P t = some (b, n)) (blk off : Nat) (vs : Nat → Value)
    (h : ∀ j, j < (if b then n else 1) → w.cell? ⟨blk, off + j, none⟩ = some (vs j)) :
    (loadVar t ⟨blk, off, none⟩).run P w = .ok (if b then .agg ((List.range n).map vs).toArray else vs 0) w := by
  obtain ⟨hb, hn, _⟩ := lay_run hl
  unfold loadVar
  simp only [Sem.run_bind, aggOf_run hb, Result.andThen_ok]
  cases b
  · have := h 0 (by simp)
    simp only [Nat.add_zero] at this
    simp [this]
  · have := run_loadCells (P := P) w ⟨blk, off, none⟩ n vs (fun j hj => by rw [addr_add]; exact h j (by simpa using hj))
    simp [sizeOf_run hn, this]

theorem toDs_spec : ∀ {l : List SV} {r : List D}, toDs l = some r → r.length = l.length ∧ ∀ (i : Nat) x y, l[i]? = some x → r[i]? = some y → toD x = some y
  | [], r, h => by cases h; simp
  | v :: l, r, h => by
    simp only [toDs] at h
    split at h
    · rename_i x hx
      split at h
      · rename_i r' hr
        cases h
        obtain ⟨h1, h2⟩ := toDs_spec hr
        refine ⟨by simp [h1], fun i y z hy hz => ?_⟩
        cases i with
        | zero => simp at hy hz; subst hy hz; exact hx
        | succ i => simp at hy hz; exact h2 i y z hy hz
      · cases h
    · cases h

theorem toD_one {x : SV} {y : D} (h : toD x = some y) (hx : match x with | .d z => z.one = true | _ => True) : y.one = true := by
  cases x <;> simp only [toD, Option.some.injEq, reduceCtorEq] at h <;> subst h <;> first | exact hx | rfl

/-- a part of cells in memory -/
theorem partV_load {t : TypeId} {b : Bool} {n off : Nat} {cs : List SV} {x : SV} {St : Nat → Nat → Prop} {base : Nat} {O : Nat → Nat → Nat → Nat → Prop} (hl : lay? P t = some (b, n)) (h : partV b n off cs = some x) (blk o : Nat)
    (vs : Nat → Value) (hcell : ∀ i, i < cs.length → w.cell? ⟨blk, o + i, none⟩ = some (vs i)) (hrep : ∀ (i : Nat) c, cs[i]? = some c → RepV w St base (O i) c (vs i))
    (hone : ∀ i, i < cs.length → (vs i).oneCell' = true) :
    ∃ v, (loadVar t ⟨blk, o + off, none⟩).run P w = .ok v w ∧ RepV w St base (O off) x v := by
  unfold partV at h
  cases b
  · simp only [cond_false] at h
    have hlt := (List.getElem?_eq_some_iff.1 h).1
    refine ⟨vs off, ?_, hrep off x h⟩
    rw [loadVar_run hl blk (o + off) (fun j => vs (off + j)) (fun j hj => by simp at hj; subst hj; simpa using hcell off hlt)]
    simp
  · simp only [cond_true] at h
    split at h
    · rename_i hle
      split at h
      · rename_i l hds
        cases h
        obtain ⟨hlen, hsp⟩ := toDs_spec hds
        refine ⟨.agg ((List.range n).map fun j => vs (off + j)).toArray, ?_, .d _ _ _ (.agg _ _ ?_ ?_ ?_)⟩
        · rw [loadVar_run hl blk (o + off) (fun j => vs (off + j)) (fun j hj => by
            simp at hj; rw [Nat.add_assoc]; exact hcell (off + j) (by omega))]
          simp
        · intro d hd
          obtain ⟨i, hi, rfl⟩ := List.mem_iff_getElem.1 hd
          have hi' : i < ((cs.drop off).take n).length := by rw [← hlen]; exact hi
          have hs := hsp i _ _ (List.getElem?_eq_getElem hi') (List.getElem?_eq_getElem hi)
          have hi2 : off + i < cs.length := by simp at hi'; omega
          have hc : ((cs.drop off).take n)[i] = cs[off + i] := by simp
          have hr := hrep (off + i) _ (List.getElem?_eq_getElem hi2)
          have h1 := hone (off + i) hi2
          rw [hc] at hs
          refine toD_one hs ?_
          revert hs hr
          cases cs[off + i] <;> intro hs hr <;> try trivial
          rename_i z
          cases z <;> first | rfl | (obtain ⟨_, hv, _⟩ := hr.data.agg_inv; rw [hv] at h1; simp [Value.oneCell'] at h1)
        · simp [hlen]; omega
        · intro i d v hd hv
          have hi : i < l.length := (List.getElem?_eq_some_iff.1 hd).1
          have hi' : i < ((cs.drop off).take n).length := by rw [← hlen]; exact hi
          have hi2 : off + i < cs.length := by simp at hi'; omega
          have hin : i < n := by simp at hi'; omega
          have hc : ((cs.drop off).take n)[i]? = some cs[off + i] := by
            rw [List.getElem?_eq_getElem hi']; simp
          have hs := hsp i _ _ hc hd
          have hr := hrep (off + i) _ (List.getElem?_eq_getElem hi2)
          simp [hin] at hv
          subst hv
          exact hr.toD hs
      · cases h
    · cases h

end
end Go.Proofs.Ytfeepndphaboeaa.Ab
