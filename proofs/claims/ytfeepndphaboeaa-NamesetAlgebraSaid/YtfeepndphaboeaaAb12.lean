/-
  THE ABSTRACT WALK: literals of structs and slices; lengths; appends.
-/
import Derived.Test.YtfeepndphaboeaaAb11
set_option linter.unusedVariables false
set_option linter.unusedSimpArgs false
namespace Go.Proofs.Ytfeepndphaboeaa.Ab
open Go Go.RowKit

section
variable {P : Program} {gl : Nat → Option D} {w0 : World} {St0 : Nat → Nat → Prop} {e : Env} {a : Act} {w : World} {g : Gh}

theorem goes_len (hI : Inv gl w0 St0 e a w g) {o : Oper} {c : Call} (ho : o.op = .call c) (hc : c.callee = .builtin .len) {x : Operand} {xs : List Operand} {t : TypeId} {ts : List TypeId}
    (hx : c.args.toList = x :: xs) (ht : c.argTypes.toList = t :: ts) {k : Slot → List Box → Prop} (h : bindO (lenV P t ((Ab.opnd gl e x).demote).toSV) fun r => k (.v r) e.boxes) : Goes P gl w0 St0 e.slots o a w k := by
  obtain ⟨r, hr, hk⟩ := bindO_some h
  have hx' := hI.opToSV x
  generalize ((Ab.opnd gl e x).demote).toSV = sx at hr hx'
  have h0 : c.args[0]? = some x := by rw [← Array.getElem?_toList, hx]; rfl
  have h1 : c.argTypes[0]? = some t := by rw [← Array.getElem?_toList, ht]; rfl
  have hrun : ∀ v, (Builtin.len_ c.argTypes o.type (c.args.map a.eval)).run P w = .ok v w → (execOp a.eval o).run P w = .ok (.value v) w := by
    intro v hv
    simp [execOp, ho, resolve, hc, invoke, builtin, hv]
  unfold lenV at hr
  split at hr
  · rename_i hu
    split at hr
    · rename_i s
      cases hr
      obtain ⟨bs, hv, hs, hm⟩ := hx'.data.str_inv
      refine Goes.valueV hI (v := .int .i64 bs.size) (hrun _ ?_) (.d _ _ _ ?_) hk
      · simp [Builtin.len_, h0, h1, run_underlying hu, hv, goInt]
      · have : (bs.size : Int) = (s.length : Int) := by rw [hs, Array.length_toList]; rfl
        rw [this]
        refine .int _ _ ?_
        have : s.length = bs.size := by rw [hs, Array.length_toList]; rfl
        simp only [maxLen] at hm
        simp [wfI, IntKind.min, IntKind.max, IntKind.signed, IntKind.bits]
        omega
    · cases hr
  · rename_i n e' hu
    cases hb : Nat.ble n maxLen with
    | false => rw [hb] at hr; cases hr
    | true =>
      rw [hb] at hr
      cases hr
      have hm := Nat.le_of_ble_eq_true hb
      refine Goes.valueV hI (v := .int .i64 n) (hrun _ ?_) (.d _ _ _ (.int _ _ ?_)) hk
      · simp [Builtin.len_, h0, h1, run_underlying hu, goInt]
      · simp only [maxLen] at hm
        simp [wfI, IntKind.min, IntKind.max, IntKind.signed, IntKind.bits]
        omega
  · rename_i e' hu
    split at hr
    · rename_i L hL
      cases hr
      have key : ∃ ad cap, a.eval x = .slice ad L.length cap ∧ L.length ≤ maxLen := by
        have go : ∀ {s L' v}, RepD w g.St (.sl .ro s L') v → ∃ ad cap, v = .slice ad L'.length cap ∧ L'.length ≤ maxLen := by
          intro s L' v hd
          cases hd with
          | sl _ _ b off cap vs hcap hm hsz hf hcell hc => exact ⟨_, _, rfl, hm⟩
          | slz _ ad c _ => exact ⟨_, _, rfl, by simp⟩
        unfold elemsAny at hL
        split at hL
        · rename_i k' s' L'
          cases hL
          have hd := hx'.data
          cases k'
          · generalize a.eval x = u at hd; cases hd; exact ⟨_, _, rfl, by simp⟩
          · exact go hd
        · cases hL
          generalize a.eval x = u at hx'
          cases hx' with
          | own _ _ _ gg cap hd hcap ho => exact go hd
        · cases hL
          generalize a.eval x = u at hx'
          cases hx' with
          | full _ _ _ ad hd => exact go hd
        · cases hL
      obtain ⟨ad, cap, hv, hm⟩ := key
      refine Goes.valueV hI (v := .int .i64 L.length) (hrun _ ?_) (.d _ _ _ (.int _ _ ?_)) hk
      · simp [Builtin.len_, h0, h1, run_underlying hu, hv, goInt]
      · simp only [maxLen] at hm
        simp [wfI, IntKind.min, IntKind.max, IntKind.signed, IntKind.bits]
        omega
    · cases hr
  · cases hr


theorem foldl_set_get (off : Nat) : ∀ (l : List Value) (k : Nat) (cells : Array Value) (i : Nat), off + k + l.length ≤ cells.size →
    ((l.zipIdx k).foldl (fun cs (c, j) => cs.setIfInBounds (off + j) c) cells).size = cells.size ∧
    ((l.zipIdx k).foldl (fun cs (c, j) => cs.setIfInBounds (off + j) c) cells)[i]? = if off + k ≤ i ∧ i < off + k + l.length then l[i - (off + k)]? else cells[i]?
  | [], k, cells, i, _ => by
    refine ⟨rfl, ?_⟩
    rw [if_neg (by simp; try omega)]
    simp
  | v :: l, k, cells, i, h => by
    simp only [List.length_cons] at h
    simp only [List.zipIdx_cons, List.foldl_cons]
    obtain ⟨h1, h2⟩ := foldl_set_get off l (k + 1) (cells.setIfInBounds (off + k) v) i (by simp; omega)
    refine ⟨by rw [h1]; simp, ?_⟩
    rw [h2]
    by_cases hi : i = off + k
    · subst hi
      rw [if_neg (by omega), if_pos (by simp)]
      simp only [Nat.sub_self, List.getElem?_cons_zero]
      rw [Array.getElem?_setIfInBounds_self]
      rw [if_pos (by omega)]
    · by_cases hr : off + (k + 1) ≤ i ∧ i < off + (k + 1) + l.length
      · rw [if_pos hr, if_pos (by simp; omega)]
        have : i - (off + k) = (i - (off + (k + 1))) + 1 := by omega
        rw [this, List.getElem?_cons_succ]
      · rw [if_neg hr, if_neg (by simp; omega), Array.getElem?_setIfInBounds_ne (by omega)]

/-- parts and what they stand for -/
def PartsRep (w : World) (St : Nat → Nat → Prop) : List (Nat × D) → List (Nat × Value) → Prop
  | [], [] => True
  | (i, d) :: l, (j, v) :: m => i = j ∧ RepD w St d v ∧ PartsRep w St l m
  | _, _ => False

theorem RepD.cells_rep {St : Nat → Nat → Prop} {d : D} {v : Value} (r : RepD w St d v) : RepCs w St d.cells v.cells := by
  by_cases h : d.one = true
  · have h1 := r.oneCell h
    have hc : d.cells = [d] := by cases d <;> first | rfl | simp [D.one] at h
    have hv : v.cells = #[v] := by cases v <;> first | rfl | simp [Value.oneCell'] at h1
    rw [hc, hv]
    refine ⟨rfl, fun i x y hx hy => ?_⟩
    cases i with
    | zero => simp at hx hy; subst hx hy; exact r
    | succ i => simp at hx
  · cases d <;> simp only [D.one, not_true_eq_false] at h
    obtain ⟨vs, rfl, hr, _⟩ := r.agg_inv
    exact hr

theorem fill_rep {St : Nat → Nat → Prop} (place : Nat → Option (Nat × Nat)) : ∀ (ps : List (Nat × D)) (qs : List (Nat × Value)) (cs : List D) (cells : Array Value) (r : List D),
    PartsRep w St ps qs → RepCs w St cs cells → (∀ d ∈ cs, d.one = true) → fillD place cs ps = some r →
    ∃ r', Instr.fill place cells qs = some r' ∧ RepCs w St r r' ∧ ∀ d ∈ r, d.one = true
  | [], [], cs, cells, r, _, hc, hf, h => by
    simp only [fillD, Option.some.injEq] at h
    subst h
    exact ⟨cells, rfl, hc, hf⟩
  | (i, d) :: ps, (j, v) :: qs, cs, cells, r, hp, hc, hf, h => by
    obtain ⟨rfl, hd, hp⟩ := hp
    simp only [fillD] at h
    split at h
    · cases h
    · rename_i off sz hpl
      split at h
      · rename_i hcond
        have hdc := hd.cells_rep
        have hsz : v.cells.size = sz := by rw [← hdc.1]; exact hcond.1
        have hle : off + sz ≤ cells.size := by rw [← hc.1]; exact hcond.2
        have hg := fun i => foldl_set_get off v.cells.toList 0 cells i (by simp [hsz]; omega)
        simp only [Nat.add_zero, Array.length_toList, hsz] at hg
        have efold : v.cells.zipIdx.foldl (fun cs (c, j) => cs.setIfInBounds (off + j) c) cells = (v.cells.toList.zipIdx.foldl (fun cs (c, j) => cs.setIfInBounds (off + j) c) cells) := by
          rw [← Array.foldl_toList, Array.toList_zipIdx]
        obtain ⟨r', h1, h2, h3⟩ := fill_rep place ps qs _ (v.cells.zipIdx.foldl (fun cs (c, j) => cs.setIfInBounds (off + j) c) cells) r hp (by
          rw [efold]
          constructor
          · rw [(hg 0).1, ← hc.1]; simp [hcond.1]; omega
          · intro i x y hx hy
            rw [(hg i).2] at hy
            have := splice_get cs d.cells off (by rw [hcond.1]; exact hcond.2) i
            rw [hcond.1] at this
            rw [this] at hx
            split at hx
            · rename_i h1
              rw [if_neg (by omega)] at hy
              exact hc.2 i x y hx hy
            · rename_i h1
              split at hx
              · rename_i h2
                rw [if_pos (by omega)] at hy
                rw [Array.getElem?_toList] at hy
                exact hdc.2 _ x y hx hy
              · rename_i h2
                rw [if_neg (by omega)] at hy
                exact hc.2 i x y hx hy) (by
          intro x hx
          simp only [List.mem_append] at hx
          rcases hx with (hx | hx) | hx
          · exact hf x (List.mem_of_mem_take hx)
          · exact hd.cells_one x hx
          · exact hf x (List.mem_of_mem_drop hx)) h
        refine ⟨r', ?_, h2, h3⟩
        rw [Instr.fill]
        simp only [hpl, hsz]
        rw [if_neg (by simp; omega)]
        exact h1
      · cases h
  | [], _ :: _, _, _, _, h, _, _, _ => h.elim
  | _ :: _, [], _, _, _, h, _, _, _ => h.elim

theorem partsD_rep (hI : Inv gl w0 St0 e a w g) : ∀ {ps : List (Nat × Operand)} {l : List (Nat × D)}, partsD (fun x => (Ab.opnd gl e x).demote) ps = some l → PartsRep w g.St l (ps.map fun (i, x) => (i, a.eval x))
  | [], l, h => by simp only [partsD, Option.some.injEq] at h; subst h; trivial
  | (i, x) :: ps, l, h => by
    simp only [partsD] at h
    split at h
    · rename_i y hy
      split at h
      · rename_i z hz
        split at h
        · rename_i r hr
          cases h
          exact ⟨rfl, (hI.opV hy).toD hz, partsD_rep hI hr⟩
        · cases h
      · cases h
    · cases h

theorem placesL_run : ∀ {fs : List Field} {l : List (Nat × Nat)}, placesL P fs = some l → (fs.mapM (m := Sem) fun f => do pure (f.offset, ← sizeOf f.type)).run P w = .ok l w
  | [], l, h => by simp only [placesL, Option.some.injEq] at h; subst h; rfl
  | f :: fs, l, h => by
    simp only [placesL] at h
    split at h
    · rename_i s hs
      split at h
      · rename_i r hr
        cases h
        simp only [List.mapM_cons, Sem.run_bind, sizeOf_run hs, Result.andThen_ok, Sem.run_pure, placesL_run hr]
      · cases h
    · cases h

theorem goes_build (hI : Inv gl w0 St0 e a w g) {o : Oper} {t : TypeId} {ps : Array (Nat × Operand)} (ho : o.op = .build t ps) {k : Slot → List Box → Prop}
    (h : bindO (partsD (fun x => (Ab.opnd gl e x).demote) ps.toList) fun l => bindO (buildD P t l) fun r => k (.v (.d r)) e.boxes) : Goes P gl w0 St0 e.slots o a w k := by
  obtain ⟨l, hl, h⟩ := bindO_some h
  obtain ⟨r, hr, hk⟩ := bindO_some h
  have hp := partsD_rep hI hl
  unfold buildD at hr
  split at hr
  · rename_i z hz
    split at hr
    · rename_i pl hpl
      split at hr
      · rename_i cs hcs
        cases hr
        obtain ⟨zv, hzr, hzl, hzone, hzrep⟩ := zeroCells_rep hz
        obtain ⟨r', h1, h2, h3⟩ := fill_rep (w := w) (St := g.St) pl l _ z zv.cells cs hp ⟨hzl, fun i x v => hzrep w g.St i x v⟩ hzone hcs
        refine Goes.valueV hI (v := .agg r') ?_ (.d _ _ _ (h2.agg h3)) hk
        have eparts : (ps.map fun (i, x) => (i, a.eval x)).toList = ps.toList.map fun (i, x) => (i, a.eval x) := by simp
        unfold fieldPlaces at hpl
        split at hpl
        · rename_i fs hu
          split at hpl
          · rename_i ll hll
            cases hpl
            have hm : (fs.mapM (m := Sem) fun f => do pure (f.offset, ← sizeOf f.type)).run P w = .ok ll.toArray w := by
              have e1 : fs = fs.toList.toArray := by simp
              rw [e1, List.mapM_toArray, Sem.run_map, placesL_run hll]
              rfl
            simp only [execOp, ho, Sem.run_bind, Instr.build, hzr, Result.andThen_ok, run_underlying hu, hm]
            rw [eparts]
            have : (fun x : Nat => ll.toArray[x]?) = fun i => ll[i]? := by funext i; simp
            rw [this, h1]
            rfl
          · cases hpl
        · rename_i n e' hu
          split at hpl
          · rename_i s hs
            cases hpl
            simp only [execOp, ho, Sem.run_bind, Instr.build, hzr, Result.andThen_ok, run_underlying hu, sizeOf_run hs]
            rw [eparts, h1]
            rfl
          · cases hpl
        · cases hpl
      · cases hr
    · cases hr
  · cases hr


theorem fillD_elems (sz n : Nat) : ∀ (l : List (Nat × D)) (cs : List D), cs.length = n * sz → partsFit sz n l = true →
    ∃ r, fillD (fun i => some (i * sz, sz)) cs l = some r ∧ r.length = n * sz ∧ ∀ i j, i < n → j < sz → r[i * sz + j]? = (match findPart i l with | some x => x.cells[j]? | none => cs[i * sz + j]?)
  | [], cs, h, _ => ⟨cs, rfl, h, fun i j _ _ => rfl⟩
  | (i0, d) :: l, cs, h, hp => by
    simp only [partsFit, Bool.and_eq_true] at hp
    obtain ⟨⟨h1, h2⟩, h3⟩ := hp
    have hi0 : i0 < n := Nat.lt_of_succ_le (Nat.le_of_ble_eq_true h1)
    have hd := Nat.eq_of_beq_eq_true h2
    have hle : i0 * sz + sz ≤ n * sz := by
      have : (i0 + 1) * sz ≤ n * sz := Nat.mul_le_mul_right _ hi0
      rw [Nat.succ_mul] at this; exact this
    obtain ⟨r, q1, q2, q3⟩ := fillD_elems sz n l (cs.take (i0 * sz) ++ d.cells ++ cs.drop (i0 * sz + sz)) (by rw [List.length_append, List.length_append, List.length_take, List.length_drop, hd, h]; omega) h3
    refine ⟨r, ?_, q2, fun i j hi hj => ?_⟩
    · simp only [fillD]
      rw [if_pos ⟨hd, by rw [h]; exact hle⟩]
      exact q1
    · rw [q3 i j hi hj]
      cases hfp : findPart i l with
      | some y => simp only [findPart, hfp]
      | none =>
        simp only [findPart, hfp]
        have := splice_get cs d.cells (i0 * sz) (by rw [hd, h]; exact hle) (i * sz + j)
        rw [hd] at this
        rw [this]
        cases hb : i == i0 with
        | true =>
          have : i = i0 := by simpa using hb
          subst this
          rw [if_neg (by omega), if_pos (by omega)]
          simp
        | false =>
          have hne : i ≠ i0 := by simpa using hb
          simp only [cond_false]
          rcases Nat.lt_or_ge i i0 with hlt | hge
          · have : (i + 1) * sz ≤ i0 * sz := Nat.mul_le_mul_right _ hlt
            rw [Nat.succ_mul] at this
            rw [if_pos (by omega)]
          · have : (i0 + 1) * sz ≤ i * sz := Nat.mul_le_mul_right _ (by omega)
            rw [Nat.succ_mul] at this
            rw [if_neg (by omega), if_neg (by omega)]

theorem buildElems_get (zero : D) (l : List (Nat × D)) : ∀ (n s i : Nat), (buildElems zero l n s).length = n ∧ (i < n → (buildElems zero l n s)[i]? = some (match findPart (s + i) l with | some x => x | none => zero))
  | 0, s, i => ⟨rfl, fun h => by omega⟩
  | n + 1, s, i => by
    refine ⟨by simp [buildElems, (buildElems_get zero l n (s + 1) 0).1], fun h => ?_⟩
    cases i with
    | zero => rfl
    | succ i =>
      have := (buildElems_get zero l n (s + 1) i).2 (by omega)
      simp only [buildElems, List.getElem?_cons_succ]
      rw [this]
      have : s + 1 + i = s + (i + 1) := by omega
      rw [this]

/-- new data -/
theorem Goes.newData (hI : Inv gl w0 St0 e a w g) {o : Oper} {cells : Array Value} {t : TypeId} {s : SV} {v : Value} {k : Slot → List Box → Prop}
    (hrun : (execOp a.eval o).run P w = .ok (.value v) (w.alloc (.cells cells t)))
    (rep : ∀ (g' : Gh), (∀ o, g'.St w.heap.size o) → Ext w0.heap.size w g (w.alloc (.cells cells t)) g' (fun _ => False) → RepV (w.alloc (.cells cells t)) g'.St w0.heap.size (fun _ _ _ => False) s v)
    (hk : k (.v s) e.boxes) : Goes P gl w0 St0 e.slots o a w k := by
  intro next Q hn
  unfold Oper.wp
  rw [hrun]
  have hle : w0.heap.size ≤ w.heap.size := hI.below.size
  have hX : Ext w0.heap.size w g (w.alloc (.cells cells t)) { g with St := fun b o => g.St b o ∨ b = w.heap.size } (fun _ => False) := by
    refine ⟨fun b o h => ⟨.inl h, cell_alloc_old w _ b o (hI.stlt h)⟩, fun b o h => cell_alloc_old w _ b o (by omega), fun i blk h => h, fun p b a c _ ho => ?_⟩
    have hlt := ho.lt
    obtain ⟨h1, h2, h3, ⟨cur, ty, h4, h4'⟩, h5⟩ := ho
    exact ⟨h1, h2, h3, ⟨cur, ty, (alloc_old w _ b hlt).trans h4, h4'⟩, fun o ho => by rintro (h | h); exact h5 o ho h; omega⟩
  have hr := rep { g with St := fun b o => g.St b o ∨ b = w.heap.size } (fun _ => Or.inr rfl) hX
  refine hn (.v s) _ _ _ { g with St := fun b o => g.St b o ∨ b = w.heap.size } (hI.step0 (g' := { g with St := fun b o => g.St b o ∨ b = w.heap.size })
    ⟨hX.st, hX.bs, hX.bx, fun p b a c _ ho => hX.own p b a c (fun h => h) ho⟩ ((Below.refl _ _).alloc (Nat.le_refl _) _) (fun d _ => ?_) rfl (fun b o h => ?_)) hk
  · exact .v _ _ _ (hr.mono (fun _ _ h => ⟨h, rfl⟩) (fun _ _ _ => rfl) _ (fun _ _ _ h => h.elim))
  · have hs := alloc_size w (.cells cells t)
    rcases h with h | h
    · exact .inl h
    · right; omega

theorem mkElem_cells {b : Bool} {z : List D} (hf : ∀ d ∈ z, d.one = true) (h1 : b = false → z.length = 1) : (mkElem b z).cells = z := by
  unfold mkElem
  cases b
  · obtain ⟨x, rfl⟩ := List.length_eq_one_iff.1 (h1 rfl)
    have := hf x (by simp)
    cases x <;> first | rfl | simp [D.one] at this
  · rfl

theorem elemOf_run {t e' : TypeId} (h : elemOf? P t = some e') : P.underlying t = some (.slice e') := by
  unfold elemOf? at h
  split at h
  · rename_i e'' hu; cases h; exact hu
  · cases h

theorem goes_buildSlice (hI : Inv gl w0 St0 e a w g) {o : Oper} {t : TypeId} {n : Nat} {ps : Array (Nat × Operand)} (ho : o.op = .buildSlice t n ps) {k : Slot → List Box → Prop}
    (h : bindO (elemOf? P t) fun e' => bindO (lay? P e') fun ly => bindO (zeroCells? P e') fun z => bindO (partsD (fun x => (Ab.opnd gl e x).demote) ps.toList) fun l =>
      bif Nat.ble (n * ly.2) (2 ^ 24) && Nat.blt 0 ly.2 && Nat.beq z.length ly.2 then (partsFit ly.2 n l = true ∧ k (.v (.full ly.2 (buildElems (mkElem ly.1 z) l n 0))) e.boxes) else False) :
    Goes P gl w0 St0 e.slots o a w k := by
  obtain ⟨e', he, h⟩ := bindO_some h
  obtain ⟨⟨b, sz⟩, hl, h⟩ := bindO_some h
  obtain ⟨z, hz, h⟩ := bindO_some h
  obtain ⟨l, hp, h⟩ := bindO_some h
  cases hc : (Nat.ble (n * sz) (2 ^ 24) && Nat.blt 0 sz && Nat.beq z.length sz) with
  | false => simp only [hc, cond_false] at h
  | true =>
    simp only [hc, cond_true] at h
    simp only [Bool.and_eq_true] at hc
    obtain ⟨⟨hc1, hc2⟩, hc3⟩ := hc
    obtain ⟨hfit, hk⟩ := h
    have hlen := Nat.eq_of_beq_eq_true hc3
    have h24 := Nat.le_of_ble_eq_true hc1
    have hsz0 : 0 < sz := Nat.lt_of_succ_le (Nat.le_of_ble_eq_true hc2)
    have hu := elemOf_run he
    obtain ⟨hb, hn, hone⟩ := lay_run hl
    obtain ⟨zv, hzr, hzl, hzone, hzrep⟩ := zeroCells_rep hz
    have hparts := partsD_rep hI hp
    -- the zero cells
    have hzs : zv.cells.size = sz := by rw [← hzl, hlen]
    have hz0 : RepCs w g.St ((List.range (n * sz)).map fun i => z.getD (i % sz) .nilptr) ((Array.range (n * sz)).map (zv.cells[· % zv.cells.size]!)) ∧
        ∀ d ∈ ((List.range (n * sz)).map fun i => z.getD (i % sz) .nilptr), d.one = true := by
      have hm : ∀ i, i % sz < z.length := fun i => by rw [hlen]; exact Nat.mod_lt _ hsz0
      constructor
      · refine ⟨by simp, fun i x v hx hv => ?_⟩
        simp only [List.getElem?_map, Option.map_eq_some_iff] at hx
        obtain ⟨j, hj, rfl⟩ := hx
        have hi : i < n * sz := by have := (List.getElem?_eq_some_iff.1 hj).1; simpa using this
        rw [List.getElem?_range hi] at hj
        cases hj
        have hmi := hm i
        have hmv : i % sz < zv.cells.size := by rw [hzs]; exact Nat.mod_lt _ hsz0
        simp [hi, hzs] at hv
        rw [getElem!_pos zv.cells (i % sz) hmv] at hv
        subst hv
        refine hzrep w g.St (i % sz) _ _ ?_ (Array.getElem?_eq_getElem hmv)
        rw [List.getD_eq_getElem?_getD, List.getElem?_eq_getElem hmi]; rfl
      · intro d hd
        simp only [List.mem_map, List.mem_range] at hd
        obtain ⟨i, hi, rfl⟩ := hd
        have hmi := hm i
        rw [List.getD_eq_getElem?_getD, List.getElem?_eq_getElem hmi]
        exact hzone _ (List.getElem_mem hmi)
    obtain ⟨r, q1, q2, q3⟩ := fillD_elems sz n l ((List.range (n * sz)).map fun i => z.getD (i % sz) .nilptr) (by simp) hfit
    obtain ⟨r', f1, f2, f3⟩ := fill_rep (w := w) (St := g.St) _ l _ _ _ r hparts hz0.1 hz0.2 q1
    have eparts : (ps.map fun (i, x) => (i, a.eval x)).toList = ps.toList.map fun (i, x) => (i, a.eval x) := by simp
    have hr's : r'.size = n * sz := by rw [← f2.1, q2]
    refine Goes.newData hI (cells := r') (t := e') (v := .slice (some ⟨w.heap.size, 0, none⟩) n n) ?_ (fun g' hst hX => ?_) hk
    · have hif : ¬ (n * sz > 2 ^ 24) := by omega
      have hns : ¬ (n * sz = 0 ∧ n ≠ 0) := by
        rintro ⟨h1, h2⟩
        rcases Nat.mul_eq_zero.1 h1 with h | h <;> omega
      simp only [execOp, ho, Sem.run_bind, Instr.buildSlice, run_underlying hu, Result.andThen_ok, sizeOf_run hn, hif, if_false]
      by_cases h0 : n * sz = 0
      · have hz1 : (Array.range (n * sz)).map (fun x => (#[] : Array Value)[x % (#[] : Array Value).size]!) = (Array.range (n * sz)).map (zv.cells[· % zv.cells.size]!) := by rw [h0]; simp
        simp only [if_pos h0, Sem.run_bind, Sem.run_pure, Result.andThen_ok]
        rw [hz1, eparts, f1]
        simp [newRow]
      · simp only [if_neg h0, Sem.run_bind, Sem.run_pure, Result.andThen_ok, hzr]
        rw [eparts, f1]
        simp [newRow]
    · have hL := buildElems_get (mkElem b z) l n 0
      have hLlen := (hL 0).1
      have hpf : ∀ i x, findPart i l = some x → x.cells.length = sz ∧ ∀ c ∈ x.cells, c.one = true := by
        intro i x hx
        clear hL hLlen q1 q2 q3 f1 f2 f3 hp hk
        revert hfit hparts
        generalize (ps.toList.map fun (i, x) => (i, a.eval x)) = qs
        intro hfit hparts
        induction l generalizing qs with
        | nil => simp [findPart] at hx
        | cons p l ih =>
          obtain ⟨j, d⟩ := p
          cases qs with
          | nil => exact hparts.elim
          | cons q qs =>
            obtain ⟨j', v⟩ := q
            obtain ⟨_, hd, hps⟩ := hparts
            simp only [partsFit, Bool.and_eq_true] at hfit
            simp only [findPart] at hx
            split at hx
            · rename_i y hy
              cases hx
              exact ih hy qs hfit.2 hps
            · cases hb : i == j <;> rw [hb] at hx <;> simp only [cond_true, cond_false, Option.some.injEq, reduceCtorEq] at hx
              subst hx
              exact ⟨Nat.eq_of_beq_eq_true hfit.1.2, hd.cells_one⟩
      have hel : ∀ i x, (buildElems (mkElem b z) l n 0)[i]? = some x → i < n ∧ x = (match findPart i l with | some x => x | none => mkElem b z) := by
        intro i x hx
        have hi : i < n := by rw [← hLlen]; exact (List.getElem?_eq_some_iff.1 hx).1
        have := (hL i).2 hi
        rw [this] at hx
        simp only [Nat.zero_add] at hx
        exact ⟨hi, (Option.some.inj hx).symm⟩
      have hmz : (mkElem b z).cells = z := mkElem_cells hzone (fun h => by rw [hlen]; exact hone h)
      have hxc : ∀ x ∈ buildElems (mkElem b z) l n 0, x.cells.length = sz ∧ ∀ c ∈ x.cells, c.one = true := by
        intro x hx
        obtain ⟨i, hi⟩ := List.mem_iff_getElem?.1 hx
        obtain ⟨_, rfl⟩ := hel i x hi
        split
        · rename_i y hy; exact hpf _ _ hy
        · rw [hmz]; exact ⟨hlen, hzone⟩
      have hmax : n ≤ maxLen := by
        have : n * 1 ≤ n * sz := Nat.mul_le_mul_left _ hsz0
        simp only [maxLen]; omega
      have hrep := RepD.sl (w := w.alloc (.cells r' e')) (St := g'.St) sz (buildElems (mkElem b z) l n 0) w.heap.size 0 n (fun o => r'.getD o undef) (by rw [hLlen]; exact Nat.le_refl _) (by rw [hLlen]; exact hmax)
        (fun x hx => (hxc x hx).1) (fun x hx => (hxc x hx).2)
        (fun o' ho' => ⟨by
          rw [hLlen] at ho'
          rw [cell_of_row _ w.heap.size (0 + o') r' e' (0, 0) (alloc_new w _)]
          simp [hr's, ho'], hst _⟩)
        (fun i x j c hx hc => by
          obtain ⟨hi, rfl⟩ := hel i x hx
          have hj : j < sz := by
            have h1 := (hxc _ (List.mem_of_getElem? hx)).1
            have h2 := (List.getElem?_eq_some_iff.1 hc).1
            omega
          have hlt : i * sz + j < n * sz := by
            have : (i + 1) * sz ≤ n * sz := Nat.mul_le_mul_right _ hi
            rw [Nat.succ_mul] at this; omega
          have hq := q3 i j hi hj
          have hcr : r[i * sz + j]? = some c := by
            rw [hq]
            cases hfp : findPart i l with
            | some y => rw [hfp] at hc; exact hc
            | none =>
              rw [hfp] at hc
              simp only at hc
              rw [hmz] at hc
              simp only
              rw [List.getElem?_map, List.getElem?_range hlt]
              have hmod : (i * sz + j) % sz = j := by rw [Nat.add_comm, Nat.add_mul_mod_self_right, Nat.mod_eq_of_lt hj]
              simp only [Option.map_some, hmod, List.getD_eq_getElem?_getD, hc, Option.getD_some]
          refine hX.repD (f2.2 (i * sz + j) c _ hcr ?_)
          simp [hr's, hlt])
      rw [hLlen] at hrep
      have hfull := RepV.full (w := w.alloc (.cells r' e')) (St := g'.St) (base := w0.heap.size) (fun _ _ _ => False) sz (buildElems (mkElem b z) l n 0) ⟨w.heap.size, 0, none⟩ (by rw [hLlen]; exact hrep)
      rw [hLlen] at hfull
      exact hfull

end
end Go.Proofs.Ytfeepndphaboeaa.Ab
