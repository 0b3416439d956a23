/-
  THE ABSTRACT WALK: addresses, parts, slices, closures, literals.
-/
import Derived.Test.YtcnnhnjcnekhcaaGreatWa
set_option linter.unusedVariables false
set_option linter.unusedSimpArgs false
namespace Go.Proofs.YtcnnhnjcnekhcaaGreat.Ab
open Go Go.RowKit

section
variable {P : Program} {gl : Nat → Option D} {w0 : World} {St0 : Nat → Nat → Prop} {e : Env} {a : Act} {w : World} {g : Gh}

theorem indexOk_spec {x : SV} {n j : Nat} (h : indexOk x n = some j) : ∃ k i, x = .d (.int k i) ∧ 0 ≤ i ∧ i < n ∧ j = i.toNat := by
  unfold indexOk at h
  split at h
  · rename_i k i
    split at h
    · rename_i hc; cases h; exact ⟨k, i, rfl, hc.1, hc.2, rfl⟩
    · cases h
  · cases h

theorem RepV.int {St : Nat → Nat → Prop} {base : Nat} {O : Nat → Nat → Nat → Prop} {k : IntKind} {n : Int} {v : Value} (h : RepV w St base O (.d (.int k n)) v) : v = .int k n := h.data.int_inv.1

theorem addOffV_rep {x y : SV} {n : Nat} (h : addOffV x n = some y) {St : Nat → Nat → Prop} {base : Nat} {O O' : Nat → Nat → Nat → Prop} {v : Value} (r : RepV w St base O x v) :
    ∃ ad : Addr, v = .pointer (some ad) ∧ ad.spot = none ∧ RepV w St base O' y (.pointer (some ⟨ad.block, ad.off + n, none⟩)) := by
  unfold addOffV at h
  split at h
  · cases h
    cases r with
    | dptr _ x off b o vs h0 h1 h2 => exact ⟨_, rfl, rfl, by rw [Nat.add_assoc]; exact .dptr _ _ _ b o vs h0 h1 h2⟩
  · cases h
    cases r with
    | ref _ cs off b o vs h0 h1 h2 => exact ⟨_, rfl, rfl, by rw [Nat.add_assoc]; exact .ref _ _ _ b o vs h0 h1 h2⟩
  · cases h

theorem fieldOf_run {t : TypeId} {i : Nat} {fd : Field} (h : fieldOf? P t i = some fd) : ∃ fs, P.underlying t = some (.struct fs) ∧ fs[i]? = some fd := by
  unfold fieldOf? at h
  split at h
  · rename_i fs hu; exact ⟨fs, hu, by simpa using h⟩
  · cases h

theorem fieldPlace_run {fd : Field} {sz : Nat} (hs : sizeOf? P fd.type = some sz) (h0 : sz ≠ 0) (ad : Addr) : (fieldPlace ad fd).run P w = .ok (ad.add fd.offset) w := by
  simp [fieldPlace, sizeOf_run hs, h0]

theorem goes_fieldAddr (hI : Inv gl w0 St0 e a w g) {o : Oper} {t : TypeId} {x : Operand} {f : Nat} (ho : o.op = .fieldAddr t x f) {k : Slot → List Box → Prop}
    (h : bindO (fieldOf? P t f) fun fd => bindO (sizeOf? P fd.type) fun sz => bif Nat.beq sz 0 then False else (match (Ab.opnd gl e x).demote with
    | .p b off => k (.p b (off + fd.offset)) e.boxes
    | .v y => bindO (addOffV y fd.offset) fun z => k (.v z) e.boxes
    | _ => False)) : Goes P gl w0 St0 e.slots o a w k := by
  obtain ⟨fd, hfd, h⟩ := bindO_some h
  obtain ⟨sz, hsz, h⟩ := bindO_some h
  obtain ⟨fs, hu, hfs⟩ := fieldOf_run hfd
  cases hz : Nat.beq sz 0 with
  | true => rw [hz] at h; exact h.elim
  | false =>
    rw [hz] at h
    simp only [cond_false] at h
    have h0 : sz ≠ 0 := fun h => by rw [h] at hz; cases hz
    have hrun : ∀ ad, a.eval x = .pointer (some ad) → (execOp a.eval o).run P w = .ok (.value (.pointer (some (ad.add fd.offset)))) w := by
      intro ad hv
      simp [execOp, ho, Instr.fieldAt, run_underlying hu, hfs, Instr.sureAddr, hv, fieldPlace_run hsz h0]
    split at h
    · rename_i b off hs
      obtain ⟨blk, hv, hblk⟩ := (hI.opS hs).p_inv
      refine Goes.value hI (hrun _ hv) ?_ h
      rw [addr_add]
      exact .p _ _ _ _ hblk
    · rename_i y hs
      obtain ⟨z, hz, hk⟩ := bindO_some h
      obtain ⟨ad, hv, hsp, hr⟩ := addOffV_rep (O' := fun _ _ _ => False) hz (hI.opV hs)
      refine Goes.valueV hI (hrun _ hv) ?_ hk
      obtain ⟨b, o', sp⟩ := ad
      simp only at hsp; subst hsp
      rw [addr_add]; exact hr
    · exact h.elim

theorem nilAhead_run {P : Program} {w : World} {t : TypeId} {name : String} {f : FuncId} (h : meth? P t name = some f) (fuel : Nat) (v : Value) : (nilAhead (fuel + 1) t v name).run P w = .ok (some false) w := by
  unfold meth? at h
  split at h
  · rename_i i hi
    split at h
    · rename_i m hm
      split at h
      · rename_i f' hp hf
        split at h
        · cases h
        · rename_i u hu1 hu
          have hu' : (underlying t).run P w = .ok u w := run_underlying hu w
          have hti : (typeInfo t).run P w = .ok i w := by simp [typeInfo, go_sem, hi]
          have hfo : (followBlind ([] : List FieldStep) t (some v)).run P w = .ok (.ok (t, some v)) w := by simp [followBlind]
          unfold nilAhead
          simp only [Sem.run_bind, hti, Result.andThen_ok, hm, hp, hfo, hf, hu']
          cases u <;> first | exact (hu1 _ rfl).elim | simp
        · cases h
      · cases h
    · cases h
  · cases h

theorem goes_nilCheck (hI : Inv gl w0 St0 e a w g) {o : Oper} {x : Operand} (ho : o.op = .nilCheck x) {k : Slot → List Box → Prop}
    (h : match (Ab.opnd gl e x).demote with
    | .v y => bindO (nonNilV y) fun z => k (.v z) e.boxes
    | .t _ => False
    | .c f first cap => (match f with
      | .func _ => k (.c f first cap) e.boxes
      | .method name => (match first with
        | .v y :: _ => bindO (methV P y name) fun _ => k (.c f first cap) e.boxes
        | _ => False)
      | _ => False)
    | .p b off => k (.p b off) e.boxes) : Goes P gl w0 St0 e.slots o a w k := by
  split at h
  · rename_i y hs
    obtain ⟨z, hz, hk⟩ := bindO_some h
    have hy := hI.opV hs
    have hyz : y = z ∧ ∃ v, a.eval x = v ∧ (execOp a.eval o).run P w = .ok (.value v) w := by
      unfold nonNilV at hz
      generalize hv : a.eval x = u at hy
      split at hz <;> first | (cases hz) | skip
      · cases hy; exact ⟨rfl, _, rfl, by simp [execOp, ho, hv]⟩
      · cases hy; exact ⟨rfl, _, rfl, by simp [execOp, ho, hv]⟩
      · rename_i f a' b'
        cases f <;> simp only [Option.some.injEq, reduceCtorEq] at hz
        cases hy; exact ⟨hz, _, rfl, by simp [execOp, ho, hv]⟩
      · rename_i f
        cases f <;> simp only [Option.some.injEq, reduceCtorEq] at hz
        cases hy with
        | d _ _ _ hd => cases hd; exact ⟨hz, _, rfl, by simp [execOp, ho, hv]⟩
    obtain ⟨rfl, v, hv, hr⟩ := hyz
    rw [hv] at hy
    exact Goes.valueV hI hr hy hk
  · exact h.elim
  · rename_i f first cap hs
    have hy := hI.opS hs
    split at h
    · generalize hv : a.eval x = u at hy
      have hy' := hy
      cases hy
      exact Goes.value hI (by simp [execOp, ho, hv]) hy' h
    · rename_i name
      split at h
      · rename_i y rest
        obtain ⟨f', hf', h⟩ := bindO_some h
        unfold methV at hf'
        split at hf'
        · rename_i t y0 hh0
          generalize hv : a.eval x = u at hy
          have hy' := hy
          cases hy with
          | c _ _ _ _ fv cv hl1 hl2 rf rc =>
            have hsz : 0 < fv.size := by rw [← hl1]; simp
            have h0 := rf 0 _ (fv[0]) rfl (by simp [hsz])
            cases h0 with
            | v _ _ _ h0 =>
              have hd := h0.data
              generalize he : fv[0] = u0 at hd
              cases hd with
              | iface _ _ v0 _ =>
                have hfv : fv[0]? = some (.iface t v0) := by rw [Array.getElem?_eq_getElem hsz, he]
                refine Goes.value hI ?_ hy' h
                simp only [execOp, ho, hv, hfv]
                have hna := nilAhead_run (P := P) (w := w) hf' (P.types.size + 99) v0
                simp only [Sem.run_bind, run_program, Result.andThen_ok, Made.depth]
                rw [hna]
                simp
        · cases hf'
      · exact h.elim
    · exact h.elim
  · rename_i b off hs
    have hy := hI.opS hs
    obtain ⟨blk, hv, hblk⟩ := hy.p_inv
    exact Goes.value hI (by simp [execOp, ho, hv]) (.p _ _ _ _ hblk) h

theorem goes_iface (hI : Inv gl w0 St0 e a w g) {o : Oper} {t : TypeId} {x : Operand} (ho : o.op = .makeInterface t x) {k : Slot → List Box → Prop}
    (h : bif isIface P t then False else bindO (ifaceV t ((Ab.opnd gl e x).demote).toSV) fun r => k (.v r) e.boxes) : Goes P gl w0 St0 e.slots o a w k := by
  cases hi : isIface P t with
  | true => rw [hi] at h; exact h.elim
  | false =>
    rw [hi] at h
    simp only [cond_false] at h
    obtain ⟨r, hr, hk⟩ := bindO_some h
    have hx := hI.opToSV x
    generalize ((Ab.opnd gl e x).demote).toSV = sx at hr hx
    unfold ifaceV at hr
    split at hr
    · rename_i y hy
      cases hr
      refine Goes.valueV hI (v := .iface t (a.eval x)) ?_ (.d _ _ _ (.iface _ _ _ (hx.toD hy))) hk
      unfold isIface at hi
      split at hi
      · cases hi
      · cases hi
      · rename_i h1 h2
        obtain ⟨d, hd⟩ := Option.ne_none_iff_exists'.1 (fun hn => h2 hn)
        simp only [execOp, ho, Instr.makeInterface, Sem.run_bind, run_underlying hd, Result.andThen_ok]
        cases d <;> first | rfl | exact absurd hd (h1 _)
    · cases hr

theorem goes_makeFunc (hI : Inv gl w0 St0 e a w g) {o : Oper} {fn : Fn} {first cap : Array Operand} (ho : o.op = .makeFunc fn first cap) {k : Slot → List Box → Prop}
    (h : k (.c fn (first.toList.map fun x => ((Ab.opnd gl e x).demote).demote) (cap.toList.map fun x => ((Ab.opnd gl e x).demote).demote)) e.boxes) : Goes P gl w0 St0 e.slots o a w k := by
  refine Goes.value hI (v := .func fn (first.map a.eval) (cap.map a.eval)) (by simp [execOp, ho, Instr.makeFunc]) (.c _ _ _ _ _ _ (by simp) (by simp) ?_ ?_) h
  · intro i x v hx hv
    simp only [List.getElem?_map, Option.map_eq_some_iff, Array.getElem?_map] at hx hv
    obtain ⟨y, hy, rfl⟩ := hx
    obtain ⟨z, hz, rfl⟩ := hv
    rw [Array.getElem?_toList] at hy
    rw [hy] at hz; cases hz
    exact (hI.opnd y).demote
  · intro i x v hx hv
    simp only [List.getElem?_map, Option.map_eq_some_iff, Array.getElem?_map] at hx hv
    obtain ⟨y, hy, rfl⟩ := hx
    obtain ⟨z, hz, rfl⟩ := hv
    rw [Array.getElem?_toList] at hy
    rw [hy] at hz; cases hz
    exact (hI.opnd y).demote

theorem goes_extract (hI : Inv gl w0 St0 e a w g) {o : Oper} {x : Operand} {i : Nat} (ho : o.op = .extract x i) {k : Slot → List Box → Prop}
    (h : match (Ab.opnd gl e x).demote with
    | .t vs => (match vs[i]? with | some r => k (.v r) e.boxes | none => False)
    | _ => False) : Goes P gl w0 St0 e.slots o a w k := by
  split at h
  · rename_i vs hs
    split at h
    · rename_i r hr
      obtain ⟨tv, hv, hl, hc⟩ := (hI.opS hs).t_inv
      have hi : i < tv.size := by rw [← hl]; exact (List.getElem?_eq_some_iff.1 hr).1
      exact Goes.valueV hI (v := tv[i]) (by simp [execOp, ho, Instr.extract, hv, hi]) (hc i r _ hr (by simp)) h
    · exact h.elim
  · exact h.elim

theorem goes_field (hI : Inv gl w0 St0 e a w g) {o : Oper} {t : TypeId} {x : Operand} {f : Nat} (ho : o.op = .field t x f) {k : Slot → List Box → Prop}
    (h : bindO (fieldOf? P t f) fun fd => bindO (lay? P fd.type) fun ly => bindO (fieldV ly.1 ly.2 fd.offset ((Ab.opnd gl e x).demote).toSV) fun r => k (.v r) e.boxes) : Goes P gl w0 St0 e.slots o a w k := by
  obtain ⟨fd, hfd, h⟩ := bindO_some h
  obtain ⟨⟨b, n⟩, hl, h⟩ := bindO_some h
  obtain ⟨r, hr, hk⟩ := bindO_some h
  obtain ⟨fs, hu, hfs⟩ := fieldOf_run hfd
  have hx := hI.opToSV x
  generalize ((Ab.opnd gl e x).demote).toSV = sx at hr hx
  unfold fieldV at hr
  split at hr
  · rename_i cs
    split at hr
    · rename_i z hz
      cases hr
      obtain ⟨vs, hv, hrep, hf⟩ := hx.data.agg_inv
      obtain ⟨hb, hn, h1⟩ := lay_run hl
      have hle : fd.offset + n ≤ cs.length := by
        unfold partD at hz
        cases b
        · simp only [cond_false] at hz; have := (List.getElem?_eq_some_iff.1 hz).1; rw [h1 rfl]; omega
        · simp only [cond_true] at hz; split at hz <;> first | assumption | cases hz
      obtain ⟨v, hp, hvo⟩ := hrep.valOf (P := P) (off := fd.offset) hb hn h1 hle
      refine Goes.valueV hI (v := v) (by simp [execOp, ho, Instr.field, run_underlying hu, hfs, hv, asAgg, hp]) (.d _ _ _ ?_) hk
      unfold partD at hz
      cases b
      · simp only [cond_false] at hz
        simp only [ValOf, Bool.false_eq_true, if_false] at hvo
        obtain ⟨x', hx', hr'⟩ := hvo
        have hlt := (List.getElem?_eq_some_iff.1 hz).1
        rw [h1 rfl, List.drop_eq_getElem_cons hlt, List.take_succ_cons, List.take_zero] at hx'
        rw [List.getElem?_eq_getElem hlt] at hz
        cases hz
        simp only [List.cons.injEq, and_true] at hx'
        rw [hx']; exact hr'
      · simp only [cond_true, hle, ↓reduceIte, Option.some.injEq] at hz
        subst hz
        simp only [ValOf, if_true] at hvo
        obtain ⟨cs', rfl, hr'⟩ := hvo
        exact hr'.agg (fun d hd => hf d (List.mem_of_mem_drop (List.mem_of_mem_take hd)))
    · cases hr
  · cases hr


theorem goes_index (hI : Inv gl w0 St0 e a w g) {o : Oper} {t : TypeId} {x i : Operand} (ho : o.op = .index t x i) {k : Slot → List Box → Prop}
    (h : match P.underlying t with
    | some (.array n e') => bindO (lay? P e') fun ly => bindO (indexV ly.1 ly.2 n ((Ab.opnd gl e x).demote).toSV ((Ab.opnd gl e i).demote).toSV) fun r => k (.v r) e.boxes
    | some .string => bindO (strAt ((Ab.opnd gl e x).demote).toSV ((Ab.opnd gl e i).demote).toSV) fun r => k (.v r) e.boxes
    | _ => False) : Goes P gl w0 St0 e.slots o a w k := by
  have hx := hI.opToSV x
  have hi := hI.opToSV i
  generalize ((Ab.opnd gl e x).demote).toSV = sx at h hx
  generalize ((Ab.opnd gl e i).demote).toSV = si at h hi
  split at h
  · rename_i n e' hu
    obtain ⟨⟨b, m⟩, hl, h'⟩ := bindO_some h
    clear h
    obtain ⟨r, hr, hk⟩ := bindO_some h'
    clear h'
    unfold indexV at hr
    split at hr
    · rename_i cs
      split at hr
      · rename_i j hj
        split at hr
        · rename_i z hz
          cases hr
          obtain ⟨kk, ii, rfl, h1, h2, rfl⟩ := indexOk_spec hj
          have hvi := hi.int
          obtain ⟨vs, hv, hrep, hf⟩ := hx.data.agg_inv
          obtain ⟨hb, hn, hone⟩ := lay_run hl
          have hle : ii.toNat * m + m ≤ cs.length := by
            unfold partD at hz
            cases b
            · simp only [cond_false] at hz; have := (List.getElem?_eq_some_iff.1 hz).1; rw [hone rfl] at *; omega
            · simp only [cond_true] at hz; split at hz <;> first | assumption | cases hz
          obtain ⟨v, hp, hvo⟩ := hrep.valOf (P := P) (off := ii.toNat * m) hb hn hone hle
          refine Goes.valueV hI (v := v) ?_ (.d _ _ _ ?_) hk
          · simp [execOp, ho, Instr.index, hvi, asIntOf, run_underlying hu, hv, h1, h2, sizeOf_run hn, hp]
          · unfold partD at hz
            cases b
            · simp only [cond_false] at hz
              simp only [ValOf, Bool.false_eq_true, if_false] at hvo
              obtain ⟨x', hx', hr'⟩ := hvo
              have hlt := (List.getElem?_eq_some_iff.1 hz).1
              rw [hone rfl] at hx' hz hlt
              rw [List.drop_eq_getElem_cons hlt, List.take_succ_cons, List.take_zero] at hx'
              rw [List.getElem?_eq_getElem hlt] at hz
              cases hz
              simp only [List.cons.injEq, and_true] at hx'
              rw [hx']; exact hr'
            · simp only [cond_true, hle, ↓reduceIte, Option.some.injEq] at hz
              subst hz
              simp only [ValOf, if_true] at hvo
              obtain ⟨cs', rfl, hr'⟩ := hvo
              exact hr'.agg (fun d hd => hf d (List.mem_of_mem_drop (List.mem_of_mem_take hd)))
        · cases hr
      · cases hr
    · cases hr
  · rename_i hu
    obtain ⟨r, hr, hk⟩ := bindO_some h
    unfold strAt at hr
    split at hr
    · rename_i s
      split at hr
      · rename_i j hj
        split at hr
        · rename_i c hc
          cases hr
          obtain ⟨kk, ii, rfl, h1, h2, rfl⟩ := indexOk_spec hj
          have hvi := hi.int
          obtain ⟨bs, hv, hs, _⟩ := hx.data.str_inv
          have hlt : ii.toNat < bs.size := by
            rw [hs] at h2
            simp only [Array.length_toList] at h2
            have : bs.size = bs.data.size := rfl
            omega
          have hg : bs[ii.toNat]? = some c := by
            rw [hs] at hc
            rw [getElem?_pos bs ii.toNat hlt]
            have : bs.data.toList[ii.toNat]? = some bs[ii.toNat] := by
              rw [Array.getElem?_toList, Array.getElem?_eq_getElem hlt]
              rfl
            rw [this] at hc
            exact hc
          refine Goes.valueV hI (v := .int .u8 c.toNat) ?_ (.d _ _ _ (.int _ _ ?_)) hk
          · simp [execOp, ho, Instr.index, hvi, asIntOf, run_underlying hu, hv, h1, hg]
          · have := c.toNat_lt
            simp [wfI, IntKind.min, IntKind.max, IntKind.signed, IntKind.bits]
            omega
        · cases hr
      · cases hr
    · cases hr
  · exact h.elim

theorem elems_cells {sz : Nat} {x : SV} {L : List D} (h : elems sz x = some L) {St : Nat → Nat → Prop} {base : Nat} {O : Nat → Nat → Nat → Prop} {v : Value} (r : RepV w St base O x v) :
    ((v = .slice none 0 0 ∨ ∃ ad c, v = .slice (some ad) 0 c) ∧ L = []) ∨ ∃ (b off cap : Nat) (vs : Nat → Value), v = .slice (some ⟨b, off, none⟩) L.length cap ∧ L.length ≤ cap ∧ L.length ≤ maxLen ∧ (∀ x ∈ L, x.cells.length = sz) ∧ (∀ x ∈ L, ∀ c ∈ x.cells, c.one = true) ∧
      (∀ (o : Nat), o < L.length * sz → w.cell? ⟨b, off + o, none⟩ = some (vs o) ∧ St b (off + o)) ∧
      (∀ (i : Nat) x (j : Nat) c, L[i]? = some x → x.cells[j]? = some c → RepD w St c (vs (i * sz + j))) := by
  have go : ∀ {s L' v}, RepD w St (.sl .ro s L') v → ((v = .slice none 0 0 ∨ ∃ ad c, v = .slice (some ad) 0 c) ∧ L' = []) ∨ ∃ (b off cap : Nat) (vs : Nat → Value), v = .slice (some ⟨b, off, none⟩) L'.length cap ∧ L'.length ≤ cap ∧ L'.length ≤ maxLen ∧ (∀ x ∈ L', x.cells.length = s) ∧ (∀ x ∈ L', ∀ c ∈ x.cells, c.one = true) ∧
      (∀ (o : Nat), o < L'.length * s → w.cell? ⟨b, off + o, none⟩ = some (vs o) ∧ St b (off + o)) ∧
      (∀ (i : Nat) x (j : Nat) c, L'[i]? = some x → x.cells[j]? = some c → RepD w St c (vs (i * s + j))) := by
    intro s L' v hd
    cases hd with
    | sl _ _ b off cap vs hcap hm hsz hf hcell hc => exact .inr ⟨b, off, cap, vs, rfl, hcap, hm, hsz, hf, hcell, hc⟩
    | slz _ ad c _ => exact .inl ⟨.inr ⟨ad, c, rfl⟩, rfl⟩
  unfold elems at h
  split at h
  · rename_i k s L'
    split at h
    · cases h
      have hd := r.data
      cases hd
      exact .inl ⟨.inl rfl, rfl⟩
    · split at h
      · rename_i hs; cases h; subst hs; exact go r.data
      · cases h
  · split at h
    · rename_i hs; cases h; subst hs
      cases r with
      | own _ _ _ gg cap hd hcap ho => exact go hd
    · cases h
  · split at h
    · rename_i hs; cases h; subst hs
      cases r with
      | full _ _ _ ad hd => exact go hd
    · cases h
  · cases h

theorem goes_indexAddr (hI : Inv gl w0 St0 e a w g) {o : Oper} {t : TypeId} {x i : Operand} (ho : o.op = .indexAddr t x i) {k : Slot → List Box → Prop}
    (h : match P.underlying t with
    | some (.slice e') => bindO (sizeOf? P e') fun sz => bindO (elemPtr sz ((Ab.opnd gl e x).demote).toSV ((Ab.opnd gl e i).demote).toSV) fun r => k (.v r) e.boxes
    | some (.array n e') => bindO (sizeOf? P e') fun sz => bindO (indexOk ((Ab.opnd gl e i).demote).toSV n) fun j => (match (Ab.opnd gl e x).demote with
      | .p b off => k (.p b (off + j * sz)) e.boxes
      | .v y => bindO (addOffV y (j * sz)) fun z => k (.v z) e.boxes
      | _ => False)
    | _ => False) : Goes P gl w0 St0 e.slots o a w k := by
  have hi := hI.opToSV i
  generalize ((Ab.opnd gl e i).demote).toSV = si at h hi
  split at h
  · rename_i e' hu
    obtain ⟨sz, hsz, h⟩ := bindO_some h
    obtain ⟨r, hr, hk⟩ := bindO_some h
    have hx := hI.opToSV x
    generalize ((Ab.opnd gl e x).demote).toSV = sx at hr hx
    unfold elemPtr at hr
    split at hr
    · rename_i L hL
      split at hr
      · rename_i j hj
        split at hr
        · rename_i y hy
          cases hr
          obtain ⟨kk, ii, rfl, h1, h2, rfl⟩ := indexOk_spec hj
          have hvi := hi.int
          rcases elems_cells hL hx with ⟨_, rfl⟩ | ⟨b, off, cap, vs, hv, hcap, hm, hs, hf, hcell, hc⟩
          · simp at h2; omega
          · have hlt : ii.toNat < L.length := (List.getElem?_eq_some_iff.1 hy).1
            have hmem : y ∈ L := List.mem_of_getElem? hy
            refine Goes.valueV hI (v := .pointer (some ⟨b, off + ii.toNat * sz, none⟩)) ?_ ?_ hk
            · have := addr_add b off (ii.toNat * sz)
              simp [execOp, ho, Instr.indexAt, hvi, asIntOf, run_underlying hu, hv, h1, h2, sizeOf_run hsz, this]
            · refine .dptr _ y 0 b (off + ii.toNat * sz) (fun j => vs (ii.toNat * sz + j)) (hf y hmem) (fun j hj' => ?_) (fun j c hc' => hc _ y j c hy hc')
              have : ii.toNat * sz + j < L.length * sz := by
                rw [hs y hmem] at hj'
                have : (ii.toNat + 1) * sz ≤ L.length * sz := Nat.mul_le_mul_right _ hlt
                rw [Nat.succ_mul] at this; omega
              rw [Nat.add_assoc]
              exact hcell _ this
        · cases hr
      · cases hr
    · cases hr
  · rename_i n e' hu
    obtain ⟨sz, hsz, h⟩ := bindO_some h
    obtain ⟨j, hj, h⟩ := bindO_some h
    obtain ⟨kk, ii, rfl, h1, h2, rfl⟩ := indexOk_spec hj
    have hvi := hi.int
    have hrun : ∀ ad, a.eval x = .pointer (some ad) → (execOp a.eval o).run P w = .ok (.value (.pointer (some (ad.add (ii.toNat * sz))))) w := by
      intro ad hv
      simp [execOp, ho, Instr.indexAt, hvi, asIntOf, run_underlying hu, Instr.sureAddr, hv, h1, h2, sizeOf_run hsz]
    split at h
    · rename_i b off hs
      obtain ⟨blk, hv, hblk⟩ := (hI.opS hs).p_inv
      refine Goes.value hI (hrun _ hv) ?_ h
      rw [addr_add]
      exact .p _ _ _ _ hblk
    · rename_i y hs
      obtain ⟨z, hz, hk⟩ := bindO_some h
      obtain ⟨ad, hv, hsp, hr⟩ := addOffV_rep (O' := fun _ _ _ => False) hz (hI.opV hs)
      refine Goes.valueV hI (hrun _ hv) ?_ hk
      obtain ⟨b, o', sp⟩ := ad
      simp only at hsp; subst hsp
      rw [addr_add]; exact hr
    · exact h.elim
  · exact h.elim

end
end Go.Proofs.YtcnnhnjcnekhcaaGreat.Ab
/-
  THE ABSTRACT WALK: parts of slices and strings; lengths; the least and the greatest.
-/
namespace Go.Proofs.YtcnnhnjcnekhcaaGreat.Ab
open Go Go.RowKit

section
variable {P : Program} {gl : Nat → Option D} {w0 : World} {St0 : Nat → Nat → Prop} {e : Env} {a : Act} {w : World} {g : Gh}

theorem Inv.optV (hI : Inv gl w0 St0 e a w g) (x : Option Operand) : (x = none ∧ Ab.optV (fun x => (Ab.opnd gl e x).demote) x = none) ∨
    ∃ y s, x = some y ∧ Ab.optV (fun x => (Ab.opnd gl e x).demote) x = some s ∧ RepV w g.St w0.heap.size (fun _ _ _ => False) s (a.eval y) := by
  cases x with
  | none => exact .inl ⟨rfl, rfl⟩
  | some y => exact .inr ⟨y, _, rfl, rfl, hI.opToSV y⟩

/-- an optional operand's value -/
inductive OptRep (w : World) (St : Nat → Nat → Prop) (base : Nat) : Option SV → Option Value → Prop
  | none : OptRep w St base none none
  | some (s : SV) (v : Value) (h : RepV w St base (fun _ _ _ => False) s v) : OptRep w St base (some s) (some v)

theorem Inv.opt (hI : Inv gl w0 St0 e a w g) (x : Option Operand) : OptRep w g.St w0.heap.size (Ab.optV (fun x => (Ab.opnd gl e x).demote) x) (x.map a.eval) := by
  cases x with
  | none => exact .none
  | some y => exact .some _ _ (hI.opToSV y)

theorem sliceBound_run {n m : Nat} (c : BoundsCode) {x : SV} {j : Nat} (h : indexOk x (n + 1) = some j) (hm : n ≤ m) {St : Nat → Nat → Prop} {base : Nat} {O : Nat → Nat → Nat → Prop} {v : Value} (r : RepV w St base O x v) :
    (Instr.sliceBound v m c).run P w = .ok j w ∧ j ≤ n := by
  obtain ⟨kk, ii, rfl, h1, h2, rfl⟩ := indexOk_spec h
  have hv := r.int
  refine ⟨?_, by omega⟩
  have : 0 ≤ ii ∧ ii ≤ (m : Int) := ⟨h1, by omega⟩
  simp [Instr.sliceBound, hv, asIntOf, this]

theorem bounds_run {n cap : Nat} (isS : Bool) (hc : n ≤ cap) {lo hi : Option SV} {vlo vhi : Option Value} {St : Nat → Nat → Prop} {base : Nat} (rlo : OptRep w St base lo vlo) (rhi : OptRep w St base hi vhi)
    {hh ll : Nat} (h1 : hiOf n hi = some hh) (h2 : loOf hh lo = some ll) :
    (Instr.sliceBounds isS n cap vlo vhi none).run P w = .ok (ll, hh, cap) w ∧ hh ≤ n ∧ ll ≤ hh := by
  unfold Instr.sliceBounds
  cases rhi with
  | none =>
    simp only [hiOf, Option.some.injEq] at h1
    subst h1
    cases rlo with
    | none => simp only [loOf, Option.some.injEq] at h2; subst h2; exact ⟨by simp, Nat.le_refl _, Nat.zero_le _⟩
    | some s v r =>
      obtain ⟨q1, q2⟩ := sliceBound_run (P := P) (w := w) .sliceB h2 (Nat.le_refl _) r
      exact ⟨by simp [q1], Nat.le_refl _, q2⟩
  | some s v r =>
    obtain ⟨p1, p2⟩ := sliceBound_run (P := P) (w := w) (if isS then .sliceAcap else .sliceAlen) h1 hc r
    cases rlo with
    | none => simp only [loOf, Option.some.injEq] at h2; subst h2; exact ⟨by simp [p1], p2, Nat.zero_le _⟩
    | some s v r =>
      obtain ⟨q1, q2⟩ := sliceBound_run (P := P) (w := w) .sliceB h2 (Nat.le_refl _) r
      exact ⟨by simp [p1, q1], p2, q2⟩

theorem bounds3_run {n cap : Nat} (hc : n ≤ cap) {lo : Option SV} {hi mx : SV} {vlo : Option Value} {vhi vmx : Value} {St : Nat → Nat → Prop} {base : Nat} (rlo : OptRep w St base lo vlo)
    (rhi : RepV w St base (fun _ _ _ => False) hi vhi) (rmx : RepV w St base (fun _ _ _ => False) mx vmx)
    {hh mm ll : Nat} (h0 : indexOk mx (n + 1) = some mm) (h1 : indexOk hi (n + 1) = some hh) (he : hh = mm) (h2 : loOf hh lo = some ll) :
    (Instr.sliceBounds true n cap vlo (some vhi) (some vmx)).run P w = .ok (ll, hh, hh) w ∧ hh ≤ n ∧ ll ≤ hh := by
  unfold Instr.sliceBounds
  subst he
  obtain ⟨o1, o2⟩ := sliceBound_run (P := P) (w := w) .slice3Acap h0 hc rmx
  have h1' : indexOk hi (hh + 1) = some hh := by
    obtain ⟨kk, ii, rfl, a1, a2, a3⟩ := indexOk_spec h1
    simp only [indexOk]
    rw [if_pos (by omega), ← a3]
  obtain ⟨p1, _⟩ := sliceBound_run (P := P) (w := w) .slice3B h1' (Nat.le_refl _) rhi
  cases rlo with
  | none => simp only [loOf, Option.some.injEq] at h2; subst h2; exact ⟨by simp [o1, p1], o2, Nat.zero_le _⟩
  | some s v r =>
    obtain ⟨q1, q2⟩ := sliceBound_run (P := P) (w := w) .slice3C h2 (Nat.le_refl _) r
    exact ⟨by simp [o1, p1, q1], o2, q2⟩

theorem subOf_spec {L : List D} {lo hi : Option SV} {r : List D} (h : subOf L lo hi = some r) : ∃ hh ll, hiOf L.length hi = some hh ∧
    loOf hh lo = some ll ∧ r = (L.take hh).drop ll := by
  unfold subOf at h
  split at h
  · rename_i hh h1
    split at h
    · rename_i ll h2
      cases h
      exact ⟨hh, ll, h1, h2, rfl⟩
    · cases h
  · cases h

/-- a part of a slice that is read -/
theorem sub_rep {St : Nat → Nat → Prop} {sz : Nat} {L : List D} {b off cap hh ll c' : Nat} (h : RepD w St (.sl .ro sz L) (.slice (some ⟨b, off, none⟩) L.length cap)) (hh' : hh ≤ L.length) (hl : ll ≤ hh) (hc : hh - ll ≤ c') :
    RepD w St (.sl .ro sz ((L.take hh).drop ll)) (.slice (some ⟨b, off + ll * sz, none⟩) (hh - ll) c') := by
  cases h with
  | slz _ _ _ ha => exact absurd rfl ha
  | sl _ _ _ _ _ vs hcap hm hsz hf hcell hc =>
    have hlen : ((L.take hh).drop ll).length = hh - ll := by simp; omega
    have := RepD.sl (w := w) (St := St) sz ((L.take hh).drop ll) b (off + ll * sz) c' (fun o => vs (ll * sz + o)) (by omega) (by omega)
      (fun x hx => hsz x (List.mem_of_mem_take (List.mem_of_mem_drop hx))) (fun x hx => hf x (List.mem_of_mem_take (List.mem_of_mem_drop hx)))
      (fun o ho => by
        rw [hlen] at ho
        rw [Nat.add_assoc]
        refine hcell (ll * sz + o) ?_
        have : ll * sz + (hh - ll) * sz = hh * sz := by rw [← Nat.add_mul]; congr 1; omega
        have : hh * sz ≤ L.length * sz := Nat.mul_le_mul_right _ hh'
        omega)
      (fun i x j c hx hc' => by
        rw [List.getElem?_drop, List.getElem?_take] at hx
        split at hx
        · have := hc (ll + i) x j c hx hc'
          rw [Nat.add_mul, Nat.add_assoc] at this
          exact this
        · cases hx)
    rw [hlen] at this
    exact this

theorem goes_slice (hI : Inv gl w0 St0 e a w g) {o : Oper} {t : TypeId} {x : Operand} {lo hi mx : Option Operand} (ho : o.op = .slice t x lo hi mx) {k : Slot → List Box → Prop}
    (h : bindO (sliceV P t (Ab.demote ((Ab.opnd gl e x).demote).toSV) (Ab.optV (fun x => (Ab.opnd gl e x).demote) lo) (Ab.optV (fun x => (Ab.opnd gl e x).demote) hi) (Ab.optV (fun x => (Ab.opnd gl e x).demote) mx)) fun r => k (.v r) e.boxes) :
    Goes P gl w0 St0 e.slots o a w k := by
  obtain ⟨r, hr, hk⟩ := bindO_some h
  clear h
  have hx := (hI.opToSV x).demote (O' := fun _ _ _ => False)
  have rlo := hI.opt lo
  have rhi := hI.opt hi
  have rmx := hI.opt mx
  generalize Ab.demote ((Ab.opnd gl e x).demote).toSV = sx at hr hx
  generalize Ab.optV (fun x => (Ab.opnd gl e x).demote) lo = slo at hr rlo
  generalize Ab.optV (fun x => (Ab.opnd gl e x).demote) hi = shi at hr rhi
  generalize Ab.optV (fun x => (Ab.opnd gl e x).demote) mx = smx at hr rmx
  unfold sliceV at hr
  split at hr
  · -- string
    rename_i hu
    split at hr
    · rename_i s
      split at hr
      · rename_i l hl
        cases hr
        obtain ⟨bs, hv, hs, hmax⟩ := hx.data.str_inv
        unfold subStr at hl
        split at hl
        · rename_i hh h1
          split at hl
          · rename_i ll h2
            cases hl
            have hsl : s.length = bs.size := by rw [hs, Array.length_toList]; rfl
            rw [hsl] at h1
            have hb := bounds_run (P := P) (w := w) false (Nat.le_refl bs.size) rlo rhi h1 h2
            have e2 : mx.map a.eval = none := by generalize mx.map a.eval = q at rmx; cases rmx; rfl
            refine Goes.valueV hI (v := .string (bs.extract ll hh)) ?_ (.d _ _ _ ?_) hk
            · simp [execOp, ho, Instr.sliceAt, run_underlying hu, Instr.slice, hv, hb.1, e2]
            · have : (bs.extract ll hh).data.toList = (s.take hh).drop ll := by
                rw [hs, ByteArray.data_extract, Array.toList_extract, List.extract_eq_drop_take']
              rw [← this]
              refine .str _ ?_
              have : (bs.extract ll hh).size ≤ bs.size := by rw [ByteArray.size_extract]; omega
              omega
          · cases hl
        · cases hl
      · cases hr
    · cases hr
  · -- slice
    rename_i e' hu
    split at hr
    · rename_i kk sz L s hL hs
      have hd := hx.toD hL
      split at hr
      · -- two bounds
        rename_i rr hsub
        obtain ⟨hh, ll, h1, h2, rfl⟩ := subOf_spec hsub
        have e2 : mx.map a.eval = none := by generalize mx.map a.eval = q at rmx; cases rmx; rfl
        split at hr
        · cases hr
          generalize hv : a.eval x = u at hd
          cases hd
          have hb := bounds_run (P := P) (w := w) true (Nat.le_refl 0) rlo rhi h1 h2
          have hl0 : ll = 0 := by have := hb.2; simp at this; omega
          have hh0 : hh = 0 := by have := hb.2; simp at this; omega
          subst hl0 hh0
          refine Goes.valueV hI (v := .slice none 0 0) ?_ (.d _ _ _ (.nilsl _)) hk
          simp [execOp, ho, Instr.sliceAt, run_underlying hu, Instr.slice, hv, hb.1, e2, sizeOf_run hs]
        · split at hr
          · rename_i hsz
            cases hr
            subst hsz
            generalize hv : a.eval x = u at hd
            have hd' := hd
            cases hd with
            | slz _ ad cap ha =>
              have hb := bounds_run (P := P) (w := w) true (Nat.zero_le cap) rlo rhi h1 h2
              have hl0 : ll = 0 := by have := hb.2; simp at this; omega
              have hh0 : hh = 0 := by have := hb.2; simp at this; omega
              subst hl0 hh0
              refine Goes.valueV hI (v := .slice (some ad) 0 cap) ?_ (.d _ _ _ (.slz _ ad cap ha)) hk
              simp only [execOp, ho, Instr.sliceAt, Sem.run_bind, run_underlying hu, Result.andThen_ok, Instr.slice, hv, e2, hb.1, sizeOf_run hs]
              by_cases hcl : cap = 0
              · simp [hcl]
              · simp [hcl]
                rfl
            | sl _ _ b off cap vs hcap hm _ hf hcell hc =>
              have hb := bounds_run (P := P) (w := w) true hcap rlo rhi h1 h2
              refine Goes.valueV hI (v := .slice (some (if cap = ll then ⟨b, off, none⟩ else ⟨b, off + ll * sz, none⟩)) (hh - ll) (cap - ll)) ?_ (.d _ _ _ ?_) hk
              · have := addr_add b off (ll * sz)
                simp only [execOp, ho, Instr.sliceAt, Sem.run_bind, run_underlying hu, Result.andThen_ok, Instr.slice, hv, e2, hb.1, sizeOf_run hs]
                by_cases hcl : cap = ll
                · simp [hcl]
                · simp [hcl, this]
              · by_cases hcl : cap = ll
                · have hhl : hh = ll := by omega
                  have hll : ll = L.length := by omega
                  simp only [hcl, ↓reduceIte]
                  have e0 : (L.take hh).drop ll = [] := List.drop_eq_nil_of_le (by simp; omega)
                  rw [e0]
                  have := RepD.sl (w := w) (St := g.St) sz [] b off (ll - ll) vs (by simp) (by simp) (by simp) (by simp) (by simp) (by simp)
                  simpa [hhl] using this
                · simp only [hcl, ↓reduceIte]
                  exact sub_rep hd' hb.2.1 hb.2.2 (by omega)
          · cases hr
      · -- three bounds
        rename_i rr m hsub
        obtain ⟨hh, ll, h1, h2, rfl⟩ := subOf_spec hsub
        split at hr
        · rename_i hsv mm hmm
          split at hr
          · rename_i k1 av k2 bv
            split at hr
            · rename_i hab
              simp only [hiOf] at h1
              have hmh : hh = mm := by
                obtain ⟨_, i1, q1, _, _, q2⟩ := indexOk_spec h1
                obtain ⟨_, i2, q3, _, _, q4⟩ := indexOk_spec hmm
                cases q1; cases q3; rw [q2, q4, hab]
              generalize hqh : hi.map a.eval = qh at rhi
              generalize hqm : mx.map a.eval = qm at rmx
              cases rhi with
              | some _ vh rh =>
                cases rmx with
                | some _ vm rm =>
                  split at hr
                  · cases hr
                    generalize hv : a.eval x = u at hd
                    cases hd
                    have hb := bounds3_run (P := P) (w := w) (Nat.le_refl 0) rlo rh rm hmm h1 hmh h2
                    have hl0 : ll = 0 := by have := hb.2; simp at this; omega
                    have hh0 : hh = 0 := by have := hb.2; simp at this; omega
                    subst hl0 hh0
                    refine Goes.valueV hI (v := .slice none 0 0) ?_ (.d _ _ _ (.nilsl _)) hk
                    simp [execOp, ho, Instr.sliceAt, run_underlying hu, Instr.slice, hv, hb.1, hqh, hqm, sizeOf_run hs]
                  · split at hr
                    · rename_i hsz
                      cases hr
                      subst hsz
                      generalize hv : a.eval x = u at hd
                      have hd' := hd
                      cases hd with
                      | slz _ ad cap ha =>
                        have hb := bounds3_run (P := P) (w := w) (Nat.zero_le cap) rlo rh rm hmm h1 hmh h2
                        have hl0 : ll = 0 := by have := hb.2; simp at this; omega
                        have hh0 : hh = 0 := by have := hb.2; simp at this; omega
                        subst hl0 hh0
                        refine Goes.valueV hI (v := .slice (some ad) 0 0) ?_ ?_ hk
                        · simp [execOp, ho, Instr.sliceAt, run_underlying hu, Instr.slice, hv, hb.1, hqh, hqm, sizeOf_run hs]
                        · exact .full _ sz [] ad (.slz sz ad 0 ha)
                      | sl _ _ b off cap vs hcap hm _ hf hcell hc =>
                        have hb := bounds3_run (P := P) (w := w) hcap rlo rh rm hmm h1 hmh h2
                        have hlen : ((L.take hh).drop ll).length = hh - ll := by simp; omega
                        by_cases hcl : hh = ll
                        · subst hcl
                          have e0 : (L.take hh).drop hh = [] := List.drop_eq_nil_of_le (by simp; omega)
                          rw [e0] at hk
                          refine Goes.valueV hI (v := .slice (some ⟨b, off, none⟩) 0 0) ?_ ?_ hk
                          · simp [execOp, ho, Instr.sliceAt, run_underlying hu, Instr.slice, hv, hb.1, hqh, hqm, sizeOf_run hs]
                          · exact .full _ sz [] ⟨b, off, none⟩ (RepD.sl sz [] b off 0 vs (by simp) (by simp) (by simp) (by simp) (by simp) (by simp))
                        · refine Goes.valueV hI (v := .slice (some ⟨b, off + ll * sz, none⟩) (hh - ll) (hh - ll)) ?_ ?_ hk
                          · have := addr_add b off (ll * sz)
                            simp [execOp, ho, Instr.sliceAt, run_underlying hu, Instr.slice, hv, hb.1, hqh, hqm, sizeOf_run hs, hcl, this]
                          · have := sub_rep (c' := hh - ll) hd' hb.2.1 hb.2.2 (Nat.le_refl _)
                            rw [← hlen] at this ⊢
                            exact .full _ sz _ _ this
                    · cases hr
            · cases hr
          · cases hr
        · cases hr
      · cases hr
    · cases hr
  · cases hr

end
end Go.Proofs.YtcnnhnjcnekhcaaGreat.Ab
/-
  THE ABSTRACT WALK: literals of structs and slices; lengths; appends.
-/
namespace Go.Proofs.YtcnnhnjcnekhcaaGreat.Ab
open Go Go.RowKit

section
variable {P : Program} {gl : Nat → Option D} {w0 : World} {St0 : Nat → Nat → Prop} {e : Env} {a : Act} {w : World} {g : Gh}

theorem goes_len (hI : Inv gl w0 St0 e a w g) {o : Oper} {c : Call} (ho : o.op = .call c) (hc : c.callee = .builtin .len) {x : Operand} {xs : List Operand} {t : TypeId} {ts : List TypeId}
    (hx : c.args.toList = x :: xs) (ht : c.argTypes.toList = t :: ts) {k : Slot → List Box → Prop} (h : bindO (lenV P t ((Ab.opnd gl e x).demote).toSV) fun r => k (.v r) e.boxes) : Goes P gl w0 St0 e.slots o a w k := by
  obtain ⟨r, hr, hk⟩ := bindO_some h
  have hx' := hI.opToSV x
  generalize ((Ab.opnd gl e x).demote).toSV = sx at hr hx'
  have h0 : c.args[0]? = some x := by rw [← Array.getElem?_toList, hx]; rfl
  have h1 : c.argTypes[0]? = some t := by rw [← Array.getElem?_toList, ht]; rfl
  have hrun : ∀ v, (Builtin.len_ c.argTypes o.type (c.args.map a.eval)).run P w = .ok v w → (execOp a.eval o).run P w = .ok (.value v) w := by
    intro v hv
    simp [execOp, ho, resolve, hc, invoke, builtin, hv]
  unfold lenV at hr
  split at hr
  · rename_i hu
    split at hr
    · rename_i s
      cases hr
      obtain ⟨bs, hv, hs, hm⟩ := hx'.data.str_inv
      refine Goes.valueV hI (v := .int .i64 bs.size) (hrun _ ?_) (.d _ _ _ ?_) hk
      · simp [Builtin.len_, h0, h1, run_underlying hu, hv, goInt]
      · have : (bs.size : Int) = (s.length : Int) := by rw [hs, Array.length_toList]; rfl
        rw [this]
        refine .int _ _ ?_
        have : s.length = bs.size := by rw [hs, Array.length_toList]; rfl
        simp only [maxLen] at hm
        simp [wfI, IntKind.min, IntKind.max, IntKind.signed, IntKind.bits]
        omega
    · cases hr
  · rename_i n e' hu
    cases hb : Nat.ble n maxLen with
    | false => rw [hb] at hr; cases hr
    | true =>
      rw [hb] at hr
      cases hr
      have hm := Nat.le_of_ble_eq_true hb
      refine Goes.valueV hI (v := .int .i64 n) (hrun _ ?_) (.d _ _ _ (.int _ _ ?_)) hk
      · simp [Builtin.len_, h0, h1, run_underlying hu, goInt]
      · simp only [maxLen] at hm
        simp [wfI, IntKind.min, IntKind.max, IntKind.signed, IntKind.bits]
        omega
  · rename_i e' hu
    split at hr
    · rename_i L hL
      cases hr
      have key : ∃ ad cap, a.eval x = .slice ad L.length cap ∧ L.length ≤ maxLen := by
        have go : ∀ {s L' v}, RepD w g.St (.sl .ro s L') v → ∃ ad cap, v = .slice ad L'.length cap ∧ L'.length ≤ maxLen := by
          intro s L' v hd
          cases hd with
          | sl _ _ b off cap vs hcap hm hsz hf hcell hc => exact ⟨_, _, rfl, hm⟩
          | slz _ ad c _ => exact ⟨_, _, rfl, by simp⟩
        unfold elemsAny at hL
        split at hL
        · rename_i k' s' L'
          cases hL
          have hd := hx'.data
          cases k'
          · generalize a.eval x = u at hd; cases hd; exact ⟨_, _, rfl, by simp⟩
          · exact go hd
        · cases hL
          generalize a.eval x = u at hx'
          cases hx' with
          | own _ _ _ gg cap hd hcap ho => exact go hd
        · cases hL
          generalize a.eval x = u at hx'
          cases hx' with
          | full _ _ _ ad hd => exact go hd
        · cases hL
      obtain ⟨ad, cap, hv, hm⟩ := key
      refine Goes.valueV hI (v := .int .i64 L.length) (hrun _ ?_) (.d _ _ _ (.int _ _ ?_)) hk
      · simp [Builtin.len_, h0, h1, run_underlying hu, hv, goInt]
      · simp only [maxLen] at hm
        simp [wfI, IntKind.min, IntKind.max, IntKind.signed, IntKind.bits]
        omega
    · cases hr
  · cases hr


theorem foldl_set_get (off : Nat) : ∀ (l : List Value) (k : Nat) (cells : Array Value) (i : Nat), off + k + l.length ≤ cells.size →
    ((l.zipIdx k).foldl (fun cs (c, j) => cs.setIfInBounds (off + j) c) cells).size = cells.size ∧
    ((l.zipIdx k).foldl (fun cs (c, j) => cs.setIfInBounds (off + j) c) cells)[i]? = if off + k ≤ i ∧ i < off + k + l.length then l[i - (off + k)]? else cells[i]?
  | [], k, cells, i, _ => by
    refine ⟨rfl, ?_⟩
    rw [if_neg (by simp; try omega)]
    simp
  | v :: l, k, cells, i, h => by
    simp only [List.length_cons] at h
    simp only [List.zipIdx_cons, List.foldl_cons]
    obtain ⟨h1, h2⟩ := foldl_set_get off l (k + 1) (cells.setIfInBounds (off + k) v) i (by simp; omega)
    refine ⟨by rw [h1]; simp, ?_⟩
    rw [h2]
    by_cases hi : i = off + k
    · subst hi
      rw [if_neg (by omega), if_pos (by simp)]
      simp only [Nat.sub_self, List.getElem?_cons_zero]
      rw [Array.getElem?_setIfInBounds_self]
      rw [if_pos (by omega)]
    · by_cases hr : off + (k + 1) ≤ i ∧ i < off + (k + 1) + l.length
      · rw [if_pos hr, if_pos (by simp; omega)]
        have : i - (off + k) = (i - (off + (k + 1))) + 1 := by omega
        rw [this, List.getElem?_cons_succ]
      · rw [if_neg hr, if_neg (by simp; omega), Array.getElem?_setIfInBounds_ne (by omega)]

/-- parts and what they stand for -/
def PartsRep (w : World) (St : Nat → Nat → Prop) : List (Nat × D) → List (Nat × Value) → Prop
  | [], [] => True
  | (i, d) :: l, (j, v) :: m => i = j ∧ RepD w St d v ∧ PartsRep w St l m
  | _, _ => False

theorem RepD.cells_rep {St : Nat → Nat → Prop} {d : D} {v : Value} (r : RepD w St d v) : RepCs w St d.cells v.cells := by
  by_cases h : d.one = true
  · have h1 := r.oneCell h
    have hc : d.cells = [d] := by cases d <;> first | rfl | simp [D.one] at h
    have hv : v.cells = #[v] := by cases v <;> first | rfl | simp [Value.oneCell'] at h1
    rw [hc, hv]
    refine ⟨rfl, fun i x y hx hy => ?_⟩
    cases i with
    | zero => simp at hx hy; subst hx hy; exact r
    | succ i => simp at hx
  · cases d <;> simp only [D.one, not_true_eq_false] at h
    obtain ⟨vs, rfl, hr, _⟩ := r.agg_inv
    exact hr

theorem fill_rep {St : Nat → Nat → Prop} (place : Nat → Option (Nat × Nat)) : ∀ (ps : List (Nat × D)) (qs : List (Nat × Value)) (cs : List D) (cells : Array Value) (r : List D),
    PartsRep w St ps qs → RepCs w St cs cells → (∀ d ∈ cs, d.one = true) → fillD place cs ps = some r →
    ∃ r', Instr.fill place cells qs = some r' ∧ RepCs w St r r' ∧ ∀ d ∈ r, d.one = true
  | [], [], cs, cells, r, _, hc, hf, h => by
    simp only [fillD, Option.some.injEq] at h
    subst h
    exact ⟨cells, rfl, hc, hf⟩
  | (i, d) :: ps, (j, v) :: qs, cs, cells, r, hp, hc, hf, h => by
    obtain ⟨rfl, hd, hp⟩ := hp
    simp only [fillD] at h
    split at h
    · cases h
    · rename_i off sz hpl
      split at h
      · rename_i hcond
        have hdc := hd.cells_rep
        have hsz : v.cells.size = sz := by rw [← hdc.1]; exact hcond.1
        have hle : off + sz ≤ cells.size := by rw [← hc.1]; exact hcond.2
        have hg := fun i => foldl_set_get off v.cells.toList 0 cells i (by simp [hsz]; omega)
        simp only [Nat.add_zero, Array.length_toList, hsz] at hg
        have efold : v.cells.zipIdx.foldl (fun cs (c, j) => cs.setIfInBounds (off + j) c) cells = (v.cells.toList.zipIdx.foldl (fun cs (c, j) => cs.setIfInBounds (off + j) c) cells) := by
          rw [← Array.foldl_toList, Array.toList_zipIdx]
        obtain ⟨r', h1, h2, h3⟩ := fill_rep place ps qs _ (v.cells.zipIdx.foldl (fun cs (c, j) => cs.setIfInBounds (off + j) c) cells) r hp (by
          rw [efold]
          constructor
          · rw [(hg 0).1, ← hc.1]; simp [hcond.1]; omega
          · intro i x y hx hy
            rw [(hg i).2] at hy
            have := splice_get cs d.cells off (by rw [hcond.1]; exact hcond.2) i
            rw [hcond.1] at this
            rw [this] at hx
            split at hx
            · rename_i h1
              rw [if_neg (by omega)] at hy
              exact hc.2 i x y hx hy
            · rename_i h1
              split at hx
              · rename_i h2
                rw [if_pos (by omega)] at hy
                rw [Array.getElem?_toList] at hy
                exact hdc.2 _ x y hx hy
              · rename_i h2
                rw [if_neg (by omega)] at hy
                exact hc.2 i x y hx hy) (by
          intro x hx
          simp only [List.mem_append] at hx
          rcases hx with (hx | hx) | hx
          · exact hf x (List.mem_of_mem_take hx)
          · exact hd.cells_one x hx
          · exact hf x (List.mem_of_mem_drop hx)) h
        refine ⟨r', ?_, h2, h3⟩
        rw [Instr.fill]
        simp only [hpl, hsz]
        rw [if_neg (by simp; omega)]
        exact h1
      · cases h
  | [], _ :: _, _, _, _, h, _, _, _ => h.elim
  | _ :: _, [], _, _, _, h, _, _, _ => h.elim

theorem partsD_rep (hI : Inv gl w0 St0 e a w g) : ∀ {ps : List (Nat × Operand)} {l : List (Nat × D)}, partsD (fun x => (Ab.opnd gl e x).demote) ps = some l → PartsRep w g.St l (ps.map fun (i, x) => (i, a.eval x))
  | [], l, h => by simp only [partsD, Option.some.injEq] at h; subst h; trivial
  | (i, x) :: ps, l, h => by
    simp only [partsD] at h
    split at h
    · rename_i y hy
      split at h
      · rename_i z hz
        split at h
        · rename_i r hr
          cases h
          exact ⟨rfl, (hI.opV hy).toD hz, partsD_rep hI hr⟩
        · cases h
      · cases h
    · cases h

theorem placesL_run : ∀ {fs : List Field} {l : List (Nat × Nat)}, placesL P fs = some l → (fs.mapM (m := Sem) fun f => do pure (f.offset, ← sizeOf f.type)).run P w = .ok l w
  | [], l, h => by simp only [placesL, Option.some.injEq] at h; subst h; rfl
  | f :: fs, l, h => by
    simp only [placesL] at h
    split at h
    · rename_i s hs
      split at h
      · rename_i r hr
        cases h
        simp only [List.mapM_cons, Sem.run_bind, sizeOf_run hs, Result.andThen_ok, Sem.run_pure, placesL_run hr]
      · cases h
    · cases h

theorem goes_build (hI : Inv gl w0 St0 e a w g) {o : Oper} {t : TypeId} {ps : Array (Nat × Operand)} (ho : o.op = .build t ps) {k : Slot → List Box → Prop}
    (h : bindO (partsD (fun x => (Ab.opnd gl e x).demote) ps.toList) fun l => bindO (buildD P t l) fun r => k (.v (.d r)) e.boxes) : Goes P gl w0 St0 e.slots o a w k := by
  obtain ⟨l, hl, h⟩ := bindO_some h
  obtain ⟨r, hr, hk⟩ := bindO_some h
  have hp := partsD_rep hI hl
  unfold buildD at hr
  split at hr
  · rename_i z hz
    split at hr
    · rename_i pl hpl
      split at hr
      · rename_i cs hcs
        cases hr
        obtain ⟨zv, hzr, hzl, hzone, hzrep⟩ := zeroCells_rep hz
        obtain ⟨r', h1, h2, h3⟩ := fill_rep (w := w) (St := g.St) pl l _ z zv.cells cs hp ⟨hzl, fun i x v => hzrep w g.St i x v⟩ hzone hcs
        refine Goes.valueV hI (v := .agg r') ?_ (.d _ _ _ (h2.agg h3)) hk
        have eparts : (ps.map fun (i, x) => (i, a.eval x)).toList = ps.toList.map fun (i, x) => (i, a.eval x) := by simp
        unfold fieldPlaces at hpl
        split at hpl
        · rename_i fs hu
          split at hpl
          · rename_i ll hll
            cases hpl
            have hm : (fs.mapM (m := Sem) fun f => do pure (f.offset, ← sizeOf f.type)).run P w = .ok ll.toArray w := by
              have e1 : fs = fs.toList.toArray := by simp
              rw [e1, List.mapM_toArray, Sem.run_map, placesL_run hll]
              rfl
            simp only [execOp, ho, Sem.run_bind, Instr.build, hzr, Result.andThen_ok, run_underlying hu, hm]
            rw [eparts]
            have : (fun x : Nat => ll.toArray[x]?) = fun i => ll[i]? := by funext i; simp
            rw [this, h1]
            rfl
          · cases hpl
        · rename_i n e' hu
          split at hpl
          · rename_i s hs
            cases hpl
            simp only [execOp, ho, Sem.run_bind, Instr.build, hzr, Result.andThen_ok, run_underlying hu, sizeOf_run hs]
            rw [eparts, h1]
            rfl
          · cases hpl
        · cases hpl
      · cases hr
    · cases hr
  · cases hr


theorem fillD_elems (sz n : Nat) : ∀ (l : List (Nat × D)) (cs : List D), cs.length = n * sz → partsFit sz n l = true →
    ∃ r, fillD (fun i => some (i * sz, sz)) cs l = some r ∧ r.length = n * sz ∧ ∀ i j, i < n → j < sz → r[i * sz + j]? = (match findPart i l with | some x => x.cells[j]? | none => cs[i * sz + j]?)
  | [], cs, h, _ => ⟨cs, rfl, h, fun i j _ _ => rfl⟩
  | (i0, d) :: l, cs, h, hp => by
    simp only [partsFit, Bool.and_eq_true] at hp
    obtain ⟨⟨h1, h2⟩, h3⟩ := hp
    have hi0 : i0 < n := Nat.lt_of_succ_le (Nat.le_of_ble_eq_true h1)
    have hd := Nat.eq_of_beq_eq_true h2
    have hle : i0 * sz + sz ≤ n * sz := by
      have : (i0 + 1) * sz ≤ n * sz := Nat.mul_le_mul_right _ hi0
      rw [Nat.succ_mul] at this; exact this
    obtain ⟨r, q1, q2, q3⟩ := fillD_elems sz n l (cs.take (i0 * sz) ++ d.cells ++ cs.drop (i0 * sz + sz)) (by rw [List.length_append, List.length_append, List.length_take, List.length_drop, hd, h]; omega) h3
    refine ⟨r, ?_, q2, fun i j hi hj => ?_⟩
    · simp only [fillD]
      rw [if_pos ⟨hd, by rw [h]; exact hle⟩]
      exact q1
    · rw [q3 i j hi hj]
      cases hfp : findPart i l with
      | some y => simp only [findPart, hfp]
      | none =>
        simp only [findPart, hfp]
        have := splice_get cs d.cells (i0 * sz) (by rw [hd, h]; exact hle) (i * sz + j)
        rw [hd] at this
        rw [this]
        cases hb : i == i0 with
        | true =>
          have : i = i0 := by simpa using hb
          subst this
          rw [if_neg (by omega), if_pos (by omega)]
          simp
        | false =>
          have hne : i ≠ i0 := by simpa using hb
          simp only [cond_false]
          rcases Nat.lt_or_ge i i0 with hlt | hge
          · have : (i + 1) * sz ≤ i0 * sz := Nat.mul_le_mul_right _ hlt
            rw [Nat.succ_mul] at this
            rw [if_pos (by omega)]
          · have : (i0 + 1) * sz ≤ i * sz := Nat.mul_le_mul_right _ (by omega)
            rw [Nat.succ_mul] at this
            rw [if_neg (by omega), if_neg (by omega)]

theorem buildElems_get (zero : D) (l : List (Nat × D)) : ∀ (n s i : Nat), (buildElems zero l n s).length = n ∧ (i < n → (buildElems zero l n s)[i]? = some (match findPart (s + i) l with | some x => x | none => zero))
  | 0, s, i => ⟨rfl, fun h => by omega⟩
  | n + 1, s, i => by
    refine ⟨by simp [buildElems, (buildElems_get zero l n (s + 1) 0).1], fun h => ?_⟩
    cases i with
    | zero => rfl
    | succ i =>
      have := (buildElems_get zero l n (s + 1) i).2 (by omega)
      simp only [buildElems, List.getElem?_cons_succ]
      rw [this]
      have : s + 1 + i = s + (i + 1) := by omega
      rw [this]

/-- new data -/
theorem Goes.newData (hI : Inv gl w0 St0 e a w g) {o : Oper} {cells : Array Value} {t : TypeId} {s : SV} {v : Value} {k : Slot → List Box → Prop}
    (hrun : (execOp a.eval o).run P w = .ok (.value v) (w.alloc (.cells cells t)))
    (rep : ∀ (g' : Gh), (∀ o, g'.St w.heap.size o) → Ext w0.heap.size w g (w.alloc (.cells cells t)) g' (fun _ => False) → RepV (w.alloc (.cells cells t)) g'.St w0.heap.size (fun _ _ _ => False) s v)
    (hk : k (.v s) e.boxes) : Goes P gl w0 St0 e.slots o a w k := by
  intro next Q hn
  unfold Oper.wp
  rw [hrun]
  have hle : w0.heap.size ≤ w.heap.size := hI.below.size
  have hX : Ext w0.heap.size w g (w.alloc (.cells cells t)) { g with St := fun b o => g.St b o ∨ b = w.heap.size } (fun _ => False) := by
    refine ⟨fun b o h => ⟨.inl h, cell_alloc_old w _ b o (hI.stlt h)⟩, fun b o h => cell_alloc_old w _ b o (by omega), fun i blk h => h, fun p b a c _ ho => ?_⟩
    have hlt := ho.lt
    obtain ⟨h1, h2, h3, ⟨cur, ty, h4, h4'⟩, h5⟩ := ho
    exact ⟨h1, h2, h3, ⟨cur, ty, (alloc_old w _ b hlt).trans h4, h4'⟩, fun o ho => by rintro (h | h); exact h5 o ho h; omega⟩
  have hr := rep { g with St := fun b o => g.St b o ∨ b = w.heap.size } (fun _ => Or.inr rfl) hX
  refine hn (.v s) _ _ _ { g with St := fun b o => g.St b o ∨ b = w.heap.size } (hI.step0 (g' := { g with St := fun b o => g.St b o ∨ b = w.heap.size })
    ⟨hX.st, hX.bs, hX.bx, fun p b a c _ ho => hX.own p b a c (fun h => h) ho⟩ ((Below.refl _ _).alloc (Nat.le_refl _) _) (fun d _ => ?_) rfl (fun b o h => ?_)) hk
  · exact .v _ _ _ (hr.mono (fun _ _ h => ⟨h, rfl⟩) (fun _ _ _ => rfl) _ (fun _ _ _ h => h.elim))
  · have hs := alloc_size w (.cells cells t)
    rcases h with h | h
    · exact .inl h
    · right; omega

theorem mkElem_cells {b : Bool} {z : List D} (hf : ∀ d ∈ z, d.one = true) (h1 : b = false → z.length = 1) : (mkElem b z).cells = z := by
  unfold mkElem
  cases b
  · obtain ⟨x, rfl⟩ := List.length_eq_one_iff.1 (h1 rfl)
    have := hf x (by simp)
    cases x <;> first | rfl | simp [D.one] at this
  · rfl

theorem elemOf_run {t e' : TypeId} (h : elemOf? P t = some e') : P.underlying t = some (.slice e') := by
  unfold elemOf? at h
  split at h
  · rename_i e'' hu; cases h; exact hu
  · cases h

theorem goes_buildSlice (hI : Inv gl w0 St0 e a w g) {o : Oper} {t : TypeId} {n : Nat} {ps : Array (Nat × Operand)} (ho : o.op = .buildSlice t n ps) {k : Slot → List Box → Prop}
    (h : bindO (elemOf? P t) fun e' => bindO (lay? P e') fun ly => bindO (zeroCells? P e') fun z => bindO (partsD (fun x => (Ab.opnd gl e x).demote) ps.toList) fun l =>
      bif Nat.ble (n * ly.2) (2 ^ 24) && Nat.blt 0 ly.2 && Nat.beq z.length ly.2 then (partsFit ly.2 n l = true ∧ k (.v (.full ly.2 (buildElems (mkElem ly.1 z) l n 0))) e.boxes) else False) :
    Goes P gl w0 St0 e.slots o a w k := by
  obtain ⟨e', he, h⟩ := bindO_some h
  obtain ⟨⟨b, sz⟩, hl, h⟩ := bindO_some h
  obtain ⟨z, hz, h⟩ := bindO_some h
  obtain ⟨l, hp, h⟩ := bindO_some h
  cases hc : (Nat.ble (n * sz) (2 ^ 24) && Nat.blt 0 sz && Nat.beq z.length sz) with
  | false => simp only [hc, cond_false] at h
  | true =>
    simp only [hc, cond_true] at h
    simp only [Bool.and_eq_true] at hc
    obtain ⟨⟨hc1, hc2⟩, hc3⟩ := hc
    obtain ⟨hfit, hk⟩ := h
    have hlen := Nat.eq_of_beq_eq_true hc3
    have h24 := Nat.le_of_ble_eq_true hc1
    have hsz0 : 0 < sz := Nat.lt_of_succ_le (Nat.le_of_ble_eq_true hc2)
    have hu := elemOf_run he
    obtain ⟨hb, hn, hone⟩ := lay_run hl
    obtain ⟨zv, hzr, hzl, hzone, hzrep⟩ := zeroCells_rep hz
    have hparts := partsD_rep hI hp
    -- the zero cells
    have hzs : zv.cells.size = sz := by rw [← hzl, hlen]
    have hz0 : RepCs w g.St ((List.range (n * sz)).map fun i => z.getD (i % sz) .nilptr) ((Array.range (n * sz)).map (zv.cells[· % zv.cells.size]!)) ∧
        ∀ d ∈ ((List.range (n * sz)).map fun i => z.getD (i % sz) .nilptr), d.one = true := by
      have hm : ∀ i, i % sz < z.length := fun i => by rw [hlen]; exact Nat.mod_lt _ hsz0
      constructor
      · refine ⟨by simp, fun i x v hx hv => ?_⟩
        simp only [List.getElem?_map, Option.map_eq_some_iff] at hx
        obtain ⟨j, hj, rfl⟩ := hx
        have hi : i < n * sz := by have := (List.getElem?_eq_some_iff.1 hj).1; simpa using this
        rw [List.getElem?_range hi] at hj
        cases hj
        have hmi := hm i
        have hmv : i % sz < zv.cells.size := by rw [hzs]; exact Nat.mod_lt _ hsz0
        simp [hi, hzs] at hv
        rw [getElem!_pos zv.cells (i % sz) hmv] at hv
        subst hv
        refine hzrep w g.St (i % sz) _ _ ?_ (Array.getElem?_eq_getElem hmv)
        rw [List.getD_eq_getElem?_getD, List.getElem?_eq_getElem hmi]; rfl
      · intro d hd
        simp only [List.mem_map, List.mem_range] at hd
        obtain ⟨i, hi, rfl⟩ := hd
        have hmi := hm i
        rw [List.getD_eq_getElem?_getD, List.getElem?_eq_getElem hmi]
        exact hzone _ (List.getElem_mem hmi)
    obtain ⟨r, q1, q2, q3⟩ := fillD_elems sz n l ((List.range (n * sz)).map fun i => z.getD (i % sz) .nilptr) (by simp) hfit
    obtain ⟨r', f1, f2, f3⟩ := fill_rep (w := w) (St := g.St) _ l _ _ _ r hparts hz0.1 hz0.2 q1
    have eparts : (ps.map fun (i, x) => (i, a.eval x)).toList = ps.toList.map fun (i, x) => (i, a.eval x) := by simp
    have hr's : r'.size = n * sz := by rw [← f2.1, q2]
    refine Goes.newData hI (cells := r') (t := e') (v := .slice (some ⟨w.heap.size, 0, none⟩) n n) ?_ (fun g' hst hX => ?_) hk
    · have hif : ¬ (n * sz > 2 ^ 24) := by omega
      have hns : ¬ (n * sz = 0 ∧ n ≠ 0) := by
        rintro ⟨h1, h2⟩
        rcases Nat.mul_eq_zero.1 h1 with h | h <;> omega
      simp only [execOp, ho, Sem.run_bind, Instr.buildSlice, run_underlying hu, Result.andThen_ok, sizeOf_run hn, hif, if_false]
      by_cases h0 : n * sz = 0
      · have hz1 : (Array.range (n * sz)).map (fun x => (#[] : Array Value)[x % (#[] : Array Value).size]!) = (Array.range (n * sz)).map (zv.cells[· % zv.cells.size]!) := by rw [h0]; simp
        simp only [if_pos h0, Sem.run_bind, Sem.run_pure, Result.andThen_ok]
        rw [hz1, eparts, f1]
        simp [newRow]
      · simp only [if_neg h0, Sem.run_bind, Sem.run_pure, Result.andThen_ok, hzr]
        rw [eparts, f1]
        simp [newRow]
    · have hL := buildElems_get (mkElem b z) l n 0
      have hLlen := (hL 0).1
      have hpf : ∀ i x, findPart i l = some x → x.cells.length = sz ∧ ∀ c ∈ x.cells, c.one = true := by
        intro i x hx
        clear hL hLlen q1 q2 q3 f1 f2 f3 hp hk
        revert hfit hparts
        generalize (ps.toList.map fun (i, x) => (i, a.eval x)) = qs
        intro hfit hparts
        induction l generalizing qs with
        | nil => simp [findPart] at hx
        | cons p l ih =>
          obtain ⟨j, d⟩ := p
          cases qs with
          | nil => exact hparts.elim
          | cons q qs =>
            obtain ⟨j', v⟩ := q
            obtain ⟨_, hd, hps⟩ := hparts
            simp only [partsFit, Bool.and_eq_true] at hfit
            simp only [findPart] at hx
            split at hx
            · rename_i y hy
              cases hx
              exact ih hy qs hfit.2 hps
            · cases hb : i == j <;> rw [hb] at hx <;> simp only [cond_true, cond_false, Option.some.injEq, reduceCtorEq] at hx
              subst hx
              exact ⟨Nat.eq_of_beq_eq_true hfit.1.2, hd.cells_one⟩
      have hel : ∀ i x, (buildElems (mkElem b z) l n 0)[i]? = some x → i < n ∧ x = (match findPart i l with | some x => x | none => mkElem b z) := by
        intro i x hx
        have hi : i < n := by rw [← hLlen]; exact (List.getElem?_eq_some_iff.1 hx).1
        have := (hL i).2 hi
        rw [this] at hx
        simp only [Nat.zero_add] at hx
        exact ⟨hi, (Option.some.inj hx).symm⟩
      have hmz : (mkElem b z).cells = z := mkElem_cells hzone (fun h => by rw [hlen]; exact hone h)
      have hxc : ∀ x ∈ buildElems (mkElem b z) l n 0, x.cells.length = sz ∧ ∀ c ∈ x.cells, c.one = true := by
        intro x hx
        obtain ⟨i, hi⟩ := List.mem_iff_getElem?.1 hx
        obtain ⟨_, rfl⟩ := hel i x hi
        split
        · rename_i y hy; exact hpf _ _ hy
        · rw [hmz]; exact ⟨hlen, hzone⟩
      have hmax : n ≤ maxLen := by
        have : n * 1 ≤ n * sz := Nat.mul_le_mul_left _ hsz0
        simp only [maxLen]; omega
      have hrep := RepD.sl (w := w.alloc (.cells r' e')) (St := g'.St) sz (buildElems (mkElem b z) l n 0) w.heap.size 0 n (fun o => r'.getD o undef) (by rw [hLlen]; exact Nat.le_refl _) (by rw [hLlen]; exact hmax)
        (fun x hx => (hxc x hx).1) (fun x hx => (hxc x hx).2)
        (fun o' ho' => ⟨by
          rw [hLlen] at ho'
          rw [cell_of_row _ w.heap.size (0 + o') r' e' (0, 0) (alloc_new w _)]
          simp [hr's, ho'], hst _⟩)
        (fun i x j c hx hc => by
          obtain ⟨hi, rfl⟩ := hel i x hx
          have hj : j < sz := by
            have h1 := (hxc _ (List.mem_of_getElem? hx)).1
            have h2 := (List.getElem?_eq_some_iff.1 hc).1
            omega
          have hlt : i * sz + j < n * sz := by
            have : (i + 1) * sz ≤ n * sz := Nat.mul_le_mul_right _ hi
            rw [Nat.succ_mul] at this; omega
          have hq := q3 i j hi hj
          have hcr : r[i * sz + j]? = some c := by
            rw [hq]
            cases hfp : findPart i l with
            | some y => rw [hfp] at hc; exact hc
            | none =>
              rw [hfp] at hc
              simp only at hc
              rw [hmz] at hc
              simp only
              rw [List.getElem?_map, List.getElem?_range hlt]
              have hmod : (i * sz + j) % sz = j := by rw [Nat.add_comm, Nat.add_mul_mod_self_right, Nat.mod_eq_of_lt hj]
              simp only [Option.map_some, hmod, List.getD_eq_getElem?_getD, hc, Option.getD_some]
          refine hX.repD (f2.2 (i * sz + j) c _ hcr ?_)
          simp [hr's, hlt])
      rw [hLlen] at hrep
      have hfull := RepV.full (w := w.alloc (.cells r' e')) (St := g'.St) (base := w0.heap.size) (fun _ _ _ => False) sz (buildElems (mkElem b z) l n 0) ⟨w.heap.size, 0, none⟩ (by rw [hLlen]; exact hrep)
      rw [hLlen] at hfull
      exact hfull

end
end Go.Proofs.YtcnnhnjcnekhcaaGreat.Ab
/-
  THE ABSTRACT WALK: appends.
-/
namespace Go.Proofs.YtcnnhnjcnekhcaaGreat.Ab
open Go Go.RowKit

section
variable {P : Program} {gl : Nat → Option D} {w0 : World} {St0 : Nat → Nat → Prop} {e : Env} {a : Act} {w : World} {g : Gh}

/-- an operation that hands owned slices on: the slots behind it, and which lost what they owned -/
structure Hands (e : Env) (slots : List Slot) (lost : Nat → Prop) (dst : Option Nat) : Prop where
  len : slots.length = e.slots.length
  at_ : ∀ (i : Nat) x, slots[i]? = some x → dst ≠ some i → ∃ y, e.slots[i]? = some y ∧ ((x = y ∧ ¬ lost i) ∨ x = y.demote)

theorem Hands.same (e : Env) (dst : Option Nat) : Hands e e.slots (fun _ => False) dst := ⟨rfl, fun _ x h _ => ⟨x, h, .inl ⟨rfl, fun h => h⟩⟩⟩

/-- what the positions lose -/
def LostAt (lost : Nat → Prop) (dst : Option Nat) (p : Pos) : Prop := ∃ i j, p = .s i j ∧ (lost i ∨ dst = some i)

/-- the step of an operation that hands on: no variable turns -/
theorem Inv.hand (hI : Inv gl w0 St0 e a w g) {w' : World} {g' : Gh} {slots : List Slot} {lost : Nat → Prop} {dst : Option Nat} (hH : Hands e slots lost dst)
    (hX : Ext w0.heap.size w g w' g' (LostAt lost dst)) {s : Slot} {v : Value} (hbelow : Below w0.heap.size w w')
    (hdst : ∀ d, dst = some d → RepS w0.heap.size w' g' (slotO w0.heap.size w' g' d) s v) (hbx : g'.bx = g.bx) (hblk : ∀ b, some b ∈ g.bx → w'.heap[b]? = w.heap[b]?)
    (hst1 : ∀ b o, g'.St b o → (St0 b o ∨ w0.heap.size ≤ b) ∧ some b ∉ g.bx ∧ b < w'.heap.size) :
    Inv gl w0 St0 ⟨putSlot slots dst s, e.boxes⟩ (a.put dst v) w' g' := by
  refine hI.step hX hbelow hH.len (fun i x hx hd => ?_) hdst (by rw [hbx]; exact hI.bxlen) ?_ (by rw [hbx]; exact hI.nodup) ?_ (fun b o h => by rw [hbx]; exact hst1 b o h)
  · obtain ⟨y, hy, ⟨rfl, hl⟩ | h⟩ := hH.at_ i x hx hd
    · refine ⟨x, hy, .inl ⟨rfl, fun j => ?_⟩⟩
      rintro ⟨i', j', h, hl' | hl'⟩
      · cases h; exact hl hl'
      · cases h; exact hd hl'
    · exact ⟨y, hy, .inr h⟩
  · intro b bx blk h1 h2
    rw [hbx] at h2
    refine hX.box (fun j => ?_) (hblk blk (List.mem_of_getElem? h2)) (hI.boxes b bx blk h1 h2)
    rintro ⟨i, j', h, _⟩
    cases h
  · intro b hb
    rw [hbx] at hb
    have := hbelow.size
    have := hI.bxlt b hb
    omega

/-- nothing turns but who owns -/
def Gh.mv (g : Gh) (b : Nat) (p : Pos) : Gh := { g with ow := fun b' => if b' = b then some p else g.ow b' }

/-- ext: a row's owner is another -/
theorem Ext.mv {base : Nat} {i : Nat} {b a0 c0 : Nat} (ho : OwnAt base w g (.s i 0) b a0 c0) {lost : Nat → Prop} (hl : lost i) (dst : Option Nat) (q : Pos) : Ext base w g w (g.mv b q) (LostAt lost dst) := by
  refine ⟨fun _ _ h => ⟨h, rfl⟩, fun _ _ _ => rfl, fun _ _ h => h, fun p b' a' c' hp ho' => ?_⟩
  obtain ⟨h1, h2, h3, h4, h5⟩ := ho'
  refine ⟨?_, h2, h3, h4, h5⟩
  simp only [Gh.mv]
  split
  · rename_i hb
    subst hb
    exfalso
    rw [ho.1] at h1
    cases h1
    exact hp ⟨i, 0, rfl, .inl hl⟩
  · exact h1

theorem append_same_run {t ty e' : TypeId} {i : TypeInfo} (ht : P.underlying t = some (.slice e')) (hi : P.info? e' = some i) (base : Option Addr) (n cap : Nat) (hn : n ≤ cap) {y : Value}
    (hy : y = .slice none 0 0 ∨ ∃ ad c, y = .slice (some ad) 0 c) : (Builtin.append_ #[t, t] ty #[.slice base n cap, y]).run P w = .ok (.slice base n cap) w := by
  rcases hy with rfl | ⟨ad, c, rfl⟩
  · cases base <;> simp [Builtin.append_, run_underlying ht, sizeOf, typeInfo, hi, Builtin.lenOf, hn, Builtin.firstCells, storeCells]
  · cases base <;> simp [Builtin.append_, run_underlying ht, sizeOf, typeInfo, hi, Builtin.lenOf, hn, Builtin.firstCells, loadCells, loadCellsFrom, storeCells]

theorem append_room_run {t ty e' te : TypeId} {i : TypeInfo} (ht : P.underlying t = some (.slice e')) (hi : P.info? e' = some i) {gg n cap : Nat} {cur : Array Value} (hg : w.heap[gg]? = some (.cells cur te (0, 0)))
    {ad : Addr} {m c : Nat} (news : List Value) (hl : news.length = m * i.size) (hnews : ∀ j u, news[j]? = some u → w.cell? (ad.add j) = some u) (h1 : ∀ u ∈ news, u.oneCell' = true)
    (hroom : n + m ≤ cap) (hfit : n * i.size + news.length ≤ cur.size) :
    (Builtin.append_ #[t, t] ty #[.slice (some ⟨gg, 0, none⟩) n cap, .slice (some ad) m c]).run P w =
      .ok (.slice (some ⟨gg, 0, none⟩) (n + m) cap) (w.setRow gg (cur.toList.take (n * i.size) ++ news ++ cur.toList.drop (n * i.size + news.length)).toArray) := by
  have hf := run_firstCells_some (P := P) w i.size m ad m c news hl hnews
  have hst := run_storeCells_at P gg (n * i.size) te news 0 cur w hg (by simpa using hfit) h1
  simp only [Nat.add_zero] at hst
  simp [Builtin.append_, run_underlying ht, sizeOf, typeInfo, hi, Builtin.lenOf, hroom, hf, Addr.add_lit, hst]

/-- the cells of a slice, as a list -/
theorem cells_list {sz n : Nat} {vs : Nat → Value} {b off : Nat} {St : Nat → Nat → Prop} (hcell : ∀ (o : Nat), o < n * sz → w.cell? ⟨b, off + o, none⟩ = some (vs o) ∧ St b (off + o)) :
    ∃ l : List Value, l.length = n * sz ∧ (∀ j u, l[j]? = some u → w.cell? ((⟨b, off, none⟩ : Addr).add j) = some u) ∧ ∀ j, j < n * sz → l[j]? = some (vs j) := by
  refine ⟨(List.range (n * sz)).map vs, by simp, fun j u hu => ?_, fun j hj => by simp [hj]⟩
  have hj : j < n * sz := by have := (List.getElem?_eq_some_iff.1 hu).1; simpa using this
  simp [hj] at hu
  subst hu
  rw [addr_add]
  exact (hcell j hj).1


theorem flat_get {sz : Nat} {L M : List D} (hL : ∀ x ∈ L, x.cells.length = sz) {i : Nat} {x : D} (hx : (L ++ M)[i]? = some x) {j : Nat} {c : D} (hc : x.cells[j]? = some c) {St : Nat → Nat → Prop}
    {f h : Nat → Value} (hf : ∀ (i : Nat) x (j : Nat) c, L[i]? = some x → x.cells[j]? = some c → RepD w St c (f (i * sz + j))) (hh : ∀ (i : Nat) x (j : Nat) c, M[i]? = some x → x.cells[j]? = some c → RepD w St c (h (i * sz + j)))
    (hM : ∀ x ∈ M, x.cells.length = sz) : RepD w St c (if i * sz + j < L.length * sz then f (i * sz + j) else h (i * sz + j - L.length * sz)) := by
  rw [List.getElem?_append] at hx
  have hj := (List.getElem?_eq_some_iff.1 hc).1
  split at hx
  · rename_i hi
    rw [hL x (List.mem_of_getElem? hx)] at hj
    have : (i + 1) * sz ≤ L.length * sz := Nat.mul_le_mul_right _ hi
    rw [Nat.succ_mul] at this
    rw [if_pos (by omega)]
    exact hf i x j c hx hc
  · rename_i hi
    rw [hM x (List.mem_of_getElem? hx)] at hj
    have h1 : L.length * sz ≤ i * sz := Nat.mul_le_mul_right _ (by omega)
    rw [if_neg (by omega)]
    have := hh (i - L.length) x j c hx hc
    have e1 : i * sz + j - L.length * sz = (i - L.length) * sz + j := by rw [Nat.sub_mul]; omega
    rw [e1]
    exact this

/-- an append that grows: the new row is this slot's own -/
theorem Inv.grow (hI : Inv gl w0 St0 e a w g) {slots : List Slot} {lost : Nat → Prop} {dst : Option Nat} (hH : Hands e slots lost dst) {sz : Nat} {L M : List D} {cap : Nat} {te : TypeId} {olds news rest : List Value}
    (hL : ∀ x ∈ L, x.cells.length = sz) (hM : ∀ x ∈ M, x.cells.length = sz) (hLf : ∀ x ∈ L, ∀ c ∈ x.cells, c.one = true) (hMf : ∀ x ∈ M, ∀ c ∈ x.cells, c.one = true)
    (ho : olds.length = L.length * sz) (hn : news.length = M.length * sz) (hr : rest.length = (cap - (L.length + M.length)) * sz) (hcap : L.length + M.length ≤ cap) (hcm : cap ≤ maxLen)
    {f h : Nat → Value} (hof : ∀ j, j < L.length * sz → olds[j]? = some (f j)) (hnf : ∀ j, j < M.length * sz → news[j]? = some (h j))
    (hf : ∀ (i : Nat) x (j : Nat) c, L[i]? = some x → x.cells[j]? = some c → RepD w g.St c (f (i * sz + j))) (hh : ∀ (i : Nat) x (j : Nat) c, M[i]? = some x → x.cells[j]? = some c → RepD w g.St c (h (i * sz + j))) :
    ∃ g', Inv gl w0 St0 ⟨putSlot slots dst (.v (.own sz (L ++ M))), e.boxes⟩ (a.put dst (.slice (some ⟨w.heap.size, 0, none⟩) (L.length + M.length) cap))
      (w.drew.alloc (.cells (olds ++ news ++ rest).toArray te)) g' := by
  have hle : w0.heap.size ≤ w.heap.size := hI.below.size
  have hheap : w.drew.heap = w.heap := rfl
  have hsz : (w.drew.alloc (.cells (olds ++ news ++ rest).toArray te)).heap.size = w.heap.size + 1 := alloc_size w.drew _
  have hold := fun b (hb : b < w.heap.size) => alloc_old w.drew (.cells (olds ++ news ++ rest).toArray te) b hb
  have hnew := alloc_new w.drew (.cells (olds ++ news ++ rest).toArray te)
  have hcold : ∀ b o, b < w.heap.size → (w.drew.alloc (.cells (olds ++ news ++ rest).toArray te)).cell? ⟨b, o, none⟩ = w.cell? ⟨b, o, none⟩ := fun b o hb => World.cell?_of_block (hold b hb)
  refine ⟨{ St := fun b o => g.St b o ∨ (b = w.heap.size ∧ o < (L.length + M.length) * sz), bx := g.bx, ow := fun b => if b = w.heap.size then (dst.map fun d => .s d 0) else g.ow b }, ?_⟩
  have hX : Ext w0.heap.size w g (w.drew.alloc (.cells (olds ++ news ++ rest).toArray te))
      { St := fun b o => g.St b o ∨ (b = w.heap.size ∧ o < (L.length + M.length) * sz), bx := g.bx, ow := fun b => if b = w.heap.size then (dst.map fun d => .s d 0) else g.ow b } (LostAt lost dst) := by
    refine ⟨fun b o h => ⟨.inl h, hcold b o (hI.stlt h)⟩, fun b o h => hcold b o (by omega), fun _ _ h => h, fun p b a' c' _ ho' => ?_⟩
    have hlt := ho'.lt
    obtain ⟨h1, h2, h3, ⟨cur, ty, h4, h4'⟩, h5⟩ := ho'
    refine ⟨?_, h2, h3, ⟨cur, ty, (hold b hlt).trans h4, h4'⟩, fun o ho => ?_⟩
    · simp only
      rw [if_neg (by omega)]; exact h1
    · rintro (h | h)
      · exact h5 o ho h
      · omega
  refine hI.hand hH hX ⟨rfl, rfl, rfl, by omega, fun k hk => hold k (by omega)⟩ (fun d hd => ?_) rfl (fun b hb => hold b (hI.bxlt b hb).2) (fun b o h => ?_)
  · have hlen : (L ++ M).length = L.length + M.length := List.length_append
    have hcs : (olds ++ news ++ rest).toArray.size = cap * sz := by
      simp only [List.size_toArray, List.length_append, ho, hn, hr]
      rw [← Nat.add_mul, ← Nat.add_mul]
      congr 1
      omega
    have hrep := RepD.sl (w := w.drew.alloc (.cells (olds ++ news ++ rest).toArray te)) (St := fun b o => g.St b o ∨ (b = w.heap.size ∧ o < (L.length + M.length) * sz)) sz (L ++ M) w.heap.size 0 cap
      (fun o => if o < L.length * sz then f o else h (o - L.length * sz)) (by omega) (by omega) (fun x hx => (List.mem_append.1 hx).elim (hL x) (hM x)) (fun x hx => (List.mem_append.1 hx).elim (hLf x) (hMf x))
      (fun o ho' => by
        rw [hlen] at ho'
        refine ⟨?_, .inr ⟨rfl, by omega⟩⟩
        rw [cell_of_row _ w.heap.size (0 + o) _ te (0, 0) hnew]
        simp only [Nat.zero_add, List.getElem?_toArray]
        rw [List.append_assoc, List.getElem?_append]
        split
        · rename_i h1
          rw [ho] at h1
          rw [if_pos h1]; exact hof o h1
        · rename_i h1
          rw [ho] at h1 ⊢
          rw [if_neg h1]
          have hlt : o - L.length * sz < M.length * sz := by rw [Nat.add_mul] at ho'; omega
          rw [List.getElem?_append_left (by rw [hn]; exact hlt)]
          exact hnf _ hlt)
      (fun i x j c hx hc => (flat_get hL hx hc hf hh hM).mono fun b o h => ⟨.inl h, hcold b o (hI.stlt h)⟩)
    rw [hlen] at hrep
    refine .v _ _ _ ?_
    have hown := RepV.own (w := w.drew.alloc (.cells (olds ++ news ++ rest).toArray te)) (St := fun b o => g.St b o ∨ (b = w.heap.size ∧ o < (L.length + M.length) * sz)) (base := w0.heap.size)
      (slotO w0.heap.size (w.drew.alloc (.cells (olds ++ news ++ rest).toArray te)) { St := fun b o => g.St b o ∨ (b = w.heap.size ∧ o < (L.length + M.length) * sz), bx := g.bx, ow := fun b => if b = w.heap.size then (dst.map fun d => .s d 0) else g.ow b } d 0)
      sz (L ++ M) w.heap.size cap (by rw [hlen]; exact hrep) hcm ?_
    · rw [hlen] at hown; exact hown
    · refine ⟨by simp [hd], hle, fun hb => by have := (hI.bxlt _ hb).2; omega, ⟨_, te, hnew, hcs⟩, fun o ho => ?_⟩
      rw [hlen] at ho
      rintro (h | h)
      · have := hI.stlt h; omega
      · omega
  · rcases h with h | h
    · have := hI.st1 b o h
      exact ⟨this.1, this.2.1, by omega⟩
    · obtain ⟨rfl, _⟩ := h
      exact ⟨.inr hle, fun hb => by have := (hI.bxlt _ hb).2; omega, by omega⟩

/-- an append in place: the row's owner hands it on -/
theorem Inv.room (hI : Inv gl w0 St0 e a w g) {slots : List Slot} {lost : Nat → Prop} {dst : Option Nat} (hH : Hands e slots lost dst) {sz : Nat} {L M : List D} {cap gg i0 : Nat} {news : List Value}
    (hOw : OwnAt w0.heap.size w g (.s i0 0) gg (L.length * sz) (cap * sz)) (hl : lost i0)
    (hRep : RepD w g.St (.sl .ro sz L) (.slice (some ⟨gg, 0, none⟩) L.length cap)) {cur : Array Value} {te : TypeId} (hcur : w.heap[gg]? = some (.cells cur te (0, 0))) (hcs : cur.size = cap * sz)
    (hM : ∀ x ∈ M, x.cells.length = sz) (hMf : ∀ x ∈ M, ∀ c ∈ x.cells, c.one = true)
    (hn : news.length = M.length * sz) (hcap : L.length + M.length ≤ cap) (hcm : cap ≤ maxLen)
    {h : Nat → Value} (hnf : ∀ j, j < M.length * sz → news[j]? = some (h j)) (hh : ∀ (i : Nat) x (j : Nat) c, M[i]? = some x → x.cells[j]? = some c → RepD w g.St c (h (i * sz + j))) :
    ∃ g', Inv gl w0 St0 ⟨putSlot slots dst (.v (.own sz (L ++ M))), e.boxes⟩ (a.put dst (.slice (some ⟨gg, 0, none⟩) (L.length + M.length) cap))
      (w.setRow gg (cur.toList.take (L.length * sz) ++ news ++ cur.toList.drop (L.length * sz + news.length)).toArray) g' := by
  obtain ⟨o1, o2, o3, _, o5⟩ := hOw
  have hgl : gg < w.heap.size := (Array.getElem?_eq_some_iff.1 hcur).1
  have hfit : L.length * sz + M.length * sz ≤ cap * sz := by rw [← Nat.add_mul]; exact Nat.mul_le_mul_right _ hcap
  let w' := w.setRow gg (cur.toList.take (L.length * sz) ++ news ++ cur.toList.drop (L.length * sz + news.length)).toArray
  let g' : Gh := { St := fun b o => g.St b o ∨ (b = gg ∧ o < (L.length + M.length) * sz), bx := g.bx, ow := fun b => if b = gg then (dst.map fun d => .s d 0) else g.ow b }
  have hoth : ∀ k, k ≠ gg → w'.heap[k]? = w.heap[k]? := fun k hk => setRow_other w gg k _ hk
  have hnew : w'.heap[gg]? = some (.cells (cur.toList.take (L.length * sz) ++ news ++ cur.toList.drop (L.length * sz + news.length)).toArray te (0, 0)) := setRow_heap w gg cur _ te (0, 0) hcur
  have hget : ∀ o, w'.cell? ⟨gg, o, none⟩ = if o < L.length * sz then cur[o]? else if o < L.length * sz + M.length * sz then news[o - L.length * sz]? else cur[o]? := by
    intro o
    rw [cell_of_row w' gg o _ te (0, 0) hnew]
    simp only [List.getElem?_toArray]
    rw [splice_get cur.toList news (L.length * sz) (by simp [hcs, hn]; omega)]
    simp only [hn, Array.getElem?_toList]
  have hcold : ∀ b o, (b = gg → o < L.length * sz) → w'.cell? ⟨b, o, none⟩ = w.cell? ⟨b, o, none⟩ := by
    intro b o hb
    by_cases hbg : b = gg
    · subst hbg
      rw [hget, if_pos (hb rfl), cell_of_row w b o cur te (0, 0) hcur]
    · exact World.cell?_of_block (hoth b hbg)
  have hX : Ext w0.heap.size w g w' g' (LostAt lost dst) := by
    refine ⟨fun b o h => ⟨.inl h, hcold b o (fun hb => ?_)⟩, fun b o hb => hcold b o (fun h => by omega), fun _ _ h => h, fun p b a' c' hp ho' => ?_⟩
    · subst hb
      rcases Nat.lt_or_ge o (L.length * sz) with h1 | h1
      · exact h1
      · exact absurd h (o5 o h1)
    · obtain ⟨h1, h2, h3, ⟨cur', ty, h4, h4'⟩, h5⟩ := ho'
      have hbg : b ≠ gg := by
        rintro rfl
        rw [o1] at h1
        cases h1
        exact hp ⟨i0, 0, rfl, .inl hl⟩
      refine ⟨?_, h2, h3, ⟨cur', ty, (hoth b hbg).trans h4, h4'⟩, fun o ho => ?_⟩
      · show (if b = gg then (dst.map fun d => Pos.s d 0) else g.ow b) = some p
        rw [if_neg hbg]; exact h1
      · rintro (h | h)
        · exact h5 o ho h
        · exact hbg h.1
  refine ⟨g', hI.hand hH hX ⟨rfl, rfl, rfl, by simp [w', World.setRow], fun k hk => hoth k (by omega)⟩ (fun d hd => ?_) rfl (fun b hb => hoth b (fun h => o3 (h ▸ hb))) (fun b o h => ?_)⟩
  · have hlen : (L ++ M).length = L.length + M.length := List.length_append
    cases hRep with
    | slz _ _ _ ha => exact absurd rfl ha
    | sl _ _ _ _ _ vs hcap' hm hL hLf hcell hc =>
      have hrep := RepD.sl (w := w') (St := g'.St) sz (L ++ M) gg 0 cap
        (fun o => if o < L.length * sz then vs o else h (o - L.length * sz)) (by omega) (by omega) (fun x hx => (List.mem_append.1 hx).elim (hL x) (hM x)) (fun x hx => (List.mem_append.1 hx).elim (hLf x) (hMf x))
        (fun o ho' => by
          rw [hlen, Nat.add_mul] at ho'
          refine ⟨?_, .inr ⟨rfl, by rw [Nat.add_mul]; omega⟩⟩
          rw [Nat.zero_add, hget]
          split
          · rename_i h1
            have := (hcell o h1).1
            rw [Nat.zero_add, cell_of_row w gg o cur te (0, 0) hcur] at this
            exact this
          · rename_i h1
            exact hnf _ (by omega))
        (fun i x j c hx hc' => (flat_get hL hx hc' hc hh hM).mono hX.st)
      refine .v _ _ _ ?_
      have hown := RepV.own (w := w') (St := g'.St) (base := w0.heap.size) (slotO w0.heap.size w' g' d 0) sz (L ++ M) gg cap (by rw [hlen] at hrep ⊢; exact hrep) hcm ?_
      · rw [hlen] at hown; exact hown
      · refine ⟨by simp [g', hd], o2, o3, ⟨_, te, hnew, ?_⟩, fun o ho => ?_⟩
        · have hcl : cur.toList.length = cap * sz := by simpa using hcs
          rw [List.size_toArray, List.length_append, List.length_append, List.length_take, List.length_drop, hn, hcl]; omega
        · rw [hlen] at ho
          have : L.length * sz ≤ (L.length + M.length) * sz := Nat.mul_le_mul_right _ (by omega)
          rintro (h | h)
          · exact o5 o (by omega) h
          · omega
  · have hs : w'.heap.size = w.heap.size := by simp [w', World.setRow]
    rcases h with h | h
    · have := hI.st1 b o h
      exact ⟨this.1, this.2.1, by omega⟩
    · obtain ⟨rfl, _⟩ := h
      exact ⟨.inr o2, o3, by omega⟩


theorem zeroVal_of {t : TypeId} {z : List D} (h : zeroCells? P t = some z) : ∃ i zv, P.info? t = some i ∧ i.zero = some zv ∧ zv.cells.size = z.length := by
  unfold zeroCells? at h
  split at h
  · rename_i i hi
    split at h
    · rename_i zv hz
      exact ⟨i, zv, hi, hz, by have := (ofScals_rep (w := default) (St := fun _ _ => False) h).1; simpa using this.symm⟩
    · cases h
  · cases h

theorem zeroCells_list (z : Array Value) (n : Nat) : ∃ l : List Value, Builtin.zeroCells z n = l.toArray ∧ l.length = n * z.size := by
  refine ⟨(Builtin.zeroCells z n).toList, by simp, by simp [size_zeroCells]⟩

/-- THE APPEND -/
theorem append_step (hI : Inv gl w0 St0 e a w g) {slots : List Slot} {lost : Nat → Prop} {dst : Option Nat} (hH : Hands e slots lost dst) {t ty e' : TypeId} {i : TypeInfo} {zv : Value} {sz : Nat}
    (ht : P.underlying t = some (.slice e')) (hi : P.info? e' = some i) (hz : i.zero = some zv) (hsz : i.size = sz) (hzs : zv.cells.size = sz) (hsz0 : 0 < sz)
    {sx sy : SV} {vx vy : Value} {O Oy : Nat → Nat → Nat → Prop} (rx : RepV w g.St w0.heap.size O sx vx) (ry : RepV w g.St w0.heap.size Oy sy vy)
    (hO : ∀ b a' c, O b a' c → ∃ i0, OwnAt w0.heap.size w g (.s i0 0) b a' c ∧ lost i0) {r : SV} {n : Nat} (h : appV sz sx sy = some (r, n)) (hb : n * i.bytes ≤ 140737488355328) (hby : 0 < i.bytes) :
    ∃ v w' g', (Builtin.append_ #[t, t] ty #[vx, vy]).run P w = .ok v w' ∧ Inv gl w0 St0 ⟨putSlot slots dst (.v r), e.boxes⟩ (a.put dst v) w' g' := by
  subst hsz
  unfold appV at h
  split at h
  · cases h
  · rename_i M hM
    have hy := elems_cells hM ry
    have hylen : M = [] → vy = .slice none 0 0 ∨ ∃ ad c, vy = .slice (some ad) 0 c := by
      intro hm
      subst hm
      rcases hy with ⟨h, _⟩ | ⟨b, off, cap, vs, h, _⟩
      · exact h
      · exact .inr ⟨_, _, h⟩
    -- nothing appended
    have same : ∀ (base : Option Addr) (m cap : Nat), M = [] → m ≤ cap → vx = .slice base m cap → ∀ (r : SV) (g' : Gh), Ext w0.heap.size w g w g' (LostAt lost dst) → g'.bx = g.bx → g'.St = g.St →
        (∀ d, dst = some d → RepV w g'.St w0.heap.size (slotO w0.heap.size w g' d 0) r vx) →
        ∃ v w' g', (Builtin.append_ #[t, t] ty #[vx, vy]).run P w = .ok v w' ∧ Inv gl w0 St0 ⟨putSlot slots dst (.v r), e.boxes⟩ (a.put dst v) w' g' := by
      intro base m cap hm hle hv r g' hX hbx hst hr
      refine ⟨vx, w, g', by rw [hv]; exact append_same_run ht hi base m cap hle (hylen hm), hI.hand hH hX (Below.refl _ _) (fun d hd => .v _ _ _ (hr d hd)) hbx (fun _ _ => rfl) (fun b o h => ?_)⟩
      rw [hst] at h
      exact hI.st1 b o h
    -- a new row
    have grow : ∀ (L : List D) (ad : Addr) (cap : Nat), M ≠ [] → vx = .slice (some ad) L.length cap → RepD w g.St (.sl .ro i.size L) vx → cap < L.length + M.length → (L.length + M.length) * i.bytes ≤ 140737488355328 →
        ∃ v w' g', (Builtin.append_ #[t, t] ty #[vx, vy]).run P w = .ok v w' ∧ Inv gl w0 St0 ⟨putSlot slots dst (.v (.own i.size (L ++ M))), e.boxes⟩ (a.put dst v) w' g' := by
      intro L ad cap hm hv hL hlt hbb
      rcases hy with ⟨_, h0⟩ | ⟨b, off, capy, ys, hvy, _, _, hMs, hMf, hyc, hyr⟩
      · exact absurd h0 hm
      · rw [hv] at hL
        cases hL with
        | slz _ _ _ ha =>
          obtain ⟨news, nl, nc, ng⟩ := cells_list (w := w) (n := M.length) (sz := i.size) (vs := ys) hyc
          have hm1 : (0 + M.length) * 1 ≤ (0 + M.length) * i.bytes := Nat.mul_le_mul_left _ hby
          simp only [List.length_nil] at hlt hbb
          have hmax : 0 + M.length ≤ maxLen := by simp only [maxLen]; omega
          have hrun := run_append_grow (P := P) w t ty e' i zv ht hi hz ad 0 cap [] (by simp) (by simp) ⟨b, off, none⟩ M.length capy news nl nc hlt (by omega) (growslice_fits hlt hbb)
          obtain ⟨rest, hre, hrl⟩ := zeroCells_list zv.cells (grownCap w (0 + M.length) cap e' - (0 + M.length))
          rw [hre] at hrun
          have hge := grownCap_ge w (0 + M.length) cap e'
          obtain ⟨g', hg'⟩ := hI.grow hH (sz := i.size) (L := []) (M := M) (cap := grownCap w (0 + M.length) cap e') (te := e') (olds := []) (news := news) (rest := rest) (f := fun _ => .bool false) (by simp) hMs (by simp) hMf (by simp) nl (by rw [hrl, hzs]; rfl) hge
            (grownCap_le_maxLen w _ cap e' hmax) (by simp) ng (by simp) hyr
          refine ⟨_, _, g', by rw [hv, hvy]; exact hrun, ?_⟩
          simpa using hg'
        | sl _ _ bx ox _ vs hcap hmx hLs hLf hxc hxr =>
          obtain ⟨olds, ol, oc, og⟩ := cells_list (w := w) (n := L.length) (sz := i.size) (vs := vs) hxc
          obtain ⟨news, nl, nc, ng⟩ := cells_list (w := w) (n := M.length) (sz := i.size) (vs := ys) hyc
          have hm1 : (L.length + M.length) * 1 ≤ (L.length + M.length) * i.bytes := Nat.mul_le_mul_left _ hby
          have hmax : L.length + M.length ≤ maxLen := by simp only [maxLen]; omega
          have hrun := run_append_grow (P := P) w t ty e' i zv ht hi hz ⟨bx, ox, none⟩ L.length cap olds ol oc ⟨b, off, none⟩ M.length capy news nl nc hlt (by omega) (growslice_fits hlt hbb)
          obtain ⟨rest, hre, hrl⟩ := zeroCells_list zv.cells (grownCap w (L.length + M.length) cap e' - (L.length + M.length))
          rw [hre] at hrun
          have hge := grownCap_ge w (L.length + M.length) cap e'
          obtain ⟨g', hg'⟩ := hI.grow hH (sz := i.size) (L := L) (M := M) (cap := grownCap w (L.length + M.length) cap e') (te := e') (olds := olds) (news := news) (rest := rest) hLs hMs hLf hMf ol nl (by rw [hrl, hzs]) hge
            (grownCap_le_maxLen w _ cap e' hmax) og ng hxr hyr
          refine ⟨_, _, g', by rw [hv, hvy]; exact hrun, ?_⟩
          simpa using hg'
    split at h
    · -- own
      rename_i s L
      split at h
      · rename_i hs
        cases h
        subst hs
        cases rx with
        | own _ _ _ gg cap hRep hcm ho =>
          obtain ⟨i0, hOw, hl⟩ := hO _ _ _ ho
          by_cases hm : M = []
          · subst hm
            simp only [List.append_nil]
            have hcap : L.length ≤ cap := by cases hRep with | sl _ _ _ _ _ _ hcap => exact hcap | slz _ _ _ ha => exact absurd rfl ha
            cases dst with
            | none =>
              refine same _ _ _ rfl hcap rfl _ g ⟨fun _ _ h => ⟨h, rfl⟩, fun _ _ _ => rfl, fun _ _ h => h, fun _ _ _ _ _ h => h⟩ rfl rfl (fun d hd => by cases hd)
            | some d =>
              refine same _ _ _ rfl hcap rfl _ (g.mv gg (.s d 0)) (Ext.mv hOw hl _ _) rfl rfl (fun d' hd => ?_)
              cases hd
              refine .own _ i.size L gg cap hRep hcm ?_
              obtain ⟨_, h2, h3, h4, h5⟩ := hOw
              exact ⟨by simp [Gh.mv], h2, h3, h4, h5⟩
          · by_cases hroom : L.length + M.length ≤ cap
            · rcases hy with ⟨_, h0⟩ | ⟨b, off, capy, ys, hvy, _, _, hMs, hMf, hyc, hyr⟩
              · exact absurd h0 hm
              · obtain ⟨news, nl, nc, ng⟩ := cells_list (w := w) (n := M.length) (sz := i.size) (vs := ys) hyc
                have hOw' := hOw
                obtain ⟨_, _, _, ⟨cur, te, hcur, hcs⟩, _⟩ := hOw'
                have hn1 : ∀ u ∈ news, u.oneCell' = true := by
                  intro u hu
                  obtain ⟨j, hj⟩ := List.mem_iff_getElem?.1 hu
                  have hjl : j < M.length * i.size := by rw [← nl]; exact (List.getElem?_eq_some_iff.1 hj).1
                  rw [ng j hjl] at hj
                  cases hj
                  have hq : j / i.size < M.length := Nat.div_lt_of_lt_mul (by rw [Nat.mul_comm]; exact hjl)
                  have hmod := Nat.mod_lt j hsz0
                  have hmem : M[j / i.size] ∈ M := List.getElem_mem hq
                  have hcl := hMs _ hmem
                  have hc : (M[j / i.size]).cells[j % i.size]? = some ((M[j / i.size]).cells[j % i.size]'(by omega)) := by simp
                  have := hyr (j / i.size) _ (j % i.size) _ (List.getElem?_eq_getElem hq) hc
                  rw [Nat.mul_comm, Nat.div_add_mod] at this
                  exact this.oneCell (hMf _ hmem _ (List.getElem_mem _))
                have hfit : L.length * i.size + news.length ≤ cur.size := by rw [nl, hcs, ← Nat.add_mul]; exact Nat.mul_le_mul_right _ hroom
                have hrun := append_room_run (P := P) (w := w) (ty := ty) ht hi hcur (ad := ⟨b, off, none⟩) (m := M.length) (c := capy) news nl nc hn1 hroom hfit
                obtain ⟨g', hg'⟩ := hI.room hH hOw hl hRep hcur hcs hMs hMf nl hroom hcm ng hyr
                exact ⟨_, _, g', by rw [hvy]; exact hrun, hg'⟩
            · exact grow L ⟨gg, 0, none⟩ cap hm rfl hRep (by omega) hb
      · cases h
    · -- full
      rename_i s L
      split at h
      · rename_i hs
        subst hs
        cases rx with
        | full _ _ _ ad hRep =>
          split at h
          · rename_i hm
            cases h
            exact same _ _ _ hm (Nat.le_refl _) rfl _ g ⟨fun _ _ h => ⟨h, rfl⟩, fun _ _ _ => rfl, fun _ _ h => h, fun _ _ _ _ _ h => h⟩ rfl rfl (fun d hd => .full _ i.size L ad hRep)
          · rename_i hm
            cases h
            have : 0 < M.length := List.length_pos_iff.2 hm
            exact grow L ad L.length hm rfl hRep (by omega) hb
      · cases h
    · -- nil
      have hd := rx.data
      split at h
      · rename_i hm
        cases h
        cases hd
        exact same none 0 0 hm (Nat.le_refl _) rfl _ g ⟨fun _ _ h => ⟨h, rfl⟩, fun _ _ _ => rfl, fun _ _ h => h, fun _ _ _ _ _ h => h⟩ rfl rfl (fun d hd => .d _ _ _ (.nilsl _))
      · rename_i hm
        cases h
        cases hd
        rcases hy with ⟨_, h0⟩ | ⟨b, off, capy, ys, hvy, _, _, hMs, hMf, hyc, hyr⟩
        · exact absurd h0 hm
        · obtain ⟨news, nl, nc, ng⟩ := cells_list (w := w) (n := M.length) (sz := i.size) (vs := ys) hyc
          have h0 : 0 < M.length := List.length_pos_iff.2 hm
          have hm1 : M.length * 1 ≤ M.length * i.bytes := Nat.mul_le_mul_left _ hby
          have hmax : M.length ≤ maxLen := by simp only [maxLen]; omega
          have hrun := run_append_nil (P := P) w t ty e' i zv ht hi hz ⟨b, off, none⟩ M.length capy news nl nc h0 (by omega) (by omega)
          obtain ⟨rest, hre, hrl⟩ := zeroCells_list zv.cells (grownCap w M.length 0 e' - M.length)
          rw [hre] at hrun
          have hge := grownCap_ge w M.length 0 e'
          obtain ⟨g', hg'⟩ := hI.grow hH (sz := i.size) (L := []) (M := M) (cap := grownCap w M.length 0 e') (te := e') (olds := []) (news := news) (rest := rest) (by simp) hMs (by simp) hMf (by simp) nl (by rw [hrl, hzs]; simp) (by simpa using hge)
            (grownCap_le_maxLen w _ 0 e' hmax) (f := fun _ => undef) (by simp) ng (by simp) hyr
          refine ⟨_, _, g', by rw [hvy]; exact hrun, ?_⟩
          simpa using hg'
    · cases h

end
end Go.Proofs.YtcnnhnjcnekhcaaGreat.Ab
/-
  THE ABSTRACT WALK: calls; the least and the greatest of integers.
-/
namespace Go.Proofs.YtcnnhnjcnekhcaaGreat.Ab
open Go Go.RowKit

section
variable {P : Program} {gl : Nat → Option D} {w0 : World} {St0 : Nat → Nat → Prop} {e : Env} {a : Act} {w : World} {g : Gh}

/-- memory that stays as it is while a callee runs: all that stays, and the variables, which nobody else writes -/
theorem snapList_get (f : Slot → SV) : ∀ (l : List Slot), (snapList f l).length = l.length ∧ ∀ (i : Nat), (snapList f l)[i]? = (l[i]?).map f
  | [] => ⟨rfl, fun i => by simp [snapList]⟩
  | s :: l => by
    obtain ⟨h1, h2⟩ := snapList_get f l
    refine ⟨by simp [snapList, h1], fun i => ?_⟩
    cases i with
    | zero => rfl
    | succ i => simp only [snapList, List.getElem?_cons_succ]; exact h2 i

theorem RepV.base_mono {St : Nat → Nat → Prop} {base base' : Nat} (hb : base ≤ base') {O : Nat → Nat → Nat → Prop} {y : SV} {v : Value} (h : RepV w St base O y v) : RepV w St base' O y v := by
  induction h with
  | d O x v hd => exact .d O x v hd
  | own O sz L gg cap hd hcap ho => exact .own O sz L gg cap hd hcap ho
  | full O sz L ad hd => exact .full O sz L ad hd
  | ref O cs off b o vs hb' hcell _ ih => exact .ref O cs off b o vs (Nat.lt_of_lt_of_le hb' hb) hcell ih
  | dptr O x off b o vs hf hcell hc => exact .dptr O x off b o vs hf hcell hc
  | clo O f first cap fv cv h1 h2 _ _ ih1 ih2 => exact .clo O f first cap fv cv h1 h2 ih1 ih2
  | undef O v => exact .undef O v

theorem snap_rep (hI : Inv gl w0 St0 e a w g) : ∀ (n : Nat) {O : Nat → Nat → Nat → Nat → Prop} {s : Slot} {v : Value}, RepS w0.heap.size w g O s v → RepV w g.St w.heap.size (fun _ _ _ => False) (snap e.boxes n s) v := by
  have up : ∀ {O x v}, RepV w g.St w0.heap.size O x v → RepV w g.St w.heap.size (fun _ _ _ => False) (demote x) v := by
    intro O x v h
    exact (h.demote (O' := fun _ _ _ => False)).base_mono hI.below.size
  intro n
  induction n with
  | zero => intro O s v _; exact .undef _ _
  | succ n ih =>
    intro O s v h
    cases h with
    | v _ x _ h => simp only [snap]; exact up h
    | p _ b off blk hb =>
      simp only [snap]
      split
      · rename_i cs hcs
        obtain ⟨h0, c, t, hc, hone, hlen, hrep⟩ := hI.boxes b _ blk hcs hb
        have hbl := (hI.bxlt blk (List.mem_of_getElem? hb)).2
        have := RepV.ref (w := w) (St := g.St) (base := w.heap.size) (fun _ _ _ => False) (cs.map demote) off blk 0 (fun i => c.getD i undef) hbl
          (fun i hi => by
            have hi' : i < c.size := by rw [← hlen]; simpa using hi
            rw [cell_of_row w blk (0 + i) c t (0, 0) hc]
            simp [hi']
            exact hone _ (Array.getElem_mem hi'))
          (fun i x hx => by
            simp only [List.getElem?_map, Option.map_eq_some_iff] at hx
            obtain ⟨y, hy, rfl⟩ := hx
            have hi' : i < c.size := by rw [← hlen]; exact (List.getElem?_eq_some_iff.1 hy).1
            have h1 := hrep i y c[i] hy (by simp)
            have h2 := up h1
            simpa [hi'] using h2)
        simpa using this
      · rename_i s' hs'
        obtain ⟨h0, c, t, hc, hone, hlen, hrep⟩ := hI.boxes b _ blk hs' hb
        have hbl := (hI.bxlt blk (List.mem_of_getElem? hb)).2
        have hc0 : c[0]? = some (c[0]'(by omega)) := by simp
        have := RepV.ref (w := w) (St := g.St) (base := w.heap.size) (fun _ _ _ => False) [snap e.boxes n s'] off blk 0 (fun i => c.getD i undef) hbl
          (fun i hi => by
            simp at hi; subst hi
            rw [cell_of_row w blk (0 + 0) c t (0, 0) hc]
            simp [hlen]
            exact hone _ (Array.getElem_mem (by omega)))
          (fun i x hx => by
            cases i with
            | succ i => simp at hx
            | zero =>
              simp at hx; subst hx
              have := ih (hrep _ hc0)
              simpa [hlen] using this)
        simpa using this
      · exact .undef _ _
    | c _ f first cap fv cv hf hc rf rc =>
      simp only [snap]
      obtain ⟨l1, g1⟩ := snapList_get (snap e.boxes n) first
      obtain ⟨l2, g2⟩ := snapList_get (snap e.boxes n) cap
      refine .clo _ f _ _ fv cv (l1.trans hf) (l2.trans hc) (fun i x v hx hv => ?_) (fun i x v hx hv => ?_)
      · rw [g1, Option.map_eq_some_iff] at hx
        obtain ⟨y, hy, rfl⟩ := hx
        exact ih (rf i y v hy hv)
      · rw [g2, Option.map_eq_some_iff] at hx
        obtain ⟨y, hy, rfl⟩ := hx
        exact ih (rc i y v hy hv)
    | t _ xs vs _ _ => simp only [snap]; exact .undef _ _


theorem argsOf_get (bxs : List Box) (ρ : Operand → Slot) : ∀ (l : List Operand), (argsOf bxs ρ l).length = l.length ∧ ∀ (i : Nat), (argsOf bxs ρ l)[i]? = (l[i]?).map fun x => snap bxs 6 (ρ x)
  | [] => ⟨rfl, fun i => by simp [argsOf]⟩
  | s :: l => by
    obtain ⟨h1, h2⟩ := argsOf_get bxs ρ l
    refine ⟨by simp [argsOf, h1], fun i => ?_⟩
    cases i with
    | zero => rfl
    | succ i => simp only [argsOf, List.getElem?_cons_succ]; exact h2 i

/-- arguments that stand for what a callee is handed -/
def RepArgs (w : World) (St : Nat → Nat → Prop) (args : List SV) (vs : Array Value) : Prop :=
  args.length = vs.size ∧ ∀ (i : Nat) x v, args[i]? = some x → vs[i]? = some v → RepV w St w.heap.size (fun _ _ _ => False) x v

theorem RepArgs.append {St : Nat → Nat → Prop} {xs ys : List SV} {us vs : Array Value} (h : RepArgs w St xs us) (k : RepArgs w St ys vs) : RepArgs w St (xs ++ ys) (us ++ vs) := by
  refine ⟨by simp [h.1, k.1], fun i x v hx hv => ?_⟩
  rw [List.getElem?_append] at hx
  rw [Array.getElem?_append] at hv
  split at hx
  · rename_i hi
    rw [if_pos (by rw [← h.1]; exact hi)] at hv
    exact h.2 i x v hx hv
  · rename_i hi
    rw [if_neg (by rw [← h.1]; exact hi), ← h.1] at hv
    exact k.2 _ x v hx hv

theorem args_rep (hI : Inv gl w0 St0 e a w g) (l : Array Operand) : RepArgs w g.St (argsOf e.boxes (fun x => (Ab.opnd gl e x).demote) l.toList) (l.map a.eval) := by
  obtain ⟨h1, h2⟩ := argsOf_get e.boxes (fun x => (Ab.opnd gl e x).demote) l.toList
  refine ⟨by rw [h1]; simp, fun i x v hx hv => ?_⟩
  rw [h2, Option.map_eq_some_iff] at hx
  obtain ⟨y, hy, rfl⟩ := hx
  rw [Array.getElem?_toList] at hy
  simp only [Array.getElem?_map, hy, Option.map_some, Option.some.injEq] at hv
  subst hv
  exact snap_rep hI 6 (hI.opnd y)

theorem snapList_rep (hI : Inv gl w0 St0 e a w g) {l : List Slot} {vs : Array Value} (hl : l.length = vs.size) (h : ∀ (i : Nat) x v, l[i]? = some x → vs[i]? = some v → RepS w0.heap.size w g (fun _ _ _ _ => False) x v) :
    RepArgs w g.St (snapList (snap e.boxes 6) l) vs := by
  obtain ⟨h1, h2⟩ := snapList_get (snap e.boxes 6) l
  refine ⟨h1.trans hl, fun i x v hx hv => ?_⟩
  rw [h2, Option.map_eq_some_iff] at hx
  obtain ⟨y, hy, rfl⟩ := hx
  exact snap_rep hI 6 (h i y v hy hv)

/-- behind a call -/
theorem Inv.called (hI : Inv gl w0 St0 e a w g) {w' : World} {St' : Nat → Nat → Prop} {ow : Nat → Option Nat} (hb : Below w.heap.size w w') (h1 : ∀ b o, g.St b o → St' b o)
    (h2 : ∀ b o, St' b o → g.St b o ∨ (w.heap.size ≤ b ∧ b < w'.heap.size)) (dst : Option Nat) {s : Slot} {v : Value}
    (hs : ∀ g' : Gh, g'.St = St' → (∀ d, dst = some d → ∀ j b a c, ResO w.heap.size w' St' ow j b a c → OwnAt w0.heap.size w' g' (.s d j) b a c) → ∀ d, dst = some d → RepS w0.heap.size w' g' (slotO w0.heap.size w' g' d) s v) :
    ∃ g', Inv gl w0 St0 ⟨putSlot e.slots dst s, e.boxes⟩ (a.put dst v) w' g' := by
  have hle : w0.heap.size ≤ w.heap.size := hI.below.size
  let g' : Gh := { St := St', bx := g.bx, ow := fun b => if w.heap.size ≤ b then (ow b).bind fun j => dst.map fun d => Pos.s d j else g.ow b }
  refine ⟨g', hI.step0 (g' := g') ⟨fun b o h => ⟨h1 b o h, World.cell?_of_block (hb.block b (hI.stlt h))⟩, fun b o h => World.cell?_of_block (hb.block b (by omega)), fun _ _ h => h, fun p b a' c _ ho => ?_⟩ hb (hs g' rfl (fun d hd j b a c hr => ?_)) rfl h2⟩
  · have hlt := ho.lt
    obtain ⟨o1, o2, o3, ⟨cur, te, o4, o4'⟩, o5⟩ := ho
    refine ⟨?_, o2, o3, ⟨cur, te, (hb.block b hlt).trans o4, o4'⟩, fun o ho' hst => ?_⟩
    · show (if w.heap.size ≤ b then (ow b).bind fun j => dst.map fun d => Pos.s d j else g.ow b) = some p
      rw [if_neg (by omega)]; exact o1
    · rcases h2 b o hst with h | h
      · exact o5 o ho' h
      · omega
  · obtain ⟨r1, r2, r3, r4⟩ := hr
    refine ⟨?_, by omega, fun hm => by have := (hI.bxlt b hm).2; omega, r3, r4⟩
    show (if w.heap.size ≤ b then (ow b).bind fun j => dst.map fun d => Pos.s d j else g.ow b) = _
    rw [if_pos r2, r1, hd]
    rfl

theorem exN_iff : ∀ {n : Nat} {k : List SV → Prop}, exN n k → ∃ rs, rs.length = n ∧ k rs
  | 0, _, h => ⟨[], rfl, h⟩
  | n + 1, _, h => by
    obtain ⟨r, h⟩ := h
    obtain ⟨rs, hl, h⟩ := exN_iff h
    exact ⟨r :: rs, by simp [hl], h⟩

theorem goes_callK (hI : Inv gl w0 St0 e a w g) {o : Oper} {n : Nat} {k : Slot → List Box → Prop} {f : FuncId} {args : List SV} {vs : Array Value} (hr : RepArgs w g.St args vs)
    (hrun : Enters P f → (execOp a.eval o).run P w = .ok (.enter f vs) w) (h : callK (Holds P gl) n e.boxes k f args) : Goes P gl w0 St0 e.slots o a w k := by
  intro next Q hn
  have go : ∀ (r : SV) (s : Slot), Holds P gl f args r → (∀ (w' : World) (v : Value) (St' : Nat → Nat → Prop) (ow : Nat → Option Nat), RepRes w.heap.size w' St' ow r v → ∀ g' : Gh, g'.St = St' →
      ∀ d, (∀ j b a c, ResO w.heap.size w' St' ow j b a c → OwnAt w0.heap.size w' g' (.s d j) b a c) → RepS w0.heap.size w' g' (slotO w0.heap.size w' g' d) s v) → k s e.boxes → o.wp P a w next Q := by
    intro r s hH hrep hk
    obtain ⟨hE, hH⟩ := hH
    unfold Oper.wp
    rw [hrun hE]
    refine (hH w g.St vs (fun b o h => hI.stlt h) hI.glob hr.1 hr.2).mono fun en w' ⟨v, he, hb, St', ow, h1, h2, h3⟩ => ?_
    subst he
    obtain ⟨g', hg'⟩ := hI.called hb h1 h2 o.dst (s := s) (v := v) (fun g' hgs hO d hd => hrep w' v St' ow h3 g' hgs d (hO d hd))
    exact hn s v e.boxes w' g' hg' hk
  unfold callK at h
  split at h
  · obtain ⟨r, hH, ht, hk⟩ := h
    refine go r (.v r) hH (fun w' v St' ow h3 g' hgs d hO => .v _ _ _ ?_) hk
    have h3' : RepV w' St' 0 (ResO w.heap.size w' St' ow 0) r v := by
      cases r <;> first | exact h3 | simp [isTup] at ht
    have := (h3'.base_mono (Nat.zero_le w0.heap.size))
    rw [← hgs] at this
    exact this.mono (fun _ _ h => ⟨h, rfl⟩) (fun _ _ _ => rfl) _ (fun b a c h => hO 0 b a c (by rw [hgs] at h; exact h))
  · obtain ⟨rs, hlen, hH, hk⟩ := exN_iff h
    refine go (.tup rs) (.t rs) hH (fun w' v St' ow h3 g' hgs d hO => ?_) hk
    obtain ⟨tv, rfl, hl, hc⟩ := h3
    refine .t _ rs tv hl fun j x y hx hy => ?_
    have := ((hc j x y hx hy).base_mono (Nat.zero_le w0.heap.size))
    rw [← hgs] at this
    exact this.mono (fun _ _ h => ⟨h, rfl⟩) (fun _ _ _ => rfl) _ (fun b a c h => hO j b a c (by rw [hgs] at h; exact h))

theorem goes_call (hI : Inv gl w0 St0 e a w g) {o : Oper} {c : Call} (ho : o.op = .call c) {f : Operand} (hc : c.callee = .value f) {n : Nat} {k : Slot → List Box → Prop}
    (h : match (Ab.opnd gl e f).demote with
      | .v x => withFn x (argsOf e.boxes (fun x => (Ab.opnd gl e x).demote) c.args.toList) (callK (Holds P gl) n e.boxes k)
      | .c (.func g') first cap => callK (Holds P gl) n e.boxes k g' (snapList (snap e.boxes 6) first ++ argsOf e.boxes (fun x => (Ab.opnd gl e x).demote) c.args.toList ++ snapList (snap e.boxes 6) cap)
      | _ => False) : Goes P gl w0 St0 e.slots o a w k := by
  have hargs := args_rep hI c.args
  have hrun : ∀ {f' : FuncId} {first cap : Array Value}, a.eval f = .func (.func f') first cap → Enters P f' → (execOp a.eval o).run P w = .ok (.enter f' (first ++ c.args.map a.eval ++ cap)) w := by
    intro f' first cap hv hE
    simp [execOp, ho, resolve, hc, hv, Deferred.ofValue, invoke, hE _ w]
  split at h
  · rename_i x hx
    have hf := hI.opV hx
    unfold withFn at h
    split at h
    · rename_i f'
      have hv : a.eval f = .func (.func f') #[] #[] := by
        have := hf.data
        generalize a.eval f = u at this
        cases this; rfl
      refine goes_callK hI hargs (fun hE => ?_) h
      rw [hrun hv hE]; simp
    · rename_i f' first cap
      generalize hv : a.eval f = u at hf
      cases hf with
      | clo _ _ _ _ fv cv hl1 hl2 rf rc =>
        have up : ∀ {xs : List SV} {vs : Array Value}, xs.length = vs.size → (∀ (i : Nat) x v, xs[i]? = some x → vs[i]? = some v → RepV w g.St w0.heap.size (fun _ _ _ => False) x v) → RepArgs w g.St xs vs :=
          fun hl hr => ⟨hl, fun i x v hx hv => (hr i x v hx hv).base_mono hI.below.size⟩
        exact goes_callK hI (((up hl1 rf).append hargs).append (up hl2 rc)) (fun hE => hrun hv hE) h
    · exact h.elim
  · rename_i f' first cap hs
    have hf := hI.opS hs
    generalize hv : a.eval f = u at hf
    cases hf with
    | c _ _ _ _ fv cv hl1 hl2 rf rc => exact goes_callK hI (((snapList_rep hI hl1 rf).append hargs).append (snapList_rep hI hl2 rc)) (fun hE => hrun hv hE) h
  · exact h.elim

theorem meth_run {t : TypeId} {name : String} {f : FuncId} (h : meth? P t name = some f) (fuel : Nat) (v : Value) : (Go.method (fuel + 1) t v name).run P w = .ok (f, v) w := by
  unfold meth? at h
  split at h
  · rename_i i hi
    split at h
    · rename_i m hm
      split at h
      · rename_i f' hp hf
        have hpath : m.path = #[] := by
          have : m.path.toList = [] := hp
          exact Array.toList_eq_nil_iff.mp this
        split at h
        · cases h
        · rename_i u hu1 hu
          cases h
          have hu' : (underlying t).run P w = .ok u w := run_underlying hu w
          have hti : (typeInfo t).run P w = .ok i w := by simp [typeInfo, go_sem, hi]
          have hfo : (follow ([] : List FieldStep) t (.val v)).run P w = .ok (t, .val v) w := by simp [follow]
          have hre : ∀ s, (receiverAt t (.val v) false s).run P w = .ok v w := by
            intro s
            unfold receiverAt
            simp only [Sem.run_bind, hu', Result.andThen_ok]
            cases u <;> first | exact (hu1 _ rfl).elim | simp [Place.get]
          unfold Go.method
          simp only [Sem.run_bind, hti, Result.andThen_ok, hm, hp, hfo, hf, hre, Sem.run_pure]
        · cases h
      · cases h
    · cases h
  · cases h

theorem goes_invoke (hI : Inv gl w0 St0 e a w g) {o : Oper} {c : Call} (ho : o.op = .call c) {f : Operand} {name : String} (hc : c.callee = .invoke f name) {n : Nat} {k : Slot → List Box → Prop}
    (h : match (Ab.opnd gl e f).demote with
      | .v x => withMeth P x name (argsOf e.boxes (fun x => (Ab.opnd gl e x).demote) c.args.toList) (callK (Holds P gl) n e.boxes k)
      | _ => False) : Goes P gl w0 St0 e.slots o a w k := by
  have hargs := args_rep hI c.args
  split at h
  · rename_i x hx
    have hf := hI.opV hx
    unfold withMeth at h
    split at h
    · rename_i t y
      obtain ⟨f', hf', h⟩ := bindO_some h
      have hd := hf.data
      generalize hv : a.eval f = u at hd
      cases hd with
      | iface _ _ v hy =>
        have hr : RepArgs w g.St (.d y :: argsOf e.boxes (fun x => (Ab.opnd gl e x).demote) c.args.toList) (#[v] ++ c.args.map a.eval) := by
          have h1 : RepArgs w g.St [SV.d y] #[v] := ⟨rfl, fun i x v' hx hv' => by
            cases i with
            | zero => simp at hx hv'; subst hx hv'; exact .d _ _ _ hy
            | succ i => simp at hx⟩
          exact h1.append hargs
        refine goes_callK hI hr (fun hE => ?_) h
        have hmr := meth_run (P := P) (w := w) hf' (P.types.size + 99) v
        have hcall := hE (#[v] ++ c.args.map a.eval) w
        have h3 : (callMethod (.iface t v) name (c.args.map a.eval)).run P w = .ok (.enter f' (#[v] ++ c.args.map a.eval)) w := by
          unfold callMethod
          simp only [Sem.run_bind, run_program, Result.andThen_ok, Made.depth]
          rw [hmr]
          simp only [Result.andThen_ok]
          exact hcall
        have e2 : ∀ l : Array Value, (#[Value.iface t v] ++ l)[0]? = some (.iface t v) := fun l => by simp [Array.getElem?_append]
        have e3 : ∀ l : Array Value, (#[Value.iface t v] ++ l).extract 1 (#[Value.iface t v] ++ l).size = l := fun l => by
          apply Array.ext'
          simp [List.take_of_length_le]
        have h4 : (invoke (.fn (.method name) #[]) (#[.iface t v] ++ c.args.map a.eval)).run P w = .ok (.enter f' (#[v] ++ c.args.map a.eval)) w := by
          unfold invoke
          simp only [e2, e3]
          exact h3
        simp only [execOp, ho, resolve, hc, hv, Sem.run_bind, Sem.run_pure, Result.andThen_ok]
        exact h4
    · exact h.elim
  · exact h.elim

theorem foldInt_run (f : Int → Int → Int) (op : Value → Value → Sem Value) (hop : ∀ k a b, op (.int k a) (.int k b) = pure (.int k (f a b))) (hf : ∀ a b, f a b = a ∨ f a b = b) :
    ∀ (l : List SV) (vs : List Value) (x : SV) (vx : Value) (r : SV), foldIntV f x l = some r → RepV w g.St w0.heap.size (fun _ _ _ => False) x vx → l.length = vs.length →
      (∀ (i : Nat) y v, l[i]? = some y → vs[i]? = some v → RepV w g.St w0.heap.size (fun _ _ _ => False) y v) →
      ∃ v, (vs.foldlM op vx).run P w = .ok v w ∧ RepV w g.St w0.heap.size (fun _ _ _ => False) r v
  | [], [], x, vx, r, h, hx, _, _ => by
    unfold foldIntV at h
    split at h
    · cases h; exact ⟨vx, rfl, hx⟩
    · rename_i heq; cases heq
    · cases h
  | y :: l, v :: vs, x, vx, r, h, hx, hl, hr => by
    unfold foldIntV at h
    split at h
    · rename_i heq; cases heq
    · rename_i k n k' n' l' heq
      cases heq
      split at h
      · rename_i hk
        subst hk
        have hy := hr 0 _ v rfl rfl
        obtain ⟨ex, wx⟩ := hx.data.int_inv
        obtain ⟨ey, wy⟩ := hy.data.int_inv
        rw [ex, ey]
        have hw : wfI k (f n n') = true := by rcases hf n n' with h | h <;> rw [h] <;> assumption
        obtain ⟨u, hu, hr'⟩ := foldInt_run f op hop hf l vs _ (.int k (f n n')) r h (.d _ _ _ (.int _ _ hw)) (by simpa using hl) (fun i y u h1 h2 => hr (i + 1) y u (by simpa using h1) (by simpa using h2))
        refine ⟨u, ?_, hr'⟩
        rw [List.foldlM_cons, hop]
        exact hu
      · cases h
    · cases h
  | [], _ :: _, _, _, _, _, _, h, _ => by simp at h
  | _ :: _, [], _, _, _, _, _, h, _ => by simp at h

theorem goes_min (hI : Inv gl w0 St0 e a w g) {o : Oper} {c : Call} (ho : o.op = .call c) {b : Builtin} (hc : c.callee = .builtin b) {x : Operand} {xs : List Operand} (hx : c.args.toList = x :: xs) {f : Int → Int → Int}
    (hb : (b = .min ∧ f = minD) ∨ (b = .max ∧ f = maxD)) {k : Slot → List Box → Prop}
    (h : bindO (foldIntV f ((Ab.opnd gl e x).demote).toSV (xs.map fun y => ((Ab.opnd gl e y).demote).toSV)) fun r => k (.v r) e.boxes) : Goes P gl w0 St0 e.slots o a w k := by
  obtain ⟨r, hr, hk⟩ := bindO_some h
  have hargs : (c.args.map a.eval).toList = a.eval x :: xs.map a.eval := by rw [Array.toList_map, hx]; rfl
  have hreps : ∀ (i : Nat) y v, (xs.map fun y => ((Ab.opnd gl e y).demote).toSV)[i]? = some y → (xs.map a.eval)[i]? = some v → RepV w g.St w0.heap.size (fun _ _ _ => False) y v := by
    intro i y v hy hv
    simp only [List.getElem?_map, Option.map_eq_some_iff] at hy hv
    obtain ⟨z, hz, rfl⟩ := hy
    obtain ⟨z', hz', rfl⟩ := hv
    rw [hz] at hz'; cases hz'
    exact hI.opToSV z
  rcases hb with ⟨rfl, rfl⟩ | ⟨rfl, rfl⟩
  · obtain ⟨v, hv, hrv⟩ := foldInt_run (P := P) (w0 := w0) minD Builtin.min2 (fun k a b => rfl) (fun a b => by unfold minD; split <;> simp) _ (xs.map a.eval) _ (a.eval x) r hr (hI.opToSV x) (by simp) hreps
    refine Goes.valueV hI (v := v) ?_ hrv hk
    have e1 : Builtin.min_ c.argTypes o.type (c.args.map a.eval) = (xs.map a.eval).foldlM Builtin.min2 (a.eval x) := by unfold Builtin.min_; rw [hargs]
    simp [execOp, ho, resolve, hc, invoke, builtin, e1, hv]
  · obtain ⟨v, hv, hrv⟩ := foldInt_run (P := P) (w0 := w0) maxD Builtin.max2 (fun k a b => rfl) (fun a b => by unfold maxD; split <;> simp) _ (xs.map a.eval) _ (a.eval x) r hr (hI.opToSV x) (by simp) hreps
    refine Goes.valueV hI (v := v) ?_ hrv hk
    have e1 : Builtin.max_ c.argTypes o.type (c.args.map a.eval) = (xs.map a.eval).foldlM Builtin.max2 (a.eval x) := by unfold Builtin.max_; rw [hargs]
    simp [execOp, ho, resolve, hc, invoke, builtin, e1, hv]

end
end Go.Proofs.YtcnnhnjcnekhcaaGreat.Ab
/-
  THE ABSTRACT WALK: every operation.
-/
namespace Go.Proofs.YtcnnhnjcnekhcaaGreat.Ab
open Go Go.RowKit

section
variable {P : Program} {gl : Nat → Option D} {w0 : World} {St0 : Nat → Nat → Prop} {e : Env} {a : Act} {w : World} {g : Gh}

theorem goes_append (hI : Inv gl w0 St0 e a w g) {o : Oper} {c : Call} (ho : o.op = .call c) (hc : c.callee = .builtin .append) {slots : List Slot} {lost : Nat → Prop} (hH : Hands e slots lost o.dst)
    {x y : Operand} {t u : TypeId}
    (hx : c.args.toList = [x, y]) (ht : c.argTypes.toList = [t, u]) {sx sy : SV} {O : Nat → Nat → Nat → Prop} {Oy : Nat → Nat → Nat → Prop} (rx : RepV w g.St w0.heap.size O sx (a.eval x)) (ry : RepV w g.St w0.heap.size Oy sy (a.eval y))
    (hO : ∀ b a' c, O b a' c → ∃ i0, OwnAt w0.heap.size w g (.s i0 0) b a' c ∧ lost i0) {k : Slot → List Box → Prop}
    (h : bif Nat.beq t u then (bindO (elemOf? P t) fun e' => bindO (sizeOf? P e') fun sz => bindO (bytesOf? P e') fun by_ => bindO (zeroCells? P e') fun z =>
          bif Nat.blt 0 by_ && Nat.blt 0 sz && Nat.beq z.length sz then appP sz by_ sx sy fun r => k (.v r) e.boxes else False) else False) : Goes P gl w0 St0 slots o a w k := by
  cases htu : Nat.beq t u with
  | false => rw [htu] at h; exact h.elim
  | true =>
    have := Nat.eq_of_beq_eq_true htu
    subst this
    rw [htu] at h
    simp only [cond_true] at h
    obtain ⟨e', he, h⟩ := bindO_some h
    obtain ⟨sz, hsz, h⟩ := bindO_some h
    obtain ⟨by_, hby, h⟩ := bindO_some h
    obtain ⟨z, hz, h⟩ := bindO_some h
    cases hcc : (Nat.blt 0 by_ && Nat.blt 0 sz && Nat.beq z.length sz) with
    | false => simp only [hcc, cond_false] at h
    | true =>
      simp only [hcc, cond_true] at h
      simp only [Bool.and_eq_true] at hcc
      obtain ⟨⟨h1, h2⟩, h3⟩ := hcc
      have hb0 : 0 < by_ := Nat.lt_of_succ_le (Nat.le_of_ble_eq_true h1)
      have hs0 : 0 < sz := Nat.lt_of_succ_le (Nat.le_of_ble_eq_true h2)
      have hzl := Nat.eq_of_beq_eq_true h3
      obtain ⟨⟨r, n⟩, hr, hbd, hk⟩ := bindO_some h
      obtain ⟨i, zv, hi, hzv, hzs⟩ := zeroVal_of hz
      have hu := elemOf_run he
      have hisz : i.size = sz := by simpa [sizeOf?, hi] using hsz
      have hiby : i.bytes = by_ := by simpa [bytesOf?, hi] using hby
      intro next Q hn
      obtain ⟨v, w', g', hrun, hinv⟩ := append_step (ty := o.type) hI hH hu hi hzv hisz (by rw [hzs, hzl]) hs0 rx ry hO hr (by rw [hiby]; exact hbd) (by rw [hiby]; exact hb0)
      unfold Oper.wp
      have hargs : c.args.map a.eval = #[a.eval x, a.eval y] := by
        apply Array.toList_inj.1
        rw [Array.toList_map, hx]; rfl
      have htys : c.argTypes = #[t, t] := by apply Array.toList_inj.1; rw [ht]
      have : (execOp a.eval o).run P w = .ok (.value v) w' := by
        simp only [execOp, ho, resolve, hc, Sem.run_bind, Sem.run_pure, Result.andThen_ok, invoke, builtin, hargs, htys, hrun]
      rw [this]
      exact hn (.v r) v _ w' g' hinv hk


theorem eff_goes (hI : Inv gl w0 St0 e a w g) {id : Nat} {o : Oper} {k : Slot → List Box → Prop} (h : eff P (Holds P gl) id o (fun x => (Ab.opnd gl e x).demote) e.boxes k) : Goes P gl w0 St0 e.slots o a w k := by
  cases ho : o.op <;> simp only [eff, ho] at h
  case move x => exact Goes.value hI (by simp [execOp, ho]) (hI.opnd x) h
  case assign x => exact Goes.value hI (by simp [execOp, ho]) (hI.opnd x) h
  case pick c x y =>
    split at h
    · rename_i s hs
      obtain ⟨b, rfl, h1, h2⟩ := ifP_bool h
      have hv := (hI.opV hs).data.bool_inv
      cases b
      · exact Goes.value hI (v := a.eval y) (by simp [execOp, ho, hv, asBool]) (hI.opnd y) (h2 rfl)
      · exact Goes.value hI (v := a.eval x) (by simp [execOp, ho, hv, asBool]) (hI.opnd x) (h1 rfl)
    · exact h.elim
  case alloc t =>
    split at h
    · rename_i hid; exact goes_alloc hI ho hid h
    · exact h.elim
  case box t x =>
    split at h
    · rename_i hid; exact goes_box hI ho hid h
    · exact h.elim
  case build t ps => exact goes_build hI ho h
  case buildSlice t n ps => exact goes_buildSlice hI ho h
  case load t x =>
    obtain ⟨⟨b, n⟩, hl, h⟩ := bindO_some h
    split at h
    · rename_i bn off hs; exact goes_loadBox hI ho hl hs h
    · rename_i s hs; exact goes_loadV hI ho hl hs h
    · exact h.elim
  case store t x y =>
    obtain ⟨n, hn, h⟩ := bindO_some h
    split at h
    · rename_i bn off hs
      split at h
      · rename_i hd; exact goes_store hI ho hd hn hs h
      · exact h.elim
    · exact h.elim
  case nilCheck x => exact goes_nilCheck hI ho h
  case binOp op t x y u => exact goes_bin hI ho h
  case unOp op t x => exact goes_un hI ho h
  case convert src dst x =>
    cases hs : (P.underlying src).isSome with
    | false => rw [hs] at h; exact h.elim
    | true => rw [hs] at h; exact goes_conv hI ho hs h
  case makeInterface t x => exact goes_iface hI ho h
  case makeFunc fn first cap => exact goes_makeFunc hI ho h
  case slice t x lo hi mx => exact goes_slice hI ho h
  case fieldAddr t x f => exact goes_fieldAddr hI ho h
  case field t x f => exact goes_field hI ho h
  case indexAddr t x i => exact goes_indexAddr hI ho h
  case index t x i => exact goes_index hI ho h
  case extract x i => exact goes_extract hI ho h
  case call c =>
    split at h
    · rename_i f hc
      refine goes_call hI ho hc (n := arity P o.type) ?_
      split at h
      · rename_i s hs; simp only [hs]; exact h
      · rename_i g' first cap hs; simp only [hs]; exact h
      · exact h.elim
    · rename_i recv name hc
      refine goes_invoke hI ho hc (n := arity P o.type) ?_
      split at h
      · rename_i s hs; simp only [hs]; exact h
      · exact h.elim
    · rename_i b hc
      split at h
      · rename_i x xs t ts hx ht; exact goes_len hI ho hc hx ht h
      · rename_i x y t u hx ht
        exact goes_append hI ho hc (Hands.same e o.dst) hx ht (hI.opToSV x) (hI.opToSV y) (fun _ _ _ h => h.elim) h
      · rename_i x xs ts hx; exact goes_min hI ho hc hx (.inl ⟨rfl, rfl⟩) h
      · rename_i x xs ts hx; exact goes_min hI ho hc hx (.inr ⟨rfl, rfl⟩) h
      · exact h.elim
  all_goals exact h.elim

end
end Go.Proofs.YtcnnhnjcnekhcaaGreat.Ab
/-
  THE ABSTRACT WALK: operations that hand an owned slice on.
-/
namespace Go.Proofs.YtcnnhnjcnekhcaaGreat.Ab
open Go Go.RowKit

section
variable {P : Program} {gl : Nat → Option D} {w0 : World} {St0 : Nat → Nat → Prop} {e : Env} {a : Act} {w : World} {g : Gh}

abbrev GoesE (P : Program) (gl : Nat → Option D) (w0 : World) (St0 : Nat → Nat → Prop) (o : Oper) (a : Act) (w : World) (k : Env → Prop) : Prop :=
  ∀ (next : Act → World → Prop) (Q : Exit → Act → World → Prop),
    (∀ e' v w' g', Inv gl w0 St0 e' (a.put o.dst v) w' g' → k e' → next (a.put o.dst v) w') → o.wp P a w next Q

theorem getD_slot (hI : Inv gl w0 St0 e a w g) (t : Nat) : RepS w0.heap.size w g (slotO w0.heap.size w g t) (e.slots.getD t (.v .undef)) (a.eval (.tmp t)) := by
  simp only [Act.eval, List.getD_eq_getElem?_getD]
  cases h : e.slots[t]? with
  | none => exact .v _ _ _ (.undef _ _)
  | some s => exact hI.slots t s h

/-- all that a slot owns is another's -/
def Gh.mvS (g : Gh) (t : Nat) (q : Nat → Pos) : Gh := { g with ow := fun b => match g.ow b with
  | some (.s i j) => if i = t then some (q j) else some (.s i j)
  | x => x }

theorem mvS_own {base : Nat} {t : Nat} {q : Nat → Pos} {p : Pos} (hp : ∀ j, p ≠ .s t j) {b a0 c0 : Nat} (h : OwnAt base w g p b a0 c0) : OwnAt base w (g.mvS t q) p b a0 c0 := by
  obtain ⟨h1, h2, h3, h4, h5⟩ := h
  refine ⟨?_, h2, h3, h4, h5⟩
  simp only [Gh.mvS, h1]
  cases p with
  | s i j =>
    simp only
    rw [if_neg (fun h => hp j (by rw [h]))]
  | b i j => rfl

theorem mvS_new {base : Nat} {t : Nat} {q : Nat → Pos} {j : Nat} {b a0 c0 : Nat} (h : OwnAt base w g (.s t j) b a0 c0) : OwnAt base w (g.mvS t q) (q j) b a0 c0 := by
  obtain ⟨h1, h2, h3, h4, h5⟩ := h
  exact ⟨by simp [Gh.mvS, h1], h2, h3, h4, h5⟩

theorem Ext.mvS {base : Nat} (t : Nat) (q : Nat → Pos) (lost : Pos → Prop) (hl : ∀ j, lost (.s t j)) : Ext base w g w (g.mvS t q) lost :=
  ⟨fun _ _ h => ⟨h, rfl⟩, fun _ _ _ => rfl, fun _ _ h => h, fun _ _ _ _ hp ho => mvS_own (fun j hj => hp (by rw [hj]; exact hl j)) ho⟩

theorem hands_set (e : Env) (t : Nat) (dst : Option Nat) : Hands e (e.slots.set t (e.slots.getD t (.v .undef)).demote) (fun i => i = t) dst := by
  refine ⟨by simp, fun i x hx _ => ?_⟩
  rw [List.getElem?_set] at hx
  split at hx
  · rename_i h
    subst h
    split at hx
    · rename_i hlt
      cases hx
      refine ⟨e.slots[t], List.getElem?_eq_getElem hlt, .inr ?_⟩
      rw [List.getD_eq_getElem?_getD, List.getElem?_eq_getElem hlt]; rfl
    · cases hx
  · rename_i h
    exact ⟨x, hx, .inl ⟨rfl, fun h' => h h'.symm⟩⟩

theorem lin_move (hI : Inv gl w0 St0 e a w g) {o : Oper} {t : Nat} (hrun : (execOp a.eval o).run P w = .ok (.value (a.eval (.tmp t))) w) {k : Env → Prop}
    (h : k ⟨putSlot (e.slots.set t (e.slots.getD t (.v .undef)).demote) o.dst (e.slots.getD t (.v .undef)), e.boxes⟩) : GoesE P gl w0 St0 o a w k := by
  intro next Q hn
  unfold Oper.wp
  rw [hrun]
  refine hn _ _ _ (match o.dst with | some d => g.mvS t (fun j => .s d j) | none => g) (hI.hand (hands_set e t o.dst) ?_ (Below.refl _ _) (fun d hd => ?_) ?_ (fun _ _ => rfl) (fun b o' hst => ?_)) h
  · cases o.dst with
    | none => exact ⟨fun _ _ h => ⟨h, rfl⟩, fun _ _ _ => rfl, fun _ _ h => h, fun _ _ _ _ _ h => h⟩
    | some d => exact Ext.mvS t _ _ (fun j => ⟨t, j, rfl, .inl rfl⟩)
  · rw [hd]
    exact (getD_slot hI t).mono (fun _ _ h => ⟨h, rfl⟩) (fun _ _ _ => rfl) (fun _ _ h => h) (fun j b a' c ho => mvS_new (q := fun j => .s d j) ho)
  · cases o.dst <;> rfl
  · have : g.St b o' := by cases hd : o.dst <;> rw [hd] at hst <;> exact hst
    exact hI.st1 b o' this

theorem lin_append (hI : Inv gl w0 St0 e a w g) {o : Oper} {c : Call} (ho : o.op = .call c) (hc : c.callee = .builtin .append) {t : Nat} {y : Operand} {ty u : TypeId}
    (hx : c.args.toList = [.tmp t, y]) (ht : c.argTypes.toList = [ty, u]) {k : Env → Prop}
    (h : bif Nat.beq ty u then (bindO (elemOf? P ty) fun e' => bindO (sizeOf? P e') fun sz => bindO (bytesOf? P e') fun by_ => bindO (zeroCells? P e') fun z =>
          bif Nat.blt 0 by_ && Nat.blt 0 sz && Nat.beq z.length sz then appP sz by_ (e.slots.getD t (.v .undef)).toSV ((Ab.opnd gl e y).demote).toSV fun r =>
            k ⟨putSlot (e.slots.set t (e.slots.getD t (.v .undef)).demote) o.dst (.v r), e.boxes⟩ else False) else False) : GoesE P gl w0 St0 o a w k := by
  have hs := getD_slot hI t
  have rx : RepV w g.St w0.heap.size (slotO w0.heap.size w g t 0) (e.slots.getD t (.v .undef)).toSV (a.eval (.tmp t)) := by
    revert hs
    generalize e.slots.getD t (.v .undef) = s
    intro hs
    cases s with
    | v x => exact hs.v_inv
    | _ => exact .undef _ _
  intro next Q hn
  refine goes_append hI ho hc (hands_set e t o.dst) (lost := fun i => i = t) hx ht rx (hI.opToSV y) (fun b a' c' h => ⟨t, h, rfl⟩)
    (k := fun s bxs => k ⟨putSlot (e.slots.set t (e.slots.getD t (.v .undef)).demote) o.dst s, bxs⟩) h next Q (fun s v bxs w' g' hinv hk => hn _ v w' g' hinv hk)

theorem lin_extract (hI : Inv gl w0 St0 e a w g) {o : Oper} {t i : Nat} (ho : o.op = .extract (.tmp t) i) {vs : List SV} (hs : e.slots.getD t (.v .undef) = .t vs) {r : SV} (hr : vs[i]? = some r) {k : Env → Prop}
    (h : k ⟨putSlot (e.slots.set t (.t (vs.set i (demote r)))) o.dst (.v r), e.boxes⟩) : GoesE P gl w0 St0 o a w k := by
  have hslot := getD_slot hI t
  rw [hs] at hslot
  obtain ⟨tv, hv, hl, hc⟩ := hslot.t_inv
  have hi : i < tv.size := by rw [← hl]; exact (List.getElem?_eq_some_iff.1 hr).1
  have htl : t < e.slots.length := by
    rcases Nat.lt_or_ge t e.slots.length with h | h
    · exact h
    · rw [List.getD_eq_getElem?_getD, List.getElem?_eq_none h] at hs; cases hs
  intro next Q hn
  have hrun : (execOp a.eval o).run P w = .ok (.value tv[i]) w := by simp [execOp, ho, Instr.extract, hv, hi]
  unfold Oper.wp
  rw [hrun]
  -- the component's owner
  let g' : Gh := { g with ow := fun b => if g.ow b = some (.s t i) then o.dst.map (fun d => .s d 0) else g.ow b }
  have hX : Ext w0.heap.size w g w g' (fun p => p = .s t i ∨ ∃ d j, o.dst = some d ∧ p = .s d j) := by
    refine ⟨fun _ _ h => ⟨h, rfl⟩, fun _ _ _ => rfl, fun _ _ h => h, fun p b a' c' hp ho' => ?_⟩
    obtain ⟨h1, h2, h3, h4, h5⟩ := ho'
    refine ⟨?_, h2, h3, h4, h5⟩
    show (if g.ow b = some (.s t i) then o.dst.map (fun d => Pos.s d 0) else g.ow b) = some p
    rw [if_neg (by rw [h1]; intro h; cases h; exact hp (.inl rfl))]
    exact h1
  refine hn _ _ w g' (hI.stepG hX (Below.refl _ _) (by simp) (fun i' x hx hd => ?_) (fun d hd => ?_) hI.bxlen (fun b bx blk h1 h2 => ?_) hI.nodup hI.bxlt hI.st1) h
  · rw [List.getElem?_set] at hx
    split at hx
    · rename_i he
      subst he
      simp only [htl, ↓reduceIte, Option.some.injEq] at hx
      subst hx
      have hvt : a.tmps.getD t undef = .tuple tv := hv
      rw [hvt]
      refine .t _ _ tv (by simpa using hl) fun j x v hx hv' => ?_
      rw [List.getElem?_set] at hx
      split at hx
      · rename_i hij
        subst hij
        split at hx
        · cases hx
          exact ((hc i r v hr hv').demote (O' := fun _ _ _ => False)).mono hX.st hX.bs _ (fun _ _ _ h => h.elim)
        · cases hx
      · rename_i hij
        refine (hc j x v hx hv').mono hX.st hX.bs _ (fun b a' c' ho' => hX.own _ b a' c' ?_ ho')
        rintro (h | ⟨d, j', h1, h2⟩)
        · cases h; exact hij rfl
        · cases h2; exact hd h1
    · rename_i he
      refine hX.slot (fun j => ?_) (hI.slots i' x hx)
      rintro (h | ⟨d, j', h1, h2⟩)
      · cases h; exact he rfl
      · cases h2; exact hd h1
  · refine .v _ _ _ ((hc i r tv[i] hr (by simp)).mono hX.st hX.bs _ (fun b a' c' ho' => ?_))
    obtain ⟨h1, h2, h3, h4, h5⟩ := ho'
    refine ⟨?_, h2, h3, h4, h5⟩
    show (if g.ow b = some (.s t i) then o.dst.map (fun d => Pos.s d 0) else g.ow b) = some (.s d 0)
    rw [if_pos h1, hd]; rfl
  · refine hX.box (fun j => ?_) rfl (hI.boxes b bx blk h1 h2)
    rintro (h | ⟨d, j', h1, h2⟩)
    · cases h
    · cases h2

theorem setBoxCells (e : Env) : True := trivial

theorem lin_load (hI : Inv gl w0 St0 e a w g) {o : Oper} {ty : TypeId} {x : Operand} (ho : o.op = .load ty x) {bn off : Nat} (hs : (Ab.opnd gl e x).demote = .p bn off) {ly : Bool × Nat} (hl : lay? P ty = some ly) (hly : ly.1 = false)
    {cs : List SV} (hcs : e.boxes[bn]? = some (.cells cs)) {y : SV} (hy : cs[off]? = some y) {k : Env → Prop} (h : k ⟨putSlot e.slots o.dst (.v y), e.boxes.set bn (.cells (cs.set off (demote y)))⟩) : GoesE P gl w0 St0 o a w k := by
  obtain ⟨b0, n⟩ := ly
  simp only at hly
  subst hly
  obtain ⟨blk, hv, hblk⟩ := (hI.opS hs).p_inv
  obtain ⟨h0, c, te, hc, hone, hlen, hrep⟩ := hI.boxes bn _ blk hcs hblk
  have hoff : off < c.size := by rw [← hlen]; exact (List.getElem?_eq_some_iff.1 hy).1
  have hcell : w.cell? ⟨blk, off, none⟩ = some c[off] := by rw [cell_of_row w blk off c te (0, 0) hc]; simp [hoff]
  have hrun : (execOp a.eval o).run P w = .ok (.value c[off]) w := by
    have := loadVar_run (P := P) (w := w) hl blk off (fun _ => c[off]) (fun j hj => by simp at hj; subst hj; exact hcell)
    simp [execOp, ho, Instr.loadAt, Instr.sureAddr, hv, this]
  intro next Q hn
  unfold Oper.wp
  rw [hrun]
  let g' : Gh := { g with ow := fun b => if g.ow b = some (.b bn off) then o.dst.map (fun d => .s d 0) else g.ow b }
  refine hn _ _ w g' (hI.setBox (dst := o.dst) (slots := e.slots) (fun _ => False) (fun j => j = off) (g' := g') rfl rfl (fun p b' h1 h2 h3 h4 => ?_) hblk hone hc (fun _ _ => rfl) rfl ⟨rfl, rfl, rfl⟩ rfl
    (fun i x hx _ => ⟨x, hx, .inl ⟨rfl, fun h => h⟩⟩) (fun hX => ?_) (fun hX d hd => ?_)) h
  · show (if g.ow b' = some (.b bn off) then o.dst.map (fun d => Pos.s d 0) else g.ow b') = some p
    rw [if_neg (by rw [h4]; intro h; cases h; exact h2 off rfl rfl)]
    exact h4
  · refine ⟨by simpa using hlen, fun j x u hx hu => ?_⟩
    rw [List.getElem?_set] at hx
    split at hx
    · rename_i hj
      subst hj
      split at hx
      · cases hx
        exact ((hrep off y u hy hu).demote (O' := fun _ _ _ => False)).mono hX.st hX.bs _ (fun _ _ _ h => h.elim)
      · cases hx
    · rename_i hj
      refine (hrep j x u hx hu).mono hX.st hX.bs _ (fun b' a' c' ho' => hX.own _ b' a' c' ?_ ho')
      rintro (⟨i, j', h, _⟩ | ⟨j', h, h'⟩ | ⟨d, j', _, h⟩)
      · cases h
      · cases h; exact hj h'.symm
      · cases h
  · refine .v _ _ _ ((hrep off y c[off] hy (by simp)).mono hX.st hX.bs _ (fun b' a' c' ho' => ?_))
    obtain ⟨h1, h2, h3, h4, h5⟩ := ho'
    refine ⟨?_, h2, h3, h4, h5⟩
    show (if g.ow b' = some (.b bn off) then o.dst.map (fun d => Pos.s d 0) else g.ow b') = some (.s d 0)
    rw [if_pos h1, hd]; rfl

theorem lin_store (hI : Inv gl w0 St0 e a w g) {o : Oper} {ty : TypeId} {x : Operand} {t : Nat} (ho : o.op = .store ty x (.tmp t)) (hd : o.dst = none) {bn off : Nat} (hs : (Ab.opnd gl e x).demote = .p bn off)
    (hn1 : sizeOf? P ty = some 1) {y : SV} (hy : e.slots.getD t (.v .undef) = .v y) {cs : List SV} (hcs : e.boxes[bn]? = some (.cells cs)) {l : List SV} (hl : cellsV y = some l) (hl1 : l.length = 1) (hoff : off < cs.length)
    {k : Env → Prop} (h : k ⟨e.slots.set t (.v (demote y)), e.boxes.set bn (.cells (setAt cs off l))⟩) : GoesE P gl w0 St0 o a w k := by
  obtain ⟨blk, hv, hblk⟩ := (hI.opS hs).p_inv
  obtain ⟨h0, c, te, hc, hone, hlen, hrep⟩ := hI.boxes bn _ blk hcs hblk
  have hslot := getD_slot hI t
  rw [hy] at hslot
  obtain ⟨c1, c2, c3⟩ := hslot.v_inv.cells hl
  have hvs : (a.eval (.tmp t)).cells.size = 1 := by rw [← c1, hl1]
  have hst := storeVar_run (P := P) (w := w) hn1 hc hvs c2 (off := off) (by omega)
  have hrun : (execOp a.eval o).run P w = .ok .skip (w.setRow blk (c.toList.take off ++ (a.eval (.tmp t)).cells.toList ++ c.toList.drop (off + 1)).toArray) := by
    simp [execOp, ho, Instr.storeAt, Instr.sureAddr, hv, hst]
  intro next Q hn
  unfold Oper.wp
  rw [hrun]
  have hnew := setRow_heap w blk c (c.toList.take off ++ (a.eval (.tmp t)).cells.toList ++ c.toList.drop (off + 1)).toArray te (0, 0) hc
  let g' : Gh := g.mvS t (fun _ => .b bn off)
  have hget : ∀ j, (c.toList.take off ++ (a.eval (.tmp t)).cells.toList ++ c.toList.drop (off + 1)).toArray[j]? = if j < off then c[j]? else if j < off + 1 then (a.eval (.tmp t)).cells[j - off]? else c[j]? := by
    intro j
    have hcv : (a.eval (.tmp t)).cells.toList.length = 1 := by simpa using hvs
    have := splice_get c.toList (a.eval (.tmp t)).cells.toList off (by rw [hcv]; simp; omega) j
    rw [hcv] at this
    simp only [List.getElem?_toArray]
    rw [this]
    simp only [Array.getElem?_toList]
  have e0 : (⟨e.slots.set t (.v (demote y)), e.boxes.set bn (.cells (setAt cs off l))⟩ : Env) = ⟨putSlot (e.slots.set t (.v (demote y))) o.dst (.t []), e.boxes.set bn (.cells (setAt cs off l))⟩ := by rw [hd]; rfl
  rw [e0] at h
  refine hn _ undef _ g' (hI.setBox (dst := o.dst) (s := .t []) (slots := e.slots.set t (.v (demote y))) (fun i => i = t) (fun j => j = off) (g' := g') rfl rfl (fun p b' h1 h2 h3 h4 => ?_) hblk ?_ hnew
    (fun k hk => setRow_other w blk k _ hk) (by simp [World.setRow]) ⟨rfl, rfl, rfl⟩ (by simp) (fun i x hx _ => ?_) (fun hX => ?_) (fun hX d hd' => by rw [hd] at hd'; cases hd')) h
  · show (match g.ow b' with | some (.s i j) => if i = t then some (Pos.b bn off) else some (.s i j) | x => x) = some p
    rw [h4]
    cases p with
    | s i j => simp only; rw [if_neg (fun h => h1 i j rfl h)]
    | b i j => rfl
  · intro u hu
    simp only [List.mem_toArray, List.mem_append] at hu
    rcases hu with (hu | hu) | hu
    · exact hone u (by simpa using List.mem_of_mem_take hu)
    · exact c2 u (by simpa using hu)
    · exact hone u (by simpa using List.mem_of_mem_drop hu)
  · rw [List.getElem?_set] at hx
    split at hx
    · rename_i he
      subst he
      split at hx
      · rename_i hlt
        cases hx
        rw [List.getD_eq_getElem?_getD, List.getElem?_eq_getElem hlt] at hy
        simp only [Option.getD_some] at hy
        exact ⟨_, List.getElem?_eq_getElem hlt, .inr (by rw [hy]; rfl)⟩
      · cases hx
    · rename_i he
      exact ⟨x, hx, .inl ⟨rfl, fun h => he h.symm⟩⟩
  · rw [setAt_spec l cs off (by omega)]
    refine ⟨by simp [hlen, hvs, hl1], fun j x' u hx' hu => ?_⟩
    rw [hget] at hu
    rw [splice_get cs l off (by omega), hl1] at hx'
    have old : j ≠ off → cs[j]? = some x' → c[j]? = some u → RepV (w.setRow blk (c.toList.take off ++ (a.eval (.tmp t)).cells.toList ++ c.toList.drop (off + 1)).toArray) g'.St w0.heap.size (boxO w0.heap.size _ g' bn j) x' u := fun hj h4 h5 =>
      (hrep j x' u h4 h5).mono hX.st hX.bs _ (fun b' a' c' ho' => hX.own _ b' a' c' (by
        rintro (⟨i, j', h, _⟩ | ⟨j', h, h'⟩ | ⟨d, j', _, h⟩)
        · cases h
        · cases h; exact hj h'
        · cases h) ho')
    split at hx'
    · rename_i hj
      rw [if_pos hj] at hu
      exact old (by omega) hx' hu
    · rename_i hj
      rw [if_neg hj] at hu
      split at hx'
      · rename_i hj2
        rw [if_pos hj2] at hu
        have hj0 : j = off := by omega
        subst hj0
        refine (c3 (j - j) x' u hx' hu).mono hX.st hX.bs _ (fun b' a' c' ho' => ?_)
        have := mvS_new (q := fun _ => Pos.b bn j) ho'
        obtain ⟨h1, h2, h3, ⟨cur, ty', h4, h4'⟩, h5⟩ := this
        have hne : b' ≠ blk := fun h => h3 (h ▸ List.mem_of_getElem? hblk)
        exact ⟨h1, h2, h3, ⟨cur, ty', (setRow_other w blk b' _ hne).trans h4, h4'⟩, h5⟩
      · rename_i hj2
        rw [if_neg hj2] at hu
        exact old (by omega) hx' hu

theorem evLin_goes (hI : Inv gl w0 St0 e a w g) {o : Oper} {k : Env → Prop} (h : evLin P gl o e k) : GoesE P gl w0 St0 o a w k := by
  unfold evLin at h
  split at h
  · rename_i t ho; exact lin_move hI (by simp [execOp, ho]) h
  · rename_i t ho; exact lin_move hI (by simp [execOp, ho]) h
  · rename_i t i ho
    split at h
    · rename_i vs hs
      split at h
      · rename_i r hr; exact lin_extract hI ho hs hr h
      · exact h.elim
    · exact h.elim
  · rename_i ty x ho
    split at h
    · rename_i b off hs
      obtain ⟨ly, hl, h⟩ := bindO_some h
      cases hly : ly.1 with
      | true => rw [hly] at h; exact h.elim
      | false =>
        rw [hly] at h
        simp only [cond_false] at h
        split at h
        · rename_i cs hcs
          obtain ⟨y, hy, h⟩ := bindO_some h
          exact lin_load hI ho hs hl hly hcs hy h
        · exact h.elim
    · exact h.elim
  · rename_i ty x t ho
    split at h
    · rename_i b off y hs hy hd
      obtain ⟨sz, hsz, h⟩ := bindO_some h
      cases hb : Nat.beq sz 1 with
      | false => rw [hb] at h; exact h.elim
      | true =>
        rw [hb] at h
        simp only [cond_true] at h
        have := Nat.eq_of_beq_eq_true hb
        subst this
        split at h
        · rename_i cs hcs
          obtain ⟨l, hl, h1, h2, h⟩ := bindO_some h
          exact lin_store hI ho hd hs hsz hy hcs hl h1 h2 h
        · exact h.elim
    · exact h.elim
  · rename_i c ho
    split at h
    · rename_i t y ty u hc hx ht
      exact lin_append hI ho hc hx ht h
    · exact h.elim
  · exact h.elim

/-- EVERY OPERATION -/
theorem evOp_goes (hI : Inv gl w0 St0 e a w g) {id : Nat} {lin : Bool} {o : Oper} {k : Env → Prop} (h : evOp P gl (Holds P gl) id lin o e k) : GoesE P gl w0 St0 o a w k := by
  unfold evOp at h
  cases lin <;> simp only [cond_true, cond_false] at h
  · intro next Q hn
    exact eff_goes hI h next Q (fun s v bxs w' g' hinv hk => hn _ v w' g' hinv hk)
  · exact evLin_goes hI h

end
end Go.Proofs.YtcnnhnjcnekhcaaGreat.Ab
/-
  THE ABSTRACT WALK: what one operation looks at, and what it turns.
-/
namespace Go.Proofs.YtcnnhnjcnekhcaaGreat.Ab
open Go Go.RowKit

def upd (U : Option (Nat × Box)) (bxs : List Box) : List Box := match U with
  | none => bxs
  | some (b, bx) => bxs.set b bx
def setO (src : Option (Nat × Slot)) (l : List Slot) : List Slot := match src with
  | none => l
  | some (t, s) => l.set t s

/-- the same but for who owns what -/
def Near (x y : Option Box) : Prop := x = y ∨ ∃ cs cs', x = some (.cells cs) ∧ y = some (.cells cs') ∧ cs.map Ab.demote = cs'.map Ab.demote
theorem Near.refl (x : Option Box) : Near x x := .inl rfl
theorem Near.symm {x y : Option Box} (h : Near x y) : Near y x := by
  rcases h with h | ⟨cs, cs', h1, h2, h3⟩
  · exact .inl h.symm
  · exact .inr ⟨cs', cs, h2, h1, h3.symm⟩
theorem Near.trans {x y z : Option Box} (h : Near x y) (k : Near y z) : Near x z := by
  rcases h with rfl | ⟨cs, cs', h1, h2, h3⟩
  · exact k
  · rcases k with rfl | ⟨ds, ds', k1, k2, k3⟩
    · exact .inr ⟨cs, cs', h1, h2, h3⟩
    · rw [h2] at k1
      cases k1
      exact .inr ⟨cs, ds', h1, k2, h3.trans k3⟩
theorem toD_dem (x : SV) : toD (demote x) = toD x := by cases x <;> rfl
theorem toDs_dem : ∀ (l : List SV), toDs (l.map demote) = toDs l
  | [] => rfl
  | x :: l => by simp only [List.map_cons, toDs, toD_dem, toDs_dem l]
theorem partV_near {agg : Bool} {sz off : Nat} {cs cs' : List SV} {y : SV} (h : cs.map Ab.demote = cs'.map Ab.demote) (hy : partV agg sz off cs = some y) : ∃ y', partV agg sz off cs' = some y' ∧ demote y' = demote y := by
  have hlen : cs.length = cs'.length := by have := congrArg List.length h; simpa using this
  cases agg with
  | false =>
    simp only [partV, cond_false] at hy ⊢
    have h1 : (cs'.map Ab.demote)[off]? = some (demote y) := by rw [← h]; simp [hy]
    rw [List.getElem?_map] at h1
    obtain ⟨y', h2, h3⟩ := Option.map_eq_some_iff.1 h1
    exact ⟨y', h2, h3⟩
  | true =>
    refine ⟨y, ?_, rfl⟩
    simp only [partV, cond_true] at hy ⊢
    have h1 : toDs ((cs'.drop off).take sz) = toDs ((cs.drop off).take sz) := by
      rw [← toDs_dem, ← toDs_dem ((cs.drop off).take sz), List.map_take, List.map_drop, List.map_take, List.map_drop, h]
    rw [h1, ← hlen]
    exact hy

/-- what a slot shows of the variables is the same -/
def SameAt (weak : Bool) (s : Slot) (bxs b' : List Box) : Prop := (∀ b off, s = .p b off → Near b'[b]? bxs[b]? ∧ (weak = false → b'[b]? = bxs[b]?)) ∧ ∀ n, snap b' n s = snap bxs n s

structure Sees (id : Nat) (lin : Bool) (o : Oper) (U : Option (Nat × Box)) (ρ : Operand → Slot) (bxs b' : List Box) : Prop where
  mem : looksMem o = true → ∀ x ∈ o.op.operands, SameAt (!writesMem o && !lin) (ρ x) bxs b'
  fresh : makesMem o = true → U ≠ none → b'[id]? = some .none

inductive UFact (id : Nat) (o : Oper) (lin : Bool) (ρ : Operand → Slot) (bxs : List Box) : Option (Nat × Box) → Prop
  | none : UFact id o lin ρ bxs none
  | mk (bx : Box) (h : makesMem o = true) (hn : bxs[id]? = some .none) (hb : bx ≠ .none) : UFact id o lin ρ bxs (some (id, bx))
  | wr (b : Nat) (bx old : Box) (h : looksMem o = true) (hw : writesMem o = true ∨ lin = true) (x : Operand) (hx : x ∈ o.op.operands) (off : Nat) (hp : ρ x = .p b off) (ho : bxs[b]? = some old) (hold : old ≠ .none) (hb : bx ≠ .none)
      (near : lin = true → writesMem o = false → ∃ cs cs', old = .cells cs ∧ bx = .cells cs' ∧ cs.map Ab.demote = cs'.map Ab.demote) :
      UFact id o lin ρ bxs (some (b, bx))

section
variable {P : Program} {gl : Nat → Option D} {C : Con}

theorem partsD_congr {ρ ρ' : Operand → Slot} : ∀ {l : List (Nat × Operand)}, (∀ p ∈ l, ρ' p.2 = ρ p.2) → partsD ρ' l = partsD ρ l
  | [], _ => rfl
  | (i, x) :: l, h => by
    simp only [partsD]
    rw [h (i, x) (by simp), partsD_congr (fun p hp => h p (by simp [hp]))]

theorem argsOf_congr {ρ ρ' : Operand → Slot} {bxs b' : List Box} : ∀ {l : List Operand}, (∀ x ∈ l, snap b' 6 (ρ' x) = snap bxs 6 (ρ x)) → argsOf b' ρ' l = argsOf bxs ρ l
  | [], _ => rfl
  | x :: l, h => by
    simp only [argsOf]
    rw [h x (by simp), argsOf_congr (fun p hp => h p (by simp [hp]))]

theorem optV_congr {ρ ρ' : Operand → Slot} {x : Option Operand} (h : ∀ y, x = some y → ρ' y = ρ y) : optV ρ' x = optV ρ x := by
  cases x with
  | none => rfl
  | some y => simp only [optV]; rw [h y rfl]

theorem exN_intro : ∀ {n : Nat} {k : List SV → Prop} (rs : List SV), rs.length = n → k rs → exN n k
  | 0, _, [], _, h => h
  | n + 1, _, r :: rs, hl, h => ⟨r, exN_intro rs (by simpa using hl) h⟩
  | 0, _, _ :: _, hl, _ => by simp at hl
  | _ + 1, _, [], hl, _ => by simp at hl

theorem callK_spec {n : Nat} {bxs : List Box} {k : Slot → List Box → Prop} {f : FuncId} {args : List SV} (h : callK C n bxs k f args) :
    ∃ s, k s bxs ∧ ∀ b' k', k' s b' → callK C n b' k' f args := by
  unfold callK at h
  split at h
  · obtain ⟨r, h1, h2, h3⟩ := h
    exact ⟨.v r, h3, fun b' k' hk => ⟨r, h1, h2, hk⟩⟩
  · rename_i hn
    obtain ⟨rs, hl, h1, h2⟩ := exN_iff h
    refine ⟨.t rs, h2, fun b' k' hk => ?_⟩
    unfold callK
    split
    · exact absurd rfl hn
    · exact exN_intro rs hl ⟨h1, hk⟩

theorem withFn_spec {x : SV} {args : List SV} {K : FuncId → List SV → Prop} (h : withFn x args K) : ∃ f l, K f l ∧ ∀ K' : FuncId → List SV → Prop, K' f l → withFn x args K' := by
  unfold withFn at h
  split at h
  · exact ⟨_, _, h, fun _ h => h⟩
  · exact ⟨_, _, h, fun _ h => h⟩
  · exact h.elim

theorem withMeth_spec {x : SV} {name : String} {args : List SV} {K : FuncId → List SV → Prop} (h : withMeth P x name args K) : ∃ f l, K f l ∧ ∀ K' : FuncId → List SV → Prop, K' f l → withMeth P x name args K' := by
  unfold withMeth at h
  split at h
  · obtain ⟨f, hf, h⟩ := bindO_some h
    exact ⟨_, _, h, fun K' hk => by simp only [withMeth, hf]; exact hk⟩
  · exact h.elim

theorem clo_inj {bxs b' : List Box} {f : Fn} {first cap : List Slot} (h : ∀ n, snap b' n (.c f first cap) = snap bxs n (.c f first cap)) :
    snapList (snap b' 6) first = snapList (snap bxs 6) first ∧ snapList (snap b' 6) cap = snapList (snap bxs 6) cap := by
  have := h 7
  simp only [snap, SV.clo.injEq, true_and] at this
  exact this

theorem box_get {b' bxs : List Box} {b : Nat} {x : Option Box} (h : b'[b]? = bxs[b]?) (hx : bxs[b]? = x) : b'[b]? = x := h.trans hx

/-- an operation's outcome, and what it hangs on -/
theorem eff_spec {id : Nat} {o : Oper} {ρ : Operand → Slot} {bxs : List Box} {k : Slot → List Box → Prop} (h : eff P C id o ρ bxs k) :
    ∃ s U, k s (upd U bxs) ∧ UFact id o false ρ bxs U ∧
      ∀ (ρ' : Operand → Slot) (b' : List Box) (k' : Slot → List Box → Prop), (∀ x ∈ o.op.operands, ρ' x = ρ x) → Sees id false o U ρ bxs b' → k' s (upd U b') → eff P C id o ρ' b' k' := by
  cases ho : o.op <;> simp only [eff, ho] at h
  case move x =>
    refine ⟨_, none, h, .none, fun ρ' b' k' hρ _ hk => ?_⟩
    simp only [eff, ho]; rw [hρ x (by simp [Op.operands])]; exact hk
  case assign x =>
    refine ⟨_, none, h, .none, fun ρ' b' k' hρ _ hk => ?_⟩
    simp only [eff, ho]; rw [hρ x (by simp [Op.operands])]; exact hk
  case pick c x y =>
    split at h
    · rename_i s hs
      obtain ⟨b, rfl, h1, h2⟩ := ifP_bool h
      cases b
      · refine ⟨_, none, h2 rfl, .none, fun ρ' b' k' hρ _ hk => ?_⟩
        simp only [eff, ho]; rw [hρ c (by simp [Op.operands]), hρ x (by simp [Op.operands]), hρ y (by simp [Op.operands]), hs]; exact hk
      · refine ⟨_, none, h1 rfl, .none, fun ρ' b' k' hρ _ hk => ?_⟩
        simp only [eff, ho]; rw [hρ c (by simp [Op.operands]), hρ x (by simp [Op.operands]), hρ y (by simp [Op.operands]), hs]; exact hk
    · exact h.elim
  case alloc t =>
    split at h
    · rename_i hid
      obtain ⟨z, hz, hk⟩ := bindO_some h
      refine ⟨_, some (id, _), hk, .mk _ (by simp [makesMem, ho]) hid (by simp), fun ρ' b' k' hρ hS hk => ?_⟩
      simp only [eff, ho, hS.fresh (by simp [makesMem, ho]) (by simp), hz, bindO]; exact hk
    · exact h.elim
  case box t x =>
    split at h
    · rename_i hid
      obtain ⟨sz, hsz, h⟩ := bindO_some h
      split at h
      · rename_i y hy
        obtain ⟨l, hl, hlen, hk⟩ := bindO_some h
        refine ⟨_, some (id, _), hk, .mk _ (by simp [makesMem, ho]) hid (by simp), fun ρ' b' k' hρ hS hk => ?_⟩
        simp only [eff, ho, hS.fresh (by simp [makesMem, ho]) (by simp), hsz, bindO]; rw [hρ x (by simp [Op.operands]), hy]; simp only [hl]; exact ⟨hlen, hk⟩
      · exact h.elim
      · rename_i h1 h2
        split at h
        · refine ⟨_, some (id, _), h, .mk _ (by simp [makesMem, ho]) hid (by simp), fun ρ' b' k' hρ hS hk => ?_⟩
          simp only [eff, ho, hS.fresh (by simp [makesMem, ho]) (by simp), hsz, bindO]; rw [hρ x (by simp [Op.operands])]
          split
          · rename_i y hy; exact absurd hy (h1 y)
          · rename_i y hy; exact absurd hy (h2 y)
          · exact hk
        · exact h.elim
    · exact h.elim
  case build t ps =>
    obtain ⟨l, hl, h⟩ := bindO_some h
    obtain ⟨r, hr, h⟩ := bindO_some h
    refine ⟨_, none, h, .none, fun ρ' b' k' hρ _ hk => ?_⟩
    simp only [eff, ho]
    rw [partsD_congr (fun p hp => hρ p.2 (by simp only [Op.operands, List.mem_toArray, List.mem_map]; exact ⟨p, hp, rfl⟩)), hl]
    simp only [bindO, hr]; exact hk
  case buildSlice t n ps =>
    obtain ⟨e, he, h⟩ := bindO_some h
    obtain ⟨ly, hly, h⟩ := bindO_some h
    obtain ⟨z, hz, h⟩ := bindO_some h
    obtain ⟨l, hl, h⟩ := bindO_some h
    cases hc : (Nat.ble (n * ly.2) (2 ^ 24) && Nat.blt 0 ly.2 && Nat.beq z.length ly.2) with
    | false => rw [hc] at h; exact h.elim
    | true =>
      rw [hc] at h
      simp only [cond_true] at h
      refine ⟨_, none, h.2, .none, fun ρ' b' k' hρ _ hk => ?_⟩
      simp only [eff, ho]
      rw [partsD_congr (fun p hp => hρ p.2 (by simp only [Op.operands, List.mem_toArray, List.mem_map]; exact ⟨p, hp, rfl⟩)), hl]
      simp only [bindO, he, hly, hz, hc, cond_true]; exact ⟨h.1, hk⟩
  case load t x =>
    obtain ⟨ly, hl, h⟩ := bindO_some h
    split at h
    · rename_i bn off hs
      unfold loadBox at h
      have hS0 : ∀ {U b'}, Sees id false o U ρ bxs b' → Near b'[bn]? bxs[bn]? := fun hS => ((hS.mem (by simp [looksMem, ho]) x (by simp [ho, Op.operands])).1 bn off hs).1
      split at h
      · rename_i cs hcs
        obtain ⟨y, hy, h⟩ := bindO_some h
        refine ⟨_, none, h, .none, fun ρ' b' k' hρ hS hk => ?_⟩
        simp only [eff, ho, hl, bindO]; rw [hρ x (by simp [Op.operands]), hs]
        rcases hS0 hS with hn | ⟨ds, ds', h1, h2, h3⟩
        · simp only [loadBox, hn, hcs, bindO, hy]; exact hk
        · rw [hcs] at h2
          cases h2
          obtain ⟨y', hy', hd⟩ := partV_near h3.symm hy
          simp only [loadBox, h1, bindO, hy', hd]; exact hk
      · rename_i s hcs
        cases hb : ly.1 with
        | true => rw [hb] at h; exact h.elim
        | false =>
          rw [hb] at h
          simp only [cond_false] at h
          have hS' : ∀ {U b'}, Sees id false o U ρ bxs b' → b'[bn]? = bxs[bn]? := fun hS => by
            rcases hS0 hS with hn | ⟨ds, ds', _, h2, _⟩
            · exact hn
            · rw [hcs] at h2; cases h2
          split at h
          · refine ⟨_, none, h, .none, fun ρ' b' k' hρ hS hk => ?_⟩
            simp only [eff, ho, hl, bindO]; rw [hρ x (by simp [Op.operands]), hs]; simp only [loadBox, hS' hS, hcs, hb, cond_false]; exact hk
          · exact h.elim
      · exact h.elim
    · rename_i s hs
      obtain ⟨y, hy, h⟩ := bindO_some h
      refine ⟨_, none, h, .none, fun ρ' b' k' hρ hS hk => ?_⟩
      simp only [eff, ho, hl, bindO]; rw [hρ x (by simp [Op.operands]), hs]; simp only [hy]; exact hk
    · exact h.elim
  case store t x y =>
    obtain ⟨n, hn, h⟩ := bindO_some h
    split at h
    · rename_i bn off hs
      have hS' : ∀ {U b'}, Sees id false o U ρ bxs b' → b'[bn]? = bxs[bn]? := fun hS => ((hS.mem (by simp [looksMem, ho]) x (by simp [ho, Op.operands])).1 bn off hs).2 (by simp [writesMem, ho])
      split at h
      · rename_i hd
        unfold storeBox at h
        have uf : ∀ bx old, bxs[bn]? = some old → old ≠ .none → bx ≠ .none → UFact id o false ρ bxs (some (bn, bx)) := fun bx old h1 h2 h3 =>
          .wr bn bx old (by simp [looksMem, ho]) (.inl (by simp [writesMem, ho])) x (by simp [ho, Op.operands]) off hs h1 h2 h3 (fun h => by cases h)
        split at h
        · rename_i cs hcs
          split at h
          · rename_i z hz
            obtain ⟨l, hl, h1, h2, h⟩ := bindO_some h
            refine ⟨_, some (bn, _), h, uf _ _ hcs (by simp) (by simp), fun ρ' b' k' hρ hS hk => ?_⟩
            simp only [eff, ho, hn, bindO]; rw [hρ x (by simp [Op.operands]), hρ y (by simp [Op.operands]), hs, hz, hd]; simp only [storeBox, hS' hS, hcs, hl, bindO]; exact ⟨h1, h2, hk⟩
          · exact h.elim
          · rename_i h1 h2
            split at h
            · refine ⟨_, some (bn, _), h, uf _ _ hcs (by simp) (by simp), fun ρ' b' k' hρ hS hk => ?_⟩
              simp only [eff, ho, hn, bindO]; rw [hρ x (by simp [Op.operands]), hρ y (by simp [Op.operands]), hs, hd]; simp only [storeBox, hS' hS, hcs]; exact hk
            · exact h.elim
        · rename_i s0 hcs
          split at h
          · split at h
            · rename_i z hz
              obtain ⟨l, hl, h1, h⟩ := bindO_some h
              refine ⟨_, some (bn, _), h, uf _ _ hcs (by simp) (by simp), fun ρ' b' k' hρ hS hk => ?_⟩
              simp only [eff, ho, hn, bindO]; rw [hρ x (by simp [Op.operands]), hρ y (by simp [Op.operands]), hs, hz, hd]; simp only [storeBox, hS' hS, hcs, hl, bindO]; exact ⟨h1, hk⟩
            · exact h.elim
            · rename_i h1 h2
              refine ⟨_, some (bn, _), h, uf _ _ hcs (by simp) (by simp), fun ρ' b' k' hρ hS hk => ?_⟩
              simp only [eff, ho, hn, bindO]; rw [hρ x (by simp [Op.operands]), hρ y (by simp [Op.operands]), hs, hd]; simp only [storeBox, hS' hS, hcs]; exact hk
          · exact h.elim
        · exact h.elim
      · exact h.elim
    · exact h.elim
  case nilCheck x =>
    split at h
    · rename_i y hy
      obtain ⟨z, hz, h⟩ := bindO_some h
      refine ⟨_, none, h, .none, fun ρ' b' k' hρ _ hk => ?_⟩
      simp only [eff, ho]; rw [hρ x (by simp [Op.operands]), hy]; simp only [hz, bindO]; exact hk
    · exact h.elim
    · rename_i f first cap hy
      split at h
      · refine ⟨_, none, h, .none, fun ρ' b' k' hρ _ hk => ?_⟩
        simp only [eff, ho]; rw [hρ x (by simp [Op.operands]), hy]; exact hk
      · split at h
        · obtain ⟨z, hz, h⟩ := bindO_some h
          refine ⟨_, none, h, .none, fun ρ' b' k' hρ _ hk => ?_⟩
          simp only [eff, ho]; rw [hρ x (by simp [Op.operands]), hy]; simp only [hz, bindO]; exact hk
        · exact h.elim
      · exact h.elim
    · rename_i b off hy
      refine ⟨_, none, h, .none, fun ρ' b' k' hρ _ hk => ?_⟩
      simp only [eff, ho]; rw [hρ x (by simp [Op.operands]), hy]; exact hk
  case binOp op t x y u =>
    obtain ⟨z, hz, h⟩ := bindO_some h
    refine ⟨_, none, h, .none, fun ρ' b' k' hρ _ hk => ?_⟩
    simp only [eff, ho]; rw [hρ x (by simp [Op.operands]), hρ y (by simp [Op.operands])]; simp only [hz, bindO]; exact hk
  case unOp op t x =>
    obtain ⟨z, hz, h⟩ := bindO_some h
    refine ⟨_, none, h, .none, fun ρ' b' k' hρ _ hk => ?_⟩
    simp only [eff, ho]; rw [hρ x (by simp [Op.operands])]; simp only [hz, bindO]; exact hk
  case convert src dst x =>
    cases hs : (P.underlying src).isSome with
    | false => rw [hs] at h; exact h.elim
    | true =>
      rw [hs] at h
      obtain ⟨z, hz, h⟩ := bindO_some h
      refine ⟨_, none, h, .none, fun ρ' b' k' hρ _ hk => ?_⟩
      simp only [eff, ho]; rw [hρ x (by simp [Op.operands])]; simp only [hs, cond_true, hz, bindO]; exact hk
  case makeInterface t x =>
    cases hs : isIface P t with
    | true => rw [hs] at h; exact h.elim
    | false =>
      rw [hs] at h
      obtain ⟨z, hz, h⟩ := bindO_some h
      refine ⟨_, none, h, .none, fun ρ' b' k' hρ _ hk => ?_⟩
      simp only [eff, ho]; rw [hρ x (by simp [Op.operands])]; simp only [hs, cond_false, hz, bindO]; exact hk
  case makeFunc fn first cap =>
    refine ⟨_, none, h, .none, fun ρ' b' k' hρ _ hk => ?_⟩
    simp only [eff, ho]
    have e1 : (first.toList.map fun x => (ρ' x).demote) = first.toList.map fun x => (ρ x).demote := List.map_congr_left fun x hx => by rw [hρ x (by simp only [Op.operands, Array.mem_append]; exact .inl (by simpa using hx))]
    have e2 : (cap.toList.map fun x => (ρ' x).demote) = cap.toList.map fun x => (ρ x).demote := List.map_congr_left fun x hx => by rw [hρ x (by simp only [Op.operands, Array.mem_append]; exact .inr (by simpa using hx))]
    rw [e1, e2]; exact hk
  case slice t x lo hi mx =>
    obtain ⟨z, hz, h⟩ := bindO_some h
    refine ⟨_, none, h, .none, fun ρ' b' k' hρ _ hk => ?_⟩
    simp only [eff, ho]
    rw [hρ x (by simp [Op.operands]), optV_congr (x := lo) (fun y hy => hρ y (by simp [Op.operands, hy])), optV_congr (x := hi) (fun y hy => hρ y (by simp [Op.operands, hy])), optV_congr (x := mx) (fun y hy => hρ y (by simp [Op.operands, hy]))]
    simp only [hz, bindO]; exact hk
  case fieldAddr t x f =>
    obtain ⟨fd, hfd, h⟩ := bindO_some h
    obtain ⟨sz, hsz, h⟩ := bindO_some h
    cases hc : Nat.beq sz 0 with
    | true => rw [hc] at h; exact h.elim
    | false =>
      rw [hc] at h
      simp only [cond_false] at h
      split at h
      · rename_i b off hy
        refine ⟨_, none, h, .none, fun ρ' b' k' hρ _ hk => ?_⟩
        simp only [eff, ho, hfd, hsz, bindO, hc, cond_false]; rw [hρ x (by simp [Op.operands]), hy]; exact hk
      · rename_i y hy
        obtain ⟨z, hz, h⟩ := bindO_some h
        refine ⟨_, none, h, .none, fun ρ' b' k' hρ _ hk => ?_⟩
        simp only [eff, ho, hfd, hsz, bindO, hc, cond_false]; rw [hρ x (by simp [Op.operands]), hy]; simp only [hz]; exact hk
      · exact h.elim
  case field t x f =>
    obtain ⟨fd, hfd, h⟩ := bindO_some h
    obtain ⟨ly, hly, h⟩ := bindO_some h
    obtain ⟨z, hz, h⟩ := bindO_some h
    refine ⟨_, none, h, .none, fun ρ' b' k' hρ _ hk => ?_⟩
    simp only [eff, ho]; rw [hρ x (by simp [Op.operands])]; simp only [hfd, hly, hz, bindO]; exact hk
  case indexAddr t x i =>
    split at h
    · rename_i e he
      obtain ⟨sz, hsz, h⟩ := bindO_some h
      obtain ⟨z, hz, h⟩ := bindO_some h
      refine ⟨_, none, h, .none, fun ρ' b' k' hρ _ hk => ?_⟩
      simp only [eff, ho]; rw [hρ x (by simp [Op.operands]), hρ i (by simp [Op.operands])]; simp only [he, hsz, hz, bindO]; exact hk
    · rename_i n e he
      obtain ⟨sz, hsz, h⟩ := bindO_some h
      obtain ⟨j, hj, h⟩ := bindO_some h
      split at h
      · rename_i b off hy
        refine ⟨_, none, h, .none, fun ρ' b' k' hρ _ hk => ?_⟩
        simp only [eff, ho]; rw [hρ x (by simp [Op.operands]), hρ i (by simp [Op.operands])]; simp only [he, hsz, hj, bindO, hy]; exact hk
      · rename_i y hy
        obtain ⟨z, hz, h⟩ := bindO_some h
        refine ⟨_, none, h, .none, fun ρ' b' k' hρ _ hk => ?_⟩
        simp only [eff, ho]; rw [hρ x (by simp [Op.operands]), hρ i (by simp [Op.operands])]; simp only [he, hsz, hj, bindO, hy, hz]; exact hk
      · exact h.elim
    · exact h.elim
  case index t x i =>
    split at h
    · rename_i n e he
      obtain ⟨ly, hly, h⟩ := bindO_some h
      obtain ⟨z, hz, h⟩ := bindO_some h
      refine ⟨_, none, h, .none, fun ρ' b' k' hρ _ hk => ?_⟩
      simp only [eff, ho]; rw [hρ x (by simp [Op.operands]), hρ i (by simp [Op.operands])]; simp only [he, hly, hz, bindO]; exact hk
    · rename_i he
      obtain ⟨z, hz, h⟩ := bindO_some h
      refine ⟨_, none, h, .none, fun ρ' b' k' hρ _ hk => ?_⟩
      simp only [eff, ho]; rw [hρ x (by simp [Op.operands]), hρ i (by simp [Op.operands])]; simp only [he, hz, bindO]; exact hk
    · exact h.elim
  case extract x i =>
    split at h
    · rename_i vs hs
      split at h
      · rename_i r hr
        refine ⟨_, none, h, .none, fun ρ' b' k' hρ _ hk => ?_⟩
        simp only [eff, ho]; rw [hρ x (by simp [Op.operands]), hs]; simp only [hr]; exact hk
      · exact h.elim
    · exact h.elim
  case call c =>
    have hargs : ∀ {U ρ' b'}, (∀ x ∈ (Op.call c).operands, ρ' x = ρ x) → Sees id false o U ρ bxs b' → argsOf b' ρ' c.args.toList = argsOf bxs ρ c.args.toList := fun {U ρ' b'} hρ hS =>
      argsOf_congr fun x hx => by
        have hm : x ∈ (Op.call c).operands := by
          simp only [Op.operands, Call.operands, Array.mem_append]; exact .inr (by simpa using hx)
        rw [hρ x hm]
        exact (hS.mem (by simp [looksMem, ho]) x (by rw [ho]; exact hm)).2 6
    have hmem : ∀ x, x ∈ c.args.toList → x ∈ (Op.call c).operands := fun x hx => by
      simp only [Op.operands, Call.operands, Array.mem_append]; exact .inr (by simpa using hx)
    split at h
    · rename_i f hc
      have hf : f ∈ (Op.call c).operands := by simp [Op.operands, Call.operands, hc]
      split at h
      · rename_i s hs
        obtain ⟨f', l, hK, hK'⟩ := withFn_spec h
        obtain ⟨r, hk, hr⟩ := callK_spec hK
        refine ⟨_, none, hk, .none, fun ρ' b' k' hρ hS hk => ?_⟩
        simp only [eff, ho, hc]
        rw [hρ f hf, hs]
        simp only [hargs hρ hS]
        exact hK' _ (hr _ _ hk)
      · rename_i g' first cap hs
        obtain ⟨r, hk, hr⟩ := callK_spec h
        refine ⟨_, none, hk, .none, fun ρ' b' k' hρ hS hk => ?_⟩
        simp only [eff, ho, hc]
        rw [hρ f hf, hs]
        simp only [hargs hρ hS]
        have hsn := (hS.mem (by simp [looksMem, ho]) f (by rw [ho]; exact hf)).2
        rw [hs] at hsn
        obtain ⟨e1, e2⟩ := clo_inj hsn
        rw [e1, e2]
        exact hr _ _ hk
      · exact h.elim
    · rename_i recv name hc
      have hf : recv ∈ (Op.call c).operands := by simp [Op.operands, Call.operands, hc]
      split at h
      · rename_i s hs
        obtain ⟨f', l, hK, hK'⟩ := withMeth_spec h
        obtain ⟨r, hk, hr⟩ := callK_spec hK
        refine ⟨_, none, hk, .none, fun ρ' b' k' hρ hS hk => ?_⟩
        simp only [eff, ho, hc]
        rw [hρ recv hf, hs]
        simp only [hargs hρ hS]
        exact hK' _ (hr _ _ hk)
      · exact h.elim
    · rename_i b hc
      split at h
      · rename_i x xs t ts hx ht
        obtain ⟨z, hz, h⟩ := bindO_some h
        refine ⟨_, none, h, .none, fun ρ' b' k' hρ hS hk => ?_⟩
        simp only [eff, ho, hc, hx, ht]
        rw [hρ x (hmem x (by simp [hx])), hz]; exact hk
      · rename_i x y t u hx ht
        cases htu : Nat.beq t u with
        | false => rw [htu] at h; exact h.elim
        | true =>
          rw [htu] at h
          simp only [cond_true] at h
          obtain ⟨e', he, h⟩ := bindO_some h
          obtain ⟨sz, hsz, h⟩ := bindO_some h
          obtain ⟨by_, hby, h⟩ := bindO_some h
          obtain ⟨z, hz, h⟩ := bindO_some h
          cases hcc : (Nat.blt 0 by_ && Nat.blt 0 sz && Nat.beq z.length sz) with
          | false => rw [hcc] at h; exact h.elim
          | true =>
            rw [hcc] at h
            obtain ⟨r, hr, hb, h⟩ := bindO_some h
            refine ⟨_, none, h, .none, fun ρ' b' k' hρ hS hk => ?_⟩
            simp only [eff, ho, hc, hx, ht]
            rw [hρ x (hmem x (by simp [hx])), hρ y (hmem y (by simp [hx]))]
            simp only [htu, cond_true, he, hsz, hby, hz, bindO, hcc, appP, hr]; exact ⟨hb, hk⟩
      · rename_i x xs hx
        obtain ⟨z, hz, h⟩ := bindO_some h
        refine ⟨_, none, h, .none, fun ρ' b' k' hρ hS hk => ?_⟩
        have e1 : (xs.map fun y => (ρ' y).toSV) = xs.map fun y => (ρ y).toSV := List.map_congr_left fun y hy => by rw [hρ y (hmem y (by simp [hx, hy]))]
        simp only [eff, ho, hc, hx]
        rw [hρ x (hmem x (by simp [hx])), e1, hz]; exact hk
      · rename_i x xs hx
        obtain ⟨z, hz, h⟩ := bindO_some h
        refine ⟨_, none, h, .none, fun ρ' b' k' hρ hS hk => ?_⟩
        have e1 : (xs.map fun y => (ρ' y).toSV) = xs.map fun y => (ρ y).toSV := List.map_congr_left fun y hy => by rw [hρ y (hmem y (by simp [hx, hy]))]
        simp only [eff, ho, hc, hx]
        rw [hρ x (hmem x (by simp [hx])), e1, hz]; exact hk
      · exact h.elim
  all_goals exact h.elim

end
end Go.Proofs.YtcnnhnjcnekhcaaGreat.Ab
