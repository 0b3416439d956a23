/-
  THE ABSTRACT WALK: addresses, parts, slices, closures, literals.
-/
import Derived.Test.YtfeepndphaboeaaAb9
set_option linter.unusedVariables false
set_option linter.unusedSimpArgs false
namespace Go.Proofs.Ytfeepndphaboeaa.Ab
open Go Go.RowKit

section
variable {P : Program} {gl : Nat → Option D} {w0 : World} {St0 : Nat → Nat → Prop} {e : Env} {a : Act} {w : World} {g : Gh}

theorem indexOk_spec {x : SV} {n j : Nat} (h : indexOk x n = some j) : ∃ k i, x = .d (.int k i) ∧ 0 ≤ i ∧ i < n ∧ j = i.toNat := by
  unfold indexOk at h
  split at h
  · rename_i k i
    split at h
    · rename_i hc; cases h; exact ⟨k, i, rfl, hc.1, hc.2, rfl⟩
    · cases h
  · cases h

theorem RepV.int {St : Nat → Nat → Prop} {base : Nat} {O : Nat → Nat → Nat → Prop} {k : IntKind} {n : Int} {v : Value} (h : RepV w St base O (.d (.int k n)) v) : v = .int k n := h.data.int_inv.1

theorem addOffV_rep {x y : SV} {n : Nat} (h : addOffV x n = some y) {St : Nat → Nat → Prop} {base : Nat} {O O' : Nat → Nat → Nat → Prop} {v : Value} (r : RepV w St base O x v) :
    ∃ ad : Addr, v = .pointer (some ad) ∧ ad.spot = none ∧ RepV w St base O' y (.pointer (some ⟨ad.block, ad.off + n, none⟩)) := by
  unfold addOffV at h
  split at h
  · cases h
    cases r with
    | dptr _ x off b o vs h0 h1 h2 => exact ⟨_, rfl, rfl, by rw [Nat.add_assoc]; exact .dptr _ _ _ b o vs h0 h1 h2⟩
  · cases h
    cases r with
    | ref _ cs off b o vs h0 h1 h2 => exact ⟨_, rfl, rfl, by rw [Nat.add_assoc]; exact .ref _ _ _ b o vs h0 h1 h2⟩
  · cases h

theorem fieldOf_run {t : TypeId} {i : Nat} {fd : Field} (h : fieldOf? P t i = some fd) : ∃ fs, P.underlying t = some (.struct fs) ∧ fs[i]? = some fd := by
  unfold fieldOf? at h
  split at h
  · rename_i fs hu; exact ⟨fs, hu, by simpa using h⟩
  · cases h

theorem fieldPlace_run {fd : Field} {sz : Nat} (hs : sizeOf? P fd.type = some sz) (h0 : sz ≠ 0) (ad : Addr) : (fieldPlace ad fd).run P w = .ok (ad.add fd.offset) w := by
  simp [fieldPlace, sizeOf_run hs, h0]

theorem goes_fieldAddr (hI : Inv gl w0 St0 e a w g) {o : Oper} {t : TypeId} {x : Operand} {f : Nat} (ho : o.op = .fieldAddr t x f) {k : Slot → List Box → Prop}
    (h : bindO (fieldOf? P t f) fun fd => bindO (sizeOf? P fd.type) fun sz => bif Nat.beq sz 0 then False else (match (Ab.opnd gl e x).demote with
    | .p b off => k (.p b (off + fd.offset)) e.boxes
    | .v y => bindO (addOffV y fd.offset) fun z => k (.v z) e.boxes
    | _ => False)) : Goes P gl w0 St0 e.slots o a w k := by
  obtain ⟨fd, hfd, h⟩ := bindO_some h
  obtain ⟨sz, hsz, h⟩ := bindO_some h
  obtain ⟨fs, hu, hfs⟩ := fieldOf_run hfd
  cases hz : Nat.beq sz 0 with
  | true => rw [hz] at h; exact h.elim
  | false =>
    rw [hz] at h
    simp only [cond_false] at h
    have h0 : sz ≠ 0 := fun h => by rw [h] at hz; cases hz
    have hrun : ∀ ad, a.eval x = .pointer (some ad) → (execOp a.eval o).run P w = .ok (.value (.pointer (some (ad.add fd.offset)))) w := by
      intro ad hv
      simp [execOp, ho, Instr.fieldAt, run_underlying hu, hfs, Instr.sureAddr, hv, fieldPlace_run hsz h0]
    split at h
    · rename_i b off hs
      obtain ⟨blk, hv, hblk⟩ := (hI.opS hs).p_inv
      refine Goes.value hI (hrun _ hv) ?_ h
      rw [addr_add]
      exact .p _ _ _ _ hblk
    · rename_i y hs
      obtain ⟨z, hz, hk⟩ := bindO_some h
      obtain ⟨ad, hv, hsp, hr⟩ := addOffV_rep (O' := fun _ _ _ => False) hz (hI.opV hs)
      refine Goes.valueV hI (hrun _ hv) ?_ hk
      obtain ⟨b, o', sp⟩ := ad
      simp only at hsp; subst hsp
      rw [addr_add]; exact hr
    · exact h.elim

theorem goes_nilCheck (hI : Inv gl w0 St0 e a w g) {o : Oper} {x : Operand} (ho : o.op = .nilCheck x) {k : Slot → List Box → Prop}
    (h : match (Ab.opnd gl e x).demote with
    | .v y => bindO (nonNilV y) fun z => k (.v z) e.boxes
    | .t _ => False
    | .c f first cap => (match f with | .func _ => k (.c f first cap) e.boxes | _ => False)
    | .p b off => k (.p b off) e.boxes) : Goes P gl w0 St0 e.slots o a w k := by
  split at h
  · rename_i y hs
    obtain ⟨z, hz, hk⟩ := bindO_some h
    have hy := hI.opV hs
    have hyz : y = z ∧ ∃ v, a.eval x = v ∧ (execOp a.eval o).run P w = .ok (.value v) w := by
      unfold nonNilV at hz
      generalize hv : a.eval x = u at hy
      split at hz <;> first | (cases hz) | skip
      · cases hy; exact ⟨rfl, _, rfl, by simp [execOp, ho, hv]⟩
      · cases hy; exact ⟨rfl, _, rfl, by simp [execOp, ho, hv]⟩
      · rename_i f a' b'
        cases f <;> simp only [Option.some.injEq, reduceCtorEq] at hz
        cases hy; exact ⟨hz, _, rfl, by simp [execOp, ho, hv]⟩
      · rename_i f
        cases f <;> simp only [Option.some.injEq, reduceCtorEq] at hz
        cases hy with
        | d _ _ _ hd => cases hd; exact ⟨hz, _, rfl, by simp [execOp, ho, hv]⟩
    obtain ⟨rfl, v, hv, hr⟩ := hyz
    rw [hv] at hy
    exact Goes.valueV hI hr hy hk
  · exact h.elim
  · rename_i f first cap hs
    have hy := hI.opS hs
    split at h
    · generalize hv : a.eval x = u at hy
      have hy' := hy
      cases hy
      exact Goes.value hI (by simp [execOp, ho, hv]) hy' h
    · exact h.elim
  · rename_i b off hs
    have hy := hI.opS hs
    obtain ⟨blk, hv, hblk⟩ := hy.p_inv
    exact Goes.value hI (by simp [execOp, ho, hv]) (.p _ _ _ _ hblk) h

theorem goes_iface (hI : Inv gl w0 St0 e a w g) {o : Oper} {t : TypeId} {x : Operand} (ho : o.op = .makeInterface t x) {k : Slot → List Box → Prop}
    (h : bif isIface P t then False else bindO (ifaceV t ((Ab.opnd gl e x).demote).toSV) fun r => k (.v r) e.boxes) : Goes P gl w0 St0 e.slots o a w k := by
  cases hi : isIface P t with
  | true => rw [hi] at h; exact h.elim
  | false =>
    rw [hi] at h
    simp only [cond_false] at h
    obtain ⟨r, hr, hk⟩ := bindO_some h
    have hx := hI.opToSV x
    generalize ((Ab.opnd gl e x).demote).toSV = sx at hr hx
    unfold ifaceV at hr
    split at hr
    · rename_i y hy
      cases hr
      refine Goes.valueV hI (v := .iface t (a.eval x)) ?_ (.d _ _ _ (.iface _ _ _ (hx.toD hy))) hk
      unfold isIface at hi
      split at hi
      · cases hi
      · cases hi
      · rename_i h1 h2
        obtain ⟨d, hd⟩ := Option.ne_none_iff_exists'.1 (fun hn => h2 hn)
        simp only [execOp, ho, Instr.makeInterface, Sem.run_bind, run_underlying hd, Result.andThen_ok]
        cases d <;> first | rfl | exact absurd hd (h1 _)
    · cases hr

theorem goes_makeFunc (hI : Inv gl w0 St0 e a w g) {o : Oper} {fn : Fn} {first cap : Array Operand} (ho : o.op = .makeFunc fn first cap) {k : Slot → List Box → Prop}
    (h : k (.c fn (first.toList.map fun x => ((Ab.opnd gl e x).demote).demote) (cap.toList.map fun x => ((Ab.opnd gl e x).demote).demote)) e.boxes) : Goes P gl w0 St0 e.slots o a w k := by
  refine Goes.value hI (v := .func fn (first.map a.eval) (cap.map a.eval)) (by simp [execOp, ho, Instr.makeFunc]) (.c _ _ _ _ _ _ (by simp) (by simp) ?_ ?_) h
  · intro i x v hx hv
    simp only [List.getElem?_map, Option.map_eq_some_iff, Array.getElem?_map] at hx hv
    obtain ⟨y, hy, rfl⟩ := hx
    obtain ⟨z, hz, rfl⟩ := hv
    rw [Array.getElem?_toList] at hy
    rw [hy] at hz; cases hz
    exact (hI.opnd y).demote
  · intro i x v hx hv
    simp only [List.getElem?_map, Option.map_eq_some_iff, Array.getElem?_map] at hx hv
    obtain ⟨y, hy, rfl⟩ := hx
    obtain ⟨z, hz, rfl⟩ := hv
    rw [Array.getElem?_toList] at hy
    rw [hy] at hz; cases hz
    exact (hI.opnd y).demote

theorem goes_extract (hI : Inv gl w0 St0 e a w g) {o : Oper} {x : Operand} {i : Nat} (ho : o.op = .extract x i) {k : Slot → List Box → Prop}
    (h : match (Ab.opnd gl e x).demote with
    | .t vs => (match vs[i]? with | some r => k (.v r) e.boxes | none => False)
    | _ => False) : Goes P gl w0 St0 e.slots o a w k := by
  split at h
  · rename_i vs hs
    split at h
    · rename_i r hr
      obtain ⟨tv, hv, hl, hc⟩ := (hI.opS hs).t_inv
      have hi : i < tv.size := by rw [← hl]; exact (List.getElem?_eq_some_iff.1 hr).1
      exact Goes.valueV hI (v := tv[i]) (by simp [execOp, ho, Instr.extract, hv, hi]) (hc i r _ hr (by simp)) h
    · exact h.elim
  · exact h.elim

theorem goes_field (hI : Inv gl w0 St0 e a w g) {o : Oper} {t : TypeId} {x : Operand} {f : Nat} (ho : o.op = .field t x f) {k : Slot → List Box → Prop}
    (h : bindO (fieldOf? P t f) fun fd => bindO (lay? P fd.type) fun ly => bindO (fieldV ly.1 ly.2 fd.offset ((Ab.opnd gl e x).demote).toSV) fun r => k (.v r) e.boxes) : Goes P gl w0 St0 e.slots o a w k := by
  obtain ⟨fd, hfd, h⟩ := bindO_some h
  obtain ⟨⟨b, n⟩, hl, h⟩ := bindO_some h
  obtain ⟨r, hr, hk⟩ := bindO_some h
  obtain ⟨fs, hu, hfs⟩ := fieldOf_run hfd
  have hx := hI.opToSV x
  generalize ((Ab.opnd gl e x).demote).toSV = sx at hr hx
  unfold fieldV at hr
  split at hr
  · rename_i cs
    split at hr
    · rename_i z hz
      cases hr
      obtain ⟨vs, hv, hrep, hf⟩ := hx.data.agg_inv
      obtain ⟨hb, hn, h1⟩ := lay_run hl
      have hle : fd.offset + n ≤ cs.length := by
        unfold partD at hz
        cases b
        · simp only [cond_false] at hz; have := (List.getElem?_eq_some_iff.1 hz).1; rw [h1 rfl]; omega
        · simp only [cond_true] at hz; split at hz <;> first | assumption | cases hz
      obtain ⟨v, hp, hvo⟩ := hrep.valOf (P := P) (off := fd.offset) hb hn h1 hle
      refine Goes.valueV hI (v := v) (by simp [execOp, ho, Instr.field, run_underlying hu, hfs, hv, asAgg, hp]) (.d _ _ _ ?_) hk
      unfold partD at hz
      cases b
      · simp only [cond_false] at hz
        simp only [ValOf, Bool.false_eq_true, if_false] at hvo
        obtain ⟨x', hx', hr'⟩ := hvo
        have hlt := (List.getElem?_eq_some_iff.1 hz).1
        rw [h1 rfl, List.drop_eq_getElem_cons hlt, List.take_succ_cons, List.take_zero] at hx'
        rw [List.getElem?_eq_getElem hlt] at hz
        cases hz
        simp only [List.cons.injEq, and_true] at hx'
        rw [hx']; exact hr'
      · simp only [cond_true, hle, ↓reduceIte, Option.some.injEq] at hz
        subst hz
        simp only [ValOf, if_true] at hvo
        obtain ⟨cs', rfl, hr'⟩ := hvo
        exact hr'.agg (fun d hd => hf d (List.mem_of_mem_drop (List.mem_of_mem_take hd)))
    · cases hr
  · cases hr


theorem goes_index (hI : Inv gl w0 St0 e a w g) {o : Oper} {t : TypeId} {x i : Operand} (ho : o.op = .index t x i) {k : Slot → List Box → Prop}
    (h : match P.underlying t with
    | some (.array n e') => bindO (lay? P e') fun ly => bindO (indexV ly.1 ly.2 n ((Ab.opnd gl e x).demote).toSV ((Ab.opnd gl e i).demote).toSV) fun r => k (.v r) e.boxes
    | some .string => bindO (strAt ((Ab.opnd gl e x).demote).toSV ((Ab.opnd gl e i).demote).toSV) fun r => k (.v r) e.boxes
    | _ => False) : Goes P gl w0 St0 e.slots o a w k := by
  have hx := hI.opToSV x
  have hi := hI.opToSV i
  generalize ((Ab.opnd gl e x).demote).toSV = sx at h hx
  generalize ((Ab.opnd gl e i).demote).toSV = si at h hi
  split at h
  · rename_i n e' hu
    obtain ⟨⟨b, m⟩, hl, h'⟩ := bindO_some h
    clear h
    obtain ⟨r, hr, hk⟩ := bindO_some h'
    clear h'
    unfold indexV at hr
    split at hr
    · rename_i cs
      split at hr
      · rename_i j hj
        split at hr
        · rename_i z hz
          cases hr
          obtain ⟨kk, ii, rfl, h1, h2, rfl⟩ := indexOk_spec hj
          have hvi := hi.int
          obtain ⟨vs, hv, hrep, hf⟩ := hx.data.agg_inv
          obtain ⟨hb, hn, hone⟩ := lay_run hl
          have hle : ii.toNat * m + m ≤ cs.length := by
            unfold partD at hz
            cases b
            · simp only [cond_false] at hz; have := (List.getElem?_eq_some_iff.1 hz).1; rw [hone rfl] at *; omega
            · simp only [cond_true] at hz; split at hz <;> first | assumption | cases hz
          obtain ⟨v, hp, hvo⟩ := hrep.valOf (P := P) (off := ii.toNat * m) hb hn hone hle
          refine Goes.valueV hI (v := v) ?_ (.d _ _ _ ?_) hk
          · simp [execOp, ho, Instr.index, hvi, asIntOf, run_underlying hu, hv, h1, h2, sizeOf_run hn, hp]
          · unfold partD at hz
            cases b
            · simp only [cond_false] at hz
              simp only [ValOf, Bool.false_eq_true, if_false] at hvo
              obtain ⟨x', hx', hr'⟩ := hvo
              have hlt := (List.getElem?_eq_some_iff.1 hz).1
              rw [hone rfl] at hx' hz hlt
              rw [List.drop_eq_getElem_cons hlt, List.take_succ_cons, List.take_zero] at hx'
              rw [List.getElem?_eq_getElem hlt] at hz
              cases hz
              simp only [List.cons.injEq, and_true] at hx'
              rw [hx']; exact hr'
            · simp only [cond_true, hle, ↓reduceIte, Option.some.injEq] at hz
              subst hz
              simp only [ValOf, if_true] at hvo
              obtain ⟨cs', rfl, hr'⟩ := hvo
              exact hr'.agg (fun d hd => hf d (List.mem_of_mem_drop (List.mem_of_mem_take hd)))
        · cases hr
      · cases hr
    · cases hr
  · rename_i hu
    obtain ⟨r, hr, hk⟩ := bindO_some h
    unfold strAt at hr
    split at hr
    · rename_i s
      split at hr
      · rename_i j hj
        split at hr
        · rename_i c hc
          cases hr
          obtain ⟨kk, ii, rfl, h1, h2, rfl⟩ := indexOk_spec hj
          have hvi := hi.int
          obtain ⟨bs, hv, hs, _⟩ := hx.data.str_inv
          have hlt : ii.toNat < bs.size := by
            rw [hs] at h2
            simp only [Array.length_toList] at h2
            have : bs.size = bs.data.size := rfl
            omega
          have hg : bs[ii.toNat]? = some c := by
            rw [hs] at hc
            rw [getElem?_pos bs ii.toNat hlt]
            have : bs.data.toList[ii.toNat]? = some bs[ii.toNat] := by
              rw [Array.getElem?_toList, Array.getElem?_eq_getElem hlt]
              rfl
            rw [this] at hc
            exact hc
          refine Goes.valueV hI (v := .int .u8 c.toNat) ?_ (.d _ _ _ (.int _ _ ?_)) hk
          · simp [execOp, ho, Instr.index, hvi, asIntOf, run_underlying hu, hv, h1, hg]
          · have := c.toNat_lt
            simp [wfI, IntKind.min, IntKind.max, IntKind.signed, IntKind.bits]
            omega
        · cases hr
      · cases hr
    · cases hr
  · exact h.elim

theorem elems_cells {sz : Nat} {x : SV} {L : List D} (h : elems sz x = some L) {St : Nat → Nat → Prop} {base : Nat} {O : Nat → Nat → Nat → Prop} {v : Value} (r : RepV w St base O x v) :
    ((v = .slice none 0 0 ∨ ∃ ad c, v = .slice (some ad) 0 c) ∧ L = []) ∨ ∃ (b off cap : Nat) (vs : Nat → Value), v = .slice (some ⟨b, off, none⟩) L.length cap ∧ L.length ≤ cap ∧ L.length ≤ maxLen ∧ (∀ x ∈ L, x.cells.length = sz) ∧ (∀ x ∈ L, ∀ c ∈ x.cells, c.one = true) ∧
      (∀ (o : Nat), o < L.length * sz → w.cell? ⟨b, off + o, none⟩ = some (vs o) ∧ St b (off + o)) ∧
      (∀ (i : Nat) x (j : Nat) c, L[i]? = some x → x.cells[j]? = some c → RepD w St c (vs (i * sz + j))) := by
  have go : ∀ {s L' v}, RepD w St (.sl .ro s L') v → ((v = .slice none 0 0 ∨ ∃ ad c, v = .slice (some ad) 0 c) ∧ L' = []) ∨ ∃ (b off cap : Nat) (vs : Nat → Value), v = .slice (some ⟨b, off, none⟩) L'.length cap ∧ L'.length ≤ cap ∧ L'.length ≤ maxLen ∧ (∀ x ∈ L', x.cells.length = s) ∧ (∀ x ∈ L', ∀ c ∈ x.cells, c.one = true) ∧
      (∀ (o : Nat), o < L'.length * s → w.cell? ⟨b, off + o, none⟩ = some (vs o) ∧ St b (off + o)) ∧
      (∀ (i : Nat) x (j : Nat) c, L'[i]? = some x → x.cells[j]? = some c → RepD w St c (vs (i * s + j))) := by
    intro s L' v hd
    cases hd with
    | sl _ _ b off cap vs hcap hm hsz hf hcell hc => exact .inr ⟨b, off, cap, vs, rfl, hcap, hm, hsz, hf, hcell, hc⟩
    | slz _ ad c _ => exact .inl ⟨.inr ⟨ad, c, rfl⟩, rfl⟩
  unfold elems at h
  split at h
  · rename_i k s L'
    split at h
    · cases h
      have hd := r.data
      cases hd
      exact .inl ⟨.inl rfl, rfl⟩
    · split at h
      · rename_i hs; cases h; subst hs; exact go r.data
      · cases h
  · split at h
    · rename_i hs; cases h; subst hs
      cases r with
      | own _ _ _ gg cap hd hcap ho => exact go hd
    · cases h
  · split at h
    · rename_i hs; cases h; subst hs
      cases r with
      | full _ _ _ ad hd => exact go hd
    · cases h
  · cases h

theorem goes_indexAddr (hI : Inv gl w0 St0 e a w g) {o : Oper} {t : TypeId} {x i : Operand} (ho : o.op = .indexAddr t x i) {k : Slot → List Box → Prop}
    (h : match P.underlying t with
    | some (.slice e') => bindO (sizeOf? P e') fun sz => bindO (elemPtr sz ((Ab.opnd gl e x).demote).toSV ((Ab.opnd gl e i).demote).toSV) fun r => k (.v r) e.boxes
    | some (.array n e') => bindO (sizeOf? P e') fun sz => bindO (indexOk ((Ab.opnd gl e i).demote).toSV n) fun j => (match (Ab.opnd gl e x).demote with
      | .p b off => k (.p b (off + j * sz)) e.boxes
      | .v y => bindO (addOffV y (j * sz)) fun z => k (.v z) e.boxes
      | _ => False)
    | _ => False) : Goes P gl w0 St0 e.slots o a w k := by
  have hi := hI.opToSV i
  generalize ((Ab.opnd gl e i).demote).toSV = si at h hi
  split at h
  · rename_i e' hu
    obtain ⟨sz, hsz, h⟩ := bindO_some h
    obtain ⟨r, hr, hk⟩ := bindO_some h
    have hx := hI.opToSV x
    generalize ((Ab.opnd gl e x).demote).toSV = sx at hr hx
    unfold elemPtr at hr
    split at hr
    · rename_i L hL
      split at hr
      · rename_i j hj
        split at hr
        · rename_i y hy
          cases hr
          obtain ⟨kk, ii, rfl, h1, h2, rfl⟩ := indexOk_spec hj
          have hvi := hi.int
          rcases elems_cells hL hx with ⟨_, rfl⟩ | ⟨b, off, cap, vs, hv, hcap, hm, hs, hf, hcell, hc⟩
          · simp at h2; omega
          · have hlt : ii.toNat < L.length := (List.getElem?_eq_some_iff.1 hy).1
            have hmem : y ∈ L := List.mem_of_getElem? hy
            refine Goes.valueV hI (v := .pointer (some ⟨b, off + ii.toNat * sz, none⟩)) ?_ ?_ hk
            · have := addr_add b off (ii.toNat * sz)
              simp [execOp, ho, Instr.indexAt, hvi, asIntOf, run_underlying hu, hv, h1, h2, sizeOf_run hsz, this]
            · refine .dptr _ y 0 b (off + ii.toNat * sz) (fun j => vs (ii.toNat * sz + j)) (hf y hmem) (fun j hj' => ?_) (fun j c hc' => hc _ y j c hy hc')
              have : ii.toNat * sz + j < L.length * sz := by
                rw [hs y hmem] at hj'
                have : (ii.toNat + 1) * sz ≤ L.length * sz := Nat.mul_le_mul_right _ hlt
                rw [Nat.succ_mul] at this; omega
              rw [Nat.add_assoc]
              exact hcell _ this
        · cases hr
      · cases hr
    · cases hr
  · rename_i n e' hu
    obtain ⟨sz, hsz, h⟩ := bindO_some h
    obtain ⟨j, hj, h⟩ := bindO_some h
    obtain ⟨kk, ii, rfl, h1, h2, rfl⟩ := indexOk_spec hj
    have hvi := hi.int
    have hrun : ∀ ad, a.eval x = .pointer (some ad) → (execOp a.eval o).run P w = .ok (.value (.pointer (some (ad.add (ii.toNat * sz))))) w := by
      intro ad hv
      simp [execOp, ho, Instr.indexAt, hvi, asIntOf, run_underlying hu, Instr.sureAddr, hv, h1, h2, sizeOf_run hsz]
    split at h
    · rename_i b off hs
      obtain ⟨blk, hv, hblk⟩ := (hI.opS hs).p_inv
      refine Goes.value hI (hrun _ hv) ?_ h
      rw [addr_add]
      exact .p _ _ _ _ hblk
    · rename_i y hs
      obtain ⟨z, hz, hk⟩ := bindO_some h
      obtain ⟨ad, hv, hsp, hr⟩ := addOffV_rep (O' := fun _ _ _ => False) hz (hI.opV hs)
      refine Goes.valueV hI (hrun _ hv) ?_ hk
      obtain ⟨b, o', sp⟩ := ad
      simp only at hsp; subst hsp
      rw [addr_add]; exact hr
    · exact h.elim
  · exact h.elim

end
end Go.Proofs.Ytfeepndphaboeaa.Ab
