/-
  THE ABSTRACT WALK: loads and stores, addresses, parts.
-/
import Derived.Test.YtfeepndphaboeaaAb8
set_option linter.unusedVariables false
set_option linter.unusedSimpArgs false
namespace Go.Proofs.Ytfeepndphaboeaa.Ab
open Go Go.RowKit

section
variable {P : Program} {gl : Nat → Option D} {w0 : World} {St0 : Nat → Nat → Prop} {e : Env} {a : Act} {w : World} {g : Gh}

theorem RepD.one_of_oneCell {St : Nat → Nat → Prop} {d : D} {v : Value} (r : RepD w St d v) (h : v.oneCell' = true) : d.one = true := by
  cases d with
  | agg ds => obtain ⟨_, hv, _⟩ := r.agg_inv; rw [hv] at h; simp [Value.oneCell'] at h
  | _ => rfl

/-- loading from memory that holds cells of data -/
theorem partD_load {t : TypeId} {b : Bool} {n off : Nat} {cs : List D} {x : D} {St : Nat → Nat → Prop} (hl : lay? P t = some (b, n)) (h : partD b n off cs = some x) (blk o : Nat)
    (hf : ∀ c ∈ cs, c.one = true)
    (vs : Nat → Value) (hcell : ∀ i, i < cs.length → w.cell? ⟨blk, o + i, none⟩ = some (vs i)) (hrep : ∀ (i : Nat) c, cs[i]? = some c → RepD w St c (vs i)) :
    ∃ v, (loadVar t ⟨blk, o + off, none⟩).run P w = .ok v w ∧ RepD w St x v := by
  unfold partD at h
  cases b
  · simp only [cond_false] at h
    have hlt := (List.getElem?_eq_some_iff.1 h).1
    refine ⟨vs off, ?_, hrep off x h⟩
    rw [loadVar_run hl blk (o + off) (fun j => vs (off + j)) (fun j hj => by simp at hj; subst hj; simpa using hcell off hlt)]
    simp
  · simp only [cond_true] at h
    split at h
    · rename_i hle
      cases h
      refine ⟨.agg ((List.range n).map fun j => vs (off + j)).toArray, ?_, .agg _ _ ?_ ?_ ?_⟩
      · rw [loadVar_run hl blk (o + off) (fun j => vs (off + j)) (fun j hj => by
          simp at hj; rw [Nat.add_assoc]; exact hcell (off + j) (by omega))]
        simp
      · intro d hd
        exact hf d (List.mem_of_mem_drop (List.mem_of_mem_take hd))
      · simp; omega
      · intro i d v hd hv
        rw [List.getElem?_take] at hd
        split at hd
        · rename_i hi
          rw [List.getElem?_drop] at hd
          simp [hi] at hv
          subst hv
          exact hrep _ _ hd
        · cases hd
    · cases h

theorem goes_loadV (hI : Inv gl w0 St0 e a w g) {o : Oper} {t : TypeId} {x : Operand} (ho : o.op = .load t x) {k : Slot → List Box → Prop} {b : Bool} {n : Nat} (hl : lay? P t = some (b, n))
    {s : SV} (hs : (Ab.opnd gl e x).demote = .v s) (h : bindO (loadV b n s) fun y => k (.v y) e.boxes) : Goes P gl w0 St0 e.slots o a w k := by
  obtain ⟨y, hy, hk⟩ := bindO_some h
  have hx := hI.opV hs
  have hrun : ∀ {ad v}, a.eval x = .pointer (some ad) → (loadVar t ad).run P w = .ok v w → (execOp a.eval o).run P w = .ok (.value v) w := by
    intro ad v h1 h2
    simp [execOp, ho, Instr.loadAt, Instr.sureAddr, h1, h2]
  unfold loadV at hy
  split at hy
  · rename_i z off
    split at hy
    · rename_i r hr
      cases hy
      generalize hv : a.eval x = u at hx
      cases hx with
      | dptr _ _ _ blk o' vs hf hcell hrep =>
        obtain ⟨v, h1, h2⟩ := partD_load (St := g.St) hl hr blk o' hf vs (fun i hi => (hcell i hi).1) hrep
        exact Goes.valueV hI (hrun hv h1) (.d _ _ _ h2) hk
    · cases hy
  · rename_i cs off
    split at hy
    · rename_i r hr
      cases hy
      generalize hv : a.eval x = u at hx
      cases hx with
      | ref _ _ _ blk o' vs hb hcell hrep =>
        obtain ⟨v, h1, h2⟩ := partV_load (St := g.St) (O := fun _ _ _ _ => False) hl hr blk o' vs (fun i hi => (hcell i hi).1) hrep (fun i hi => (hcell i hi).2)
        exact Goes.valueV hI (hrun hv h1) h2.demote hk
    · cases hy
  · cases hy


theorem goes_loadBox (hI : Inv gl w0 St0 e a w g) {o : Oper} {t : TypeId} {x : Operand} (ho : o.op = .load t x) {k : Slot → List Box → Prop} {b : Bool} {n : Nat} (hl : lay? P t = some (b, n))
    {bn off : Nat} (hs : (Ab.opnd gl e x).demote = .p bn off) (h : loadBox b n bn off e.boxes k) : Goes P gl w0 St0 e.slots o a w k := by
  have hx := hI.opS hs
  obtain ⟨blk, hv, hblk⟩ := hx.p_inv
  have hrun : ∀ {v}, (loadVar t ⟨blk, off, none⟩).run P w = .ok v w → (execOp a.eval o).run P w = .ok (.value v) w := by
    intro v h2
    simp [execOp, ho, Instr.loadAt, Instr.sureAddr, hv, h2]
  unfold loadBox at h
  split at h
  · rename_i cs hcs
    obtain ⟨y, hy, hk⟩ := bindO_some h
    obtain ⟨h0, c, ty, hc, hone, hlen, hrep⟩ := hI.boxes bn _ blk hcs hblk
    obtain ⟨v, h1, h2⟩ := partV_load (w := w) (off := off) (St := g.St) (O := fun j => boxO w0.heap.size w g bn j) hl hy blk 0 (fun i => c.getD i undef) (fun i hi => by
        rw [cell_of_row w blk (0 + i) c ty (0, 0) hc]; simp [hlen ▸ hi]) (fun i d hd => by
        have hi := (List.getElem?_eq_some_iff.1 hd).1
        exact hrep i d _ hd (by simp [hlen ▸ hi])) (fun i hi => by
        have hi' : i < c.size := hlen ▸ hi
        simp [hi']; exact hone _ (Array.getElem_mem hi'))
    simp only [Nat.zero_add] at h1
    exact Goes.valueV hI (hrun h1) h2.demote hk
  · rename_i s hs'
    cases b with
    | true => exact h.elim
    | false =>
      simp only [cond_false] at h
      split at h
      · obtain ⟨h0, c, ty, hc, hone, hsz, hrep⟩ := hI.boxes bn _ blk hs' hblk
        have h0c : c[0]? = some (c[0]'(by omega)) := by simp
        refine Goes.value hI (hrun (v := c[0]'(by omega)) ?_) ((hrep _ h0c).demote) h
        rw [loadVar_run (vs := fun _ => c[0]'(by omega)) hl blk 0 (fun j hj => by
          simp at hj; subst hj
          rw [cell_of_row w blk (0 + 0) c ty (0, 0) hc]; exact h0c)]
        simp
      · exact h.elim
  · exact h.elim

theorem setAt_spec : ∀ (l : List SV) (cs : List SV) (off : Nat), off + l.length ≤ cs.length → setAt cs off l = cs.take off ++ l ++ cs.drop (off + l.length)
  | [], cs, off, _ => by simp [setAt]
  | v :: l, cs, off, h => by
    simp only [List.length_cons] at h
    rw [setAt, setAt_spec l (cs.set off v) (off + 1) (by simp; omega)]
    have h1 : (cs.set off v).take (off + 1) = cs.take off ++ [v] := by
      rw [List.take_add_one, List.take_set_of_le (Nat.le_refl _)]
      simp [List.getElem?_set_self (show off < cs.length by omega)]
    have h2 : (cs.set off v).drop (off + 1 + l.length) = cs.drop (off + 1 + l.length) := by
      rw [List.drop_set_of_lt (by omega)]
    rw [h1, h2]
    simp [Nat.add_assoc, Nat.add_comm 1]

/-- the cells behind a store -/
theorem splice_get {α : Type} (cs l : List α) (off : Nat) (h : off + l.length ≤ cs.length) (i : Nat) :
    (cs.take off ++ l ++ cs.drop (off + l.length))[i]? = if i < off then cs[i]? else if i < off + l.length then l[i - off]? else cs[i]? := by
  have ht : (cs.take off).length = off := by simp; omega
  rw [List.append_assoc, List.getElem?_append, ht]
  split
  · rename_i h1
    rw [List.getElem?_take, if_pos h1]
  · rename_i h1
    rw [List.getElem?_append]
    split
    · rename_i h2
      rw [if_pos (by omega)]
    · rename_i h2
      rw [if_neg (by omega), List.getElem?_drop]
      congr 1
      omega

theorem storeVar_run {t : TypeId} {n : Nat} (hn : sizeOf? P t = some n) {blk off : Nat} {c : Array Value} {ty : TypeId} (hc : w.heap[blk]? = some (.cells c ty (0, 0))) {v : Value}
    (hv : v.cells.size = n) (h1 : ∀ y ∈ v.cells, y.oneCell' = true) (hle : off + n ≤ c.size) :
    (storeVar t ⟨blk, off, none⟩ v).run P w = .ok () (w.setRow blk (c.toList.take off ++ v.cells.toList ++ c.toList.drop (off + n)).toArray) := by
  have := run_storeCells_at P blk off ty v.cells.toList 0 c w hc (by simp; omega) (by simpa using h1)
  simp only [Nat.add_zero, Array.length_toList, hv] at this
  unfold storeVar
  simp [sizeOf_run hn, hv, this]

/-- a store's world and what is known of it -/
theorem goes_store_fin (hI : Inv gl w0 St0 e a w g) {o : Oper} {t : TypeId} {x y : Operand} (ho : o.op = .store t x y) (hd : o.dst = none) {k : Slot → List Box → Prop}
    {bn off blk n : Nat} (hv : a.eval x = .pointer (some ⟨blk, off, none⟩)) (hblk : g.bx[bn]? = some (some blk))
    {cells : Array Value} {ty : TypeId} {bx' : Box} (hc : w.heap[blk]? = some (.cells cells ty (0, 0))) (cells' : Array Value) (hone : ∀ y ∈ cells', y.oneCell' = true)
    (hst : (storeVar t ⟨blk, off, none⟩ (a.eval y)).run P w = .ok () (w.setRow blk cells'))
    (rep : ∀ (w' : World), Ext w0.heap.size w g w' g (fun p => ∃ j, p = .b bn j ∧ off ≤ j ∧ j < off + n) → (match bx' with
      | .none => False
      | .cells cs => cs.length = cells'.size ∧ ∀ (j : Nat) x y, cs[j]? = some x → cells'[j]? = some y → RepV w' g.St w0.heap.size (boxO w0.heap.size w' g bn j) x y
      | .one s => cells'.size = 1 ∧ ∀ y, cells'[0]? = some y → RepS w0.heap.size w' g (fun _ => boxO w0.heap.size w' g bn 0) s y))
    (hk : k (.t []) (e.boxes.set bn bx')) : Goes P gl w0 St0 e.slots o a w k := by
  intro next Q hnext
  have hrun : (execOp a.eval o).run P w = .ok .skip (w.setRow blk cells') := by
    simp [execOp, ho, Instr.storeAt, Instr.sureAddr, hv, hst]
  unfold Oper.wp
  rw [hrun]
  have hoth := fun k (hk : k ≠ blk) => setRow_other w blk k cells' hk
  have hnew := setRow_heap w blk cells cells' ty (0, 0) hc
  refine hnext (.t []) undef _ _ g ?_ hk
  rw [hd]
  refine hI.setBox (dst := none) (s := .t []) (v := undef) (slots := e.slots) (fun _ => False) (fun j => off ≤ j ∧ j < off + n) rfl rfl (fun _ _ _ _ _ h => h) hblk hone hnew hoth (by simp [World.setRow]) ⟨rfl, rfl, rfl⟩ rfl
    (fun i x hx _ => ⟨x, hx, .inl ⟨rfl, fun h => h⟩⟩) (fun hX => ?_) (fun _ d h => by cases h)
  have := rep _ ⟨hX.st, hX.bs, hX.bx, fun p b a c hp ho => hX.own p b a c (fun hp' => hp (by
    rcases hp' with ⟨i, j, _, h⟩ | ⟨j, h⟩ | ⟨d, j, h, _⟩
    · exact h.elim
    · exact ⟨j, h⟩
    · cases h)) ho⟩
  cases bx' with
  | none => exact this
  | cells cs => exact this
  | one s => exact this

theorem goes_store_one (hI : Inv gl w0 St0 e a w g) {o : Oper} {t : TypeId} {x y : Operand} (ho : o.op = .store t x y) (hd : o.dst = none) {k : Slot → List Box → Prop} {n : Nat} (hn : sizeOf? P t = some n)
    {bn off blk : Nat} (hv : a.eval x = .pointer (some ⟨blk, off, none⟩)) (hblk : g.bx[bn]? = some (some blk))
    {cells : Array Value} {ty : TypeId} (hc : w.heap[blk]? = some (.cells cells ty (0, 0))) (hc1 : cells.size = 1) (hn1 : n = 1) (hoff : off = 0)
    {s : Slot} (hs : (Ab.opnd gl e y).demote = s) (hnv : ∀ z, s ≠ .v z) (hnt : ∀ z, s ≠ .t z) (hk : k (.t []) (e.boxes.set bn (.one s))) : Goes P gl w0 St0 e.slots o a w k := by
  have hy := hI.opS hs
  subst hn1 hoff
  have hcv : (a.eval y).cells = #[a.eval y] ∧ (a.eval y).oneCell' = true := by
    generalize a.eval y = u at hy
    cases hy with
    | v _ z _ _ => exact absurd rfl (hnv z)
    | p => exact ⟨rfl, rfl⟩
    | c => exact ⟨rfl, rfl⟩
    | t _ z _ _ _ => exact absurd rfl (hnt z)
  refine goes_store_fin hI ho hd (n := 1) (bx' := .one s) hv hblk hc #[a.eval y] (by simpa using hcv.2) ?_ (fun w' hX => ⟨rfl, fun u hu => ?_⟩) hk
  · rw [storeVar_run hn hc (by rw [hcv.1]; rfl) (by rw [hcv.1]; simpa using hcv.2) (by omega)]
    rw [hcv.1]
    have : cells.toList.drop (0 + 1) = [] := List.drop_eq_nil_of_le (by simp [hc1])
    rw [this]; simp
  · simp at hu; subst hu
    exact hy.mono hX.st hX.bs hX.bx (fun _ _ _ _ h => h.elim)

theorem goes_store (hI : Inv gl w0 St0 e a w g) {o : Oper} {t : TypeId} {x y : Operand} (ho : o.op = .store t x y) (hd : o.dst = none) {k : Slot → List Box → Prop} {n : Nat} (hn : sizeOf? P t = some n)
    {bn off : Nat} (hs : (Ab.opnd gl e x).demote = .p bn off) (h : storeBox n bn off ((Ab.opnd gl e y).demote) e.boxes fun bxs' => k (.t []) bxs') : Goes P gl w0 St0 e.slots o a w k := by
  have hx := hI.opS hs
  obtain ⟨blk, hv, hblk⟩ := hx.p_inv
  unfold storeBox at h
  split at h
  · -- cells
    rename_i cs hcs
    obtain ⟨h0, c, ty, hc, hone, hlen, hrep⟩ := hI.boxes bn _ blk hcs hblk
    split at h
    · rename_i z hz
      obtain ⟨l, hl, hln, hle, hk⟩ := bindO_some h
      have hy := hI.opS hz
      obtain ⟨h1, h2, h3⟩ := hy.v_inv.cells hl
      have hvs : (a.eval y).cells.size = n := by rw [← h1, hln]
      refine goes_store_fin hI ho hd (n := n) (bx' := .cells (setAt cs off l)) hv hblk hc _ ?_ (storeVar_run hn hc hvs h2 (by omega)) (fun w' hX => ?_) hk
      · intro u hu
        simp only [List.mem_toArray, List.mem_append] at hu
        rcases hu with (hu | hu) | hu
        · exact hone u (by simpa using List.mem_of_mem_take hu)
        · exact h2 u (by simpa using hu)
        · exact hone u (by simpa using List.mem_of_mem_drop hu)
      · rw [setAt_spec l cs off (by omega)]
        refine ⟨by simp [hlen, hvs]; omega, fun j x' y' hx' hy' => ?_⟩
        have hcv : n = (a.eval y).cells.toList.length := by simp [hvs]
        rw [splice_get cs l off (by omega)] at hx'
        have hy'' : (c.toList.take off ++ (a.eval y).cells.toList ++ c.toList.drop (off + (a.eval y).cells.toList.length))[j]? = some y' := by
          rw [← hcv]; simpa using hy'
        rw [splice_get _ _ off (by simp [hvs]; omega)] at hy''
        simp only [Array.length_toList, hvs, hln] at hx' hy''
        have old : ¬ (off ≤ j ∧ j < off + n) → cs[j]? = some x' → c[j]? = some y' → RepV w' g.St w0.heap.size (boxO w0.heap.size w' g bn j) x' y' := fun hj h4 h5 =>
          (hrep j x' y' h4 h5).mono hX.st hX.bs _ (fun b' a' c' ho => hX.own _ b' a' c' (by rintro ⟨j', h6, h7⟩; cases h6; exact hj h7) ho)
        split at hx'
        · rename_i hj
          simp only [hj, ↓reduceIte, Array.getElem?_toList] at hy''
          exact old (by omega) hx' hy''
        · rename_i hj
          simp only [hj, ↓reduceIte] at hy''
          split at hx'
          · rename_i hj2
            simp only [hj2, ↓reduceIte, Array.getElem?_toList] at hy''
            exact (h3 (j - off) x' y' hx' hy'').mono hX.st hX.bs _ (fun _ _ _ h => h.elim)
          · rename_i hj2
            simp only [hj2, ↓reduceIte, Array.getElem?_toList] at hy''
            exact old (by omega) hx' hy''
    · exact h.elim
    · rename_i hnv hnt
      split at h
      · exact goes_store_one hI ho hd hn hv hblk hc (by simpa using hlen.symm) rfl rfl rfl (fun z hz => hnv z hz) (fun z hz => hnt z hz) h
      · exact h.elim
  · -- one
    rename_i s0 hs0
    obtain ⟨h0, c, ty, hc, hone, hlen, hrep⟩ := hI.boxes bn _ blk hs0 hblk
    split at h
    · split at h
      · rename_i z hz
        obtain ⟨l, hl, hln, hk⟩ := bindO_some h
        have hy := hI.opS hz
        obtain ⟨h1, h2, h3⟩ := hy.v_inv.cells hl
        have hvs : (a.eval y).cells.size = 1 := by rw [← h1, hln]
        refine goes_store_fin hI ho hd (n := 1) (bx' := .cells l) hv hblk hc (a.eval y).cells h2 ?_ (fun w' hX => ⟨h1, fun j c' u hc' hu => ?_⟩) hk
        · rw [storeVar_run hn hc hvs h2 (by omega)]
          have : c.toList.drop (0 + 1) = [] := List.drop_eq_nil_of_le (by simp [hlen])
          rw [this]; simp
        · exact (h3 j c' u hc' hu).mono hX.st hX.bs _ (fun _ _ _ h => h.elim)
      · exact h.elim
      · rename_i hnv hnt
        exact goes_store_one hI ho hd hn hv hblk hc hlen rfl rfl rfl (fun z hz => hnv z hz) (fun z hz => hnt z hz) h
    · exact h.elim
  · exact h.elim

end
end Go.Proofs.Ytfeepndphaboeaa.Ab
