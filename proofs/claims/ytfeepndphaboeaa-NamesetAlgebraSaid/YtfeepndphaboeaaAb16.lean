/-
  THE ABSTRACT WALK: operations that hand an owned slice on.
-/
import Derived.Test.YtfeepndphaboeaaAb15
set_option linter.unusedVariables false
set_option linter.unusedSimpArgs false
namespace Go.Proofs.Ytfeepndphaboeaa.Ab
open Go Go.RowKit

section
variable {P : Program} {gl : Nat → Option D} {w0 : World} {St0 : Nat → Nat → Prop} {e : Env} {a : Act} {w : World} {g : Gh}

abbrev GoesE (P : Program) (gl : Nat → Option D) (w0 : World) (St0 : Nat → Nat → Prop) (o : Oper) (a : Act) (w : World) (k : Env → Prop) : Prop :=
  ∀ (next : Act → World → Prop) (Q : Exit → Act → World → Prop),
    (∀ e' v w' g', Inv gl w0 St0 e' (a.put o.dst v) w' g' → k e' → next (a.put o.dst v) w') → o.wp P a w next Q

theorem getD_slot (hI : Inv gl w0 St0 e a w g) (t : Nat) : RepS w0.heap.size w g (slotO w0.heap.size w g t) (e.slots.getD t (.v .undef)) (a.eval (.tmp t)) := by
  simp only [Act.eval, List.getD_eq_getElem?_getD]
  cases h : e.slots[t]? with
  | none => exact .v _ _ _ (.undef _ _)
  | some s => exact hI.slots t s h

/-- all that a slot owns is another's -/
def Gh.mvS (g : Gh) (t : Nat) (q : Nat → Pos) : Gh := { g with ow := fun b => match g.ow b with
  | some (.s i j) => if i = t then some (q j) else some (.s i j)
  | x => x }

theorem mvS_own {base : Nat} {t : Nat} {q : Nat → Pos} {p : Pos} (hp : ∀ j, p ≠ .s t j) {b a0 c0 : Nat} (h : OwnAt base w g p b a0 c0) : OwnAt base w (g.mvS t q) p b a0 c0 := by
  obtain ⟨h1, h2, h3, h4, h5⟩ := h
  refine ⟨?_, h2, h3, h4, h5⟩
  simp only [Gh.mvS, h1]
  cases p with
  | s i j =>
    simp only
    rw [if_neg (fun h => hp j (by rw [h]))]
  | b i j => rfl

theorem mvS_new {base : Nat} {t : Nat} {q : Nat → Pos} {j : Nat} {b a0 c0 : Nat} (h : OwnAt base w g (.s t j) b a0 c0) : OwnAt base w (g.mvS t q) (q j) b a0 c0 := by
  obtain ⟨h1, h2, h3, h4, h5⟩ := h
  exact ⟨by simp [Gh.mvS, h1], h2, h3, h4, h5⟩

theorem Ext.mvS {base : Nat} (t : Nat) (q : Nat → Pos) (lost : Pos → Prop) (hl : ∀ j, lost (.s t j)) : Ext base w g w (g.mvS t q) lost :=
  ⟨fun _ _ h => ⟨h, rfl⟩, fun _ _ _ => rfl, fun _ _ h => h, fun _ _ _ _ hp ho => mvS_own (fun j hj => hp (by rw [hj]; exact hl j)) ho⟩

theorem hands_set (e : Env) (t : Nat) (dst : Option Nat) : Hands e (e.slots.set t (e.slots.getD t (.v .undef)).demote) (fun i => i = t) dst := by
  refine ⟨by simp, fun i x hx _ => ?_⟩
  rw [List.getElem?_set] at hx
  split at hx
  · rename_i h
    subst h
    split at hx
    · rename_i hlt
      cases hx
      refine ⟨e.slots[t], List.getElem?_eq_getElem hlt, .inr ?_⟩
      rw [List.getD_eq_getElem?_getD, List.getElem?_eq_getElem hlt]; rfl
    · cases hx
  · rename_i h
    exact ⟨x, hx, .inl ⟨rfl, fun h' => h h'.symm⟩⟩

theorem lin_move (hI : Inv gl w0 St0 e a w g) {o : Oper} {t : Nat} (hrun : (execOp a.eval o).run P w = .ok (.value (a.eval (.tmp t))) w) {k : Env → Prop}
    (h : k ⟨putSlot (e.slots.set t (e.slots.getD t (.v .undef)).demote) o.dst (e.slots.getD t (.v .undef)), e.boxes⟩) : GoesE P gl w0 St0 o a w k := by
  intro next Q hn
  unfold Oper.wp
  rw [hrun]
  refine hn _ _ _ (match o.dst with | some d => g.mvS t (fun j => .s d j) | none => g) (hI.hand (hands_set e t o.dst) ?_ (Below.refl _ _) (fun d hd => ?_) ?_ (fun _ _ => rfl) (fun b o' hst => ?_)) h
  · cases o.dst with
    | none => exact ⟨fun _ _ h => ⟨h, rfl⟩, fun _ _ _ => rfl, fun _ _ h => h, fun _ _ _ _ _ h => h⟩
    | some d => exact Ext.mvS t _ _ (fun j => ⟨t, j, rfl, .inl rfl⟩)
  · rw [hd]
    exact (getD_slot hI t).mono (fun _ _ h => ⟨h, rfl⟩) (fun _ _ _ => rfl) (fun _ _ h => h) (fun j b a' c ho => mvS_new (q := fun j => .s d j) ho)
  · cases o.dst <;> rfl
  · have : g.St b o' := by cases hd : o.dst <;> rw [hd] at hst <;> exact hst
    exact hI.st1 b o' this

theorem lin_append (hI : Inv gl w0 St0 e a w g) {o : Oper} {c : Call} (ho : o.op = .call c) (hc : c.callee = .builtin .append) {t : Nat} {y : Operand} {ty u : TypeId}
    (hx : c.args.toList = [.tmp t, y]) (ht : c.argTypes.toList = [ty, u]) {k : Env → Prop}
    (h : bif Nat.beq ty u then (bindO (elemOf? P ty) fun e' => bindO (sizeOf? P e') fun sz => bindO (bytesOf? P e') fun by_ => bindO (zeroCells? P e') fun z =>
          bif Nat.blt 0 by_ && Nat.blt 0 sz && Nat.beq z.length sz then appP sz by_ (e.slots.getD t (.v .undef)).toSV ((Ab.opnd gl e y).demote).toSV fun r =>
            k ⟨putSlot (e.slots.set t (e.slots.getD t (.v .undef)).demote) o.dst (.v r), e.boxes⟩ else False) else False) : GoesE P gl w0 St0 o a w k := by
  have hs := getD_slot hI t
  have rx : RepV w g.St w0.heap.size (slotO w0.heap.size w g t 0) (e.slots.getD t (.v .undef)).toSV (a.eval (.tmp t)) := by
    revert hs
    generalize e.slots.getD t (.v .undef) = s
    intro hs
    cases s with
    | v x => exact hs.v_inv
    | _ => exact .undef _ _
  intro next Q hn
  refine goes_append hI ho hc (hands_set e t o.dst) (lost := fun i => i = t) hx ht rx (hI.opToSV y) (fun b a' c' h => ⟨t, h, rfl⟩)
    (k := fun s bxs => k ⟨putSlot (e.slots.set t (e.slots.getD t (.v .undef)).demote) o.dst s, bxs⟩) h next Q (fun s v bxs w' g' hinv hk => hn _ v w' g' hinv hk)

theorem lin_extract (hI : Inv gl w0 St0 e a w g) {o : Oper} {t i : Nat} (ho : o.op = .extract (.tmp t) i) {vs : List SV} (hs : e.slots.getD t (.v .undef) = .t vs) {r : SV} (hr : vs[i]? = some r) {k : Env → Prop}
    (h : k ⟨putSlot (e.slots.set t (.t (vs.set i (demote r)))) o.dst (.v r), e.boxes⟩) : GoesE P gl w0 St0 o a w k := by
  have hslot := getD_slot hI t
  rw [hs] at hslot
  obtain ⟨tv, hv, hl, hc⟩ := hslot.t_inv
  have hi : i < tv.size := by rw [← hl]; exact (List.getElem?_eq_some_iff.1 hr).1
  have htl : t < e.slots.length := by
    rcases Nat.lt_or_ge t e.slots.length with h | h
    · exact h
    · rw [List.getD_eq_getElem?_getD, List.getElem?_eq_none h] at hs; cases hs
  intro next Q hn
  have hrun : (execOp a.eval o).run P w = .ok (.value tv[i]) w := by simp [execOp, ho, Instr.extract, hv, hi]
  unfold Oper.wp
  rw [hrun]
  -- the component's owner
  let g' : Gh := { g with ow := fun b => if g.ow b = some (.s t i) then o.dst.map (fun d => .s d 0) else g.ow b }
  have hX : Ext w0.heap.size w g w g' (fun p => p = .s t i ∨ ∃ d j, o.dst = some d ∧ p = .s d j) := by
    refine ⟨fun _ _ h => ⟨h, rfl⟩, fun _ _ _ => rfl, fun _ _ h => h, fun p b a' c' hp ho' => ?_⟩
    obtain ⟨h1, h2, h3, h4, h5⟩ := ho'
    refine ⟨?_, h2, h3, h4, h5⟩
    show (if g.ow b = some (.s t i) then o.dst.map (fun d => Pos.s d 0) else g.ow b) = some p
    rw [if_neg (by rw [h1]; intro h; cases h; exact hp (.inl rfl))]
    exact h1
  refine hn _ _ w g' (hI.stepG hX (Below.refl _ _) (by simp) (fun i' x hx hd => ?_) (fun d hd => ?_) hI.bxlen (fun b bx blk h1 h2 => ?_) hI.nodup hI.bxlt hI.st1) h
  · rw [List.getElem?_set] at hx
    split at hx
    · rename_i he
      subst he
      simp only [htl, ↓reduceIte, Option.some.injEq] at hx
      subst hx
      have hvt : a.tmps.getD t undef = .tuple tv := hv
      rw [hvt]
      refine .t _ _ tv (by simpa using hl) fun j x v hx hv' => ?_
      rw [List.getElem?_set] at hx
      split at hx
      · rename_i hij
        subst hij
        split at hx
        · cases hx
          exact ((hc i r v hr hv').demote (O' := fun _ _ _ => False)).mono hX.st hX.bs _ (fun _ _ _ h => h.elim)
        · cases hx
      · rename_i hij
        refine (hc j x v hx hv').mono hX.st hX.bs _ (fun b a' c' ho' => hX.own _ b a' c' ?_ ho')
        rintro (h | ⟨d, j', h1, h2⟩)
        · cases h; exact hij rfl
        · cases h2; exact hd h1
    · rename_i he
      refine hX.slot (fun j => ?_) (hI.slots i' x hx)
      rintro (h | ⟨d, j', h1, h2⟩)
      · cases h; exact he rfl
      · cases h2; exact hd h1
  · refine .v _ _ _ ((hc i r tv[i] hr (by simp)).mono hX.st hX.bs _ (fun b a' c' ho' => ?_))
    obtain ⟨h1, h2, h3, h4, h5⟩ := ho'
    refine ⟨?_, h2, h3, h4, h5⟩
    show (if g.ow b = some (.s t i) then o.dst.map (fun d => Pos.s d 0) else g.ow b) = some (.s d 0)
    rw [if_pos h1, hd]; rfl
  · refine hX.box (fun j => ?_) rfl (hI.boxes b bx blk h1 h2)
    rintro (h | ⟨d, j', h1, h2⟩)
    · cases h
    · cases h2

theorem setBoxCells (e : Env) : True := trivial

theorem lin_load (hI : Inv gl w0 St0 e a w g) {o : Oper} {ty : TypeId} {x : Operand} (ho : o.op = .load ty x) {bn off : Nat} (hs : (Ab.opnd gl e x).demote = .p bn off) {ly : Bool × Nat} (hl : lay? P ty = some ly) (hly : ly.1 = false)
    {cs : List SV} (hcs : e.boxes[bn]? = some (.cells cs)) {y : SV} (hy : cs[off]? = some y) {k : Env → Prop} (h : k ⟨putSlot e.slots o.dst (.v y), e.boxes.set bn (.cells (cs.set off (demote y)))⟩) : GoesE P gl w0 St0 o a w k := by
  obtain ⟨b0, n⟩ := ly
  simp only at hly
  subst hly
  obtain ⟨blk, hv, hblk⟩ := (hI.opS hs).p_inv
  obtain ⟨h0, c, te, hc, hone, hlen, hrep⟩ := hI.boxes bn _ blk hcs hblk
  have hoff : off < c.size := by rw [← hlen]; exact (List.getElem?_eq_some_iff.1 hy).1
  have hcell : w.cell? ⟨blk, off, none⟩ = some c[off] := by rw [cell_of_row w blk off c te (0, 0) hc]; simp [hoff]
  have hrun : (execOp a.eval o).run P w = .ok (.value c[off]) w := by
    have := loadVar_run (P := P) (w := w) hl blk off (fun _ => c[off]) (fun j hj => by simp at hj; subst hj; exact hcell)
    simp [execOp, ho, Instr.loadAt, Instr.sureAddr, hv, this]
  intro next Q hn
  unfold Oper.wp
  rw [hrun]
  let g' : Gh := { g with ow := fun b => if g.ow b = some (.b bn off) then o.dst.map (fun d => .s d 0) else g.ow b }
  refine hn _ _ w g' (hI.setBox (dst := o.dst) (slots := e.slots) (fun _ => False) (fun j => j = off) (g' := g') rfl rfl (fun p b' h1 h2 h3 h4 => ?_) hblk hone hc (fun _ _ => rfl) rfl ⟨rfl, rfl, rfl⟩ rfl
    (fun i x hx _ => ⟨x, hx, .inl ⟨rfl, fun h => h⟩⟩) (fun hX => ?_) (fun hX d hd => ?_)) h
  · show (if g.ow b' = some (.b bn off) then o.dst.map (fun d => Pos.s d 0) else g.ow b') = some p
    rw [if_neg (by rw [h4]; intro h; cases h; exact h2 off rfl rfl)]
    exact h4
  · refine ⟨by simpa using hlen, fun j x u hx hu => ?_⟩
    rw [List.getElem?_set] at hx
    split at hx
    · rename_i hj
      subst hj
      split at hx
      · cases hx
        exact ((hrep off y u hy hu).demote (O' := fun _ _ _ => False)).mono hX.st hX.bs _ (fun _ _ _ h => h.elim)
      · cases hx
    · rename_i hj
      refine (hrep j x u hx hu).mono hX.st hX.bs _ (fun b' a' c' ho' => hX.own _ b' a' c' ?_ ho')
      rintro (⟨i, j', h, _⟩ | ⟨j', h, h'⟩ | ⟨d, j', _, h⟩)
      · cases h
      · cases h; exact hj h'.symm
      · cases h
  · refine .v _ _ _ ((hrep off y c[off] hy (by simp)).mono hX.st hX.bs _ (fun b' a' c' ho' => ?_))
    obtain ⟨h1, h2, h3, h4, h5⟩ := ho'
    refine ⟨?_, h2, h3, h4, h5⟩
    show (if g.ow b' = some (.b bn off) then o.dst.map (fun d => Pos.s d 0) else g.ow b') = some (.s d 0)
    rw [if_pos h1, hd]; rfl

theorem lin_store (hI : Inv gl w0 St0 e a w g) {o : Oper} {ty : TypeId} {x : Operand} {t : Nat} (ho : o.op = .store ty x (.tmp t)) (hd : o.dst = none) {bn off : Nat} (hs : (Ab.opnd gl e x).demote = .p bn off)
    (hn1 : sizeOf? P ty = some 1) {y : SV} (hy : e.slots.getD t (.v .undef) = .v y) {cs : List SV} (hcs : e.boxes[bn]? = some (.cells cs)) {l : List SV} (hl : cellsV y = some l) (hl1 : l.length = 1) (hoff : off < cs.length)
    {k : Env → Prop} (h : k ⟨e.slots.set t (.v (demote y)), e.boxes.set bn (.cells (setAt cs off l))⟩) : GoesE P gl w0 St0 o a w k := by
  obtain ⟨blk, hv, hblk⟩ := (hI.opS hs).p_inv
  obtain ⟨h0, c, te, hc, hone, hlen, hrep⟩ := hI.boxes bn _ blk hcs hblk
  have hslot := getD_slot hI t
  rw [hy] at hslot
  obtain ⟨c1, c2, c3⟩ := hslot.v_inv.cells hl
  have hvs : (a.eval (.tmp t)).cells.size = 1 := by rw [← c1, hl1]
  have hst := storeVar_run (P := P) (w := w) hn1 hc hvs c2 (off := off) (by omega)
  have hrun : (execOp a.eval o).run P w = .ok .skip (w.setRow blk (c.toList.take off ++ (a.eval (.tmp t)).cells.toList ++ c.toList.drop (off + 1)).toArray) := by
    simp [execOp, ho, Instr.storeAt, Instr.sureAddr, hv, hst]
  intro next Q hn
  unfold Oper.wp
  rw [hrun]
  have hnew := setRow_heap w blk c (c.toList.take off ++ (a.eval (.tmp t)).cells.toList ++ c.toList.drop (off + 1)).toArray te (0, 0) hc
  let g' : Gh := g.mvS t (fun _ => .b bn off)
  have hget : ∀ j, (c.toList.take off ++ (a.eval (.tmp t)).cells.toList ++ c.toList.drop (off + 1)).toArray[j]? = if j < off then c[j]? else if j < off + 1 then (a.eval (.tmp t)).cells[j - off]? else c[j]? := by
    intro j
    have hcv : (a.eval (.tmp t)).cells.toList.length = 1 := by simpa using hvs
    have := splice_get c.toList (a.eval (.tmp t)).cells.toList off (by rw [hcv]; simp; omega) j
    rw [hcv] at this
    simp only [List.getElem?_toArray]
    rw [this]
    simp only [Array.getElem?_toList]
  have e0 : (⟨e.slots.set t (.v (demote y)), e.boxes.set bn (.cells (setAt cs off l))⟩ : Env) = ⟨putSlot (e.slots.set t (.v (demote y))) o.dst (.t []), e.boxes.set bn (.cells (setAt cs off l))⟩ := by rw [hd]; rfl
  rw [e0] at h
  refine hn _ undef _ g' (hI.setBox (dst := o.dst) (s := .t []) (slots := e.slots.set t (.v (demote y))) (fun i => i = t) (fun j => j = off) (g' := g') rfl rfl (fun p b' h1 h2 h3 h4 => ?_) hblk ?_ hnew
    (fun k hk => setRow_other w blk k _ hk) (by simp [World.setRow]) ⟨rfl, rfl, rfl⟩ (by simp) (fun i x hx _ => ?_) (fun hX => ?_) (fun hX d hd' => by rw [hd] at hd'; cases hd')) h
  · show (match g.ow b' with | some (.s i j) => if i = t then some (Pos.b bn off) else some (.s i j) | x => x) = some p
    rw [h4]
    cases p with
    | s i j => simp only; rw [if_neg (fun h => h1 i j rfl h)]
    | b i j => rfl
  · intro u hu
    simp only [List.mem_toArray, List.mem_append] at hu
    rcases hu with (hu | hu) | hu
    · exact hone u (by simpa using List.mem_of_mem_take hu)
    · exact c2 u (by simpa using hu)
    · exact hone u (by simpa using List.mem_of_mem_drop hu)
  · rw [List.getElem?_set] at hx
    split at hx
    · rename_i he
      subst he
      split at hx
      · rename_i hlt
        cases hx
        rw [List.getD_eq_getElem?_getD, List.getElem?_eq_getElem hlt] at hy
        simp only [Option.getD_some] at hy
        exact ⟨_, List.getElem?_eq_getElem hlt, .inr (by rw [hy]; rfl)⟩
      · cases hx
    · rename_i he
      exact ⟨x, hx, .inl ⟨rfl, fun h => he h.symm⟩⟩
  · rw [setAt_spec l cs off (by omega)]
    refine ⟨by simp [hlen, hvs, hl1], fun j x' u hx' hu => ?_⟩
    rw [hget] at hu
    rw [splice_get cs l off (by omega), hl1] at hx'
    have old : j ≠ off → cs[j]? = some x' → c[j]? = some u → RepV (w.setRow blk (c.toList.take off ++ (a.eval (.tmp t)).cells.toList ++ c.toList.drop (off + 1)).toArray) g'.St w0.heap.size (boxO w0.heap.size _ g' bn j) x' u := fun hj h4 h5 =>
      (hrep j x' u h4 h5).mono hX.st hX.bs _ (fun b' a' c' ho' => hX.own _ b' a' c' (by
        rintro (⟨i, j', h, _⟩ | ⟨j', h, h'⟩ | ⟨d, j', _, h⟩)
        · cases h
        · cases h; exact hj h'
        · cases h) ho')
    split at hx'
    · rename_i hj
      rw [if_pos hj] at hu
      exact old (by omega) hx' hu
    · rename_i hj
      rw [if_neg hj] at hu
      split at hx'
      · rename_i hj2
        rw [if_pos hj2] at hu
        have hj0 : j = off := by omega
        subst hj0
        refine (c3 (j - j) x' u hx' hu).mono hX.st hX.bs _ (fun b' a' c' ho' => ?_)
        have := mvS_new (q := fun _ => Pos.b bn j) ho'
        obtain ⟨h1, h2, h3, ⟨cur, ty', h4, h4'⟩, h5⟩ := this
        have hne : b' ≠ blk := fun h => h3 (h ▸ List.mem_of_getElem? hblk)
        exact ⟨h1, h2, h3, ⟨cur, ty', (setRow_other w blk b' _ hne).trans h4, h4'⟩, h5⟩
      · rename_i hj2
        rw [if_neg hj2] at hu
        exact old (by omega) hx' hu

theorem evLin_goes (hI : Inv gl w0 St0 e a w g) {o : Oper} {k : Env → Prop} (h : evLin P gl o e k) : GoesE P gl w0 St0 o a w k := by
  unfold evLin at h
  split at h
  · rename_i t ho; exact lin_move hI (by simp [execOp, ho]) h
  · rename_i t ho; exact lin_move hI (by simp [execOp, ho]) h
  · rename_i t i ho
    split at h
    · rename_i vs hs
      split at h
      · rename_i r hr; exact lin_extract hI ho hs hr h
      · exact h.elim
    · exact h.elim
  · rename_i ty x ho
    split at h
    · rename_i b off hs
      obtain ⟨ly, hl, h⟩ := bindO_some h
      cases hly : ly.1 with
      | true => rw [hly] at h; exact h.elim
      | false =>
        rw [hly] at h
        simp only [cond_false] at h
        split at h
        · rename_i cs hcs
          obtain ⟨y, hy, h⟩ := bindO_some h
          exact lin_load hI ho hs hl hly hcs hy h
        · exact h.elim
    · exact h.elim
  · rename_i ty x t ho
    split at h
    · rename_i b off y hs hy hd
      obtain ⟨sz, hsz, h⟩ := bindO_some h
      cases hb : Nat.beq sz 1 with
      | false => rw [hb] at h; exact h.elim
      | true =>
        rw [hb] at h
        simp only [cond_true] at h
        have := Nat.eq_of_beq_eq_true hb
        subst this
        split at h
        · rename_i cs hcs
          obtain ⟨l, hl, h1, h2, h⟩ := bindO_some h
          exact lin_store hI ho hd hs hsz hy hcs hl h1 h2 h
        · exact h.elim
    · exact h.elim
  · rename_i c ho
    split at h
    · rename_i t y ty u hc hx ht
      exact lin_append hI ho hc hx ht h
    · exact h.elim
  · exact h.elim

/-- EVERY OPERATION -/
theorem evOp_goes (hI : Inv gl w0 St0 e a w g) {id : Nat} {lin : Bool} {o : Oper} {k : Env → Prop} (h : evOp P gl (Holds P gl) id lin o e k) : GoesE P gl w0 St0 o a w k := by
  unfold evOp at h
  cases lin <;> simp only [cond_true, cond_false] at h
  · intro next Q hn
    exact eff_goes hI h next Q (fun s v bxs w' g' hinv hk => hn _ v w' g' hinv hk)
  · exact evLin_goes hI h

end
end Go.Proofs.Ytfeepndphaboeaa.Ab
