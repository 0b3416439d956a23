/-
  THE ABSTRACT WALK: one step of a region; two steps that see nothing of each other.
-/
import Derived.Test.YtfeepndphaboeaaAb17
set_option linter.unusedVariables false
set_option linter.unusedSimpArgs false
namespace Go.Proofs.Ytfeepndphaboeaa.Ab
open Go Go.RowKit

/-- the environment behind a step -/
def fin (o : Oper) (src : Option (Nat × Slot)) (s : Slot) (U : Option (Nat × Box)) (e : Env) : Env := ⟨putSlot (setO src e.slots) o.dst s, upd U e.boxes⟩

section
variable {P : Program} {gl : Nat → Option D} {C : Con}

def rho (gl : Nat → Option D) (e : Env) (x : Operand) : Slot := (Ab.opnd gl e x).demote

theorem mem_tmpsOf {o : Oper} {t : Nat} (h : Operand.tmp t ∈ o.op.operands) : t ∈ tmpsOf o := List.mem_filterMap.2 ⟨.tmp t, by simpa using h, rfl⟩

theorem opnd_same {e e' : Env} {o : Oper} (h : ∀ t ∈ tmpsOf o, e'.slots.getD t (.v .undef) = e.slots.getD t (.v .undef)) {x : Operand} (hx : x ∈ o.op.operands) : Ab.opnd gl e' x = Ab.opnd gl e x := by
  cases x with
  | tmp t => exact h t (mem_tmpsOf hx)
  | _ => rfl

theorem stays_demote (s : Slot) : s.demote.stays = s.stays := by cases s <;> rfl

theorem dem_dem (x : SV) : Ab.demote (Ab.demote x) = Ab.demote x := by cases x <;> rfl
theorem map_set_dem {cs : List SV} {off : Nat} {y : SV} (hy : cs[off]? = some y) : cs.map Ab.demote = (cs.set off (Ab.demote y)).map Ab.demote := by
  apply List.ext_getElem?
  intro i
  rw [List.getElem?_map, List.getElem?_map, List.getElem?_set]
  by_cases h : off = i
  · subst h
    obtain ⟨hl, hq⟩ := List.getElem?_eq_some_iff.1 hy
    simp [hl, hq, dem_dem]
  · simp [h]
theorem snap_near {bxs : List Box} {b : Nat} {cs cs' : List SV} (hb : bxs[b]? = some (.cells cs)) (h : cs.map Ab.demote = cs'.map Ab.demote) : ∀ (n : Nat) (s : Slot), snap (bxs.set b (.cells cs')) n s = snap bxs n s := by
  intro n
  induction n with
  | zero => intro s; rfl
  | succ n ih =>
    intro s
    have hf : snap (bxs.set b (.cells cs')) n = snap bxs n := funext ih
    cases s with
    | v x => rfl
    | p b2 off =>
      simp only [snap]
      by_cases h2 : b = b2
      · subst h2
        rw [List.getElem?_set_self (List.getElem?_eq_some_iff.1 hb).1, hb]
        simp only [h]
      · rw [List.getElem?_set_ne h2, hf]
    | c f first cap => simp only [snap, hf]
    | t l => rfl
theorem same_near {w : Bool} (hw : w = true) {bxs : List Box} {b : Nat} {old bx : Box} (hb : bxs[b]? = some old) (h : ∃ cs cs', old = .cells cs ∧ bx = .cells cs' ∧ cs.map Ab.demote = cs'.map Ab.demote) (s : Slot) : SameAt w s bxs (bxs.set b bx) := by
  obtain ⟨cs, cs', rfl, rfl, hm⟩ := h
  refine ⟨fun b2 off hs => ⟨?_, fun h => by rw [hw] at h; cases h⟩, fun n => snap_near hb hm n s⟩
  by_cases h2 : b = b2
  · subst h2
    rw [List.getElem?_set_self (List.getElem?_eq_some_iff.1 hb).1, hb]
    exact .inr ⟨cs', cs, rfl, rfl, hm.symm⟩
  · rw [List.getElem?_set_ne h2]
    exact .refl _

theorem evLin_spec {id : Nat} {o : Oper} {e : Env} {k : Env → Prop} (h : evLin P gl o e k) :
    ∃ src s U, k (fin o src s U e) ∧ UFact id o true (rho gl e) e.boxes U ∧ (∀ t d, src = some (t, d) → t ∈ tmpsOf o ∧ d.stays = (e.slots.getD t (.v .undef)).stays) ∧
      ∀ (e' : Env) (k' : Env → Prop), (∀ t ∈ tmpsOf o, e'.slots.getD t (.v .undef) = e.slots.getD t (.v .undef)) → Sees id true o U (rho gl e) e.boxes e'.boxes → k' (fin o src s U e') → evLin P gl o e' k' := by
  unfold evLin at h
  split at h
  · rename_i t ho
    refine ⟨some (t, _), _, none, h, .none, fun t' d hd => by cases hd; exact ⟨mem_tmpsOf (by rw [ho]; simp [Op.operands]), stays_demote _⟩, fun e' k' hl _ hk => ?_⟩
    simp only [evLin, ho]; rw [hl t (mem_tmpsOf (by rw [ho]; simp [Op.operands]))]; exact hk
  · rename_i t ho
    refine ⟨some (t, _), _, none, h, .none, fun t' d hd => by cases hd; exact ⟨mem_tmpsOf (by rw [ho]; simp [Op.operands]), stays_demote _⟩, fun e' k' hl _ hk => ?_⟩
    simp only [evLin, ho]; rw [hl t (mem_tmpsOf (by rw [ho]; simp [Op.operands]))]; exact hk
  · rename_i t i ho
    split at h
    · rename_i vs hs
      split at h
      · rename_i r hr
        refine ⟨some (t, _), _, none, h, .none, fun t' d hd => by cases hd; exact ⟨mem_tmpsOf (by rw [ho]; simp [Op.operands]), by rw [hs]; rfl⟩, fun e' k' hl _ hk => ?_⟩
        simp only [evLin, ho]; rw [hl t (mem_tmpsOf (by rw [ho]; simp [Op.operands])), hs]; simp only [hr]; exact hk
      · exact h.elim
    · exact h.elim
  · rename_i ty x ho
    split at h
    · rename_i b off hs
      obtain ⟨ly, hl, h⟩ := bindO_some h
      cases hly : ly.1 with
      | true => rw [hly] at h; exact h.elim
      | false =>
        rw [hly] at h
        simp only [cond_false] at h
        split at h
        · rename_i cs hcs
          obtain ⟨y, hy, h⟩ := bindO_some h
          refine ⟨none, _, some (b, _), h, .wr b _ _ (by simp [looksMem, ho]) (.inr rfl) x (by rw [ho]; simp [Op.operands]) off hs hcs (by simp) (by simp) (fun _ _ => ⟨cs, _, rfl, rfl, map_set_dem hy⟩), fun _ _ h => (by cases h), fun e' k' hls hS hk => ?_⟩
          have hb := ((hS.mem (by simp [looksMem, ho]) x (by rw [ho]; simp [Op.operands])).1 b off hs).2 (by simp)
          simp only [evLin, ho, hl, bindO, hly, cond_false]
          rw [opnd_same hls (x := x) (by rw [ho]; simp [Op.operands]), hs]
          simp only [hb, hcs, hy]; exact hk
        · exact h.elim
    · exact h.elim
  · rename_i ty x t ho
    split at h
    · rename_i b off y hs hy hd
      obtain ⟨sz, hsz, h⟩ := bindO_some h
      cases hb : Nat.beq sz 1 with
      | false => rw [hb] at h; exact h.elim
      | true =>
        rw [hb] at h
        simp only [cond_true] at h
        split at h
        · rename_i cs hcs
          obtain ⟨l, hl, h1, h2, h⟩ := bindO_some h
          refine ⟨some (t, .v (demote y)), .t [], some (b, .cells (setAt cs off l)), ?_, .wr b _ _ (by simp [looksMem, ho]) (.inr rfl) x (by rw [ho]; simp [Op.operands]) off hs hcs (by simp) (by simp) (fun _ h => by simp [writesMem, ho] at h), fun t' d hd => by cases hd; exact ⟨mem_tmpsOf (by rw [ho]; simp [Op.operands]), by rw [hy]; rfl⟩, fun e' k' hls hS hk => ?_⟩
          · simp only [fin, hd, putSlot, setO, upd]; exact h
          · have hbb := ((hS.mem (by simp [looksMem, ho]) x (by rw [ho]; simp [Op.operands])).1 b off hs).2 (by simp)
            simp only [fin, hd, putSlot, setO, upd] at hk
            simp only [evLin, ho]
            rw [opnd_same hls (x := x) (by rw [ho]; simp [Op.operands]), hs, hls t (mem_tmpsOf (by rw [ho]; simp [Op.operands])), hy, hd]
            simp only [hsz, bindO, hb, cond_true, hbb, hcs, hl]; exact ⟨h1, h2, hk⟩
        · exact h.elim
    · exact h.elim
  · rename_i c ho
    split at h
    · rename_i t y ty u hc hx ht
      have hmt : Operand.tmp t ∈ o.op.operands := by
        rw [ho]; simp only [Op.operands, Call.operands, Array.mem_append]; exact .inr (by rw [← Array.mem_toList_iff, hx]; simp)
      have hmy : y ∈ o.op.operands := by
        rw [ho]; simp only [Op.operands, Call.operands, Array.mem_append]; exact .inr (by rw [← Array.mem_toList_iff, hx]; simp)
      cases htu : Nat.beq ty u with
      | false => rw [htu] at h; exact h.elim
      | true =>
        rw [htu] at h
        simp only [cond_true] at h
        obtain ⟨e', he, h⟩ := bindO_some h
        obtain ⟨sz, hsz, h⟩ := bindO_some h
        obtain ⟨by_, hby, h⟩ := bindO_some h
        obtain ⟨z, hz, h⟩ := bindO_some h
        cases hcc : (Nat.blt 0 by_ && Nat.blt 0 sz && Nat.beq z.length sz) with
        | false => rw [hcc] at h; exact h.elim
        | true =>
          rw [hcc] at h
          obtain ⟨r, hr, hb, h⟩ := bindO_some h
          refine ⟨some (t, _), _, none, h, .none, fun t' d hd => by cases hd; exact ⟨mem_tmpsOf hmt, stays_demote _⟩, fun e' k' hls hS hk => ?_⟩
          simp only [evLin, ho, hc, hx, ht]
          rw [hls t (mem_tmpsOf hmt), opnd_same hls hmy]
          simp only [htu, cond_true, he, hsz, hby, hz, bindO, hcc, appP, hr]; exact ⟨hb, hk⟩
    · exact h.elim
  · exact h.elim

theorem evOp_spec {id : Nat} {lin : Bool} {o : Oper} {e : Env} {k : Env → Prop} (h : evOp P gl C id lin o e k) :
    ∃ src s U, k (fin o src s U e) ∧ UFact id o lin (rho gl e) e.boxes U ∧ (∀ t d, src = some (t, d) → lin = true ∧ t ∈ tmpsOf o ∧ d.stays = (e.slots.getD t (.v .undef)).stays) ∧
      ∀ (e' : Env) (k' : Env → Prop), (∀ t ∈ tmpsOf o, e'.slots.getD t (.v .undef) = e.slots.getD t (.v .undef)) → Sees id lin o U (rho gl e) e.boxes e'.boxes → k' (fin o src s U e') → evOp P gl C id lin o e' k' := by
  unfold evOp at h
  cases lin <;> simp only [cond_true, cond_false] at h
  · obtain ⟨s, U, hk, hu, hs⟩ := eff_spec h
    refine ⟨none, s, U, hk, hu, fun t d h => (by cases h), ?_⟩
    intro e' k' hl hS hk
    unfold evOp
    simp only [cond_false]
    exact hs _ _ _ (fun x hx => by rw [opnd_same hl hx]) hS hk
  · obtain ⟨src, s, U, hk, hu, hsr, hs⟩ := evLin_spec (id := id) h
    refine ⟨src, s, U, hk, hu, fun t d h => ⟨rfl, hsr t d h⟩, fun e' k' hl hS hk => ?_⟩
    unfold evOp
    simp only [cond_true]
    exact hs e' k' hl hS hk

/-- is an operation wanted -/
def gsel (all : List Oper) (o : Oper) (e : Env) : Option Bool := match o.guard with
  | none => some true
  | some (j, want) => (match (match all[j]? with | some g => g.dst | none => none) with
    | some t => (match e.slots.getD t (.v .undef) with
      | .v (.d (.bool c)) => some (c == want)
      | .t _ => some false
      | _ => none)
    | none => none)

theorem setB_self {e : Env} {t : Nat} {c : Bool} (h : e.slots.getD t (.v .undef) = .v (.d (.bool c))) : e.setB t c = e := by
  unfold Env.setB
  rcases Nat.lt_or_ge t e.slots.length with hl | hl
  · rw [List.getD_eq_getElem?_getD, List.getElem?_eq_getElem hl] at h
    simp only [Option.getD_some] at h
    rw [← h, List.set_getElem_self]
  · rw [List.getD_eq_getElem?_getD, List.getElem?_eq_none hl] at h
    simp at h

theorem guardP_iff {all : List Oper} {o : Oper} {e : Env} {A B : Env → Prop} : guardP all o e A B ↔ (match gsel all o e with | some true => A e | some false => B e | none => False) := by
  unfold guardP gsel
  cases hg : o.guard with
  | none => exact Iff.rfl
  | some p =>
    obtain ⟨j, want⟩ := p
    simp only
    cases hj : all[j]? with
    | none => exact Iff.rfl
    | some q =>
      simp only
      cases hq : q.dst with
      | none => exact Iff.rfl
      | some t =>
        simp only
        cases hx : e.slots.getD t (.v .undef) with
        | v x =>
          cases x with
          | d y =>
            cases y with
            | bool c =>
              have h1 := setB_self hx
              simp only [ifP]
              cases c <;> cases want <;> simp [h1]
            | _ => exact Iff.rfl
          | _ => exact Iff.rfl
        | _ => exact Iff.rfl

def step1 (P : Program) (gl : Nat → Option D) (C : Con) (all : List Oper) (id : Nat) (lin : Bool) (o : Oper) (e : Env) (k : Env → Prop) : Prop :=
  guardP all o e (fun e' => evOp P gl C id lin o e' k) (fun e' => k ⟨putSlot e'.slots o.dst (.t []), e'.boxes⟩)

/-- a step's outcome -/
structure Out (P : Program) (gl : Nat → Option D) (C : Con) (ops : Array Oper) (id : Nat) (lin : Bool) (o : Oper) (e : Env) (src : Option (Nat × Slot)) (s : Slot) (U : Option (Nat × Box)) : Prop where
  uf : UFact id o lin (rho gl e) e.boxes U
  src_ : ∀ t d, src = some (t, d) → lin = true ∧ t ∈ tmpsOf o
  stab : ∀ (e' : Env) (k' : Env → Prop), (∀ t ∈ o.looksAt ops, e'.slots.getD t (.v .undef) = e.slots.getD t (.v .undef)) → Sees id lin o U (rho gl e) e.boxes e'.boxes → k' (fin o src s U e') → step1 P gl C ops.toList id lin o e' k'

theorem gsel_same {ops : Array Oper} {o : Oper} {e e' : Env} (h : ∀ t ∈ o.looksAt ops, e'.slots.getD t (.v .undef) = e.slots.getD t (.v .undef)) : gsel ops.toList o e' = gsel ops.toList o e := by
  unfold gsel
  split
  · rfl
  · rename_i j want hg
    split
    · rename_i t ht
      have hm : t ∈ o.looksAt ops := by
        refine List.mem_append_right _ ?_
        rw [hg]
        simp only [Option.mem_toList]
        rw [Array.getElem?_toList] at ht
        cases hj : ops[j]? with
        | none => rw [hj] at ht; cases ht
        | some g => rw [hj] at ht; exact ht
      rw [h t hm]
    · rfl

theorem tmps_looks {ops : Array Oper} {o : Oper} {t : Nat} (h : t ∈ tmpsOf o) : t ∈ o.looksAt ops := List.mem_append_left _ h

theorem step1_spec {ops : Array Oper} {id : Nat} {lin : Bool} {o : Oper} {e : Env} {k : Env → Prop} (h : step1 P gl C ops.toList id lin o e k) : ∃ src s U, k (fin o src s U e) ∧ Out P gl C ops id lin o e src s U ∧ ∀ t d, src = some (t, d) → d.stays = (e.slots.getD t (.v .undef)).stays := by
  have h' := guardP_iff.1 h
  split at h'
  · rename_i hg
    obtain ⟨src, s, U, hk, hu, hsr, hs⟩ := evOp_spec h'
    refine ⟨src, s, U, hk, ⟨hu, fun t d h => ⟨(hsr t d h).1, (hsr t d h).2.1⟩, fun e' k' hl hS hk => ?_⟩, fun t d h => (hsr t d h).2.2⟩
    refine guardP_iff.2 ?_
    rw [gsel_same hl, hg]
    exact hs e' k' (fun t ht => hl t (tmps_looks ht)) hS hk
  · rename_i hg
    refine ⟨none, .t [], none, h', ⟨.none, fun t d h => (by cases h), ?_⟩, fun t d h => (by cases h)⟩
    intro e' k' hl hS hk
    refine guardP_iff.2 ?_
    rw [gsel_same hl, hg]
    exact hk
  · exact h'.elim

theorem mk_not_looks {o : Oper} (h : makesMem o = true) : looksMem o = false := by
  unfold makesMem at h
  unfold looksMem
  split at h
  · rename_i ho; simp [ho]
  · rename_i ho; simp [ho]
  · cases h

theorem SameAt.refl {q : Bool} (s : Slot) (b : List Box) : SameAt q s b b := ⟨fun _ _ _ => ⟨.refl _, fun _ => rfl⟩, fun _ => rfl⟩
theorem SameAt.trans {q : Bool} {s : Slot} {a b c : List Box} (h : SameAt q s a b) (k : SameAt q s b c) : SameAt q s a c :=
  ⟨fun x off hx => ⟨(k.1 x off hx).1.trans (h.1 x off hx).1, fun hq => ((k.1 x off hx).2 hq).trans ((h.1 x off hx).2 hq)⟩, fun n => (k.2 n).trans (h.2 n)⟩
theorem SameAt.symm {q : Bool} {s : Slot} {a b : List Box} (h : SameAt q s a b) : SameAt q s b a := ⟨fun x off hx => ⟨(h.1 x off hx).1.symm, fun hq => ((h.1 x off hx).2 hq).symm⟩, fun n => (h.2 n).symm⟩

theorem Out.fresh0 {ops : Array Oper} {id : Nat} {lin : Bool} {o : Oper} {e : Env} {src : Option (Nat × Slot)} {s : Slot} {U : Option (Nat × Box)} (h : Out P gl C ops id lin o e src s U)
    (hm : makesMem o = true) (hU : U ≠ none) : ∃ bx, U = some (id, bx) ∧ bx ≠ .none ∧ e.boxes[id]? = some .none := by
  cases h.uf with
  | none => exact absurd rfl hU
  | mk bx _ hn hb => exact ⟨bx, rfl, hb, hn⟩
  | wr b bx old h' => rw [mk_not_looks hm] at h'; cases h'

theorem Out.run {ops : Array Oper} {id : Nat} {lin : Bool} {o : Oper} {e : Env} {src : Option (Nat × Slot)} {s : Slot} {U : Option (Nat × Box)} (h : Out P gl C ops id lin o e src s U) {k : Env → Prop}
    (hk : k (fin o src s U e)) : step1 P gl C ops.toList id lin o e k :=
  h.stab e k (fun _ _ => rfl) ⟨fun _ x _ => .refl _ _, fun hm hU => (h.fresh0 hm hU).choose_spec.2.2⟩ hk

/-- a state that can be -/
def Good (gl : Nat → Option D) (e : Env) : Prop := ∃ w0 St0 a w g, Inv gl w0 St0 e a w g

theorem unseen_slot {w0 : World} {St0 : Nat → Nat → Prop} {e : Env} {a : Act} {w : World} {g : Gh} (hI : Inv gl w0 St0 e a w g) {id : Nat} (hid : e.boxes[id]? = some .none) (bx : Box) :
    ∀ (n : Nat) {O : Nat → Nat → Nat → Nat → Prop} {s : Slot} {v : Value}, RepS w0.heap.size w g O s v → (∀ b off, s = .p b off → b ≠ id) ∧ snap (e.boxes.set id bx) n s = snap e.boxes n s := by
  have hne : ∀ b blk, g.bx[b]? = some (some blk) → b ≠ id := by
    rintro b blk hb rfl
    obtain ⟨_, _, _, _, _, hr⟩ := hI.boxes b .none blk hid hb
    exact hr
  intro n
  induction n with
  | zero =>
    intro O s v h
    refine ⟨fun b off hs => ?_, rfl⟩
    subst hs
    obtain ⟨blk, _, hb⟩ := h.p_inv
    exact hne b blk hb
  | succ n ih =>
    intro O s v h
    refine ⟨fun b off hs => ?_, ?_⟩
    · subst hs
      obtain ⟨blk, _, hb⟩ := h.p_inv
      exact hne b blk hb
    cases h with
    | v _ x _ h => rfl
    | p _ b off blk hb =>
      simp only [snap]
      rw [List.getElem?_set_ne (fun h => hne b blk hb h.symm)]
      cases hbx : e.boxes[b]? with
      | none => rfl
      | some bxv =>
        cases bxv with
        | none => rfl
        | cells cs => rfl
        | one s' =>
          simp only
          obtain ⟨_, c, t, hc, _, hsz, hr⟩ := hI.boxes b _ blk hbx hb
          have hc0 : c[0]? = some (c[0]'(by omega)) := by simp
          rw [(ih (hr _ hc0)).2]
    | c _ f first cap fv cv hf hc rf rc =>
      simp only [snap]
      have hlist : ∀ (l : List Slot) (vs : Array Value), l.length = vs.size → (∀ (i : Nat) x v, l[i]? = some x → vs[i]? = some v → RepS w0.heap.size w g (fun _ _ _ _ => False) x v) →
          snapList (snap (e.boxes.set id bx) n) l = snapList (snap e.boxes n) l := by
        intro l vs hl hr
        apply List.ext_getElem?
        intro i
        rw [(snapList_get _ l).2, (snapList_get _ l).2]
        cases hi : l[i]? with
        | none => rfl
        | some x =>
          have hlt : i < vs.size := by rw [← hl]; exact (List.getElem?_eq_some_iff.1 hi).1
          simp only [Option.map_some]
          rw [(ih (hr i x vs[i] hi (by simp))).2]
      rw [hlist first fv hf rf, hlist cap cv hc rc]
    | t => rfl

theorem unseen {q : Bool} {e : Env} (hG : Good gl e) {id : Nat} (hid : e.boxes[id]? = some .none) (bx : Box) (x : Operand) : SameAt q (rho gl e x) e.boxes (e.boxes.set id bx) := by
  obtain ⟨w0, St0, a, w, g, hI⟩ := hG
  have h := hI.opnd x
  refine ⟨fun b off hs => ?_, fun n => (unseen_slot hI hid bx n h).2⟩
  have := (unseen_slot hI hid bx 0 h).1 b off hs
  rw [List.getElem?_set_ne (fun h => this h.symm)]
  exact ⟨.refl _, fun _ => rfl⟩

theorem ptr_ne {e : Env} (hG : Good gl e) {x : Operand} {b off : Nat} (hp : rho gl e x = .p b off) : e.boxes[b]? ≠ some .none := by
  intro hid
  obtain ⟨w0, St0, a, w, g, hI⟩ := hG
  exact (unseen_slot hI hid .none 0 (hI.opnd x)).1 b off hp rfl

theorem getD_set_ne' {l : List Slot} {i j : Nat} {x d : Slot} (h : i ≠ j) : (l.set i x).getD j d = l.getD j d := by
  rw [List.getD_eq_getElem?_getD, List.getElem?_set_ne h, ← List.getD_eq_getElem?_getD]

theorem fin_getD {o : Oper} {lin : Bool} {src : Option (Nat × Slot)} {s : Slot} {U : Option (Nat × Box)} {e : Env} (hsrc : ∀ t d, src = some (t, d) → lin = true ∧ t ∈ tmpsOf o) {t : Nat} (ht : t ∉ touches lin o) :
    (fin o src s U e).slots.getD t (.v .undef) = e.slots.getD t (.v .undef) := by
  have h1 : ∀ d, o.dst = some d → d ≠ t := fun d hd h => ht (by subst h; simp [touches, hd])
  have h2 : ∀ u d, src = some (u, d) → u ≠ t := fun u d hd h => by
    obtain ⟨h3, h4⟩ := hsrc u d hd
    subst h
    exact ht (by simp [touches, h3, h4])
  unfold fin putSlot setO
  simp only
  cases hd : o.dst with
  | none =>
    simp only
    cases hs : src with
    | none => rfl
    | some p => exact getD_set_ne' (h2 p.1 p.2 hs)
  | some d =>
    simp only
    rw [getD_set_ne' (h1 d hd)]
    cases hs : src with
    | none => rfl
    | some p => exact getD_set_ne' (h2 p.1 p.2 hs)

theorem set_comm' (l : List Slot) {i j : Nat} (x y : Slot) (h : i ≠ j) : (l.set i x).set j y = (l.set j y).set i x := List.set_comm _ _ h

theorem slots_comm {ox oy : Oper} {lx ly : Bool} {sx sy : Option (Nat × Slot)} {rx ry : Slot} (hx : ∀ t d, sx = some (t, d) → lx = true ∧ t ∈ tmpsOf ox) (hy : ∀ t d, sy = some (t, d) → ly = true ∧ t ∈ tmpsOf oy)
    (hd : ∀ t, t ∈ touches lx ox → t ∉ touches ly oy) (l : List Slot) : putSlot (setO sx (putSlot (setO sy l) oy.dst ry)) ox.dst rx = putSlot (setO sy (putSlot (setO sx l) ox.dst rx)) oy.dst ry := by
  have a1 : ∀ d, ox.dst = some d → d ∈ touches lx ox := fun d h => by simp [touches, h]
  have a2 : ∀ d, oy.dst = some d → d ∈ touches ly oy := fun d h => by simp [touches, h]
  have a3 : ∀ t d, sx = some (t, d) → t ∈ touches lx ox := fun t d h => by obtain ⟨h1, h2⟩ := hx t d h; simp [touches, h1, h2]
  have a4 : ∀ t d, sy = some (t, d) → t ∈ touches ly oy := fun t d h => by obtain ⟨h1, h2⟩ := hy t d h; simp [touches, h1, h2]
  have ne : ∀ {s t : Nat}, s ∈ touches lx ox → t ∈ touches ly oy → s ≠ t := fun h1 h2 h => hd _ h1 (h ▸ h2)
  cases hdx : ox.dst with
  | none =>
    cases hdy : oy.dst with
    | none =>
      cases sx with
      | none => rfl
      | some p =>
        cases sy with
        | none => rfl
        | some q => simp only [putSlot, setO]; exact set_comm' _ _ _ (ne (a3 _ _ rfl) (a4 _ _ rfl)).symm
    | some d =>
      cases sx with
      | none => rfl
      | some p =>
        cases sy with
        | none => simp only [putSlot, setO]; exact set_comm' _ _ _ (ne (a3 _ _ rfl) (a2 _ hdy)).symm
        | some q => simp only [putSlot, setO]; rw [set_comm' _ _ _ (ne (a3 _ _ rfl) (a2 _ hdy)).symm, set_comm' l _ _ (ne (a3 _ _ rfl) (a4 _ _ rfl)).symm]
  | some c =>
    cases hdy : oy.dst with
    | none =>
      cases sy with
      | none => rfl
      | some q =>
        cases sx with
        | none => simp only [putSlot, setO]; exact set_comm' _ _ _ (ne (a1 _ hdx) (a4 _ _ rfl)).symm
        | some p => simp only [putSlot, setO]; rw [set_comm' l _ _ (ne (a3 _ _ rfl) (a4 _ _ rfl)).symm, set_comm' _ _ _ (ne (a1 _ hdx) (a4 _ _ rfl)).symm]
    | some d =>
      have hcd := ne (a1 _ hdx) (a2 _ hdy)
      cases sx with
      | none =>
        cases sy with
        | none => simp only [putSlot, setO]; exact set_comm' _ _ _ hcd.symm
        | some q => simp only [putSlot, setO]; rw [set_comm' _ _ _ hcd.symm, set_comm' l _ _ (ne (a1 _ hdx) (a4 _ _ rfl)).symm]
      | some p =>
        cases sy with
        | none => simp only [putSlot, setO]; rw [set_comm' l _ _ (ne (a3 _ _ rfl) (a2 _ hdy)).symm, set_comm' _ _ _ hcd.symm]
        | some q =>
          simp only [putSlot, setO]
          rw [set_comm' _ _ _ (ne (a3 _ _ rfl) (a2 _ hdy)).symm, set_comm' l _ _ (ne (a3 _ _ rfl) (a4 _ _ rfl)).symm, set_comm' _ _ _ hcd.symm, set_comm' (l.set _ _) _ _ (ne (a1 _ hdx) (a4 _ _ rfl)).symm]

structure Indep (ops : Array Oper) (lx ly : Bool) (x y : Oper) : Prop where
  d1 : ∀ t ∈ touches lx x, t ∉ y.looksAt ops
  d2 : ∀ t ∈ touches lx x, t ∉ touches ly y
  d3 : ∀ t ∈ touches ly y, t ∉ x.looksAt ops
  m1 : ¬ (writesMem x = true ∧ looksMem y = true)
  m2 : ¬ (writesMem y = true ∧ looksMem x = true)
  m3 : ¬ (lx = true ∧ ly = true ∧ looksMem x = true ∧ looksMem y = true)

theorem indep_iff {ops : Array Oper} {lx ly : Bool} {x y : Oper} (h : indep ops lx ly x y = true) : Indep ops lx ly x y := by
  simp only [indep, Bool.and_eq_true, List.all_eq_true, Bool.not_eq_true', List.contains_eq_mem, decide_eq_false_iff_not, Bool.and_eq_false_iff] at h
  obtain ⟨⟨⟨⟨h1, h2⟩, h3⟩, h4⟩, h5⟩ := h
  refine ⟨fun t ht => (h1 t ht).1, fun t ht => (h1 t ht).2, fun t ht => h2 t ht, ?_, ?_, ?_⟩
  · rintro ⟨a, b⟩; rcases h3 with h | h <;> simp_all
  · rintro ⟨a, b⟩; rcases h4 with h | h <;> simp_all
  · rintro ⟨a, b, c, d⟩; rcases h5 with ((h | h) | h) | h <;> simp_all

/-- TWO STEPS THAT SEE NOTHING OF EACH OTHER: the second may come first -/
theorem diamond {ops : Array Oper} {ix iy : Nat} {lx ly : Bool} {x y : Oper} {e : Env} {sx sy : Option (Nat × Slot)} {rx ry : Slot} {Ux Uy : Option (Nat × Box)} (hG : Good gl e) (hi : Indep ops lx ly x y)
    (hx : Out P gl C ops ix lx x e sx rx Ux) (hy : Out P gl C ops iy ly y (fin x sx rx Ux e) sy ry Uy) :
    Out P gl C ops iy ly y e sy ry Uy ∧ Out P gl C ops ix lx x (fin y sy ry Uy e) sx rx Ux ∧ fin y sy ry Uy (fin x sx rx Ux e) = fin x sx rx Ux (fin y sy ry Uy e) := by
  -- what y looks at is the same in e
  have ly1 : ∀ t ∈ y.looksAt ops, (fin x sx rx Ux e).slots.getD t (.v .undef) = e.slots.getD t (.v .undef) := fun t ht => fin_getD hx.src_ fun h => hi.d1 t h ht
  have lx1 : ∀ t ∈ x.looksAt ops, (fin y sy ry Uy e).slots.getD t (.v .undef) = e.slots.getD t (.v .undef) := fun t ht => fin_getD hy.src_ fun h => hi.d3 t h ht
  have ry1 : ∀ z ∈ y.op.operands, rho gl (fin x sx rx Ux e) z = rho gl e z := fun z hz => by unfold rho; rw [opnd_same (fun t ht => ly1 t (tmps_looks ht)) hz]
  have rx1 : ∀ z ∈ x.op.operands, rho gl (fin y sy ry Uy e) z = rho gl e z := fun z hz => by unfold rho; rw [opnd_same (fun t ht => lx1 t (tmps_looks ht)) hz]
  have hbx : (fin x sx rx Ux e).boxes = upd Ux e.boxes := rfl
  have hby : (fin y sy ry Uy e).boxes = upd Uy e.boxes := rfl
  -- where y writes, in e
  have yU : UFact iy y ly (rho gl e) e.boxes Uy := by
    cases hy.uf with
    | none => exact .none
    | mk bx h hn hb =>
      refine .mk bx h ?_ hb
      rw [hbx] at hn
      cases hx.uf with
      | none => exact hn
      | mk bx' h' hn' hb' =>
        simp only [upd] at hn
        by_cases hii : ix = iy
        · subst hii
          rw [List.getElem?_set_self (List.getElem?_eq_some_iff.1 hn').1] at hn
          exact absurd (Option.some.inj hn) hb'
        · rwa [List.getElem?_set_ne hii] at hn
      | wr b bx' old h' hw' z hz off hp ho hold hb' =>
        simp only [upd] at hn
        by_cases hii : b = iy
        · subst hii
          rw [List.getElem?_set_self (List.getElem?_eq_some_iff.1 ho).1] at hn
          exact absurd (Option.some.inj hn) hb'
        · rwa [List.getElem?_set_ne hii] at hn
    | wr b bx old h hw z hz off hp ho hold hb near =>
      rw [ry1 z hz] at hp
      rw [hbx] at ho
      cases hx.uf with
      | none => exact .wr b bx old h hw z hz off hp ho hold hb near
      | mk bx' h' hn' hb' =>
        have hne : ix ≠ b := by
          rintro rfl
          exact ptr_ne hG hp hn'
        simp only [upd] at ho
        rw [List.getElem?_set_ne hne] at ho
        exact .wr b bx old h hw z hz off hp ho hold hb near
      | wr b' bx' old' h' hw' z' hz' off' hp' ho' hold' hb' =>
        exfalso
        rcases hw' with hw' | hw'
        · exact hi.m1 ⟨hw', h⟩
        · rcases hw with hw | hw
          · exact hi.m2 ⟨hw, h'⟩
          · exact hi.m3 ⟨hw', hw, h', h⟩
  -- both write: not the same place
  have hdiff : ∀ b bx b' bx', Ux = some (b, bx) → Uy = some (b', bx') → b ≠ b' := by
    intro b bx b' bx' h1 h2
    subst h1 h2
    have hyf := hy.uf
    cases hx.uf with
    | mk _ h' hn' hb' =>
      cases yU with
      | mk _ h hn hb =>
        rintro rfl
        cases hyf with
        | mk _ h2 hn2 hb2 =>
          rw [hbx] at hn2
          simp only [upd] at hn2
          rw [List.getElem?_set_self (List.getElem?_eq_some_iff.1 hn').1] at hn2
          exact hb' (Option.some.inj hn2)
        | wr _ _ _ h2 => rw [mk_not_looks h] at h2; cases h2
      | wr _ _ old h hw z hz off hp ho hold hb =>
        rintro rfl
        exact ptr_ne hG hp hn'
    | wr _ _ old' h' hw' z' hz' off' hp' ho' hold' hb' =>
      cases yU with
      | mk _ h hn hb =>
        rintro rfl
        rw [ho'] at hn
        exact hold' (Option.some.inj hn)
      | wr _ _ old h hw z hz off hp ho hold hb =>
        exfalso
        rcases hw' with hw' | hw'
        · exact hi.m1 ⟨hw', h⟩
        · rcases hw with hw | hw
          · exact hi.m2 ⟨hw, h'⟩
          · exact hi.m3 ⟨hw', hw, h', h⟩
  refine ⟨⟨yU, hy.src_, fun e' k' hl hS hk => ?_⟩, ⟨?_, hx.src_, fun e' k' hl hS hk => ?_⟩, ?_⟩
  · refine hy.stab e' k' (fun t ht => (hl t ht).trans (ly1 t ht).symm) ⟨fun hm z hz => ?_, fun hm hU => hS.fresh hm hU⟩ hk
    rw [ry1 z hz]
    refine SameAt.trans ?_ (hS.mem hm z hz)
    rw [hbx]
    cases hx.uf with
    | none => exact .refl _ _
    | mk bx' h' hn' hb' => exact (unseen hG hn' bx' z).symm
    | wr b' bx' old' h' hw' z' hz' off' hp' ho' hold' hb' near =>
      have nx : writesMem x = false := by cases hq : writesMem x with | false => rfl | true => exact absurd ⟨hq, hm⟩ hi.m1
      have lx' : lx = true := by rcases hw' with h | h; exact absurd ⟨h, hm⟩ hi.m1; exact h
      have ny : writesMem y = false := by cases hq : writesMem y with | false => rfl | true => exact absurd ⟨hq, h'⟩ hi.m2
      have ly' : ly = false := by cases hq : ly with | false => rfl | true => exact absurd ⟨lx', hq, h', hm⟩ hi.m3
      exact (same_near (by rw [ny, ly']; rfl) ho' (near lx' nx) _).symm
  · cases hxu : hx.uf with
    | none => exact .none
    | mk bx' h' hn' hb' =>
      refine .mk bx' h' ?_ hb'
      rw [hby]
      cases hU : Uy with
      | none => exact hn'
      | some p =>
        simp only [upd]
        rw [List.getElem?_set_ne (hdiff _ _ _ _ rfl hU).symm]
        exact hn'
    | wr b' bx' old' h' hw' z' hz' off' hp' ho' hold' hb' near =>
      refine .wr b' bx' old' h' hw' z' hz' off' (by rw [rx1 z' hz']; exact hp') ?_ hold' hb' near
      rw [hby]
      cases hU : Uy with
      | none => exact ho'
      | some p =>
        simp only [upd]
        rw [List.getElem?_set_ne (hdiff _ _ _ _ rfl hU).symm]
        exact ho'
  · refine hx.stab e' k' (fun t ht => (hl t ht).trans (lx1 t ht)) ⟨fun hm z hz => ?_, fun hm hU => hS.fresh hm hU⟩ hk
    have h1 := hS.mem hm z hz
    rw [rx1 z hz] at h1
    refine SameAt.trans ?_ h1
    rw [hby]
    cases yU with
    | none => exact .refl _ _
    | mk bx' h' hn' hb' => exact unseen hG hn' bx' z
    | wr b' bx' old' h' hw' z' hz' off' hp' ho' hold' hb' near =>
      have ny : writesMem y = false := by cases hq : writesMem y with | false => rfl | true => exact absurd ⟨hq, hm⟩ hi.m2
      have ly' : ly = true := by rcases hw' with h | h; exact absurd ⟨h, hm⟩ hi.m2; exact h
      have nx : writesMem x = false := by cases hq : writesMem x with | false => rfl | true => exact absurd ⟨hq, h'⟩ hi.m1
      have lx' : lx = false := by cases hq : lx with | false => rfl | true => exact absurd ⟨hq, ly', hm, h'⟩ hi.m3
      exact same_near (by rw [nx, lx']; rfl) ho' (near ly' ny) _
  · unfold fin
    rw [Env.mk.injEq]
    refine ⟨(slots_comm hx.src_ hy.src_ hi.d2 e.slots).symm, ?_⟩
    simp only
    cases hUx : Ux with
    | none => rfl
    | some p =>
      cases hUy : Uy with
      | none => rfl
      | some q => exact List.set_comm _ _ (hdiff _ _ _ _ hUx hUy)

end
end Go.Proofs.Ytfeepndphaboeaa.Ab
