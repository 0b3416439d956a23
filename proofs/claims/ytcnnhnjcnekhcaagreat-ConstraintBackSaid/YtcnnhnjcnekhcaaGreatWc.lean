/-
  THE ABSTRACT WALK: one step of a region; two steps that see nothing of each other.
-/
import Derived.Test.YtcnnhnjcnekhcaaGreatWb
import Derived.ChangeStays
import Derived.ChangeSame
import Derived.OpenShut
import Derived.Carry
import Derived.Lib.LaidTab
set_option linter.unusedVariables false
set_option linter.unusedSimpArgs false
namespace Go.Proofs.YtcnnhnjcnekhcaaGreat.Ab
open Go Go.RowKit

/-- the environment behind a step -/
def fin (o : Oper) (src : Option (Nat × Slot)) (s : Slot) (U : Option (Nat × Box)) (e : Env) : Env := ⟨putSlot (setO src e.slots) o.dst s, upd U e.boxes⟩

section
variable {P : Program} {gl : Nat → Option D} {C : Con}

def rho (gl : Nat → Option D) (e : Env) (x : Operand) : Slot := (Ab.opnd gl e x).demote

theorem mem_tmpsOf {o : Oper} {t : Nat} (h : Operand.tmp t ∈ o.op.operands) : t ∈ tmpsOf o := List.mem_filterMap.2 ⟨.tmp t, by simpa using h, rfl⟩

theorem opnd_same {e e' : Env} {o : Oper} (h : ∀ t ∈ tmpsOf o, e'.slots.getD t (.v .undef) = e.slots.getD t (.v .undef)) {x : Operand} (hx : x ∈ o.op.operands) : Ab.opnd gl e' x = Ab.opnd gl e x := by
  cases x with
  | tmp t => exact h t (mem_tmpsOf hx)
  | _ => rfl

theorem stays_demote (s : Slot) : s.demote.stays = s.stays := by cases s <;> rfl

theorem dem_dem (x : SV) : Ab.demote (Ab.demote x) = Ab.demote x := by cases x <;> rfl
theorem map_set_dem {cs : List SV} {off : Nat} {y : SV} (hy : cs[off]? = some y) : cs.map Ab.demote = (cs.set off (Ab.demote y)).map Ab.demote := by
  apply List.ext_getElem?
  intro i
  rw [List.getElem?_map, List.getElem?_map, List.getElem?_set]
  by_cases h : off = i
  · subst h
    obtain ⟨hl, hq⟩ := List.getElem?_eq_some_iff.1 hy
    simp [hl, hq, dem_dem]
  · simp [h]
theorem snap_near {bxs : List Box} {b : Nat} {cs cs' : List SV} (hb : bxs[b]? = some (.cells cs)) (h : cs.map Ab.demote = cs'.map Ab.demote) : ∀ (n : Nat) (s : Slot), snap (bxs.set b (.cells cs')) n s = snap bxs n s := by
  intro n
  induction n with
  | zero => intro s; rfl
  | succ n ih =>
    intro s
    have hf : snap (bxs.set b (.cells cs')) n = snap bxs n := funext ih
    cases s with
    | v x => rfl
    | p b2 off =>
      simp only [snap]
      by_cases h2 : b = b2
      · subst h2
        rw [List.getElem?_set_self (List.getElem?_eq_some_iff.1 hb).1, hb]
        simp only [h]
      · rw [List.getElem?_set_ne h2, hf]
    | c f first cap => simp only [snap, hf]
    | t l => rfl
theorem same_near {w : Bool} (hw : w = true) {bxs : List Box} {b : Nat} {old bx : Box} (hb : bxs[b]? = some old) (h : ∃ cs cs', old = .cells cs ∧ bx = .cells cs' ∧ cs.map Ab.demote = cs'.map Ab.demote) (s : Slot) : SameAt w s bxs (bxs.set b bx) := by
  obtain ⟨cs, cs', rfl, rfl, hm⟩ := h
  refine ⟨fun b2 off hs => ⟨?_, fun h => by rw [hw] at h; cases h⟩, fun n => snap_near hb hm n s⟩
  by_cases h2 : b = b2
  · subst h2
    rw [List.getElem?_set_self (List.getElem?_eq_some_iff.1 hb).1, hb]
    exact .inr ⟨cs', cs, rfl, rfl, hm.symm⟩
  · rw [List.getElem?_set_ne h2]
    exact .refl _

theorem evLin_spec {id : Nat} {o : Oper} {e : Env} {k : Env → Prop} (h : evLin P gl o e k) :
    ∃ src s U, k (fin o src s U e) ∧ UFact id o true (rho gl e) e.boxes U ∧ (∀ t d, src = some (t, d) → t ∈ tmpsOf o ∧ d.stays = (e.slots.getD t (.v .undef)).stays) ∧
      ∀ (e' : Env) (k' : Env → Prop), (∀ t ∈ tmpsOf o, e'.slots.getD t (.v .undef) = e.slots.getD t (.v .undef)) → Sees id true o U (rho gl e) e.boxes e'.boxes → k' (fin o src s U e') → evLin P gl o e' k' := by
  unfold evLin at h
  split at h
  · rename_i t ho
    refine ⟨some (t, _), _, none, h, .none, fun t' d hd => by cases hd; exact ⟨mem_tmpsOf (by rw [ho]; simp [Op.operands]), stays_demote _⟩, fun e' k' hl _ hk => ?_⟩
    simp only [evLin, ho]; rw [hl t (mem_tmpsOf (by rw [ho]; simp [Op.operands]))]; exact hk
  · rename_i t ho
    refine ⟨some (t, _), _, none, h, .none, fun t' d hd => by cases hd; exact ⟨mem_tmpsOf (by rw [ho]; simp [Op.operands]), stays_demote _⟩, fun e' k' hl _ hk => ?_⟩
    simp only [evLin, ho]; rw [hl t (mem_tmpsOf (by rw [ho]; simp [Op.operands]))]; exact hk
  · rename_i t i ho
    split at h
    · rename_i vs hs
      split at h
      · rename_i r hr
        refine ⟨some (t, _), _, none, h, .none, fun t' d hd => by cases hd; exact ⟨mem_tmpsOf (by rw [ho]; simp [Op.operands]), by rw [hs]; rfl⟩, fun e' k' hl _ hk => ?_⟩
        simp only [evLin, ho]; rw [hl t (mem_tmpsOf (by rw [ho]; simp [Op.operands])), hs]; simp only [hr]; exact hk
      · exact h.elim
    · exact h.elim
  · rename_i ty x ho
    split at h
    · rename_i b off hs
      obtain ⟨ly, hl, h⟩ := bindO_some h
      cases hly : ly.1 with
      | true => rw [hly] at h; exact h.elim
      | false =>
        rw [hly] at h
        simp only [cond_false] at h
        split at h
        · rename_i cs hcs
          obtain ⟨y, hy, h⟩ := bindO_some h
          refine ⟨none, _, some (b, _), h, .wr b _ _ (by simp [looksMem, ho]) (.inr rfl) x (by rw [ho]; simp [Op.operands]) off hs hcs (by simp) (by simp) (fun _ _ => ⟨cs, _, rfl, rfl, map_set_dem hy⟩), fun _ _ h => (by cases h), fun e' k' hls hS hk => ?_⟩
          have hb := ((hS.mem (by simp [looksMem, ho]) x (by rw [ho]; simp [Op.operands])).1 b off hs).2 (by simp)
          simp only [evLin, ho, hl, bindO, hly, cond_false]
          rw [opnd_same hls (x := x) (by rw [ho]; simp [Op.operands]), hs]
          simp only [hb, hcs, hy]; exact hk
        · exact h.elim
    · exact h.elim
  · rename_i ty x t ho
    split at h
    · rename_i b off y hs hy hd
      obtain ⟨sz, hsz, h⟩ := bindO_some h
      cases hb : Nat.beq sz 1 with
      | false => rw [hb] at h; exact h.elim
      | true =>
        rw [hb] at h
        simp only [cond_true] at h
        split at h
        · rename_i cs hcs
          obtain ⟨l, hl, h1, h2, h⟩ := bindO_some h
          refine ⟨some (t, .v (demote y)), .t [], some (b, .cells (setAt cs off l)), ?_, .wr b _ _ (by simp [looksMem, ho]) (.inr rfl) x (by rw [ho]; simp [Op.operands]) off hs hcs (by simp) (by simp) (fun _ h => by simp [writesMem, ho] at h), fun t' d hd => by cases hd; exact ⟨mem_tmpsOf (by rw [ho]; simp [Op.operands]), by rw [hy]; rfl⟩, fun e' k' hls hS hk => ?_⟩
          · simp only [fin, hd, putSlot, setO, upd]; exact h
          · have hbb := ((hS.mem (by simp [looksMem, ho]) x (by rw [ho]; simp [Op.operands])).1 b off hs).2 (by simp)
            simp only [fin, hd, putSlot, setO, upd] at hk
            simp only [evLin, ho]
            rw [opnd_same hls (x := x) (by rw [ho]; simp [Op.operands]), hs, hls t (mem_tmpsOf (by rw [ho]; simp [Op.operands])), hy, hd]
            simp only [hsz, bindO, hb, cond_true, hbb, hcs, hl]; exact ⟨h1, h2, hk⟩
        · exact h.elim
    · exact h.elim
  · rename_i c ho
    split at h
    · rename_i t y ty u hc hx ht
      have hmt : Operand.tmp t ∈ o.op.operands := by
        rw [ho]; simp only [Op.operands, Call.operands, Array.mem_append]; exact .inr (by rw [← Array.mem_toList_iff, hx]; simp)
      have hmy : y ∈ o.op.operands := by
        rw [ho]; simp only [Op.operands, Call.operands, Array.mem_append]; exact .inr (by rw [← Array.mem_toList_iff, hx]; simp)
      cases htu : Nat.beq ty u with
      | false => rw [htu] at h; exact h.elim
      | true =>
        rw [htu] at h
        simp only [cond_true] at h
        obtain ⟨e', he, h⟩ := bindO_some h
        obtain ⟨sz, hsz, h⟩ := bindO_some h
        obtain ⟨by_, hby, h⟩ := bindO_some h
        obtain ⟨z, hz, h⟩ := bindO_some h
        cases hcc : (Nat.blt 0 by_ && Nat.blt 0 sz && Nat.beq z.length sz) with
        | false => rw [hcc] at h; exact h.elim
        | true =>
          rw [hcc] at h
          obtain ⟨r, hr, hb, h⟩ := bindO_some h
          refine ⟨some (t, _), _, none, h, .none, fun t' d hd => by cases hd; exact ⟨mem_tmpsOf hmt, stays_demote _⟩, fun e' k' hls hS hk => ?_⟩
          simp only [evLin, ho, hc, hx, ht]
          rw [hls t (mem_tmpsOf hmt), opnd_same hls hmy]
          simp only [htu, cond_true, he, hsz, hby, hz, bindO, hcc, appP, hr]; exact ⟨hb, hk⟩
    · exact h.elim
  · exact h.elim

theorem evOp_spec {id : Nat} {lin : Bool} {o : Oper} {e : Env} {k : Env → Prop} (h : evOp P gl C id lin o e k) :
    ∃ src s U, k (fin o src s U e) ∧ UFact id o lin (rho gl e) e.boxes U ∧ (∀ t d, src = some (t, d) → lin = true ∧ t ∈ tmpsOf o ∧ d.stays = (e.slots.getD t (.v .undef)).stays) ∧
      ∀ (e' : Env) (k' : Env → Prop), (∀ t ∈ tmpsOf o, e'.slots.getD t (.v .undef) = e.slots.getD t (.v .undef)) → Sees id lin o U (rho gl e) e.boxes e'.boxes → k' (fin o src s U e') → evOp P gl C id lin o e' k' := by
  unfold evOp at h
  cases lin <;> simp only [cond_true, cond_false] at h
  · obtain ⟨s, U, hk, hu, hs⟩ := eff_spec h
    refine ⟨none, s, U, hk, hu, fun t d h => (by cases h), ?_⟩
    intro e' k' hl hS hk
    unfold evOp
    simp only [cond_false]
    exact hs _ _ _ (fun x hx => by rw [opnd_same hl hx]) hS hk
  · obtain ⟨src, s, U, hk, hu, hsr, hs⟩ := evLin_spec (id := id) h
    refine ⟨src, s, U, hk, hu, fun t d h => ⟨rfl, hsr t d h⟩, fun e' k' hl hS hk => ?_⟩
    unfold evOp
    simp only [cond_true]
    exact hs e' k' hl hS hk

/-- is an operation wanted -/
def gsel (all : List Oper) (o : Oper) (e : Env) : Option Bool := match o.guard with
  | none => some true
  | some (j, want) => (match (match all[j]? with | some g => g.dst | none => none) with
    | some t => (match e.slots.getD t (.v .undef) with
      | .v (.d (.bool c)) => some (c == want)
      | .t _ => some false
      | _ => none)
    | none => none)

theorem setB_self {e : Env} {t : Nat} {c : Bool} (h : e.slots.getD t (.v .undef) = .v (.d (.bool c))) : e.setB t c = e := by
  unfold Env.setB
  rcases Nat.lt_or_ge t e.slots.length with hl | hl
  · rw [List.getD_eq_getElem?_getD, List.getElem?_eq_getElem hl] at h
    simp only [Option.getD_some] at h
    rw [← h, List.set_getElem_self]
  · rw [List.getD_eq_getElem?_getD, List.getElem?_eq_none hl] at h
    simp at h

theorem guardP_iff {all : List Oper} {o : Oper} {e : Env} {A B : Env → Prop} : guardP all o e A B ↔ (match gsel all o e with | some true => A e | some false => B e | none => False) := by
  unfold guardP gsel
  cases hg : o.guard with
  | none => exact Iff.rfl
  | some p =>
    obtain ⟨j, want⟩ := p
    simp only
    cases hj : all[j]? with
    | none => exact Iff.rfl
    | some q =>
      simp only
      cases hq : q.dst with
      | none => exact Iff.rfl
      | some t =>
        simp only
        cases hx : e.slots.getD t (.v .undef) with
        | v x =>
          cases x with
          | d y =>
            cases y with
            | bool c =>
              have h1 := setB_self hx
              simp only [ifP]
              cases c <;> cases want <;> simp [h1]
            | _ => exact Iff.rfl
          | _ => exact Iff.rfl
        | _ => exact Iff.rfl

def step1 (P : Program) (gl : Nat → Option D) (C : Con) (all : List Oper) (id : Nat) (lin : Bool) (o : Oper) (e : Env) (k : Env → Prop) : Prop :=
  guardP all o e (fun e' => evOp P gl C id lin o e' k) (fun e' => k ⟨putSlot e'.slots o.dst (.t []), e'.boxes⟩)

/-- a step's outcome -/
structure Out (P : Program) (gl : Nat → Option D) (C : Con) (ops : Array Oper) (id : Nat) (lin : Bool) (o : Oper) (e : Env) (src : Option (Nat × Slot)) (s : Slot) (U : Option (Nat × Box)) : Prop where
  uf : UFact id o lin (rho gl e) e.boxes U
  src_ : ∀ t d, src = some (t, d) → lin = true ∧ t ∈ tmpsOf o
  stab : ∀ (e' : Env) (k' : Env → Prop), (∀ t ∈ o.looksAt ops, e'.slots.getD t (.v .undef) = e.slots.getD t (.v .undef)) → Sees id lin o U (rho gl e) e.boxes e'.boxes → k' (fin o src s U e') → step1 P gl C ops.toList id lin o e' k'

theorem gsel_same {ops : Array Oper} {o : Oper} {e e' : Env} (h : ∀ t ∈ o.looksAt ops, e'.slots.getD t (.v .undef) = e.slots.getD t (.v .undef)) : gsel ops.toList o e' = gsel ops.toList o e := by
  unfold gsel
  split
  · rfl
  · rename_i j want hg
    split
    · rename_i t ht
      have hm : t ∈ o.looksAt ops := by
        refine List.mem_append_right _ ?_
        rw [hg]
        simp only [Option.mem_toList]
        rw [Array.getElem?_toList] at ht
        cases hj : ops[j]? with
        | none => rw [hj] at ht; cases ht
        | some g => rw [hj] at ht; exact ht
      rw [h t hm]
    · rfl

theorem tmps_looks {ops : Array Oper} {o : Oper} {t : Nat} (h : t ∈ tmpsOf o) : t ∈ o.looksAt ops := List.mem_append_left _ h

theorem step1_spec {ops : Array Oper} {id : Nat} {lin : Bool} {o : Oper} {e : Env} {k : Env → Prop} (h : step1 P gl C ops.toList id lin o e k) : ∃ src s U, k (fin o src s U e) ∧ Out P gl C ops id lin o e src s U ∧ ∀ t d, src = some (t, d) → d.stays = (e.slots.getD t (.v .undef)).stays := by
  have h' := guardP_iff.1 h
  split at h'
  · rename_i hg
    obtain ⟨src, s, U, hk, hu, hsr, hs⟩ := evOp_spec h'
    refine ⟨src, s, U, hk, ⟨hu, fun t d h => ⟨(hsr t d h).1, (hsr t d h).2.1⟩, fun e' k' hl hS hk => ?_⟩, fun t d h => (hsr t d h).2.2⟩
    refine guardP_iff.2 ?_
    rw [gsel_same hl, hg]
    exact hs e' k' (fun t ht => hl t (tmps_looks ht)) hS hk
  · rename_i hg
    refine ⟨none, .t [], none, h', ⟨.none, fun t d h => (by cases h), ?_⟩, fun t d h => (by cases h)⟩
    intro e' k' hl hS hk
    refine guardP_iff.2 ?_
    rw [gsel_same hl, hg]
    exact hk
  · exact h'.elim

theorem mk_not_looks {o : Oper} (h : makesMem o = true) : looksMem o = false := by
  unfold makesMem at h
  unfold looksMem
  split at h
  · rename_i ho; simp [ho]
  · rename_i ho; simp [ho]
  · cases h

theorem SameAt.refl {q : Bool} (s : Slot) (b : List Box) : SameAt q s b b := ⟨fun _ _ _ => ⟨.refl _, fun _ => rfl⟩, fun _ => rfl⟩
theorem SameAt.trans {q : Bool} {s : Slot} {a b c : List Box} (h : SameAt q s a b) (k : SameAt q s b c) : SameAt q s a c :=
  ⟨fun x off hx => ⟨(k.1 x off hx).1.trans (h.1 x off hx).1, fun hq => ((k.1 x off hx).2 hq).trans ((h.1 x off hx).2 hq)⟩, fun n => (k.2 n).trans (h.2 n)⟩
theorem SameAt.symm {q : Bool} {s : Slot} {a b : List Box} (h : SameAt q s a b) : SameAt q s b a := ⟨fun x off hx => ⟨(h.1 x off hx).1.symm, fun hq => ((h.1 x off hx).2 hq).symm⟩, fun n => (h.2 n).symm⟩

theorem Out.fresh0 {ops : Array Oper} {id : Nat} {lin : Bool} {o : Oper} {e : Env} {src : Option (Nat × Slot)} {s : Slot} {U : Option (Nat × Box)} (h : Out P gl C ops id lin o e src s U)
    (hm : makesMem o = true) (hU : U ≠ none) : ∃ bx, U = some (id, bx) ∧ bx ≠ .none ∧ e.boxes[id]? = some .none := by
  cases h.uf with
  | none => exact absurd rfl hU
  | mk bx _ hn hb => exact ⟨bx, rfl, hb, hn⟩
  | wr b bx old h' => rw [mk_not_looks hm] at h'; cases h'

theorem Out.run {ops : Array Oper} {id : Nat} {lin : Bool} {o : Oper} {e : Env} {src : Option (Nat × Slot)} {s : Slot} {U : Option (Nat × Box)} (h : Out P gl C ops id lin o e src s U) {k : Env → Prop}
    (hk : k (fin o src s U e)) : step1 P gl C ops.toList id lin o e k :=
  h.stab e k (fun _ _ => rfl) ⟨fun _ x _ => .refl _ _, fun hm hU => (h.fresh0 hm hU).choose_spec.2.2⟩ hk

/-- a state that can be -/
def Good (gl : Nat → Option D) (e : Env) : Prop := ∃ w0 St0 a w g, Inv gl w0 St0 e a w g

theorem unseen_slot {w0 : World} {St0 : Nat → Nat → Prop} {e : Env} {a : Act} {w : World} {g : Gh} (hI : Inv gl w0 St0 e a w g) {id : Nat} (hid : e.boxes[id]? = some .none) (bx : Box) :
    ∀ (n : Nat) {O : Nat → Nat → Nat → Nat → Prop} {s : Slot} {v : Value}, RepS w0.heap.size w g O s v → (∀ b off, s = .p b off → b ≠ id) ∧ snap (e.boxes.set id bx) n s = snap e.boxes n s := by
  have hne : ∀ b blk, g.bx[b]? = some (some blk) → b ≠ id := by
    rintro b blk hb rfl
    obtain ⟨_, _, _, _, _, hr⟩ := hI.boxes b .none blk hid hb
    exact hr
  intro n
  induction n with
  | zero =>
    intro O s v h
    refine ⟨fun b off hs => ?_, rfl⟩
    subst hs
    obtain ⟨blk, _, hb⟩ := h.p_inv
    exact hne b blk hb
  | succ n ih =>
    intro O s v h
    refine ⟨fun b off hs => ?_, ?_⟩
    · subst hs
      obtain ⟨blk, _, hb⟩ := h.p_inv
      exact hne b blk hb
    cases h with
    | v _ x _ h => rfl
    | p _ b off blk hb =>
      simp only [snap]
      rw [List.getElem?_set_ne (fun h => hne b blk hb h.symm)]
      cases hbx : e.boxes[b]? with
      | none => rfl
      | some bxv =>
        cases bxv with
        | none => rfl
        | cells cs => rfl
        | one s' =>
          simp only
          obtain ⟨_, c, t, hc, _, hsz, hr⟩ := hI.boxes b _ blk hbx hb
          have hc0 : c[0]? = some (c[0]'(by omega)) := by simp
          rw [(ih (hr _ hc0)).2]
    | c _ f first cap fv cv hf hc rf rc =>
      simp only [snap]
      have hlist : ∀ (l : List Slot) (vs : Array Value), l.length = vs.size → (∀ (i : Nat) x v, l[i]? = some x → vs[i]? = some v → RepS w0.heap.size w g (fun _ _ _ _ => False) x v) →
          snapList (snap (e.boxes.set id bx) n) l = snapList (snap e.boxes n) l := by
        intro l vs hl hr
        apply List.ext_getElem?
        intro i
        rw [(snapList_get _ l).2, (snapList_get _ l).2]
        cases hi : l[i]? with
        | none => rfl
        | some x =>
          have hlt : i < vs.size := by rw [← hl]; exact (List.getElem?_eq_some_iff.1 hi).1
          simp only [Option.map_some]
          rw [(ih (hr i x vs[i] hi (by simp))).2]
      rw [hlist first fv hf rf, hlist cap cv hc rc]
    | t => rfl

theorem unseen {q : Bool} {e : Env} (hG : Good gl e) {id : Nat} (hid : e.boxes[id]? = some .none) (bx : Box) (x : Operand) : SameAt q (rho gl e x) e.boxes (e.boxes.set id bx) := by
  obtain ⟨w0, St0, a, w, g, hI⟩ := hG
  have h := hI.opnd x
  refine ⟨fun b off hs => ?_, fun n => (unseen_slot hI hid bx n h).2⟩
  have := (unseen_slot hI hid bx 0 h).1 b off hs
  rw [List.getElem?_set_ne (fun h => this h.symm)]
  exact ⟨.refl _, fun _ => rfl⟩

theorem ptr_ne {e : Env} (hG : Good gl e) {x : Operand} {b off : Nat} (hp : rho gl e x = .p b off) : e.boxes[b]? ≠ some .none := by
  intro hid
  obtain ⟨w0, St0, a, w, g, hI⟩ := hG
  exact (unseen_slot hI hid .none 0 (hI.opnd x)).1 b off hp rfl

theorem getD_set_ne' {l : List Slot} {i j : Nat} {x d : Slot} (h : i ≠ j) : (l.set i x).getD j d = l.getD j d := by
  rw [List.getD_eq_getElem?_getD, List.getElem?_set_ne h, ← List.getD_eq_getElem?_getD]

theorem fin_getD {o : Oper} {lin : Bool} {src : Option (Nat × Slot)} {s : Slot} {U : Option (Nat × Box)} {e : Env} (hsrc : ∀ t d, src = some (t, d) → lin = true ∧ t ∈ tmpsOf o) {t : Nat} (ht : t ∉ touches lin o) :
    (fin o src s U e).slots.getD t (.v .undef) = e.slots.getD t (.v .undef) := by
  have h1 : ∀ d, o.dst = some d → d ≠ t := fun d hd h => ht (by subst h; simp [touches, hd])
  have h2 : ∀ u d, src = some (u, d) → u ≠ t := fun u d hd h => by
    obtain ⟨h3, h4⟩ := hsrc u d hd
    subst h
    exact ht (by simp [touches, h3, h4])
  unfold fin putSlot setO
  simp only
  cases hd : o.dst with
  | none =>
    simp only
    cases hs : src with
    | none => rfl
    | some p => exact getD_set_ne' (h2 p.1 p.2 hs)
  | some d =>
    simp only
    rw [getD_set_ne' (h1 d hd)]
    cases hs : src with
    | none => rfl
    | some p => exact getD_set_ne' (h2 p.1 p.2 hs)

theorem set_comm' (l : List Slot) {i j : Nat} (x y : Slot) (h : i ≠ j) : (l.set i x).set j y = (l.set j y).set i x := List.set_comm _ _ h

theorem slots_comm {ox oy : Oper} {lx ly : Bool} {sx sy : Option (Nat × Slot)} {rx ry : Slot} (hx : ∀ t d, sx = some (t, d) → lx = true ∧ t ∈ tmpsOf ox) (hy : ∀ t d, sy = some (t, d) → ly = true ∧ t ∈ tmpsOf oy)
    (hd : ∀ t, t ∈ touches lx ox → t ∉ touches ly oy) (l : List Slot) : putSlot (setO sx (putSlot (setO sy l) oy.dst ry)) ox.dst rx = putSlot (setO sy (putSlot (setO sx l) ox.dst rx)) oy.dst ry := by
  have a1 : ∀ d, ox.dst = some d → d ∈ touches lx ox := fun d h => by simp [touches, h]
  have a2 : ∀ d, oy.dst = some d → d ∈ touches ly oy := fun d h => by simp [touches, h]
  have a3 : ∀ t d, sx = some (t, d) → t ∈ touches lx ox := fun t d h => by obtain ⟨h1, h2⟩ := hx t d h; simp [touches, h1, h2]
  have a4 : ∀ t d, sy = some (t, d) → t ∈ touches ly oy := fun t d h => by obtain ⟨h1, h2⟩ := hy t d h; simp [touches, h1, h2]
  have ne : ∀ {s t : Nat}, s ∈ touches lx ox → t ∈ touches ly oy → s ≠ t := fun h1 h2 h => hd _ h1 (h ▸ h2)
  cases hdx : ox.dst with
  | none =>
    cases hdy : oy.dst with
    | none =>
      cases sx with
      | none => rfl
      | some p =>
        cases sy with
        | none => rfl
        | some q => simp only [putSlot, setO]; exact set_comm' _ _ _ (ne (a3 _ _ rfl) (a4 _ _ rfl)).symm
    | some d =>
      cases sx with
      | none => rfl
      | some p =>
        cases sy with
        | none => simp only [putSlot, setO]; exact set_comm' _ _ _ (ne (a3 _ _ rfl) (a2 _ hdy)).symm
        | some q => simp only [putSlot, setO]; rw [set_comm' _ _ _ (ne (a3 _ _ rfl) (a2 _ hdy)).symm, set_comm' l _ _ (ne (a3 _ _ rfl) (a4 _ _ rfl)).symm]
  | some c =>
    cases hdy : oy.dst with
    | none =>
      cases sy with
      | none => rfl
      | some q =>
        cases sx with
        | none => simp only [putSlot, setO]; exact set_comm' _ _ _ (ne (a1 _ hdx) (a4 _ _ rfl)).symm
        | some p => simp only [putSlot, setO]; rw [set_comm' l _ _ (ne (a3 _ _ rfl) (a4 _ _ rfl)).symm, set_comm' _ _ _ (ne (a1 _ hdx) (a4 _ _ rfl)).symm]
    | some d =>
      have hcd := ne (a1 _ hdx) (a2 _ hdy)
      cases sx with
      | none =>
        cases sy with
        | none => simp only [putSlot, setO]; exact set_comm' _ _ _ hcd.symm
        | some q => simp only [putSlot, setO]; rw [set_comm' _ _ _ hcd.symm, set_comm' l _ _ (ne (a1 _ hdx) (a4 _ _ rfl)).symm]
      | some p =>
        cases sy with
        | none => simp only [putSlot, setO]; rw [set_comm' l _ _ (ne (a3 _ _ rfl) (a2 _ hdy)).symm, set_comm' _ _ _ hcd.symm]
        | some q =>
          simp only [putSlot, setO]
          rw [set_comm' _ _ _ (ne (a3 _ _ rfl) (a2 _ hdy)).symm, set_comm' l _ _ (ne (a3 _ _ rfl) (a4 _ _ rfl)).symm, set_comm' _ _ _ hcd.symm, set_comm' (l.set _ _) _ _ (ne (a1 _ hdx) (a4 _ _ rfl)).symm]

structure Indep (ops : Array Oper) (lx ly : Bool) (x y : Oper) : Prop where
  d1 : ∀ t ∈ touches lx x, t ∉ y.looksAt ops
  d2 : ∀ t ∈ touches lx x, t ∉ touches ly y
  d3 : ∀ t ∈ touches ly y, t ∉ x.looksAt ops
  m1 : ¬ (writesMem x = true ∧ looksMem y = true)
  m2 : ¬ (writesMem y = true ∧ looksMem x = true)
  m3 : ¬ (lx = true ∧ ly = true ∧ looksMem x = true ∧ looksMem y = true)

theorem indep_iff {ops : Array Oper} {lx ly : Bool} {x y : Oper} (h : indep ops lx ly x y = true) : Indep ops lx ly x y := by
  simp only [indep, Bool.and_eq_true, List.all_eq_true, Bool.not_eq_true', List.contains_eq_mem, decide_eq_false_iff_not, Bool.and_eq_false_iff] at h
  obtain ⟨⟨⟨⟨h1, h2⟩, h3⟩, h4⟩, h5⟩ := h
  refine ⟨fun t ht => (h1 t ht).1, fun t ht => (h1 t ht).2, fun t ht => h2 t ht, ?_, ?_, ?_⟩
  · rintro ⟨a, b⟩; rcases h3 with h | h <;> simp_all
  · rintro ⟨a, b⟩; rcases h4 with h | h <;> simp_all
  · rintro ⟨a, b, c, d⟩; rcases h5 with ((h | h) | h) | h <;> simp_all

/-- TWO STEPS THAT SEE NOTHING OF EACH OTHER: the second may come first -/
theorem diamond {ops : Array Oper} {ix iy : Nat} {lx ly : Bool} {x y : Oper} {e : Env} {sx sy : Option (Nat × Slot)} {rx ry : Slot} {Ux Uy : Option (Nat × Box)} (hG : Good gl e) (hi : Indep ops lx ly x y)
    (hx : Out P gl C ops ix lx x e sx rx Ux) (hy : Out P gl C ops iy ly y (fin x sx rx Ux e) sy ry Uy) :
    Out P gl C ops iy ly y e sy ry Uy ∧ Out P gl C ops ix lx x (fin y sy ry Uy e) sx rx Ux ∧ fin y sy ry Uy (fin x sx rx Ux e) = fin x sx rx Ux (fin y sy ry Uy e) := by
  -- what y looks at is the same in e
  have ly1 : ∀ t ∈ y.looksAt ops, (fin x sx rx Ux e).slots.getD t (.v .undef) = e.slots.getD t (.v .undef) := fun t ht => fin_getD hx.src_ fun h => hi.d1 t h ht
  have lx1 : ∀ t ∈ x.looksAt ops, (fin y sy ry Uy e).slots.getD t (.v .undef) = e.slots.getD t (.v .undef) := fun t ht => fin_getD hy.src_ fun h => hi.d3 t h ht
  have ry1 : ∀ z ∈ y.op.operands, rho gl (fin x sx rx Ux e) z = rho gl e z := fun z hz => by unfold rho; rw [opnd_same (fun t ht => ly1 t (tmps_looks ht)) hz]
  have rx1 : ∀ z ∈ x.op.operands, rho gl (fin y sy ry Uy e) z = rho gl e z := fun z hz => by unfold rho; rw [opnd_same (fun t ht => lx1 t (tmps_looks ht)) hz]
  have hbx : (fin x sx rx Ux e).boxes = upd Ux e.boxes := rfl
  have hby : (fin y sy ry Uy e).boxes = upd Uy e.boxes := rfl
  -- where y writes, in e
  have yU : UFact iy y ly (rho gl e) e.boxes Uy := by
    cases hy.uf with
    | none => exact .none
    | mk bx h hn hb =>
      refine .mk bx h ?_ hb
      rw [hbx] at hn
      cases hx.uf with
      | none => exact hn
      | mk bx' h' hn' hb' =>
        simp only [upd] at hn
        by_cases hii : ix = iy
        · subst hii
          rw [List.getElem?_set_self (List.getElem?_eq_some_iff.1 hn').1] at hn
          exact absurd (Option.some.inj hn) hb'
        · rwa [List.getElem?_set_ne hii] at hn
      | wr b bx' old h' hw' z hz off hp ho hold hb' =>
        simp only [upd] at hn
        by_cases hii : b = iy
        · subst hii
          rw [List.getElem?_set_self (List.getElem?_eq_some_iff.1 ho).1] at hn
          exact absurd (Option.some.inj hn) hb'
        · rwa [List.getElem?_set_ne hii] at hn
    | wr b bx old h hw z hz off hp ho hold hb near =>
      rw [ry1 z hz] at hp
      rw [hbx] at ho
      cases hx.uf with
      | none => exact .wr b bx old h hw z hz off hp ho hold hb near
      | mk bx' h' hn' hb' =>
        have hne : ix ≠ b := by
          rintro rfl
          exact ptr_ne hG hp hn'
        simp only [upd] at ho
        rw [List.getElem?_set_ne hne] at ho
        exact .wr b bx old h hw z hz off hp ho hold hb near
      | wr b' bx' old' h' hw' z' hz' off' hp' ho' hold' hb' =>
        exfalso
        rcases hw' with hw' | hw'
        · exact hi.m1 ⟨hw', h⟩
        · rcases hw with hw | hw
          · exact hi.m2 ⟨hw, h'⟩
          · exact hi.m3 ⟨hw', hw, h', h⟩
  -- both write: not the same place
  have hdiff : ∀ b bx b' bx', Ux = some (b, bx) → Uy = some (b', bx') → b ≠ b' := by
    intro b bx b' bx' h1 h2
    subst h1 h2
    have hyf := hy.uf
    cases hx.uf with
    | mk _ h' hn' hb' =>
      cases yU with
      | mk _ h hn hb =>
        rintro rfl
        cases hyf with
        | mk _ h2 hn2 hb2 =>
          rw [hbx] at hn2
          simp only [upd] at hn2
          rw [List.getElem?_set_self (List.getElem?_eq_some_iff.1 hn').1] at hn2
          exact hb' (Option.some.inj hn2)
        | wr _ _ _ h2 => rw [mk_not_looks h] at h2; cases h2
      | wr _ _ old h hw z hz off hp ho hold hb =>
        rintro rfl
        exact ptr_ne hG hp hn'
    | wr _ _ old' h' hw' z' hz' off' hp' ho' hold' hb' =>
      cases yU with
      | mk _ h hn hb =>
        rintro rfl
        rw [ho'] at hn
        exact hold' (Option.some.inj hn)
      | wr _ _ old h hw z hz off hp ho hold hb =>
        exfalso
        rcases hw' with hw' | hw'
        · exact hi.m1 ⟨hw', h⟩
        · rcases hw with hw | hw
          · exact hi.m2 ⟨hw, h'⟩
          · exact hi.m3 ⟨hw', hw, h', h⟩
  refine ⟨⟨yU, hy.src_, fun e' k' hl hS hk => ?_⟩, ⟨?_, hx.src_, fun e' k' hl hS hk => ?_⟩, ?_⟩
  · refine hy.stab e' k' (fun t ht => (hl t ht).trans (ly1 t ht).symm) ⟨fun hm z hz => ?_, fun hm hU => hS.fresh hm hU⟩ hk
    rw [ry1 z hz]
    refine SameAt.trans ?_ (hS.mem hm z hz)
    rw [hbx]
    cases hx.uf with
    | none => exact .refl _ _
    | mk bx' h' hn' hb' => exact (unseen hG hn' bx' z).symm
    | wr b' bx' old' h' hw' z' hz' off' hp' ho' hold' hb' near =>
      have nx : writesMem x = false := by cases hq : writesMem x with | false => rfl | true => exact absurd ⟨hq, hm⟩ hi.m1
      have lx' : lx = true := by rcases hw' with h | h; exact absurd ⟨h, hm⟩ hi.m1; exact h
      have ny : writesMem y = false := by cases hq : writesMem y with | false => rfl | true => exact absurd ⟨hq, h'⟩ hi.m2
      have ly' : ly = false := by cases hq : ly with | false => rfl | true => exact absurd ⟨lx', hq, h', hm⟩ hi.m3
      exact (same_near (by rw [ny, ly']; rfl) ho' (near lx' nx) _).symm
  · cases hxu : hx.uf with
    | none => exact .none
    | mk bx' h' hn' hb' =>
      refine .mk bx' h' ?_ hb'
      rw [hby]
      cases hU : Uy with
      | none => exact hn'
      | some p =>
        simp only [upd]
        rw [List.getElem?_set_ne (hdiff _ _ _ _ rfl hU).symm]
        exact hn'
    | wr b' bx' old' h' hw' z' hz' off' hp' ho' hold' hb' near =>
      refine .wr b' bx' old' h' hw' z' hz' off' (by rw [rx1 z' hz']; exact hp') ?_ hold' hb' near
      rw [hby]
      cases hU : Uy with
      | none => exact ho'
      | some p =>
        simp only [upd]
        rw [List.getElem?_set_ne (hdiff _ _ _ _ rfl hU).symm]
        exact ho'
  · refine hx.stab e' k' (fun t ht => (hl t ht).trans (lx1 t ht)) ⟨fun hm z hz => ?_, fun hm hU => hS.fresh hm hU⟩ hk
    have h1 := hS.mem hm z hz
    rw [rx1 z hz] at h1
    refine SameAt.trans ?_ h1
    rw [hby]
    cases yU with
    | none => exact .refl _ _
    | mk bx' h' hn' hb' => exact unseen hG hn' bx' z
    | wr b' bx' old' h' hw' z' hz' off' hp' ho' hold' hb' near =>
      have ny : writesMem y = false := by cases hq : writesMem y with | false => rfl | true => exact absurd ⟨hq, hm⟩ hi.m2
      have ly' : ly = true := by rcases hw' with h | h; exact absurd ⟨h, hm⟩ hi.m2; exact h
      have nx : writesMem x = false := by cases hq : writesMem x with | false => rfl | true => exact absurd ⟨hq, h'⟩ hi.m1
      have lx' : lx = false := by cases hq : lx with | false => rfl | true => exact absurd ⟨hq, ly', hm, h'⟩ hi.m3
      exact same_near (by rw [nx, lx']; rfl) ho' (near ly' ny) _
  · unfold fin
    rw [Env.mk.injEq]
    refine ⟨(slots_comm hx.src_ hy.src_ hi.d2 e.slots).symm, ?_⟩
    simp only
    cases hUx : Ux with
    | none => rfl
    | some p =>
      cases hUy : Uy with
      | none => rfl
      | some q => exact List.set_comm _ _ (hdiff _ _ _ _ hUx hUy)

end
end Go.Proofs.YtcnnhnjcnekhcaaGreat.Ab
/-
  THE ABSTRACT WALK: regions.
-/
namespace Go.Proofs.YtcnnhnjcnekhcaaGreat.Ab
open Go Go.RowKit

theorem reach_old : ∀ (l : List Oper) (acc : List Nat) (k : Nat), k < acc.length → (reach acc l)[k]? = acc[k]?
  | [], acc, k, _ => rfl
  | o :: l, acc, k, h => by
    rw [reach, reach_old l _ k (by simp; omega), List.getElem?_append_left h]

theorem mask_spec (acc : List Nat) (i : Nat) : ∀ (es : List Edge) (s : Nat), (es.foldl (fun s e => bif Region.binds .any e then s ||| 2 ^ e.on ||| acc.getD e.on 0 else s) s).testBit i = true →
    s.testBit i = true ∨ ∃ e ∈ es, Region.binds .any e = true ∧ (e.on = i ∨ (acc.getD e.on 0).testBit i = true)
  | [], s, h => .inl h
  | e :: es, s, h => by
    rw [List.foldl_cons] at h
    rcases mask_spec acc i es _ h with h | ⟨e', he, hb, h⟩
    · cases hb : Region.binds .any e with
      | false => rw [hb] at h; exact .inl h
      | true =>
        rw [hb] at h
        simp only [cond_true, Nat.testBit_or, Bool.or_eq_true] at h
        rcases h with (h | h) | h
        · exact .inl h
        · refine .inr ⟨e, by simp, hb, .inl ?_⟩
          simpa [Nat.testBit_two_pow] using h
        · exact .inr ⟨e, by simp, hb, .inr h⟩
    · exact .inr ⟨e', by simp [he], hb, h⟩

theorem reach_spec : ∀ (l : List Oper) (acc : List Nat) (k i : Nat), acc.length ≤ k → ((reach acc l).getD k 0).testBit i = true →
    ∃ o, l[k - acc.length]? = some o ∧ ∃ e ∈ o.after.toList, Region.binds .any e = true ∧ (e.on = i ∨ (e.on < k ∧ ((reach acc l).getD e.on 0).testBit i = true))
  | [], acc, k, i, hk, h => by
    rw [reach, List.getD_eq_getElem?_getD, List.getElem?_eq_none hk] at h
    simp at h
  | o :: l, acc, k, i, hk, h => by
    rw [reach] at h ⊢
    rcases Nat.eq_or_lt_of_le hk with hk' | hk'
    · subst hk'
      refine ⟨o, by simp, ?_⟩
      rw [List.getD_eq_getElem?_getD, reach_old l _ acc.length (by simp), List.getElem?_append_right (Nat.le_refl _)] at h
      simp only [Nat.sub_self, List.getElem?_cons_zero, Option.getD_some] at h
      rcases mask_spec acc i _ 0 h with h | ⟨e, he, hb, h⟩
      · simp at h
      · refine ⟨e, he, hb, h.imp id fun h => ?_⟩
        have hlt : e.on < acc.length := by
          rcases Nat.lt_or_ge e.on acc.length with h' | h'
          · exact h'
          · rw [List.getD_eq_getElem?_getD, List.getElem?_eq_none h'] at h; simp at h
        refine ⟨hlt, ?_⟩
        rw [List.getD_eq_getElem?_getD, reach_old l _ e.on (by simp; omega), List.getElem?_append_left hlt, ← List.getD_eq_getElem?_getD]
        exact h
    · obtain ⟨p, hp, hr⟩ := reach_spec l _ k i (by simp; omega) h
      refine ⟨p, ?_, hr⟩
      rw [← hp]
      have : k - acc.length = (k - (acc ++ [o.after.toList.foldl (fun s e => bif Region.binds .any e then s ||| 2 ^ e.on ||| acc.getD e.on 0 else s) 0]).length) + 1 := by simp; omega
      rw [this, List.getElem?_cons_succ]

section
variable {P : Program} {gl : Nat → Option D} {ops : Array Oper} {lin : Nat → Bool} {base : Nat}

/-- listed: with an operation all that it waits for -/
def Closed (ops : Array Oper) (listed : Array Bool) : Prop := ∀ (j : Nat) o, ops[j]? = some o → listed.getD j false = true → ∀ e ∈ o.after, Region.binds .any e = true → listed.getD e.on false = true

theorem Closed.waits {listed : Array Bool} (hc : Closed ops listed) {i : Nat} : ∀ (j : Nat) o, ops[j]? = some o → (∀ e ∈ o.after, Region.binds .any e = true → listed.getD e.on false = true) →
    ((reach [] ops.toList).getD j 0).testBit i = true → listed.getD i false = true := by
  intro j
  induction j using Nat.strongRecOn with
  | _ j ih =>
    intro o ho hall h
    obtain ⟨o', ho', e, he, hb, h⟩ := reach_spec ops.toList [] j i (Nat.zero_le _) h
    simp only [List.length_nil, Nat.sub_zero, Array.getElem?_toList] at ho'
    rw [ho] at ho'
    cases ho'
    have hl := hall e (by simpa using he) hb
    rcases h with h | ⟨hlt, h⟩
    · rw [← h]; exact hl
    · have hex : ∃ p, ops[e.on]? = some p := by
        have := (Array.getElem?_eq_some_iff.1 ho).1
        exact ⟨ops[e.on], by simp [show e.on < ops.size by omega]⟩
      obtain ⟨p, hp⟩ := hex
      exact ih e.on hlt p hp (hc e.on p hp hl) h

theorem Closed.set {listed : Array Bool} (hc : Closed ops listed) {j : Nat} (hj : j ∈ Region.ready .any ops listed) : Closed ops (listed.setIfInBounds j true) := by
  obtain ⟨_, o, ho, hall⟩ := mem_ready.1 hj
  intro k p hk hl e he hb
  by_cases hjk : j = k
  · subst hjk
    rw [ho] at hk; cases hk
    exact getD_set_true (hall e he hb)
  · rw [getD_set_ne false hjk] at hl
    exact getD_set_true (hc k p hk hl e he hb)

/-- whatever order is picked from here on -/
def AnyE (P : Program) (gl : Nat → Option D) (ops : Array Oper) (lin : Nat → Bool) (base : Nat) (Q : Env → Prop) : Nat → Array Bool → Env → Prop
  | 0, listed, e => Region.ready .any ops listed = [] ∧ Q e
  | fuel + 1, listed, e =>
    (Region.ready .any ops listed = [] → Q e) ∧
    ∀ i ∈ Region.ready .any ops listed, ∃ o, ops[i]? = some o ∧ step1 P gl (Holds P gl) ops.toList (base + rankOf ops.toList i) (lin i) o e (AnyE P gl ops lin base Q fuel (listed.setIfInBounds i true))

/-! ### steps in the world -/
theorem wanted_of {w0 : World} {St0 : Nat → Nat → Prop} {e : Env} {a : Act} {w : World} {g : Gh} (hI : Inv gl w0 St0 e a w g) {o : Oper} {c : Bool} (h : gsel ops.toList o e = some c) : Region.wanted o (yielded ops a.tmps) = c := by
  unfold gsel at h
  unfold Region.wanted
  split at h
  · rename_i hg; rw [hg]; exact (Option.some.inj h)
  · rename_i j want hg
    rw [hg]
    simp only
    unfold yielded
    split at h
    · rename_i t ht
      have ht' : (ops[j]?).bind (·.dst) = some t := by
        rw [Array.getElem?_toList] at ht
        cases hj : ops[j]? with
        | none => rw [hj] at ht; cases ht
        | some q => rw [hj] at ht; exact ht
      rw [ht']
      have hs := getD_slot hI t
      have hlt : ∀ {s}, e.slots.getD t (.v .undef) = s → s ≠ .v .undef → a.tmps[t]? = some (a.tmps.getD t undef) := by
        intro s h1 h2
        have : t < e.slots.length := by
          rcases Nat.lt_or_ge t e.slots.length with h | h
          · exact h
          · rw [List.getD_eq_getElem?_getD, List.getElem?_eq_none h] at h1; exact absurd h1.symm h2
        rw [← hI.size] at this
        simp [this]
      split at h
      · rename_i c' hx
        rw [hx] at hs
        have hv := hs.v_inv.data.bool_inv
        have h1 := hlt hx (by simp)
        simp only [Act.eval] at hv
        rw [hv] at h1
        simp only [Option.bind_some, h1]
        cases h
        cases c' <;> cases want <;> rfl
      · rename_i vs hx
        rw [hx] at hs
        obtain ⟨tv, hv, _⟩ := hs.t_inv
        have h1 := hlt hx (by simp)
        simp only [Act.eval] at hv
        rw [hv] at h1
        simp only [Option.bind_some, h1]
        cases h
        rfl
      · cases h
    · cases h

theorem skip_inv {w0 : World} {St0 : Nat → Nat → Prop} {e : Env} {a : Act} {w : World} {g : Gh} (hI : Inv gl w0 St0 e a w g) (dst : Option Nat) : Inv gl w0 St0 ⟨putSlot e.slots dst (.t []), e.boxes⟩ (a.put dst undef) w g :=
  hI.value (.t _ [] #[] rfl (fun j x v h => by simp at h))

/-- one step -/
theorem step1_wp {w0 : World} {St0 : Nat → Nat → Prop} {e : Env} {a : Act} {w : World} {g : Gh} (hI : Inv gl w0 St0 e a w g) {i id : Nat} {l : Bool} {o : Oper} (ho : ops[i]? = some o) {k : Env → Prop}
    (h : step1 P gl (Holds P gl) ops.toList id l o e k) {next : Act → World → Prop} {Q : Exit → Act → World → Prop} (hn : ∀ e' a' w' g', Inv gl w0 St0 e' a' w' g' → k e' → next a' w') : wpOp P ops Q i next a w := by
  have h' := guardP_iff.1 h
  unfold wpOp
  simp only [ho]
  split at h'
  · rename_i hg
    rw [if_pos (wanted_of hI hg)]
    exact .inl (evOp_goes hI h' next Q fun e' v w' g' hinv hk => hn e' _ w' g' hinv hk)
  · rename_i hg
    rw [if_neg (by rw [wanted_of hI hg]; simp)]
    exact hn _ _ _ _ (skip_inv hI o.dst) h'
  · exact h'.elim

/-- a step that goes through leaves a state that can be -/
theorem good_step {e e' : Env} (hG : Good gl e) {i id : Nat} {l : Bool} {o : Oper} (ho : ops[i]? = some o) (h : step1 P gl (Holds P gl) ops.toList id l o e (fun x => x = e')) : Good gl e' := by
  obtain ⟨w0, St0, a, w, g, hI⟩ := hG
  have := step1_wp (Q := fun _ _ _ => False) hI ho h (next := fun a' w' => ∃ g', Inv gl w0 St0 e' a' w' g') (fun e'' a' w' g' hinv hk => ⟨g', hk ▸ hinv⟩)
  have fromWp : ∀ {next : Act → World → Prop}, o.wp P a w next (fun _ _ _ => False) → ∃ a' w', next a' w' := by
    intro next h
    unfold Oper.wp at h
    generalize (execOp a.eval o).run P w = r at h
    cases r with
    | ok n w' =>
      cases n <;> simp only [Oper.upon] at h
      case value v => exact ⟨_, _, h⟩
      case skip => exact ⟨_, _, h⟩
      case defer d => exact ⟨_, _, h⟩
      case enter f args =>
        obtain ⟨e, w'', fr, hR, _⟩ := h []
        cases e with
        | returned v => exact ⟨_, _, hR⟩
        | panicked c => exact hR.elim
        | outgrown => obtain ⟨_, _, hf⟩ := hR; exact hf.elim
      case row row args =>
        obtain ⟨v, w'', hR, _⟩ := h default []
        exact ⟨_, _, hR⟩
    | halt x w' => cases x <;> simp only [Oper.upon] at h
  unfold wpOp at this
  simp only [ho] at this
  have fin' : ∃ a' w', ∃ g', Inv gl w0 St0 e' a' w' g' := by
    split at this
    · rcases this with h | ⟨_, _, _, hf⟩
      · exact fromWp h
      · exact hf.elim
    · exact ⟨_, _, this⟩
  obtain ⟨a', w', g', hinv⟩ := fin'
  exact ⟨w0, St0, a', w', g', hinv⟩

/-- **an operation that may come up now may be taken first** -/
theorem any_first {Q : Env → Prop} {i : Nat} {oi : Oper} (hi : ops[i]? = some oi) : ∀ (fuel : Nat) (listed : Array Bool) (e : Env) (src : Option (Nat × Slot)) (s : Slot) (U : Option (Nat × Box)),
    (∀ (j : Nat) oj, ops[j]? = some oj → j ≠ i → listed.getD j true = false → ((reach [] ops.toList).getD j 0).testBit i = false → indep ops (lin i) (lin j) oi oj = true) →
    Closed ops listed → i ∈ Region.ready .any ops listed → Good gl e → Out P gl (Holds P gl) ops (base + rankOf ops.toList i) (lin i) oi e src s U →
    AnyE P gl ops lin base Q fuel (listed.setIfInBounds i true) (fin oi src s U e) → AnyE P gl ops lin base Q (fuel + 1) listed e := by
  intro fuel
  induction fuel with
  | zero =>
    intro listed e src s U _ _ hr _ hO H
    refine ⟨fun h => (by rw [h] at hr; cases hr), fun j hj => ?_⟩
    by_cases hji : j = i
    · subst hji; exact ⟨oi, hi, hO.run H⟩
    · have := ready_mono hj hji
      rw [H.1] at this
      cases this
  | succ fuel ih =>
    intro listed e src s U hfree hc hr hG hO H
    refine ⟨fun h => (by rw [h] at hr; cases hr), fun j hj => ?_⟩
    by_cases hji : j = i
    · subst hji; exact ⟨oi, hi, hO.run H⟩
    · obtain ⟨oj, hoj, h1⟩ := H.2 j (ready_mono hj hji)
      obtain ⟨hjun, oj', hoj', hall⟩ := mem_ready.1 hj
      rw [hoj] at hoj'
      cases hoj'
      have hnw : ((reach [] ops.toList).getD j 0).testBit i = false := by
        cases hb : ((reach [] ops.toList).getD j 0).testBit i with
        | false => rfl
        | true =>
          have h2 := hc.waits j oj hoj hall hb
          have h0 := (mem_ready.1 hr).1
          rcases Nat.lt_or_ge i listed.size with h' | h'
          · simp [h'] at h0 h2; rw [h0] at h2; cases h2
          · simp [Array.getElem?_eq_none h'] at h2
      have hind := indep_iff (hfree j oj hoj hji hjun hnw)
      obtain ⟨src', s', U', hk, hO', _⟩ := step1_spec h1
      obtain ⟨d1, d2, d3⟩ := diamond hG hind hO hO'
      refine ⟨oj, hoj, d1.run ?_⟩
      rw [Array.setIfInBounds_comm _ _ (Ne.symm hji)] at hk
      refine ih (listed.setIfInBounds j true) _ src s U (fun k ok hk hki hun hno => ?_) (hc.set hj) (ready_mono hr (Ne.symm hji)) (good_step hG hoj (d1.run rfl)) d2 (by rw [← d3]; exact hk)
      refine hfree k ok hk hki ?_ hno
      by_cases hjk : j = k
      · subst hjk; exact hjun
      · rw [getD_set_ne true hjk] at hun; exact hun

theorem okRest_spec {R : List Nat} {i : Nat} {o : Oper} : ∀ {l : List Oper} {j : Nat}, okRest ops lin R i o l j = true → ∀ (n : Nat) p, l[n]? = some p → (R.getD (j + n) 0).testBit i = true ∨ indep ops (lin i) (lin (j + n)) o p = true
  | [], j, _, n, p, h => by simp at h
  | q :: l, j, h, n, p, hp => by
    simp only [okRest, Bool.and_eq_true, Bool.or_eq_true] at h
    cases n with
    | zero => simp at hp; subst hp; exact h.1
    | succ n =>
      have := okRest_spec h.2 n p (by simpa using hp)
      rw [show j + (n + 1) = j + 1 + n by omega]
      exact this

theorem evOps_eq {all : List Oper} {C : Con} (o : Oper) (rest : List Oper) (i : Nat) (e : Env) (k : Env → Prop) :
    evOps P gl C lin all base (o :: rest) i e k = step1 P gl C all (base + rankOf all i) (lin i) o e (fun e'' => evOps P gl C lin all base rest (i + 1) e'' k) := rfl

theorem any_lex {K : Env → Prop} : ∀ (l : List Oper) (i : Nat) (listed : Array Bool) (e : Env), (∀ j, l[j]? = ops[i + j]?) → (∀ j, j < i → listed.getD j false = true) → (∀ j, i ≤ j → j < ops.size → listed.getD j true = false) → listed.size = ops.size →
    Closed ops listed → Good gl e → okPairs ops lin (reach [] ops.toList) l i = true → evOps P gl (Holds P gl) lin ops.toList base l i e K → AnyE P gl ops lin base K l.length listed e
  | [], i, listed, e, hl, h1, h2, hsz, _, _, _, h => by
    refine ⟨?_, h⟩
    rw [List.eq_nil_iff_forall_not_mem]
    intro j hj
    obtain ⟨hun, o, ho, _⟩ := mem_ready.1 hj
    have hlt : j < ops.size := (Array.getElem?_eq_some_iff.1 ho).1
    have hle : ops.size ≤ i := by
      have := hl 0
      simp only [List.getElem?_nil, Nat.add_zero] at this
      exact Array.getElem?_eq_none_iff.1 this.symm
    have := h1 j (by omega)
    simp [hsz, hlt] at this hun
    rw [this] at hun; cases hun
  | o :: l, i, listed, e, hl, h1, h2, hsz, hc, hG, hB, h => by
    have h0 : ops[i]? = some o := by simpa using (hl 0).symm
    have hlt : i < ops.size := (Array.getElem?_eq_some_iff.1 h0).1
    simp only [okPairs, Bool.and_eq_true] at hB
    obtain ⟨⟨hr, hp⟩, hB'⟩ := hB
    have hready : i ∈ Region.ready .any ops listed := by
      refine mem_ready.2 ⟨h2 i (Nat.le_refl _) hlt, o, h0, fun e he hb => ?_⟩
      have := List.all_eq_true.1 hr e (by simpa using he)
      rw [hb] at this
      simp only [Bool.not_true, Bool.false_or] at this
      exact h1 e.on (Nat.lt_of_succ_le (Nat.le_of_ble_eq_true this))
    rw [evOps_eq] at h
    obtain ⟨src, s, U, hk, hO, _⟩ := step1_spec h
    refine any_first h0 l.length listed e src s U (fun j oj hoj hji hun hno => ?_) hc hready hG hO ?_
    · have hjl : j < ops.size := (Array.getElem?_eq_some_iff.1 hoj).1
      have hij : i < j := by
        rcases Nat.lt_or_ge i j with h | h
        · exact h
        · exfalso
          have := h1 j (by omega)
          simp [hsz, hjl] at this hun
          rw [this] at hun; cases hun
      have hlj : l[j - (i + 1)]? = some oj := by
        have := hl (j - i)
        rw [show i + (j - i) = j by omega, hoj] at this
        rw [show j - i = (j - (i + 1)) + 1 by omega] at this
        simpa using this
      have := okRest_spec hp (j - (i + 1)) oj hlj
      rw [show i + 1 + (j - (i + 1)) = j by omega, hno] at this
      simpa using this
    · refine any_lex l (i + 1) _ _ (fun j => ?_) (fun j hj => ?_) (fun j hj hjs => ?_) (by simpa using hsz) (hc.set hready) (good_step hG h0 (hO.run rfl)) hB' hk
      · have := hl (j + 1)
        simpa [Nat.add_assoc, Nat.add_comm 1 j] using this
      · by_cases hij : i = j
        · subst hij
          simp [hsz, hlt]
        · exact getD_set_true (h1 j (by omega))
      · rw [getD_set_ne true (by omega)]
        exact h2 j (by omega) hjs

theorem any_wp {w0 : World} {St0 : Nat → Nat → Prop} {K : Env → Prop} {Q : Exit → Act → World → Prop} (hQ : ∀ e a w g, Inv gl w0 St0 e a w g → K e → Q .normal a w) : ∀ (fuel : Nat) (listed : Array Bool) (e : Env) (a : Act) (w : World) (g : Gh),
    Inv gl w0 St0 e a w g → AnyE P gl ops lin base K fuel listed e → wpAny P .any ops Q fuel listed a w
  | 0, _, e, a, w, g, hI, h => ⟨h.1, hQ e a w g hI h.2⟩
  | fuel + 1, _, e, a, w, g, hI, h => ⟨fun h0 => hQ e a w g hI (h.1 h0), fun i hi => by
      obtain ⟨o, ho, hs⟩ := h.2 i hi
      exact step1_wp hI ho hs fun e' a' w' g' hinv hk => any_wp hQ fuel _ e' a' w' g' hinv hk⟩

theorem list_wp {w0 : World} {St0 : Nat → Nat → Prop} {K : Env → Prop} {Q : Exit → Act → World → Prop} (hQ : ∀ e a w g, Inv gl w0 St0 e a w g → K e → Q .normal a w) : ∀ (l : List Oper) (i : Nat) (e : Env) (a : Act) (w : World) (g : Gh),
    (∀ j, l[j]? = ops[i + j]?) → Inv gl w0 St0 e a w g → evOps P gl (Holds P gl) lin ops.toList base l i e K → wpOps P ops Q (List.range' i l.length) a w
  | [], _, e, a, w, g, _, hI, h => hQ e a w g hI h
  | o :: l, i, e, a, w, g, hl, hI, h => by
    have h0 : ops[i]? = some o := by simpa using (hl 0).symm
    rw [List.length_cons, List.range'_succ, wpOps_cons]
    rw [evOps_eq] at h
    exact step1_wp hI h0 h fun e' a' w' g' hinv hk => list_wp hQ l (i + 1) e' a' w' g' (fun j => by have := hl (j + 1); simpa [Nat.add_assoc, Nat.add_comm 1 j] using this) hinv hk

/-- places for variables that are not made yet -/
theorem Inv.room_for {w0 : World} {St0 : Nat → Nat → Prop} {e : Env} {a : Act} {w : World} {g : Gh} (hI : Inv gl w0 St0 e a w g) (n : Nat) :
    Inv gl w0 St0 ⟨e.slots, e.boxes ++ List.replicate n .none⟩ a w { g with bx := g.bx ++ List.replicate n none } := by
  have hmem : ∀ b, some b ∈ g.bx ++ List.replicate n (none : Option Nat) → some b ∈ g.bx := fun b h => by
    rcases List.mem_append.1 h with h | h
    · exact h
    · have := (List.mem_replicate.1 h).2; cases this
  have hget : ∀ (i : Nat) blk, (g.bx ++ List.replicate n (none : Option Nat))[i]? = some (some blk) → g.bx[i]? = some (some blk) := fun i blk h => by
    rw [List.getElem?_append] at h
    split at h
    · exact h
    · have := (List.mem_replicate.1 (List.mem_of_getElem? h)).2; cases this
  have hX : Ext w0.heap.size w g w { g with bx := g.bx ++ List.replicate n none } (fun _ => False) := by
    refine ⟨fun _ _ h => ⟨h, rfl⟩, fun _ _ _ => rfl, fun i blk h => ?_, fun p b a' c _ ho => ?_⟩
    · simp only; rw [List.getElem?_append_left (List.getElem?_eq_some_iff.1 h).1]; exact h
    · obtain ⟨h1, h2, h3, h4, h5⟩ := ho
      exact ⟨h1, h2, fun h => h3 (hmem b h), h4, h5⟩
  refine ⟨hI.below, hI.size, fun i s hs => hX.slot (fun _ h => h) (hI.slots i s hs), by simp [hI.bxlen], fun b bx blk h1 h2 => ?_, fun i j blk h1 h2 => hI.nodup i j blk (hget i blk h1) (hget j blk h2), hI.st0,
    fun b o h => ⟨(hI.st1 b o h).1, fun hm => (hI.st1 b o h).2.1 (hmem b hm), (hI.st1 b o h).2.2⟩, fun b h => hI.bxlt b (hmem b h), hI.glob.ext hX, hI.defers⟩
  have h2' := hget b blk h2
  simp only at h1
  rw [List.getElem?_append_left (by rw [← hI.bxlen]; exact (List.getElem?_eq_some_iff.1 h2').1)] at h1
  exact hX.box (fun _ h => h) rfl (hI.boxes b bx blk h1 h2')

/-- a draw -/
theorem Inv.drew {w0 : World} {St0 : Nat → Nat → Prop} {e : Env} {a : Act} {w : World} {g : Gh} (hI : Inv gl w0 St0 e a w g) : Inv gl w0 St0 e a { w with drawn := w.drawn + 1 } g := by
  have hX : Ext w0.heap.size w g { w with drawn := w.drawn + 1 } g (fun _ => False) := ⟨fun _ _ h => ⟨h, rfl⟩, fun _ _ _ => rfl, fun _ _ h => h, fun _ _ _ _ _ h => h⟩
  refine ⟨⟨hI.below.os, hI.below.tape, hI.below.output, hI.below.size, hI.below.block⟩, hI.size, fun i s hs => hX.slot (fun _ h => h) (hI.slots i s hs), hI.bxlen, fun b bx blk h1 h2 => hX.box (fun _ h => h) rfl (hI.boxes b bx blk h1 h2), hI.nodup, hI.st0, hI.st1, hI.bxlt, hI.glob.ext hX, hI.defers⟩

/-- A REGION -/
theorem region_wp {w0 : World} {St0 : Nat → Nat → Prop} {e : Env} {a : Act} {w : World} {g : Gh} (hI : Inv gl w0 St0 e a w g) {id : Nat} {draw : Bool} {K : Env → Prop} {Q : Exit → Act → World → Prop} (hm : P.follows .mixedOrders = true)
    (hok : (!draw || okAny lin ops) = true) (h : evRegion P gl (Holds P gl) lin ops.toList e K) (hQ : ∀ e a w g, Inv gl w0 St0 e a w g → K e → Q .normal a w) : (Code.region id ops draw).wp P Q a w := by
  unfold evRegion at h
  have hI' := hI.room_for (rankOf ops.toList ops.toList.length)
  cases draw with
  | false =>
    refine wp_region ?_
    have := list_wp (base := e.boxes.length) (lin := lin) hQ ops.toList 0 _ a w _ (fun j => by simp) hI' h
    rw [List.range_eq_range']
    simpa using this
  | true =>
    simp only [Bool.not_true, Bool.false_or] at hok
    refine wp_region_any hm ?_
    have hI2 := hI'.drew
    have hsz : (Array.replicate ops.size false).size = ops.size := by simp
    have := any_lex (P := P) (gl := gl) (base := e.boxes.length) (lin := lin) ops.toList 0 (Array.replicate ops.size false) _ (fun j => by simp) (fun j hj => by omega) (fun j _ hj => by simp [hj]) hsz
      (fun j o ho hl => by
        have hj : j < ops.size := (Array.getElem?_eq_some_iff.1 ho).1
        simp [hj] at hl) ⟨w0, St0, a, _, _, hI2⟩ hok h
    have h2 := any_wp hQ _ _ _ _ _ _ hI2 this
    simpa using h2

end
end Go.Proofs.YtcnnhnjcnekhcaaGreat.Ab
/-
  THE ABSTRACT WALK: a function's code.
-/
namespace Go.Proofs.YtcnnhnjcnekhcaaGreat.Ab
open Go Go.RowKit

def Ex.to : Ex → Exit
  | .normal => .normal
  | .exit i => .exit i
  | .ret => .ret

/-- what code leaves as it is -/
def Fr (c : Code) (e e' : Env) : Prop := e'.slots.length = e.slots.length ∧ e.boxes.length ≤ e'.boxes.length ∧
  ∀ t, t ∉ writesOf c → (e'.slots.getD t (.v .undef)).stays = (e.slots.getD t (.v .undef)).stays

theorem cond_elim {b : Bool} {A : Prop} (h : cond b A False) : b = true ∧ A := by cases b; exact h.elim; exact ⟨rfl, h⟩
theorem cond_intro {b : Bool} {A : Prop} (hb : b = true) (h : A) : cond b A False := by subst hb; exact h

section
variable {P : Program} {gl : Nat → Option D} {h : Hints}

theorem evOps_mono {all : List Oper} {lin : Nat → Bool} {base : Nat} {K K' : Env → Prop} (hk : ∀ e, K e → K' e) : ∀ (l : List Oper) (i : Nat) (e : Env),
    evOps P gl (Holds P gl) lin all base l i e K → evOps P gl (Holds P gl) lin all base l i e K'
  | [], _, _, h => hk _ h
  | o :: l, i, e, h => by
    rw [evOps_eq] at h ⊢
    have hall : all = all.toArray.toList := by simp
    rw [hall] at h ⊢
    obtain ⟨src, s, U, hk', hO, _⟩ := step1_spec h
    refine hO.run ?_
    rw [← hall] at hk' ⊢
    exact evOps_mono hk l (i + 1) _ hk'

theorem evOps_frame {all : List Oper} {lin : Nat → Bool} {base : Nat} {K : Env → Prop} : ∀ (l : List Oper) (i : Nat) (e : Env),
    evOps P gl (Holds P gl) lin all base l i e K → evOps P gl (Holds P gl) lin all base l i e fun e' => K e' ∧ e'.slots.length = e.slots.length ∧ e'.boxes.length = e.boxes.length ∧
      ∀ t, t ∉ l.filterMap (·.dst) → (e'.slots.getD t (.v .undef)).stays = (e.slots.getD t (.v .undef)).stays
  | [], _, _, h => ⟨h, rfl, rfl, fun _ _ => rfl⟩
  | o :: l, i, e, h => by
    rw [evOps_eq] at h ⊢
    have hall : all = all.toArray.toList := by simp
    rw [hall] at h ⊢
    obtain ⟨src, s, U, hk', hO, hst⟩ := step1_spec h
    refine hO.run ?_
    rw [← hall] at hk' ⊢
    refine evOps_mono (fun e' ⟨hK, h1, h2, h3⟩ => ⟨hK, ?_, ?_, fun t ht => ?_⟩) l (i + 1) _ (evOps_frame l (i + 1) _ hk')
    · rw [h1]; unfold fin setO; simp only [putSlot_length]; cases src <;> simp
    · rw [h2]; unfold fin upd; cases U <;> simp
    · have hd : ∀ d, o.dst = some d → d ≠ t := fun d hd hh => by
        subst hh
        exact ht (List.mem_filterMap.2 ⟨o, by simp, hd⟩)
      have ht' : t ∉ l.filterMap (·.dst) := fun hm => by
        obtain ⟨o', ho', hd'⟩ := List.mem_filterMap.1 hm
        exact ht (List.mem_filterMap.2 ⟨o', by simp [ho'], hd'⟩)
      rw [h3 t ht']
      unfold fin putSlot setO
      simp only
      have hset : ((match src with | none => e.slots | some (t, s) => e.slots.set t s).getD t (.v .undef)).stays = (e.slots.getD t (.v .undef)).stays := by
        cases src with
        | none => rfl
        | some p =>
          obtain ⟨t', d⟩ := p
          simp only
          by_cases htt : t' = t
          · subst htt
            have := hst t' d rfl
            rcases Nat.lt_or_ge t' e.slots.length with hl | hl
            · rw [List.getD_eq_getElem?_getD, List.getElem?_set_self hl]; exact this
            · rw [List.set_eq_of_length_le hl]
          · rw [getD_set_ne' htt]
      cases hd' : o.dst with
      | none => exact hset
      | some d => simp only; rw [getD_set_ne' (hd d hd')]; exact hset

theorem condP_frame {e : Env} {c : Operand} {A B A' B' : Env → Prop} (hA : A e → A' e) (hB : B e → B' e) (h : condP e c A B) : condP e c A' B' := by
  cases c with
  | tmp t =>
    simp only [condP] at h ⊢
    cases hx : e.slots.getD t (.v .undef) with
    | v x =>
      rw [hx] at h
      obtain ⟨b, rfl, h1, h2⟩ := ifP_bool h
      cases b
      · have := h2 rfl
        rw [setB_self hx] at this
        show B' _
        rw [setB_self hx]
        exact hB this
      · have := h1 rfl
        rw [setB_self hx] at this
        show A' _
        rw [setB_self hx]
        exact hA this
    | _ => rw [hx] at h; exact h.elim
  | const v =>
    cases v with
    | bool b => cases b; exact hB h; exact hA h
    | _ => exact h.elim
  | _ => exact h.elim
theorem condP_mono {e : Env} {c : Operand} {A B A' B' : Env → Prop} (hA : ∀ e, A e → A' e) (hB : ∀ e, B e → B' e) (h : condP e c A B) : condP e c A' B' := condP_frame (hA e) (hB e) h

theorem aw_mono : ∀ (c : Code) {Q Q' : Ex → Env → Prop} {e : Env}, (∀ x e, Q x e → Q' x e) → aw P gl (Holds P gl) h c Q e → aw P gl (Holds P gl) h c Q' e
  | .skip, _, _, _, hq, hh => hq _ _ hh
  | .region id ops draw, Q, Q', e, hq, hh => by
    obtain ⟨hb, hh⟩ := cond_elim (hh : cond _ _ False)
    exact cond_intro hb (evOps_mono (hq .normal) _ _ _ hh)
  | .seq a b, Q, Q', e, hq, hh => by
    simp only [aw] at hh ⊢
    refine aw_mono a (fun x e' hx => ?_) hh
    cases x with
    | normal => exact aw_mono b hq hx
    | exit i => exact hq _ _ hx
    | ret => exact hq _ _ hx
  | .cond c a b, Q, Q', e, hq, hh => by
    simp only [aw] at hh ⊢
    exact condP_mono (fun e' => aw_mono a hq) (fun e' => aw_mono b hq) hh
  | .block id b, Q, Q', e, hq, hh => by
    simp only [aw] at hh ⊢
    refine aw_mono b (fun x e' hx => ?_) hh
    cases x with
    | normal => exact hq _ _ hx
    | exit i =>
      have hx' : cond (i == id) (Q .normal e') (Q (.exit i) e') := hx
      show cond (i == id) (Q' .normal e') (Q' (.exit i) e')
      cases hb : (i == id) <;> rw [hb] at hx' <;> exact hq _ _ hx'
    | ret => exact hq _ _ hx
  | .loop b, Q, Q', e, hq, hh => by
    obtain ⟨hb, hh⟩ := cond_elim (hh : cond _ _ False)
    refine cond_intro hb fun I hI => hh I fun vs bs hF => hI vs bs (aw_mono b (fun x e' hx => ?_) hF)
    cases x with
    | normal => exact hx
    | exit i => exact hq _ _ hx
    | ret => exact hq _ _ hx
  | .exit id, _, _, _, hq, hh => hq _ _ hh
  | .ret, _, _, _, hq, hh => hq _ _ hh
  | .goto _, _, _, _, _, hh => hh
  | .label _, _, _, _, _, hh => hh
  | .scope _, _, _, _, _, hh => hh
  | .rangeFunc _ _ _ _, _, _, _, _, hh => hh
  | .refuse _, _, _, _, _, hh => hh

theorem Fr.refl (c : Code) (e : Env) : Fr c e e := ⟨rfl, Nat.le_refl _, fun _ _ => rfl⟩
theorem Fr.trans {a b c : Code} {e e1 e2 : Env} (h1 : Fr a e e1) (h2 : Fr b e1 e2) (ha : ∀ t, t ∈ writesOf a → t ∈ writesOf c) (hb : ∀ t, t ∈ writesOf b → t ∈ writesOf c) : Fr c e e2 :=
  ⟨h2.1.trans h1.1, Nat.le_trans h1.2.1 h2.2.1, fun t ht => (h2.2.2 t fun hm => ht (hb t hm)).trans (h1.2.2 t fun hm => ht (ha t hm))⟩
theorem Fr.mono {a c : Code} {e e1 : Env} (h1 : Fr a e e1) (ha : ∀ t, t ∈ writesOf a → t ∈ writesOf c) : Fr c e e1 := ⟨h1.1, h1.2.1, fun t ht => h1.2.2 t fun hm => ht (ha t hm)⟩

theorem restartSlots_get (vars consts : List Nat) (vs : List SV) : ∀ (l : List Slot) (t i : Nat), (restartSlots vars consts vs l t)[i]? = (l[i]?).map fun s => match place (t + i) vars 0 with
    | some j => .v (vget vs j)
    | none => bif consts.contains (t + i) then s.stays else .v .undef
  | [], _, _ => by simp [restartSlots]
  | s :: l, t, i => by
    cases i with
    | zero => simp only [restartSlots, List.getElem?_cons_zero, Option.map_some, Nat.add_zero]; cases place t vars 0 <;> rfl
    | succ i =>
      simp only [restartSlots, List.getElem?_cons_succ]
      rw [restartSlots_get vars consts vs l (t + 1) i, show t + 1 + i = t + (i + 1) by omega]
theorem restartSlots_length (vars consts : List Nat) (vs : List SV) : ∀ (l : List Slot) (t : Nat), (restartSlots vars consts vs l t).length = l.length
  | [], _ => rfl
  | _ :: l, t => by simp [restartSlots, restartSlots_length vars consts vs l (t + 1)]
theorem restartBoxes_get (bs : List (List SV)) : ∀ (l : List Box) (t i : Nat), (restartBoxes bs l t)[i]? = (l[i]?).map fun _ => Box.cells (bget bs (t + i))
  | [], _, _ => by simp [restartBoxes]
  | s :: l, t, i => by
    cases i with
    | zero => simp [restartBoxes]
    | succ i =>
      simp only [restartBoxes, List.getElem?_cons_succ]
      rw [restartBoxes_get bs l (t + 1) i, show t + 1 + i = t + (i + 1) by omega]
theorem restartBoxes_length (bs : List (List SV)) : ∀ (l : List Box) (t : Nat), (restartBoxes bs l t).length = l.length
  | [], _ => rfl
  | _ :: l, t => by simp [restartBoxes, restartBoxes_length bs l (t + 1)]

theorem place_spec {t : Nat} : ∀ {l : List Nat} {i j : Nat}, place t l i = some j → i ≤ j ∧ l[j - i]? = some t
  | [], i, j, h => by cases h
  | v :: l, i, j, h => by
    simp only [place] at h
    cases hv : v == t with
    | true =>
      rw [hv] at h
      simp only [cond_true, Option.some.injEq] at h
      subst h
      have := beq_iff_eq.1 hv
      subst this
      simp
    | false =>
      rw [hv] at h
      obtain ⟨h1, h2⟩ := place_spec (l := l) h
      refine ⟨by omega, ?_⟩
      rw [show j - i = (j - (i + 1)) + 1 by omega, List.getElem?_cons_succ]
      exact h2
theorem place_none {t : Nat} : ∀ {l : List Nat} {i : Nat}, l.contains t = false → place t l i = none
  | [], _, _ => rfl
  | v :: l, i, h => by
    simp only [List.contains_cons, Bool.or_eq_false_iff] at h
    simp only [place]
    have : (v == t) = false := by rw [beq_eq_false_iff_ne] at *; exact fun hh => h.1 hh.symm
    rw [this]
    exact place_none h.2

theorem keepsOk_spec {ws vars consts : List Nat} : ∀ {l : List Slot} {t : Nat}, keepsOk ws vars consts l t = true → ∀ (i : Nat) s, l[i]? = some s → (t + i) ∉ ws → s.stays = .v .undef ∨ (vars.contains (t + i) = false ∧ consts.contains (t + i) = true)
  | [], _, _, i, s, h, _ => by simp at h
  | s' :: l, t, hk, i, s, h, hw => by
    simp only [keepsOk, Bool.and_eq_true] at hk
    cases i with
    | zero =>
      simp at h
      subst h
      have hk1 := hk.1
      cases s' with
      | v x => exact .inl rfl
      | t x => exact .inl rfl
      | _ =>
        refine .inr ?_
        simp only [Bool.or_eq_true, Bool.and_eq_true, Bool.not_eq_true'] at hk1
        rcases hk1 with h | h
        · exact absurd (by simpa using h) hw
        · exact h
    | succ i =>
      have := keepsOk_spec hk.2 i s (by simpa using h) (by rw [show t + 1 + i = t + (i + 1) by omega]; exact hw)
      rw [show t + 1 + i = t + (i + 1) by omega] at this
      exact this

theorem stays_stays (s : Slot) : s.stays.stays = s.stays := by cases s <;> rfl

/-- the environment at a loop's head, made anew -/
def again (vars consts : List Nat) (vs : List SV) (bs : List (List SV)) (e : Env) : Env := ⟨restartSlots vars consts vs e.slots 0, restartBoxes bs e.boxes 0⟩

theorem again_fr {b : Code} {vars consts : List Nat} {vs : List SV} {bs : List (List SV)} {e : Env} (hk : keepsOk (writesOf b) vars consts e.slots 0 = true) : Fr b e (again vars consts vs bs e) := by
  refine ⟨restartSlots_length _ _ _ _ _, by simp [again, restartBoxes_length], fun t ht => ?_⟩
  simp only [again, List.getD_eq_getElem?_getD, restartSlots_get]
  cases hs : e.slots[t]? with
  | none => rfl
  | some s =>
    simp only [Option.map_some, Option.getD_some, Nat.zero_add]
    rcases keepsOk_spec hk t s hs (by simpa using ht) with h | ⟨h1, h2⟩
    · rw [h]
      split
      · rfl
      · cases consts.contains t <;> simp [h, Slot.stays]
    · rw [Nat.zero_add] at h1 h2
      rw [place_none h1]
      simp only [h2, cond_true, stays_stays]

theorem aw_frame : ∀ (c : Code) {Q : Ex → Env → Prop} {e : Env}, aw P gl (Holds P gl) h c Q e → aw P gl (Holds P gl) h c (fun x e' => Q x e' ∧ Fr c e e') e
  | .skip, _, e, hh => ⟨hh, Fr.refl _ _⟩
  | .region id ops draw, Q, e, hh => by
    obtain ⟨hb, hh⟩ := cond_elim (hh : cond _ _ False)
    refine cond_intro hb (evOps_mono (fun e' ⟨h1, h2, h3, h4⟩ => ⟨h1, h2, ?_, h4⟩) _ _ _ (evOps_frame _ _ _ hh))
    rw [h3]; simp
  | .seq a b, Q, e, hh => by
    refine aw_mono a (fun x e' hx => ?_) (aw_frame a hh)
    obtain ⟨hx, hf⟩ := hx
    cases x with
    | normal => exact aw_mono b (fun y e2 hy => ⟨hy.1, hf.trans hy.2 (fun t ht => by simp [writesOf, ht]) (fun t ht => by simp [writesOf, ht])⟩) (aw_frame b hx)
    | exit i => exact ⟨hx, hf.mono fun t ht => by simp [writesOf, ht]⟩
    | ret => exact ⟨hx, hf.mono fun t ht => by simp [writesOf, ht]⟩
  | .cond c a b, Q, e, hh =>
    condP_frame (A := aw P gl (Holds P gl) h a Q) (B := aw P gl (Holds P gl) h b Q)
      (fun ha => aw_mono a (fun y e2 hy => ⟨hy.1, hy.2.mono fun t ht => by simp [writesOf, ht]⟩) (aw_frame a ha)) (fun hb => aw_mono b (fun y e2 hy => ⟨hy.1, hy.2.mono fun t ht => by simp [writesOf, ht]⟩) (aw_frame b hb)) hh
  | .block id b, Q, e, hh => by
    refine aw_mono b (fun x e' hx => ?_) (aw_frame b hh)
    obtain ⟨hx, hf⟩ := hx
    have hf' : Fr (.block id b) e e' := hf
    cases x with
    | normal => exact ⟨hx, hf'⟩
    | exit i =>
      have hx' : cond (i == id) (Q .normal e') (Q (.exit i) e') := hx
      show cond (i == id) (Q .normal e' ∧ Fr (.block id b) e e') (Q (.exit i) e' ∧ Fr (.block id b) e e')
      cases hb : (i == id) <;> rw [hb] at hx' <;> exact ⟨hx', hf'⟩
    | ret => exact ⟨hx, hf'⟩
  | .loop b, Q, e, hh => by
    obtain ⟨hb, hh⟩ := cond_elim (hh : cond _ _ False)
    have hk := (Bool.and_eq_true _ _ ▸ hb).2
    refine cond_intro hb fun I hI => ?_
    refine hh I fun vs bs hF => hI vs bs (aw_mono b (fun x e' hx => ?_) (aw_frame b hF))
    obtain ⟨hx, hf⟩ := hx
    have hf' : Fr (.loop b) e e' := (again_fr (vs := vs) (bs := bs) hk).trans (b := b) hf (fun t ht => ht) (fun t ht => ht)
    cases x with
    | normal => exact hx
    | exit i => exact ⟨hx, hf'⟩
    | ret => exact ⟨hx, hf'⟩
  | .exit id, _, e, hh => ⟨hh, Fr.refl _ _⟩
  | .ret, _, e, hh => ⟨hh, Fr.refl _ _⟩
  | .goto _, _, _, hh => hh
  | .label _, _, _, hh => hh
  | .scope _, _, _, hh => hh
  | .rangeFunc _ _ _ _, _, _, hh => hh
  | .refuse _, _, _, hh => hh

end
end Go.Proofs.YtcnnhnjcnekhcaaGreat.Ab
/-
  THE ABSTRACT WALK IS SOUND.
-/
namespace Go.Proofs.YtcnnhnjcnekhcaaGreat.Ab
open Go Go.RowKit

section
variable {P : Program} {gl : Nat → Option D} {h : Hints}

/-- the variables at a loop's head -/
def Gh.cut (g : Gh) (n : Nat) : Gh := { g with bx := g.bx.take n }

theorem cut_get {g : Gh} {n i : Nat} {x : Option Nat} (hi : i < n) : (g.cut n).bx[i]? = some x ↔ g.bx[i]? = some x := by
  simp only [Gh.cut]; rw [List.getElem?_take, if_pos hi]
theorem cut_get_inv {g : Gh} {n i : Nat} {x : Option Nat} (h : (g.cut n).bx[i]? = some x) : i < n ∧ g.bx[i]? = some x := by
  simp only [Gh.cut] at h
  rw [List.getElem?_take] at h
  split at h
  · exact ⟨by assumption, h⟩
  · cases h
theorem cut_mem {g : Gh} {n : Nat} {x : Option Nat} (h : x ∈ (g.cut n).bx) : x ∈ g.bx := List.mem_of_mem_take h

theorem cut_own {base : Nat} {w : World} {g : Gh} {n : Nat} {p : Pos} {b a c : Nat} (h : OwnAt base w g p b a c) : OwnAt base w (g.cut n) p b a c :=
  ⟨h.1, h.2.1, fun hm => h.2.2.1 (cut_mem hm), h.2.2.2⟩

/-- a pointer or closure that was there at the head -/
theorem cut_slot {base base0 : Nat} {w w1 : World} {g g1 : Gh} {s : Slot} {v v1 : Value} {O O1 : Nat → Nat → Nat → Nat → Prop} (h0 : RepS base0 w g O s v) (h1 : RepS base w1 g1 O1 s v1) {n : Nat} (hn : g.bx.length ≤ n) :
    ∀ O2, (∀ x, s ≠ .v x) → (∀ x, s ≠ .t x) → RepS base w1 (g1.cut n) O2 s v1 := by
  have key : ∀ {s : Slot} {v1 : Value} {O1 : Nat → Nat → Nat → Nat → Prop}, RepS base w1 g1 O1 s v1 → ∀ {O v}, RepS base0 w g O s v → ∀ O2, (∀ j b a c, O1 j b a c → O2 j b a c) → RepS base w1 (g1.cut n) O2 s v1 := by
    intro s v1 O1 h1
    induction h1 with
    | v O1 x y hx => intro O v _ O2 hO; exact .v _ _ _ (hx.mono (fun _ _ h => ⟨h, rfl⟩) (fun _ _ _ => rfl) _ (hO 0))
    | p O1 b off blk hb =>
      intro O v h0 O2 hO
      obtain ⟨blk0, _, hb0⟩ := h0.p_inv
      have := (List.getElem?_eq_some_iff.1 hb0).1
      exact .p _ b off blk ((cut_get (by omega)).2 hb)
    | c O1 f first cap fv cv hf hc _ _ ihf ihc =>
      intro O v h0 O2 hO
      cases h0 with
      | c _ _ _ _ fv0 cv0 hf0 hc0 rf0 rc0 =>
        refine .c _ f first cap fv cv hf hc (fun i x v hx hv => ?_) (fun i x v hx hv => ?_)
        · have hi : i < fv0.size := by rw [← hf0]; exact (List.getElem?_eq_some_iff.1 hx).1
          exact ihf i x v hx hv (rf0 i x fv0[i] hx (by simp)) _ (fun _ _ _ _ h => h)
        · have hi : i < cv0.size := by rw [← hc0]; exact (List.getElem?_eq_some_iff.1 hx).1
          exact ihc i x v hx hv (rc0 i x cv0[i] hx (by simp)) _ (fun _ _ _ _ h => h)
    | t O1 xs vs hl hc =>
      intro O v _ O2 hO
      exact .t _ xs vs hl fun j x v a b => (hc j x v a b).mono (fun _ _ h => ⟨h, rfl⟩) (fun _ _ _ => rfl) _ (hO j)
  intro O2 hv ht
  cases h1 with
  | v _ x _ _ => exact absurd rfl (hv x)
  | t _ x _ _ _ => exact absurd rfl (ht x)
  | p _ b off blk hb => exact key (.p O2 b off blk hb) h0 _ (fun _ _ _ _ h => h)
  | c _ f first cap fv cv hf hc rf rc => exact key (.c O2 f first cap fv cv hf hc rf rc) h0 _ (fun _ _ _ _ h => h)

theorem again_inv {w0 : World} {St0 : Nat → Nat → Prop} {e e1 : Env} {a a1 : Act} {w w1 : World} {g g1 : Gh} (hI : Inv gl w0 St0 e a w g) (hI1 : Inv gl w0 St0 e1 a1 w1 g1) {b : Code} (hf : Fr b e e1) {vars consts : List Nat}
    (hc : ∀ t ∈ consts, t ∉ writesOf b) : Inv gl w0 St0 (again vars consts (valsOf e1 vars) (boxesOf e.boxes.length e1) e) a1 w1 (g1.cut e.boxes.length) := by
  have hX : Ext w0.heap.size w1 g1 w1 { g1 with bx := g1.bx } (fun _ => False) := ⟨fun _ _ h => ⟨h, rfl⟩, fun _ _ _ => rfl, fun _ _ h => h, fun _ _ _ _ _ h => h⟩
  refine ⟨hI1.below, ?_, ?_, ?_, ?_, ?_, hI1.st0, ?_, ?_, ?_, hI1.defers⟩
  · rw [hI1.size, hf.1]; simp [again, restartSlots_length]
  · intro i s hs
    simp only [again, restartSlots_get, Option.map_eq_some_iff, Nat.zero_add] at hs
    obtain ⟨s0, hs0, rfl⟩ := hs
    have h1 := getD_slot hI1 i
    simp only [Act.eval] at h1
    split
    · rename_i j hj
      obtain ⟨_, hj2⟩ := place_spec hj
      simp only [Nat.sub_zero] at hj2
      have hv : vget (valsOf e1 vars) j = (e1.slots.getD i (.v .undef)).toSV := by
        simp [vget, valsOf, List.getD_eq_getElem?_getD, List.getElem?_map, hj2]
      rw [hv]
      cases hsl : e1.slots.getD i (.v .undef) with
      | v x =>
        rw [hsl] at h1
        exact .v _ _ _ (h1.v_inv.mono (fun _ _ h => ⟨h, rfl⟩) (fun _ _ _ => rfl) _ (fun _ _ _ h => cut_own h))
      | _ => exact .v _ _ _ (.undef _ _)
    · cases hcc : consts.contains i with
      | false => exact .v _ _ _ (.undef _ _)
      | true =>
        have hnw := hc i (by simpa using hcc)
        have hst := hf.2.2 i hnw
        have hs0' : e.slots.getD i (.v .undef) = s0 := by rw [List.getD_eq_getElem?_getD, hs0]; rfl
        rw [hs0'] at hst
        have h0 := hI.slots i s0 hs0
        cases s0 with
        | v x => exact .v _ _ _ (.undef _ _)
        | t x => exact .v _ _ _ (.undef _ _)
        | p b' off =>
          have hs1 : e1.slots.getD i (.v .undef) = .p b' off := by
            revert hst
            cases e1.slots.getD i (.v .undef) <;> simp [Slot.stays]
          rw [hs1] at h1
          exact cut_slot h0 h1 (by rw [hI.bxlen]; exact Nat.le_refl _) _ (by simp) (by simp)
        | c f first cap =>
          have hs1 : e1.slots.getD i (.v .undef) = .c f first cap := by
            revert hst
            cases e1.slots.getD i (.v .undef) <;> simp [Slot.stays] <;> intros <;> simp_all
          rw [hs1] at h1
          exact cut_slot h0 h1 (by rw [hI.bxlen]; exact Nat.le_refl _) _ (by simp) (by simp)
  · simp only [again, restartBoxes_length, Gh.cut, List.length_take, hI1.bxlen]
    have := hf.2.1
    omega
  · intro b' bx blk h1 h2
    obtain ⟨hlt, h2⟩ := cut_get_inv h2
    simp only [again, restartBoxes_get, Option.map_eq_some_iff, Nat.zero_add] at h1
    obtain ⟨bx0, _, rfl⟩ := h1
    have hlt1 : b' < e1.boxes.length := by rw [← hI1.bxlen]; exact (List.getElem?_eq_some_iff.1 h2).1
    obtain ⟨r1, c, t, r2, r3, r4⟩ := hI1.boxes b' e1.boxes[b'] blk (by simp) h2
    have hvals : bget (boxesOf e.boxes.length e1) b' = e1.boxes[b'].vals := by
      simp [bget, boxesOf, List.getD_eq_getElem?_getD, List.getElem?_map, List.getElem?_take, hlt, hlt1]
    rw [hvals]
    refine ⟨r1, c, t, r2, r3, ?_⟩
    revert r4
    cases e1.boxes[b'] with
    | none => intro r4; exact r4.elim
    | cells cs =>
      intro r4
      exact ⟨r4.1, fun j x y hx hy => (r4.2 j x y hx hy).mono (fun _ _ h => ⟨h, rfl⟩) (fun _ _ _ => rfl) _ (fun _ _ _ h => cut_own h)⟩
    | one s =>
      intro r4
      refine ⟨by simp [Box.vals, r4.1], fun j x y hx hy => ?_⟩
      have : x = .undef := by
        cases j <;> simp [Box.vals] at hx
        exact hx.symm
      subst this
      exact .undef _ _
  · intro i j blk h1 h2
    exact hI1.nodup i j blk (cut_get_inv h1).2 (cut_get_inv h2).2
  · intro b' o h'
    exact ⟨(hI1.st1 b' o h').1, fun hm => (hI1.st1 b' o h').2.1 (cut_mem hm), (hI1.st1 b' o h').2.2⟩
  · intro b' h'
    exact hI1.bxlt b' (cut_mem h')
  · exact hI1.glob

theorem aw_sound (hm : P.follows .mixedOrders = true) : ∀ (c : Code) {w0 : World} {St0 : Nat → Nat → Prop} {QA : Ex → Env → Prop} {e : Env} {a : Act} {w : World} {g : Gh} {Q : Exit → Act → World → Prop},
    Inv gl w0 St0 e a w g → aw P gl (Holds P gl) h c QA e → (∀ x e' a' w' g', Inv gl w0 St0 e' a' w' g' → QA x e' → Q x.to a' w') → c.wp P Q a w
  | .skip, _, _, _, _, _, _, _, _, hI, hh, hQ => wp_skip (hQ .normal _ _ _ _ hI hh)
  | .region id ops draw, w0, St0, QA, e, a, w, g, Q, hI, hh, hQ => by
    obtain ⟨hb, hh⟩ := cond_elim (hh : cond _ _ False)
    exact region_wp hI hm hb hh fun e' a' w' g' hI' hk => hQ .normal e' a' w' g' hI' hk
  | .seq x y, w0, St0, QA, e, a, w, g, Q, hI, hh, hQ => by
    refine wp_seq (aw_sound hm x hI hh fun ex e' a' w' g' hI' hk => ?_)
    cases ex with
    | normal => exact aw_sound hm y hI' hk hQ
    | exit i => exact hQ (.exit i) e' a' w' g' hI' hk
    | ret => exact hQ .ret e' a' w' g' hI' hk
  | .cond c x y, w0, St0, QA, e, a, w, g, Q, hI, hh, hQ => by
    have hh : condP e c (aw P gl (Holds P gl) h x QA) (aw P gl (Holds P gl) h y QA) := hh
    cases c with
    | tmp t =>
      simp only [condP] at hh
      have hs := getD_slot hI t
      cases hx : e.slots.getD t (.v .undef) with
      | v z =>
        rw [hx] at hh hs
        obtain ⟨b, rfl, h1, h2⟩ := ifP_bool hh
        have hv := hs.v_inv.data.bool_inv
        refine wp_cond_split hv (fun hb => ?_) (fun hb => ?_)
        · have := h1 hb
          subst hb
          rw [setB_self hx] at this
          exact aw_sound hm x hI this hQ
        · have := h2 hb
          subst hb
          rw [setB_self hx] at this
          exact aw_sound hm y hI this hQ
      | _ => rw [hx] at hh; exact hh.elim
    | const v =>
      cases v with
      | bool b =>
        refine wp_cond_split (t := b) rfl (fun hb => ?_) (fun hb => ?_)
        · subst hb; exact aw_sound hm x hI hh hQ
        · subst hb; exact aw_sound hm y hI hh hQ
      | _ => exact hh.elim
    | _ => exact hh.elim
  | .block id b, w0, St0, QA, e, a, w, g, Q, hI, hh, hQ => by
    refine wp_block (aw_sound hm b hI hh fun ex e' a' w' g' hI' hk => ?_)
    cases ex with
    | normal => exact hQ .normal e' a' w' g' hI' hk
    | exit i =>
      have hk' : cond (i == id) (QA .normal e') (QA (.exit i) e') := hk
      show (if i = id then Q .normal a' w' else Q (.exit i) a' w')
      cases hb : (i == id) with
      | true =>
        rw [hb] at hk'
        rw [if_pos (beq_iff_eq.1 hb)]
        exact hQ .normal e' a' w' g' hI' hk'
      | false =>
        rw [hb] at hk'
        rw [if_neg (beq_eq_false_iff_ne.1 hb)]
        exact hQ (.exit i) e' a' w' g' hI' hk'
    | ret => exact hQ .ret e' a' w' g' hI' hk
  | .loop b, w0, St0, QA, e, a, w, g, Q, hI, hh, hQ => by
    obtain ⟨hb, hh⟩ := cond_elim (hh : cond _ _ False)
    simp only [Bool.and_eq_true, List.all_eq_true, Bool.not_eq_true', List.contains_eq_mem, decide_eq_false_iff_not] at hb
    obtain ⟨hcon, hk⟩ := hb
    let LW : Act → World → Prop := fun a1 w1 => ∀ (fr : Frame) (k : List Item) (cs : List Frame), ∃ ex a' w', Q ex a' w' ∧ Arrives P (lone (fr.at a1 (.code b :: .inLoop b :: k)) cs w1) fr k cs ex a' w'
    let I : List SV → List (List SV) → Prop := fun vs bs => ∀ e1 a1 w1 g1, Inv gl w0 St0 e1 a1 w1 g1 → Fr b e e1 → valsOf e1 (keepAt h.keep (firstId b)).1 = vs → boxesOf e.boxes.length e1 = bs → LW a1 w1
    have key : I _ _ := hh I fun vs bs hF e1 a1 w1 g1 hI1 hfr hvs hbs => by
      subst hvs hbs
      have hIr := again_inv hI hI1 hfr (vars := (keepAt h.keep (firstId b)).1) hcon
      have hbody := aw_sound hm b (Q := fun ex a' w' => match ex with | .normal => LW a' w' | ex => Q ex a' w') hIr (aw_frame b hF) (fun ex e' a' w' g' hI' hk' => by
        obtain ⟨hk1, hk2⟩ := hk'
        cases ex with
        | normal => exact hk1 e' a' w' g' hI' ((again_fr hk).trans hk2 (fun t ht => ht) (fun t ht => ht)) rfl rfl
        | exit i => exact hQ (.exit i) e' a' w' g' hI' hk1
        | ret => exact hQ .ret e' a' w' g' hI' hk1)
      intro fr k cs
      obtain ⟨ex, a2, w2, hq, harr⟩ := hbody fr (.inLoop b :: k) cs
      cases ex with
      | normal =>
        obtain ⟨e₂, a₂, w₂, hq₂, harr₂⟩ := hq fr k cs
        exact ⟨e₂, a₂, w₂, hq₂, .of_steps (Steps.trans harr (.one step_inLoop)) harr₂⟩
      | exit id => exact ⟨_, a2, w2, hq, .pass (x := .inLoop b) rfl (fun _ _ => .inl (by simp)) harr⟩
      | goto l => exact ⟨_, a2, w2, hq, .pass (x := .inLoop b) rfl (fun _ _ => .inl (by simp)) harr⟩
      | ret => exact ⟨_, a2, w2, hq, .pass (x := .inLoop b) rfl (fun _ _ => .inl (by simp)) harr⟩
      | panic ch => exact ⟨_, a2, w2, hq, .pass (x := .inLoop b) rfl (fun _ _ => .inl (by simp)) harr⟩
      | outgrown => exact ⟨_, a2, w2, hq, .pass (x := .inLoop b) rfl (fun _ _ => .inl (by simp)) harr⟩
    have hLW : LW a w := key e a w g hI (Fr.refl _ _) rfl rfl
    intro fr k cs
    obtain ⟨ex, a', w', hq, harr⟩ := hLW fr k cs
    exact ⟨ex, a', w', hq, .of_steps (.one step_loop) harr⟩
  | .exit id, _, _, _, _, _, _, _, _, hI, hh, hQ => wp_exit (hQ (.exit id) _ _ _ _ hI hh)
  | .ret, _, _, _, _, _, _, _, _, hI, hh, hQ => wp_ret (hQ .ret _ _ _ _ hI hh)
  | .goto _, _, _, _, _, _, _, _, _, _, hh, _ => hh.elim
  | .label _, _, _, _, _, _, _, _, _, _, hh, _ => hh.elim
  | .scope _, _, _, _, _, _, _, _, _, _, hh, _ => hh.elim
  | .rangeFunc _ _ _ _, _, _, _, _, _, _, _, _, _, hh, _ => hh.elim
  | .refuse _, _, _, _, _, _, _, _, _, _, hh, _ => hh.elim

end
end Go.Proofs.YtcnnhnjcnekhcaaGreat.Ab
/-
  THE ABSTRACT WALK: a function's contract.
-/
namespace Go.Proofs.YtcnnhnjcnekhcaaGreat.Ab
open Go Go.RowKit

section
variable {P : Program} {gl : Nat → Option D} {h : Hints}

theorem enters_of {f : FuncId} {fn : Func} {c : Code} (hf : P.funcs[f]? = some fn) (hname : (fn.name == "runtime.NumGoroutine") = false) (hb : fn.body = some c) : Enters P f := by
  intro args w
  have h1 : fn.name ≠ "runtime.NumGoroutine" := by simpa using hname
  simp [callFunc, hf, h1, hb]

/-- nothing in it points below a block -/
theorem RepV.base0 {w : World} {St : Nat → Nat → Prop} {base : Nat} {O : Nat → Nat → Nat → Prop} {x : SV} {v : Value} (r : RepV w St base O x v) (hx : x.noRef = true) : RepV w St 0 O x v := by
  have hL : ∀ {l : List SV}, SV.noRefL l = true → ∀ (i : Nat) y, l[i]? = some y → y.noRef = true := by
    intro l
    induction l with
    | nil => intro _ i y h; simp at h
    | cons z l ih =>
      intro h i y hy
      simp only [SV.noRefL, Bool.and_eq_true] at h
      cases i with
      | zero => simp at hy; subst hy; exact h.1
      | succ i => exact ih h.2 i y (by simpa using hy)
  induction r with
  | d O x v hd => exact .d O x v hd
  | own O sz L g cap hd hcap ho => exact .own O sz L g cap hd hcap ho
  | full O sz L a hd => exact .full O sz L a hd
  | ref => simp [SV.noRef] at hx
  | dptr O x off b o vs hf hcell hc => exact .dptr O x off b o vs hf hcell hc
  | clo O f first cap fv cv hf hc _ _ ihf ihc =>
    simp only [SV.noRef, Bool.and_eq_true] at hx
    exact .clo O f first cap fv cv hf hc (fun i x v a b => ihf i x v a b (hL hx.1 i x a)) (fun i x v a b => ihc i x v a b (hL hx.2 i x a))
  | undef O v => exact .undef O v

theorem RepV.not_tup {w : World} {St : Nat → Nat → Prop} {base : Nat} {O : Nat → Nat → Nat → Prop} {l : List SV} {v : Value} (r : RepV w St base O (.tup l) v) : False := by cases r

/-- a result's value -/
def resultVal (r : ResultVar) (tmps : Array Value) : Sem Value := match r with
  | .tmp t => pure (tmps.getD t undef)
  | .cell a t => do loadVar t (← asAddr (tmps.getD a undef))

theorem results_eq (fn : Func) (tmps : Array Value) : results fn tmps = (fn.results.mapM fun r => resultVal r tmps) >>= fun vs => pure (if h : vs.size = 1 then vs[0] else .tuple vs) := by
  unfold results
  congr 1

/-- who owns a result's row -/
def posRes (rs : List ResultVar) : Pos → Option Nat
  | .s t 0 => rs.findIdx? fun r => match r with | .tmp u => u == t | _ => false
  | _ => none
def ResOw (g : Gh) (rs : List ResultVar) (b : Nat) : Option Nat := (g.ow b).bind (posRes rs)

theorem resP_run {w0 : World} {St0 : Nat → Nat → Prop} {e : Env} {a : Act} {w : World} {g : Gh} (hI : Inv gl w0 St0 e a w g) {rs : List ResultVar} {used : List Nat} {j : Nat} {r : ResultVar} (hr : rs[j]? = some r)
    (hused : ∀ i u, i < j → rs[i]? = some (.tmp u) → u ∈ used) {k : SV → Prop} (hh : resP P e used r k) :
    ∃ x v, k x ∧ (resultVal r a.tmps).run P w = .ok v w ∧ RepV w g.St 0 (ResO w0.heap.size w g.St (ResOw g rs) j) x v := by
  cases r with
  | tmp t =>
    simp only [resP] at hh
    have hs := getD_slot hI t
    cases hx : e.slots.getD t (.v .undef) with
    | v x =>
      rw [hx] at hh hs
      obtain ⟨hn, hk⟩ := hh
      refine ⟨_, a.tmps.getD t undef, hk, rfl, ?_⟩
      have hv : RepV w g.St 0 (slotO w0.heap.size w g t 0) x (a.tmps.getD t undef) := hs.v_inv.base0 hn
      cases hu : used.contains t with
      | true => exact hv.demote
      | false =>
        refine hv.mono (fun _ _ h => ⟨h, rfl⟩) (fun _ _ _ => rfl) _ fun b a' c ho => ?_
        obtain ⟨o1, o2, _, o4, o5⟩ := ho
        refine ⟨?_, o2, o4, o5⟩
        simp only [ResOw, o1, Option.bind_some, posRes]
        rw [List.findIdx?_eq_some_iff_getElem]
        have hj : j < rs.length := (List.getElem?_eq_some_iff.1 hr).1
        have hrj : rs[j] = .tmp t := (List.getElem?_eq_some_iff.1 hr).2
        refine ⟨hj, by simp [hrj], fun i hi => ?_⟩
        have hil : i < rs.length := by omega
        cases hri : rs[i] with
        | tmp u =>
          have := hused i u hi (by rw [List.getElem?_eq_getElem hil, hri])
          have hne : u ≠ t := by
            rintro rfl
            simp at hu
            exact hu this
          simpa using hne
        | cell _ _ => simp
    | _ => rw [hx] at hh; exact hh.elim
  | cell c t =>
    simp only [resP] at hh
    obtain ⟨ly, hl, hh⟩ := bindO_some hh
    obtain ⟨b0, n⟩ := ly
    have hs := getD_slot hI c
    cases hx : e.slots.getD c (.v .undef) with
    | p bn off =>
      rw [hx] at hh hs
      obtain ⟨blk, hv, hblk⟩ := hs.p_inv
      simp only [Act.eval] at hv
      change loadBox b0 n bn off e.boxes _ at hh
      unfold loadBox at hh
      split at hh
      · rename_i cs hcs
        obtain ⟨y, hy, hn, hk⟩ := bindO_some hh
        obtain ⟨h0, cc, ty, hc, hone, hlen, hrep⟩ := hI.boxes bn _ blk hcs hblk
        obtain ⟨v, h1, h2⟩ := partV_load (w := w) (off := off) (St := g.St) (O := fun j => boxO w0.heap.size w g bn j) hl hy blk 0 (fun i => cc.getD i undef) (fun i hi => by
            rw [cell_of_row w blk (0 + i) cc ty (0, 0) hc]; simp [hlen ▸ hi]) (fun i d hd => by
            have hi := (List.getElem?_eq_some_iff.1 hd).1
            exact hrep i d _ hd (by simp [hlen ▸ hi])) (fun i hi => by
            have hi' : i < cc.size := hlen ▸ hi
            simp [hi']; exact hone _ (Array.getElem_mem hi'))
        simp only [Nat.zero_add] at h1
        refine ⟨_, v, hk, ?_, (h2.demote (O' := fun _ _ _ => False)).base0 hn |>.mono (fun _ _ h => ⟨h, rfl⟩) (fun _ _ _ => rfl) _ (fun _ _ _ h => h.elim)⟩
        simp [resultVal, hv, asAddr, h1]
      · rename_i s hs'
        cases b0 with
        | true => exact hh.elim
        | false =>
          simp only [cond_false] at hh
          split at hh
          · obtain ⟨h0, cc, ty, hc, hone, hsz, hrep⟩ := hI.boxes bn _ blk hs' hblk
            have h0c : cc[0]? = some (cc[0]'(by omega)) := by simp
            have hd := (hrep _ h0c).demote (O' := fun _ _ _ _ => False)
            split at hh
            · rename_i x hx'
              obtain ⟨hn, hk⟩ := hh
              rw [hx'] at hd
              refine ⟨x, cc[0]'(by omega), hk, ?_, hd.v_inv.base0 hn |>.mono (fun _ _ h => ⟨h, rfl⟩) (fun _ _ _ => rfl) _ (fun _ _ _ h => h.elim)⟩
              have hrun := loadVar_run (P := P) (w := w) (vs := fun _ => cc[0]'(by omega)) hl blk 0 (fun j hj => by
                simp at hj; subst hj
                rw [cell_of_row w blk (0 + 0) cc ty (0, 0) hc]; exact h0c)
              simp [resultVal, hv, asAddr, hrun]
            · exact hh.elim
          · exact hh.elim
      · exact hh.elim
    | _ => rw [hx] at hh; exact hh.elim

theorem ressP_run {w0 : World} {St0 : Nat → Nat → Prop} {e : Env} {a : Act} {w : World} {g : Gh} (hI : Inv gl w0 St0 e a w g) {rs : List ResultVar} : ∀ (l : List ResultVar) (used : List Nat) (j : Nat) (k : List SV → Prop), (∀ i, l[i]? = rs[j + i]?) →
    (∀ i u, i < j → rs[i]? = some (.tmp u) → u ∈ used) → ressP P e used l k →
    ∃ xs vs, k xs ∧ xs.length = l.length ∧ (l.mapM fun r => resultVal r a.tmps).run P w = .ok vs w ∧ vs.length = l.length ∧ ∀ (i : Nat) x v, xs[i]? = some x → vs[i]? = some v → RepV w g.St 0 (ResO w0.heap.size w g.St (ResOw g rs) (j + i)) x v
  | [], _, _, k, _, _, hh => ⟨[], [], hh, rfl, by simp, rfl, fun i x v h => by simp at h⟩
  | r :: l, used, j, k, hl, hu, hh => by
    simp only [ressP] at hh
    have hr : rs[j]? = some r := by simpa using (hl 0).symm
    obtain ⟨x, v, hk, hrun, hrep⟩ := resP_run hI hr hu hh
    obtain ⟨xs, vs, hk', hxl, hruns, hvl, hreps⟩ := ressP_run hI l (usedOf used r) (j + 1) _ (fun i => by have := hl (i + 1); simpa [Nat.add_assoc, Nat.add_comm 1 i] using this) (fun i u hi hri => by
      rcases Nat.lt_or_ge i j with h' | h'
      · have := hu i u h' hri
        cases r <;> simp [usedOf, this]
      · have : i = j := by omega
        subst this
        rw [hr] at hri
        cases hri
        simp [usedOf]) hk
    refine ⟨x :: xs, v :: vs, hk', by simp [hxl], ?_, by simp [hvl], fun i y u hy hv => ?_⟩
    · simp [List.mapM_cons, hrun, hruns]
    · cases i with
      | zero => simp at hy hv; subst hy hv; exact hrep
      | succ i =>
        have := hreps i y u (by simpa using hy) (by simpa using hv)
        rw [show j + (i + 1) = j + 1 + i by omega]
        exact this

theorem results_run {fn : Func} {tmps : Array Value} {vs : List Value} {w : World} (hh : (fn.results.toList.mapM fun r => resultVal r tmps).run P w = .ok vs w) :
    (results fn tmps).run P w = .ok (match vs with | [v] => v | vs => .tuple vs.toArray) w := by
  rw [results_eq, Array.mapM_eq_mapM_toList]
  simp only [Sem.run_bind, map_eq_pure_bind, hh, Result.andThen_ok, Sem.run_pure]
  match vs with
  | [] => simp
  | [v] => simp
  | v :: u :: l => simp

theorem finish_run {w0 : World} {St0 : Nat → Nat → Prop} {e : Env} {a : Act} {w : World} {g : Gh} (hI : Inv gl w0 St0 e a w g) {fn : Func} {K : SV → Prop} (hh : finish P fn e K) :
    ∃ r v, K r ∧ (results fn a.tmps).run P w = .ok v w ∧ RepRes w0.heap.size w g.St (ResOw g fn.results.toList) r v := by
  unfold finish at hh
  split at hh
  · rename_i r hr
    have hrs : fn.results.toList[0]? = some r := by rw [hr]; rfl
    obtain ⟨x, v, hk, hrun, hrep⟩ := resP_run hI hrs (fun i u hi => by omega) hh
    refine ⟨x, v, hk, ?_, ?_⟩
    · have := results_run (P := P) (fn := fn) (tmps := a.tmps) (w := w) (vs := [v]) (by rw [hr]; simp [hrun])
      exact this
    · cases x with
      | tup l => exact hrep.not_tup.elim
      | _ => exact hrep
  · rename_i hne
    obtain ⟨xs, vs, hk, hxl, hrun, hvl, hrep⟩ := ressP_run hI (rs := fn.results.toList) fn.results.toList [] 0 _ (fun i => by simp) (fun i u hi => by omega) hh
    refine ⟨.tup xs, .tuple vs.toArray, hk, ?_, vs.toArray, rfl, by simp [hxl, hvl], fun j x y hx hy => ?_⟩
    · rw [results_run hrun]
      split
      · rename_i v
        exfalso
        match hrr : fn.results.toList with
        | [] => rw [hrr] at hvl; simp at hvl
        | [r] => exact hne r hrr
        | _ :: _ :: _ => rw [hrr] at hvl; simp at hvl
      · rfl
    · have := hrep j x y hx (by simpa using hy)
      simpa using this

/-- **A FUNCTION'S CONTRACT, FROM ITS TEXT** -/
theorem holds_of_body (hm : P.follows .mixedOrders = true) {f : FuncId} {args : List SV} {r : SV} (hE : Enters P f) (hh : body P gl (Holds P gl) h f args fun x => x = r) : Holds P gl f args r := by
  refine ⟨hE, fun w St vs hSt hgl hlen hargs => ?_⟩
  unfold body at hh
  split at hh
  · rename_i fn hf
    split at hh
    · rename_i c hb
      have hwf : SV.WfL args := by
        rw [SV.WfL_iff]
        intro x hx
        obtain ⟨i, hi, rfl⟩ := List.mem_iff_getElem.1 hx
        exact (hargs i _ (vs[i]'(by omega)) (by simp) (by simp)).wf
      have hh := hh hwf
      have hI : Inv gl w St (enter fn.ntmps args) { tmps := vs ++ Array.replicate (fn.ntmps - vs.size) undef, defers := [] } w ⟨St, [], fun _ => none⟩ := by
        refine ⟨Below.refl _ _, by simp [enter, hlen], fun i s hs => ?_, rfl, fun b bx blk h1 => by simp [enter] at h1, fun i j blk h1 => by simp at h1, fun _ _ h => h, fun b o hb => ⟨.inl hb, by simp, hSt b o hb⟩, fun b hb => by simp at hb, hgl, rfl⟩
        simp only [enter] at hs
        rw [List.getElem?_append] at hs
        split at hs
        · rename_i hi
          simp only [List.length_map] at hi
          simp only [List.getElem?_map, Option.map_eq_some_iff] at hs
          obtain ⟨x, hx, rfl⟩ := hs
          have hiv : i < vs.size := by omega
          have := hargs i x vs[i] hx (by simp)
          have hget : (vs ++ Array.replicate (fn.ntmps - vs.size) undef).getD i undef = vs[i] := by
            simp [Array.getElem?_append, hiv]
          rw [hget]
          exact .v _ _ _ (this.mono (fun _ _ h => ⟨h, rfl⟩) (fun _ _ _ => rfl) _ (fun _ _ _ h => h.elim))
        · have := (List.mem_replicate.1 (List.mem_of_getElem? hs)).2
          subst this
          exact .v _ _ _ (.undef _ _)
      refine calls_of_wp hf hb (aw_sound hm c hI hh fun ex e' a' w' g' hI' hk => ?_)
      have fin' : ∀ {K}, finish P fn e' K → (∀ x, K x → x = r) → a'.defers = [] ∧ ∃ v, (results fn a'.tmps).run P w' = .ok v w' ∧ (∃ v', (Ending.returned v) = .returned v' ∧ Below w.heap.size w w' ∧ ∃ St' ow, (∀ b o, St b o → St' b o) ∧
          (∀ b o, St' b o → St b o ∨ (w.heap.size ≤ b ∧ b < w'.heap.size)) ∧ RepRes w.heap.size w' St' ow r v') := by
        intro K hk hKr
        obtain ⟨r', v, hk1, hrun, hrep⟩ := finish_run hI' hk
        have := hKr r' hk1
        subst this
        exact ⟨hI'.defers, v, hrun, v, rfl, hI'.below, g'.St, _, hI'.st0, fun b o h => (hI'.st1 b o h).1.imp id fun h1 => ⟨h1, (hI'.st1 b o h).2.2⟩, hrep⟩
      cases ex with
      | normal => exact fin' hk fun x hx => hx
      | exit i => exact hk.elim
      | ret => exact fin' hk fun x hx => hx
    · exact hh.elim
  · exact hh.elim

end
end Go.Proofs.YtcnnhnjcnekhcaaGreat.Ab
/-
  THE ABSTRACT WALK: the same without the program's tables (for the printed forms).
-/
namespace Go.Proofs.YtcnnhnjcnekhcaaGreat.Ab
open Go

def lenS (x : SV) : Option SV := match x with | .d (.str s) => some (.d (.int .i64 s.length)) | _ => none
def lenL (x : SV) : Option SV := match elemsAny x with | some L => some (.d (.int .i64 L.length)) | none => none
def convI (k : IntKind) (x : SV) : Option SV := match x with
  | .d (.int _ n) => some (.d (.int k (k.wrap n)))
  | .d (.str _) => none
  | _ => none
def convS (x : SV) : Option SV := match x with
  | .d (.int _ _) => none
  | .d (.str s) => some (.d (.str s))
  | _ => none
def sliceS (x : SV) (lo hi mx : Option SV) : Option SV := match x, mx with
    | .d (.str s), none => (match subStr s lo hi with | some r => some (.d (.str r)) | none => none)
    | _, _ => none
def sliceL (s : Nat) (x : SV) (lo hi mx : Option SV) : Option SV := match toD x with
    | some (.sl k sz L) => (match subOf L lo hi, mx with
      | some r, none => (match k with | .nil => some (.d (.sl .nil s [])) | .ro => if sz = s then some (.d (.sl .ro sz r)) else none)
      | some r, some m => (match hi, indexOk m (L.length + 1) with
        | some h, some _ => (match h, m with
          | .d (.int _ a), .d (.int _ b) => if a = b then (match k with | .nil => some (.d (.sl .nil s [])) | .ro => if sz = s then some (.full sz r) else none) else none
          | _, _ => none)
        | _, _ => none)
      | none, _ => none)
    | _ => none
def partsS : List (Nat × Slot) → Option (List (Nat × D))
  | [] => some []
  | (i, s) :: l => match s with
    | .v y => (match toD y with
      | some z => (match partsS l with | some r => some ((i, z) :: r) | none => none)
      | none => none)
    | _ => none
end Go.Proofs.YtcnnhnjcnekhcaaGreat.Ab
/-
  THE ROW: from arguments that read as data to what the abstract walk speaks of, and back.
-/
namespace Go.Proofs.YtcnnhnjcnekhcaaGreat.Ab
open Go Go.RowKit Go.ChangeShapes Go.WideShapes

/-- lists side by side -/
inductive RL {α β : Type} (R : α → β → Prop) : List α → List β → Prop
  | nil : RL R [] []
  | cons {a : α} {b : β} {l : List α} {m : List β} (h : R a b) (t : RL R l m) : RL R (a :: l) (b :: m)

section
variable {α β : Type} {R S : α → β → Prop}
theorem RL.length {l : List α} {m : List β} (h : RL R l m) : l.length = m.length := by induction h <;> simp_all
theorem RL.append {l l' : List α} {m m' : List β} (h : RL R l m) (h' : RL R l' m') : RL R (l ++ l') (m ++ m') := by
  induction h with
  | nil => exact h'
  | cons h _ ih => exact .cons h ih
theorem RL.mono (hm : ∀ a b, R a b → S a b) {l : List α} {m : List β} (h : RL R l m) : RL S l m := by
  induction h with
  | nil => exact .nil
  | cons h _ ih => exact .cons (hm _ _ h) ih
theorem RL.get {l : List α} {m : List β} (h : RL R l m) : ∀ (i : Nat) (a : α) (b : β), l[i]? = some a → m[i]? = some b → R a b := by
  induction h with
  | nil => intro i a b h; simp at h
  | cons h _ ih =>
    intro i a b ha hb
    cases i with
    | zero => simp at ha hb; subst ha hb; exact h
    | succ i => exact ih i a b (by simpa using ha) (by simpa using hb)
end

/-- a value of a type, from its cells -/
def pack (b : Bool) (xs : List D) : D := match b, xs with
  | true, xs => .agg xs
  | false, [x] => x
  | false, _ => .nilptr

/-- CELLS THAT ARE DATA OF A TYPE -/
inductive Is (P : Program) : TypeId → List D → Prop
  | bool {t : TypeId} (h : P.underlying t = some .bool) (b : Bool) : Is P t [.bool b]
  | int {t : TypeId} {k : IntKind} (h : P.underlying t = some (.int k)) (n : Int) (hn : wfI k n = true) : Is P t [.int k n]
  | str {t : TypeId} (h : P.underlying t = some .string) (s : List UInt8) (hs : s.length ≤ maxLen) : Is P t [.str s]
  | nilsl {t e : TypeId} (h : P.underlying t = some (.slice e)) : Is P t [.sl .nil 0 []]
  | sl {t e : TypeId} (h : P.underlying t = some (.slice e)) (b : Bool) (hb : aggOf? P e = some b) (L : List (List D)) (hm : L.length ≤ maxLen) (hL : ∀ x ∈ L, Is P e x) :
      Is P t [.sl .ro (P.cellsOf e) (L.map (pack b))]
  | struct {t : TypeId} {fs : Array Field} (h : P.underlying t = some (.struct fs)) (parts : List (List D)) (hl : parts.length = fs.size)
      (hp : ∀ (i : Nat) f p, fs[i]? = some f → parts[i]? = some p → Is P f.type p) : Is P t parts.flatten
  | array {t e : TypeId} {n : Nat} (h : P.underlying t = some (.array n e)) (parts : List (List D)) (hl : parts.length = n) (hp : ∀ p ∈ parts, Is P e p) : Is P t parts.flatten

section
variable {P : Program} {t : TypeId} {xs : List D}
theorem Is.bool_inv (ht : P.underlying t = some .bool) (h : Is P t xs) : ∃ b, xs = [.bool b] := by
  cases h with
  | bool _ b => exact ⟨b, rfl⟩
  | _ => simp_all
theorem Is.int_inv {k : IntKind} (ht : P.underlying t = some (.int k)) (h : Is P t xs) : ∃ n, xs = [.int k n] ∧ wfI k n = true := by
  cases h with
  | int h n hn => rw [ht] at h; cases h; exact ⟨n, rfl, hn⟩
  | _ => simp_all
theorem Is.str_inv (ht : P.underlying t = some .string) (h : Is P t xs) : ∃ s, xs = [.str s] ∧ s.length ≤ maxLen := by
  cases h with
  | str h s hs => exact ⟨s, rfl, hs⟩
  | _ => simp_all
theorem Is.sl_inv {e : TypeId} {b : Bool} (ht : P.underlying t = some (.slice e)) (hb : aggOf? P e = some b) (h : Is P t xs) :
    xs = [.sl .nil 0 []] ∨ ∃ L : List (List D), xs = [.sl .ro (P.cellsOf e) (L.map (pack b))] ∧ L.length ≤ maxLen ∧ ∀ x ∈ L, Is P e x := by
  cases h with
  | nilsl h => exact .inl rfl
  | sl h b' hb' L hm hL => rw [ht] at h; cases h; rw [hb] at hb'; cases hb'; exact .inr ⟨L, rfl, hm, hL⟩
  | _ => simp_all
theorem Is.struct_inv {fs : Array Field} (ht : P.underlying t = some (.struct fs)) (h : Is P t xs) :
    ∃ parts : List (List D), xs = parts.flatten ∧ parts.length = fs.size ∧ ∀ (i : Nat) f p, fs[i]? = some f → parts[i]? = some p → Is P f.type p := by
  cases h with
  | struct h parts hl hp => rw [ht] at h; cases h; exact ⟨parts, rfl, hl, hp⟩
  | _ => simp_all
theorem Is.array_inv {e : TypeId} {n : Nat} (ht : P.underlying t = some (.array n e)) (h : Is P t xs) : ∃ parts : List (List D), xs = parts.flatten ∧ parts.length = n ∧ ∀ p ∈ parts, Is P e p := by
  cases h with
  | array h parts hl hp => rw [ht] at h; cases h; exact ⟨parts, rfl, hl, hp⟩
  | _ => simp_all
end

/-- each field lies behind the one before it -/
def offsB (P : Program) : List Field → Nat → Option Nat
  | [], n => some n
  | f :: fs, n => bif Nat.beq f.offset n then offsB P fs (n + P.cellsOf f.type) else none
def tyB (P : Program) (L : List Nat) (t : TypeId) : Bool := match P.underlying t with
  | some .bool => Nat.beq (P.cellsOf t) 1
  | some (.int _) => Nat.beq (P.cellsOf t) 1
  | some .string => Nat.beq (P.cellsOf t) 1
  | some (.slice e) => Nat.beq (P.cellsOf t) 1 && L.contains e && Nat.ble 1 (P.cellsOf e)
  | some (.array n e) => L.contains e && Nat.beq (P.cellsOf t) (n * P.cellsOf e)
  | some (.struct fs) => fs.toList.all (fun f => L.contains f.type) && (match offsB P fs.toList 0 with | some n => Nat.beq n (P.cellsOf t) | none => false)
  | _ => false
/-- a list of types that holds its types' parts: numbers, bools, strings, slices, structs and arrays -/
def closedB (P : Program) (L : List Nat) : Bool := L.all (tyB P L)

section
variable {P : Program} {L : List Nat}
theorem offsB_ge : ∀ (fs : List Field) (n m : Nat), offsB P fs n = some m → m = n + (fs.map fun f => P.cellsOf f.type).sum
  | [], n, m, h => by simp [offsB] at h; simp [h]
  | f :: fs, n, m, h => by
    simp only [offsB] at h
    cases hb : Nat.beq f.offset n <;> rw [hb] at h
    · cases h
    · have := offsB_ge fs _ _ h
      simp only [List.map_cons, List.sum_cons]
      omega
theorem offsB_at : ∀ (fs : List Field) (n m : Nat), offsB P fs n = some m → ∀ (j : Nat) f, fs[j]? = some f → f.offset = n + ((fs.take j).map fun f => P.cellsOf f.type).sum
  | [], n, m, h, j, f, hj => by simp at hj
  | f :: fs, n, m, h, j, g, hj => by
    simp only [offsB] at h
    cases hb : Nat.beq f.offset n <;> rw [hb] at h
    · cases h
    · have hn := Nat.eq_of_beq_eq_true hb
      cases j with
      | zero => simp at hj; subst hj; simp [hn]
      | succ j =>
        have := offsB_at fs _ _ h j g (by simpa using hj)
        simp only [List.take_succ_cons, List.map_cons, List.sum_cons]
        omega
theorem closed_at (h : closedB P L = true) {t : TypeId} (ht : t ∈ L) : tyB P L t = true := List.all_eq_true.1 h t ht

theorem closed_kids (h : closedB P L = true) : Kids P (· ∈ L) where
  pointer := fun {t e} ht hu => by have := closed_at h ht; simp [tyB, hu] at this
  slice := fun {t e} ht hu => by have := closed_at h ht; simp [tyB, hu] at this; exact this.1.2
  array := fun {t e n} ht hu => by
    have := closed_at h ht
    simp only [tyB, hu, Bool.and_eq_true] at this
    exact ⟨by simpa using this.1, Nat.eq_of_beq_eq_true this.2⟩
  struct := fun {t fs} ht hu => by
    have := closed_at h ht
    simp only [tyB, hu, Bool.and_eq_true] at this
    refine ⟨fun f hf => by simpa using List.all_eq_true.1 this.1 f hf, ?_⟩
    have h2 := this.2
    split at h2
    · rename_i n hn
      have e := Nat.eq_of_beq_eq_true h2
      refine ⟨by rw [← e, offsB_ge _ _ _ hn]; omega, fun j f hj => by rw [offsB_at _ _ _ hn j f hj]; omega⟩
    · cases h2
  map := fun {t k e} ht hu => by have := closed_at h ht; simp [tyB, hu] at this
theorem closed_pos (h : closedB P L = true) {t e : TypeId} (ht : t ∈ L) (hu : P.underlying t = some (.slice e)) : 0 < P.cellsOf e := by
  have := closed_at h ht
  simp [tyB, hu] at this
  omega

/-- a list cut along the fields -/
theorem cut_fields {β : Type} (cs : List β) : ∀ (fs : List Field) (n m : Nat), offsB P fs n = some m → cs.length = m → cs.drop n = (fs.map fun f => (cs.drop f.offset).take (P.cellsOf f.type)).flatten
  | [], n, m, h, hm => by simp [offsB] at h; simp; omega
  | f :: fs, n, m, h, hm => by
    simp only [offsB] at h
    cases hb : Nat.beq f.offset n <;> rw [hb] at h
    · cases h
    · have hn := Nat.eq_of_beq_eq_true hb
      have ih := cut_fields cs fs _ _ h hm
      simp only [List.map_cons, List.flatten_cons, ← ih, hn]
      rw [← List.drop_drop, List.take_append_drop]
theorem cut_cells {β : Type} (s : Nat) : ∀ (n : Nat) (cs : List β), cs.length = n * s → cs = ((List.range n).map fun i => (cs.drop (i * s)).take s).flatten
  | 0, cs, h => by simp at h; subst h; rfl
  | n + 1, cs, h => by
    rw [List.range_succ_eq_map, List.map_cons, List.flatten_cons, List.map_map]
    have ih := cut_cells s n (cs.drop s) (by rw [List.length_drop, h, Nat.add_mul]; omega)
    have : ((fun i => (cs.drop (i * s)).take s) ∘ Nat.succ) = fun i => ((cs.drop s).drop (i * s)).take s := by
      funext i
      simp only [Function.comp, List.drop_drop]
      rw [Nat.succ_mul, Nat.add_comm]
    rw [this, ← ih]
    simp
end

section
variable {H : Type} {enc : TypeId × Value → H} {P : Program} {w : World} {L : List Nat}

/-- the cells that a reading names -/
def InPs (ps : List MemPlace) (b o : Nat) : Prop := MemPlace.cell b o ∈ ps
def RepC (w : World) (ps : List MemPlace) (c : D) (v : Value) : Prop := c.one = true ∧ RepD w (InPs ps) c v
theorem RepC.mono {ps qs : List MemPlace} (h : ∀ p ∈ ps, p ∈ qs) (c : D) (v : Value) (r : RepC w ps c v) : RepC w qs c v := ⟨r.1, r.2.mono fun b o hb => ⟨h _ hb, rfl⟩⟩

theorem pack_cells {b : Bool} {e : TypeId} (hL : closedB P L = true) (he : e ∈ L) (hb : aggOf? P e = some b) {x : List D} (hx : Is P e x) : (pack b x).cells = x ∨ ∃ y, x = [y] ∧ b = false := by
  cases b with
  | true => exact .inl rfl
  | false =>
    right
    unfold aggOf? at hb
    cases hx with
    | bool h b => exact ⟨_, rfl, rfl⟩
    | int h n hn => exact ⟨_, rfl, rfl⟩
    | str h s hs => exact ⟨_, rfl, rfl⟩
    | nilsl h => exact ⟨_, rfl, rfl⟩
    | sl h => exact ⟨_, rfl, rfl⟩
    | struct h => rw [h] at hb; cases hb
    | array h => rw [h] at hb; cases hb
theorem pack_cells' {b : Bool} {e : TypeId} (hL : closedB P L = true) (he : e ∈ L) (hb : aggOf? P e = some b) {x : List D} (hx : Is P e x) (h1 : ∀ c ∈ x, c.one = true) : (pack b x).cells = x := by
  rcases pack_cells hL he hb hx with h | ⟨y, rfl, rfl⟩
  · exact h
  · have := h1 y (by simp)
    cases y <;> first | rfl | simp [D.one] at this

/-- READING IS STANDING FOR -/
theorem trod_is (hL : closedB P L = true) : ∀ (fuel : Nat) (t : TypeId) (cs : List Value) (x : DataW H × List MemPlace), t ∈ L → DataW.trod enc P w 0 (fun _ => true) true fuel t cs = some x →
    ∃ xs : List D, Is P t xs ∧ xs.length = P.cellsOf t ∧ RL (RepC w x.2) xs cs := by
  intro fuel
  induction fuel with
  | zero => intro t cs x _ h; simp [DataW.trod] at h
  | succ fuel ih =>
    intro t cs x ht h
    have hty := closed_at hL ht
    unfold tyB at hty
    split at hty
    · rename_i hu
      obtain ⟨b, rfl, rfl⟩ := DataW.trod_bool hu h
      exact ⟨[.bool b], .bool hu b, (Nat.eq_of_beq_eq_true hty).symm, .cons ⟨rfl, .bool b⟩ .nil⟩
    · rename_i k hu
      obtain ⟨n, rfl, rfl, hw⟩ := DataW.trod_int hu h
      exact ⟨[.int k n], .int hu n hw, (Nat.eq_of_beq_eq_true hty).symm, .cons ⟨rfl, .int k n hw⟩ .nil⟩
    · rename_i hu
      obtain ⟨s, rfl, rfl, hs⟩ := DataW.trod_string hu h
      exact ⟨[.str s.data.toList], .str hu _ (by simpa using hs), (Nat.eq_of_beq_eq_true hty).symm, .cons ⟨rfl, .str s hs⟩ .nil⟩
    · rename_i e hu
      simp only [Bool.and_eq_true] at hty
      obtain ⟨⟨h1, he⟩, hpos⟩ := hty
      have he : e ∈ L := by simpa using he
      have h1 := Nat.eq_of_beq_eq_true h1
      have hpos := Nat.le_of_ble_eq_true hpos
      obtain ⟨bb, hbb⟩ : ∃ bb, aggOf? P e = some bb := by
        have := closed_at hL he
        unfold tyB at this
        unfold aggOf?
        split at this <;> simp_all
      rcases DataW.trod_slice hu h with ⟨rfl, rfl⟩ | ⟨a, len, cap, elems, rest, n, hn, rfl, rfl, _, hlc, hcm, hel, hels, _, _⟩
      · exact ⟨[.sl .nil 0 []], .nilsl hu, by rw [h1]; rfl, .cons ⟨rfl, .nilsl 0⟩ .nil⟩
      · cases hn
        have key : ∀ k, k ≤ len → ∃ M : List (List D), M.length = k ∧ ∀ i, i < k → ∃ y cs', M[i]? = some y ∧ w.cells? 0 (a.add (i * P.cellsOf e)) (P.cellsOf e) = some cs' ∧ Is P e y ∧ y.length = P.cellsOf e ∧
            RL (RepC w ((elems ++ rest).flatMap (·.2))) y cs' := by
          intro k
          induction k with
          | zero => intro _; exact ⟨[], rfl, fun i hi => by omega⟩
          | succ k ihk =>
            intro hk
            obtain ⟨M, hM, hMs⟩ := ihk (by omega)
            have hq := hels k (by omega)
            have hge : elems[k]? = some (elems[k]'(by omega)) := List.getElem?_eq_getElem (by omega)
            rw [hge] at hq
            obtain ⟨cs', hc', hx'⟩ := Option.bind_eq_some_iff.1 hq
            obtain ⟨y, hy, hyl, hyr⟩ := ih e cs' _ he hx'
            refine ⟨M ++ [y], by simp [hM], fun i hi => ?_⟩
            rcases Nat.lt_or_ge i k with h | h
            · obtain ⟨y', cs'', q1, q2⟩ := hMs i h
              exact ⟨y', cs'', by rw [List.getElem?_append_left (by omega)]; exact q1, q2⟩
            · have : i = k := by omega
              subst this
              refine ⟨y, cs', by rw [List.getElem?_append_right (by omega), hM]; simp, hc', hy, hyl, hyr.mono (RepC.mono fun p hp => ?_)⟩
              exact List.mem_flatMap.2 ⟨_, List.mem_append_left _ (List.getElem_mem (by omega)), hp⟩
        obtain ⟨M, hM, hMs⟩ := key len (Nat.le_refl _)
        have hMe : ∀ y ∈ M, Is P e y ∧ y.length = P.cellsOf e ∧ ∀ c ∈ y, c.one = true := by
          intro y hy
          obtain ⟨i, hi, rfl⟩ := List.mem_iff_getElem.1 hy
          obtain ⟨y', cs', q1, _, q2, q3, q4⟩ := hMs i (by omega)
          rw [List.getElem?_eq_getElem hi] at q1
          cases q1
          refine ⟨q2, q3, fun c hc => ?_⟩
          obtain ⟨j, hj, rfl⟩ := List.mem_iff_getElem.1 hc
          have := q4.length
          exact (q4.get j _ (cs'[j]'(by omega)) (List.getElem?_eq_getElem hj) (List.getElem?_eq_getElem (by omega))).1
        have hpc : ∀ y ∈ M, (pack bb y).cells = y := fun y hy => pack_cells' hL he hbb (hMe y hy).1 (hMe y hy).2.2
        refine ⟨[.sl .ro (P.cellsOf e) (M.map (pack bb))], .sl hu bb hbb M (by omega) (fun y hy => (hMe y hy).1), by rw [h1]; rfl, .cons ⟨rfl, ?_⟩ .nil⟩
        have hlen : (M.map (pack bb)).length = len := by simp [hM]
        by_cases hsp : a.spot = none
        · obtain ⟨b, off, spot⟩ := a
          simp only at hsp
          subst hsp
          have hcell : ∀ o, o < len * P.cellsOf e → ∃ v, w.cell? ⟨b, off + o, none⟩ = some v := by
            intro o ho
            have hq : o / P.cellsOf e < len := Nat.div_lt_of_lt_mul (by rw [Nat.mul_comm]; exact ho)
            have hmod := Nat.mod_lt o hpos
            obtain ⟨y, cs', q1, q2, q3, q4, q5⟩ := hMs _ hq
            obtain ⟨_, l1, l2⟩ := World.cells?_some q2
            have := l2 (o % P.cellsOf e) hmod
            refine ⟨cs'[o % P.cellsOf e]'(by omega), ?_⟩
            rw [List.getElem?_eq_getElem (by omega)] at this
            rw [← this]
            simp only [add_plain]
            congr 2
            rw [Nat.add_assoc]
            congr 1
            rw [Nat.mul_comm]
            exact (Nat.div_add_mod _ _).symm
          have hv : ∀ o, o < len * P.cellsOf e → w.cell? ⟨b, off + o, none⟩ = some ((w.cell? ⟨b, off + o, none⟩).getD (.bool false)) := fun o ho => by
            obtain ⟨v, hv⟩ := hcell o ho
            rw [hv]; rfl
          have := RepD.sl (w := w) (St := InPs (MemPlace.row ⟨b, off, none⟩ ((elems.length + rest.length) * P.cellsOf e) ++ (elems ++ rest).flatMap (·.2))) (P.cellsOf e) (M.map (pack bb)) b off cap
            (fun o => (w.cell? ⟨b, off + o, none⟩).getD (.bool false)) (by omega) (by omega) (fun x hx => by
              obtain ⟨y, hy, rfl⟩ := List.mem_map.1 hx
              rw [hpc y hy]
              exact (hMe y hy).2.1) (fun x hx c hc => by
              obtain ⟨y, hy, rfl⟩ := List.mem_map.1 hx
              rw [hpc y hy] at hc
              exact (hMe y hy).2.2 c hc) (fun o ho => by
              rw [hlen] at ho
              refine ⟨hv o ho, List.mem_append_left _ (MemPlace.mem_row.2 ⟨o, ?_, rfl⟩)⟩
              rw [Nat.add_mul]; rw [hel]; omega) (fun i x j c hi hj => by
              rw [List.getElem?_map] at hi
              obtain ⟨y, hy, rfl⟩ := Option.map_eq_some_iff.1 hi
              have hil : i < M.length := (List.getElem?_eq_some_iff.1 hy).1
              have hym : y ∈ M := List.mem_of_getElem? hy
              rw [hpc y hym] at hj
              obtain ⟨y', cs', q1, q2, q3, q4, q5⟩ := hMs i (by omega)
              rw [hy] at q1
              cases q1
              obtain ⟨_, l1, l2⟩ := World.cells?_some q2
              have hjl : j < y.length := (List.getElem?_eq_some_iff.1 hj).1
              have l3 := l2 j (by omega)
              rw [List.getElem?_eq_getElem (by omega)] at l3
              have hr := (q5.get j c (cs'[j]'(by omega)) hj (List.getElem?_eq_getElem (by omega))).2
              simp only [add_plain, Nat.add_assoc] at l3
              simp only [l3, Option.getD_some]
              exact hr.mono fun b' o' hb' => ⟨List.mem_append_right _ hb', rfl⟩)
          rw [hlen] at this
          exact this
        · have h0 : len = 0 := by
            rcases Nat.eq_zero_or_pos len with h | h
            · exact h
            · obtain ⟨y, cs', q1, q2, q3, q4, q5⟩ := hMs 0 h
              obtain ⟨_, l1, l2⟩ := World.cells?_some q2
              have := l2 0 hpos
              rw [List.getElem?_eq_getElem (by omega)] at this
              exact absurd (World.cell?_spot this) (by simpa [Addr.add] using hsp)
          subst h0
          have : M = [] := List.length_eq_zero_iff.1 hM
          subst this
          exact .slz _ a cap hsp
    · rename_i n e hu
      simp only [Bool.and_eq_true] at hty
      obtain ⟨he, hc⟩ := hty
      have he : e ∈ L := by simpa using he
      have hc := Nat.eq_of_beq_eq_true hc
      obtain ⟨ys, m, hm, rfl, hcl, hyl, hys⟩ := DataW.trod_array hu h
      cases hm
      have key : ∀ k, k ≤ n → ∃ M : List (List D), M.length = k ∧ (∀ y ∈ M, Is P e y) ∧ M.flatten.length = k * P.cellsOf e ∧ RL (RepC w (ys.flatMap (·.2))) M.flatten ((List.range k).map fun i => (cs.drop (i * P.cellsOf e)).take (P.cellsOf e)).flatten := by
        intro k
        induction k with
        | zero => intro _; exact ⟨[], rfl, by simp, by simp, by simp; exact .nil⟩
        | succ k ihk =>
          intro hk
          obtain ⟨M, hM, hMi, hMl, hMr⟩ := ihk (by omega)
          have hq := hys k (by omega)
          have hge : ys[k]? = some (ys[k]'(by omega)) := List.getElem?_eq_getElem (by omega)
          rw [hge] at hq
          obtain ⟨y, hy, hyl', hyr⟩ := ih e _ _ he hq
          refine ⟨M ++ [y], by simp [hM], fun z hz => ?_, by simp [hMl, hyl', Nat.add_mul], ?_⟩
          · rcases List.mem_append.1 hz with h | h
            · exact hMi z h
            · simp at h; subst h; exact hy
          · rw [List.range_succ, List.map_append, List.flatten_append, List.flatten_append]
            refine hMr.append ?_
            simp only [List.map_cons, List.map_nil, List.flatten_cons, List.flatten_nil, List.append_nil]
            exact hyr.mono (RepC.mono fun p hp => List.mem_flatMap.2 ⟨_, List.getElem_mem (by omega), hp⟩)
      obtain ⟨M, hM, hMi, hMl, hMr⟩ := key n (Nat.le_refl _)
      refine ⟨M.flatten, .array hu M hM hMi, by rw [hMl, hc], ?_⟩
      rw [← cut_cells (P.cellsOf e) n cs (by rw [hcl, hc])] at hMr
      exact hMr
    · rename_i fs hu
      simp only [Bool.and_eq_true] at hty
      obtain ⟨hfs, hof⟩ := hty
      split at hof
      · rename_i tot htot
        have hof := Nat.eq_of_beq_eq_true hof
        obtain ⟨ys, m, hm, rfl, hcl, hyl, hys⟩ := DataW.trod_struct hu h
        cases hm
        have key : ∀ k, k ≤ fs.size → ∃ M : List (List D), M.length = k ∧ (∀ (i : Nat) f p, fs[i]? = some f → M[i]? = some p → Is P f.type p) ∧ M.flatten.length = ((fs.toList.take k).map fun f => P.cellsOf f.type).sum ∧
            RL (RepC w (ys.flatMap (·.2))) M.flatten ((fs.toList.take k).map fun f => (cs.drop f.offset).take (P.cellsOf f.type)).flatten := by
          intro k
          induction k with
          | zero => intro _; exact ⟨[], rfl, fun i f p _ hp => by simp at hp, by simp, by simp; exact .nil⟩
          | succ k ihk =>
            intro hk
            obtain ⟨M, hM, hMi, hMl, hMr⟩ := ihk (by omega)
            have hfk : fs[k]? = some (fs[k]'(by omega)) := Array.getElem?_eq_getElem (by omega)
            have hq := hys k _ hfk
            have hge : ys[k]? = some (ys[k]'(by omega)) := List.getElem?_eq_getElem (by omega)
            rw [hge] at hq
            have hfm : (fs[k]'(by omega)).type ∈ L := by simpa using List.all_eq_true.1 hfs _ (by simp : fs[k]'(by omega) ∈ fs.toList)
            obtain ⟨y, hy, hyl', hyr⟩ := ih _ _ _ hfm hq
            have htk : fs.toList.take (k + 1) = fs.toList.take k ++ [fs[k]'(by omega)] := by
              rw [List.take_add_one]
              simp [hfk]
            refine ⟨M ++ [y], by simp [hM], fun i f p hf hp => ?_, ?_, ?_⟩
            · rcases Nat.lt_or_ge i k with h | h
              · rw [List.getElem?_append_left (by omega)] at hp
                exact hMi i f p hf hp
              · rw [List.getElem?_append_right (by omega), hM] at hp
                have hik : i = k := by
                  have := (List.getElem?_eq_some_iff.1 hp).1
                  simp at this
                  omega
                subst hik
                simp at hp
                subst hp
                rw [hfk] at hf
                cases hf
                exact hy
            · rw [htk]
              simp [hMl, hyl']
            · rw [htk, List.map_append, List.flatten_append, List.flatten_append]
              refine hMr.append ?_
              simp only [List.map_cons, List.map_nil, List.flatten_cons, List.flatten_nil, List.append_nil]
              exact hyr.mono (RepC.mono fun p hp => List.mem_flatMap.2 ⟨_, List.getElem_mem (by omega), hp⟩)
        obtain ⟨M, hM, hMi, hMl, hMr⟩ := key fs.size (Nat.le_refl _)
        have hta : fs.toList.take fs.size = fs.toList := List.take_of_length_le (by simp)
        rw [hta] at hMl hMr
        have htl := offsB_ge _ _ _ htot
        refine ⟨M.flatten, .struct hu M hM hMi, by rw [hMl, ← hof, htl]; omega, ?_⟩
        rw [← cut_fields cs fs.toList 0 tot htot (by rw [hcl, hof]), List.drop_zero] at hMr
        exact hMr
      · cases hof
    · cases hty
end
end Go.Proofs.YtcnnhnjcnekhcaaGreat.Ab
/-
  THE ROW: a law's call, from its contract.
-/
namespace Go.Proofs.YtcnnhnjcnekhcaaGreat.Ab
open Go Go.RowKit Go.ChangeShapes Go.WideShapes

section
variable {H : Type} {enc : TypeId × Value → H} {P : Program} {W : World} {L : List Nat}

/-- AN ARGUMENT -/
theorem arg_rep (hL : closedB P L = true) {t : TypeId} {v : Value} {d : DataW H} {ps : List MemPlace} {b : Bool} {r : Reach} {b0 : Nat} (ht : t ∈ L) (hb : aggOf? P t = some b)
    (hval : Value.okWide P W r b0 t v) (h : DataW.Trod enc P W 0 (fun _ => true) true t v d ps) : ∃ xs, Is P t xs ∧ RepD W (InPs ps) (pack b xs) v := by
  obtain ⟨fuel, hf⟩ := h
  obtain ⟨xs, hi, hl, hr⟩ := trod_is hL fuel t _ _ ht hf
  refine ⟨xs, hi, ?_⟩
  have hty := closed_at hL ht
  unfold aggOf? at hb
  cases b with
  | true =>
    have : ∃ cs, v = .agg cs := by
      unfold Value.okWide at hval
      split at hval
      · obtain ⟨cs, h, _⟩ := hval; exact ⟨cs, h⟩
      · obtain ⟨cs, h, _⟩ := hval; exact ⟨cs, h⟩
      · rename_i h1 h2
        split at hb
        · rename_i fs hu; exact absurd hu (h1 fs)
        · rename_i n e hu; exact absurd hu (h2 n e)
        · cases hb
        · cases hb
    obtain ⟨cs, rfl⟩ := this
    simp only [Value.cells] at hr
    refine .agg xs cs (fun c hc => ?_) (by simpa using hr.length) (fun i c u hc hu => (hr.get i c u hc (by simpa using hu)).2)
    obtain ⟨j, hj, rfl⟩ := List.mem_iff_getElem.1 hc
    have hjl := hr.length
    exact (hr.get j _ (cs.toList[j]'(by omega)) (List.getElem?_eq_getElem hj) (List.getElem?_eq_getElem (by omega))).1
  | false =>
    have hone : ∃ y, xs = [y] := by
      cases hi with
      | bool h b => exact ⟨_, rfl⟩
      | int h n hn => exact ⟨_, rfl⟩
      | str h s hs => exact ⟨_, rfl⟩
      | nilsl h => exact ⟨_, rfl⟩
      | sl h => exact ⟨_, rfl⟩
      | struct h => rw [h] at hb; cases hb
      | array h => rw [h] at hb; cases hb
    obtain ⟨y, rfl⟩ := hone
    have hv : v.cells.toList = [v] := by
      cases v with
      | agg cs =>
        exfalso
        unfold Value.okWide at hval
        split at hval
        · rename_i h; rw [h] at hb; cases hb
        · rename_i h; rw [h] at hb; cases hb
        · unfold tyB at hty
          unfold Cell.okWide at hval
          split at hval <;> simp_all [Cell.ok]
      | _ => rfl
    rw [hv] at hr
    cases hr with
    | cons h _ => exact h.2

theorem trodAll_stays (hL : closedB P L = true) {W' : World} (hb : Below W.heap.size W W') : ∀ {ts : List TypeId} {vs : List Value} {ds : List (DataW H)} {ps : List MemPlace}, (∀ t ∈ ts, t ∈ L) →
    DataW.TrodAll enc P W 0 (fun _ => true) true ts vs ds ps → (∀ p ∈ ps, p.block < W.heap.size) → DataW.TrodAll enc P W' 0 (fun b => decide (b < W.heap.size)) true ts vs ds ps
  | [], [], [], _, _, h, _ => h
  | t :: ts, v :: vs, d :: ds, _, hts, ⟨p, q, ⟨fuel, hf⟩, h2, e⟩, hlt => by
    subst e
    refine ⟨p, q, ⟨fuel, ?_⟩, trodAll_stays hL hb (fun t ht => hts t (List.mem_cons_of_mem _ ht)) h2 (fun x hx => hlt x (List.mem_append_right _ hx)), rfl⟩
    exact DataW.trod_stays (closed_kids hL) (fun ht hu => closed_pos hL ht hu) (fun h => by cases h) (hts t List.mem_cons_self) hf (fun x hx => hb.same (hlt x (List.mem_append_left _ hx))) (fun x hx => by simpa using hlt x (List.mem_append_left _ hx))

/-- THE CALL -/
theorem calls_post {gl : Nat → Option D} {fid : FuncId} {f : Func} {s : ChangeSpec} {args : Array Value} {ds gs : List (DataW H)} {before : List MemPlace} {tb : TypeId} {St : Nat → Nat → Prop} {dargs : List SV}
    (hH : Holds P gl fid dargs (.d (.bool true))) (hL : closedB P L = true) (hts : ∀ t ∈ f.params.toList, t ∈ L) (hsv : s.vars = [])
    (hW : DataW.Whole enc P f.params.toList s.vars false W args.toList ds gs before)
    (hfr : (s.fn H (ds ++ gs)).results = [.lit (.bool true)]) (hfa : (s.fn H (ds ++ gs)).args = ds) (hfv : (s.fn H (ds ++ gs)).vars = [])
    (hres : f.resultTypes = #[tb]) (htb : P.underlying tb = some .bool)
    (hst : ∀ b o, St b o → b < W.heap.size) (hG : GlobOK gl W St) (hlen : dargs.length = args.size)
    (hrep : ∀ (i : Nat) x v, dargs[i]? = some x → args[i]? = some v → RepV W St W.heap.size (fun _ _ _ => False) x v) :
    Calls P fid args W fun e W' => ∃ v, e = .returned v ∧ s.post enc P f false true false false W args v W' := by
  refine (hH.2 W St args hst hG hlen hrep).mono ?_
  rintro e W' ⟨v, rfl, hb, St', ow, _, _, hr⟩
  refine ⟨v, rfl, ?_⟩
  have hv : v = .bool true := by
    have := RepV.data (show RepV W' St' 0 (ResO W.heap.size W' St' ow 0) (.d (.bool true)) v from hr)
    cases this
    rfl
  subst hv
  have hlt := hW.lt
  refine ⟨ds, gs, before, [], before, [], hW, ?_, ?_, ?_, World.keptBut_mono (fun p hp => ⟨hp, .inr (.inl hp)⟩) (hb.frame _), fun h => by cases h⟩
  · rw [hfr, hres]
    exact trodAll_cons_mk (shut_bool htb _) trodAll_mk0
  · rw [hfa]
    obtain ⟨p, q, hA, hV, rfl, _, _⟩ := hW
    rw [hsv] at hV
    have : q = [] := by
      cases gs with
      | nil => exact hV
      | cons _ _ => exact hV.elim
    subst this
    rw [List.append_nil] at hlt ⊢
    exact trodAll_stays hL hb hts hA hlt
  · rw [hfv, hsv]
    rfl

/-- A TABLE OF NUMBERS that is read -/
theorem glob_tab {name : String} {k : IntKind} {zs : List Int} {g : Nat} (h : Lib.TabIs P W name k zs) (hg : P.globalNamed name = some g) (hz : zs.all (wfI k) = true) {St : Nat → Nat → Prop} {gl : Nat → Option D}
    (hgl : ∀ n x, gl n = some x → n = g ∧ x = .agg (zs.map (.int k))) : GlobOK gl W (fun b o => St b o ∨ (b = g ∧ o < zs.length)) := by
  intro n x hx
  obtain ⟨rfl, rfl⟩ := hgl n x hx
  refine ⟨fun c hc => ?_, fun i => .int k (zs.getD i 0), fun i hi => ?_, fun i c hc => ?_⟩
  · obtain ⟨z, _, rfl⟩ := List.mem_map.1 hc
    rfl
  · have hi : i < zs.length := by simpa [D.cells] using hi
    exact ⟨h.cell hg i hi, .inr ⟨rfl, hi⟩⟩
  · simp only [D.cells, List.getElem?_map] at hc
    obtain ⟨z, hz', rfl⟩ := Option.map_eq_some_iff.1 hc
    have : zs.getD i 0 = z := by simp [hz']
    simp only [this]
    exact .int k z (List.all_eq_true.1 hz z (List.mem_of_getElem? hz'))
theorem tab_lt {name : String} {k : IntKind} {zs : List Int} {g : Nat} (h : Lib.TabIs P W name k zs) (hg : P.globalNamed name = some g) {o : Nat} (ho : o < zs.length) : g < W.heap.size := by
  have := h.cell hg o ho
  unfold World.cell? at this
  split at this
  · rename_i h'
    exact (Array.getElem?_eq_some_iff.1 h').1
  · cases this
theorem glob_none (St : Nat → Nat → Prop) : GlobOK (fun _ => none) W St := fun _ _ h => by cases h

theorem rep_arg {St : Nat → Nat → Prop} {ps : List MemPlace} {x : D} {v : Value} {base : Nat} {O : Nat → Nat → Nat → Prop} (h : RepD W (InPs ps) x v) (hs : ∀ b o, MemPlace.cell b o ∈ ps → St b o) : RepV W St base O (.d x) v :=
  .d _ _ _ (h.mono fun b o hb => ⟨hs b o hb, rfl⟩)
end
end Go.Proofs.YtcnnhnjcnekhcaaGreat.Ab
