/-
  THE ABSTRACT WALK: calls; the least and the greatest of integers.
-/
import Derived.Test.YtfeepndphaboeaaAb13
set_option linter.unusedVariables false
set_option linter.unusedSimpArgs false
namespace Go.Proofs.Ytfeepndphaboeaa.Ab
open Go Go.RowKit

section
variable {P : Program} {gl : Nat → Option D} {w0 : World} {St0 : Nat → Nat → Prop} {e : Env} {a : Act} {w : World} {g : Gh}

/-- memory that stays as it is while a callee runs: all that stays, and the variables, which nobody else writes -/
theorem snapList_get (f : Slot → SV) : ∀ (l : List Slot), (snapList f l).length = l.length ∧ ∀ (i : Nat), (snapList f l)[i]? = (l[i]?).map f
  | [] => ⟨rfl, fun i => by simp [snapList]⟩
  | s :: l => by
    obtain ⟨h1, h2⟩ := snapList_get f l
    refine ⟨by simp [snapList, h1], fun i => ?_⟩
    cases i with
    | zero => rfl
    | succ i => simp only [snapList, List.getElem?_cons_succ]; exact h2 i

theorem RepV.base_mono {St : Nat → Nat → Prop} {base base' : Nat} (hb : base ≤ base') {O : Nat → Nat → Nat → Prop} {y : SV} {v : Value} (h : RepV w St base O y v) : RepV w St base' O y v := by
  induction h with
  | d O x v hd => exact .d O x v hd
  | own O sz L gg cap hd hcap ho => exact .own O sz L gg cap hd hcap ho
  | full O sz L ad hd => exact .full O sz L ad hd
  | ref O cs off b o vs hb' hcell _ ih => exact .ref O cs off b o vs (Nat.lt_of_lt_of_le hb' hb) hcell ih
  | dptr O x off b o vs hf hcell hc => exact .dptr O x off b o vs hf hcell hc
  | clo O f first cap fv cv h1 h2 _ _ ih1 ih2 => exact .clo O f first cap fv cv h1 h2 ih1 ih2
  | undef O v => exact .undef O v

theorem snap_rep (hI : Inv gl w0 St0 e a w g) : ∀ (n : Nat) {O : Nat → Nat → Nat → Nat → Prop} {s : Slot} {v : Value}, RepS w0.heap.size w g O s v → RepV w g.St w.heap.size (fun _ _ _ => False) (snap e.boxes n s) v := by
  have up : ∀ {O x v}, RepV w g.St w0.heap.size O x v → RepV w g.St w.heap.size (fun _ _ _ => False) (demote x) v := by
    intro O x v h
    exact (h.demote (O' := fun _ _ _ => False)).base_mono hI.below.size
  intro n
  induction n with
  | zero => intro O s v _; exact .undef _ _
  | succ n ih =>
    intro O s v h
    cases h with
    | v _ x _ h => simp only [snap]; exact up h
    | p _ b off blk hb =>
      simp only [snap]
      split
      · rename_i cs hcs
        obtain ⟨h0, c, t, hc, hone, hlen, hrep⟩ := hI.boxes b _ blk hcs hb
        have hbl := (hI.bxlt blk (List.mem_of_getElem? hb)).2
        have := RepV.ref (w := w) (St := g.St) (base := w.heap.size) (fun _ _ _ => False) (cs.map demote) off blk 0 (fun i => c.getD i undef) hbl
          (fun i hi => by
            have hi' : i < c.size := by rw [← hlen]; simpa using hi
            rw [cell_of_row w blk (0 + i) c t (0, 0) hc]
            simp [hi']
            exact hone _ (Array.getElem_mem hi'))
          (fun i x hx => by
            simp only [List.getElem?_map, Option.map_eq_some_iff] at hx
            obtain ⟨y, hy, rfl⟩ := hx
            have hi' : i < c.size := by rw [← hlen]; exact (List.getElem?_eq_some_iff.1 hy).1
            have h1 := hrep i y c[i] hy (by simp)
            have h2 := up h1
            simpa [hi'] using h2)
        simpa using this
      · rename_i s' hs'
        obtain ⟨h0, c, t, hc, hone, hlen, hrep⟩ := hI.boxes b _ blk hs' hb
        have hbl := (hI.bxlt blk (List.mem_of_getElem? hb)).2
        have hc0 : c[0]? = some (c[0]'(by omega)) := by simp
        have := RepV.ref (w := w) (St := g.St) (base := w.heap.size) (fun _ _ _ => False) [snap e.boxes n s'] off blk 0 (fun i => c.getD i undef) hbl
          (fun i hi => by
            simp at hi; subst hi
            rw [cell_of_row w blk (0 + 0) c t (0, 0) hc]
            simp [hlen]
            exact hone _ (Array.getElem_mem (by omega)))
          (fun i x hx => by
            cases i with
            | succ i => simp at hx
            | zero =>
              simp at hx; subst hx
              have := ih (hrep _ hc0)
              simpa [hlen] using this)
        simpa using this
      · exact .undef _ _
    | c _ f first cap fv cv hf hc rf rc =>
      simp only [snap]
      obtain ⟨l1, g1⟩ := snapList_get (snap e.boxes n) first
      obtain ⟨l2, g2⟩ := snapList_get (snap e.boxes n) cap
      refine .clo _ f _ _ fv cv (l1.trans hf) (l2.trans hc) (fun i x v hx hv => ?_) (fun i x v hx hv => ?_)
      · rw [g1, Option.map_eq_some_iff] at hx
        obtain ⟨y, hy, rfl⟩ := hx
        exact ih (rf i y v hy hv)
      · rw [g2, Option.map_eq_some_iff] at hx
        obtain ⟨y, hy, rfl⟩ := hx
        exact ih (rc i y v hy hv)
    | t _ xs vs _ _ => simp only [snap]; exact .undef _ _


theorem argsOf_get (bxs : List Box) (ρ : Operand → Slot) : ∀ (l : List Operand), (argsOf bxs ρ l).length = l.length ∧ ∀ (i : Nat), (argsOf bxs ρ l)[i]? = (l[i]?).map fun x => snap bxs 6 (ρ x)
  | [] => ⟨rfl, fun i => by simp [argsOf]⟩
  | s :: l => by
    obtain ⟨h1, h2⟩ := argsOf_get bxs ρ l
    refine ⟨by simp [argsOf, h1], fun i => ?_⟩
    cases i with
    | zero => rfl
    | succ i => simp only [argsOf, List.getElem?_cons_succ]; exact h2 i

/-- arguments that stand for what a callee is handed -/
def RepArgs (w : World) (St : Nat → Nat → Prop) (args : List SV) (vs : Array Value) : Prop :=
  args.length = vs.size ∧ ∀ (i : Nat) x v, args[i]? = some x → vs[i]? = some v → RepV w St w.heap.size (fun _ _ _ => False) x v

theorem RepArgs.append {St : Nat → Nat → Prop} {xs ys : List SV} {us vs : Array Value} (h : RepArgs w St xs us) (k : RepArgs w St ys vs) : RepArgs w St (xs ++ ys) (us ++ vs) := by
  refine ⟨by simp [h.1, k.1], fun i x v hx hv => ?_⟩
  rw [List.getElem?_append] at hx
  rw [Array.getElem?_append] at hv
  split at hx
  · rename_i hi
    rw [if_pos (by rw [← h.1]; exact hi)] at hv
    exact h.2 i x v hx hv
  · rename_i hi
    rw [if_neg (by rw [← h.1]; exact hi), ← h.1] at hv
    exact k.2 _ x v hx hv

theorem args_rep (hI : Inv gl w0 St0 e a w g) (l : Array Operand) : RepArgs w g.St (argsOf e.boxes (fun x => (Ab.opnd gl e x).demote) l.toList) (l.map a.eval) := by
  obtain ⟨h1, h2⟩ := argsOf_get e.boxes (fun x => (Ab.opnd gl e x).demote) l.toList
  refine ⟨by rw [h1]; simp, fun i x v hx hv => ?_⟩
  rw [h2, Option.map_eq_some_iff] at hx
  obtain ⟨y, hy, rfl⟩ := hx
  rw [Array.getElem?_toList] at hy
  simp only [Array.getElem?_map, hy, Option.map_some, Option.some.injEq] at hv
  subst hv
  exact snap_rep hI 6 (hI.opnd y)

theorem snapList_rep (hI : Inv gl w0 St0 e a w g) {l : List Slot} {vs : Array Value} (hl : l.length = vs.size) (h : ∀ (i : Nat) x v, l[i]? = some x → vs[i]? = some v → RepS w0.heap.size w g (fun _ _ _ _ => False) x v) :
    RepArgs w g.St (snapList (snap e.boxes 6) l) vs := by
  obtain ⟨h1, h2⟩ := snapList_get (snap e.boxes 6) l
  refine ⟨h1.trans hl, fun i x v hx hv => ?_⟩
  rw [h2, Option.map_eq_some_iff] at hx
  obtain ⟨y, hy, rfl⟩ := hx
  exact snap_rep hI 6 (h i y v hy hv)

/-- behind a call -/
theorem Inv.called (hI : Inv gl w0 St0 e a w g) {w' : World} {St' : Nat → Nat → Prop} {ow : Nat → Option Nat} (hb : Below w.heap.size w w') (h1 : ∀ b o, g.St b o → St' b o)
    (h2 : ∀ b o, St' b o → g.St b o ∨ (w.heap.size ≤ b ∧ b < w'.heap.size)) (dst : Option Nat) {s : Slot} {v : Value}
    (hs : ∀ g' : Gh, g'.St = St' → (∀ d, dst = some d → ∀ j b a c, ResO w.heap.size w' St' ow j b a c → OwnAt w0.heap.size w' g' (.s d j) b a c) → ∀ d, dst = some d → RepS w0.heap.size w' g' (slotO w0.heap.size w' g' d) s v) :
    ∃ g', Inv gl w0 St0 ⟨putSlot e.slots dst s, e.boxes⟩ (a.put dst v) w' g' := by
  have hle : w0.heap.size ≤ w.heap.size := hI.below.size
  let g' : Gh := { St := St', bx := g.bx, ow := fun b => if w.heap.size ≤ b then (ow b).bind fun j => dst.map fun d => Pos.s d j else g.ow b }
  refine ⟨g', hI.step0 (g' := g') ⟨fun b o h => ⟨h1 b o h, World.cell?_of_block (hb.block b (hI.stlt h))⟩, fun b o h => World.cell?_of_block (hb.block b (by omega)), fun _ _ h => h, fun p b a' c _ ho => ?_⟩ hb (hs g' rfl (fun d hd j b a c hr => ?_)) rfl h2⟩
  · have hlt := ho.lt
    obtain ⟨o1, o2, o3, ⟨cur, te, o4, o4'⟩, o5⟩ := ho
    refine ⟨?_, o2, o3, ⟨cur, te, (hb.block b hlt).trans o4, o4'⟩, fun o ho' hst => ?_⟩
    · show (if w.heap.size ≤ b then (ow b).bind fun j => dst.map fun d => Pos.s d j else g.ow b) = some p
      rw [if_neg (by omega)]; exact o1
    · rcases h2 b o hst with h | h
      · exact o5 o ho' h
      · omega
  · obtain ⟨r1, r2, r3, r4⟩ := hr
    refine ⟨?_, by omega, fun hm => by have := (hI.bxlt b hm).2; omega, r3, r4⟩
    show (if w.heap.size ≤ b then (ow b).bind fun j => dst.map fun d => Pos.s d j else g.ow b) = _
    rw [if_pos r2, r1, hd]
    rfl

theorem exN_iff : ∀ {n : Nat} {k : List SV → Prop}, exN n k → ∃ rs, rs.length = n ∧ k rs
  | 0, _, h => ⟨[], rfl, h⟩
  | n + 1, _, h => by
    obtain ⟨r, h⟩ := h
    obtain ⟨rs, hl, h⟩ := exN_iff h
    exact ⟨r :: rs, by simp [hl], h⟩

theorem goes_callK (hI : Inv gl w0 St0 e a w g) {o : Oper} {n : Nat} {k : Slot → List Box → Prop} {f : FuncId} {args : List SV} {vs : Array Value} (hr : RepArgs w g.St args vs)
    (hrun : Enters P f → (execOp a.eval o).run P w = .ok (.enter f vs) w) (h : callK (Holds P gl) n e.boxes k f args) : Goes P gl w0 St0 e.slots o a w k := by
  intro next Q hn
  have go : ∀ (r : SV) (s : Slot), Holds P gl f args r → (∀ (w' : World) (v : Value) (St' : Nat → Nat → Prop) (ow : Nat → Option Nat), RepRes w.heap.size w' St' ow r v → ∀ g' : Gh, g'.St = St' →
      ∀ d, (∀ j b a c, ResO w.heap.size w' St' ow j b a c → OwnAt w0.heap.size w' g' (.s d j) b a c) → RepS w0.heap.size w' g' (slotO w0.heap.size w' g' d) s v) → k s e.boxes → o.wp P a w next Q := by
    intro r s hH hrep hk
    obtain ⟨hE, hH⟩ := hH
    unfold Oper.wp
    rw [hrun hE]
    refine (hH w g.St vs (fun b o h => hI.stlt h) hI.glob hr.1 hr.2).mono fun en w' ⟨v, he, hb, St', ow, h1, h2, h3⟩ => ?_
    subst he
    obtain ⟨g', hg'⟩ := hI.called hb h1 h2 o.dst (s := s) (v := v) (fun g' hgs hO d hd => hrep w' v St' ow h3 g' hgs d (hO d hd))
    exact hn s v e.boxes w' g' hg' hk
  unfold callK at h
  split at h
  · obtain ⟨r, hH, ht, hk⟩ := h
    refine go r (.v r) hH (fun w' v St' ow h3 g' hgs d hO => .v _ _ _ ?_) hk
    have h3' : RepV w' St' 0 (ResO w.heap.size w' St' ow 0) r v := by
      cases r <;> first | exact h3 | simp [isTup] at ht
    have := (h3'.base_mono (Nat.zero_le w0.heap.size))
    rw [← hgs] at this
    exact this.mono (fun _ _ h => ⟨h, rfl⟩) (fun _ _ _ => rfl) _ (fun b a c h => hO 0 b a c (by rw [hgs] at h; exact h))
  · obtain ⟨rs, hlen, hH, hk⟩ := exN_iff h
    refine go (.tup rs) (.t rs) hH (fun w' v St' ow h3 g' hgs d hO => ?_) hk
    obtain ⟨tv, rfl, hl, hc⟩ := h3
    refine .t _ rs tv hl fun j x y hx hy => ?_
    have := ((hc j x y hx hy).base_mono (Nat.zero_le w0.heap.size))
    rw [← hgs] at this
    exact this.mono (fun _ _ h => ⟨h, rfl⟩) (fun _ _ _ => rfl) _ (fun b a c h => hO j b a c (by rw [hgs] at h; exact h))

theorem goes_call (hI : Inv gl w0 St0 e a w g) {o : Oper} {c : Call} (ho : o.op = .call c) {f : Operand} (hc : c.callee = .value f) {n : Nat} {k : Slot → List Box → Prop}
    (h : match (Ab.opnd gl e f).demote with
      | .v x => withFn x (argsOf e.boxes (fun x => (Ab.opnd gl e x).demote) c.args.toList) (callK (Holds P gl) n e.boxes k)
      | .c (.func g') first cap => callK (Holds P gl) n e.boxes k g' (snapList (snap e.boxes 6) first ++ argsOf e.boxes (fun x => (Ab.opnd gl e x).demote) c.args.toList ++ snapList (snap e.boxes 6) cap)
      | _ => False) : Goes P gl w0 St0 e.slots o a w k := by
  have hargs := args_rep hI c.args
  have hrun : ∀ {f' : FuncId} {first cap : Array Value}, a.eval f = .func (.func f') first cap → Enters P f' → (execOp a.eval o).run P w = .ok (.enter f' (first ++ c.args.map a.eval ++ cap)) w := by
    intro f' first cap hv hE
    simp [execOp, ho, resolve, hc, hv, Deferred.ofValue, invoke, hE _ w]
  split at h
  · rename_i x hx
    have hf := hI.opV hx
    unfold withFn at h
    split at h
    · rename_i f'
      have hv : a.eval f = .func (.func f') #[] #[] := by
        have := hf.data
        generalize a.eval f = u at this
        cases this; rfl
      refine goes_callK hI hargs (fun hE => ?_) h
      rw [hrun hv hE]; simp
    · rename_i f' first cap
      generalize hv : a.eval f = u at hf
      cases hf with
      | clo _ _ _ _ fv cv hl1 hl2 rf rc =>
        have up : ∀ {xs : List SV} {vs : Array Value}, xs.length = vs.size → (∀ (i : Nat) x v, xs[i]? = some x → vs[i]? = some v → RepV w g.St w0.heap.size (fun _ _ _ => False) x v) → RepArgs w g.St xs vs :=
          fun hl hr => ⟨hl, fun i x v hx hv => (hr i x v hx hv).base_mono hI.below.size⟩
        exact goes_callK hI (((up hl1 rf).append hargs).append (up hl2 rc)) (fun hE => hrun hv hE) h
    · exact h.elim
  · rename_i f' first cap hs
    have hf := hI.opS hs
    generalize hv : a.eval f = u at hf
    cases hf with
    | c _ _ _ _ fv cv hl1 hl2 rf rc => exact goes_callK hI (((snapList_rep hI hl1 rf).append hargs).append (snapList_rep hI hl2 rc)) (fun hE => hrun hv hE) h
  · exact h.elim

theorem foldInt_run (f : Int → Int → Int) (op : Value → Value → Sem Value) (hop : ∀ k a b, op (.int k a) (.int k b) = pure (.int k (f a b))) (hf : ∀ a b, f a b = a ∨ f a b = b) :
    ∀ (l : List SV) (vs : List Value) (x : SV) (vx : Value) (r : SV), foldIntV f x l = some r → RepV w g.St w0.heap.size (fun _ _ _ => False) x vx → l.length = vs.length →
      (∀ (i : Nat) y v, l[i]? = some y → vs[i]? = some v → RepV w g.St w0.heap.size (fun _ _ _ => False) y v) →
      ∃ v, (vs.foldlM op vx).run P w = .ok v w ∧ RepV w g.St w0.heap.size (fun _ _ _ => False) r v
  | [], [], x, vx, r, h, hx, _, _ => by
    unfold foldIntV at h
    split at h
    · cases h; exact ⟨vx, rfl, hx⟩
    · rename_i heq; cases heq
    · cases h
  | y :: l, v :: vs, x, vx, r, h, hx, hl, hr => by
    unfold foldIntV at h
    split at h
    · rename_i heq; cases heq
    · rename_i k n k' n' l' heq
      cases heq
      split at h
      · rename_i hk
        subst hk
        have hy := hr 0 _ v rfl rfl
        obtain ⟨ex, wx⟩ := hx.data.int_inv
        obtain ⟨ey, wy⟩ := hy.data.int_inv
        rw [ex, ey]
        have hw : wfI k (f n n') = true := by rcases hf n n' with h | h <;> rw [h] <;> assumption
        obtain ⟨u, hu, hr'⟩ := foldInt_run f op hop hf l vs _ (.int k (f n n')) r h (.d _ _ _ (.int _ _ hw)) (by simpa using hl) (fun i y u h1 h2 => hr (i + 1) y u (by simpa using h1) (by simpa using h2))
        refine ⟨u, ?_, hr'⟩
        rw [List.foldlM_cons, hop]
        exact hu
      · cases h
    · cases h
  | [], _ :: _, _, _, _, _, _, h, _ => by simp at h
  | _ :: _, [], _, _, _, _, _, h, _ => by simp at h

theorem goes_min (hI : Inv gl w0 St0 e a w g) {o : Oper} {c : Call} (ho : o.op = .call c) {b : Builtin} (hc : c.callee = .builtin b) {x : Operand} {xs : List Operand} (hx : c.args.toList = x :: xs) {f : Int → Int → Int}
    (hb : (b = .min ∧ f = minD) ∨ (b = .max ∧ f = maxD)) {k : Slot → List Box → Prop}
    (h : bindO (foldIntV f ((Ab.opnd gl e x).demote).toSV (xs.map fun y => ((Ab.opnd gl e y).demote).toSV)) fun r => k (.v r) e.boxes) : Goes P gl w0 St0 e.slots o a w k := by
  obtain ⟨r, hr, hk⟩ := bindO_some h
  have hargs : (c.args.map a.eval).toList = a.eval x :: xs.map a.eval := by rw [Array.toList_map, hx]; rfl
  have hreps : ∀ (i : Nat) y v, (xs.map fun y => ((Ab.opnd gl e y).demote).toSV)[i]? = some y → (xs.map a.eval)[i]? = some v → RepV w g.St w0.heap.size (fun _ _ _ => False) y v := by
    intro i y v hy hv
    simp only [List.getElem?_map, Option.map_eq_some_iff] at hy hv
    obtain ⟨z, hz, rfl⟩ := hy
    obtain ⟨z', hz', rfl⟩ := hv
    rw [hz] at hz'; cases hz'
    exact hI.opToSV z
  rcases hb with ⟨rfl, rfl⟩ | ⟨rfl, rfl⟩
  · obtain ⟨v, hv, hrv⟩ := foldInt_run (P := P) (w0 := w0) minD Builtin.min2 (fun k a b => rfl) (fun a b => by unfold minD; split <;> simp) _ (xs.map a.eval) _ (a.eval x) r hr (hI.opToSV x) (by simp) hreps
    refine Goes.valueV hI (v := v) ?_ hrv hk
    have e1 : Builtin.min_ c.argTypes o.type (c.args.map a.eval) = (xs.map a.eval).foldlM Builtin.min2 (a.eval x) := by unfold Builtin.min_; rw [hargs]
    simp [execOp, ho, resolve, hc, invoke, builtin, e1, hv]
  · obtain ⟨v, hv, hrv⟩ := foldInt_run (P := P) (w0 := w0) maxD Builtin.max2 (fun k a b => rfl) (fun a b => by unfold maxD; split <;> simp) _ (xs.map a.eval) _ (a.eval x) r hr (hI.opToSV x) (by simp) hreps
    refine Goes.valueV hI (v := v) ?_ hrv hk
    have e1 : Builtin.max_ c.argTypes o.type (c.args.map a.eval) = (xs.map a.eval).foldlM Builtin.max2 (a.eval x) := by unfold Builtin.max_; rw [hargs]
    simp [execOp, ho, resolve, hc, invoke, builtin, e1, hv]

end
end Go.Proofs.Ytfeepndphaboeaa.Ab
