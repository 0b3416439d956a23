/-
  THE ABSTRACT WALK: every operation.
-/
import Derived.Test.YtfeepndphaboeaaAb14
set_option linter.unusedVariables false
set_option linter.unusedSimpArgs false
namespace Go.Proofs.Ytfeepndphaboeaa.Ab
open Go Go.RowKit

section
variable {P : Program} {gl : Nat → Option D} {w0 : World} {St0 : Nat → Nat → Prop} {e : Env} {a : Act} {w : World} {g : Gh}

theorem goes_append (hI : Inv gl w0 St0 e a w g) {o : Oper} {c : Call} (ho : o.op = .call c) (hc : c.callee = .builtin .append) {slots : List Slot} {lost : Nat → Prop} (hH : Hands e slots lost o.dst)
    {x y : Operand} {t u : TypeId}
    (hx : c.args.toList = [x, y]) (ht : c.argTypes.toList = [t, u]) {sx sy : SV} {O : Nat → Nat → Nat → Prop} {Oy : Nat → Nat → Nat → Prop} (rx : RepV w g.St w0.heap.size O sx (a.eval x)) (ry : RepV w g.St w0.heap.size Oy sy (a.eval y))
    (hO : ∀ b a' c, O b a' c → ∃ i0, OwnAt w0.heap.size w g (.s i0 0) b a' c ∧ lost i0) {k : Slot → List Box → Prop}
    (h : bif Nat.beq t u then (bindO (elemOf? P t) fun e' => bindO (sizeOf? P e') fun sz => bindO (bytesOf? P e') fun by_ => bindO (zeroCells? P e') fun z =>
          bif Nat.blt 0 by_ && Nat.blt 0 sz && Nat.beq z.length sz then appP sz by_ sx sy fun r => k (.v r) e.boxes else False) else False) : Goes P gl w0 St0 slots o a w k := by
  cases htu : Nat.beq t u with
  | false => rw [htu] at h; exact h.elim
  | true =>
    have := Nat.eq_of_beq_eq_true htu
    subst this
    rw [htu] at h
    simp only [cond_true] at h
    obtain ⟨e', he, h⟩ := bindO_some h
    obtain ⟨sz, hsz, h⟩ := bindO_some h
    obtain ⟨by_, hby, h⟩ := bindO_some h
    obtain ⟨z, hz, h⟩ := bindO_some h
    cases hcc : (Nat.blt 0 by_ && Nat.blt 0 sz && Nat.beq z.length sz) with
    | false => simp only [hcc, cond_false] at h
    | true =>
      simp only [hcc, cond_true] at h
      simp only [Bool.and_eq_true] at hcc
      obtain ⟨⟨h1, h2⟩, h3⟩ := hcc
      have hb0 : 0 < by_ := Nat.lt_of_succ_le (Nat.le_of_ble_eq_true h1)
      have hs0 : 0 < sz := Nat.lt_of_succ_le (Nat.le_of_ble_eq_true h2)
      have hzl := Nat.eq_of_beq_eq_true h3
      obtain ⟨⟨r, n⟩, hr, hbd, hk⟩ := bindO_some h
      obtain ⟨i, zv, hi, hzv, hzs⟩ := zeroVal_of hz
      have hu := elemOf_run he
      have hisz : i.size = sz := by simpa [sizeOf?, hi] using hsz
      have hiby : i.bytes = by_ := by simpa [bytesOf?, hi] using hby
      intro next Q hn
      obtain ⟨v, w', g', hrun, hinv⟩ := append_step (ty := o.type) hI hH hu hi hzv hisz (by rw [hzs, hzl]) hs0 rx ry hO hr (by rw [hiby]; exact hbd) (by rw [hiby]; exact hb0)
      unfold Oper.wp
      have hargs : c.args.map a.eval = #[a.eval x, a.eval y] := by
        apply Array.toList_inj.1
        rw [Array.toList_map, hx]; rfl
      have htys : c.argTypes = #[t, t] := by apply Array.toList_inj.1; rw [ht]
      have : (execOp a.eval o).run P w = .ok (.value v) w' := by
        simp only [execOp, ho, resolve, hc, Sem.run_bind, Sem.run_pure, Result.andThen_ok, invoke, builtin, hargs, htys, hrun]
      rw [this]
      exact hn (.v r) v _ w' g' hinv hk


theorem eff_goes (hI : Inv gl w0 St0 e a w g) {id : Nat} {o : Oper} {k : Slot → List Box → Prop} (h : eff P (Holds P gl) id o (fun x => (Ab.opnd gl e x).demote) e.boxes k) : Goes P gl w0 St0 e.slots o a w k := by
  cases ho : o.op <;> simp only [eff, ho] at h
  case move x => exact Goes.value hI (by simp [execOp, ho]) (hI.opnd x) h
  case assign x => exact Goes.value hI (by simp [execOp, ho]) (hI.opnd x) h
  case pick c x y =>
    split at h
    · rename_i s hs
      obtain ⟨b, rfl, h1, h2⟩ := ifP_bool h
      have hv := (hI.opV hs).data.bool_inv
      cases b
      · exact Goes.value hI (v := a.eval y) (by simp [execOp, ho, hv, asBool]) (hI.opnd y) (h2 rfl)
      · exact Goes.value hI (v := a.eval x) (by simp [execOp, ho, hv, asBool]) (hI.opnd x) (h1 rfl)
    · exact h.elim
  case alloc t =>
    split at h
    · rename_i hid; exact goes_alloc hI ho hid h
    · exact h.elim
  case box t x =>
    split at h
    · rename_i hid; exact goes_box hI ho hid h
    · exact h.elim
  case build t ps => exact goes_build hI ho h
  case buildSlice t n ps => exact goes_buildSlice hI ho h
  case load t x =>
    obtain ⟨⟨b, n⟩, hl, h⟩ := bindO_some h
    split at h
    · rename_i bn off hs; exact goes_loadBox hI ho hl hs h
    · rename_i s hs; exact goes_loadV hI ho hl hs h
    · exact h.elim
  case store t x y =>
    obtain ⟨n, hn, h⟩ := bindO_some h
    split at h
    · rename_i bn off hs
      split at h
      · rename_i hd; exact goes_store hI ho hd hn hs h
      · exact h.elim
    · exact h.elim
  case nilCheck x => exact goes_nilCheck hI ho h
  case binOp op t x y u => exact goes_bin hI ho h
  case unOp op t x => exact goes_un hI ho h
  case convert src dst x =>
    cases hs : (P.underlying src).isSome with
    | false => rw [hs] at h; exact h.elim
    | true => rw [hs] at h; exact goes_conv hI ho hs h
  case makeInterface t x => exact goes_iface hI ho h
  case makeFunc fn first cap => exact goes_makeFunc hI ho h
  case slice t x lo hi mx => exact goes_slice hI ho h
  case fieldAddr t x f => exact goes_fieldAddr hI ho h
  case field t x f => exact goes_field hI ho h
  case indexAddr t x i => exact goes_indexAddr hI ho h
  case index t x i => exact goes_index hI ho h
  case extract x i => exact goes_extract hI ho h
  case call c =>
    split at h
    · rename_i f hc
      refine goes_call hI ho hc (n := arity P o.type) ?_
      split at h
      · rename_i s hs; simp only [hs]; exact h
      · rename_i g' first cap hs; simp only [hs]; exact h
      · exact h.elim
    · exact h.elim
    · rename_i b hc
      split at h
      · rename_i x xs t ts hx ht; exact goes_len hI ho hc hx ht h
      · rename_i x y t u hx ht
        exact goes_append hI ho hc (Hands.same e o.dst) hx ht (hI.opToSV x) (hI.opToSV y) (fun _ _ _ h => h.elim) h
      · rename_i x xs ts hx; exact goes_min hI ho hc hx (.inl ⟨rfl, rfl⟩) h
      · rename_i x xs ts hx; exact goes_min hI ho hc hx (.inr ⟨rfl, rfl⟩) h
      · exact h.elim
  all_goals exact h.elim

end
end Go.Proofs.Ytfeepndphaboeaa.Ab
