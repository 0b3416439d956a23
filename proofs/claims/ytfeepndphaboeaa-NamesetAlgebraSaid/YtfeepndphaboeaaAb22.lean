/-
  THE ABSTRACT WALK: a function's contract.
-/
import Derived.Test.YtfeepndphaboeaaAb21
set_option linter.unusedVariables false
set_option linter.unusedSimpArgs false
namespace Go.Proofs.Ytfeepndphaboeaa.Ab
open Go Go.RowKit

section
variable {P : Program} {gl : Nat → Option D} {h : Hints}

theorem enters_of {f : FuncId} {fn : Func} {c : Code} (hf : P.funcs[f]? = some fn) (hname : (fn.name == "runtime.NumGoroutine") = false) (hb : fn.body = some c) : Enters P f := by
  intro args w
  have h1 : fn.name ≠ "runtime.NumGoroutine" := by simpa using hname
  simp [callFunc, hf, h1, hb]

/-- nothing in it points below a block -/
theorem RepV.base0 {w : World} {St : Nat → Nat → Prop} {base : Nat} {O : Nat → Nat → Nat → Prop} {x : SV} {v : Value} (r : RepV w St base O x v) (hx : x.noRef = true) : RepV w St 0 O x v := by
  have hL : ∀ {l : List SV}, SV.noRefL l = true → ∀ (i : Nat) y, l[i]? = some y → y.noRef = true := by
    intro l
    induction l with
    | nil => intro _ i y h; simp at h
    | cons z l ih =>
      intro h i y hy
      simp only [SV.noRefL, Bool.and_eq_true] at h
      cases i with
      | zero => simp at hy; subst hy; exact h.1
      | succ i => exact ih h.2 i y (by simpa using hy)
  induction r with
  | d O x v hd => exact .d O x v hd
  | own O sz L g cap hd hcap ho => exact .own O sz L g cap hd hcap ho
  | full O sz L a hd => exact .full O sz L a hd
  | ref => simp [SV.noRef] at hx
  | dptr O x off b o vs hf hcell hc => exact .dptr O x off b o vs hf hcell hc
  | clo O f first cap fv cv hf hc _ _ ihf ihc =>
    simp only [SV.noRef, Bool.and_eq_true] at hx
    exact .clo O f first cap fv cv hf hc (fun i x v a b => ihf i x v a b (hL hx.1 i x a)) (fun i x v a b => ihc i x v a b (hL hx.2 i x a))
  | undef O v => exact .undef O v

theorem RepV.not_tup {w : World} {St : Nat → Nat → Prop} {base : Nat} {O : Nat → Nat → Nat → Prop} {l : List SV} {v : Value} (r : RepV w St base O (.tup l) v) : False := by cases r

/-- a result's value -/
def resultVal (r : ResultVar) (tmps : Array Value) : Sem Value := match r with
  | .tmp t => pure (tmps.getD t undef)
  | .cell a t => do loadVar t (← asAddr (tmps.getD a undef))

theorem results_eq (fn : Func) (tmps : Array Value) : results fn tmps = (fn.results.mapM fun r => resultVal r tmps) >>= fun vs => pure (if h : vs.size = 1 then vs[0] else .tuple vs) := by
  unfold results
  congr 1

/-- who owns a result's row -/
def posRes (rs : List ResultVar) : Pos → Option Nat
  | .s t 0 => rs.findIdx? fun r => match r with | .tmp u => u == t | _ => false
  | _ => none
def ResOw (g : Gh) (rs : List ResultVar) (b : Nat) : Option Nat := (g.ow b).bind (posRes rs)

theorem resP_run {w0 : World} {St0 : Nat → Nat → Prop} {e : Env} {a : Act} {w : World} {g : Gh} (hI : Inv gl w0 St0 e a w g) {rs : List ResultVar} {used : List Nat} {j : Nat} {r : ResultVar} (hr : rs[j]? = some r)
    (hused : ∀ i u, i < j → rs[i]? = some (.tmp u) → u ∈ used) {k : SV → Prop} (hh : resP P e used r k) :
    ∃ x v, k x ∧ (resultVal r a.tmps).run P w = .ok v w ∧ RepV w g.St 0 (ResO w0.heap.size w g.St (ResOw g rs) j) x v := by
  cases r with
  | tmp t =>
    simp only [resP] at hh
    have hs := getD_slot hI t
    cases hx : e.slots.getD t (.v .undef) with
    | v x =>
      rw [hx] at hh hs
      obtain ⟨hn, hk⟩ := hh
      refine ⟨_, a.tmps.getD t undef, hk, rfl, ?_⟩
      have hv : RepV w g.St 0 (slotO w0.heap.size w g t 0) x (a.tmps.getD t undef) := hs.v_inv.base0 hn
      cases hu : used.contains t with
      | true => exact hv.demote
      | false =>
        refine hv.mono (fun _ _ h => ⟨h, rfl⟩) (fun _ _ _ => rfl) _ fun b a' c ho => ?_
        obtain ⟨o1, o2, _, o4, o5⟩ := ho
        refine ⟨?_, o2, o4, o5⟩
        simp only [ResOw, o1, Option.bind_some, posRes]
        rw [List.findIdx?_eq_some_iff_getElem]
        have hj : j < rs.length := (List.getElem?_eq_some_iff.1 hr).1
        have hrj : rs[j] = .tmp t := (List.getElem?_eq_some_iff.1 hr).2
        refine ⟨hj, by simp [hrj], fun i hi => ?_⟩
        have hil : i < rs.length := by omega
        cases hri : rs[i] with
        | tmp u =>
          have := hused i u hi (by rw [List.getElem?_eq_getElem hil, hri])
          have hne : u ≠ t := by
            rintro rfl
            simp at hu
            exact hu this
          simpa using hne
        | cell _ _ => simp
    | _ => rw [hx] at hh; exact hh.elim
  | cell c t =>
    simp only [resP] at hh
    obtain ⟨ly, hl, hh⟩ := bindO_some hh
    obtain ⟨b0, n⟩ := ly
    have hs := getD_slot hI c
    cases hx : e.slots.getD c (.v .undef) with
    | p bn off =>
      rw [hx] at hh hs
      obtain ⟨blk, hv, hblk⟩ := hs.p_inv
      simp only [Act.eval] at hv
      change loadBox b0 n bn off e.boxes _ at hh
      unfold loadBox at hh
      split at hh
      · rename_i cs hcs
        obtain ⟨y, hy, hn, hk⟩ := bindO_some hh
        obtain ⟨h0, cc, ty, hc, hone, hlen, hrep⟩ := hI.boxes bn _ blk hcs hblk
        obtain ⟨v, h1, h2⟩ := partV_load (w := w) (off := off) (St := g.St) (O := fun j => boxO w0.heap.size w g bn j) hl hy blk 0 (fun i => cc.getD i undef) (fun i hi => by
            rw [cell_of_row w blk (0 + i) cc ty (0, 0) hc]; simp [hlen ▸ hi]) (fun i d hd => by
            have hi := (List.getElem?_eq_some_iff.1 hd).1
            exact hrep i d _ hd (by simp [hlen ▸ hi])) (fun i hi => by
            have hi' : i < cc.size := hlen ▸ hi
            simp [hi']; exact hone _ (Array.getElem_mem hi'))
        simp only [Nat.zero_add] at h1
        refine ⟨_, v, hk, ?_, (h2.demote (O' := fun _ _ _ => False)).base0 hn |>.mono (fun _ _ h => ⟨h, rfl⟩) (fun _ _ _ => rfl) _ (fun _ _ _ h => h.elim)⟩
        simp [resultVal, hv, asAddr, h1]
      · rename_i s hs'
        cases b0 with
        | true => exact hh.elim
        | false =>
          simp only [cond_false] at hh
          split at hh
          · obtain ⟨h0, cc, ty, hc, hone, hsz, hrep⟩ := hI.boxes bn _ blk hs' hblk
            have h0c : cc[0]? = some (cc[0]'(by omega)) := by simp
            have hd := (hrep _ h0c).demote (O' := fun _ _ _ _ => False)
            split at hh
            · rename_i x hx'
              obtain ⟨hn, hk⟩ := hh
              rw [hx'] at hd
              refine ⟨x, cc[0]'(by omega), hk, ?_, hd.v_inv.base0 hn |>.mono (fun _ _ h => ⟨h, rfl⟩) (fun _ _ _ => rfl) _ (fun _ _ _ h => h.elim)⟩
              have hrun := loadVar_run (P := P) (w := w) (vs := fun _ => cc[0]'(by omega)) hl blk 0 (fun j hj => by
                simp at hj; subst hj
                rw [cell_of_row w blk (0 + 0) cc ty (0, 0) hc]; exact h0c)
              simp [resultVal, hv, asAddr, hrun]
            · exact hh.elim
          · exact hh.elim
      · exact hh.elim
    | _ => rw [hx] at hh; exact hh.elim

theorem ressP_run {w0 : World} {St0 : Nat → Nat → Prop} {e : Env} {a : Act} {w : World} {g : Gh} (hI : Inv gl w0 St0 e a w g) {rs : List ResultVar} : ∀ (l : List ResultVar) (used : List Nat) (j : Nat) (k : List SV → Prop), (∀ i, l[i]? = rs[j + i]?) →
    (∀ i u, i < j → rs[i]? = some (.tmp u) → u ∈ used) → ressP P e used l k →
    ∃ xs vs, k xs ∧ xs.length = l.length ∧ (l.mapM fun r => resultVal r a.tmps).run P w = .ok vs w ∧ vs.length = l.length ∧ ∀ (i : Nat) x v, xs[i]? = some x → vs[i]? = some v → RepV w g.St 0 (ResO w0.heap.size w g.St (ResOw g rs) (j + i)) x v
  | [], _, _, k, _, _, hh => ⟨[], [], hh, rfl, by simp, rfl, fun i x v h => by simp at h⟩
  | r :: l, used, j, k, hl, hu, hh => by
    simp only [ressP] at hh
    have hr : rs[j]? = some r := by simpa using (hl 0).symm
    obtain ⟨x, v, hk, hrun, hrep⟩ := resP_run hI hr hu hh
    obtain ⟨xs, vs, hk', hxl, hruns, hvl, hreps⟩ := ressP_run hI l (usedOf used r) (j + 1) _ (fun i => by have := hl (i + 1); simpa [Nat.add_assoc, Nat.add_comm 1 i] using this) (fun i u hi hri => by
      rcases Nat.lt_or_ge i j with h' | h'
      · have := hu i u h' hri
        cases r <;> simp [usedOf, this]
      · have : i = j := by omega
        subst this
        rw [hr] at hri
        cases hri
        simp [usedOf]) hk
    refine ⟨x :: xs, v :: vs, hk', by simp [hxl], ?_, by simp [hvl], fun i y u hy hv => ?_⟩
    · simp [List.mapM_cons, hrun, hruns]
    · cases i with
      | zero => simp at hy hv; subst hy hv; exact hrep
      | succ i =>
        have := hreps i y u (by simpa using hy) (by simpa using hv)
        rw [show j + (i + 1) = j + 1 + i by omega]
        exact this

theorem results_run {fn : Func} {tmps : Array Value} {vs : List Value} {w : World} (hh : (fn.results.toList.mapM fun r => resultVal r tmps).run P w = .ok vs w) :
    (results fn tmps).run P w = .ok (match vs with | [v] => v | vs => .tuple vs.toArray) w := by
  rw [results_eq, Array.mapM_eq_mapM_toList]
  simp only [Sem.run_bind, map_eq_pure_bind, hh, Result.andThen_ok, Sem.run_pure]
  match vs with
  | [] => simp
  | [v] => simp
  | v :: u :: l => simp

theorem finish_run {w0 : World} {St0 : Nat → Nat → Prop} {e : Env} {a : Act} {w : World} {g : Gh} (hI : Inv gl w0 St0 e a w g) {fn : Func} {K : SV → Prop} (hh : finish P fn e K) :
    ∃ r v, K r ∧ (results fn a.tmps).run P w = .ok v w ∧ RepRes w0.heap.size w g.St (ResOw g fn.results.toList) r v := by
  unfold finish at hh
  split at hh
  · rename_i r hr
    have hrs : fn.results.toList[0]? = some r := by rw [hr]; rfl
    obtain ⟨x, v, hk, hrun, hrep⟩ := resP_run hI hrs (fun i u hi => by omega) hh
    refine ⟨x, v, hk, ?_, ?_⟩
    · have := results_run (P := P) (fn := fn) (tmps := a.tmps) (w := w) (vs := [v]) (by rw [hr]; simp [hrun])
      exact this
    · cases x with
      | tup l => exact hrep.not_tup.elim
      | _ => exact hrep
  · rename_i hne
    obtain ⟨xs, vs, hk, hxl, hrun, hvl, hrep⟩ := ressP_run hI (rs := fn.results.toList) fn.results.toList [] 0 _ (fun i => by simp) (fun i u hi => by omega) hh
    refine ⟨.tup xs, .tuple vs.toArray, hk, ?_, vs.toArray, rfl, by simp [hxl, hvl], fun j x y hx hy => ?_⟩
    · rw [results_run hrun]
      split
      · rename_i v
        exfalso
        match hrr : fn.results.toList with
        | [] => rw [hrr] at hvl; simp at hvl
        | [r] => exact hne r hrr
        | _ :: _ :: _ => rw [hrr] at hvl; simp at hvl
      · rfl
    · have := hrep j x y hx (by simpa using hy)
      simpa using this

/-- **A FUNCTION'S CONTRACT, FROM ITS TEXT** -/
theorem holds_of_body (hm : P.follows .mixedOrders = true) {f : FuncId} {args : List SV} {r : SV} (hE : Enters P f) (hh : body P gl (Holds P gl) h f args fun x => x = r) : Holds P gl f args r := by
  refine ⟨hE, fun w St vs hSt hgl hlen hargs => ?_⟩
  unfold body at hh
  split at hh
  · rename_i fn hf
    split at hh
    · rename_i c hb
      have hwf : SV.WfL args := by
        rw [SV.WfL_iff]
        intro x hx
        obtain ⟨i, hi, rfl⟩ := List.mem_iff_getElem.1 hx
        exact (hargs i _ (vs[i]'(by omega)) (by simp) (by simp)).wf
      have hh := hh hwf
      have hI : Inv gl w St (enter fn.ntmps args) { tmps := vs ++ Array.replicate (fn.ntmps - vs.size) undef, defers := [] } w ⟨St, [], fun _ => none⟩ := by
        refine ⟨Below.refl _ _, by simp [enter, hlen], fun i s hs => ?_, rfl, fun b bx blk h1 => by simp [enter] at h1, fun i j blk h1 => by simp at h1, fun _ _ h => h, fun b o hb => ⟨.inl hb, by simp, hSt b o hb⟩, fun b hb => by simp at hb, hgl, rfl⟩
        simp only [enter] at hs
        rw [List.getElem?_append] at hs
        split at hs
        · rename_i hi
          simp only [List.length_map] at hi
          simp only [List.getElem?_map, Option.map_eq_some_iff] at hs
          obtain ⟨x, hx, rfl⟩ := hs
          have hiv : i < vs.size := by omega
          have := hargs i x vs[i] hx (by simp)
          have hget : (vs ++ Array.replicate (fn.ntmps - vs.size) undef).getD i undef = vs[i] := by
            simp [Array.getElem?_append, hiv]
          rw [hget]
          exact .v _ _ _ (this.mono (fun _ _ h => ⟨h, rfl⟩) (fun _ _ _ => rfl) _ (fun _ _ _ h => h.elim))
        · have := (List.mem_replicate.1 (List.mem_of_getElem? hs)).2
          subst this
          exact .v _ _ _ (.undef _ _)
      refine calls_of_wp hf hb (aw_sound hm c hI hh fun ex e' a' w' g' hI' hk => ?_)
      have fin' : ∀ {K}, finish P fn e' K → (∀ x, K x → x = r) → a'.defers = [] ∧ ∃ v, (results fn a'.tmps).run P w' = .ok v w' ∧ (∃ v', (Ending.returned v) = .returned v' ∧ Below w.heap.size w w' ∧ ∃ St' ow, (∀ b o, St b o → St' b o) ∧
          (∀ b o, St' b o → St b o ∨ (w.heap.size ≤ b ∧ b < w'.heap.size)) ∧ RepRes w.heap.size w' St' ow r v') := by
        intro K hk hKr
        obtain ⟨r', v, hk1, hrun, hrep⟩ := finish_run hI' hk
        have := hKr r' hk1
        subst this
        exact ⟨hI'.defers, v, hrun, v, rfl, hI'.below, g'.St, _, hI'.st0, fun b o h => (hI'.st1 b o h).1.imp id fun h1 => ⟨h1, (hI'.st1 b o h).2.2⟩, hrep⟩
      cases ex with
      | normal => exact fin' hk fun x hx => hx
      | exit i => exact hk.elim
      | ret => exact fin' hk fun x hx => hx
    · exact hh.elim
  · exact hh.elim

end
end Go.Proofs.Ytfeepndphaboeaa.Ab
