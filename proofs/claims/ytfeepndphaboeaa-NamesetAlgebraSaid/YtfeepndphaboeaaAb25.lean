/-
  THE ROW: a law's call, from its contract.
-/
import Derived.Test.YtfeepndphaboeaaAb24
set_option linter.unusedVariables false
set_option linter.unusedSimpArgs false
namespace Go.Proofs.Ytfeepndphaboeaa.Ab
open Go Go.RowKit Go.ChangeShapes Go.WideShapes

section
variable {H : Type} {enc : TypeId × Value → H} {P : Program} {W : World} {L : List Nat}

/-- AN ARGUMENT -/
theorem arg_rep (hL : closedB P L = true) {t : TypeId} {v : Value} {d : DataW H} {ps : List MemPlace} {b : Bool} {r : Reach} {b0 : Nat} (ht : t ∈ L) (hb : aggOf? P t = some b)
    (hval : Value.okWide P W r b0 t v) (h : DataW.Trod enc P W 0 (fun _ => true) true t v d ps) : ∃ xs, Is P t xs ∧ RepD W (InPs ps) (pack b xs) v := by
  obtain ⟨fuel, hf⟩ := h
  obtain ⟨xs, hi, hl, hr⟩ := trod_is hL fuel t _ _ ht hf
  refine ⟨xs, hi, ?_⟩
  have hty := closed_at hL ht
  unfold aggOf? at hb
  cases b with
  | true =>
    have : ∃ cs, v = .agg cs := by
      unfold Value.okWide at hval
      split at hval
      · obtain ⟨cs, h, _⟩ := hval; exact ⟨cs, h⟩
      · obtain ⟨cs, h, _⟩ := hval; exact ⟨cs, h⟩
      · rename_i h1 h2
        split at hb
        · rename_i fs hu; exact absurd hu (h1 fs)
        · rename_i n e hu; exact absurd hu (h2 n e)
        · cases hb
        · cases hb
    obtain ⟨cs, rfl⟩ := this
    simp only [Value.cells] at hr
    refine .agg xs cs (fun c hc => ?_) (by simpa using hr.length) (fun i c u hc hu => (hr.get i c u hc (by simpa using hu)).2)
    obtain ⟨j, hj, rfl⟩ := List.mem_iff_getElem.1 hc
    have hjl := hr.length
    exact (hr.get j _ (cs.toList[j]'(by omega)) (List.getElem?_eq_getElem hj) (List.getElem?_eq_getElem (by omega))).1
  | false =>
    have hone : ∃ y, xs = [y] := by
      cases hi with
      | bool h b => exact ⟨_, rfl⟩
      | int h n hn => exact ⟨_, rfl⟩
      | str h s hs => exact ⟨_, rfl⟩
      | nilsl h => exact ⟨_, rfl⟩
      | sl h => exact ⟨_, rfl⟩
      | struct h => rw [h] at hb; cases hb
      | array h => rw [h] at hb; cases hb
    obtain ⟨y, rfl⟩ := hone
    have hv : v.cells.toList = [v] := by
      cases v with
      | agg cs =>
        exfalso
        unfold Value.okWide at hval
        split at hval
        · rename_i h; rw [h] at hb; cases hb
        · rename_i h; rw [h] at hb; cases hb
        · unfold tyB at hty
          unfold Cell.okWide at hval
          split at hval <;> simp_all [Cell.ok]
      | _ => rfl
    rw [hv] at hr
    cases hr with
    | cons h _ => exact h.2

theorem trodAll_stays (hL : closedB P L = true) {W' : World} (hb : Below W.heap.size W W') : ∀ {ts : List TypeId} {vs : List Value} {ds : List (DataW H)} {ps : List MemPlace}, (∀ t ∈ ts, t ∈ L) →
    DataW.TrodAll enc P W 0 (fun _ => true) true ts vs ds ps → (∀ p ∈ ps, p.block < W.heap.size) → DataW.TrodAll enc P W' 0 (fun b => decide (b < W.heap.size)) true ts vs ds ps
  | [], [], [], _, _, h, _ => h
  | t :: ts, v :: vs, d :: ds, _, hts, ⟨p, q, ⟨fuel, hf⟩, h2, e⟩, hlt => by
    subst e
    refine ⟨p, q, ⟨fuel, ?_⟩, trodAll_stays hL hb (fun t ht => hts t (List.mem_cons_of_mem _ ht)) h2 (fun x hx => hlt x (List.mem_append_right _ hx)), rfl⟩
    exact DataW.trod_stays (closed_kids hL) (fun ht hu => closed_pos hL ht hu) (fun h => by cases h) (hts t List.mem_cons_self) hf (fun x hx => hb.same (hlt x (List.mem_append_left _ hx))) (fun x hx => by simpa using hlt x (List.mem_append_left _ hx))

/-- THE CALL -/
theorem calls_post {gl : Nat → Option D} {fid : FuncId} {f : Func} {s : ChangeSpec} {args : Array Value} {ds gs : List (DataW H)} {before : List MemPlace} {tb : TypeId} {St : Nat → Nat → Prop} {dargs : List SV}
    (hH : Holds P gl fid dargs (.d (.bool true))) (hL : closedB P L = true) (hts : ∀ t ∈ f.params.toList, t ∈ L) (hsv : s.vars = [])
    (hW : DataW.Whole enc P f.params.toList s.vars false W args.toList ds gs before)
    (hfr : (s.fn H (ds ++ gs)).results = [.lit (.bool true)]) (hfa : (s.fn H (ds ++ gs)).args = ds) (hfv : (s.fn H (ds ++ gs)).vars = [])
    (hres : f.resultTypes = #[tb]) (htb : P.underlying tb = some .bool)
    (hst : ∀ b o, St b o → b < W.heap.size) (hG : GlobOK gl W St) (hlen : dargs.length = args.size)
    (hrep : ∀ (i : Nat) x v, dargs[i]? = some x → args[i]? = some v → RepV W St W.heap.size (fun _ _ _ => False) x v) :
    Calls P fid args W fun e W' => ∃ v, e = .returned v ∧ s.post enc P f false true false false W args v W' := by
  refine (hH.2 W St args hst hG hlen hrep).mono ?_
  rintro e W' ⟨v, rfl, hb, St', ow, _, _, hr⟩
  refine ⟨v, rfl, ?_⟩
  have hv : v = .bool true := by
    have := RepV.data (show RepV W' St' 0 (ResO W.heap.size W' St' ow 0) (.d (.bool true)) v from hr)
    cases this
    rfl
  subst hv
  have hlt := hW.lt
  refine ⟨ds, gs, before, [], before, [], hW, ?_, ?_, ?_, World.keptBut_mono (fun p hp => ⟨hp, .inr (.inl hp)⟩) (hb.frame _), fun h => by cases h⟩
  · rw [hfr, hres]
    exact trodAll_cons_mk (shut_bool htb _) trodAll_mk0
  · rw [hfa]
    obtain ⟨p, q, hA, hV, rfl, _, _⟩ := hW
    rw [hsv] at hV
    have : q = [] := by
      cases gs with
      | nil => exact hV
      | cons _ _ => exact hV.elim
    subst this
    rw [List.append_nil] at hlt ⊢
    exact trodAll_stays hL hb hts hA hlt
  · rw [hfv, hsv]
    rfl

/-- A TABLE OF NUMBERS that is read -/
theorem glob_tab {name : String} {k : IntKind} {zs : List Int} {g : Nat} (h : Lib.TabIs P W name k zs) (hg : P.globalNamed name = some g) (hz : zs.all (wfI k) = true) {St : Nat → Nat → Prop} {gl : Nat → Option D}
    (hgl : ∀ n x, gl n = some x → n = g ∧ x = .agg (zs.map (.int k))) : GlobOK gl W (fun b o => St b o ∨ (b = g ∧ o < zs.length)) := by
  intro n x hx
  obtain ⟨rfl, rfl⟩ := hgl n x hx
  refine ⟨fun c hc => ?_, fun i => .int k (zs.getD i 0), fun i hi => ?_, fun i c hc => ?_⟩
  · obtain ⟨z, _, rfl⟩ := List.mem_map.1 hc
    rfl
  · have hi : i < zs.length := by simpa [D.cells] using hi
    exact ⟨h.cell hg i hi, .inr ⟨rfl, hi⟩⟩
  · simp only [D.cells, List.getElem?_map] at hc
    obtain ⟨z, hz', rfl⟩ := Option.map_eq_some_iff.1 hc
    have : zs.getD i 0 = z := by simp [hz']
    simp only [this]
    exact .int k z (List.all_eq_true.1 hz z (List.mem_of_getElem? hz'))
theorem tab_lt {name : String} {k : IntKind} {zs : List Int} {g : Nat} (h : Lib.TabIs P W name k zs) (hg : P.globalNamed name = some g) {o : Nat} (ho : o < zs.length) : g < W.heap.size := by
  have := h.cell hg o ho
  unfold World.cell? at this
  split at this
  · rename_i h'
    exact (Array.getElem?_eq_some_iff.1 h').1
  · cases this
theorem glob_none (St : Nat → Nat → Prop) : GlobOK (fun _ => none) W St := fun _ _ h => by cases h

theorem rep_arg {St : Nat → Nat → Prop} {ps : List MemPlace} {x : D} {v : Value} {base : Nat} {O : Nat → Nat → Nat → Prop} (h : RepD W (InPs ps) x v) (hs : ∀ b o, MemPlace.cell b o ∈ ps → St b o) : RepV W St base O (.d x) v :=
  .d _ _ _ (h.mono fun b o hb => ⟨hs b o hb, rfl⟩)
end
end Go.Proofs.Ytfeepndphaboeaa.Ab
