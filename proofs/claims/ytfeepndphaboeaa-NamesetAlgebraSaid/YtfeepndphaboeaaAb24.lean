/-
  THE ROW: from arguments that read as data to what the abstract walk speaks of, and back.
-/
import Derived.Test.YtfeepndphaboeaaAb23
import Derived.ChangeStays
import Derived.ChangeSame
import Derived.OpenShut
import Derived.Carry
import Derived.Lib.LaidTab
set_option linter.unusedVariables false
set_option linter.unusedSimpArgs false
namespace Go.Proofs.Ytfeepndphaboeaa.Ab
open Go Go.RowKit Go.ChangeShapes Go.WideShapes

/-- lists side by side -/
inductive RL {α β : Type} (R : α → β → Prop) : List α → List β → Prop
  | nil : RL R [] []
  | cons {a : α} {b : β} {l : List α} {m : List β} (h : R a b) (t : RL R l m) : RL R (a :: l) (b :: m)

section
variable {α β : Type} {R S : α → β → Prop}
theorem RL.length {l : List α} {m : List β} (h : RL R l m) : l.length = m.length := by induction h <;> simp_all
theorem RL.append {l l' : List α} {m m' : List β} (h : RL R l m) (h' : RL R l' m') : RL R (l ++ l') (m ++ m') := by
  induction h with
  | nil => exact h'
  | cons h _ ih => exact .cons h ih
theorem RL.mono (hm : ∀ a b, R a b → S a b) {l : List α} {m : List β} (h : RL R l m) : RL S l m := by
  induction h with
  | nil => exact .nil
  | cons h _ ih => exact .cons (hm _ _ h) ih
theorem RL.get {l : List α} {m : List β} (h : RL R l m) : ∀ (i : Nat) (a : α) (b : β), l[i]? = some a → m[i]? = some b → R a b := by
  induction h with
  | nil => intro i a b h; simp at h
  | cons h _ ih =>
    intro i a b ha hb
    cases i with
    | zero => simp at ha hb; subst ha hb; exact h
    | succ i => exact ih i a b (by simpa using ha) (by simpa using hb)
end

/-- a value of a type, from its cells -/
def pack (b : Bool) (xs : List D) : D := match b, xs with
  | true, xs => .agg xs
  | false, [x] => x
  | false, _ => .nilptr

/-- CELLS THAT ARE DATA OF A TYPE -/
inductive Is (P : Program) : TypeId → List D → Prop
  | bool {t : TypeId} (h : P.underlying t = some .bool) (b : Bool) : Is P t [.bool b]
  | int {t : TypeId} {k : IntKind} (h : P.underlying t = some (.int k)) (n : Int) (hn : wfI k n = true) : Is P t [.int k n]
  | str {t : TypeId} (h : P.underlying t = some .string) (s : List UInt8) (hs : s.length ≤ maxLen) : Is P t [.str s]
  | nilsl {t e : TypeId} (h : P.underlying t = some (.slice e)) : Is P t [.sl .nil 0 []]
  | sl {t e : TypeId} (h : P.underlying t = some (.slice e)) (b : Bool) (hb : aggOf? P e = some b) (L : List (List D)) (hm : L.length ≤ maxLen) (hL : ∀ x ∈ L, Is P e x) :
      Is P t [.sl .ro (P.cellsOf e) (L.map (pack b))]
  | struct {t : TypeId} {fs : Array Field} (h : P.underlying t = some (.struct fs)) (parts : List (List D)) (hl : parts.length = fs.size)
      (hp : ∀ (i : Nat) f p, fs[i]? = some f → parts[i]? = some p → Is P f.type p) : Is P t parts.flatten
  | array {t e : TypeId} {n : Nat} (h : P.underlying t = some (.array n e)) (parts : List (List D)) (hl : parts.length = n) (hp : ∀ p ∈ parts, Is P e p) : Is P t parts.flatten

section
variable {P : Program} {t : TypeId} {xs : List D}
theorem Is.bool_inv (ht : P.underlying t = some .bool) (h : Is P t xs) : ∃ b, xs = [.bool b] := by
  cases h with
  | bool _ b => exact ⟨b, rfl⟩
  | _ => simp_all
theorem Is.int_inv {k : IntKind} (ht : P.underlying t = some (.int k)) (h : Is P t xs) : ∃ n, xs = [.int k n] ∧ wfI k n = true := by
  cases h with
  | int h n hn => rw [ht] at h; cases h; exact ⟨n, rfl, hn⟩
  | _ => simp_all
theorem Is.str_inv (ht : P.underlying t = some .string) (h : Is P t xs) : ∃ s, xs = [.str s] ∧ s.length ≤ maxLen := by
  cases h with
  | str h s hs => exact ⟨s, rfl, hs⟩
  | _ => simp_all
theorem Is.sl_inv {e : TypeId} {b : Bool} (ht : P.underlying t = some (.slice e)) (hb : aggOf? P e = some b) (h : Is P t xs) :
    xs = [.sl .nil 0 []] ∨ ∃ L : List (List D), xs = [.sl .ro (P.cellsOf e) (L.map (pack b))] ∧ L.length ≤ maxLen ∧ ∀ x ∈ L, Is P e x := by
  cases h with
  | nilsl h => exact .inl rfl
  | sl h b' hb' L hm hL => rw [ht] at h; cases h; rw [hb] at hb'; cases hb'; exact .inr ⟨L, rfl, hm, hL⟩
  | _ => simp_all
theorem Is.struct_inv {fs : Array Field} (ht : P.underlying t = some (.struct fs)) (h : Is P t xs) :
    ∃ parts : List (List D), xs = parts.flatten ∧ parts.length = fs.size ∧ ∀ (i : Nat) f p, fs[i]? = some f → parts[i]? = some p → Is P f.type p := by
  cases h with
  | struct h parts hl hp => rw [ht] at h; cases h; exact ⟨parts, rfl, hl, hp⟩
  | _ => simp_all
theorem Is.array_inv {e : TypeId} {n : Nat} (ht : P.underlying t = some (.array n e)) (h : Is P t xs) : ∃ parts : List (List D), xs = parts.flatten ∧ parts.length = n ∧ ∀ p ∈ parts, Is P e p := by
  cases h with
  | array h parts hl hp => rw [ht] at h; cases h; exact ⟨parts, rfl, hl, hp⟩
  | _ => simp_all
end

/-- each field lies behind the one before it -/
def offsB (P : Program) : List Field → Nat → Option Nat
  | [], n => some n
  | f :: fs, n => bif Nat.beq f.offset n then offsB P fs (n + P.cellsOf f.type) else none
def tyB (P : Program) (L : List Nat) (t : TypeId) : Bool := match P.underlying t with
  | some .bool => Nat.beq (P.cellsOf t) 1
  | some (.int _) => Nat.beq (P.cellsOf t) 1
  | some .string => Nat.beq (P.cellsOf t) 1
  | some (.slice e) => Nat.beq (P.cellsOf t) 1 && L.contains e && Nat.ble 1 (P.cellsOf e)
  | some (.array n e) => L.contains e && Nat.beq (P.cellsOf t) (n * P.cellsOf e)
  | some (.struct fs) => fs.toList.all (fun f => L.contains f.type) && (match offsB P fs.toList 0 with | some n => Nat.beq n (P.cellsOf t) | none => false)
  | _ => false
/-- a list of types that holds its types' parts: numbers, bools, strings, slices, structs and arrays -/
def closedB (P : Program) (L : List Nat) : Bool := L.all (tyB P L)

section
variable {P : Program} {L : List Nat}
theorem offsB_ge : ∀ (fs : List Field) (n m : Nat), offsB P fs n = some m → m = n + (fs.map fun f => P.cellsOf f.type).sum
  | [], n, m, h => by simp [offsB] at h; simp [h]
  | f :: fs, n, m, h => by
    simp only [offsB] at h
    cases hb : Nat.beq f.offset n <;> rw [hb] at h
    · cases h
    · have := offsB_ge fs _ _ h
      simp only [List.map_cons, List.sum_cons]
      omega
theorem offsB_at : ∀ (fs : List Field) (n m : Nat), offsB P fs n = some m → ∀ (j : Nat) f, fs[j]? = some f → f.offset = n + ((fs.take j).map fun f => P.cellsOf f.type).sum
  | [], n, m, h, j, f, hj => by simp at hj
  | f :: fs, n, m, h, j, g, hj => by
    simp only [offsB] at h
    cases hb : Nat.beq f.offset n <;> rw [hb] at h
    · cases h
    · have hn := Nat.eq_of_beq_eq_true hb
      cases j with
      | zero => simp at hj; subst hj; simp [hn]
      | succ j =>
        have := offsB_at fs _ _ h j g (by simpa using hj)
        simp only [List.take_succ_cons, List.map_cons, List.sum_cons]
        omega
theorem closed_at (h : closedB P L = true) {t : TypeId} (ht : t ∈ L) : tyB P L t = true := List.all_eq_true.1 h t ht

theorem closed_kids (h : closedB P L = true) : Kids P (· ∈ L) where
  pointer := fun {t e} ht hu => by have := closed_at h ht; simp [tyB, hu] at this
  slice := fun {t e} ht hu => by have := closed_at h ht; simp [tyB, hu] at this; exact this.1.2
  array := fun {t e n} ht hu => by
    have := closed_at h ht
    simp only [tyB, hu, Bool.and_eq_true] at this
    exact ⟨by simpa using this.1, Nat.eq_of_beq_eq_true this.2⟩
  struct := fun {t fs} ht hu => by
    have := closed_at h ht
    simp only [tyB, hu, Bool.and_eq_true] at this
    refine ⟨fun f hf => by simpa using List.all_eq_true.1 this.1 f hf, ?_⟩
    have h2 := this.2
    split at h2
    · rename_i n hn
      have e := Nat.eq_of_beq_eq_true h2
      refine ⟨by rw [← e, offsB_ge _ _ _ hn]; omega, fun j f hj => by rw [offsB_at _ _ _ hn j f hj]; omega⟩
    · cases h2
  map := fun {t k e} ht hu => by have := closed_at h ht; simp [tyB, hu] at this
theorem closed_pos (h : closedB P L = true) {t e : TypeId} (ht : t ∈ L) (hu : P.underlying t = some (.slice e)) : 0 < P.cellsOf e := by
  have := closed_at h ht
  simp [tyB, hu] at this
  omega

/-- a list cut along the fields -/
theorem cut_fields {β : Type} (cs : List β) : ∀ (fs : List Field) (n m : Nat), offsB P fs n = some m → cs.length = m → cs.drop n = (fs.map fun f => (cs.drop f.offset).take (P.cellsOf f.type)).flatten
  | [], n, m, h, hm => by simp [offsB] at h; simp; omega
  | f :: fs, n, m, h, hm => by
    simp only [offsB] at h
    cases hb : Nat.beq f.offset n <;> rw [hb] at h
    · cases h
    · have hn := Nat.eq_of_beq_eq_true hb
      have ih := cut_fields cs fs _ _ h hm
      simp only [List.map_cons, List.flatten_cons, ← ih, hn]
      rw [← List.drop_drop, List.take_append_drop]
theorem cut_cells {β : Type} (s : Nat) : ∀ (n : Nat) (cs : List β), cs.length = n * s → cs = ((List.range n).map fun i => (cs.drop (i * s)).take s).flatten
  | 0, cs, h => by simp at h; subst h; rfl
  | n + 1, cs, h => by
    rw [List.range_succ_eq_map, List.map_cons, List.flatten_cons, List.map_map]
    have ih := cut_cells s n (cs.drop s) (by rw [List.length_drop, h, Nat.add_mul]; omega)
    have : ((fun i => (cs.drop (i * s)).take s) ∘ Nat.succ) = fun i => ((cs.drop s).drop (i * s)).take s := by
      funext i
      simp only [Function.comp, List.drop_drop]
      rw [Nat.succ_mul, Nat.add_comm]
    rw [this, ← ih]
    simp
end

section
variable {H : Type} {enc : TypeId × Value → H} {P : Program} {w : World} {L : List Nat}

/-- the cells that a reading names -/
def InPs (ps : List MemPlace) (b o : Nat) : Prop := MemPlace.cell b o ∈ ps
def RepC (w : World) (ps : List MemPlace) (c : D) (v : Value) : Prop := c.one = true ∧ RepD w (InPs ps) c v
theorem RepC.mono {ps qs : List MemPlace} (h : ∀ p ∈ ps, p ∈ qs) (c : D) (v : Value) (r : RepC w ps c v) : RepC w qs c v := ⟨r.1, r.2.mono fun b o hb => ⟨h _ hb, rfl⟩⟩

theorem pack_cells {b : Bool} {e : TypeId} (hL : closedB P L = true) (he : e ∈ L) (hb : aggOf? P e = some b) {x : List D} (hx : Is P e x) : (pack b x).cells = x ∨ ∃ y, x = [y] ∧ b = false := by
  cases b with
  | true => exact .inl rfl
  | false =>
    right
    unfold aggOf? at hb
    cases hx with
    | bool h b => exact ⟨_, rfl, rfl⟩
    | int h n hn => exact ⟨_, rfl, rfl⟩
    | str h s hs => exact ⟨_, rfl, rfl⟩
    | nilsl h => exact ⟨_, rfl, rfl⟩
    | sl h => exact ⟨_, rfl, rfl⟩
    | struct h => rw [h] at hb; cases hb
    | array h => rw [h] at hb; cases hb
theorem pack_cells' {b : Bool} {e : TypeId} (hL : closedB P L = true) (he : e ∈ L) (hb : aggOf? P e = some b) {x : List D} (hx : Is P e x) (h1 : ∀ c ∈ x, c.one = true) : (pack b x).cells = x := by
  rcases pack_cells hL he hb hx with h | ⟨y, rfl, rfl⟩
  · exact h
  · have := h1 y (by simp)
    cases y <;> first | rfl | simp [D.one] at this

/-- READING IS STANDING FOR -/
theorem trod_is (hL : closedB P L = true) : ∀ (fuel : Nat) (t : TypeId) (cs : List Value) (x : DataW H × List MemPlace), t ∈ L → DataW.trod enc P w 0 (fun _ => true) true fuel t cs = some x →
    ∃ xs : List D, Is P t xs ∧ xs.length = P.cellsOf t ∧ RL (RepC w x.2) xs cs := by
  intro fuel
  induction fuel with
  | zero => intro t cs x _ h; simp [DataW.trod] at h
  | succ fuel ih =>
    intro t cs x ht h
    have hty := closed_at hL ht
    unfold tyB at hty
    split at hty
    · rename_i hu
      obtain ⟨b, rfl, rfl⟩ := DataW.trod_bool hu h
      exact ⟨[.bool b], .bool hu b, (Nat.eq_of_beq_eq_true hty).symm, .cons ⟨rfl, .bool b⟩ .nil⟩
    · rename_i k hu
      obtain ⟨n, rfl, rfl, hw⟩ := DataW.trod_int hu h
      exact ⟨[.int k n], .int hu n hw, (Nat.eq_of_beq_eq_true hty).symm, .cons ⟨rfl, .int k n hw⟩ .nil⟩
    · rename_i hu
      obtain ⟨s, rfl, rfl, hs⟩ := DataW.trod_string hu h
      exact ⟨[.str s.data.toList], .str hu _ (by simpa using hs), (Nat.eq_of_beq_eq_true hty).symm, .cons ⟨rfl, .str s hs⟩ .nil⟩
    · rename_i e hu
      simp only [Bool.and_eq_true] at hty
      obtain ⟨⟨h1, he⟩, hpos⟩ := hty
      have he : e ∈ L := by simpa using he
      have h1 := Nat.eq_of_beq_eq_true h1
      have hpos := Nat.le_of_ble_eq_true hpos
      obtain ⟨bb, hbb⟩ : ∃ bb, aggOf? P e = some bb := by
        have := closed_at hL he
        unfold tyB at this
        unfold aggOf?
        split at this <;> simp_all
      rcases DataW.trod_slice hu h with ⟨rfl, rfl⟩ | ⟨a, len, cap, elems, rest, n, hn, rfl, rfl, _, hlc, hcm, hel, hels, _, _⟩
      · exact ⟨[.sl .nil 0 []], .nilsl hu, by rw [h1]; rfl, .cons ⟨rfl, .nilsl 0⟩ .nil⟩
      · cases hn
        have key : ∀ k, k ≤ len → ∃ M : List (List D), M.length = k ∧ ∀ i, i < k → ∃ y cs', M[i]? = some y ∧ w.cells? 0 (a.add (i * P.cellsOf e)) (P.cellsOf e) = some cs' ∧ Is P e y ∧ y.length = P.cellsOf e ∧
            RL (RepC w ((elems ++ rest).flatMap (·.2))) y cs' := by
          intro k
          induction k with
          | zero => intro _; exact ⟨[], rfl, fun i hi => by omega⟩
          | succ k ihk =>
            intro hk
            obtain ⟨M, hM, hMs⟩ := ihk (by omega)
            have hq := hels k (by omega)
            have hge : elems[k]? = some (elems[k]'(by omega)) := List.getElem?_eq_getElem (by omega)
            rw [hge] at hq
            obtain ⟨cs', hc', hx'⟩ := Option.bind_eq_some_iff.1 hq
            obtain ⟨y, hy, hyl, hyr⟩ := ih e cs' _ he hx'
            refine ⟨M ++ [y], by simp [hM], fun i hi => ?_⟩
            rcases Nat.lt_or_ge i k with h | h
            · obtain ⟨y', cs'', q1, q2⟩ := hMs i h
              exact ⟨y', cs'', by rw [List.getElem?_append_left (by omega)]; exact q1, q2⟩
            · have : i = k := by omega
              subst this
              refine ⟨y, cs', by rw [List.getElem?_append_right (by omega), hM]; simp, hc', hy, hyl, hyr.mono (RepC.mono fun p hp => ?_)⟩
              exact List.mem_flatMap.2 ⟨_, List.mem_append_left _ (List.getElem_mem (by omega)), hp⟩
        obtain ⟨M, hM, hMs⟩ := key len (Nat.le_refl _)
        have hMe : ∀ y ∈ M, Is P e y ∧ y.length = P.cellsOf e ∧ ∀ c ∈ y, c.one = true := by
          intro y hy
          obtain ⟨i, hi, rfl⟩ := List.mem_iff_getElem.1 hy
          obtain ⟨y', cs', q1, _, q2, q3, q4⟩ := hMs i (by omega)
          rw [List.getElem?_eq_getElem hi] at q1
          cases q1
          refine ⟨q2, q3, fun c hc => ?_⟩
          obtain ⟨j, hj, rfl⟩ := List.mem_iff_getElem.1 hc
          have := q4.length
          exact (q4.get j _ (cs'[j]'(by omega)) (List.getElem?_eq_getElem hj) (List.getElem?_eq_getElem (by omega))).1
        have hpc : ∀ y ∈ M, (pack bb y).cells = y := fun y hy => pack_cells' hL he hbb (hMe y hy).1 (hMe y hy).2.2
        refine ⟨[.sl .ro (P.cellsOf e) (M.map (pack bb))], .sl hu bb hbb M (by omega) (fun y hy => (hMe y hy).1), by rw [h1]; rfl, .cons ⟨rfl, ?_⟩ .nil⟩
        have hlen : (M.map (pack bb)).length = len := by simp [hM]
        by_cases hsp : a.spot = none
        · obtain ⟨b, off, spot⟩ := a
          simp only at hsp
          subst hsp
          have hcell : ∀ o, o < len * P.cellsOf e → ∃ v, w.cell? ⟨b, off + o, none⟩ = some v := by
            intro o ho
            have hq : o / P.cellsOf e < len := Nat.div_lt_of_lt_mul (by rw [Nat.mul_comm]; exact ho)
            have hmod := Nat.mod_lt o hpos
            obtain ⟨y, cs', q1, q2, q3, q4, q5⟩ := hMs _ hq
            obtain ⟨_, l1, l2⟩ := World.cells?_some q2
            have := l2 (o % P.cellsOf e) hmod
            refine ⟨cs'[o % P.cellsOf e]'(by omega), ?_⟩
            rw [List.getElem?_eq_getElem (by omega)] at this
            rw [← this]
            simp only [add_plain]
            congr 2
            rw [Nat.add_assoc]
            congr 1
            rw [Nat.mul_comm]
            exact (Nat.div_add_mod _ _).symm
          have hv : ∀ o, o < len * P.cellsOf e → w.cell? ⟨b, off + o, none⟩ = some ((w.cell? ⟨b, off + o, none⟩).getD (.bool false)) := fun o ho => by
            obtain ⟨v, hv⟩ := hcell o ho
            rw [hv]; rfl
          have := RepD.sl (w := w) (St := InPs (MemPlace.row ⟨b, off, none⟩ ((elems.length + rest.length) * P.cellsOf e) ++ (elems ++ rest).flatMap (·.2))) (P.cellsOf e) (M.map (pack bb)) b off cap
            (fun o => (w.cell? ⟨b, off + o, none⟩).getD (.bool false)) (by omega) (by omega) (fun x hx => by
              obtain ⟨y, hy, rfl⟩ := List.mem_map.1 hx
              rw [hpc y hy]
              exact (hMe y hy).2.1) (fun x hx c hc => by
              obtain ⟨y, hy, rfl⟩ := List.mem_map.1 hx
              rw [hpc y hy] at hc
              exact (hMe y hy).2.2 c hc) (fun o ho => by
              rw [hlen] at ho
              refine ⟨hv o ho, List.mem_append_left _ (MemPlace.mem_row.2 ⟨o, ?_, rfl⟩)⟩
              rw [Nat.add_mul]; rw [hel]; omega) (fun i x j c hi hj => by
              rw [List.getElem?_map] at hi
              obtain ⟨y, hy, rfl⟩ := Option.map_eq_some_iff.1 hi
              have hil : i < M.length := (List.getElem?_eq_some_iff.1 hy).1
              have hym : y ∈ M := List.mem_of_getElem? hy
              rw [hpc y hym] at hj
              obtain ⟨y', cs', q1, q2, q3, q4, q5⟩ := hMs i (by omega)
              rw [hy] at q1
              cases q1
              obtain ⟨_, l1, l2⟩ := World.cells?_some q2
              have hjl : j < y.length := (List.getElem?_eq_some_iff.1 hj).1
              have l3 := l2 j (by omega)
              rw [List.getElem?_eq_getElem (by omega)] at l3
              have hr := (q5.get j c (cs'[j]'(by omega)) hj (List.getElem?_eq_getElem (by omega))).2
              simp only [add_plain, Nat.add_assoc] at l3
              simp only [l3, Option.getD_some]
              exact hr.mono fun b' o' hb' => ⟨List.mem_append_right _ hb', rfl⟩)
          rw [hlen] at this
          exact this
        · have h0 : len = 0 := by
            rcases Nat.eq_zero_or_pos len with h | h
            · exact h
            · obtain ⟨y, cs', q1, q2, q3, q4, q5⟩ := hMs 0 h
              obtain ⟨_, l1, l2⟩ := World.cells?_some q2
              have := l2 0 hpos
              rw [List.getElem?_eq_getElem (by omega)] at this
              exact absurd (World.cell?_spot this) (by simpa [Addr.add] using hsp)
          subst h0
          have : M = [] := List.length_eq_zero_iff.1 hM
          subst this
          exact .slz _ a cap hsp
    · rename_i n e hu
      simp only [Bool.and_eq_true] at hty
      obtain ⟨he, hc⟩ := hty
      have he : e ∈ L := by simpa using he
      have hc := Nat.eq_of_beq_eq_true hc
      obtain ⟨ys, m, hm, rfl, hcl, hyl, hys⟩ := DataW.trod_array hu h
      cases hm
      have key : ∀ k, k ≤ n → ∃ M : List (List D), M.length = k ∧ (∀ y ∈ M, Is P e y) ∧ M.flatten.length = k * P.cellsOf e ∧ RL (RepC w (ys.flatMap (·.2))) M.flatten ((List.range k).map fun i => (cs.drop (i * P.cellsOf e)).take (P.cellsOf e)).flatten := by
        intro k
        induction k with
        | zero => intro _; exact ⟨[], rfl, by simp, by simp, by simp; exact .nil⟩
        | succ k ihk =>
          intro hk
          obtain ⟨M, hM, hMi, hMl, hMr⟩ := ihk (by omega)
          have hq := hys k (by omega)
          have hge : ys[k]? = some (ys[k]'(by omega)) := List.getElem?_eq_getElem (by omega)
          rw [hge] at hq
          obtain ⟨y, hy, hyl', hyr⟩ := ih e _ _ he hq
          refine ⟨M ++ [y], by simp [hM], fun z hz => ?_, by simp [hMl, hyl', Nat.add_mul], ?_⟩
          · rcases List.mem_append.1 hz with h | h
            · exact hMi z h
            · simp at h; subst h; exact hy
          · rw [List.range_succ, List.map_append, List.flatten_append, List.flatten_append]
            refine hMr.append ?_
            simp only [List.map_cons, List.map_nil, List.flatten_cons, List.flatten_nil, List.append_nil]
            exact hyr.mono (RepC.mono fun p hp => List.mem_flatMap.2 ⟨_, List.getElem_mem (by omega), hp⟩)
      obtain ⟨M, hM, hMi, hMl, hMr⟩ := key n (Nat.le_refl _)
      refine ⟨M.flatten, .array hu M hM hMi, by rw [hMl, hc], ?_⟩
      rw [← cut_cells (P.cellsOf e) n cs (by rw [hcl, hc])] at hMr
      exact hMr
    · rename_i fs hu
      simp only [Bool.and_eq_true] at hty
      obtain ⟨hfs, hof⟩ := hty
      split at hof
      · rename_i tot htot
        have hof := Nat.eq_of_beq_eq_true hof
        obtain ⟨ys, m, hm, rfl, hcl, hyl, hys⟩ := DataW.trod_struct hu h
        cases hm
        have key : ∀ k, k ≤ fs.size → ∃ M : List (List D), M.length = k ∧ (∀ (i : Nat) f p, fs[i]? = some f → M[i]? = some p → Is P f.type p) ∧ M.flatten.length = ((fs.toList.take k).map fun f => P.cellsOf f.type).sum ∧
            RL (RepC w (ys.flatMap (·.2))) M.flatten ((fs.toList.take k).map fun f => (cs.drop f.offset).take (P.cellsOf f.type)).flatten := by
          intro k
          induction k with
          | zero => intro _; exact ⟨[], rfl, fun i f p _ hp => by simp at hp, by simp, by simp; exact .nil⟩
          | succ k ihk =>
            intro hk
            obtain ⟨M, hM, hMi, hMl, hMr⟩ := ihk (by omega)
            have hfk : fs[k]? = some (fs[k]'(by omega)) := Array.getElem?_eq_getElem (by omega)
            have hq := hys k _ hfk
            have hge : ys[k]? = some (ys[k]'(by omega)) := List.getElem?_eq_getElem (by omega)
            rw [hge] at hq
            have hfm : (fs[k]'(by omega)).type ∈ L := by simpa using List.all_eq_true.1 hfs _ (by simp : fs[k]'(by omega) ∈ fs.toList)
            obtain ⟨y, hy, hyl', hyr⟩ := ih _ _ _ hfm hq
            have htk : fs.toList.take (k + 1) = fs.toList.take k ++ [fs[k]'(by omega)] := by
              rw [List.take_add_one]
              simp [hfk]
            refine ⟨M ++ [y], by simp [hM], fun i f p hf hp => ?_, ?_, ?_⟩
            · rcases Nat.lt_or_ge i k with h | h
              · rw [List.getElem?_append_left (by omega)] at hp
                exact hMi i f p hf hp
              · rw [List.getElem?_append_right (by omega), hM] at hp
                have hik : i = k := by
                  have := (List.getElem?_eq_some_iff.1 hp).1
                  simp at this
                  omega
                subst hik
                simp at hp
                subst hp
                rw [hfk] at hf
                cases hf
                exact hy
            · rw [htk]
              simp [hMl, hyl']
            · rw [htk, List.map_append, List.flatten_append, List.flatten_append]
              refine hMr.append ?_
              simp only [List.map_cons, List.map_nil, List.flatten_cons, List.flatten_nil, List.append_nil]
              exact hyr.mono (RepC.mono fun p hp => List.mem_flatMap.2 ⟨_, List.getElem_mem (by omega), hp⟩)
        obtain ⟨M, hM, hMi, hMl, hMr⟩ := key fs.size (Nat.le_refl _)
        have hta : fs.toList.take fs.size = fs.toList := List.take_of_length_le (by simp)
        rw [hta] at hMl hMr
        have htl := offsB_ge _ _ _ htot
        refine ⟨M.flatten, .struct hu M hM hMi, by rw [hMl, ← hof, htl]; omega, ?_⟩
        rw [← cut_fields cs fs.toList 0 tot htot (by rw [hcl, hof]), List.drop_zero] at hMr
        exact hMr
      · cases hof
    · cases hty
end
end Go.Proofs.Ytfeepndphaboeaa.Ab
