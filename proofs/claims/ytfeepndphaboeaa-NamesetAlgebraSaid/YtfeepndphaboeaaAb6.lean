/-
  THE ABSTRACT WALK: operations that make or turn a variable of the call's own.
-/
import Derived.Test.YtfeepndphaboeaaAb5
set_option linter.unusedVariables false
set_option linter.unusedSimpArgs false
namespace Go.Proofs.Ytfeepndphaboeaa.Ab
open Go Go.RowKit

theorem addr_add (b o n : Nat) : (⟨b, o, none⟩ : Addr).add n = ⟨b, o + n, none⟩ := by unfold Addr.add; split <;> simp_all

section
variable {P : Program} {gl : Nat → Option D} {w0 : World} {St0 : Nat → Nat → Prop} {e : Env} {a : Act} {w : World} {g : Gh}

theorem alloc_old (w : World) (o : Obj) (b : Nat) (h : b < w.heap.size) : (w.alloc o).heap[b]? = w.heap[b]? := by
  show (w.heap.push o)[b]? = _
  rw [Array.getElem?_push, if_neg (Nat.ne_of_lt h)]
theorem alloc_new (w : World) (o : Obj) : (w.alloc o).heap[w.heap.size]? = some o := by
  show (w.heap.push o)[w.heap.size]? = _
  simp
theorem alloc_size (w : World) (o : Obj) : (w.alloc o).heap.size = w.heap.size + 1 := by
  show (w.heap.push o).size = _
  simp
theorem cell_alloc_old (w : World) (o : Obj) (b off : Nat) (h : b < w.heap.size) : (w.alloc o).cell? ⟨b, off, none⟩ = w.cell? ⟨b, off, none⟩ :=
  World.cell?_of_block (alloc_old w o b h)

theorem Inv.stlt (hI : Inv gl w0 St0 e a w g) {b o : Nat} (h : g.St b o) : b < w.heap.size := (hI.st1 b o h).2.2

/-- an owner's row lies in the heap -/
theorem OwnAt.lt {base : Nat} {p : Pos} {b a c : Nat} (h : OwnAt base w g p b a c) : b < w.heap.size := by
  obtain ⟨_, _, _, ⟨cur, e, h, _⟩, _⟩ := h
  exact (Array.getElem?_eq_some_iff.1 h).1

/-- a new variable -/
theorem Goes.newBox (hI : Inv gl w0 St0 e a w g) {o : Oper} {cells : Array Value} {t : TypeId} {bx : Box} {id : Nat} {k : Slot → List Box → Prop}
    (hid : e.boxes[id]? = some .none)
    (hrun : (execOp a.eval o).run P w = .ok (.value (.pointer (some ⟨w.heap.size, 0, none⟩))) (w.alloc (.cells cells t)))
    (hone : ∀ y ∈ cells, y.oneCell' = true)
    (rep : ∀ (w' : World) (g' : Gh) (O : Nat → Nat → Nat → Nat → Prop), Ext w0.heap.size w g w' g' (fun _ => False) → (match bx with
      | .none => False
      | .cells cs => cs.length = cells.size ∧ ∀ (j : Nat) x y, cs[j]? = some x → cells[j]? = some y → RepV w' g'.St w0.heap.size (O j) x y
      | .one s => cells.size = 1 ∧ ∀ y, cells[0]? = some y → RepS w0.heap.size w' g' (fun _ => O 0) s y))
    (hk : k (.p id 0) (e.boxes.set id bx)) : Goes P gl w0 St0 e.slots o a w k := by
  intro next Q hn
  unfold Oper.wp
  rw [hrun]
  have hle : w0.heap.size ≤ w.heap.size := hI.below.size
  have hidl : id < e.boxes.length := (List.getElem?_eq_some_iff.1 hid).1
  have hidn : ∀ blk, g.bx[id]? ≠ some (some blk) := fun blk h => by
    obtain ⟨_, _, _, _, _, hr⟩ := hI.boxes id .none blk hid h
    exact hr
  have hmem : ∀ b, some b ∈ g.bx.set id (some w.heap.size) → some b ∈ g.bx ∨ b = w.heap.size := fun b h => by
    rcases List.mem_or_eq_of_mem_set h with h | h
    · exact .inl h
    · exact .inr (by simpa using h)
  have hX : Ext w0.heap.size w g (w.alloc (.cells cells t)) { g with bx := g.bx.set id (some w.heap.size) } (fun _ => False) := by
    refine ⟨fun b o h => ⟨h, cell_alloc_old w _ b o (hI.stlt h)⟩, fun b o h => cell_alloc_old w _ b o (by omega), fun i blk h => ?_, fun p b a c _ ho => ?_⟩
    · simp only
      rw [List.getElem?_set_ne (fun hh => hidn blk (by rw [hh]; exact h))]
      exact h
    · have hlt := ho.lt
      obtain ⟨h1, h2, h3, ⟨cur, ty, h4, h4'⟩, h5⟩ := ho
      refine ⟨h1, h2, ?_, ⟨cur, ty, (alloc_old w _ b hlt).trans h4, h4'⟩, h5⟩
      intro hm
      rcases hmem b hm with h | h
      · exact h3 h
      · omega
  refine hn (.p id 0) _ _ _ { g with bx := g.bx.set id (some w.heap.size) } (hI.step (lost := fun p => ∃ d j, o.dst = some d ∧ p = .s d j)
    ⟨hX.st, hX.bs, hX.bx, fun p b a c _ ho => hX.own p b a c (fun h => h) ho⟩ ((Below.refl _ _).alloc hle _) rfl
    (fun i x hx hd => ⟨x, hx, .inl ⟨rfl, fun j => ?_⟩⟩) ?_ (by simp [hI.bxlen]) ?_ ?_ ?_ ?_) hk
  · rintro ⟨d, j', h1, h2⟩; cases h2; exact hd h1
  · intro d _
    refine .p _ _ _ _ ?_
    simp only
    rw [List.getElem?_set_self (by rw [hI.bxlen]; exact hidl)]
  · intro b bx' blk h1 h2
    simp only at h2
    by_cases hb : id = b
    · subst hb
      rw [List.getElem?_set_self hidl] at h1
      rw [List.getElem?_set_self (by rw [hI.bxlen]; exact hidl)] at h2
      simp only [Option.some.injEq] at h1 h2
      subst h1 h2
      refine ⟨hle, cells, t, alloc_new w _, hone, ?_⟩
      have := rep _ _ (boxO w0.heap.size (w.alloc (.cells cells t)) { g with bx := g.bx.set id (some w.heap.size) } id) hX
      cases bx with
      | none => exact this
      | cells cs => exact this
      | one s => exact this
    · rw [List.getElem?_set_ne hb] at h1 h2
      have hblt := (hI.bxlt blk (List.mem_of_getElem? h2)).2
      exact hX.box (fun _ h => h) (alloc_old w _ blk hblt) (hI.boxes b bx' blk h1 h2)
  · intro i j blk h1 h2
    simp only at h1 h2
    rw [List.getElem?_set] at h1 h2
    split at h1 <;> split at h2
    · omega
    · rename_i hi hj
      split at h1
      · simp only [Option.some.injEq] at h1
        subst h1
        have := (hI.bxlt _ (List.mem_of_getElem? h2)).2
        omega
      · cases h1
    · rename_i hi hj
      split at h2
      · simp only [Option.some.injEq] at h2
        subst h2
        have := (hI.bxlt _ (List.mem_of_getElem? h1)).2
        omega
      · cases h2
    · exact hI.nodup i j blk h1 h2
  · intro b hb
    have hs : (w.alloc (.cells cells t)).heap.size = w.heap.size + 1 := alloc_size w _
    rw [hs]
    rcases hmem b hb with hb | rfl
    · have := hI.bxlt b hb; omega
    · omega
  · intro b o h
    have hs : (w.alloc (.cells cells t)).heap.size = w.heap.size + 1 := alloc_size w _
    have h1 := hI.st1 b o h
    refine ⟨h1.1, fun hm => ?_, by omega⟩
    rcases hmem b hm with h | h
    · exact h1.2.1 h
    · omega

/-- a variable turned -/
theorem Inv.setBox (hI : Inv gl w0 St0 e a w g) {b blk : Nat} {bx' : Box} {w' : World} {cells : Array Value} {t : TypeId} {dst : Option Nat} {s : Slot} {v : Value} {slots : List Slot}
    (lostS lostB : Nat → Prop) {g' : Gh} (hgs : g'.St = g.St) (hgb : g'.bx = g.bx)
    (hgo : ∀ p blk', (∀ i j, p = .s i j → ¬ lostS i) → (∀ j, p = .b b j → ¬ lostB j) → (∀ d j, dst = some d → p ≠ .s d j) → g.ow blk' = some p → g'.ow blk' = some p)
    (hb : g.bx[b]? = some (some blk))
    (hone : ∀ y ∈ cells, y.oneCell' = true)
    (hblk : w'.heap[blk]? = some (.cells cells t (0, 0))) (hoth : ∀ k, k ≠ blk → w'.heap[k]? = w.heap[k]?) (hsz : w'.heap.size = w.heap.size)
    (hos : w'.os = w.os ∧ w'.tape = w.tape ∧ w'.output = w.output)
    (hlen : slots.length = e.slots.length)
    (hs : ∀ (i : Nat) x, slots[i]? = some x → dst ≠ some i → ∃ y, e.slots[i]? = some y ∧ ((x = y ∧ ¬ lostS i) ∨ x = y.demote))
    (rep : Ext w0.heap.size w g w' g' (fun p => (∃ i j, p = .s i j ∧ lostS i) ∨ (∃ j, p = .b b j ∧ lostB j) ∨ (∃ d j, dst = some d ∧ p = .s d j)) → (match bx' with
      | .none => False
      | .cells cs => cs.length = cells.size ∧ ∀ (j : Nat) x y, cs[j]? = some x → cells[j]? = some y → RepV w' g'.St w0.heap.size (boxO w0.heap.size w' g' b j) x y
      | .one s => cells.size = 1 ∧ ∀ y, cells[0]? = some y → RepS w0.heap.size w' g' (fun _ => boxO w0.heap.size w' g' b 0) s y))
    (hdst : Ext w0.heap.size w g w' g' (fun p => (∃ i j, p = .s i j ∧ lostS i) ∨ (∃ j, p = .b b j ∧ lostB j) ∨ (∃ d j, dst = some d ∧ p = .s d j)) →
      ∀ d, dst = some d → RepS w0.heap.size w' g' (slotO w0.heap.size w' g' d) s v) :
    Inv gl w0 St0 ⟨putSlot slots dst s, e.boxes.set b bx'⟩ (a.put dst v) w' g' := by
  have hbm : some blk ∈ g.bx := List.mem_of_getElem? hb
  have hbl := hI.bxlt blk hbm
  have hX : Ext w0.heap.size w g w' g' (fun p => (∃ i j, p = .s i j ∧ lostS i) ∨ (∃ j, p = .b b j ∧ lostB j) ∨ (∃ d j, dst = some d ∧ p = .s d j)) := by
    refine ⟨fun b' o h => ⟨by rw [hgs]; exact h, World.cell?_of_block (hoth b' ?_)⟩, fun b' o h => World.cell?_of_block (hoth b' (by omega)), fun i x h => by rw [hgb]; exact h, ?_⟩
    · rintro rfl; exact (hI.st1 b' o h).2.1 hbm
    · rintro p b' a' c' hl ⟨h1, h2, h3, ⟨cur, ty, h4, h4'⟩, h5⟩
      refine ⟨hgo p b' (fun i j h hl' => hl (.inl ⟨i, j, h, hl'⟩)) (fun j h hl' => hl (.inr (.inl ⟨j, h, hl'⟩))) (fun d j h1 h2 => hl (.inr (.inr ⟨d, j, h1, h2⟩))) h1, h2, by rw [hgb]; exact h3,
        ⟨cur, ty, (hoth b' (fun h => h3 (h ▸ hbm))).trans h4, h4'⟩, fun o ho => by rw [hgs]; exact h5 o ho⟩
  have hbelow : Below w0.heap.size w w' := ⟨hos.1, hos.2.1, hos.2.2, by omega, fun k hk => hoth k (by omega)⟩
  refine hI.step hX hbelow hlen (fun i x hx hd => ?_) (hdst hX) (by rw [hgb]; simp [hI.bxlen]) ?_ (by rw [hgb]; exact hI.nodup) ?_ ?_
  · obtain ⟨y, hy, ⟨rfl, hl⟩ | h⟩ := hs i x hx hd
    · refine ⟨x, hy, .inl ⟨rfl, fun j => ?_⟩⟩
      rintro (⟨i', j', h, hl'⟩ | ⟨j', h, _⟩ | ⟨d, j', h1, h2⟩)
      · cases h; exact hl hl'
      · cases h
      · cases h2; exact hd h1
    · exact ⟨y, hy, .inr h⟩
  · intro b' bx blk' h1 h2
    rw [hgb] at h2
    rw [List.getElem?_set] at h1
    by_cases hbb : b = b'
    · subst hbb
      rw [hb] at h2; cases h2
      simp only [↓reduceIte] at h1
      split at h1
      · cases h1
        refine ⟨hbl.1, cells, t, hblk, hone, ?_⟩
        have := rep hX
        cases bx' with
        | none => exact this
        | cells cs => exact this
        | one s => exact this
      · cases h1
    · simp only [hbb, ↓reduceIte] at h1
      have hne : blk' ≠ blk := by
        rintro rfl
        exact hbb (hI.nodup _ _ _ hb h2)
      refine hX.box (fun j => ?_) (hoth blk' hne) (hI.boxes b' bx blk' h1 h2)
      rintro (⟨i', j', h, hl'⟩ | ⟨j', h, _⟩ | ⟨d, j', h1, h2⟩)
      · cases h
      · cases h; exact hbb rfl
      · cases h2
  · intro x hx; rw [hgb] at hx; rw [hsz]; exact hI.bxlt x hx
  · intro b' o h; rw [hgs] at h; rw [hgb, hsz]; exact hI.st1 b' o h

end
end Go.Proofs.Ytfeepndphaboeaa.Ab
