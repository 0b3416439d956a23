/-
  THE ABSTRACT WALK: appends.
-/
import Derived.Test.YtfeepndphaboeaaAb12
set_option linter.unusedVariables false
set_option linter.unusedSimpArgs false
namespace Go.Proofs.Ytfeepndphaboeaa.Ab
open Go Go.RowKit

section
variable {P : Program} {gl : Nat → Option D} {w0 : World} {St0 : Nat → Nat → Prop} {e : Env} {a : Act} {w : World} {g : Gh}

/-- an operation that hands owned slices on: the slots behind it, and which lost what they owned -/
structure Hands (e : Env) (slots : List Slot) (lost : Nat → Prop) (dst : Option Nat) : Prop where
  len : slots.length = e.slots.length
  at_ : ∀ (i : Nat) x, slots[i]? = some x → dst ≠ some i → ∃ y, e.slots[i]? = some y ∧ ((x = y ∧ ¬ lost i) ∨ x = y.demote)

theorem Hands.same (e : Env) (dst : Option Nat) : Hands e e.slots (fun _ => False) dst := ⟨rfl, fun _ x h _ => ⟨x, h, .inl ⟨rfl, fun h => h⟩⟩⟩

/-- what the positions lose -/
def LostAt (lost : Nat → Prop) (dst : Option Nat) (p : Pos) : Prop := ∃ i j, p = .s i j ∧ (lost i ∨ dst = some i)

/-- the step of an operation that hands on: no variable turns -/
theorem Inv.hand (hI : Inv gl w0 St0 e a w g) {w' : World} {g' : Gh} {slots : List Slot} {lost : Nat → Prop} {dst : Option Nat} (hH : Hands e slots lost dst)
    (hX : Ext w0.heap.size w g w' g' (LostAt lost dst)) {s : Slot} {v : Value} (hbelow : Below w0.heap.size w w')
    (hdst : ∀ d, dst = some d → RepS w0.heap.size w' g' (slotO w0.heap.size w' g' d) s v) (hbx : g'.bx = g.bx) (hblk : ∀ b, some b ∈ g.bx → w'.heap[b]? = w.heap[b]?)
    (hst1 : ∀ b o, g'.St b o → (St0 b o ∨ w0.heap.size ≤ b) ∧ some b ∉ g.bx ∧ b < w'.heap.size) :
    Inv gl w0 St0 ⟨putSlot slots dst s, e.boxes⟩ (a.put dst v) w' g' := by
  refine hI.step hX hbelow hH.len (fun i x hx hd => ?_) hdst (by rw [hbx]; exact hI.bxlen) ?_ (by rw [hbx]; exact hI.nodup) ?_ (fun b o h => by rw [hbx]; exact hst1 b o h)
  · obtain ⟨y, hy, ⟨rfl, hl⟩ | h⟩ := hH.at_ i x hx hd
    · refine ⟨x, hy, .inl ⟨rfl, fun j => ?_⟩⟩
      rintro ⟨i', j', h, hl' | hl'⟩
      · cases h; exact hl hl'
      · cases h; exact hd hl'
    · exact ⟨y, hy, .inr h⟩
  · intro b bx blk h1 h2
    rw [hbx] at h2
    refine hX.box (fun j => ?_) (hblk blk (List.mem_of_getElem? h2)) (hI.boxes b bx blk h1 h2)
    rintro ⟨i, j', h, _⟩
    cases h
  · intro b hb
    rw [hbx] at hb
    have := hbelow.size
    have := hI.bxlt b hb
    omega

/-- nothing turns but who owns -/
def Gh.mv (g : Gh) (b : Nat) (p : Pos) : Gh := { g with ow := fun b' => if b' = b then some p else g.ow b' }

/-- ext: a row's owner is another -/
theorem Ext.mv {base : Nat} {i : Nat} {b a0 c0 : Nat} (ho : OwnAt base w g (.s i 0) b a0 c0) {lost : Nat → Prop} (hl : lost i) (dst : Option Nat) (q : Pos) : Ext base w g w (g.mv b q) (LostAt lost dst) := by
  refine ⟨fun _ _ h => ⟨h, rfl⟩, fun _ _ _ => rfl, fun _ _ h => h, fun p b' a' c' hp ho' => ?_⟩
  obtain ⟨h1, h2, h3, h4, h5⟩ := ho'
  refine ⟨?_, h2, h3, h4, h5⟩
  simp only [Gh.mv]
  split
  · rename_i hb
    subst hb
    exfalso
    rw [ho.1] at h1
    cases h1
    exact hp ⟨i, 0, rfl, .inl hl⟩
  · exact h1

theorem append_same_run {t ty e' : TypeId} {i : TypeInfo} (ht : P.underlying t = some (.slice e')) (hi : P.info? e' = some i) (base : Option Addr) (n cap : Nat) (hn : n ≤ cap) {y : Value}
    (hy : y = .slice none 0 0 ∨ ∃ ad c, y = .slice (some ad) 0 c) : (Builtin.append_ #[t, t] ty #[.slice base n cap, y]).run P w = .ok (.slice base n cap) w := by
  rcases hy with rfl | ⟨ad, c, rfl⟩
  · cases base <;> simp [Builtin.append_, run_underlying ht, sizeOf, typeInfo, hi, Builtin.lenOf, hn, Builtin.firstCells, storeCells]
  · cases base <;> simp [Builtin.append_, run_underlying ht, sizeOf, typeInfo, hi, Builtin.lenOf, hn, Builtin.firstCells, loadCells, loadCellsFrom, storeCells]

theorem append_room_run {t ty e' te : TypeId} {i : TypeInfo} (ht : P.underlying t = some (.slice e')) (hi : P.info? e' = some i) {gg n cap : Nat} {cur : Array Value} (hg : w.heap[gg]? = some (.cells cur te (0, 0)))
    {ad : Addr} {m c : Nat} (news : List Value) (hl : news.length = m * i.size) (hnews : ∀ j u, news[j]? = some u → w.cell? (ad.add j) = some u) (h1 : ∀ u ∈ news, u.oneCell' = true)
    (hroom : n + m ≤ cap) (hfit : n * i.size + news.length ≤ cur.size) :
    (Builtin.append_ #[t, t] ty #[.slice (some ⟨gg, 0, none⟩) n cap, .slice (some ad) m c]).run P w =
      .ok (.slice (some ⟨gg, 0, none⟩) (n + m) cap) (w.setRow gg (cur.toList.take (n * i.size) ++ news ++ cur.toList.drop (n * i.size + news.length)).toArray) := by
  have hf := run_firstCells_some (P := P) w i.size m ad m c news hl hnews
  have hst := run_storeCells_at P gg (n * i.size) te news 0 cur w hg (by simpa using hfit) h1
  simp only [Nat.add_zero] at hst
  simp [Builtin.append_, run_underlying ht, sizeOf, typeInfo, hi, Builtin.lenOf, hroom, hf, Addr.add_lit, hst]

/-- the cells of a slice, as a list -/
theorem cells_list {sz n : Nat} {vs : Nat → Value} {b off : Nat} {St : Nat → Nat → Prop} (hcell : ∀ (o : Nat), o < n * sz → w.cell? ⟨b, off + o, none⟩ = some (vs o) ∧ St b (off + o)) :
    ∃ l : List Value, l.length = n * sz ∧ (∀ j u, l[j]? = some u → w.cell? ((⟨b, off, none⟩ : Addr).add j) = some u) ∧ ∀ j, j < n * sz → l[j]? = some (vs j) := by
  refine ⟨(List.range (n * sz)).map vs, by simp, fun j u hu => ?_, fun j hj => by simp [hj]⟩
  have hj : j < n * sz := by have := (List.getElem?_eq_some_iff.1 hu).1; simpa using this
  simp [hj] at hu
  subst hu
  rw [addr_add]
  exact (hcell j hj).1


theorem flat_get {sz : Nat} {L M : List D} (hL : ∀ x ∈ L, x.cells.length = sz) {i : Nat} {x : D} (hx : (L ++ M)[i]? = some x) {j : Nat} {c : D} (hc : x.cells[j]? = some c) {St : Nat → Nat → Prop}
    {f h : Nat → Value} (hf : ∀ (i : Nat) x (j : Nat) c, L[i]? = some x → x.cells[j]? = some c → RepD w St c (f (i * sz + j))) (hh : ∀ (i : Nat) x (j : Nat) c, M[i]? = some x → x.cells[j]? = some c → RepD w St c (h (i * sz + j)))
    (hM : ∀ x ∈ M, x.cells.length = sz) : RepD w St c (if i * sz + j < L.length * sz then f (i * sz + j) else h (i * sz + j - L.length * sz)) := by
  rw [List.getElem?_append] at hx
  have hj := (List.getElem?_eq_some_iff.1 hc).1
  split at hx
  · rename_i hi
    rw [hL x (List.mem_of_getElem? hx)] at hj
    have : (i + 1) * sz ≤ L.length * sz := Nat.mul_le_mul_right _ hi
    rw [Nat.succ_mul] at this
    rw [if_pos (by omega)]
    exact hf i x j c hx hc
  · rename_i hi
    rw [hM x (List.mem_of_getElem? hx)] at hj
    have h1 : L.length * sz ≤ i * sz := Nat.mul_le_mul_right _ (by omega)
    rw [if_neg (by omega)]
    have := hh (i - L.length) x j c hx hc
    have e1 : i * sz + j - L.length * sz = (i - L.length) * sz + j := by rw [Nat.sub_mul]; omega
    rw [e1]
    exact this

/-- an append that grows: the new row is this slot's own -/
theorem Inv.grow (hI : Inv gl w0 St0 e a w g) {slots : List Slot} {lost : Nat → Prop} {dst : Option Nat} (hH : Hands e slots lost dst) {sz : Nat} {L M : List D} {cap : Nat} {te : TypeId} {olds news rest : List Value}
    (hL : ∀ x ∈ L, x.cells.length = sz) (hM : ∀ x ∈ M, x.cells.length = sz) (hLf : ∀ x ∈ L, ∀ c ∈ x.cells, c.one = true) (hMf : ∀ x ∈ M, ∀ c ∈ x.cells, c.one = true)
    (ho : olds.length = L.length * sz) (hn : news.length = M.length * sz) (hr : rest.length = (cap - (L.length + M.length)) * sz) (hcap : L.length + M.length ≤ cap) (hcm : cap ≤ maxLen)
    {f h : Nat → Value} (hof : ∀ j, j < L.length * sz → olds[j]? = some (f j)) (hnf : ∀ j, j < M.length * sz → news[j]? = some (h j))
    (hf : ∀ (i : Nat) x (j : Nat) c, L[i]? = some x → x.cells[j]? = some c → RepD w g.St c (f (i * sz + j))) (hh : ∀ (i : Nat) x (j : Nat) c, M[i]? = some x → x.cells[j]? = some c → RepD w g.St c (h (i * sz + j))) :
    ∃ g', Inv gl w0 St0 ⟨putSlot slots dst (.v (.own sz (L ++ M))), e.boxes⟩ (a.put dst (.slice (some ⟨w.heap.size, 0, none⟩) (L.length + M.length) cap))
      (w.drew.alloc (.cells (olds ++ news ++ rest).toArray te)) g' := by
  have hle : w0.heap.size ≤ w.heap.size := hI.below.size
  have hheap : w.drew.heap = w.heap := rfl
  have hsz : (w.drew.alloc (.cells (olds ++ news ++ rest).toArray te)).heap.size = w.heap.size + 1 := alloc_size w.drew _
  have hold := fun b (hb : b < w.heap.size) => alloc_old w.drew (.cells (olds ++ news ++ rest).toArray te) b hb
  have hnew := alloc_new w.drew (.cells (olds ++ news ++ rest).toArray te)
  have hcold : ∀ b o, b < w.heap.size → (w.drew.alloc (.cells (olds ++ news ++ rest).toArray te)).cell? ⟨b, o, none⟩ = w.cell? ⟨b, o, none⟩ := fun b o hb => World.cell?_of_block (hold b hb)
  refine ⟨{ St := fun b o => g.St b o ∨ (b = w.heap.size ∧ o < (L.length + M.length) * sz), bx := g.bx, ow := fun b => if b = w.heap.size then (dst.map fun d => .s d 0) else g.ow b }, ?_⟩
  have hX : Ext w0.heap.size w g (w.drew.alloc (.cells (olds ++ news ++ rest).toArray te))
      { St := fun b o => g.St b o ∨ (b = w.heap.size ∧ o < (L.length + M.length) * sz), bx := g.bx, ow := fun b => if b = w.heap.size then (dst.map fun d => .s d 0) else g.ow b } (LostAt lost dst) := by
    refine ⟨fun b o h => ⟨.inl h, hcold b o (hI.stlt h)⟩, fun b o h => hcold b o (by omega), fun _ _ h => h, fun p b a' c' _ ho' => ?_⟩
    have hlt := ho'.lt
    obtain ⟨h1, h2, h3, ⟨cur, ty, h4, h4'⟩, h5⟩ := ho'
    refine ⟨?_, h2, h3, ⟨cur, ty, (hold b hlt).trans h4, h4'⟩, fun o ho => ?_⟩
    · simp only
      rw [if_neg (by omega)]; exact h1
    · rintro (h | h)
      · exact h5 o ho h
      · omega
  refine hI.hand hH hX ⟨rfl, rfl, rfl, by omega, fun k hk => hold k (by omega)⟩ (fun d hd => ?_) rfl (fun b hb => hold b (hI.bxlt b hb).2) (fun b o h => ?_)
  · have hlen : (L ++ M).length = L.length + M.length := List.length_append
    have hcs : (olds ++ news ++ rest).toArray.size = cap * sz := by
      simp only [List.size_toArray, List.length_append, ho, hn, hr]
      rw [← Nat.add_mul, ← Nat.add_mul]
      congr 1
      omega
    have hrep := RepD.sl (w := w.drew.alloc (.cells (olds ++ news ++ rest).toArray te)) (St := fun b o => g.St b o ∨ (b = w.heap.size ∧ o < (L.length + M.length) * sz)) sz (L ++ M) w.heap.size 0 cap
      (fun o => if o < L.length * sz then f o else h (o - L.length * sz)) (by omega) (by omega) (fun x hx => (List.mem_append.1 hx).elim (hL x) (hM x)) (fun x hx => (List.mem_append.1 hx).elim (hLf x) (hMf x))
      (fun o ho' => by
        rw [hlen] at ho'
        refine ⟨?_, .inr ⟨rfl, by omega⟩⟩
        rw [cell_of_row _ w.heap.size (0 + o) _ te (0, 0) hnew]
        simp only [Nat.zero_add, List.getElem?_toArray]
        rw [List.append_assoc, List.getElem?_append]
        split
        · rename_i h1
          rw [ho] at h1
          rw [if_pos h1]; exact hof o h1
        · rename_i h1
          rw [ho] at h1 ⊢
          rw [if_neg h1]
          have hlt : o - L.length * sz < M.length * sz := by rw [Nat.add_mul] at ho'; omega
          rw [List.getElem?_append_left (by rw [hn]; exact hlt)]
          exact hnf _ hlt)
      (fun i x j c hx hc => (flat_get hL hx hc hf hh hM).mono fun b o h => ⟨.inl h, hcold b o (hI.stlt h)⟩)
    rw [hlen] at hrep
    refine .v _ _ _ ?_
    have hown := RepV.own (w := w.drew.alloc (.cells (olds ++ news ++ rest).toArray te)) (St := fun b o => g.St b o ∨ (b = w.heap.size ∧ o < (L.length + M.length) * sz)) (base := w0.heap.size)
      (slotO w0.heap.size (w.drew.alloc (.cells (olds ++ news ++ rest).toArray te)) { St := fun b o => g.St b o ∨ (b = w.heap.size ∧ o < (L.length + M.length) * sz), bx := g.bx, ow := fun b => if b = w.heap.size then (dst.map fun d => .s d 0) else g.ow b } d 0)
      sz (L ++ M) w.heap.size cap (by rw [hlen]; exact hrep) hcm ?_
    · rw [hlen] at hown; exact hown
    · refine ⟨by simp [hd], hle, fun hb => by have := (hI.bxlt _ hb).2; omega, ⟨_, te, hnew, hcs⟩, fun o ho => ?_⟩
      rw [hlen] at ho
      rintro (h | h)
      · have := hI.stlt h; omega
      · omega
  · rcases h with h | h
    · have := hI.st1 b o h
      exact ⟨this.1, this.2.1, by omega⟩
    · obtain ⟨rfl, _⟩ := h
      exact ⟨.inr hle, fun hb => by have := (hI.bxlt _ hb).2; omega, by omega⟩

/-- an append in place: the row's owner hands it on -/
theorem Inv.room (hI : Inv gl w0 St0 e a w g) {slots : List Slot} {lost : Nat → Prop} {dst : Option Nat} (hH : Hands e slots lost dst) {sz : Nat} {L M : List D} {cap gg i0 : Nat} {news : List Value}
    (hOw : OwnAt w0.heap.size w g (.s i0 0) gg (L.length * sz) (cap * sz)) (hl : lost i0)
    (hRep : RepD w g.St (.sl .ro sz L) (.slice (some ⟨gg, 0, none⟩) L.length cap)) {cur : Array Value} {te : TypeId} (hcur : w.heap[gg]? = some (.cells cur te (0, 0))) (hcs : cur.size = cap * sz)
    (hM : ∀ x ∈ M, x.cells.length = sz) (hMf : ∀ x ∈ M, ∀ c ∈ x.cells, c.one = true)
    (hn : news.length = M.length * sz) (hcap : L.length + M.length ≤ cap) (hcm : cap ≤ maxLen)
    {h : Nat → Value} (hnf : ∀ j, j < M.length * sz → news[j]? = some (h j)) (hh : ∀ (i : Nat) x (j : Nat) c, M[i]? = some x → x.cells[j]? = some c → RepD w g.St c (h (i * sz + j))) :
    ∃ g', Inv gl w0 St0 ⟨putSlot slots dst (.v (.own sz (L ++ M))), e.boxes⟩ (a.put dst (.slice (some ⟨gg, 0, none⟩) (L.length + M.length) cap))
      (w.setRow gg (cur.toList.take (L.length * sz) ++ news ++ cur.toList.drop (L.length * sz + news.length)).toArray) g' := by
  obtain ⟨o1, o2, o3, _, o5⟩ := hOw
  have hgl : gg < w.heap.size := (Array.getElem?_eq_some_iff.1 hcur).1
  have hfit : L.length * sz + M.length * sz ≤ cap * sz := by rw [← Nat.add_mul]; exact Nat.mul_le_mul_right _ hcap
  let w' := w.setRow gg (cur.toList.take (L.length * sz) ++ news ++ cur.toList.drop (L.length * sz + news.length)).toArray
  let g' : Gh := { St := fun b o => g.St b o ∨ (b = gg ∧ o < (L.length + M.length) * sz), bx := g.bx, ow := fun b => if b = gg then (dst.map fun d => .s d 0) else g.ow b }
  have hoth : ∀ k, k ≠ gg → w'.heap[k]? = w.heap[k]? := fun k hk => setRow_other w gg k _ hk
  have hnew : w'.heap[gg]? = some (.cells (cur.toList.take (L.length * sz) ++ news ++ cur.toList.drop (L.length * sz + news.length)).toArray te (0, 0)) := setRow_heap w gg cur _ te (0, 0) hcur
  have hget : ∀ o, w'.cell? ⟨gg, o, none⟩ = if o < L.length * sz then cur[o]? else if o < L.length * sz + M.length * sz then news[o - L.length * sz]? else cur[o]? := by
    intro o
    rw [cell_of_row w' gg o _ te (0, 0) hnew]
    simp only [List.getElem?_toArray]
    rw [splice_get cur.toList news (L.length * sz) (by simp [hcs, hn]; omega)]
    simp only [hn, Array.getElem?_toList]
  have hcold : ∀ b o, (b = gg → o < L.length * sz) → w'.cell? ⟨b, o, none⟩ = w.cell? ⟨b, o, none⟩ := by
    intro b o hb
    by_cases hbg : b = gg
    · subst hbg
      rw [hget, if_pos (hb rfl), cell_of_row w b o cur te (0, 0) hcur]
    · exact World.cell?_of_block (hoth b hbg)
  have hX : Ext w0.heap.size w g w' g' (LostAt lost dst) := by
    refine ⟨fun b o h => ⟨.inl h, hcold b o (fun hb => ?_)⟩, fun b o hb => hcold b o (fun h => by omega), fun _ _ h => h, fun p b a' c' hp ho' => ?_⟩
    · subst hb
      rcases Nat.lt_or_ge o (L.length * sz) with h1 | h1
      · exact h1
      · exact absurd h (o5 o h1)
    · obtain ⟨h1, h2, h3, ⟨cur', ty, h4, h4'⟩, h5⟩ := ho'
      have hbg : b ≠ gg := by
        rintro rfl
        rw [o1] at h1
        cases h1
        exact hp ⟨i0, 0, rfl, .inl hl⟩
      refine ⟨?_, h2, h3, ⟨cur', ty, (hoth b hbg).trans h4, h4'⟩, fun o ho => ?_⟩
      · show (if b = gg then (dst.map fun d => Pos.s d 0) else g.ow b) = some p
        rw [if_neg hbg]; exact h1
      · rintro (h | h)
        · exact h5 o ho h
        · exact hbg h.1
  refine ⟨g', hI.hand hH hX ⟨rfl, rfl, rfl, by simp [w', World.setRow], fun k hk => hoth k (by omega)⟩ (fun d hd => ?_) rfl (fun b hb => hoth b (fun h => o3 (h ▸ hb))) (fun b o h => ?_)⟩
  · have hlen : (L ++ M).length = L.length + M.length := List.length_append
    cases hRep with
    | slz _ _ _ ha => exact absurd rfl ha
    | sl _ _ _ _ _ vs hcap' hm hL hLf hcell hc =>
      have hrep := RepD.sl (w := w') (St := g'.St) sz (L ++ M) gg 0 cap
        (fun o => if o < L.length * sz then vs o else h (o - L.length * sz)) (by omega) (by omega) (fun x hx => (List.mem_append.1 hx).elim (hL x) (hM x)) (fun x hx => (List.mem_append.1 hx).elim (hLf x) (hMf x))
        (fun o ho' => by
          rw [hlen, Nat.add_mul] at ho'
          refine ⟨?_, .inr ⟨rfl, by rw [Nat.add_mul]; omega⟩⟩
          rw [Nat.zero_add, hget]
          split
          · rename_i h1
            have := (hcell o h1).1
            rw [Nat.zero_add, cell_of_row w gg o cur te (0, 0) hcur] at this
            exact this
          · rename_i h1
            exact hnf _ (by omega))
        (fun i x j c hx hc' => (flat_get hL hx hc' hc hh hM).mono hX.st)
      refine .v _ _ _ ?_
      have hown := RepV.own (w := w') (St := g'.St) (base := w0.heap.size) (slotO w0.heap.size w' g' d 0) sz (L ++ M) gg cap (by rw [hlen] at hrep ⊢; exact hrep) hcm ?_
      · rw [hlen] at hown; exact hown
      · refine ⟨by simp [g', hd], o2, o3, ⟨_, te, hnew, ?_⟩, fun o ho => ?_⟩
        · have hcl : cur.toList.length = cap * sz := by simpa using hcs
          rw [List.size_toArray, List.length_append, List.length_append, List.length_take, List.length_drop, hn, hcl]; omega
        · rw [hlen] at ho
          have : L.length * sz ≤ (L.length + M.length) * sz := Nat.mul_le_mul_right _ (by omega)
          rintro (h | h)
          · exact o5 o (by omega) h
          · omega
  · have hs : w'.heap.size = w.heap.size := by simp [w', World.setRow]
    rcases h with h | h
    · have := hI.st1 b o h
      exact ⟨this.1, this.2.1, by omega⟩
    · obtain ⟨rfl, _⟩ := h
      exact ⟨.inr o2, o3, by omega⟩


theorem zeroVal_of {t : TypeId} {z : List D} (h : zeroCells? P t = some z) : ∃ i zv, P.info? t = some i ∧ i.zero = some zv ∧ zv.cells.size = z.length := by
  unfold zeroCells? at h
  split at h
  · rename_i i hi
    split at h
    · rename_i zv hz
      exact ⟨i, zv, hi, hz, by have := (ofScals_rep (w := default) (St := fun _ _ => False) h).1; simpa using this.symm⟩
    · cases h
  · cases h

theorem zeroCells_list (z : Array Value) (n : Nat) : ∃ l : List Value, Builtin.zeroCells z n = l.toArray ∧ l.length = n * z.size := by
  refine ⟨(Builtin.zeroCells z n).toList, by simp, by simp [size_zeroCells]⟩

/-- THE APPEND -/
theorem append_step (hI : Inv gl w0 St0 e a w g) {slots : List Slot} {lost : Nat → Prop} {dst : Option Nat} (hH : Hands e slots lost dst) {t ty e' : TypeId} {i : TypeInfo} {zv : Value} {sz : Nat}
    (ht : P.underlying t = some (.slice e')) (hi : P.info? e' = some i) (hz : i.zero = some zv) (hsz : i.size = sz) (hzs : zv.cells.size = sz) (hsz0 : 0 < sz)
    {sx sy : SV} {vx vy : Value} {O Oy : Nat → Nat → Nat → Prop} (rx : RepV w g.St w0.heap.size O sx vx) (ry : RepV w g.St w0.heap.size Oy sy vy)
    (hO : ∀ b a' c, O b a' c → ∃ i0, OwnAt w0.heap.size w g (.s i0 0) b a' c ∧ lost i0) {r : SV} {n : Nat} (h : appV sz sx sy = some (r, n)) (hb : n * i.bytes ≤ 140737488355328) (hby : 0 < i.bytes) :
    ∃ v w' g', (Builtin.append_ #[t, t] ty #[vx, vy]).run P w = .ok v w' ∧ Inv gl w0 St0 ⟨putSlot slots dst (.v r), e.boxes⟩ (a.put dst v) w' g' := by
  subst hsz
  unfold appV at h
  split at h
  · cases h
  · rename_i M hM
    have hy := elems_cells hM ry
    have hylen : M = [] → vy = .slice none 0 0 ∨ ∃ ad c, vy = .slice (some ad) 0 c := by
      intro hm
      subst hm
      rcases hy with ⟨h, _⟩ | ⟨b, off, cap, vs, h, _⟩
      · exact h
      · exact .inr ⟨_, _, h⟩
    -- nothing appended
    have same : ∀ (base : Option Addr) (m cap : Nat), M = [] → m ≤ cap → vx = .slice base m cap → ∀ (r : SV) (g' : Gh), Ext w0.heap.size w g w g' (LostAt lost dst) → g'.bx = g.bx → g'.St = g.St →
        (∀ d, dst = some d → RepV w g'.St w0.heap.size (slotO w0.heap.size w g' d 0) r vx) →
        ∃ v w' g', (Builtin.append_ #[t, t] ty #[vx, vy]).run P w = .ok v w' ∧ Inv gl w0 St0 ⟨putSlot slots dst (.v r), e.boxes⟩ (a.put dst v) w' g' := by
      intro base m cap hm hle hv r g' hX hbx hst hr
      refine ⟨vx, w, g', by rw [hv]; exact append_same_run ht hi base m cap hle (hylen hm), hI.hand hH hX (Below.refl _ _) (fun d hd => .v _ _ _ (hr d hd)) hbx (fun _ _ => rfl) (fun b o h => ?_)⟩
      rw [hst] at h
      exact hI.st1 b o h
    -- a new row
    have grow : ∀ (L : List D) (ad : Addr) (cap : Nat), M ≠ [] → vx = .slice (some ad) L.length cap → RepD w g.St (.sl .ro i.size L) vx → cap < L.length + M.length → (L.length + M.length) * i.bytes ≤ 140737488355328 →
        ∃ v w' g', (Builtin.append_ #[t, t] ty #[vx, vy]).run P w = .ok v w' ∧ Inv gl w0 St0 ⟨putSlot slots dst (.v (.own i.size (L ++ M))), e.boxes⟩ (a.put dst v) w' g' := by
      intro L ad cap hm hv hL hlt hbb
      rcases hy with ⟨_, h0⟩ | ⟨b, off, capy, ys, hvy, _, _, hMs, hMf, hyc, hyr⟩
      · exact absurd h0 hm
      · rw [hv] at hL
        cases hL with
        | slz _ _ _ ha =>
          obtain ⟨news, nl, nc, ng⟩ := cells_list (w := w) (n := M.length) (sz := i.size) (vs := ys) hyc
          have hm1 : (0 + M.length) * 1 ≤ (0 + M.length) * i.bytes := Nat.mul_le_mul_left _ hby
          simp only [List.length_nil] at hlt hbb
          have hmax : 0 + M.length ≤ maxLen := by simp only [maxLen]; omega
          have hrun := run_append_grow (P := P) w t ty e' i zv ht hi hz ad 0 cap [] (by simp) (by simp) ⟨b, off, none⟩ M.length capy news nl nc hlt (by omega) (growslice_fits hlt hbb)
          obtain ⟨rest, hre, hrl⟩ := zeroCells_list zv.cells (grownCap w (0 + M.length) cap e' - (0 + M.length))
          rw [hre] at hrun
          have hge := grownCap_ge w (0 + M.length) cap e'
          obtain ⟨g', hg'⟩ := hI.grow hH (sz := i.size) (L := []) (M := M) (cap := grownCap w (0 + M.length) cap e') (te := e') (olds := []) (news := news) (rest := rest) (f := fun _ => .bool false) (by simp) hMs (by simp) hMf (by simp) nl (by rw [hrl, hzs]; rfl) hge
            (grownCap_le_maxLen w _ cap e' hmax) (by simp) ng (by simp) hyr
          refine ⟨_, _, g', by rw [hv, hvy]; exact hrun, ?_⟩
          simpa using hg'
        | sl _ _ bx ox _ vs hcap hmx hLs hLf hxc hxr =>
          obtain ⟨olds, ol, oc, og⟩ := cells_list (w := w) (n := L.length) (sz := i.size) (vs := vs) hxc
          obtain ⟨news, nl, nc, ng⟩ := cells_list (w := w) (n := M.length) (sz := i.size) (vs := ys) hyc
          have hm1 : (L.length + M.length) * 1 ≤ (L.length + M.length) * i.bytes := Nat.mul_le_mul_left _ hby
          have hmax : L.length + M.length ≤ maxLen := by simp only [maxLen]; omega
          have hrun := run_append_grow (P := P) w t ty e' i zv ht hi hz ⟨bx, ox, none⟩ L.length cap olds ol oc ⟨b, off, none⟩ M.length capy news nl nc hlt (by omega) (growslice_fits hlt hbb)
          obtain ⟨rest, hre, hrl⟩ := zeroCells_list zv.cells (grownCap w (L.length + M.length) cap e' - (L.length + M.length))
          rw [hre] at hrun
          have hge := grownCap_ge w (L.length + M.length) cap e'
          obtain ⟨g', hg'⟩ := hI.grow hH (sz := i.size) (L := L) (M := M) (cap := grownCap w (L.length + M.length) cap e') (te := e') (olds := olds) (news := news) (rest := rest) hLs hMs hLf hMf ol nl (by rw [hrl, hzs]) hge
            (grownCap_le_maxLen w _ cap e' hmax) og ng hxr hyr
          refine ⟨_, _, g', by rw [hv, hvy]; exact hrun, ?_⟩
          simpa using hg'
    split at h
    · -- own
      rename_i s L
      split at h
      · rename_i hs
        cases h
        subst hs
        cases rx with
        | own _ _ _ gg cap hRep hcm ho =>
          obtain ⟨i0, hOw, hl⟩ := hO _ _ _ ho
          by_cases hm : M = []
          · subst hm
            simp only [List.append_nil]
            have hcap : L.length ≤ cap := by cases hRep with | sl _ _ _ _ _ _ hcap => exact hcap | slz _ _ _ ha => exact absurd rfl ha
            cases dst with
            | none =>
              refine same _ _ _ rfl hcap rfl _ g ⟨fun _ _ h => ⟨h, rfl⟩, fun _ _ _ => rfl, fun _ _ h => h, fun _ _ _ _ _ h => h⟩ rfl rfl (fun d hd => by cases hd)
            | some d =>
              refine same _ _ _ rfl hcap rfl _ (g.mv gg (.s d 0)) (Ext.mv hOw hl _ _) rfl rfl (fun d' hd => ?_)
              cases hd
              refine .own _ i.size L gg cap hRep hcm ?_
              obtain ⟨_, h2, h3, h4, h5⟩ := hOw
              exact ⟨by simp [Gh.mv], h2, h3, h4, h5⟩
          · by_cases hroom : L.length + M.length ≤ cap
            · rcases hy with ⟨_, h0⟩ | ⟨b, off, capy, ys, hvy, _, _, hMs, hMf, hyc, hyr⟩
              · exact absurd h0 hm
              · obtain ⟨news, nl, nc, ng⟩ := cells_list (w := w) (n := M.length) (sz := i.size) (vs := ys) hyc
                have hOw' := hOw
                obtain ⟨_, _, _, ⟨cur, te, hcur, hcs⟩, _⟩ := hOw'
                have hn1 : ∀ u ∈ news, u.oneCell' = true := by
                  intro u hu
                  obtain ⟨j, hj⟩ := List.mem_iff_getElem?.1 hu
                  have hjl : j < M.length * i.size := by rw [← nl]; exact (List.getElem?_eq_some_iff.1 hj).1
                  rw [ng j hjl] at hj
                  cases hj
                  have hq : j / i.size < M.length := Nat.div_lt_of_lt_mul (by rw [Nat.mul_comm]; exact hjl)
                  have hmod := Nat.mod_lt j hsz0
                  have hmem : M[j / i.size] ∈ M := List.getElem_mem hq
                  have hcl := hMs _ hmem
                  have hc : (M[j / i.size]).cells[j % i.size]? = some ((M[j / i.size]).cells[j % i.size]'(by omega)) := by simp
                  have := hyr (j / i.size) _ (j % i.size) _ (List.getElem?_eq_getElem hq) hc
                  rw [Nat.mul_comm, Nat.div_add_mod] at this
                  exact this.oneCell (hMf _ hmem _ (List.getElem_mem _))
                have hfit : L.length * i.size + news.length ≤ cur.size := by rw [nl, hcs, ← Nat.add_mul]; exact Nat.mul_le_mul_right _ hroom
                have hrun := append_room_run (P := P) (w := w) (ty := ty) ht hi hcur (ad := ⟨b, off, none⟩) (m := M.length) (c := capy) news nl nc hn1 hroom hfit
                obtain ⟨g', hg'⟩ := hI.room hH hOw hl hRep hcur hcs hMs hMf nl hroom hcm ng hyr
                exact ⟨_, _, g', by rw [hvy]; exact hrun, hg'⟩
            · exact grow L ⟨gg, 0, none⟩ cap hm rfl hRep (by omega) hb
      · cases h
    · -- full
      rename_i s L
      split at h
      · rename_i hs
        subst hs
        cases rx with
        | full _ _ _ ad hRep =>
          split at h
          · rename_i hm
            cases h
            exact same _ _ _ hm (Nat.le_refl _) rfl _ g ⟨fun _ _ h => ⟨h, rfl⟩, fun _ _ _ => rfl, fun _ _ h => h, fun _ _ _ _ _ h => h⟩ rfl rfl (fun d hd => .full _ i.size L ad hRep)
          · rename_i hm
            cases h
            have : 0 < M.length := List.length_pos_iff.2 hm
            exact grow L ad L.length hm rfl hRep (by omega) hb
      · cases h
    · -- nil
      have hd := rx.data
      split at h
      · rename_i hm
        cases h
        cases hd
        exact same none 0 0 hm (Nat.le_refl _) rfl _ g ⟨fun _ _ h => ⟨h, rfl⟩, fun _ _ _ => rfl, fun _ _ h => h, fun _ _ _ _ _ h => h⟩ rfl rfl (fun d hd => .d _ _ _ (.nilsl _))
      · rename_i hm
        cases h
        cases hd
        rcases hy with ⟨_, h0⟩ | ⟨b, off, capy, ys, hvy, _, _, hMs, hMf, hyc, hyr⟩
        · exact absurd h0 hm
        · obtain ⟨news, nl, nc, ng⟩ := cells_list (w := w) (n := M.length) (sz := i.size) (vs := ys) hyc
          have h0 : 0 < M.length := List.length_pos_iff.2 hm
          have hm1 : M.length * 1 ≤ M.length * i.bytes := Nat.mul_le_mul_left _ hby
          have hmax : M.length ≤ maxLen := by simp only [maxLen]; omega
          have hrun := run_append_nil (P := P) w t ty e' i zv ht hi hz ⟨b, off, none⟩ M.length capy news nl nc h0 (by omega) (by omega)
          obtain ⟨rest, hre, hrl⟩ := zeroCells_list zv.cells (grownCap w M.length 0 e' - M.length)
          rw [hre] at hrun
          have hge := grownCap_ge w M.length 0 e'
          obtain ⟨g', hg'⟩ := hI.grow hH (sz := i.size) (L := []) (M := M) (cap := grownCap w M.length 0 e') (te := e') (olds := []) (news := news) (rest := rest) (by simp) hMs (by simp) hMf (by simp) nl (by rw [hrl, hzs]; simp) (by simpa using hge)
            (grownCap_le_maxLen w _ 0 e' hmax) (f := fun _ => undef) (by simp) ng (by simp) hyr
          refine ⟨_, _, g', by rw [hvy]; exact hrun, ?_⟩
          simpa using hg'
    · cases h

end
end Go.Proofs.Ytfeepndphaboeaa.Ab
