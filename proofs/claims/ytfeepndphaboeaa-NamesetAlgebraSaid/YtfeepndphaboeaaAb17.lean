/-
  THE ABSTRACT WALK: what one operation looks at, and what it turns.
-/
import Derived.Test.YtfeepndphaboeaaAb16
set_option linter.unusedVariables false
set_option linter.unusedSimpArgs false
namespace Go.Proofs.Ytfeepndphaboeaa.Ab
open Go Go.RowKit

def upd (U : Option (Nat × Box)) (bxs : List Box) : List Box := match U with
  | none => bxs
  | some (b, bx) => bxs.set b bx
def setO (src : Option (Nat × Slot)) (l : List Slot) : List Slot := match src with
  | none => l
  | some (t, s) => l.set t s

/-- the same but for who owns what -/
def Near (x y : Option Box) : Prop := x = y ∨ ∃ cs cs', x = some (.cells cs) ∧ y = some (.cells cs') ∧ cs.map Ab.demote = cs'.map Ab.demote
theorem Near.refl (x : Option Box) : Near x x := .inl rfl
theorem Near.symm {x y : Option Box} (h : Near x y) : Near y x := by
  rcases h with h | ⟨cs, cs', h1, h2, h3⟩
  · exact .inl h.symm
  · exact .inr ⟨cs', cs, h2, h1, h3.symm⟩
theorem Near.trans {x y z : Option Box} (h : Near x y) (k : Near y z) : Near x z := by
  rcases h with rfl | ⟨cs, cs', h1, h2, h3⟩
  · exact k
  · rcases k with rfl | ⟨ds, ds', k1, k2, k3⟩
    · exact .inr ⟨cs, cs', h1, h2, h3⟩
    · rw [h2] at k1
      cases k1
      exact .inr ⟨cs, ds', h1, k2, h3.trans k3⟩
theorem toD_dem (x : SV) : toD (demote x) = toD x := by cases x <;> rfl
theorem toDs_dem : ∀ (l : List SV), toDs (l.map demote) = toDs l
  | [] => rfl
  | x :: l => by simp only [List.map_cons, toDs, toD_dem, toDs_dem l]
theorem partV_near {agg : Bool} {sz off : Nat} {cs cs' : List SV} {y : SV} (h : cs.map Ab.demote = cs'.map Ab.demote) (hy : partV agg sz off cs = some y) : ∃ y', partV agg sz off cs' = some y' ∧ demote y' = demote y := by
  have hlen : cs.length = cs'.length := by have := congrArg List.length h; simpa using this
  cases agg with
  | false =>
    simp only [partV, cond_false] at hy ⊢
    have h1 : (cs'.map Ab.demote)[off]? = some (demote y) := by rw [← h]; simp [hy]
    rw [List.getElem?_map] at h1
    obtain ⟨y', h2, h3⟩ := Option.map_eq_some_iff.1 h1
    exact ⟨y', h2, h3⟩
  | true =>
    refine ⟨y, ?_, rfl⟩
    simp only [partV, cond_true] at hy ⊢
    have h1 : toDs ((cs'.drop off).take sz) = toDs ((cs.drop off).take sz) := by
      rw [← toDs_dem, ← toDs_dem ((cs.drop off).take sz), List.map_take, List.map_drop, List.map_take, List.map_drop, h]
    rw [h1, ← hlen]
    exact hy

/-- what a slot shows of the variables is the same -/
def SameAt (weak : Bool) (s : Slot) (bxs b' : List Box) : Prop := (∀ b off, s = .p b off → Near b'[b]? bxs[b]? ∧ (weak = false → b'[b]? = bxs[b]?)) ∧ ∀ n, snap b' n s = snap bxs n s

structure Sees (id : Nat) (lin : Bool) (o : Oper) (U : Option (Nat × Box)) (ρ : Operand → Slot) (bxs b' : List Box) : Prop where
  mem : looksMem o = true → ∀ x ∈ o.op.operands, SameAt (!writesMem o && !lin) (ρ x) bxs b'
  fresh : makesMem o = true → U ≠ none → b'[id]? = some .none

inductive UFact (id : Nat) (o : Oper) (lin : Bool) (ρ : Operand → Slot) (bxs : List Box) : Option (Nat × Box) → Prop
  | none : UFact id o lin ρ bxs none
  | mk (bx : Box) (h : makesMem o = true) (hn : bxs[id]? = some .none) (hb : bx ≠ .none) : UFact id o lin ρ bxs (some (id, bx))
  | wr (b : Nat) (bx old : Box) (h : looksMem o = true) (hw : writesMem o = true ∨ lin = true) (x : Operand) (hx : x ∈ o.op.operands) (off : Nat) (hp : ρ x = .p b off) (ho : bxs[b]? = some old) (hold : old ≠ .none) (hb : bx ≠ .none)
      (near : lin = true → writesMem o = false → ∃ cs cs', old = .cells cs ∧ bx = .cells cs' ∧ cs.map Ab.demote = cs'.map Ab.demote) :
      UFact id o lin ρ bxs (some (b, bx))

section
variable {P : Program} {gl : Nat → Option D} {C : Con}

theorem partsD_congr {ρ ρ' : Operand → Slot} : ∀ {l : List (Nat × Operand)}, (∀ p ∈ l, ρ' p.2 = ρ p.2) → partsD ρ' l = partsD ρ l
  | [], _ => rfl
  | (i, x) :: l, h => by
    simp only [partsD]
    rw [h (i, x) (by simp), partsD_congr (fun p hp => h p (by simp [hp]))]

theorem argsOf_congr {ρ ρ' : Operand → Slot} {bxs b' : List Box} : ∀ {l : List Operand}, (∀ x ∈ l, snap b' 6 (ρ' x) = snap bxs 6 (ρ x)) → argsOf b' ρ' l = argsOf bxs ρ l
  | [], _ => rfl
  | x :: l, h => by
    simp only [argsOf]
    rw [h x (by simp), argsOf_congr (fun p hp => h p (by simp [hp]))]

theorem optV_congr {ρ ρ' : Operand → Slot} {x : Option Operand} (h : ∀ y, x = some y → ρ' y = ρ y) : optV ρ' x = optV ρ x := by
  cases x with
  | none => rfl
  | some y => simp only [optV]; rw [h y rfl]

theorem exN_intro : ∀ {n : Nat} {k : List SV → Prop} (rs : List SV), rs.length = n → k rs → exN n k
  | 0, _, [], _, h => h
  | n + 1, _, r :: rs, hl, h => ⟨r, exN_intro rs (by simpa using hl) h⟩
  | 0, _, _ :: _, hl, _ => by simp at hl
  | _ + 1, _, [], hl, _ => by simp at hl

theorem callK_spec {n : Nat} {bxs : List Box} {k : Slot → List Box → Prop} {f : FuncId} {args : List SV} (h : callK C n bxs k f args) :
    ∃ s, k s bxs ∧ ∀ b' k', k' s b' → callK C n b' k' f args := by
  unfold callK at h
  split at h
  · obtain ⟨r, h1, h2, h3⟩ := h
    exact ⟨.v r, h3, fun b' k' hk => ⟨r, h1, h2, hk⟩⟩
  · rename_i hn
    obtain ⟨rs, hl, h1, h2⟩ := exN_iff h
    refine ⟨.t rs, h2, fun b' k' hk => ?_⟩
    unfold callK
    split
    · exact absurd rfl hn
    · exact exN_intro rs hl ⟨h1, hk⟩

theorem withFn_spec {x : SV} {args : List SV} {K : FuncId → List SV → Prop} (h : withFn x args K) : ∃ f l, K f l ∧ ∀ K' : FuncId → List SV → Prop, K' f l → withFn x args K' := by
  unfold withFn at h
  split at h
  · exact ⟨_, _, h, fun _ h => h⟩
  · exact ⟨_, _, h, fun _ h => h⟩
  · exact h.elim

theorem clo_inj {bxs b' : List Box} {f : Fn} {first cap : List Slot} (h : ∀ n, snap b' n (.c f first cap) = snap bxs n (.c f first cap)) :
    snapList (snap b' 6) first = snapList (snap bxs 6) first ∧ snapList (snap b' 6) cap = snapList (snap bxs 6) cap := by
  have := h 7
  simp only [snap, SV.clo.injEq, true_and] at this
  exact this

theorem box_get {b' bxs : List Box} {b : Nat} {x : Option Box} (h : b'[b]? = bxs[b]?) (hx : bxs[b]? = x) : b'[b]? = x := h.trans hx

/-- an operation's outcome, and what it hangs on -/
theorem eff_spec {id : Nat} {o : Oper} {ρ : Operand → Slot} {bxs : List Box} {k : Slot → List Box → Prop} (h : eff P C id o ρ bxs k) :
    ∃ s U, k s (upd U bxs) ∧ UFact id o false ρ bxs U ∧
      ∀ (ρ' : Operand → Slot) (b' : List Box) (k' : Slot → List Box → Prop), (∀ x ∈ o.op.operands, ρ' x = ρ x) → Sees id false o U ρ bxs b' → k' s (upd U b') → eff P C id o ρ' b' k' := by
  cases ho : o.op <;> simp only [eff, ho] at h
  case move x =>
    refine ⟨_, none, h, .none, fun ρ' b' k' hρ _ hk => ?_⟩
    simp only [eff, ho]; rw [hρ x (by simp [Op.operands])]; exact hk
  case assign x =>
    refine ⟨_, none, h, .none, fun ρ' b' k' hρ _ hk => ?_⟩
    simp only [eff, ho]; rw [hρ x (by simp [Op.operands])]; exact hk
  case pick c x y =>
    split at h
    · rename_i s hs
      obtain ⟨b, rfl, h1, h2⟩ := ifP_bool h
      cases b
      · refine ⟨_, none, h2 rfl, .none, fun ρ' b' k' hρ _ hk => ?_⟩
        simp only [eff, ho]; rw [hρ c (by simp [Op.operands]), hρ x (by simp [Op.operands]), hρ y (by simp [Op.operands]), hs]; exact hk
      · refine ⟨_, none, h1 rfl, .none, fun ρ' b' k' hρ _ hk => ?_⟩
        simp only [eff, ho]; rw [hρ c (by simp [Op.operands]), hρ x (by simp [Op.operands]), hρ y (by simp [Op.operands]), hs]; exact hk
    · exact h.elim
  case alloc t =>
    split at h
    · rename_i hid
      obtain ⟨z, hz, hk⟩ := bindO_some h
      refine ⟨_, some (id, _), hk, .mk _ (by simp [makesMem, ho]) hid (by simp), fun ρ' b' k' hρ hS hk => ?_⟩
      simp only [eff, ho, hS.fresh (by simp [makesMem, ho]) (by simp), hz, bindO]; exact hk
    · exact h.elim
  case box t x =>
    split at h
    · rename_i hid
      obtain ⟨sz, hsz, h⟩ := bindO_some h
      split at h
      · rename_i y hy
        obtain ⟨l, hl, hlen, hk⟩ := bindO_some h
        refine ⟨_, some (id, _), hk, .mk _ (by simp [makesMem, ho]) hid (by simp), fun ρ' b' k' hρ hS hk => ?_⟩
        simp only [eff, ho, hS.fresh (by simp [makesMem, ho]) (by simp), hsz, bindO]; rw [hρ x (by simp [Op.operands]), hy]; simp only [hl]; exact ⟨hlen, hk⟩
      · exact h.elim
      · rename_i h1 h2
        split at h
        · refine ⟨_, some (id, _), h, .mk _ (by simp [makesMem, ho]) hid (by simp), fun ρ' b' k' hρ hS hk => ?_⟩
          simp only [eff, ho, hS.fresh (by simp [makesMem, ho]) (by simp), hsz, bindO]; rw [hρ x (by simp [Op.operands])]
          split
          · rename_i y hy; exact absurd hy (h1 y)
          · rename_i y hy; exact absurd hy (h2 y)
          · exact hk
        · exact h.elim
    · exact h.elim
  case build t ps =>
    obtain ⟨l, hl, h⟩ := bindO_some h
    obtain ⟨r, hr, h⟩ := bindO_some h
    refine ⟨_, none, h, .none, fun ρ' b' k' hρ _ hk => ?_⟩
    simp only [eff, ho]
    rw [partsD_congr (fun p hp => hρ p.2 (by simp only [Op.operands, List.mem_toArray, List.mem_map]; exact ⟨p, hp, rfl⟩)), hl]
    simp only [bindO, hr]; exact hk
  case buildSlice t n ps =>
    obtain ⟨e, he, h⟩ := bindO_some h
    obtain ⟨ly, hly, h⟩ := bindO_some h
    obtain ⟨z, hz, h⟩ := bindO_some h
    obtain ⟨l, hl, h⟩ := bindO_some h
    cases hc : (Nat.ble (n * ly.2) (2 ^ 24) && Nat.blt 0 ly.2 && Nat.beq z.length ly.2) with
    | false => rw [hc] at h; exact h.elim
    | true =>
      rw [hc] at h
      simp only [cond_true] at h
      refine ⟨_, none, h.2, .none, fun ρ' b' k' hρ _ hk => ?_⟩
      simp only [eff, ho]
      rw [partsD_congr (fun p hp => hρ p.2 (by simp only [Op.operands, List.mem_toArray, List.mem_map]; exact ⟨p, hp, rfl⟩)), hl]
      simp only [bindO, he, hly, hz, hc, cond_true]; exact ⟨h.1, hk⟩
  case load t x =>
    obtain ⟨ly, hl, h⟩ := bindO_some h
    split at h
    · rename_i bn off hs
      unfold loadBox at h
      have hS0 : ∀ {U b'}, Sees id false o U ρ bxs b' → Near b'[bn]? bxs[bn]? := fun hS => ((hS.mem (by simp [looksMem, ho]) x (by simp [ho, Op.operands])).1 bn off hs).1
      split at h
      · rename_i cs hcs
        obtain ⟨y, hy, h⟩ := bindO_some h
        refine ⟨_, none, h, .none, fun ρ' b' k' hρ hS hk => ?_⟩
        simp only [eff, ho, hl, bindO]; rw [hρ x (by simp [Op.operands]), hs]
        rcases hS0 hS with hn | ⟨ds, ds', h1, h2, h3⟩
        · simp only [loadBox, hn, hcs, bindO, hy]; exact hk
        · rw [hcs] at h2
          cases h2
          obtain ⟨y', hy', hd⟩ := partV_near h3.symm hy
          simp only [loadBox, h1, bindO, hy', hd]; exact hk
      · rename_i s hcs
        cases hb : ly.1 with
        | true => rw [hb] at h; exact h.elim
        | false =>
          rw [hb] at h
          simp only [cond_false] at h
          have hS' : ∀ {U b'}, Sees id false o U ρ bxs b' → b'[bn]? = bxs[bn]? := fun hS => by
            rcases hS0 hS with hn | ⟨ds, ds', _, h2, _⟩
            · exact hn
            · rw [hcs] at h2; cases h2
          split at h
          · refine ⟨_, none, h, .none, fun ρ' b' k' hρ hS hk => ?_⟩
            simp only [eff, ho, hl, bindO]; rw [hρ x (by simp [Op.operands]), hs]; simp only [loadBox, hS' hS, hcs, hb, cond_false]; exact hk
          · exact h.elim
      · exact h.elim
    · rename_i s hs
      obtain ⟨y, hy, h⟩ := bindO_some h
      refine ⟨_, none, h, .none, fun ρ' b' k' hρ hS hk => ?_⟩
      simp only [eff, ho, hl, bindO]; rw [hρ x (by simp [Op.operands]), hs]; simp only [hy]; exact hk
    · exact h.elim
  case store t x y =>
    obtain ⟨n, hn, h⟩ := bindO_some h
    split at h
    · rename_i bn off hs
      have hS' : ∀ {U b'}, Sees id false o U ρ bxs b' → b'[bn]? = bxs[bn]? := fun hS => ((hS.mem (by simp [looksMem, ho]) x (by simp [ho, Op.operands])).1 bn off hs).2 (by simp [writesMem, ho])
      split at h
      · rename_i hd
        unfold storeBox at h
        have uf : ∀ bx old, bxs[bn]? = some old → old ≠ .none → bx ≠ .none → UFact id o false ρ bxs (some (bn, bx)) := fun bx old h1 h2 h3 =>
          .wr bn bx old (by simp [looksMem, ho]) (.inl (by simp [writesMem, ho])) x (by simp [ho, Op.operands]) off hs h1 h2 h3 (fun h => by cases h)
        split at h
        · rename_i cs hcs
          split at h
          · rename_i z hz
            obtain ⟨l, hl, h1, h2, h⟩ := bindO_some h
            refine ⟨_, some (bn, _), h, uf _ _ hcs (by simp) (by simp), fun ρ' b' k' hρ hS hk => ?_⟩
            simp only [eff, ho, hn, bindO]; rw [hρ x (by simp [Op.operands]), hρ y (by simp [Op.operands]), hs, hz, hd]; simp only [storeBox, hS' hS, hcs, hl, bindO]; exact ⟨h1, h2, hk⟩
          · exact h.elim
          · rename_i h1 h2
            split at h
            · refine ⟨_, some (bn, _), h, uf _ _ hcs (by simp) (by simp), fun ρ' b' k' hρ hS hk => ?_⟩
              simp only [eff, ho, hn, bindO]; rw [hρ x (by simp [Op.operands]), hρ y (by simp [Op.operands]), hs, hd]; simp only [storeBox, hS' hS, hcs]; exact hk
            · exact h.elim
        · rename_i s0 hcs
          split at h
          · split at h
            · rename_i z hz
              obtain ⟨l, hl, h1, h⟩ := bindO_some h
              refine ⟨_, some (bn, _), h, uf _ _ hcs (by simp) (by simp), fun ρ' b' k' hρ hS hk => ?_⟩
              simp only [eff, ho, hn, bindO]; rw [hρ x (by simp [Op.operands]), hρ y (by simp [Op.operands]), hs, hz, hd]; simp only [storeBox, hS' hS, hcs, hl, bindO]; exact ⟨h1, hk⟩
            · exact h.elim
            · rename_i h1 h2
              refine ⟨_, some (bn, _), h, uf _ _ hcs (by simp) (by simp), fun ρ' b' k' hρ hS hk => ?_⟩
              simp only [eff, ho, hn, bindO]; rw [hρ x (by simp [Op.operands]), hρ y (by simp [Op.operands]), hs, hd]; simp only [storeBox, hS' hS, hcs]; exact hk
          · exact h.elim
        · exact h.elim
      · exact h.elim
    · exact h.elim
  case nilCheck x =>
    split at h
    · rename_i y hy
      obtain ⟨z, hz, h⟩ := bindO_some h
      refine ⟨_, none, h, .none, fun ρ' b' k' hρ _ hk => ?_⟩
      simp only [eff, ho]; rw [hρ x (by simp [Op.operands]), hy]; simp only [hz, bindO]; exact hk
    · exact h.elim
    · rename_i f first cap hy
      split at h
      · refine ⟨_, none, h, .none, fun ρ' b' k' hρ _ hk => ?_⟩
        simp only [eff, ho]; rw [hρ x (by simp [Op.operands]), hy]; exact hk
      · exact h.elim
    · rename_i b off hy
      refine ⟨_, none, h, .none, fun ρ' b' k' hρ _ hk => ?_⟩
      simp only [eff, ho]; rw [hρ x (by simp [Op.operands]), hy]; exact hk
  case binOp op t x y u =>
    obtain ⟨z, hz, h⟩ := bindO_some h
    refine ⟨_, none, h, .none, fun ρ' b' k' hρ _ hk => ?_⟩
    simp only [eff, ho]; rw [hρ x (by simp [Op.operands]), hρ y (by simp [Op.operands])]; simp only [hz, bindO]; exact hk
  case unOp op t x =>
    obtain ⟨z, hz, h⟩ := bindO_some h
    refine ⟨_, none, h, .none, fun ρ' b' k' hρ _ hk => ?_⟩
    simp only [eff, ho]; rw [hρ x (by simp [Op.operands])]; simp only [hz, bindO]; exact hk
  case convert src dst x =>
    cases hs : (P.underlying src).isSome with
    | false => rw [hs] at h; exact h.elim
    | true =>
      rw [hs] at h
      obtain ⟨z, hz, h⟩ := bindO_some h
      refine ⟨_, none, h, .none, fun ρ' b' k' hρ _ hk => ?_⟩
      simp only [eff, ho]; rw [hρ x (by simp [Op.operands])]; simp only [hs, cond_true, hz, bindO]; exact hk
  case makeInterface t x =>
    cases hs : isIface P t with
    | true => rw [hs] at h; exact h.elim
    | false =>
      rw [hs] at h
      obtain ⟨z, hz, h⟩ := bindO_some h
      refine ⟨_, none, h, .none, fun ρ' b' k' hρ _ hk => ?_⟩
      simp only [eff, ho]; rw [hρ x (by simp [Op.operands])]; simp only [hs, cond_false, hz, bindO]; exact hk
  case makeFunc fn first cap =>
    refine ⟨_, none, h, .none, fun ρ' b' k' hρ _ hk => ?_⟩
    simp only [eff, ho]
    have e1 : (first.toList.map fun x => (ρ' x).demote) = first.toList.map fun x => (ρ x).demote := List.map_congr_left fun x hx => by rw [hρ x (by simp only [Op.operands, Array.mem_append]; exact .inl (by simpa using hx))]
    have e2 : (cap.toList.map fun x => (ρ' x).demote) = cap.toList.map fun x => (ρ x).demote := List.map_congr_left fun x hx => by rw [hρ x (by simp only [Op.operands, Array.mem_append]; exact .inr (by simpa using hx))]
    rw [e1, e2]; exact hk
  case slice t x lo hi mx =>
    obtain ⟨z, hz, h⟩ := bindO_some h
    refine ⟨_, none, h, .none, fun ρ' b' k' hρ _ hk => ?_⟩
    simp only [eff, ho]
    rw [hρ x (by simp [Op.operands]), optV_congr (x := lo) (fun y hy => hρ y (by simp [Op.operands, hy])), optV_congr (x := hi) (fun y hy => hρ y (by simp [Op.operands, hy])), optV_congr (x := mx) (fun y hy => hρ y (by simp [Op.operands, hy]))]
    simp only [hz, bindO]; exact hk
  case fieldAddr t x f =>
    obtain ⟨fd, hfd, h⟩ := bindO_some h
    obtain ⟨sz, hsz, h⟩ := bindO_some h
    cases hc : Nat.beq sz 0 with
    | true => rw [hc] at h; exact h.elim
    | false =>
      rw [hc] at h
      simp only [cond_false] at h
      split at h
      · rename_i b off hy
        refine ⟨_, none, h, .none, fun ρ' b' k' hρ _ hk => ?_⟩
        simp only [eff, ho, hfd, hsz, bindO, hc, cond_false]; rw [hρ x (by simp [Op.operands]), hy]; exact hk
      · rename_i y hy
        obtain ⟨z, hz, h⟩ := bindO_some h
        refine ⟨_, none, h, .none, fun ρ' b' k' hρ _ hk => ?_⟩
        simp only [eff, ho, hfd, hsz, bindO, hc, cond_false]; rw [hρ x (by simp [Op.operands]), hy]; simp only [hz]; exact hk
      · exact h.elim
  case field t x f =>
    obtain ⟨fd, hfd, h⟩ := bindO_some h
    obtain ⟨ly, hly, h⟩ := bindO_some h
    obtain ⟨z, hz, h⟩ := bindO_some h
    refine ⟨_, none, h, .none, fun ρ' b' k' hρ _ hk => ?_⟩
    simp only [eff, ho]; rw [hρ x (by simp [Op.operands])]; simp only [hfd, hly, hz, bindO]; exact hk
  case indexAddr t x i =>
    split at h
    · rename_i e he
      obtain ⟨sz, hsz, h⟩ := bindO_some h
      obtain ⟨z, hz, h⟩ := bindO_some h
      refine ⟨_, none, h, .none, fun ρ' b' k' hρ _ hk => ?_⟩
      simp only [eff, ho]; rw [hρ x (by simp [Op.operands]), hρ i (by simp [Op.operands])]; simp only [he, hsz, hz, bindO]; exact hk
    · rename_i n e he
      obtain ⟨sz, hsz, h⟩ := bindO_some h
      obtain ⟨j, hj, h⟩ := bindO_some h
      split at h
      · rename_i b off hy
        refine ⟨_, none, h, .none, fun ρ' b' k' hρ _ hk => ?_⟩
        simp only [eff, ho]; rw [hρ x (by simp [Op.operands]), hρ i (by simp [Op.operands])]; simp only [he, hsz, hj, bindO, hy]; exact hk
      · rename_i y hy
        obtain ⟨z, hz, h⟩ := bindO_some h
        refine ⟨_, none, h, .none, fun ρ' b' k' hρ _ hk => ?_⟩
        simp only [eff, ho]; rw [hρ x (by simp [Op.operands]), hρ i (by simp [Op.operands])]; simp only [he, hsz, hj, bindO, hy, hz]; exact hk
      · exact h.elim
    · exact h.elim
  case index t x i =>
    split at h
    · rename_i n e he
      obtain ⟨ly, hly, h⟩ := bindO_some h
      obtain ⟨z, hz, h⟩ := bindO_some h
      refine ⟨_, none, h, .none, fun ρ' b' k' hρ _ hk => ?_⟩
      simp only [eff, ho]; rw [hρ x (by simp [Op.operands]), hρ i (by simp [Op.operands])]; simp only [he, hly, hz, bindO]; exact hk
    · rename_i he
      obtain ⟨z, hz, h⟩ := bindO_some h
      refine ⟨_, none, h, .none, fun ρ' b' k' hρ _ hk => ?_⟩
      simp only [eff, ho]; rw [hρ x (by simp [Op.operands]), hρ i (by simp [Op.operands])]; simp only [he, hz, bindO]; exact hk
    · exact h.elim
  case extract x i =>
    split at h
    · rename_i vs hs
      split at h
      · rename_i r hr
        refine ⟨_, none, h, .none, fun ρ' b' k' hρ _ hk => ?_⟩
        simp only [eff, ho]; rw [hρ x (by simp [Op.operands]), hs]; simp only [hr]; exact hk
      · exact h.elim
    · exact h.elim
  case call c =>
    have hargs : ∀ {U ρ' b'}, (∀ x ∈ (Op.call c).operands, ρ' x = ρ x) → Sees id false o U ρ bxs b' → argsOf b' ρ' c.args.toList = argsOf bxs ρ c.args.toList := fun {U ρ' b'} hρ hS =>
      argsOf_congr fun x hx => by
        have hm : x ∈ (Op.call c).operands := by
          simp only [Op.operands, Call.operands, Array.mem_append]; exact .inr (by simpa using hx)
        rw [hρ x hm]
        exact (hS.mem (by simp [looksMem, ho]) x (by rw [ho]; exact hm)).2 6
    have hmem : ∀ x, x ∈ c.args.toList → x ∈ (Op.call c).operands := fun x hx => by
      simp only [Op.operands, Call.operands, Array.mem_append]; exact .inr (by simpa using hx)
    split at h
    · rename_i f hc
      have hf : f ∈ (Op.call c).operands := by simp [Op.operands, Call.operands, hc]
      split at h
      · rename_i s hs
        obtain ⟨f', l, hK, hK'⟩ := withFn_spec h
        obtain ⟨r, hk, hr⟩ := callK_spec hK
        refine ⟨_, none, hk, .none, fun ρ' b' k' hρ hS hk => ?_⟩
        simp only [eff, ho, hc]
        rw [hρ f hf, hs]
        simp only [hargs hρ hS]
        exact hK' _ (hr _ _ hk)
      · rename_i g' first cap hs
        obtain ⟨r, hk, hr⟩ := callK_spec h
        refine ⟨_, none, hk, .none, fun ρ' b' k' hρ hS hk => ?_⟩
        simp only [eff, ho, hc]
        rw [hρ f hf, hs]
        simp only [hargs hρ hS]
        have hsn := (hS.mem (by simp [looksMem, ho]) f (by rw [ho]; exact hf)).2
        rw [hs] at hsn
        obtain ⟨e1, e2⟩ := clo_inj hsn
        rw [e1, e2]
        exact hr _ _ hk
      · exact h.elim
    · exact h.elim
    · rename_i b hc
      split at h
      · rename_i x xs t ts hx ht
        obtain ⟨z, hz, h⟩ := bindO_some h
        refine ⟨_, none, h, .none, fun ρ' b' k' hρ hS hk => ?_⟩
        simp only [eff, ho, hc, hx, ht]
        rw [hρ x (hmem x (by simp [hx])), hz]; exact hk
      · rename_i x y t u hx ht
        cases htu : Nat.beq t u with
        | false => rw [htu] at h; exact h.elim
        | true =>
          rw [htu] at h
          simp only [cond_true] at h
          obtain ⟨e', he, h⟩ := bindO_some h
          obtain ⟨sz, hsz, h⟩ := bindO_some h
          obtain ⟨by_, hby, h⟩ := bindO_some h
          obtain ⟨z, hz, h⟩ := bindO_some h
          cases hcc : (Nat.blt 0 by_ && Nat.blt 0 sz && Nat.beq z.length sz) with
          | false => rw [hcc] at h; exact h.elim
          | true =>
            rw [hcc] at h
            obtain ⟨r, hr, hb, h⟩ := bindO_some h
            refine ⟨_, none, h, .none, fun ρ' b' k' hρ hS hk => ?_⟩
            simp only [eff, ho, hc, hx, ht]
            rw [hρ x (hmem x (by simp [hx])), hρ y (hmem y (by simp [hx]))]
            simp only [htu, cond_true, he, hsz, hby, hz, bindO, hcc, appP, hr]; exact ⟨hb, hk⟩
      · rename_i x xs hx
        obtain ⟨z, hz, h⟩ := bindO_some h
        refine ⟨_, none, h, .none, fun ρ' b' k' hρ hS hk => ?_⟩
        have e1 : (xs.map fun y => (ρ' y).toSV) = xs.map fun y => (ρ y).toSV := List.map_congr_left fun y hy => by rw [hρ y (hmem y (by simp [hx, hy]))]
        simp only [eff, ho, hc, hx]
        rw [hρ x (hmem x (by simp [hx])), e1, hz]; exact hk
      · rename_i x xs hx
        obtain ⟨z, hz, h⟩ := bindO_some h
        refine ⟨_, none, h, .none, fun ρ' b' k' hρ hS hk => ?_⟩
        have e1 : (xs.map fun y => (ρ' y).toSV) = xs.map fun y => (ρ y).toSV := List.map_congr_left fun y hy => by rw [hρ y (hmem y (by simp [hx, hy]))]
        simp only [eff, ho, hc, hx]
        rw [hρ x (hmem x (by simp [hx])), e1, hz]; exact hk
      · exact h.elim
  all_goals exact h.elim

end
end Go.Proofs.Ytfeepndphaboeaa.Ab
