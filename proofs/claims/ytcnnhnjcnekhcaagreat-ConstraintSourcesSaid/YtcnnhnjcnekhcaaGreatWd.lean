/-
  THE ABSTRACT WALK, RUN: the same walk as a function on known data; what it returns is a contract.
-/
import Derived.Test.YtcnnhnjcnekhcaaGreatWc
set_option linter.unusedVariables false
set_option linter.unusedSimpArgs false
namespace Go.Proofs.YtcnnhnjcnekhcaaGreat.Ab
open Go

def ob {α β : Type} (o : Option α) (k : α → Option β) : Option β := match o with | some x => k x | none => none
def okO {β : Type} (b : Bool) (r : Option β) : Option β := match b with | true => r | false => none
def ifX {β : Type} (x : SV) (A B : Option β) : Option β := match x with
  | .d (.bool true) => A
  | .d (.bool false) => B
  | _ => none

section
variable (P : Program) (gl : Nat → Option D) (call : FuncId → List SV → Option SV)

def callX (n : Nat) (bxs : List Box) (f : FuncId) (args : List SV) : Option (Slot × List Box) :=
  match n with
  | 1 => ob (call f args) fun r => okO (!isTup r) (some (.v r, bxs))
  | n => ob (call f args) fun r => match r with
    | .tup rs => if rs.length = n then some (.t rs, bxs) else none
    | _ => none
def withFnX (x : SV) (args : List SV) : Option (FuncId × List SV) := match x with
  | .d (.fn (.func f)) => some (f, args)
  | .clo (.func f) first cap => some (f, first ++ args ++ cap)
  | _ => none
def withMethX (x : SV) (name : String) (args : List SV) : Option (FuncId × List SV) := match x with
  | .d (.iface t y) => ob (meth? P t name) fun f => some (f, .d y :: args)
  | _ => none
def appX (sz bytes : Nat) (x y : SV) : Option SV :=
  ob (appV sz x y) fun r => if r.2 * bytes ≤ 140737488355328 then some r.1 else none
def loadBoxX (agg : Bool) (sz b off : Nat) (bxs : List Box) : Option (Slot × List Box) :=
  match bxs[b]? with
  | some (.cells cs) => ob (partV agg sz off cs) fun x => some (.v (Ab.demote x), bxs)
  | some (.one s) => (match agg, off with | false, 0 => some (s.demote, bxs) | _, _ => none)
  | _ => none
def storeBoxX (sz b off : Nat) (x : Slot) (bxs : List Box) : Option (List Box) :=
  match bxs[b]? with
  | some (.cells cs) => (match x with
    | .v y => ob (cellsV y) fun l => if l.length = sz then (if off + sz ≤ cs.length then some (bxs.set b (.cells (setAt cs off l))) else none) else none
    | .t _ => none
    | s => (match sz, off, cs with | 1, 0, [_] => some (bxs.set b (.one s)) | _, _, _ => none))
  | some (.one _) => (match sz, off with
    | 1, 0 => (match x with
      | .v y => ob (cellsV y) fun l => if l.length = 1 then some (bxs.set b (.cells l)) else none
      | .t _ => none
      | s => some (bxs.set b (.one s)))
    | _, _ => none)
  | _ => none

def effCall (o : Oper) (c : Call) (ρ : Operand → Slot) (bxs : List Box) : Option (Slot × List Box) :=
  match c.callee with
    | .value f => (match ρ f with
      | .v x => ob (withFnX x (argsOf bxs ρ c.args.toList)) fun r => callX call (arity P o.type) bxs r.1 r.2
      | .c (.func g) first cap => callX call (arity P o.type) bxs g (snapList (snap bxs 6) first ++ argsOf bxs ρ c.args.toList ++ snapList (snap bxs 6) cap)
      | _ => none)
    | .invoke recv name => (match ρ recv with
      | .v x => ob (withMethX P x name (argsOf bxs ρ c.args.toList)) fun r => callX call (arity P o.type) bxs r.1 r.2
      | _ => none)
    | .builtin b => (match b, c.args.toList, c.argTypes.toList with
      | .len, x :: _, t :: _ => ob (lenV P t (ρ x).toSV) fun r => some (.v r, bxs)
      | .append, [x, y], [t, u] => okO (Nat.beq t u) (ob (elemOf? P t) fun e => ob (sizeOf? P e) fun sz => ob (bytesOf? P e) fun by_ => ob (zeroCells? P e) fun z =>
          okO (Nat.blt 0 by_ && Nat.blt 0 sz && Nat.beq z.length sz) (ob (appX sz by_ (ρ x).toSV (ρ y).toSV) fun r => some (.v r, bxs)))
      | .min, x :: l, _ => ob (foldIntV minD (ρ x).toSV (l.map fun y => (ρ y).toSV)) fun r => some (.v r, bxs)
      | .max, x :: l, _ => ob (foldIntV maxD (ρ x).toSV (l.map fun y => (ρ y).toSV)) fun r => some (.v r, bxs)
      | _, _, _ => none)

def effX (id : Nat) (o : Oper) (ρ : Operand → Slot) (bxs : List Box) : Option (Slot × List Box) :=
  match o.op with
  | .move x | .assign x => some (ρ x, bxs)
  | .pick c a b => (match ρ c with
    | .v x => ifX x (some (ρ a, bxs)) (some (ρ b, bxs))
    | _ => none)
  | .alloc t => (match bxs[id]? with
    | some .none => ob (zeroCells? P t) fun z => some (.p id 0, bxs.set id (.cells (z.map .d)))
    | _ => none)
  | .box t x => (match bxs[id]? with
    | some .none => ob (sizeOf? P t) fun sz => (match ρ x with
      | .v y => ob (cellsV y) fun l => if l.length = sz then some (.p id 0, bxs.set id (.cells l)) else none
      | .t _ => none
      | s => (match sz with | 1 => some (.p id 0, bxs.set id (.one s)) | _ => none))
    | _ => none)
  | .build t ps => ob (partsD ρ ps.toList) fun l => ob (buildD P t l) fun r => some (.v (.d r), bxs)
  | .buildSlice t n ps => ob (elemOf? P t) fun e => ob (lay? P e) fun ly => ob (zeroCells? P e) fun z => ob (partsD ρ ps.toList) fun l =>
      okO (Nat.ble (n * ly.2) (2 ^ 24) && Nat.blt 0 ly.2 && Nat.beq z.length ly.2) (okO (partsFit ly.2 n l) (some (.v (.full ly.2 (buildElems (mkElem ly.1 z) l n 0)), bxs)))
  | .load t a => ob (lay? P t) fun ly => (match ρ a with
    | .p b off => loadBoxX ly.1 ly.2 b off bxs
    | .v x => ob (loadV ly.1 ly.2 x) fun y => some (.v y, bxs)
    | _ => none)
  | .store t a x => ob (sizeOf? P t) fun sz => (match ρ a with
    | .p b off => (match o.dst with | none => ob (storeBoxX sz b off (ρ x) bxs) fun bxs' => some (.t [], bxs') | some _ => none)
    | _ => none)
  | .nilCheck x => (match ρ x with
    | .v y => ob (nonNilV y) fun z => some (.v z, bxs)
    | .t _ => none
    | .c f first cap => (match f with | .func _ => some (.c f first cap, bxs) | _ => none)
    | .p b off => some (.p b off, bxs))
  | .binOp op t x y _ => ob (binV (eqShape P op t) op (ρ x).toSV (ρ y).toSV) fun r => some (.v r, bxs)
  | .unOp op _ x => ob (unV op (ρ x).toSV) fun r => some (.v r, bxs)
  | .convert src dst x => okO (P.underlying src).isSome (ob (convV P dst (ρ x).toSV) fun r => some (.v r, bxs))
  | .makeInterface t x => okO (!isIface P t) (ob (ifaceV t (ρ x).toSV) fun r => some (.v r, bxs))
  | .makeFunc fn first cap => some (.c fn (first.toList.map fun x => (ρ x).demote) (cap.toList.map fun x => (ρ x).demote), bxs)
  | .slice t x lo hi mx => ob (sliceV P t (Ab.demote (ρ x).toSV) (optV ρ lo) (optV ρ hi) (optV ρ mx)) fun r => some (.v r, bxs)
  | .fieldAddr t x f => ob (fieldOf? P t f) fun fd => ob (sizeOf? P fd.type) fun sz => okO (!Nat.beq sz 0) (match ρ x with
    | .p b off => some (.p b (off + fd.offset), bxs)
    | .v y => ob (addOffV y fd.offset) fun z => some (.v z, bxs)
    | _ => none)
  | .field t x f => ob (fieldOf? P t f) fun fd => ob (lay? P fd.type) fun ly => ob (fieldV ly.1 ly.2 fd.offset (ρ x).toSV) fun r => some (.v r, bxs)
  | .indexAddr t x i => (match P.underlying t with
    | some (.slice e) => ob (sizeOf? P e) fun sz => ob (elemPtr sz (ρ x).toSV (ρ i).toSV) fun r => some (.v r, bxs)
    | some (.array n e) => ob (sizeOf? P e) fun sz => ob (indexOk (ρ i).toSV n) fun j => (match ρ x with
      | .p b off => some (.p b (off + j * sz), bxs)
      | .v y => ob (addOffV y (j * sz)) fun z => some (.v z, bxs)
      | _ => none)
    | _ => none)
  | .index t x i => (match P.underlying t with
    | some (.array n e) => ob (lay? P e) fun ly => ob (indexV ly.1 ly.2 n (ρ x).toSV (ρ i).toSV) fun r => some (.v r, bxs)
    | some .string => ob (strAt (ρ x).toSV (ρ i).toSV) fun r => some (.v r, bxs)
    | _ => none)
  | .extract x i => (match ρ x with
    | .t vs => ob (vs[i]?) fun r => some (.v r, bxs)
    | _ => none)
  | .call c => effCall P call o c ρ bxs
  | _ => none

theorem ob_some {α β : Type} {o : Option α} {k : α → Option β} {r : β} (h : ob o k = some r) : ∃ x, o = some x ∧ k x = some r := by
  cases o with
  | none => cases h
  | some x => exact ⟨x, rfl, h⟩
theorem okO_some {β : Type} {b : Bool} {x : Option β} {r : β} (h : okO b x = some r) : b = true ∧ x = some r := by
  cases b with
  | false => cases h
  | true => exact ⟨rfl, h⟩

variable {P gl call} {C : Con} (hC : ∀ f args r, call f args = some r → C f args r)
include hC

theorem callX_sound {n : Nat} {bxs : List Box} {f : FuncId} {args : List SV} {k : Slot → List Box → Prop} {s : Slot} {b' : List Box} (h : callX call n bxs f args = some (s, b')) (hk : k s b') :
    callK C n bxs k f args := by
  unfold callX at h
  unfold callK
  split at h
  · obtain ⟨r, hr, h⟩ := ob_some h
    obtain ⟨ht, h⟩ := okO_some h
    cases h
    exact ⟨r, hC _ _ _ hr, by simpa using ht, hk⟩
  · rename_i hn
    obtain ⟨r, hr, h⟩ := ob_some h
    split at h
    · rename_i rs
      split at h
      · rename_i hl
        cases h
        split
        · exact absurd rfl hn
        · exact exN_intro rs hl ⟨hC _ _ _ hr, hk⟩
      · cases h
    · cases h

theorem effCall_sound {o : Oper} {c : Call} (ho : o.op = .call c) {id : Nat} {ρ : Operand → Slot} {bxs : List Box} {k : Slot → List Box → Prop} {s : Slot} {b' : List Box}
    (h : effCall P call o c ρ bxs = some (s, b')) (hk : k s b') : eff P C id o ρ bxs k := by
  unfold effCall at h
  unfold eff
  rw [ho]
  dsimp only
  cases hc : c.callee with
  | value f =>
    rw [hc] at h
    dsimp only at h ⊢
    cases hf : ρ f with
    | v x =>
      rw [hf] at h
      dsimp only at h ⊢
      obtain ⟨r, hr, h⟩ := ob_some h
      unfold withFnX at hr
      unfold withFn
      split at hr
      · cases hr; exact callX_sound hC h hk
      · cases hr; exact callX_sound hC h hk
      · cases hr
    | c g first cap =>
      rw [hf] at h
      cases g with
      | func g => exact callX_sound hC h hk
      | _ => cases h
    | _ => rw [hf] at h; cases h
  | invoke f name =>
    rw [hc] at h
    dsimp only at h ⊢
    cases hf : ρ f with
    | v x =>
      rw [hf] at h
      dsimp only at h ⊢
      obtain ⟨r, hr, h⟩ := ob_some h
      unfold withMethX at hr
      unfold withMeth
      split at hr
      · obtain ⟨f', hf', hr⟩ := ob_some hr
        cases hr
        dsimp only
        rw [hf']
        exact callX_sound hC h hk
      · cases hr
    | _ => rw [hf] at h; cases h
  | builtin b =>
    rw [hc] at h
    dsimp only at h ⊢
    split at h
    · obtain ⟨r, hr, h⟩ := ob_some h
      cases h
      rename_i hx ht
      simp only [hx, ht, hr, bindO]; exact hk
    · rename_i x y t u hx ht
      obtain ⟨htu, h⟩ := okO_some h
      obtain ⟨e', he, h⟩ := ob_some h
      obtain ⟨sz, hsz, h⟩ := ob_some h
      obtain ⟨by_, hby, h⟩ := ob_some h
      obtain ⟨z, hz, h⟩ := ob_some h
      obtain ⟨hcc, h⟩ := okO_some h
      obtain ⟨r, hr, h⟩ := ob_some h
      cases h
      unfold appX at hr
      obtain ⟨r', hr', h⟩ := ob_some hr
      split at h
      · rename_i hle
        cases h
        simp only [hx, ht, htu, cond_true, he, hsz, hby, hz, bindO, hcc, appP, hr']; exact ⟨hle, hk⟩
      · cases h
    · obtain ⟨r, hr, h⟩ := ob_some h
      cases h
      rename_i hx
      simp only [hx, hr, bindO]; exact hk
    · obtain ⟨r, hr, h⟩ := ob_some h
      cases h
      rename_i hx
      simp only [hx, hr, bindO]; exact hk
    · cases h
end
end Go.Proofs.YtcnnhnjcnekhcaaGreat.Ab
/-
  THE ABSTRACT WALK, RUN: one operation.
-/
namespace Go.Proofs.YtcnnhnjcnekhcaaGreat.Ab
open Go

section
variable {P : Program} {gl : Nat → Option D} {call : FuncId → List SV → Option SV} {C : Con} (hC : ∀ f args r, call f args = some r → C f args r)

theorem ifX_some {β : Type} {x : SV} {A B : Option β} {r : β} (h : ifX x A B = some r) : (x = .d (.bool true) ∧ A = some r) ∨ (x = .d (.bool false) ∧ B = some r) := by
  unfold ifX at h
  split at h
  · exact .inl ⟨rfl, h⟩
  · exact .inr ⟨rfl, h⟩
  · cases h

theorem loadBoxX_sound {agg : Bool} {sz b off : Nat} {bxs : List Box} {k : Slot → List Box → Prop} {s : Slot} {b' : List Box} (h : loadBoxX agg sz b off bxs = some (s, b')) (hk : k s b') :
    loadBox agg sz b off bxs k := by
  unfold loadBoxX at h
  unfold loadBox
  split at h
  · rename_i hb
    rw [hb]
    obtain ⟨x, hx, h⟩ := ob_some h
    cases h
    simp only [hx, bindO]; exact hk
  · rename_i hb
    rw [hb]
    split at h
    · cases h; exact hk
    · cases h
  · cases h

theorem storeBoxX_sound {sz b off : Nat} {x : Slot} {bxs : List Box} {k : List Box → Prop} {b' : List Box} (h : storeBoxX sz b off x bxs = some b') (hk : k b') :
    storeBox sz b off x bxs k := by
  unfold storeBoxX at h
  unfold storeBox
  split at h
  · rename_i cs hcs
    rw [hcs]
    cases x with
    | v y =>
      dsimp only at h ⊢
      obtain ⟨l, hl, h⟩ := ob_some h
      split at h
      · split at h
        · cases h; simp only [hl, bindO]; exact ⟨by assumption, by assumption, hk⟩
        · cases h
      · cases h
    | t vs => cases h
    | p b off' => 
      dsimp only at h ⊢
      split at h
      · cases h; exact hk
      · cases h
    | c f a b =>
      dsimp only at h ⊢
      split at h
      · cases h; exact hk
      · cases h
  · rename_i hb
    rw [hb]
    dsimp only at h ⊢
    split at h
    · cases x with
      | v y =>
        dsimp only at h ⊢
        obtain ⟨l, hl, h⟩ := ob_some h
        split at h
        · cases h; simp only [hl, bindO]; exact ⟨by assumption, hk⟩
        · cases h
      | t vs => cases h
      | _ => dsimp only at h ⊢; cases h; exact hk
    · cases h
  · cases h

include hC
theorem effX_sound {id : Nat} {o : Oper} {ρ : Operand → Slot} {bxs : List Box} {k : Slot → List Box → Prop} {s : Slot} {b' : List Box}
    (h : effX P call id o ρ bxs = some (s, b')) (hk : k s b') : eff P C id o ρ bxs k := by
  unfold effX at h
  cases ho : o.op
  case call c => rw [ho] at h; exact effCall_sound hC ho h hk
  all_goals rw [ho] at h; dsimp only at h; unfold eff; rw [ho]; dsimp only
  case move x => cases h; exact hk
  case assign x => cases h; exact hk
  case pick c a b =>
    cases hc : ρ c with
    | v x =>
      rw [hc] at h
      rcases ifX_some h with ⟨rfl, h⟩ | ⟨rfl, h⟩ <;> cases h <;> exact hk
    | _ => rw [hc] at h; cases h
  case alloc t =>
    split at h
    · rename_i hb
      rw [hb]
      obtain ⟨z, hz, h⟩ := ob_some h
      cases h
      simp only [hz, bindO]; exact hk
    · cases h
  case box t x =>
    split at h
    · rename_i hb
      rw [hb]
      obtain ⟨sz, hz, h⟩ := ob_some h
      simp only [hz, bindO]
      cases hx : ρ x with
      | v y =>
        rw [hx] at h
        dsimp only at h ⊢
        obtain ⟨l, hl, h⟩ := ob_some h
        split at h
        · cases h; simp only [hl]; exact ⟨by assumption, hk⟩
        · cases h
      | t vs => rw [hx] at h; cases h
      | _ =>
        rw [hx] at h
        dsimp only at h ⊢
        split at h
        · cases h; exact hk
        · cases h
    · cases h
  case build t ps =>
    obtain ⟨l, hl, h⟩ := ob_some h
    obtain ⟨r, hr, h⟩ := ob_some h
    cases h
    simp only [hl, hr, bindO]; exact hk
  case buildSlice t n ps =>
    obtain ⟨e, he, h⟩ := ob_some h
    obtain ⟨ly, hly, h⟩ := ob_some h
    obtain ⟨z, hz, h⟩ := ob_some h
    obtain ⟨l, hl, h⟩ := ob_some h
    obtain ⟨hc, h⟩ := okO_some h
    obtain ⟨hf, h⟩ := okO_some h
    cases h
    simp only [he, hly, hz, hl, hc, bindO, cond_true]; exact ⟨hf, hk⟩
  case load t a =>
    obtain ⟨ly, hly, h⟩ := ob_some h
    simp only [hly, bindO]
    cases ha : ρ a with
    | p b off => rw [ha] at h; exact loadBoxX_sound h hk
    | v x =>
      rw [ha] at h
      obtain ⟨y, hy, h⟩ := ob_some h
      cases h
      simp only [hy]; exact hk
    | _ => rw [ha] at h; cases h
  case store t a x =>
    obtain ⟨sz, hsz, h⟩ := ob_some h
    simp only [hsz, bindO]
    cases ha : ρ a with
    | p b off =>
      rw [ha] at h
      dsimp only at h ⊢
      cases hd : o.dst with
      | none =>
        rw [hd] at h
        dsimp only at h ⊢
        obtain ⟨y, hy, h⟩ := ob_some h
        cases h
        exact storeBoxX_sound hy hk
      | some d => rw [hd] at h; cases h
    | _ => rw [ha] at h; cases h
  case nilCheck x =>
    cases hx : ρ x with
    | v y =>
      rw [hx] at h
      obtain ⟨z, hz, h⟩ := ob_some h
      cases h
      simp only [hz, bindO]; exact hk
    | t vs => rw [hx] at h; cases h
    | c f first cap =>
      rw [hx] at h
      cases f with
      | func f => cases h; exact hk
      | _ => cases h
    | p b off => rw [hx] at h; cases h; exact hk
  case binOp op t x y u =>
    obtain ⟨r, hr, h⟩ := ob_some h
    cases h
    simp only [hr, bindO]; exact hk
  case unOp op t x =>
    obtain ⟨r, hr, h⟩ := ob_some h
    cases h
    simp only [hr, bindO]; exact hk
  case convert src dst x =>
    obtain ⟨hs, h⟩ := okO_some h
    obtain ⟨r, hr, h⟩ := ob_some h
    cases h
    simp only [hs, hr, bindO, cond_true]; exact hk
  case makeInterface t x =>
    obtain ⟨hs, h⟩ := okO_some h
    obtain ⟨r, hr, h⟩ := ob_some h
    cases h
    have hs' : isIface P t = false := by simpa using hs
    simp only [hs', hr, bindO, cond_false]; exact hk
  case makeFunc fn first cap => cases h; exact hk
  case slice t x lo hi mx =>
    obtain ⟨r, hr, h⟩ := ob_some h
    cases h
    simp only [hr, bindO]; exact hk
  case fieldAddr t x f =>
    obtain ⟨fd, hfd, h⟩ := ob_some h
    obtain ⟨sz, hsz, h⟩ := ob_some h
    obtain ⟨hs, h⟩ := okO_some h
    have hs' : Nat.beq sz 0 = false := by simpa using hs
    simp only [hfd, hsz, hs', bindO, cond_false]
    cases hx : ρ x with
    | p b off => rw [hx] at h; cases h; exact hk
    | v y =>
      rw [hx] at h
      obtain ⟨z, hz, h⟩ := ob_some h
      cases h
      simp only [hz]; exact hk
    | _ => rw [hx] at h; cases h
  case field t x f =>
    obtain ⟨fd, hfd, h⟩ := ob_some h
    obtain ⟨ly, hly, h⟩ := ob_some h
    obtain ⟨r, hr, h⟩ := ob_some h
    cases h
    simp only [hfd, hly, hr, bindO]; exact hk
  case indexAddr t x i =>
    split at h
    · rename_i hb
      rw [hb]
      dsimp only
      obtain ⟨sz, hsz, h⟩ := ob_some h
      obtain ⟨r, hr, h⟩ := ob_some h
      cases h
      simp only [hsz, hr, bindO]; exact hk
    · rename_i hb
      rw [hb]
      dsimp only
      obtain ⟨sz, hsz, h⟩ := ob_some h
      obtain ⟨j, hj, h⟩ := ob_some h
      simp only [hsz, hj, bindO]
      cases hx : ρ x with
      | p b off => rw [hx] at h; cases h; exact hk
      | v y =>
        rw [hx] at h
        obtain ⟨z, hz, h⟩ := ob_some h
        cases h
        simp only [hz]; exact hk
      | _ => rw [hx] at h; cases h
    · cases h
  case index t x i =>
    split at h
    · rename_i hb
      rw [hb]
      dsimp only
      obtain ⟨ly, hly, h⟩ := ob_some h
      obtain ⟨r, hr, h⟩ := ob_some h
      cases h
      simp only [hly, hr, bindO]; exact hk
    · rename_i hb
      rw [hb]
      dsimp only
      obtain ⟨r, hr, h⟩ := ob_some h
      cases h
      simp only [hr, bindO]; exact hk
    · cases h
  case extract x i =>
    cases hx : ρ x with
    | t vs =>
      rw [hx] at h
      obtain ⟨r, hr, h⟩ := ob_some h
      cases h
      simp only [hr]; exact hk
    | _ => rw [hx] at h; cases h
  all_goals cases h
end
end Go.Proofs.YtcnnhnjcnekhcaaGreat.Ab
/-
  THE ABSTRACT WALK, RUN: regions, text, functions.
-/
namespace Go.Proofs.YtcnnhnjcnekhcaaGreat.Ab
open Go

section
variable (P : Program) (gl : Nat → Option D) (call : FuncId → List SV → Option SV) (h : Hints)

def evLinX (o : Oper) (e : Env) : Option Env := match o.op with
  | .move (.tmp t) | .assign (.tmp t) => some ⟨putSlot (e.slots.set t (e.slots.getD t (.v .undef)).demote) o.dst (e.slots.getD t (.v .undef)), e.boxes⟩
  | .extract (.tmp t) i => (match e.slots.getD t (.v .undef) with
    | .t vs => ob (vs[i]?) fun r => some ⟨putSlot (e.slots.set t (.t (vs.set i (demote r)))) o.dst (.v r), e.boxes⟩
    | _ => none)
  | .load ty a => (match (opnd gl e a).demote with
    | .p b off => ob (lay? P ty) fun ly => okO (!ly.1) (match e.boxes[b]? with
      | some (.cells cs) => ob cs[off]? fun x => some ⟨putSlot e.slots o.dst (.v x), e.boxes.set b (.cells (cs.set off (demote x)))⟩
      | _ => none)
    | _ => none)
  | .store ty a (.tmp t) => (match (opnd gl e a).demote, e.slots.getD t (.v .undef), o.dst with
    | .p b off, .v y, none => ob (sizeOf? P ty) fun sz => okO (Nat.beq sz 1) (match e.boxes[b]? with
      | some (.cells cs) => ob (cellsV y) fun l => if l.length = 1 then (if off < cs.length then some ⟨e.slots.set t (.v (demote y)), e.boxes.set b (.cells (setAt cs off l))⟩ else none) else none
      | _ => none)
    | _, _, _ => none)
  | .call c => (match c.callee, c.args.toList, c.argTypes.toList with
    | .builtin .append, [.tmp t, y], [ty, u] => okO (Nat.beq ty u) (ob (elemOf? P ty) fun e' => ob (sizeOf? P e') fun sz => ob (bytesOf? P e') fun by_ => ob (zeroCells? P e') fun z =>
          okO (Nat.blt 0 by_ && Nat.blt 0 sz && Nat.beq z.length sz) (ob (appX sz by_ (e.slots.getD t (.v .undef)).toSV ((opnd gl e y).demote).toSV) fun r =>
            some ⟨putSlot (e.slots.set t (e.slots.getD t (.v .undef)).demote) o.dst (.v r), e.boxes⟩))
    | _, _, _ => none)
  | _ => none
def evOpX (id : Nat) (lin : Bool) (o : Oper) (e : Env) : Option Env := match lin with
  | true => evLinX P gl o e
  | false => ob (effX P call id o (fun x => (opnd gl e x).demote) e.boxes) fun r => some ⟨putSlot e.slots o.dst r.1, r.2⟩

/-- is it run -/
def guardX (all : List Oper) (o : Oper) (e : Env) : Option (Bool × Env) :=
  match o.guard with
  | none => some (true, e)
  | some (j, want) => (match (match all[j]? with | some g => g.dst | none => none) with
    | some t => (match e.slots.getD t (.v .undef) with
      | .v (.d (.bool true)) => some (want, e.setB t true)
      | .v (.d (.bool false)) => some (!want, e.setB t false)
      | .t _ => some (false, e)
      | _ => none)
    | none => none)
def evOpsX (lin : Nat → Bool) (all : List Oper) (base : Nat) : List Oper → Nat → Env → Option Env
  | [], _, e => some e
  | o :: rest, i, e => ob (guardX all o e) fun r => match r.1 with
    | true => ob (evOpX P gl call (base + rankOf all i) (lin i) o r.2) fun e'' => evOpsX lin all base rest (i + 1) e''
    | false => evOpsX lin all base rest (i + 1) ⟨putSlot r.2.slots o.dst (.t []), r.2.boxes⟩
def evRegionX (lin : Nat → Bool) (ops : List Oper) (e : Env) : Option Env :=
  evOpsX P gl call lin ops e.boxes.length ops 0 ⟨e.slots, e.boxes ++ List.replicate (rankOf ops ops.length) .none⟩

def condX (e : Env) (c : Operand) : Option (Bool × Env) := match c with
  | .tmp t => (match e.slots.getD t (.v .undef) with
    | .v (.d (.bool true)) => some (true, e.setB t true)
    | .v (.d (.bool false)) => some (false, e.setB t false)
    | _ => none)
  | .const (.bool b) => some (b, e)
  | _ => none

def loopX (vars : List Nat) (nb : Nat) (F : List SV → List (List SV) → Option (Ex × Env)) : Nat → List SV → List (List SV) → Option (Ex × Env)
  | 0, _, _ => none
  | n + 1, vs, bs => ob (F vs bs) fun r => match r.1 with
    | .normal => loopX vars nb F n (valsOf r.2 vars) (boxesOf nb r.2)
    | .exit i => some (.exit i, r.2)
    | .ret => some (.ret, r.2)

def xaw (lf : Nat) : Code → Env → Option (Ex × Env)
  | .skip, e => some (.normal, e)
  | .region id ops draw, e => okO (!draw || okAny (linAt h id) ops) (ob (evRegionX P gl call (linAt h id) ops.toList e) fun e' => some (.normal, e'))
  | .seq a b, e => ob (xaw lf a e) fun r => match r.1 with
    | .normal => xaw lf b r.2
    | .exit i => some (.exit i, r.2)
    | .ret => some (.ret, r.2)
  | .cond c a b, e => ob (condX e c) fun r => match r.1 with
    | true => xaw lf a r.2
    | false => xaw lf b r.2
  | .block id b, e => ob (xaw lf b e) fun r => match r.1 with
    | .normal => some (.normal, r.2)
    | .exit i => some (bif i == id then .normal else .exit i, r.2)
    | .ret => some (.ret, r.2)
  | .loop b, e => (match keepAt h.keep (firstId b) with
    | (vars, consts) => okO (consts.all (fun t => !(writesOf b).contains t) && keepsOk (writesOf b) vars consts e.slots 0)
        (loopX vars e.boxes.length (fun vs bs => xaw lf b ⟨restartSlots vars consts vs e.slots 0, restartBoxes bs e.boxes 0⟩) lf (valsOf e vars) (boxesOf e.boxes.length e)))
  | .exit id, e => some (.exit id, e)
  | .ret, e => some (.ret, e)
  | _, _ => none

def resX (e : Env) (used : List Nat) (r : ResultVar) : Option SV := match r with
  | .tmp t => (match e.slots.getD t (.v .undef) with
    | .v x => okO x.noRef (some (bif used.contains t then demote x else x))
    | _ => none)
  | .cell a t => ob (lay? P t) fun ly => (match e.slots.getD a (.v .undef) with
    | .p b off => ob (loadBoxX ly.1 ly.2 b off e.boxes) fun s => (match s.1 with
      | .v x => okO x.noRef (some x)
      | _ => none)
    | _ => none)
def ressX (e : Env) : List Nat → List ResultVar → Option (List SV)
  | _, [] => some []
  | used, r :: l => ob (resX P e used r) fun x => ob (ressX e (usedOf used r) l) fun xs => some (x :: xs)
def finishX (fn : Func) (e : Env) : Option SV := match fn.results.toList with
  | [r] => resX P e [] r
  | l => ob (ressX P e [] l) fun xs => some (.tup xs)
def bodyX (lf : Nat) (f : FuncId) (args : List SV) : Option SV := match P.funcs[f]? with
  | some fn => (match fn.body with
    | some c => okO (!(fn.name == "runtime.NumGoroutine")) (ob (xaw P gl call h lf c (enter fn.ntmps args)) fun r => match r.1 with
      | .exit _ => none
      | _ => finishX P fn r.2)
    | none => none)
  | none => none
/-- the walk of a function on known values -/
def runX (hs : FuncId → Hints) (lf : Nat) : Nat → FuncId → List SV → Option SV
  | 0, _, _ => none
  | n + 1, f, args => bodyX P gl (runX hs lf n) (hs f) lf f args
end

section
variable {P : Program} {gl : Nat → Option D} {call : FuncId → List SV → Option SV} {h : Hints} {C : Con} (hC : ∀ f args r, call f args = some r → C f args r)

theorem evLinX_sound {o : Oper} {e e' : Env} {k : Env → Prop} (hh : evLinX P gl o e = some e') (hk : k e') : evLin P gl o e k := by
  unfold evLinX at hh
  unfold evLin
  split at hh
  · rename_i ho; rw [ho]; cases hh; exact hk
  · rename_i ho; rw [ho]; cases hh; exact hk
  · rename_i t i ho
    rw [ho]
    dsimp only
    cases hs : e.slots.getD t (.v .undef) with
    | t vs =>
      rw [hs] at hh
      obtain ⟨r, hr, hh⟩ := ob_some hh
      cases hh
      simp only [hr]; exact hk
    | _ => rw [hs] at hh; cases hh
  · rename_i ty a ho
    rw [ho]
    dsimp only
    cases hs : (opnd gl e a).demote with
    | p b off =>
      rw [hs] at hh
      obtain ⟨ly, hly, hh⟩ := ob_some hh
      obtain ⟨hl, hh⟩ := okO_some hh
      have hl' : ly.1 = false := by simpa using hl
      simp only [hly, bindO, hl', cond_false]
      split at hh
      · rename_i hb
        rw [hb]
        obtain ⟨x, hx, hh⟩ := ob_some hh
        cases hh
        simp only [hx]; exact hk
      · cases hh
    | _ => rw [hs] at hh; cases hh
  · rename_i ty a t ho
    rw [ho]
    dsimp only
    split at hh
    · rename_i hs hy hd
      rw [hs, hy, hd]
      dsimp only
      obtain ⟨sz, hsz, hh⟩ := ob_some hh
      obtain ⟨hl, hh⟩ := okO_some hh
      simp only [hsz, bindO, hl, cond_true]
      split at hh
      · rename_i hb
        rw [hb]
        obtain ⟨x, hx, hh⟩ := ob_some hh
        split at hh
        · split at hh
          · cases hh
            simp only [hx]; exact ⟨by assumption, by assumption, hk⟩
          · cases hh
        · cases hh
      · cases hh
    · cases hh
  · rename_i c ho
    rw [ho]
    dsimp only
    split at hh
    · rename_i hc hx ht
      rw [hc, hx, ht]
      dsimp only
      obtain ⟨htu, hh⟩ := okO_some hh
      obtain ⟨e', he, hh⟩ := ob_some hh
      obtain ⟨sz, hsz, hh⟩ := ob_some hh
      obtain ⟨by_, hby, hh⟩ := ob_some hh
      obtain ⟨z, hz, hh⟩ := ob_some hh
      obtain ⟨hcc, hh⟩ := okO_some hh
      obtain ⟨r, hr, hh⟩ := ob_some hh
      cases hh
      unfold appX at hr
      obtain ⟨r', hr', hr⟩ := ob_some hr
      split at hr
      · rename_i hle
        cases hr
        simp only [htu, cond_true, he, hsz, hby, hz, bindO, hcc, appP, hr']; exact ⟨hle, hk⟩
      · cases hr
    · cases hh
  · cases hh

include hC
theorem evOpX_sound {id : Nat} {lin : Bool} {o : Oper} {e e' : Env} {k : Env → Prop} (hh : evOpX P gl call id lin o e = some e') (hk : k e') : evOp P gl C id lin o e k := by
  unfold evOpX at hh
  unfold evOp
  cases lin with
  | true => exact evLinX_sound hh hk
  | false =>
    obtain ⟨r, hr, hh⟩ := ob_some hh
    cases hh
    exact effX_sound hC (k := fun r bxs => k ⟨putSlot e.slots o.dst r, bxs⟩) (s := r.1) (b' := r.2) hr hk

theorem evOpsX_sound {lin : Nat → Bool} {all : List Oper} {base : Nat} : ∀ (l : List Oper) (i : Nat) (e e' : Env) (k : Env → Prop), evOpsX P gl call lin all base l i e = some e' → k e' → evOps P gl C lin all base l i e k
  | [], i, e, e', k, hh, hk => by
    unfold evOpsX at hh
    unfold evOps
    cases hh; exact hk
  | o :: rest, i, e, e', k, hh, hk => by
    unfold evOpsX at hh
    unfold evOps
    obtain ⟨r, hr, hh⟩ := ob_some hh
    have goT : r.1 = true → evOp P gl C (base + rankOf all i) (lin i) o r.2 fun e'' => evOps P gl C lin all base rest (i + 1) e'' k := by
      intro h1
      rw [h1] at hh
      obtain ⟨e'', he, hh⟩ := ob_some hh
      exact evOpX_sound hC he (evOpsX_sound rest (i + 1) e'' e' k hh hk)
    have goF : r.1 = false → evOps P gl C lin all base rest (i + 1) ⟨putSlot r.2.slots o.dst (.t []), r.2.boxes⟩ k := by
      intro h1
      rw [h1] at hh
      exact evOpsX_sound rest (i + 1) _ e' k hh hk
    unfold guardX at hr
    unfold guardP
    split at hr
    · rename_i hg
      rw [hg]
      cases hr
      exact goT rfl
    · rename_i j want hg
      rw [hg]
      dsimp only
      cases ha : all[j]? with
      | none => rw [ha] at hr; cases hr
      | some gd =>
        rw [ha] at hr
        dsimp only at hr ⊢
        cases ht : gd.dst with
        | none => rw [ht] at hr; cases hr
        | some t =>
          rw [ht] at hr
          dsimp only at hr ⊢
          split at hr
          · rename_i hs
            rw [hs]
            cases hr
            cases want with
            | true => exact goT rfl
            | false => exact goF rfl
          · rename_i hs
            rw [hs]
            cases hr
            cases want with
            | true => exact goF rfl
            | false => exact goT rfl
          · rename_i hs
            rw [hs]
            cases hr
            exact goF rfl
          · cases hr

omit hC in
theorem condX_some {e : Env} {c : Operand} {r : Bool × Env} (hr : condX e c = some r) {A B : Env → Prop} (hA : r.1 = true → A r.2) (hB : r.1 = false → B r.2) : condP e c A B := by
  unfold condX at hr
  unfold condP
  split at hr
  · rename_i t
    dsimp only
    split at hr
    · rename_i hs; rw [hs]; cases hr; exact hA rfl
    · rename_i hs; rw [hs]; cases hr; exact hB rfl
    · cases hr
  · rename_i b
    cases hr
    cases b with
    | true => exact hA rfl
    | false => exact hB rfl
  · cases hr

theorem xaw_sound {lf : Nat} : ∀ (c : Code) (e : Env) (r : Ex × Env) (Q : Ex → Env → Prop), xaw P gl call h lf c e = some r → Q r.1 r.2 → aw P gl C h c Q e
  | .skip, e, r, Q, hh, hQ => by unfold xaw at hh; unfold aw; cases hh; exact hQ
  | .region id ops draw, e, r, Q, hh, hQ => by
    unfold xaw at hh
    unfold aw
    obtain ⟨h1, hh⟩ := okO_some hh
    obtain ⟨e', he, hh⟩ := ob_some hh
    cases hh
    rw [h1, cond_true]
    exact evOpsX_sound hC _ _ _ e' _ he hQ
  | .seq a b, e, r, Q, hh, hQ => by
    unfold xaw at hh
    unfold aw
    obtain ⟨r1, h1, hh⟩ := ob_some hh
    refine xaw_sound a e r1 _ h1 ?_
    cases hx : r1.1 with
    | normal => rw [hx] at hh; exact xaw_sound b _ r _ hh hQ
    | exit i => rw [hx] at hh; cases hh; exact hQ
    | ret => rw [hx] at hh; cases hh; exact hQ
  | .cond c a b, e, r, Q, hh, hQ => by
    unfold xaw at hh
    unfold aw
    obtain ⟨r1, h1, hh⟩ := ob_some hh
    refine condX_some h1 (fun hx => ?_) (fun hx => ?_)
    · rw [hx] at hh; exact xaw_sound a _ r _ hh hQ
    · rw [hx] at hh; exact xaw_sound b _ r _ hh hQ
  | .block id b, e, r, Q, hh, hQ => by
    unfold xaw at hh
    unfold aw
    obtain ⟨r1, h1, hh⟩ := ob_some hh
    refine xaw_sound b e r1 _ h1 ?_
    cases hx : r1.1 with
    | normal => rw [hx] at hh; cases hh; exact hQ
    | exit i =>
      rw [hx] at hh
      cases hh
      cases hi : (i == id) with
      | true => rw [hi] at hQ; dsimp only; rw [hi]; exact hQ
      | false => rw [hi] at hQ; dsimp only; rw [hi]; exact hQ
    | ret => rw [hx] at hh; cases hh; exact hQ
  | .loop b, e, r, Q, hh, hQ => by
    unfold xaw at hh
    unfold aw
    dsimp only at hh ⊢
    obtain ⟨h1, hh⟩ := okO_some hh
    rw [h1, cond_true]
    have key : ∀ (n : Nat) (vs : List SV) (bs : List (List SV)), loopX (keepAt h.keep (firstId b)).1 e.boxes.length (fun vs bs => xaw P gl call h lf b ⟨restartSlots (keepAt h.keep (firstId b)).1 (keepAt h.keep (firstId b)).2 vs e.slots 0, restartBoxes bs e.boxes 0⟩) n vs bs = some r →
        loopP (fun vs bs I => aw P gl C h b (fun x e' => match x with | .normal => I (valsOf e' (keepAt h.keep (firstId b)).1) (boxesOf e.boxes.length e') | .exit i => Q (.exit i) e' | .ret => Q .ret e')
            ⟨restartSlots (keepAt h.keep (firstId b)).1 (keepAt h.keep (firstId b)).2 vs e.slots 0, restartBoxes bs e.boxes 0⟩) vs bs := by
      intro n
      induction n with
      | zero => intro vs bs hl; cases hl
      | succ n ih =>
        intro vs bs hl I hI
        unfold loopX at hl
        obtain ⟨r1, hr1, hl⟩ := ob_some hl
        refine hI vs bs (xaw_sound b _ r1 _ hr1 ?_)
        cases hx : r1.1 with
        | normal => rw [hx] at hl; exact ih _ _ hl I hI
        | exit i => rw [hx] at hl; cases hl; exact hQ
        | ret => rw [hx] at hl; cases hl; exact hQ
    exact key lf _ _ hh
  | .exit id, e, r, Q, hh, hQ => by unfold xaw at hh; unfold aw; cases hh; exact hQ
  | .ret, e, r, Q, hh, hQ => by unfold xaw at hh; unfold aw; cases hh; exact hQ
  | .scope _, e, r, Q, hh, hQ => by unfold xaw at hh; cases hh
  | .rangeFunc .., e, r, Q, hh, hQ => by unfold xaw at hh; cases hh

omit hC in
theorem resX_sound {e : Env} {used : List Nat} {r : ResultVar} {x : SV} {k : SV → Prop} (hh : resX P e used r = some x) (hk : k x) : resP P e used r k := by
  unfold resX at hh
  unfold resP
  split at hh
  · dsimp only
    split at hh
    · rename_i hs
      rw [hs]
      obtain ⟨h1, hh⟩ := okO_some hh
      cases hh
      exact ⟨h1, hk⟩
    · cases hh
  · obtain ⟨ly, hly, hh⟩ := ob_some hh
    dsimp only
    simp only [hly, bindO]
    split at hh
    · rename_i hs
      rw [hs]
      obtain ⟨s, hl, hh⟩ := ob_some hh
      dsimp only
      refine loadBoxX_sound (s := s.1) (b' := s.2) hl ?_
      split at hh
      · rename_i hsx
        rw [hsx]
        obtain ⟨h1, hh⟩ := okO_some hh
        cases hh
        exact ⟨h1, hk⟩
      · cases hh
    · cases hh
omit hC in
theorem ressX_sound {e : Env} : ∀ (l : List ResultVar) (used : List Nat) (xs : List SV) (k : List SV → Prop), ressX P e used l = some xs → k xs → ressP P e used l k
  | [], used, xs, k, hh, hk => by unfold ressX at hh; unfold ressP; cases hh; exact hk
  | r :: l, used, xs, k, hh, hk => by
    unfold ressX at hh
    unfold ressP
    obtain ⟨x, hx, hh⟩ := ob_some hh
    obtain ⟨ys, hy, hh⟩ := ob_some hh
    cases hh
    exact resX_sound hx (ressX_sound l _ ys _ hy hk)
omit hC in
theorem finishX_sound {fn : Func} {e : Env} {x : SV} {K : SV → Prop} (hh : finishX P fn e = some x) (hk : K x) : finish P fn e K := by
  unfold finishX at hh
  unfold finish
  match hl : fn.results.toList with
  | [r] => rw [hl] at hh; exact resX_sound hh hk
  | [] =>
    rw [hl] at hh
    obtain ⟨xs, hx, hh⟩ := ob_some hh
    cases hh
    exact ressX_sound _ _ xs (fun xs => K (.tup xs)) hx hk
  | r :: r' :: l =>
    rw [hl] at hh
    obtain ⟨xs, hx, hh⟩ := ob_some hh
    cases hh
    exact ressX_sound _ _ xs (fun xs => K (.tup xs)) hx hk

theorem bodyX_sound {lf : Nat} {f : FuncId} {args : List SV} {x : SV} {K : SV → Prop} (hh : bodyX P gl call h lf f args = some x) (hk : K x) : body P gl C h f args K := by
  unfold bodyX at hh
  unfold body
  split at hh
  · rename_i fn hf
    rw [hf]
    dsimp only
    split at hh
    · rename_i c hb
      rw [hb]
      intro _
      obtain ⟨_, hh⟩ := okO_some hh
      obtain ⟨r, hr, hh⟩ := ob_some hh
      refine xaw_sound hC c _ r _ hr ?_
      cases hx : r.1 with
      | normal => rw [hx] at hh; exact finishX_sound hh hk
      | exit i => rw [hx] at hh; cases hh
      | ret => rw [hx] at hh; exact finishX_sound hh hk
    · cases hh
  · cases hh
end

theorem enters_of_bodyX {P : Program} {gl : Nat → Option D} {call : FuncId → List SV → Option SV} {h : Hints} {lf : Nat} {f : FuncId} {args : List SV} {x : SV} (hh : bodyX P gl call h lf f args = some x) : Enters P f := by
  unfold bodyX at hh
  split at hh
  · rename_i fn hf
    split at hh
    · rename_i c hb
      obtain ⟨hn, _⟩ := okO_some hh
      have hn' : (fn.name == "runtime.NumGoroutine") = false := by simpa using hn
      intro as w
      have h2 : fn.body ≠ none := by rw [hb]; simp
      have h3 : fn.name ≠ "runtime.NumGoroutine" := by simpa using hn'
      simp [callFunc, go_sem, hf, h3, h2]
    · cases hh
  · cases hh

/-- **A CONTRACT, BY RUNNING** -/
theorem holds_of_runX {P : Program} {gl : Nat → Option D} (hm : P.follows .mixedOrders = true) (hs : FuncId → Hints) (lf : Nat) : ∀ (n : Nat) (f : FuncId) (args : List SV) (r : SV), runX P gl hs lf n f args = some r → Holds P gl f args r
  | 0, f, args, r, hh => by cases hh
  | n + 1, f, args, r, hh => by
    unfold runX at hh
    exact holds_of_body hm (enters_of_bodyX hh) (bodyX_sound (holds_of_runX hm hs lf n) hh rfl)
end Go.Proofs.YtcnnhnjcnekhcaaGreat.Ab
/-
  THE ABSTRACT WALK CHOOSES ONE OUTCOME: what holds of a walk's outcome holds of one value; a contract whose result is only described.
-/
namespace Go.Proofs.YtcnnhnjcnekhcaaGreat.Ab
open Go

/-- a walk that has one outcome -/
def Pt {X : Type} (T : (X → Prop) → Prop) : Prop := ∀ Q, T Q → ∃ x, Q x ∧ ∀ Q', Q' x → T Q'

section
variable {X Y α : Type}
theorem Pt.false : Pt (fun _ : X → Prop => False) := fun _ h => h.elim
theorem Pt.pure (x : X) : Pt (fun Q : X → Prop => Q x) := fun _ h => ⟨x, h, fun _ h' => h'⟩
theorem Pt.bindO {o : Option α} {T : α → (X → Prop) → Prop} (h : ∀ x, Pt (T x)) : Pt (fun Q => bindO o fun x => T x Q) := by
  intro Q hq
  cases o with
  | none => exact hq.elim
  | some x => exact h x Q hq
theorem Pt.ifP {x : SV} {A B : (X → Prop) → Prop} (hA : Pt A) (hB : Pt B) : Pt (fun Q => ifP x (A Q) (B Q)) := by
  intro Q hq
  obtain ⟨b, rfl, h1, h2⟩ := ifP_bool hq
  cases b with
  | true => exact hA Q (h1 rfl)
  | false => exact hB Q (h2 rfl)
theorem Pt.and {p : Prop} {A : (X → Prop) → Prop} (hA : Pt A) : Pt (fun Q => p ∧ A Q) := by
  intro Q ⟨hp, hq⟩
  obtain ⟨x, h1, h2⟩ := hA Q hq
  exact ⟨x, h1, fun Q' h => ⟨hp, h2 Q' h⟩⟩
theorem Pt.ex {T : α → (X → Prop) → Prop} (h : ∀ a, Pt (T a)) : Pt (fun Q => ∃ a, T a Q) := by
  intro Q ⟨a, hq⟩
  obtain ⟨x, h1, h2⟩ := h a Q hq
  exact ⟨x, h1, fun Q' h => ⟨a, h2 Q' h⟩⟩
theorem Pt.cond {b : Bool} {A B : (X → Prop) → Prop} (hA : Pt A) (hB : Pt B) : Pt (fun Q => cond b (A Q) (B Q)) := by
  intro Q hq
  cases b with
  | true => exact hA Q hq
  | false => exact hB Q hq
theorem Pt.seq {T : (Y → Prop) → Prop} {S : Y → (X → Prop) → Prop} (hT : Pt T) (hS : ∀ y, Pt (S y)) : Pt (fun Q => T fun y => S y Q) := by
  intro Q hq
  obtain ⟨y, h1, h2⟩ := hT _ hq
  obtain ⟨x, h3, h4⟩ := hS y Q h1
  exact ⟨x, h3, fun Q' h => h2 _ (h4 Q' h)⟩
theorem Pt.seq2 {β : Type} {T : (α → β → Prop) → Prop} {S : α → β → (X → Prop) → Prop} (hT : Pt (fun Q : α × β → Prop => T fun a b => Q (a, b))) (hS : ∀ a b, Pt (S a b)) : Pt (fun Q => T fun a b => S a b Q) := by
  intro Q hq
  obtain ⟨y, h1, h2⟩ := hT (fun y => S y.1 y.2 Q) hq
  obtain ⟨x, h3, h4⟩ := hS y.1 y.2 Q h1
  exact ⟨x, h3, fun Q' h => h2 (fun y => S y.1 y.2 Q') (h4 Q' h)⟩
end

section
variable {P : Program} {gl : Nat → Option D} {C : Con} {h : Hints} {X : Type}

theorem callP_pt {f : FuncId} {args : List SV} {T : SV → (X → Prop) → Prop} (hT : ∀ r, Pt (T r)) : Pt (fun Q => callP C f args fun r => T r Q) :=
  Pt.ex fun r => Pt.and (Pt.and (hT r))
theorem exN_pt : ∀ (n : Nat) {T : List SV → (X → Prop) → Prop}, (∀ l, Pt (T l)) → Pt (fun Q => exN n fun l => T l Q)
  | 0, _, hT => hT []
  | n + 1, _, hT => Pt.ex fun r => exN_pt n fun l => hT (r :: l)
theorem callK_pt {n : Nat} {bxs : List Box} {f : FuncId} {args : List SV} : Pt (fun Q : Slot × List Box → Prop => callK C n bxs (fun s b => Q (s, b)) f args) := by
  unfold callK
  split
  · exact callP_pt fun r => Pt.pure _
  · exact exN_pt _ fun l => Pt.and (Pt.pure _)
theorem appP_pt {sz by_ : Nat} {x y : SV} {T : SV → (X → Prop) → Prop} (hT : ∀ r, Pt (T r)) : Pt (fun Q => appP sz by_ x y fun r => T r Q) :=
  Pt.bindO fun r => Pt.and (hT r.1)
theorem loadBox_pt {agg : Bool} {sz b off : Nat} {bxs : List Box} : Pt (fun Q : Slot × List Box → Prop => loadBox agg sz b off bxs fun s b => Q (s, b)) := by
  unfold loadBox
  cases bxs[b]? with
  | none => exact Pt.false
  | some x =>
    cases x with
    | none => exact Pt.false
    | cells cs => exact Pt.bindO fun x => Pt.pure _
    | one s =>
      refine Pt.cond Pt.false ?_
      cases off with
      | zero => exact Pt.pure _
      | succ n => exact Pt.false
theorem storeBox_pt {sz b off : Nat} {x : Slot} {bxs : List Box} {T : List Box → (X → Prop) → Prop} (hT : ∀ r, Pt (T r)) : Pt (fun Q => storeBox sz b off x bxs fun b => T b Q) := by
  unfold storeBox
  cases bxs[b]? with
  | none => exact Pt.false
  | some y =>
    cases y with
    | none => exact Pt.false
    | cells cs =>
      cases x with
      | v y => exact Pt.bindO fun l => Pt.and (Pt.and (hT _))
      | t _ => exact Pt.false
      | _ =>
        dsimp only
        split
        · exact hT _
        · exact Pt.false
    | one s =>
      dsimp only
      split
      · cases x with
        | v y => exact Pt.bindO fun l => Pt.and (hT _)
        | t _ => exact Pt.false
        | _ => exact hT _
      · exact Pt.false

theorem eff_pt {id : Nat} {o : Oper} {ρ : Operand → Slot} {bxs : List Box} : Pt (fun Q : Slot × List Box → Prop => eff P C id o ρ bxs fun s b => Q (s, b)) := by
  unfold eff
  cases o.op
  case move x => exact Pt.pure _
  case assign x => exact Pt.pure _
  case pick c a b =>
    dsimp only
    cases ρ c with
    | v x => exact Pt.ifP (Pt.pure _) (Pt.pure _)
    | _ => exact Pt.false
  case alloc t =>
    dsimp only
    split
    · exact Pt.bindO fun z => Pt.pure _
    · exact Pt.false
  case box t x =>
    dsimp only
    split
    · refine Pt.bindO fun sz => ?_
      cases ρ x with
      | v y => exact Pt.bindO fun l => Pt.and (Pt.pure _)
      | t _ => exact Pt.false
      | _ =>
        dsimp only
        split
        · exact Pt.pure _
        · exact Pt.false
    · exact Pt.false
  case build t ps => exact Pt.bindO fun l => Pt.bindO fun r => Pt.pure _
  case buildSlice t n ps => exact Pt.bindO fun e => Pt.bindO fun ly => Pt.bindO fun z => Pt.bindO fun l => Pt.cond (Pt.and (Pt.pure _)) Pt.false
  case load t a =>
    refine Pt.bindO fun ly => ?_
    cases ρ a with
    | p b off => exact loadBox_pt
    | v x => exact Pt.bindO fun y => Pt.pure _
    | _ => exact Pt.false
  case store t a x =>
    refine Pt.bindO fun sz => ?_
    cases ρ a with
    | p b off =>
      cases o.dst with
      | none => exact storeBox_pt fun r => Pt.pure _
      | some _ => exact Pt.false
    | _ => exact Pt.false
  case nilCheck x =>
    dsimp only
    cases ρ x with
    | v y => exact Pt.bindO fun z => Pt.pure _
    | t _ => exact Pt.false
    | c f first cap =>
      cases f with
      | func _ => exact Pt.pure _
      | method name =>
        dsimp only
        split
        · exact Pt.bindO fun _ => Pt.pure _
        · exact Pt.false
      | _ => exact Pt.false
    | p b off => exact Pt.pure _
  case binOp op t x y _ => exact Pt.bindO fun r => Pt.pure _
  case unOp op _ x => exact Pt.bindO fun r => Pt.pure _
  case convert src dst x => exact Pt.cond (Pt.bindO fun r => Pt.pure _) Pt.false
  case makeInterface t x => exact Pt.cond Pt.false (Pt.bindO fun r => Pt.pure _)
  case makeFunc fn first cap => exact Pt.pure _
  case slice t x lo hi mx => exact Pt.bindO fun r => Pt.pure _
  case fieldAddr t x f =>
    refine Pt.bindO fun fd => Pt.bindO fun sz => Pt.cond Pt.false ?_
    cases ρ x with
    | p b off => exact Pt.pure _
    | v y => exact Pt.bindO fun z => Pt.pure _
    | _ => exact Pt.false
  case field t x f => exact Pt.bindO fun fd => Pt.bindO fun ly => Pt.bindO fun r => Pt.pure _
  case indexAddr t x i =>
    dsimp only
    split
    · exact Pt.bindO fun sz => Pt.bindO fun r => Pt.pure _
    · refine Pt.bindO fun sz => Pt.bindO fun j => ?_
      cases ρ x with
      | p b off => exact Pt.pure _
      | v y => exact Pt.bindO fun z => Pt.pure _
      | _ => exact Pt.false
    · exact Pt.false
  case index t x i =>
    dsimp only
    split
    · exact Pt.bindO fun ly => Pt.bindO fun r => Pt.pure _
    · exact Pt.bindO fun r => Pt.pure _
    · exact Pt.false
  case extract x i =>
    dsimp only
    cases ρ x with
    | t vs =>
      dsimp only
      split
      · exact Pt.pure _
      · exact Pt.false
    | _ => exact Pt.false
  case call c =>
    dsimp only
    cases c.callee with
    | value f =>
      dsimp only
      cases ρ f with
      | v x =>
        dsimp only
        unfold withFn
        split
        · exact callK_pt
        · exact callK_pt
        · exact Pt.false
      | c g first cap =>
        cases g with
        | func g => exact callK_pt
        | _ => exact Pt.false
      | _ => exact Pt.false
    | invoke f name =>
      dsimp only
      cases ρ f with
      | v x =>
        dsimp only
        unfold withMeth
        split
        · exact Pt.bindO fun f => callK_pt
        · exact Pt.false
      | _ => exact Pt.false
    | builtin b =>
      dsimp only
      split
      · exact Pt.bindO fun r => Pt.pure _
      · exact Pt.cond (Pt.bindO fun e => Pt.bindO fun sz => Pt.bindO fun by_ => Pt.bindO fun z => Pt.cond (appP_pt fun r => Pt.pure _) Pt.false) Pt.false
      · exact Pt.bindO fun r => Pt.pure _
      · exact Pt.bindO fun r => Pt.pure _
      · exact Pt.false
  all_goals exact Pt.false

theorem evLin_pt {o : Oper} {e : Env} : Pt (fun Q => evLin P gl o e Q) := by
  unfold evLin
  split
  · exact Pt.pure _
  · exact Pt.pure _
  · split
    · split
      · exact Pt.pure _
      · exact Pt.false
    · exact Pt.false
  · split
    · refine Pt.bindO fun ly => Pt.cond Pt.false ?_
      split
      · exact Pt.bindO fun x => Pt.pure _
      · exact Pt.false
    · exact Pt.false
  · split
    · refine Pt.bindO fun sz => Pt.cond ?_ Pt.false
      split
      · exact Pt.bindO fun l => Pt.and (Pt.and (Pt.pure _))
      · exact Pt.false
    · exact Pt.false
  · split
    · exact Pt.cond (Pt.bindO fun e' => Pt.bindO fun sz => Pt.bindO fun by_ => Pt.bindO fun z => Pt.cond (appP_pt fun r => Pt.pure _) Pt.false) Pt.false
    · exact Pt.false
  · exact Pt.false
theorem evOp_pt {id : Nat} {lin : Bool} {o : Oper} {e : Env} : Pt (fun Q => evOp P gl C id lin o e Q) := by
  unfold evOp
  cases lin with
  | true => exact evLin_pt
  | false => exact Pt.seq2 (X := Env) (S := fun (r : Slot) (bxs : List Box) (Q : Env → Prop) => Q ⟨putSlot e.slots o.dst r, bxs⟩) eff_pt fun a b => Pt.pure (X := Env) _
theorem guardP_pt {all : List Oper} {o : Oper} {e : Env} {A B : Env → (X → Prop) → Prop} (hA : ∀ e, Pt (A e)) (hB : ∀ e, Pt (B e)) : Pt (fun Q => guardP all o e (fun e => A e Q) (fun e => B e Q)) := by
  unfold guardP
  split
  · exact hA e
  · rename_i j want _
    split
    · split
      · cases want with
        | true => exact Pt.ifP (hA _) (hB _)
        | false => exact Pt.ifP (hB _) (hA _)
      · exact hB e
      · exact Pt.false
    · exact Pt.false
theorem evOps_pt {lin : Nat → Bool} {all : List Oper} {base : Nat} : ∀ (l : List Oper) (i : Nat) (e : Env), Pt (fun Q => evOps P gl C lin all base l i e Q)
  | [], i, e => by unfold evOps; exact Pt.pure _
  | o :: rest, i, e => by
    unfold evOps
    exact guardP_pt (fun e => Pt.seq evOp_pt fun e => evOps_pt rest (i + 1) e) (fun e => evOps_pt rest (i + 1) _)
theorem condP_pt {e : Env} {c : Operand} {A B : Env → (X → Prop) → Prop} (hA : ∀ e, Pt (A e)) (hB : ∀ e, Pt (B e)) : Pt (fun Q => condP e c (fun e => A e Q) (fun e => B e Q)) := by
  unfold condP
  split
  · split
    · exact Pt.ifP (hA _) (hB _)
    · exact Pt.false
  · exact Pt.cond (hA _) (hB _)
  · exact Pt.false
theorem loopP_pt {F : (X → Prop) → List SV → List (List SV) → (List SV → List (List SV) → Prop) → Prop} 
    (hF : ∀ vs bs, Pt (fun Q : (List SV × List (List SV)) ⊕ X → Prop => F (fun x => Q (.inr x)) vs bs fun v b => Q (.inl (v, b)))) (vs : List SV) (bs : List (List SV)) : Pt (fun Q => loopP (F Q) vs bs) := by
  intro Q hq
  refine hq (fun vs bs => ∃ x, Q x ∧ ∀ Q', Q' x → loopP (F Q') vs bs) fun vs bs hstep => ?_
  obtain ⟨y, h1, h2⟩ := hF vs bs (fun y => match y with | .inl p => ∃ x, Q x ∧ ∀ Q', Q' x → loopP (F Q') p.1 p.2 | .inr x => Q x) hstep
  cases y with
  | inl p =>
    obtain ⟨x, hx, hl⟩ := h1
    refine ⟨x, hx, fun Q' hQ' I hI => hI _ _ ?_⟩
    exact h2 (fun y => match y with | .inl p => I p.1 p.2 | .inr x => Q' x) (hl Q' hQ' I hI)
  | inr x =>
    refine ⟨x, h1, fun Q' hQ' I hI => hI _ _ ?_⟩
    exact h2 (fun y => match y with | .inl p => I p.1 p.2 | .inr x => Q' x) hQ'
theorem aw_pt : ∀ (c : Code) (e : Env), Pt (fun Q : Ex × Env → Prop => aw P gl C h c (fun x e => Q (x, e)) e)
  | .skip, e => by unfold aw; exact Pt.pure _
  | .region id ops draw, e => by
    unfold aw
    refine Pt.cond ?_ Pt.false
    unfold evRegion
    exact Pt.seq (X := Ex × Env) (S := fun (e : Env) (Q : Ex × Env → Prop) => Q (.normal, e)) (evOps_pt _ _ _) fun e => Pt.pure (X := Ex × Env) _
  | .seq a b, e => by
    unfold aw
    refine Pt.seq2 (T := fun (k : Ex → Env → Prop) => aw P gl C h a k e) (S := fun (x : Ex) (e' : Env) (Q : _ → Prop) => match x with | .normal => aw P gl C h b (fun x e => Q (x, e)) e' | .exit i => Q (Ex.exit i, e') | .ret => Q (Ex.ret, e')) (aw_pt a e) fun x e' => ?_
    cases x with
    | normal => exact aw_pt b e'
    | exit i => exact Pt.pure _
    | ret => exact Pt.pure _
  | .cond c a b, e => by
    unfold aw
    exact condP_pt (fun e => aw_pt a e) (fun e => aw_pt b e)
  | .block id b, e => by
    unfold aw
    refine Pt.seq2 (T := fun (k : Ex → Env → Prop) => aw P gl C h b k e) (S := fun (x : Ex) (e' : Env) (Q : _ → Prop) => match x with | .normal => Q (Ex.normal, e') | .exit i => bif i == id then Q (Ex.normal, e') else Q (Ex.exit i, e') | .ret => Q (Ex.ret, e')) (aw_pt b e) fun x e' => ?_
    cases x with
    | normal => exact Pt.pure _
    | exit i => exact Pt.cond (Pt.pure _) (Pt.pure _)
    | ret => exact Pt.pure _
  | .loop b, e => by
    unfold aw
    refine Pt.cond ?_ Pt.false
    refine loopP_pt (F := fun (Q : Ex × Env → Prop) vs bs I => aw P gl C h b (fun x e' => match x with | .normal => I (valsOf e' (keepAt h.keep (firstId b)).1) (boxesOf e.boxes.length e') | .exit i => Q (Ex.exit i, e') | .ret => Q (Ex.ret, e'))
            ⟨restartSlots (keepAt h.keep (firstId b)).1 (keepAt h.keep (firstId b)).2 vs e.slots 0, restartBoxes bs e.boxes 0⟩) (fun vs bs => ?_) _ _
    refine Pt.seq2 (T := fun (k : Ex → Env → Prop) => aw P gl C h b k _) (S := fun (x : Ex) (e' : Env) (Q : _ → Prop) => match x with | .normal => Q (Sum.inl (valsOf e' (keepAt h.keep (firstId b)).1, boxesOf e.boxes.length e')) | .exit i => Q (Sum.inr (Ex.exit i, e')) | .ret => Q (Sum.inr (Ex.ret, e'))) (aw_pt b _) fun x e' => ?_
    cases x <;> exact Pt.pure _
  | .exit id, e => by unfold aw; exact Pt.pure _
  | .ret, e => by unfold aw; exact Pt.pure _
  | .scope _, e => by unfold aw; exact Pt.false
  | .rangeFunc .., e => by unfold aw; exact Pt.false
  | .label .., e => by unfold aw; exact Pt.false
  | .goto .., e => by unfold aw; exact Pt.false
  | .refuse .., e => by unfold aw; exact Pt.false
theorem resP_pt {e : Env} {used : List Nat} {r : ResultVar} {T : SV → (X → Prop) → Prop} (hT : ∀ r, Pt (T r)) : Pt (fun Q => resP P e used r fun x => T x Q) := by
  unfold resP
  cases r with
  | tmp t =>
    dsimp only
    split
    · exact Pt.and (hT _)
    · exact Pt.false
  | cell a t =>
    dsimp only
    refine Pt.bindO fun ly => ?_
    split
    · refine Pt.seq2 (S := fun (s : Slot) (_ : List Box) Q => match s with | .v x => x.noRef = true ∧ T x Q | _ => False) loadBox_pt fun s b => ?_
      cases s with
      | v x => exact Pt.and (hT x)
      | _ => exact Pt.false
    · exact Pt.false
theorem ressP_pt {e : Env} : ∀ (l : List ResultVar) (used : List Nat) {T : List SV → (X → Prop) → Prop}, (∀ r, Pt (T r)) → Pt (fun Q => ressP P e used l fun x => T x Q)
  | [], used, T, hT => by unfold ressP; exact hT []
  | r :: l, used, T, hT => by
    unfold ressP
    exact resP_pt fun x => ressP_pt l _ fun xs => hT (x :: xs)
theorem finish_pt {fn : Func} {e : Env} : Pt (fun K : SV → Prop => finish P fn e K) := by
  unfold finish
  split
  · exact resP_pt fun x => Pt.pure x
  · exact ressP_pt _ _ fun xs => Pt.pure _
theorem body_pt {f : FuncId} {args : List SV} (hwf : SV.WfL args) : Pt (fun K : SV → Prop => body P gl C h f args K) := by
  unfold body
  cases P.funcs[f]? with
  | none => exact Pt.false
  | some fn =>
    dsimp only
    cases fn.body with
    | none => exact Pt.false
    | some c =>
      have : Pt (fun K : SV → Prop => aw P gl C h c (fun x e => match x with | .normal => finish P fn e K | .ret => finish P fn e K | .exit _ => False) (enter fn.ntmps args)) := by
        refine Pt.seq2 (T := fun (k : Ex → Env → Prop) => aw P gl C h c k _) (S := fun (x : Ex) (e : Env) K => match x with | .normal => finish P fn e K | .ret => finish P fn e K | .exit _ => False) (aw_pt c _) fun x e => ?_
        cases x with
        | exit i => exact Pt.false
        | _ => exact finish_pt
      intro Q hq
      obtain ⟨x, h1, h2⟩ := this Q (hq hwf)
      exact ⟨x, h1, fun Q' h _ => h2 Q' h⟩
end

theorem holds_vac {P : Program} {gl : Nat → Option D} {f : FuncId} {args : List SV} {r : SV} (hE : Enters P f) (hw : ¬ SV.WfL args) : Holds P gl f args r := by
  refine ⟨hE, fun w St vs hSt hgl hlen hargs => absurd ?_ hw⟩
  rw [SV.WfL_iff]
  intro x hx
  obtain ⟨i, hi, rfl⟩ := List.mem_iff_getElem.1 hx
  exact (hargs i _ (vs[i]'(by omega)) (by simp) (by simp)).wf
/-- **A CONTRACT WHOSE RESULT IS ONLY DESCRIBED** -/
theorem holds_some {P : Program} {gl : Nat → Option D} {h : Hints} (hm : P.follows .mixedOrders = true) {f : FuncId} {args : List SV} {Q : SV → Prop} (hE : Enters P f) (hQ : ∃ r, Q r) (hh : body P gl (Holds P gl) h f args Q) : ∃ r, Q r ∧ Holds P gl f args r := by
  by_cases hw : SV.WfL args
  · obtain ⟨r, h1, h2⟩ := body_pt hw Q hh
    exact ⟨r, h1, holds_of_body hm hE (h2 _ rfl)⟩
  · obtain ⟨r, hr⟩ := hQ
    exact ⟨r, hr, holds_vac hE hw⟩
end Go.Proofs.YtcnnhnjcnekhcaaGreat.Ab
