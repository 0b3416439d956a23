/-
  Steps towards the claim of this seat (Ab1b).
-/
import Derived.Test.YtfeepndphaboeaaAb2
set_option linter.unusedVariables false
set_option linter.unusedSimpArgs false
namespace Go.Proofs.Ytfeepndphaboeaa.Ab
open Go
/-- for each operation, those that it waits for (a mask) -/
def reach : (acc : List Nat) → List Oper → List Nat
  | acc, [] => acc
  | acc, o :: l => reach (acc ++ [o.after.toList.foldl (fun s e => bif Region.binds .any e then s ||| 2 ^ e.on ||| acc.getD e.on 0 else s) 0]) l

def okRest (ops : Array Oper) (lin : Nat → Bool) (R : List Nat) (i : Nat) (o : Oper) : List Oper → Nat → Bool
  | [], _ => true
  | p :: l, j => (Nat.testBit (R.getD j 0) i || indep ops (lin i) (lin j) o p) && okRest ops lin R i o l (j + 1)
def okPairs (ops : Array Oper) (lin : Nat → Bool) (R : List Nat) : List Oper → Nat → Bool
  | [], _ => true
  | o :: l, i => o.after.toList.all (fun e => !Region.binds .any e || Nat.blt e.on i) && okRest ops lin R i o l (i + 1) && okPairs ops lin R l (i + 1)
/-- the text's order serves every order that the edges allow -/
def okAny (lin : Nat → Bool) (ops : Array Oper) : Bool := okPairs ops lin (reach [] ops.toList) ops.toList 0

mutual
def SV.noRef : SV → Bool
  | .ref _ _ => false
  | .clo _ a b => SV.noRefL a && SV.noRefL b
  | .tup l => SV.noRefL l
  | _ => true
def SV.noRefL : List SV → Bool
  | [] => true
  | x :: l => SV.noRef x && SV.noRefL l
end
/-- no pointer of the text is forgotten at a loop's head -/
def keepsOk (ws vars consts : List Nat) : List Slot → Nat → Bool
  | [], _ => true
  | s :: l, t => (match s with | .v _ => true | .t _ => true | _ => ws.contains t || (!vars.contains t && consts.contains t)) && keepsOk ws vars consts l (t + 1)

section
variable (P : Program) (gl : Nat → Option D) (C : Con) (h : Hints)

def condP (e : Env) (c : Operand) (A B : Env → Prop) : Prop := match c with
  | .tmp t => (match e.slots.getD t (.v .undef) with
    | .v x => ifP x (A (e.setB t true)) (B (e.setB t false))
    | _ => False)
  | .const (.bool b) => cond b (A e) (B e)
  | _ => False

def aw : Code → (Ex → Env → Prop) → Env → Prop
  | .skip, Q, e => Q .normal e
  | .region id ops draw, Q, e => bif !draw || okAny (linAt h id) ops then evRegion P gl C (linAt h id) ops.toList e (Q .normal) else False
  | .seq a b, Q, e => aw a (fun x e' => match x with | .normal => aw b Q e' | .exit i => Q (.exit i) e' | .ret => Q .ret e') e
  | .cond c a b, Q, e => condP e c (aw a Q) (aw b Q)
  | .block id b, Q, e => aw b (fun x e' => match x with | .normal => Q .normal e' | .exit i => bif i == id then Q .normal e' else Q (.exit i) e' | .ret => Q .ret e') e
  | .loop b, Q, e => (match keepAt h.keep (firstId b) with
    | (vars, consts) => bif consts.all (fun t => !(writesOf b).contains t) && keepsOk (writesOf b) vars consts e.slots 0 then
        loopP (fun vs bs I => aw b (fun x e' => match x with | .normal => I (valsOf e' vars) (boxesOf e.boxes.length e') | .exit i => Q (.exit i) e' | .ret => Q .ret e')
            ⟨restartSlots vars consts vs e.slots 0, restartBoxes bs e.boxes 0⟩)
          (valsOf e vars) (boxesOf e.boxes.length e)
      else False)
  | .exit id, Q, e => Q (.exit id) e
  | .ret, Q, e => Q .ret e
  | _, _, _ => False

/-- a result; a slot that was handed out already is only read -/
def resP (e : Env) (used : List Nat) (r : ResultVar) (k : SV → Prop) : Prop := match r with
  | .tmp t => (match e.slots.getD t (.v .undef) with
    | .v x => x.noRef = true ∧ k (bif used.contains t then demote x else x)
    | _ => False)
  | .cell a t => bindO (lay? P t) fun ly => (match e.slots.getD a (.v .undef) with
    | .p b off => loadBox ly.1 ly.2 b off e.boxes fun s _ => (match s with
      | .v x => x.noRef = true ∧ k x
      | _ => False)
    | _ => False)
def usedOf (used : List Nat) : ResultVar → List Nat
  | .tmp t => t :: used
  | .cell _ _ => used
def ressP (e : Env) : List Nat → List ResultVar → (List SV → Prop) → Prop
  | _, [], k => k []
  | used, r :: l, k => resP P e used r fun x => ressP e (usedOf used r) l fun xs => k (x :: xs)
def finish (fn : Func) (e : Env) (K : SV → Prop) : Prop := match fn.results.toList with
  | [r] => resP P e [] r K
  | l => ressP P e [] l fun xs => K (.tup xs)

def enter (n : Nat) (args : List SV) : Env := ⟨args.map .v ++ List.replicate (n - args.length) (.v .undef), []⟩

def wfP (args : List SV) (X : Prop) : Prop := SV.WfL args → X

def body (f : FuncId) (args : List SV) (K : SV → Prop) : Prop := match P.funcs[f]? with
  | some fn => (match fn.body with
    | some c => wfP args (aw P gl C h c (fun x e => match x with | .normal => finish P fn e K | .ret => finish P fn e K | .exit _ => False) (enter fn.ntmps args))
    | none => False)
  | none => False
end
end Go.Proofs.Ytfeepndphaboeaa.Ab
