/-
  THE ABSTRACT WALK: the same without the program's tables (for the printed forms).
-/
import Derived.Test.YtfeepndphaboeaaAb22
set_option linter.unusedVariables false
set_option linter.unusedSimpArgs false
namespace Go.Proofs.Ytfeepndphaboeaa.Ab
open Go

def lenS (x : SV) : Option SV := match x with | .d (.str s) => some (.d (.int .i64 s.length)) | _ => none
def lenL (x : SV) : Option SV := match elemsAny x with | some L => some (.d (.int .i64 L.length)) | none => none
def convI (k : IntKind) (x : SV) : Option SV := match x with
  | .d (.int _ n) => some (.d (.int k (k.wrap n)))
  | .d (.str _) => none
  | _ => none
def convS (x : SV) : Option SV := match x with
  | .d (.int _ _) => none
  | .d (.str s) => some (.d (.str s))
  | _ => none
def sliceS (x : SV) (lo hi mx : Option SV) : Option SV := match x, mx with
    | .d (.str s), none => (match subStr s lo hi with | some r => some (.d (.str r)) | none => none)
    | _, _ => none
def sliceL (s : Nat) (x : SV) (lo hi mx : Option SV) : Option SV := match toD x with
    | some (.sl k sz L) => (match subOf L lo hi, mx with
      | some r, none => (match k with | .nil => some (.d (.sl .nil s [])) | .ro => if sz = s then some (.d (.sl .ro sz r)) else none)
      | some r, some m => (match hi, indexOk m (L.length + 1) with
        | some h, some _ => (match h, m with
          | .d (.int _ a), .d (.int _ b) => if a = b then (match k with | .nil => some (.d (.sl .nil s [])) | .ro => if sz = s then some (.full sz r) else none) else none
          | _, _ => none)
        | _, _ => none)
      | none, _ => none)
    | _ => none
def partsS : List (Nat × Slot) → Option (List (Nat × D))
  | [] => some []
  | (i, s) :: l => match s with
    | .v y => (match toD y with
      | some z => (match partsS l with | some r => some ((i, z) :: r) | none => none)
      | none => none)
    | _ => none
end Go.Proofs.Ytfeepndphaboeaa.Ab
