/-
  POLICIES: typed data of the lists of a policy.
-/
import Derived.Test.YtcnnhnjcnekhcaaGreatTy
import Derived.Test.YtcnnhnjcnekhcaaGreatWd
set_option linter.unusedVariables false
set_option linter.unusedSimpArgs false
namespace Go.Proofs.YtcnnhnjcnekhcaaGreat.Ab
open Go
def dU (x : BitVec 32) : D := .int .u32 (x.toNat : Int)
def dRg (r : (Int × BitVec 64) × (Int × BitVec 64)) : D := .agg [.int .i64 r.1.1, dW r.1.2, .int .i64 r.2.1, dW r.2.2]
def cRg (r : (Int × BitVec 64) × (Int × BitVec 64)) : List SV := [.d (.int .i64 r.1.1), .d (dW r.1.2), .d (.int .i64 r.2.1), .d (dW r.2.2)]
theorem cells_rg (r : (Int × BitVec 64) × (Int × BitVec 64)) : cellsV (.d (dRg r)) = some (cRg r) := rfl
theorem len_rg (r : (Int × BitVec 64) × (Int × BitVec 64)) : (cRg r).length = 4 := rfl
theorem part_rg (r : (Int × BitVec 64) × (Int × BitVec 64)) : partV true 4 0 (cRg r) = some (.d (dRg r)) := rfl
theorem part_rg0 (r : (Int × BitVec 64) × (Int × BitVec 64)) : partV true 2 0 (cRg r) = some (.d (dLev r.1)) := rfl
theorem part_rg2 (r : (Int × BitVec 64) × (Int × BitVec 64)) : partV true 2 2 (cRg r) = some (.d (dLev r.2)) := rfl
theorem fld_rg0 (r : (Int × BitVec 64) × (Int × BitVec 64)) : fieldV true 2 0 (.d (dRg r)) = some (.d (dLev r.1)) := rfl
theorem fld_rg2 (r : (Int × BitVec 64) × (Int × BitVec 64)) : fieldV true 2 2 (.d (dRg r)) = some (.d (dLev r.2)) := rfl
theorem part_ctxr (x : CtxD) : partV true 4 3 (cCtx x) = some (.d (dRg ((x.ls, x.lc), (x.hs, x.hc)))) := rfl
/-- an expression, with the data that stands for it -/
structure XpD where
  e : Xp
  nm : D
  kd : D
  h : IsE e (.agg (fEx e.op e.a e.rel e.b nm e.w kd))
def XpD.enc (t : XpD) : D := .agg (fEx t.e.op t.e.a t.e.rel t.e.b t.nm t.e.w t.kd)
theorem XpD.is (t : XpD) : IsE t.e t.enc := t.h
theorem XpD.ld (t : XpD) : loadV true 10 (.dptr t.enc 0) = some (.d t.enc) := rfl
structure ClD where
  name : List UInt8
  perms : List (List UInt8)
  permsX : D
  permsH : IsD 1 (dStrs perms) permsX
  permsM : perms.length ≤ maxLen
def ClD.enc (t : ClD) : D := .agg [.str t.name, t.permsX]
def ClD.cells (t : ClD) : List SV := [.d (.str t.name), .d (t.permsX)]
theorem ClD.c (t : ClD) : cellsV (.d t.enc) = some t.cells := rfl
theorem ClD.n (t : ClD) : t.cells.length = 2 := rfl
theorem ClD.a (t : ClD) : partV true 2 0 t.cells = some (.d t.enc) := rfl
theorem ClD.ld (t : ClD) : loadV true 2 (.dptr t.enc 0) = some (.d t.enc) := rfl
theorem ClD.st (t : ClD) (a0 a1 : SV) : setAt [a0, a1] 0 t.cells = t.cells := by
  unfold ClD.cells
  simp only [setAt, List.set_cons_zero, List.set_cons_succ]
theorem ClD.p_name (t : ClD) : partV false 1 0 t.cells = some (.d (.str t.name)) := rfl
theorem ClD.l_name (t : ClD) : loadV false 1 (.dptr t.enc 0) = some (.d (.str t.name)) := rfl
theorem ClD.p_perms (t : ClD) : partV false 1 1 t.cells = some (.d (t.permsX)) := rfl
theorem ClD.l_perms (t : ClD) : loadV false 1 (.dptr t.enc 1) = some (.d (t.permsX)) := rfl
theorem ClD.n_perms (t : ClD) : lenL (.d t.permsX) = some (.d (.int .i64 (t.perms.length : Int))) := by rw [t.permsH.len, len_strs]
structure TyD where
  name : List UInt8
  als : List (List UInt8)
  alsX : D
  alsH : IsD 1 (dStrs als) alsX
  alsM : als.length ≤ maxLen
  pm : Bool
def TyD.enc (t : TyD) : D := .agg [.str t.name, t.alsX, .bool t.pm]
def TyD.cells (t : TyD) : List SV := [.d (.str t.name), .d (t.alsX), .d (.bool t.pm)]
theorem TyD.c (t : TyD) : cellsV (.d t.enc) = some t.cells := rfl
theorem TyD.n (t : TyD) : t.cells.length = 3 := rfl
theorem TyD.a (t : TyD) : partV true 3 0 t.cells = some (.d t.enc) := rfl
theorem TyD.ld (t : TyD) : loadV true 3 (.dptr t.enc 0) = some (.d t.enc) := rfl
theorem TyD.st (t : TyD) (a0 a1 a2 : SV) : setAt [a0, a1, a2] 0 t.cells = t.cells := by
  unfold TyD.cells
  simp only [setAt, List.set_cons_zero, List.set_cons_succ]
theorem TyD.p_name (t : TyD) : partV false 1 0 t.cells = some (.d (.str t.name)) := rfl
theorem TyD.l_name (t : TyD) : loadV false 1 (.dptr t.enc 0) = some (.d (.str t.name)) := rfl
theorem TyD.p_als (t : TyD) : partV false 1 1 t.cells = some (.d (t.alsX)) := rfl
theorem TyD.l_als (t : TyD) : loadV false 1 (.dptr t.enc 1) = some (.d (t.alsX)) := rfl
theorem TyD.n_als (t : TyD) : lenL (.d t.alsX) = some (.d (.int .i64 (t.als.length : Int))) := by rw [t.alsH.len, len_strs]
theorem TyD.p_pm (t : TyD) : partV false 1 2 t.cells = some (.d (.bool t.pm)) := rfl
theorem TyD.l_pm (t : TyD) : loadV false 1 (.dptr t.enc 2) = some (.d (.bool t.pm)) := rfl
structure AtD where
  name : List UInt8
  w : Nat → BitVec 64
def AtD.enc (t : AtD) : D := .agg [.str t.name, dW (t.w 0), dW (t.w 1), dW (t.w 2), dW (t.w 3)]
def AtD.cells (t : AtD) : List SV := [.d (.str t.name), .d (dW (t.w 0)), .d (dW (t.w 1)), .d (dW (t.w 2)), .d (dW (t.w 3))]
theorem AtD.c (t : AtD) : cellsV (.d t.enc) = some t.cells := rfl
theorem AtD.n (t : AtD) : t.cells.length = 5 := rfl
theorem AtD.a (t : AtD) : partV true 5 0 t.cells = some (.d t.enc) := rfl
theorem AtD.ld (t : AtD) : loadV true 5 (.dptr t.enc 0) = some (.d t.enc) := rfl
theorem AtD.st (t : AtD) (a0 a1 a2 a3 a4 : SV) : setAt [a0, a1, a2, a3, a4] 0 t.cells = t.cells := by
  unfold AtD.cells
  simp only [setAt, List.set_cons_zero, List.set_cons_succ]
theorem AtD.p_name (t : AtD) : partV false 1 0 t.cells = some (.d (.str t.name)) := rfl
theorem AtD.l_name (t : AtD) : loadV false 1 (.dptr t.enc 0) = some (.d (.str t.name)) := rfl
theorem AtD.p_w (t : AtD) : partV true 4 1 t.cells = some (.d (dSet t.w)) := rfl
theorem AtD.l_w (t : AtD) : loadV true 4 (.dptr t.enc 1) = some (.d (dSet t.w)) := rfl
structure RoD where
  name : List UInt8
  tw : Nat → BitVec 64
  nw : Nat → BitVec 64
def RoD.enc (t : RoD) : D := .agg [.str t.name, dW (t.tw 0), dW (t.tw 1), dW (t.tw 2), dW (t.tw 3), dW (t.nw 0), dW (t.nw 1), dW (t.nw 2), dW (t.nw 3)]
def RoD.cells (t : RoD) : List SV := [.d (.str t.name), .d (dW (t.tw 0)), .d (dW (t.tw 1)), .d (dW (t.tw 2)), .d (dW (t.tw 3)), .d (dW (t.nw 0)), .d (dW (t.nw 1)), .d (dW (t.nw 2)), .d (dW (t.nw 3))]
theorem RoD.c (t : RoD) : cellsV (.d t.enc) = some t.cells := rfl
theorem RoD.n (t : RoD) : t.cells.length = 9 := rfl
theorem RoD.a (t : RoD) : partV true 9 0 t.cells = some (.d t.enc) := rfl
theorem RoD.ld (t : RoD) : loadV true 9 (.dptr t.enc 0) = some (.d t.enc) := rfl
theorem RoD.st (t : RoD) (a0 a1 a2 a3 a4 a5 a6 a7 a8 : SV) : setAt [a0, a1, a2, a3, a4, a5, a6, a7, a8] 0 t.cells = t.cells := by
  unfold RoD.cells
  simp only [setAt, List.set_cons_zero, List.set_cons_succ]
theorem RoD.p_name (t : RoD) : partV false 1 0 t.cells = some (.d (.str t.name)) := rfl
theorem RoD.l_name (t : RoD) : loadV false 1 (.dptr t.enc 0) = some (.d (.str t.name)) := rfl
theorem RoD.p_tw (t : RoD) : partV true 4 1 t.cells = some (.d (dSet t.tw)) := rfl
theorem RoD.l_tw (t : RoD) : loadV true 4 (.dptr t.enc 1) = some (.d (dSet t.tw)) := rfl
theorem RoD.p_nw (t : RoD) : partV true 4 5 t.cells = some (.d (dSet t.nw)) := rfl
theorem RoD.l_nw (t : RoD) : loadV true 4 (.dptr t.enc 5) = some (.d (dSet t.nw)) := rfl
structure UsD where
  name : List UInt8
  rw : Nat → BitVec 64
  df : Int × BitVec 64
  rg : (Int × BitVec 64) × (Int × BitVec 64)
def UsD.enc (t : UsD) : D := .agg [.str t.name, dW (t.rw 0), dW (t.rw 1), dW (t.rw 2), dW (t.rw 3), .int .i64 t.df.1, dW t.df.2, .int .i64 t.rg.1.1, dW t.rg.1.2, .int .i64 t.rg.2.1, dW t.rg.2.2]
def UsD.cells (t : UsD) : List SV := [.d (.str t.name), .d (dW (t.rw 0)), .d (dW (t.rw 1)), .d (dW (t.rw 2)), .d (dW (t.rw 3)), .d (.int .i64 t.df.1), .d (dW t.df.2), .d (.int .i64 t.rg.1.1), .d (dW t.rg.1.2), .d (.int .i64 t.rg.2.1), .d (dW t.rg.2.2)]
theorem UsD.c (t : UsD) : cellsV (.d t.enc) = some t.cells := rfl
theorem UsD.n (t : UsD) : t.cells.length = 11 := rfl
theorem UsD.a (t : UsD) : partV true 11 0 t.cells = some (.d t.enc) := rfl
theorem UsD.ld (t : UsD) : loadV true 11 (.dptr t.enc 0) = some (.d t.enc) := rfl
theorem UsD.st (t : UsD) (a0 a1 a2 a3 a4 a5 a6 a7 a8 a9 a10 : SV) : setAt [a0, a1, a2, a3, a4, a5, a6, a7, a8, a9, a10] 0 t.cells = t.cells := by
  unfold UsD.cells
  simp only [setAt, List.set_cons_zero, List.set_cons_succ]
theorem UsD.p_name (t : UsD) : partV false 1 0 t.cells = some (.d (.str t.name)) := rfl
theorem UsD.l_name (t : UsD) : loadV false 1 (.dptr t.enc 0) = some (.d (.str t.name)) := rfl
theorem UsD.p_rw (t : UsD) : partV true 4 1 t.cells = some (.d (dSet t.rw)) := rfl
theorem UsD.l_rw (t : UsD) : loadV true 4 (.dptr t.enc 1) = some (.d (dSet t.rw)) := rfl
theorem UsD.p_df (t : UsD) : partV true 2 5 t.cells = some (.d (dLev t.df)) := rfl
theorem UsD.l_df (t : UsD) : loadV true 2 (.dptr t.enc 5) = some (.d (dLev t.df)) := rfl
theorem UsD.p_rg (t : UsD) : partV true 4 7 t.cells = some (.d (dRg t.rg)) := rfl
theorem UsD.l_rg (t : UsD) : loadV true 4 (.dptr t.enc 7) = some (.d (dRg t.rg)) := rfl
theorem UsD.q_rg (t : UsD) : partV true 2 7 t.cells = some (.d (dLev t.rg.1)) := rfl
theorem UsD.r_rg (t : UsD) : partV true 2 9 t.cells = some (.d (dLev t.rg.2)) := rfl
structure BoD where
  name : List UInt8
  v : Bool
def BoD.enc (t : BoD) : D := .agg [.str t.name, .bool t.v]
def BoD.cells (t : BoD) : List SV := [.d (.str t.name), .d (.bool t.v)]
theorem BoD.c (t : BoD) : cellsV (.d t.enc) = some t.cells := rfl
theorem BoD.n (t : BoD) : t.cells.length = 2 := rfl
theorem BoD.a (t : BoD) : partV true 2 0 t.cells = some (.d t.enc) := rfl
theorem BoD.ld (t : BoD) : loadV true 2 (.dptr t.enc 0) = some (.d t.enc) := rfl
theorem BoD.st (t : BoD) (a0 a1 : SV) : setAt [a0, a1] 0 t.cells = t.cells := by
  unfold BoD.cells
  simp only [setAt, List.set_cons_zero, List.set_cons_succ]
theorem BoD.p_name (t : BoD) : partV false 1 0 t.cells = some (.d (.str t.name)) := rfl
theorem BoD.l_name (t : BoD) : loadV false 1 (.dptr t.enc 0) = some (.d (.str t.name)) := rfl
theorem BoD.p_v (t : BoD) : partV false 1 1 t.cells = some (.d (.bool t.v)) := rfl
theorem BoD.l_v (t : BoD) : loadV false 1 (.dptr t.enc 1) = some (.d (.bool t.v)) := rfl
structure RuD where
  kind : Int
  sw : Nat → BitVec 64
  tw : Nat → BitVec 64
  self : Bool
  cls : Int
  perms : BitVec 32
  cond : Int
def RuD.enc (t : RuD) : D := .agg [.int .i64 t.kind, dW (t.sw 0), dW (t.sw 1), dW (t.sw 2), dW (t.sw 3), dW (t.tw 0), dW (t.tw 1), dW (t.tw 2), dW (t.tw 3), .bool t.self, .int .i64 t.cls, dU t.perms, .int .i64 t.cond]
def RuD.cells (t : RuD) : List SV := [.d (.int .i64 t.kind), .d (dW (t.sw 0)), .d (dW (t.sw 1)), .d (dW (t.sw 2)), .d (dW (t.sw 3)), .d (dW (t.tw 0)), .d (dW (t.tw 1)), .d (dW (t.tw 2)), .d (dW (t.tw 3)), .d (.bool t.self), .d (.int .i64 t.cls), .d (dU t.perms), .d (.int .i64 t.cond)]
theorem RuD.c (t : RuD) : cellsV (.d t.enc) = some t.cells := rfl
theorem RuD.n (t : RuD) : t.cells.length = 13 := rfl
theorem RuD.a (t : RuD) : partV true 13 0 t.cells = some (.d t.enc) := rfl
theorem RuD.ld (t : RuD) : loadV true 13 (.dptr t.enc 0) = some (.d t.enc) := rfl
theorem RuD.st (t : RuD) (a0 a1 a2 a3 a4 a5 a6 a7 a8 a9 a10 a11 a12 : SV) : setAt [a0, a1, a2, a3, a4, a5, a6, a7, a8, a9, a10, a11, a12] 0 t.cells = t.cells := by
  unfold RuD.cells
  simp only [setAt, List.set_cons_zero, List.set_cons_succ]
theorem RuD.p_kind (t : RuD) : partV false 1 0 t.cells = some (.d (.int .i64 t.kind)) := rfl
theorem RuD.l_kind (t : RuD) : loadV false 1 (.dptr t.enc 0) = some (.d (.int .i64 t.kind)) := rfl
theorem RuD.p_sw (t : RuD) : partV true 4 1 t.cells = some (.d (dSet t.sw)) := rfl
theorem RuD.l_sw (t : RuD) : loadV true 4 (.dptr t.enc 1) = some (.d (dSet t.sw)) := rfl
theorem RuD.p_tw (t : RuD) : partV true 4 5 t.cells = some (.d (dSet t.tw)) := rfl
theorem RuD.l_tw (t : RuD) : loadV true 4 (.dptr t.enc 5) = some (.d (dSet t.tw)) := rfl
theorem RuD.p_self (t : RuD) : partV false 1 9 t.cells = some (.d (.bool t.self)) := rfl
theorem RuD.l_self (t : RuD) : loadV false 1 (.dptr t.enc 9) = some (.d (.bool t.self)) := rfl
theorem RuD.p_cls (t : RuD) : partV false 1 10 t.cells = some (.d (.int .i64 t.cls)) := rfl
theorem RuD.l_cls (t : RuD) : loadV false 1 (.dptr t.enc 10) = some (.d (.int .i64 t.cls)) := rfl
theorem RuD.p_perms (t : RuD) : partV false 1 11 t.cells = some (.d (dU t.perms)) := rfl
theorem RuD.l_perms (t : RuD) : loadV false 1 (.dptr t.enc 11) = some (.d (dU t.perms)) := rfl
theorem RuD.p_cond (t : RuD) : partV false 1 12 t.cells = some (.d (.int .i64 t.cond)) := rfl
theorem RuD.l_cond (t : RuD) : loadV false 1 (.dptr t.enc 12) = some (.d (.int .i64 t.cond)) := rfl
structure TrD where
  kind : Int
  sw : Nat → BitVec 64
  tw : Nat → BitVec 64
  cls : Int
  name : List UInt8
  res : Int
  cond : Int
def TrD.enc (t : TrD) : D := .agg [.int .i64 t.kind, dW (t.sw 0), dW (t.sw 1), dW (t.sw 2), dW (t.sw 3), dW (t.tw 0), dW (t.tw 1), dW (t.tw 2), dW (t.tw 3), .int .i64 t.cls, .str t.name, .int .i64 t.res, .int .i64 t.cond]
def TrD.cells (t : TrD) : List SV := [.d (.int .i64 t.kind), .d (dW (t.sw 0)), .d (dW (t.sw 1)), .d (dW (t.sw 2)), .d (dW (t.sw 3)), .d (dW (t.tw 0)), .d (dW (t.tw 1)), .d (dW (t.tw 2)), .d (dW (t.tw 3)), .d (.int .i64 t.cls), .d (.str t.name), .d (.int .i64 t.res), .d (.int .i64 t.cond)]
theorem TrD.c (t : TrD) : cellsV (.d t.enc) = some t.cells := rfl
theorem TrD.n (t : TrD) : t.cells.length = 13 := rfl
theorem TrD.a (t : TrD) : partV true 13 0 t.cells = some (.d t.enc) := rfl
theorem TrD.ld (t : TrD) : loadV true 13 (.dptr t.enc 0) = some (.d t.enc) := rfl
theorem TrD.st (t : TrD) (a0 a1 a2 a3 a4 a5 a6 a7 a8 a9 a10 a11 a12 : SV) : setAt [a0, a1, a2, a3, a4, a5, a6, a7, a8, a9, a10, a11, a12] 0 t.cells = t.cells := by
  unfold TrD.cells
  simp only [setAt, List.set_cons_zero, List.set_cons_succ]
theorem TrD.p_kind (t : TrD) : partV false 1 0 t.cells = some (.d (.int .i64 t.kind)) := rfl
theorem TrD.l_kind (t : TrD) : loadV false 1 (.dptr t.enc 0) = some (.d (.int .i64 t.kind)) := rfl
theorem TrD.p_sw (t : TrD) : partV true 4 1 t.cells = some (.d (dSet t.sw)) := rfl
theorem TrD.l_sw (t : TrD) : loadV true 4 (.dptr t.enc 1) = some (.d (dSet t.sw)) := rfl
theorem TrD.p_tw (t : TrD) : partV true 4 5 t.cells = some (.d (dSet t.tw)) := rfl
theorem TrD.l_tw (t : TrD) : loadV true 4 (.dptr t.enc 5) = some (.d (dSet t.tw)) := rfl
theorem TrD.p_cls (t : TrD) : partV false 1 9 t.cells = some (.d (.int .i64 t.cls)) := rfl
theorem TrD.l_cls (t : TrD) : loadV false 1 (.dptr t.enc 9) = some (.d (.int .i64 t.cls)) := rfl
theorem TrD.p_name (t : TrD) : partV false 1 10 t.cells = some (.d (.str t.name)) := rfl
theorem TrD.l_name (t : TrD) : loadV false 1 (.dptr t.enc 10) = some (.d (.str t.name)) := rfl
theorem TrD.p_res (t : TrD) : partV false 1 11 t.cells = some (.d (.int .i64 t.res)) := rfl
theorem TrD.l_res (t : TrD) : loadV false 1 (.dptr t.enc 11) = some (.d (.int .i64 t.res)) := rfl
theorem TrD.p_cond (t : TrD) : partV false 1 12 t.cells = some (.d (.int .i64 t.cond)) := rfl
theorem TrD.l_cond (t : TrD) : loadV false 1 (.dptr t.enc 12) = some (.d (.int .i64 t.cond)) := rfl
structure RtD where
  rw : Nat → BitVec 64
  tw : Nat → BitVec 64
  cls : Int
  res : Int
def RtD.enc (t : RtD) : D := .agg [dW (t.rw 0), dW (t.rw 1), dW (t.rw 2), dW (t.rw 3), dW (t.tw 0), dW (t.tw 1), dW (t.tw 2), dW (t.tw 3), .int .i64 t.cls, .int .i64 t.res]
def RtD.cells (t : RtD) : List SV := [.d (dW (t.rw 0)), .d (dW (t.rw 1)), .d (dW (t.rw 2)), .d (dW (t.rw 3)), .d (dW (t.tw 0)), .d (dW (t.tw 1)), .d (dW (t.tw 2)), .d (dW (t.tw 3)), .d (.int .i64 t.cls), .d (.int .i64 t.res)]
theorem RtD.c (t : RtD) : cellsV (.d t.enc) = some t.cells := rfl
theorem RtD.n (t : RtD) : t.cells.length = 10 := rfl
theorem RtD.a (t : RtD) : partV true 10 0 t.cells = some (.d t.enc) := rfl
theorem RtD.ld (t : RtD) : loadV true 10 (.dptr t.enc 0) = some (.d t.enc) := rfl
theorem RtD.st (t : RtD) (a0 a1 a2 a3 a4 a5 a6 a7 a8 a9 : SV) : setAt [a0, a1, a2, a3, a4, a5, a6, a7, a8, a9] 0 t.cells = t.cells := by
  unfold RtD.cells
  simp only [setAt, List.set_cons_zero, List.set_cons_succ]
theorem RtD.p_rw (t : RtD) : partV true 4 0 t.cells = some (.d (dSet t.rw)) := rfl
theorem RtD.l_rw (t : RtD) : loadV true 4 (.dptr t.enc 0) = some (.d (dSet t.rw)) := rfl
theorem RtD.p_tw (t : RtD) : partV true 4 4 t.cells = some (.d (dSet t.tw)) := rfl
theorem RtD.l_tw (t : RtD) : loadV true 4 (.dptr t.enc 4) = some (.d (dSet t.tw)) := rfl
theorem RtD.p_cls (t : RtD) : partV false 1 8 t.cells = some (.d (.int .i64 t.cls)) := rfl
theorem RtD.l_cls (t : RtD) : loadV false 1 (.dptr t.enc 8) = some (.d (.int .i64 t.cls)) := rfl
theorem RtD.p_res (t : RtD) : partV false 1 9 t.cells = some (.d (.int .i64 t.res)) := rfl
theorem RtD.l_res (t : RtD) : loadV false 1 (.dptr t.enc 9) = some (.d (.int .i64 t.res)) := rfl
structure RaD where
  sw : Nat → BitVec 64
  tw : Nat → BitVec 64
  cls : Int
  rg : (Int × BitVec 64) × (Int × BitVec 64)
def RaD.enc (t : RaD) : D := .agg [dW (t.sw 0), dW (t.sw 1), dW (t.sw 2), dW (t.sw 3), dW (t.tw 0), dW (t.tw 1), dW (t.tw 2), dW (t.tw 3), .int .i64 t.cls, .int .i64 t.rg.1.1, dW t.rg.1.2, .int .i64 t.rg.2.1, dW t.rg.2.2]
def RaD.cells (t : RaD) : List SV := [.d (dW (t.sw 0)), .d (dW (t.sw 1)), .d (dW (t.sw 2)), .d (dW (t.sw 3)), .d (dW (t.tw 0)), .d (dW (t.tw 1)), .d (dW (t.tw 2)), .d (dW (t.tw 3)), .d (.int .i64 t.cls), .d (.int .i64 t.rg.1.1), .d (dW t.rg.1.2), .d (.int .i64 t.rg.2.1), .d (dW t.rg.2.2)]
theorem RaD.c (t : RaD) : cellsV (.d t.enc) = some t.cells := rfl
theorem RaD.n (t : RaD) : t.cells.length = 13 := rfl
theorem RaD.a (t : RaD) : partV true 13 0 t.cells = some (.d t.enc) := rfl
theorem RaD.ld (t : RaD) : loadV true 13 (.dptr t.enc 0) = some (.d t.enc) := rfl
theorem RaD.st (t : RaD) (a0 a1 a2 a3 a4 a5 a6 a7 a8 a9 a10 a11 a12 : SV) : setAt [a0, a1, a2, a3, a4, a5, a6, a7, a8, a9, a10, a11, a12] 0 t.cells = t.cells := by
  unfold RaD.cells
  simp only [setAt, List.set_cons_zero, List.set_cons_succ]
theorem RaD.p_sw (t : RaD) : partV true 4 0 t.cells = some (.d (dSet t.sw)) := rfl
theorem RaD.l_sw (t : RaD) : loadV true 4 (.dptr t.enc 0) = some (.d (dSet t.sw)) := rfl
theorem RaD.p_tw (t : RaD) : partV true 4 4 t.cells = some (.d (dSet t.tw)) := rfl
theorem RaD.l_tw (t : RaD) : loadV true 4 (.dptr t.enc 4) = some (.d (dSet t.tw)) := rfl
theorem RaD.p_cls (t : RaD) : partV false 1 8 t.cells = some (.d (.int .i64 t.cls)) := rfl
theorem RaD.l_cls (t : RaD) : loadV false 1 (.dptr t.enc 8) = some (.d (.int .i64 t.cls)) := rfl
theorem RaD.p_rg (t : RaD) : partV true 4 9 t.cells = some (.d (dRg t.rg)) := rfl
theorem RaD.l_rg (t : RaD) : loadV true 4 (.dptr t.enc 9) = some (.d (dRg t.rg)) := rfl
theorem RaD.q_rg (t : RaD) : partV true 2 9 t.cells = some (.d (dLev t.rg.1)) := rfl
theorem RaD.r_rg (t : RaD) : partV true 2 11 t.cells = some (.d (dLev t.rg.2)) := rfl
structure CsD where
  cls : Int
  perms : BitVec 32
  val : Bool
  e : Xp
  nm : D
  kd : D
  h : IsE e (.agg (fEx e.op e.a e.rel e.b nm e.w kd))
def CsD.enc (t : CsD) : D := .agg [.int .i64 t.cls, dU t.perms, .bool t.val, .int .i64 t.e.op, .int .i64 t.e.a, .int .i64 t.e.rel, .int .i64 t.e.b, t.nm, dW (t.e.w 0), dW (t.e.w 1), dW (t.e.w 2), dW (t.e.w 3), t.kd]
def CsD.cells (t : CsD) : List SV := [.d (.int .i64 t.cls), .d (dU t.perms), .d (.bool t.val), .d (.int .i64 t.e.op), .d (.int .i64 t.e.a), .d (.int .i64 t.e.rel), .d (.int .i64 t.e.b), .d (t.nm), .d (dW (t.e.w 0)), .d (dW (t.e.w 1)), .d (dW (t.e.w 2)), .d (dW (t.e.w 3)), .d (t.kd)]
theorem CsD.c (t : CsD) : cellsV (.d t.enc) = some t.cells := rfl
theorem CsD.n (t : CsD) : t.cells.length = 13 := rfl
theorem CsD.a (t : CsD) : partV true 13 0 t.cells = some (.d t.enc) := rfl
theorem CsD.ld (t : CsD) : loadV true 13 (.dptr t.enc 0) = some (.d t.enc) := rfl
theorem CsD.st (t : CsD) (a0 a1 a2 a3 a4 a5 a6 a7 a8 a9 a10 a11 a12 : SV) : setAt [a0, a1, a2, a3, a4, a5, a6, a7, a8, a9, a10, a11, a12] 0 t.cells = t.cells := by
  unfold CsD.cells
  simp only [setAt, List.set_cons_zero, List.set_cons_succ]
theorem CsD.p_cls (t : CsD) : partV false 1 0 t.cells = some (.d (.int .i64 t.cls)) := rfl
theorem CsD.l_cls (t : CsD) : loadV false 1 (.dptr t.enc 0) = some (.d (.int .i64 t.cls)) := rfl
theorem CsD.p_perms (t : CsD) : partV false 1 1 t.cells = some (.d (dU t.perms)) := rfl
theorem CsD.l_perms (t : CsD) : loadV false 1 (.dptr t.enc 1) = some (.d (dU t.perms)) := rfl
theorem CsD.p_val (t : CsD) : partV false 1 2 t.cells = some (.d (.bool t.val)) := rfl
theorem CsD.l_val (t : CsD) : loadV false 1 (.dptr t.enc 2) = some (.d (.bool t.val)) := rfl
theorem CsD.p_e (t : CsD) : partV true 10 3 t.cells = some (.d (.agg (fEx t.e.op t.e.a t.e.rel t.e.b t.nm t.e.w t.kd))) := rfl
theorem CsD.l_e (t : CsD) : loadV true 10 (.dptr t.enc 3) = some (.d (.agg (fEx t.e.op t.e.a t.e.rel t.e.b t.nm t.e.w t.kd))) := rfl
structure SiD where
  name : List UInt8
  ctx : CtxD
def SiD.enc (t : SiD) : D := .agg [.str t.name, .int .i64 t.ctx.u, .int .i64 t.ctx.r, .int .i64 t.ctx.t, .int .i64 t.ctx.ls, dW t.ctx.lc, .int .i64 t.ctx.hs, dW t.ctx.hc]
def SiD.cells (t : SiD) : List SV := [.d (.str t.name), .d (.int .i64 t.ctx.u), .d (.int .i64 t.ctx.r), .d (.int .i64 t.ctx.t), .d (.int .i64 t.ctx.ls), .d (dW t.ctx.lc), .d (.int .i64 t.ctx.hs), .d (dW t.ctx.hc)]
theorem SiD.c (t : SiD) : cellsV (.d t.enc) = some t.cells := rfl
theorem SiD.n (t : SiD) : t.cells.length = 8 := rfl
theorem SiD.a (t : SiD) : partV true 8 0 t.cells = some (.d t.enc) := rfl
theorem SiD.ld (t : SiD) : loadV true 8 (.dptr t.enc 0) = some (.d t.enc) := rfl
theorem SiD.st (t : SiD) (a0 a1 a2 a3 a4 a5 a6 a7 : SV) : setAt [a0, a1, a2, a3, a4, a5, a6, a7] 0 t.cells = t.cells := by
  unfold SiD.cells
  simp only [setAt, List.set_cons_zero, List.set_cons_succ]
theorem SiD.p_name (t : SiD) : partV false 1 0 t.cells = some (.d (.str t.name)) := rfl
theorem SiD.l_name (t : SiD) : loadV false 1 (.dptr t.enc 0) = some (.d (.str t.name)) := rfl
theorem SiD.p_ctx (t : SiD) : partV true 7 1 t.cells = some (.d (dCtx t.ctx)) := rfl
theorem SiD.l_ctx (t : SiD) : loadV true 7 (.dptr t.enc 1) = some (.d (dCtx t.ctx)) := rfl
theorem SiD.c0_ctx (t : SiD) : partV false 1 1 t.cells = some (.d (.int .i64 t.ctx.u)) := rfl
theorem SiD.c1_ctx (t : SiD) : partV false 1 2 t.cells = some (.d (.int .i64 t.ctx.r)) := rfl
theorem SiD.c2_ctx (t : SiD) : partV false 1 3 t.cells = some (.d (.int .i64 t.ctx.t)) := rfl
structure FiD where
  pat : List UInt8
  kind : Int
  ctx : CtxD
def FiD.enc (t : FiD) : D := .agg [.str t.pat, .int .i64 t.kind, .int .i64 t.ctx.u, .int .i64 t.ctx.r, .int .i64 t.ctx.t, .int .i64 t.ctx.ls, dW t.ctx.lc, .int .i64 t.ctx.hs, dW t.ctx.hc]
def FiD.cells (t : FiD) : List SV := [.d (.str t.pat), .d (.int .i64 t.kind), .d (.int .i64 t.ctx.u), .d (.int .i64 t.ctx.r), .d (.int .i64 t.ctx.t), .d (.int .i64 t.ctx.ls), .d (dW t.ctx.lc), .d (.int .i64 t.ctx.hs), .d (dW t.ctx.hc)]
theorem FiD.c (t : FiD) : cellsV (.d t.enc) = some t.cells := rfl
theorem FiD.n (t : FiD) : t.cells.length = 9 := rfl
theorem FiD.a (t : FiD) : partV true 9 0 t.cells = some (.d t.enc) := rfl
theorem FiD.ld (t : FiD) : loadV true 9 (.dptr t.enc 0) = some (.d t.enc) := rfl
theorem FiD.st (t : FiD) (a0 a1 a2 a3 a4 a5 a6 a7 a8 : SV) : setAt [a0, a1, a2, a3, a4, a5, a6, a7, a8] 0 t.cells = t.cells := by
  unfold FiD.cells
  simp only [setAt, List.set_cons_zero, List.set_cons_succ]
theorem FiD.p_pat (t : FiD) : partV false 1 0 t.cells = some (.d (.str t.pat)) := rfl
theorem FiD.l_pat (t : FiD) : loadV false 1 (.dptr t.enc 0) = some (.d (.str t.pat)) := rfl
theorem FiD.p_kind (t : FiD) : partV false 1 1 t.cells = some (.d (.int .i64 t.kind)) := rfl
theorem FiD.l_kind (t : FiD) : loadV false 1 (.dptr t.enc 1) = some (.d (.int .i64 t.kind)) := rfl
theorem FiD.p_ctx (t : FiD) : partV true 7 2 t.cells = some (.d (dCtx t.ctx)) := rfl
theorem FiD.l_ctx (t : FiD) : loadV true 7 (.dptr t.enc 2) = some (.d (dCtx t.ctx)) := rfl
theorem FiD.c0_ctx (t : FiD) : partV false 1 2 t.cells = some (.d (.int .i64 t.ctx.u)) := rfl
theorem FiD.c1_ctx (t : FiD) : partV false 1 3 t.cells = some (.d (.int .i64 t.ctx.r)) := rfl
theorem FiD.c2_ctx (t : FiD) : partV false 1 4 t.cells = some (.d (.int .i64 t.ctx.t)) := rfl
structure AsD where
  name : List UInt8
  kind : Int
  sw : Nat → BitVec 64
  tw : Nat → BitVec 64
def AsD.enc (t : AsD) : D := .agg [.str t.name, .int .i64 t.kind, dW (t.sw 0), dW (t.sw 1), dW (t.sw 2), dW (t.sw 3), dW (t.tw 0), dW (t.tw 1), dW (t.tw 2), dW (t.tw 3)]
def AsD.cells (t : AsD) : List SV := [.d (.str t.name), .d (.int .i64 t.kind), .d (dW (t.sw 0)), .d (dW (t.sw 1)), .d (dW (t.sw 2)), .d (dW (t.sw 3)), .d (dW (t.tw 0)), .d (dW (t.tw 1)), .d (dW (t.tw 2)), .d (dW (t.tw 3))]
theorem AsD.c (t : AsD) : cellsV (.d t.enc) = some t.cells := rfl
theorem AsD.n (t : AsD) : t.cells.length = 10 := rfl
theorem AsD.a (t : AsD) : partV true 10 0 t.cells = some (.d t.enc) := rfl
theorem AsD.ld (t : AsD) : loadV true 10 (.dptr t.enc 0) = some (.d t.enc) := rfl
theorem AsD.st (t : AsD) (a0 a1 a2 a3 a4 a5 a6 a7 a8 a9 : SV) : setAt [a0, a1, a2, a3, a4, a5, a6, a7, a8, a9] 0 t.cells = t.cells := by
  unfold AsD.cells
  simp only [setAt, List.set_cons_zero, List.set_cons_succ]
theorem AsD.p_name (t : AsD) : partV false 1 0 t.cells = some (.d (.str t.name)) := rfl
theorem AsD.l_name (t : AsD) : loadV false 1 (.dptr t.enc 0) = some (.d (.str t.name)) := rfl
theorem AsD.p_kind (t : AsD) : partV false 1 1 t.cells = some (.d (.int .i64 t.kind)) := rfl
theorem AsD.l_kind (t : AsD) : loadV false 1 (.dptr t.enc 1) = some (.d (.int .i64 t.kind)) := rfl
theorem AsD.p_sw (t : AsD) : partV true 4 2 t.cells = some (.d (dSet t.sw)) := rfl
theorem AsD.l_sw (t : AsD) : loadV true 4 (.dptr t.enc 2) = some (.d (dSet t.sw)) := rfl
theorem AsD.p_tw (t : AsD) : partV true 4 6 t.cells = some (.d (dSet t.tw)) := rfl
theorem AsD.l_tw (t : AsD) : loadV true 4 (.dptr t.enc 6) = some (.d (dSet t.tw)) := rfl
structure PolD where
  cl : List ClD
  clX : D
  clH : IsD 2 (List.map ClD.enc cl) clX
  clM : cl.length ≤ maxLen
  ty : List TyD
  tyX : D
  tyH : IsD 3 (List.map TyD.enc ty) tyX
  tyM : ty.length ≤ maxLen
  at_ : List AtD
  at_X : D
  at_H : IsD 5 (List.map AtD.enc at_) at_X
  at_M : at_.length ≤ maxLen
  ro : List RoD
  roX : D
  roH : IsD 9 (List.map RoD.enc ro) roX
  roM : ro.length ≤ maxLen
  us : List UsD
  usX : D
  usH : IsD 11 (List.map UsD.enc us) usX
  usM : us.length ≤ maxLen
  bo : List BoD
  boX : D
  boH : IsD 2 (List.map BoD.enc bo) boX
  boM : bo.length ≤ maxLen
  se : List (List UInt8)
  seX : D
  seH : IsD 1 (dStrs se) seX
  seM : se.length ≤ maxLen
  ca : List (List UInt8)
  caX : D
  caH : IsD 1 (dStrs ca) caX
  caM : ca.length ≤ maxLen
  co : List XpD
  coX : D
  coH : IsD 10 (List.map XpD.enc co) coX
  coM : co.length ≤ maxLen
  ru : List RuD
  ruX : D
  ruH : IsD 13 (List.map RuD.enc ru) ruX
  ruM : ru.length ≤ maxLen
  tr : List TrD
  trX : D
  trH : IsD 13 (List.map TrD.enc tr) trX
  trM : tr.length ≤ maxLen
  rt : List RtD
  rtX : D
  rtH : IsD 10 (List.map RtD.enc rt) rtX
  rtM : rt.length ≤ maxLen
  ra : List RaD
  raX : D
  raH : IsD 13 (List.map RaD.enc ra) raX
  raM : ra.length ≤ maxLen
  cs : List CsD
  csX : D
  csH : IsD 13 (List.map CsD.enc cs) csX
  csM : cs.length ≤ maxLen
  si : List SiD
  siX : D
  siH : IsD 8 (List.map SiD.enc si) siX
  siM : si.length ≤ maxLen
  fi : List FiD
  fiX : D
  fiH : IsD 9 (List.map FiD.enc fi) fiX
  fiM : fi.length ≤ maxLen
  as_ : List AsD
  as_X : D
  as_H : IsD 10 (List.map AsD.enc as_) as_X
  as_M : as_.length ≤ maxLen
def dPol (p : PolD) : D := .agg [p.clX, p.tyX, p.at_X, p.roX, p.usX, p.boX, p.seX, p.caX, p.coX, p.ruX, p.trX, p.rtX, p.raX, p.csX, p.siX, p.fiX, p.as_X]
def cPol (p : PolD) : List SV := [.d p.clX, .d p.tyX, .d p.at_X, .d p.roX, .d p.usX, .d p.boX, .d p.seX, .d p.caX, .d p.coX, .d p.ruX, .d p.trX, .d p.rtX, .d p.raX, .d p.csX, .d p.siX, .d p.fiX, .d p.as_X]
theorem PolD.c (p : PolD) : cellsV (.d (dPol p)) = some (cPol p) := rfl
theorem PolD.n (p : PolD) : (cPol p).length = 17 := rfl
theorem PolD.a (p : PolD) : partV true 17 0 (cPol p) = some (.d (dPol p)) := rfl
theorem PolD.p_cl (p : PolD) : partV false 1 0 (cPol p) = some (.d p.clX) := rfl
theorem PolD.l_cl (p : PolD) : lenL (.d p.clX) = some (.d (.int .i64 (p.cl.length : Int))) := by rw [p.clH.len]; rw [List.length_map]
theorem PolD.g_cl (p : PolD) {i : Nat} {c : ClD} (h : p.cl[i]? = some c) : elemPtr 2 (.d p.clX) (.d (.int .i64 (i : Int))) = some (.dptr c.enc 0) := p.clH.at (by rw [List.getElem?_map, h]; rfl)
theorem PolD.p_ty (p : PolD) : partV false 1 1 (cPol p) = some (.d p.tyX) := rfl
theorem PolD.l_ty (p : PolD) : lenL (.d p.tyX) = some (.d (.int .i64 (p.ty.length : Int))) := by rw [p.tyH.len]; rw [List.length_map]
theorem PolD.g_ty (p : PolD) {i : Nat} {c : TyD} (h : p.ty[i]? = some c) : elemPtr 3 (.d p.tyX) (.d (.int .i64 (i : Int))) = some (.dptr c.enc 0) := p.tyH.at (by rw [List.getElem?_map, h]; rfl)
theorem PolD.p_at_ (p : PolD) : partV false 1 2 (cPol p) = some (.d p.at_X) := rfl
theorem PolD.l_at_ (p : PolD) : lenL (.d p.at_X) = some (.d (.int .i64 (p.at_.length : Int))) := by rw [p.at_H.len]; rw [List.length_map]
theorem PolD.g_at_ (p : PolD) {i : Nat} {c : AtD} (h : p.at_[i]? = some c) : elemPtr 5 (.d p.at_X) (.d (.int .i64 (i : Int))) = some (.dptr c.enc 0) := p.at_H.at (by rw [List.getElem?_map, h]; rfl)
theorem PolD.p_ro (p : PolD) : partV false 1 3 (cPol p) = some (.d p.roX) := rfl
theorem PolD.l_ro (p : PolD) : lenL (.d p.roX) = some (.d (.int .i64 (p.ro.length : Int))) := by rw [p.roH.len]; rw [List.length_map]
theorem PolD.g_ro (p : PolD) {i : Nat} {c : RoD} (h : p.ro[i]? = some c) : elemPtr 9 (.d p.roX) (.d (.int .i64 (i : Int))) = some (.dptr c.enc 0) := p.roH.at (by rw [List.getElem?_map, h]; rfl)
theorem PolD.p_us (p : PolD) : partV false 1 4 (cPol p) = some (.d p.usX) := rfl
theorem PolD.l_us (p : PolD) : lenL (.d p.usX) = some (.d (.int .i64 (p.us.length : Int))) := by rw [p.usH.len]; rw [List.length_map]
theorem PolD.g_us (p : PolD) {i : Nat} {c : UsD} (h : p.us[i]? = some c) : elemPtr 11 (.d p.usX) (.d (.int .i64 (i : Int))) = some (.dptr c.enc 0) := p.usH.at (by rw [List.getElem?_map, h]; rfl)
theorem PolD.p_bo (p : PolD) : partV false 1 5 (cPol p) = some (.d p.boX) := rfl
theorem PolD.l_bo (p : PolD) : lenL (.d p.boX) = some (.d (.int .i64 (p.bo.length : Int))) := by rw [p.boH.len]; rw [List.length_map]
theorem PolD.g_bo (p : PolD) {i : Nat} {c : BoD} (h : p.bo[i]? = some c) : elemPtr 2 (.d p.boX) (.d (.int .i64 (i : Int))) = some (.dptr c.enc 0) := p.boH.at (by rw [List.getElem?_map, h]; rfl)
theorem PolD.p_se (p : PolD) : partV false 1 6 (cPol p) = some (.d p.seX) := rfl
theorem PolD.l_se (p : PolD) : lenL (.d p.seX) = some (.d (.int .i64 (p.se.length : Int))) := by rw [p.seH.len]; rw [len_strs]
theorem PolD.g_se (p : PolD) {i : Nat} {c : List UInt8} (h : p.se[i]? = some c) : elemPtr 1 (.d p.seX) (.d (.int .i64 (i : Int))) = some (.dptr (.str c) 0) := p.seH.at (by exact at_strs h)
theorem PolD.p_ca (p : PolD) : partV false 1 7 (cPol p) = some (.d p.caX) := rfl
theorem PolD.l_ca (p : PolD) : lenL (.d p.caX) = some (.d (.int .i64 (p.ca.length : Int))) := by rw [p.caH.len]; rw [len_strs]
theorem PolD.g_ca (p : PolD) {i : Nat} {c : List UInt8} (h : p.ca[i]? = some c) : elemPtr 1 (.d p.caX) (.d (.int .i64 (i : Int))) = some (.dptr (.str c) 0) := p.caH.at (by exact at_strs h)
theorem PolD.p_co (p : PolD) : partV false 1 8 (cPol p) = some (.d p.coX) := rfl
theorem PolD.l_co (p : PolD) : lenL (.d p.coX) = some (.d (.int .i64 (p.co.length : Int))) := by rw [p.coH.len]; rw [List.length_map]
theorem PolD.g_co (p : PolD) {i : Nat} {c : XpD} (h : p.co[i]? = some c) : elemPtr 10 (.d p.coX) (.d (.int .i64 (i : Int))) = some (.dptr c.enc 0) := p.coH.at (by rw [List.getElem?_map, h]; rfl)
theorem PolD.p_ru (p : PolD) : partV false 1 9 (cPol p) = some (.d p.ruX) := rfl
theorem PolD.l_ru (p : PolD) : lenL (.d p.ruX) = some (.d (.int .i64 (p.ru.length : Int))) := by rw [p.ruH.len]; rw [List.length_map]
theorem PolD.g_ru (p : PolD) {i : Nat} {c : RuD} (h : p.ru[i]? = some c) : elemPtr 13 (.d p.ruX) (.d (.int .i64 (i : Int))) = some (.dptr c.enc 0) := p.ruH.at (by rw [List.getElem?_map, h]; rfl)
theorem PolD.p_tr (p : PolD) : partV false 1 10 (cPol p) = some (.d p.trX) := rfl
theorem PolD.l_tr (p : PolD) : lenL (.d p.trX) = some (.d (.int .i64 (p.tr.length : Int))) := by rw [p.trH.len]; rw [List.length_map]
theorem PolD.g_tr (p : PolD) {i : Nat} {c : TrD} (h : p.tr[i]? = some c) : elemPtr 13 (.d p.trX) (.d (.int .i64 (i : Int))) = some (.dptr c.enc 0) := p.trH.at (by rw [List.getElem?_map, h]; rfl)
theorem PolD.p_rt (p : PolD) : partV false 1 11 (cPol p) = some (.d p.rtX) := rfl
theorem PolD.l_rt (p : PolD) : lenL (.d p.rtX) = some (.d (.int .i64 (p.rt.length : Int))) := by rw [p.rtH.len]; rw [List.length_map]
theorem PolD.g_rt (p : PolD) {i : Nat} {c : RtD} (h : p.rt[i]? = some c) : elemPtr 10 (.d p.rtX) (.d (.int .i64 (i : Int))) = some (.dptr c.enc 0) := p.rtH.at (by rw [List.getElem?_map, h]; rfl)
theorem PolD.p_ra (p : PolD) : partV false 1 12 (cPol p) = some (.d p.raX) := rfl
theorem PolD.l_ra (p : PolD) : lenL (.d p.raX) = some (.d (.int .i64 (p.ra.length : Int))) := by rw [p.raH.len]; rw [List.length_map]
theorem PolD.g_ra (p : PolD) {i : Nat} {c : RaD} (h : p.ra[i]? = some c) : elemPtr 13 (.d p.raX) (.d (.int .i64 (i : Int))) = some (.dptr c.enc 0) := p.raH.at (by rw [List.getElem?_map, h]; rfl)
theorem PolD.p_cs (p : PolD) : partV false 1 13 (cPol p) = some (.d p.csX) := rfl
theorem PolD.l_cs (p : PolD) : lenL (.d p.csX) = some (.d (.int .i64 (p.cs.length : Int))) := by rw [p.csH.len]; rw [List.length_map]
theorem PolD.g_cs (p : PolD) {i : Nat} {c : CsD} (h : p.cs[i]? = some c) : elemPtr 13 (.d p.csX) (.d (.int .i64 (i : Int))) = some (.dptr c.enc 0) := p.csH.at (by rw [List.getElem?_map, h]; rfl)
theorem PolD.p_si (p : PolD) : partV false 1 14 (cPol p) = some (.d p.siX) := rfl
theorem PolD.l_si (p : PolD) : lenL (.d p.siX) = some (.d (.int .i64 (p.si.length : Int))) := by rw [p.siH.len]; rw [List.length_map]
theorem PolD.g_si (p : PolD) {i : Nat} {c : SiD} (h : p.si[i]? = some c) : elemPtr 8 (.d p.siX) (.d (.int .i64 (i : Int))) = some (.dptr c.enc 0) := p.siH.at (by rw [List.getElem?_map, h]; rfl)
theorem PolD.p_fi (p : PolD) : partV false 1 15 (cPol p) = some (.d p.fiX) := rfl
theorem PolD.l_fi (p : PolD) : lenL (.d p.fiX) = some (.d (.int .i64 (p.fi.length : Int))) := by rw [p.fiH.len]; rw [List.length_map]
theorem PolD.g_fi (p : PolD) {i : Nat} {c : FiD} (h : p.fi[i]? = some c) : elemPtr 9 (.d p.fiX) (.d (.int .i64 (i : Int))) = some (.dptr c.enc 0) := p.fiH.at (by rw [List.getElem?_map, h]; rfl)
theorem PolD.p_as_ (p : PolD) : partV false 1 16 (cPol p) = some (.d p.as_X) := rfl
theorem PolD.l_as_ (p : PolD) : lenL (.d p.as_X) = some (.d (.int .i64 (p.as_.length : Int))) := by rw [p.as_H.len]; rw [List.length_map]
theorem PolD.g_as_ (p : PolD) {i : Nat} {c : AsD} (h : p.as_[i]? = some c) : elemPtr 10 (.d p.as_X) (.d (.int .i64 (i : Int))) = some (.dptr c.enc 0) := p.as_H.at (by rw [List.getElem?_map, h]; rfl)
end Go.Proofs.YtcnnhnjcnekhcaaGreat.Ab
/-
  CONTRACTS WHOSE RESULT IS ONLY DESCRIBED: the steps.
-/
namespace Go.Proofs.YtcnnhnjcnekhcaaGreat.Ab
open Go

section
variable {P : Program} {gl : Nat → Option D} {h : Hints} {f : FuncId} {args : List SV}
theorem tot_bool {R : Bool → Prop} (hm : P.follows .mixedOrders = true) (hE : Enters P f) (hne : ∃ b, R b) (hh : body P gl (Holds P gl) h f args fun r => ∃ b, r = .d (.bool b) ∧ R b) : ∃ b, R b ∧ Holds P gl f args (.d (.bool b)) := by
  obtain ⟨b0, hb0⟩ := hne
  obtain ⟨r, ⟨b, rfl, hR⟩, hr⟩ := holds_some hm hE ⟨_, b0, rfl, hb0⟩ hh
  exact ⟨b, hR, hr⟩
theorem tot_int {R : Int → Prop} (hm : P.follows .mixedOrders = true) (hE : Enters P f) (hne : ∃ b, R b) (hh : body P gl (Holds P gl) h f args fun r => ∃ b, r = .d (.int .i64 b) ∧ R b) : ∃ b, R b ∧ Holds P gl f args (.d (.int .i64 b)) := by
  obtain ⟨b0, hb0⟩ := hne
  obtain ⟨r, ⟨b, rfl, hR⟩, hr⟩ := holds_some hm hE ⟨_, b0, rfl, hb0⟩ hh
  exact ⟨b, hR, hr⟩
theorem ex_bool {k : SV → Prop} {R : Bool → Prop} (hr : ∃ b, R b ∧ Holds P gl f args (.d (.bool b))) (hk : ∀ b, R b → k (.d (.bool b))) : callP (Holds P gl) f args k := by
  obtain ⟨b, h1, h2⟩ := hr
  exact callP_of h2 (hk b h1)
theorem ex_int {k : SV → Prop} {R : Int → Prop} (hr : ∃ b, R b ∧ Holds P gl f args (.d (.int .i64 b))) (hk : ∀ b, R b → k (.d (.int .i64 b))) : callP (Holds P gl) f args k := by
  obtain ⟨b, h1, h2⟩ := hr
  exact callP_of h2 (hk b h1)
end
/-- a loop that counts, with what it gathers -/
theorem loopP_ex {α : Type} {F : List SV → List (List SV) → (List SV → List (List SV) → Prop) → Prop} (J : Nat → α → Prop) (st : Nat → α → List SV) (sb : Nat → α → List (List SV)) (n : Nat) (a0 : α) (h0 : J 0 a0)
    (hstep : ∀ i a, i < n → J i a → ∀ I : List SV → List (List SV) → Prop, (∀ a', J (i + 1) a' → I (st (i + 1) a') (sb (i + 1) a')) → F (st i a) (sb i a) I) (hend : ∀ a, J n a → ∀ I, F (st n a) (sb n a) I) : loopP F (st 0 a0) (sb 0 a0) := by
  intro I hI
  have key : ∀ k, k ≤ n → ∀ a, J (n - k) a → I (st (n - k) a) (sb (n - k) a) := by
    intro k
    induction k with
    | zero => intro _ a hj; exact hI _ _ (hend a hj I)
    | succ k ih =>
      intro hk a hj
      refine hI _ _ (hstep (n - (k + 1)) a (by omega) hj I fun a' hj' => ?_)
      rw [show n - (k + 1) + 1 = n - k by omega] at hj' ⊢
      exact ih (by omega) a' hj'
  have := key n (Nat.le_refl _)
  simp only [Nat.sub_self] at this
  exact this a0 h0

/-- what a call has gathered -/
def gown (sz : Nat) (L : List D) : SV := match L with
  | [] => .d (.sl .nil 0 [])
  | L => .own sz L
theorem isTup_gown (sz : Nat) (L : List D) : isTup (gown sz L) = false := by cases L <;> rfl
theorem noRef_gown (sz : Nat) (L : List D) : (gown sz L).noRef = true := by cases L <;> rfl
theorem cells_gown (sz : Nat) (L : List D) : cellsV (gown sz L) = some [gown sz L] := by cases L <;> rfl
def gsl (sz : Nat) (L : List D) : D := match L with
  | [] => .sl .nil 0 []
  | L => .sl .ro sz L
theorem dem_gown (sz : Nat) (L : List D) : demote (gown sz L) = .d (gsl sz L) := by cases L <;> rfl
theorem is_gsl (sz : Nat) (L : List D) : IsD sz L (gsl sz L) := by cases L with
  | nil => exact .nil 0 rfl
  | cons a L => exact .ro
theorem len_gown (sz : Nat) (L : List D) : lenL (gown sz L) = some (.d (.int .i64 (L.length : Int))) := by cases L <;> rfl
theorem app_gown {sz by_ : Nat} {L M : List D} {x : SV} {k : SV → Prop} (hx : elems sz x = some M) (hb : (L.length + M.length) * by_ ≤ 140737488355328) (hk : k (gown sz (L ++ M))) : appP sz by_ (gown sz L) x k := by
  unfold appP
  cases L with
  | nil =>
    have : appV sz (gown sz []) x = some (gown sz M, M.length) := by
      simp only [gown, appV, hx]
      cases M with
      | nil => rfl
      | cons a M => rfl
    rw [this]
    exact ⟨by simpa using hb, hk⟩
  | cons a L =>
    have : appV sz (gown sz (a :: L)) x = some (gown sz (a :: L ++ M), (a :: L).length + M.length) := by
      simp only [gown, appV, hx, ↓reduceIte, List.cons_append]
    rw [this]
    exact ⟨hb, hk⟩
/-- a written list, with more behind it -/
def fown (sz : Nat) (L M : List D) : SV := if M = [] then .full sz L else .own sz (L ++ M)
theorem app_full {sz by_ : Nat} {L M : List D} {x : SV} {k : SV → Prop} (hx : elems sz x = some M) (hb : (L.length + M.length) * by_ ≤ 140737488355328) (hk : k (fown sz L M)) : appP sz by_ (.full sz L) x k := by
  unfold appP
  by_cases hM : M = []
  · have : appV sz (.full sz L) x = some (fown sz L M, L.length) := by
      simp only [appV, hx, hM, ↓reduceIte, fown]
    rw [this]
    refine ⟨?_, hk⟩
    exact Nat.le_trans (Nat.mul_le_mul_right _ (Nat.le_add_right _ _)) hb
  · have : appV sz (.full sz L) x = some (fown sz L M, L.length + M.length) := by
      simp only [appV, hx, hM, ↓reduceIte, fown]
    rw [this]
    exact ⟨hb, hk⟩
theorem is_fown (sz : Nat) (L M : List D) : IsSl sz (L ++ M) (demote (fown sz L M)) := by
  unfold fown
  by_cases hM : M = []
  · rw [if_pos hM, hM, List.append_nil]; exact .full
  · rw [if_neg hM]; exact .ro
theorem elems_full (sz : Nat) (L : List D) : elems sz (.full sz L) = some L := by simp [elems]
theorem isSl_el {sz : Nat} {L : List D} {x : SV} (h : IsSl sz L x) : Ab.elems sz x = some L := h.elems.1
theorem parts_s1 (s : List UInt8) : partsS [(0, .v (.d (.str s)))] = some [(0, .str s)] := rfl
theorem fit_s1 (s : List UInt8) : partsFit 1 1 [(0, .str s)] = true := rfl
theorem elems_s1 (z : D) (s : List UInt8) : buildElems z [(0, .str s)] 1 0 = [.str s] := rfl
theorem str_at {s : List UInt8} {i : Nat} {b : UInt8} (h : s[i]? = some b) : strAt (.d (.str s)) (.d (.int .i64 (i : Int))) = some (.d (.int .u8 (b.toNat : Int))) := by
  have hi : i < s.length := (List.getElem?_eq_some_iff.1 h).1
  unfold strAt
  simp only [index_nat hi, h]
theorem sub_str {s : List UInt8} {i j : Nat} (hij : i ≤ j) (hj : j ≤ s.length) : sliceS (.d (.str s)) (some (.d (.int .i64 (i : Int)))) (some (.d (.int .i64 (j : Int)))) none = some (.d (.str ((s.take j).drop i))) := by
  simp only [sliceS, subStr, hiOf, loOf, index_nat (show j < s.length + 1 by omega), index_nat (show i < j + 1 by omega)]
theorem len_strS (s : List UInt8) : lenS (.d (.str s)) = some (.d (.int .i64 (s.length : Int))) := rfl
theorem strs_wf {s : List UInt8} {rest : List SV} (h : SV.WfL (.d (.str s) :: rest)) : s.length ≤ maxLen := by
  have := (SV.WfL_iff _).1 h (.d (.str s)) (by simp)
  simpa [SV.Wf, D.Wf] using this
/-- the first of a list -/
theorem sub_sl {sz : Nat} {L : List D} {x : SV} (h : IsSl sz L x) {i : Nat} (hi : i ≤ L.length) : ∃ y, sliceL sz x none (some (.d (.int .i64 (i : Int)))) none = some (.d y) ∧ IsD sz (L.take i) y := by
  cases h with
  | nil s h =>
    subst h
    have : i = 0 := by simpa using hi
    subst this
    exact ⟨.sl .nil sz [], rfl, .nil sz rfl⟩
  | ro => exact ⟨.sl .ro sz (L.take i), by simp [sliceL, toD, subOf, hiOf, loOf, index_nat (show i < L.length + 1 by omega)], .ro⟩
  | full => exact ⟨.sl .ro sz (L.take i), by simp [sliceL, toD, subOf, hiOf, loOf, index_nat (show i < L.length + 1 by omega)], .ro⟩
end Go.Proofs.YtcnnhnjcnekhcaaGreat.Ab
/-
  WORDS OF 32 BITS, AND LISTS OF NAMES.
-/
namespace Go.Proofs.YtcnnhnjcnekhcaaGreat.Ab
open Go
theorem wrap32 (n : Int) : IntKind.u32.wrap n = n % 2 ^ 32 := by simp [IntKind.wrap, IntKind.signed, IntKind.bits]
theorem ofInt_toNat32 (x : BitVec 32) : BitVec.ofInt 32 (x.toNat : Int) = x := by
  apply BitVec.eq_of_toNat_eq
  simp
theorem orU (x y : BitVec 32) : binV none .or (.d (dU x)) (.d (dU y)) = some (.d (dU (x ||| y))) := by
  simp only [binV, binD, dU, intBop, wrap32, ↓reduceIte]
  have h := Int.emod_eq_of_lt (Int.natCast_nonneg (x ||| y).toNat) (b := 2 ^ 32) (by have := (x ||| y).isLt; omega)
  have h1 : BitVec.ofInt IntKind.u32.bits (x.toNat : Int) = x := ofInt_toNat32 x
  have h2 : BitVec.ofInt IntKind.u32.bits (y.toNat : Int) = y := ofInt_toNat32 y
  rw [h1, h2]
  exact congrArg (fun z => some (SV.d (.int .u32 z))) h
theorem shrU (x : BitVec 32) (k : IntKind) (n : Nat) : binV none .shr (.d (dU x)) (.d (.int k (n : Int))) = some (.d (dU (x >>> n))) := by
  simp only [binV, binD, dU, shiftOp, IntKind.bits]
  rw [if_neg (by omega)]
  simp only [Int.toNat_natCast]
  have : ((x.toNat : Int)).fdiv (2 ^ min n 32) = ((x >>> n).toNat : Int) := by
    rw [Int.fdiv_eq_ediv_of_nonneg _ (Int.le_of_lt (Int.pow_pos (by decide))), BitVec.toNat_ushiftRight, Nat.shiftRight_eq_div_pow]
    have e : ((2 : Int) ^ min n 32) = ((2 ^ min n 32 : Nat) : Int) := by simp
    rw [e, ← Int.natCast_ediv]
    congr 1
    rcases Nat.le_total n 32 with h | h
    · rw [Nat.min_eq_left h]
    · rw [Nat.min_eq_right h, Nat.div_eq_of_lt x.isLt, Nat.div_eq_of_lt]
      exact Nat.lt_of_lt_of_le x.isLt (Nat.pow_le_pow_right (by decide) h)
  exact congrArg (fun z => some (SV.d (.int .u32 z))) this
theorem dU_inj {x y : BitVec 32} : ((x.toNat : Int) == (y.toNat : Int)) = (x == y) := by
  rw [Bool.eq_iff_iff, beq_iff_eq, beq_iff_eq, Int.ofNat_inj, BitVec.toNat_inj]
theorem eqU (x y : BitVec 32) : binV (some (false, [.int])) .eql (.d (dU x)) (.d (dU y)) = some (.d (.bool (x == y))) := by
  simp only [binV, binD, dU, intBop, ↓reduceIte, dU_inj]
theorem neU (x y : BitVec 32) : binV (some (false, [.int])) .neq (.d (dU x)) (.d (dU y)) = some (.d (.bool (x != y))) := by
  simp only [binV, binD, dU, intBop, ↓reduceIte, bne, dU_inj]
theorem eqU0 (x : BitVec 32) : binV (some (false, [.int])) .eql (.d (dU x)) (.d (.int .u32 0)) = some (.d (.bool (x == 0))) := eqU x 0
theorem neU0 (x : BitVec 32) : binV (some (false, [.int])) .neq (.d (dU x)) (.d (.int .u32 0)) = some (.d (.bool (x != 0))) := neU x 0
theorem eqW0 (x : BitVec 64) : binV (some (false, [.int])) .eql (.d (dW x)) (.d (.int .u64 0)) = some (.d (.bool (x == 0))) := bin_eqlW x 0
theorem neW0 (x : BitVec 64) : binV (some (false, [.int])) .neq (.d (dW x)) (.d (.int .u64 0)) = some (.d (.bool (x != 0))) := neq_word x 0
/-- is a text in a list -/
def hasS (s : List UInt8) (l : List (List UInt8)) : Bool := l.any (· == s)
theorem hasS_iff {s : List UInt8} {l : List (List UInt8)} : hasS s l = true ↔ s ∈ l := by
  simp [hasS]
theorem hasS_get {s t : List UInt8} {l : List (List UInt8)} {i : Nat} (h : l[i]? = some t) (he : (t == s) = true) : hasS s l = true := by
  rw [hasS_iff]
  have : t = s := by simpa using he
  subst this
  exact List.mem_of_getElem? h
theorem hasS_none {s : List UInt8} {l : List (List UInt8)} (h : ∀ (i : Nat) t, l[i]? = some t → (t == s) = false) : hasS s l = false := by
  cases hh : hasS s l with
  | false => rfl
  | true =>
    obtain ⟨i, hi⟩ := List.mem_iff_getElem?.1 (hasS_iff.1 hh)
    have := h i s hi
    simp at this
/-- names that are different, and not among others -/
def namesOk (l oth : List (List UInt8)) : Prop := ∀ (i : Nat) s, l[i]? = some s → hasS s (l.take i) = false ∧ hasS s oth = false
/-- the names and aliases of types -/
def tyN (l : List TyD) : List (List UInt8) := l.flatMap fun t => t.name :: t.als
theorem tyN_take {l : List TyD} {i : Nat} {t : TyD} (h : l[i]? = some t) : tyN (l.take (i + 1)) = tyN (l.take i) ++ [t.name] ++ t.als := by
  have : l.take (i + 1) = l.take i ++ [t] := by
    rw [List.take_add_one, h]; rfl
  rw [this, tyN, tyN, List.flatMap_append]
  simp
theorem tyN_len {l : List TyD} {m : Nat} (h : ∀ t ∈ l, t.als.length ≤ m) : (tyN l).length ≤ l.length * (m + 1) := by
  induction l with
  | nil => simp [tyN]
  | cons t l ih =>
    have h1 := h t (by simp)
    have h2 := ih fun t' ht => h t' (by simp [ht])
    simp only [tyN, List.flatMap_cons, List.length_append, List.length_cons] at h2 ⊢
    rw [Nat.add_mul]
    omega
theorem take_get {α : Type} {l : List α} {i : Nat} {x : α} (h : l[i]? = some x) : l.take (i + 1) = l.take i ++ [x] := by
  rw [List.take_add_one, h]; rfl
theorem names_take {α : Type} (f : α → List UInt8) {l : List α} {i : Nat} {x : α} (h : l[i]? = some x) : dStrs ((l.take (i + 1)).map f) = dStrs ((l.take i).map f) ++ [.str (f x)] := by
  rw [take_get h]; simp [dStrs]
theorem names_len {α : Type} (f : α → List UInt8) (l : List α) (i : Nat) : (dStrs ((l.take i).map f)).length ≤ i := by
  rw [len_strs, List.length_map, List.length_take]; omega
theorem gown_nil (sz : Nat) : SV.d (.sl .nil 0 []) = gown sz [] := rfl
theorem gsl_nil (sz : Nat) : D.sl .nil 0 [] = gsl sz [] := rfl
/-- names that are different -/
def distF {α : Type} (f : α → List UInt8) (l : List α) : Prop := ∀ (i : Nat) x, l[i]? = some x → hasS (f x) ((l.take i).map f) = false
theorem app_fown {sz by_ : Nat} {L M N : List D} {x : SV} {k : SV → Prop} (hx : elems sz x = some N) (hb : (L.length + M.length + N.length) * by_ ≤ 140737488355328) (hk : k (fown sz L (M ++ N))) : appP sz by_ (fown sz L M) x k := by
  by_cases hM : M = []
  · subst hM
    rw [fown, if_pos rfl]
    exact app_full hx (by simpa using hb) hk
  · have e : fown sz L M = .own sz (L ++ M) := by rw [fown, if_neg hM]
    have e' : fown sz L (M ++ N) = .own sz (L ++ (M ++ N)) := by rw [fown, if_neg (by simp [hM])]
    rw [e]
    rw [e'] at hk
    unfold appP
    have : appV sz (.own sz (L ++ M)) x = some (.own sz (L ++ (M ++ N)), (L ++ M).length + N.length) := by
      simp only [appV, hx, ↓reduceIte, List.append_assoc]
    rw [this]
    exact ⟨by rw [List.length_append]; exact hb, hk⟩
theorem full_fown (sz : Nat) (L : List D) : SV.full sz L = fown sz L [] := by rw [fown, if_pos rfl]
theorem neq_role (t : RoD) (s : List UInt8) : ∃ b, binV (some (true, [.str, .int, .int, .int, .int, .int, .int, .int, .int])) .neq (.d t.enc) (.d (.agg [.str s, .int .u64 0, .int .u64 0, .int .u64 0, .int .u64 0, .int .u64 0, .int .u64 0, .int .u64 0, .int .u64 0])) = some (.d (.bool b)) ∧ (b = false → t.name = s) := by
  refine ⟨_, by simp only [binV, binD, RoD.enc, ckOk, dW, Bool.and_self, cond_true, eqCells, eqScal, ↓reduceIte]; rfl, fun h => ?_⟩
  simp at h
  exact h.1
/-- is a set within another one -/
def insW (a b : Nat → BitVec 64) : Bool := eqW (fun k => a k &&& ~~~ b k) fun _ => 0
end Go.Proofs.YtcnnhnjcnekhcaaGreat.Ab
/-
  STEPS TOGETHER: lemmas that are used as one.
-/
namespace Go.Proofs.YtcnnhnjcnekhcaaGreat.Ab
open Go
theorem sP : ((((((((∀ (t : ClD), cellsV (SV.d (ClD.enc t)) = some (ClD.cells t)) ∧ ((∀ (t : ClD), List.length (ClD.cells t) = 2) ∧ (∀ (t : ClD), partV true 2 0 (ClD.cells t) = some (SV.d (ClD.enc t))))) ∧ (((∀ (t : ClD), loadV true 2 (SV.dptr (ClD.enc t) 0) = some (SV.d (ClD.enc t))) ∧ (∀ (t : ClD) (a0 a1 : SV), setAt [a0, a1] 0 (ClD.cells t) = ClD.cells t)) ∧ ((∀ (t : ClD), partV false 1 0 (ClD.cells t) = some (SV.d (D.str (ClD.name t)))) ∧ (∀ (t : ClD), loadV false 1 (SV.dptr (ClD.enc t) 0) = some (SV.d (D.str (ClD.name t))))))) ∧ (((∀ (t : ClD), partV false 1 1 (ClD.cells t) = some (SV.d (ClD.permsX t))) ∧ ((∀ (t : ClD), loadV false 1 (SV.dptr (ClD.enc t) 1) = some (SV.d (ClD.permsX t))) ∧ (∀ (t : ClD), lenL (SV.d (ClD.permsX t)) = some (SV.d (D.int IntKind.i64 ↑(List.length (ClD.perms t))))))) ∧ (((∀ (t : TyD), cellsV (SV.d (TyD.enc t)) = some (TyD.cells t)) ∧ (∀ (t : TyD), List.length (TyD.cells t) = 3)) ∧ ((∀ (t : TyD), partV true 3 0 (TyD.cells t) = some (SV.d (TyD.enc t))) ∧ (∀ (t : TyD), loadV true 3 (SV.dptr (TyD.enc t) 0) = some (SV.d (TyD.enc t))))))) ∧ ((((∀ (t : TyD) (a0 a1 a2 : SV), setAt [a0, a1, a2] 0 (TyD.cells t) = TyD.cells t) ∧ ((∀ (t : TyD), partV false 1 0 (TyD.cells t) = some (SV.d (D.str (TyD.name t)))) ∧ (∀ (t : TyD), loadV false 1 (SV.dptr (TyD.enc t) 0) = some (SV.d (D.str (TyD.name t)))))) ∧ (((∀ (t : TyD), partV false 1 1 (TyD.cells t) = some (SV.d (TyD.alsX t))) ∧ (∀ (t : TyD), loadV false 1 (SV.dptr (TyD.enc t) 1) = some (SV.d (TyD.alsX t)))) ∧ ((∀ (t : TyD), lenL (SV.d (TyD.alsX t)) = some (SV.d (D.int IntKind.i64 ↑(List.length (TyD.als t))))) ∧ (∀ (t : TyD), partV false 1 2 (TyD.cells t) = some (SV.d (D.bool (TyD.pm t))))))) ∧ (((∀ (t : TyD), loadV false 1 (SV.dptr (TyD.enc t) 2) = some (SV.d (D.bool (TyD.pm t)))) ∧ ((∀ (t : AtD), cellsV (SV.d (AtD.enc t)) = some (AtD.cells t)) ∧ (∀ (t : AtD), List.length (AtD.cells t) = 5))) ∧ (((∀ (t : AtD), partV true 5 0 (AtD.cells t) = some (SV.d (AtD.enc t))) ∧ (∀ (t : AtD), loadV true 5 (SV.dptr (AtD.enc t) 0) = some (SV.d (AtD.enc t)))) ∧ ((∀ (t : AtD) (a0 a1 a2 a3 a4 : SV), setAt [a0, a1, a2, a3, a4] 0 (AtD.cells t) = AtD.cells t) ∧ (∀ (t : AtD), partV false 1 0 (AtD.cells t) = some (SV.d (D.str (AtD.name t))))))))) ∧ (((((∀ (t : AtD), loadV false 1 (SV.dptr (AtD.enc t) 0) = some (SV.d (D.str (AtD.name t)))) ∧ ((∀ (t : AtD), partV true 4 1 (AtD.cells t) = some (SV.d (dSet (AtD.w t)))) ∧ (∀ (t : AtD), loadV true 4 (SV.dptr (AtD.enc t) 1) = some (SV.d (dSet (AtD.w t)))))) ∧ (((∀ (t : RoD), cellsV (SV.d (RoD.enc t)) = some (RoD.cells t)) ∧ (∀ (t : RoD), List.length (RoD.cells t) = 9)) ∧ ((∀ (t : RoD), partV true 9 0 (RoD.cells t) = some (SV.d (RoD.enc t))) ∧ (∀ (t : RoD), loadV true 9 (SV.dptr (RoD.enc t) 0) = some (SV.d (RoD.enc t)))))) ∧ (((∀ (t : RoD) (a0 a1 a2 a3 a4 a5 a6 a7 a8 : SV), setAt [a0, a1, a2, a3, a4, a5, a6, a7, a8] 0 (RoD.cells t) = RoD.cells t) ∧ ((∀ (t : RoD), partV false 1 0 (RoD.cells t) = some (SV.d (D.str (RoD.name t)))) ∧ (∀ (t : RoD), loadV false 1 (SV.dptr (RoD.enc t) 0) = some (SV.d (D.str (RoD.name t)))))) ∧ (((∀ (t : RoD), partV true 4 1 (RoD.cells t) = some (SV.d (dSet (RoD.tw t)))) ∧ (∀ (t : RoD), loadV true 4 (SV.dptr (RoD.enc t) 1) = some (SV.d (dSet (RoD.tw t))))) ∧ ((∀ (t : RoD), partV true 4 5 (RoD.cells t) = some (SV.d (dSet (RoD.nw t)))) ∧ (∀ (t : RoD), loadV true 4 (SV.dptr (RoD.enc t) 5) = some (SV.d (dSet (RoD.nw t)))))))) ∧ ((((∀ (t : UsD), cellsV (SV.d (UsD.enc t)) = some (UsD.cells t)) ∧ ((∀ (t : UsD), List.length (UsD.cells t) = 11) ∧ (∀ (t : UsD), partV true 11 0 (UsD.cells t) = some (SV.d (UsD.enc t))))) ∧ (((∀ (t : UsD), loadV true 11 (SV.dptr (UsD.enc t) 0) = some (SV.d (UsD.enc t))) ∧ (∀ (t : UsD) (a0 a1 a2 a3 a4 a5 a6 a7 a8 a9 a10 : SV), setAt [a0, a1, a2, a3, a4, a5, a6, a7, a8, a9, a10] 0 (UsD.cells t) = UsD.cells t)) ∧ ((∀ (t : UsD), partV false 1 0 (UsD.cells t) = some (SV.d (D.str (UsD.name t)))) ∧ (∀ (t : UsD), loadV false 1 (SV.dptr (UsD.enc t) 0) = some (SV.d (D.str (UsD.name t))))))) ∧ ((((∀ (t : UsD), partV true 4 1 (UsD.cells t) = some (SV.d (dSet (UsD.rw t)))) ∧ (∀ (t : UsD), loadV true 4 (SV.dptr (UsD.enc t) 1) = some (SV.d (dSet (UsD.rw t))))) ∧ ((∀ (t : UsD), partV true 2 5 (UsD.cells t) = some (SV.d (dLev (UsD.df t)))) ∧ (∀ (t : UsD), loadV true 2 (SV.dptr (UsD.enc t) 5) = some (SV.d (dLev (UsD.df t)))))) ∧ (((∀ (t : UsD), partV true 4 7 (UsD.cells t) = some (SV.d (dRg (UsD.rg t)))) ∧ (∀ (t : UsD), loadV true 4 (SV.dptr (UsD.enc t) 7) = some (SV.d (dRg (UsD.rg t))))) ∧ ((∀ (t : UsD), partV true 2 7 (UsD.cells t) = some (SV.d (dLev (Prod.fst (UsD.rg t))))) ∧ (∀ (t : UsD), partV true 2 9 (UsD.cells t) = some (SV.d (dLev (Prod.snd (UsD.rg t))))))))))) ∧ ((((((∀ (t : BoD), cellsV (SV.d (BoD.enc t)) = some (BoD.cells t)) ∧ ((∀ (t : BoD), List.length (BoD.cells t) = 2) ∧ (∀ (t : BoD), partV true 2 0 (BoD.cells t) = some (SV.d (BoD.enc t))))) ∧ (((∀ (t : BoD), loadV true 2 (SV.dptr (BoD.enc t) 0) = some (SV.d (BoD.enc t))) ∧ (∀ (t : BoD) (a0 a1 : SV), setAt [a0, a1] 0 (BoD.cells t) = BoD.cells t)) ∧ ((∀ (t : BoD), partV false 1 0 (BoD.cells t) = some (SV.d (D.str (BoD.name t)))) ∧ (∀ (t : BoD), loadV false 1 (SV.dptr (BoD.enc t) 0) = some (SV.d (D.str (BoD.name t))))))) ∧ (((∀ (t : BoD), partV false 1 1 (BoD.cells t) = some (SV.d (D.bool (BoD.v t)))) ∧ ((∀ (t : BoD), loadV false 1 (SV.dptr (BoD.enc t) 1) = some (SV.d (D.bool (BoD.v t)))) ∧ (∀ (t : RuD), cellsV (SV.d (RuD.enc t)) = some (RuD.cells t)))) ∧ (((∀ (t : RuD), List.length (RuD.cells t) = 13) ∧ (∀ (t : RuD), partV true 13 0 (RuD.cells t) = some (SV.d (RuD.enc t)))) ∧ ((∀ (t : RuD), loadV true 13 (SV.dptr (RuD.enc t) 0) = some (SV.d (RuD.enc t))) ∧ (∀ (t : RuD) (a0 a1 a2 a3 a4 a5 a6 a7 a8 a9 a10 a11 a12 : SV), setAt [a0, a1, a2, a3, a4, a5, a6, a7, a8, a9, a10, a11, a12] 0 (RuD.cells t) = RuD.cells t))))) ∧ ((((∀ (t : RuD), partV false 1 0 (RuD.cells t) = some (SV.d (D.int IntKind.i64 (RuD.kind t)))) ∧ ((∀ (t : RuD), loadV false 1 (SV.dptr (RuD.enc t) 0) = some (SV.d (D.int IntKind.i64 (RuD.kind t)))) ∧ (∀ (t : RuD), partV true 4 1 (RuD.cells t) = some (SV.d (dSet (RuD.sw t)))))) ∧ (((∀ (t : RuD), loadV true 4 (SV.dptr (RuD.enc t) 1) = some (SV.d (dSet (RuD.sw t)))) ∧ (∀ (t : RuD), partV true 4 5 (RuD.cells t) = some (SV.d (dSet (RuD.tw t))))) ∧ ((∀ (t : RuD), loadV true 4 (SV.dptr (RuD.enc t) 5) = some (SV.d (dSet (RuD.tw t)))) ∧ (∀ (t : RuD), partV false 1 9 (RuD.cells t) = some (SV.d (D.bool (RuD.self t))))))) ∧ ((((∀ (t : RuD), loadV false 1 (SV.dptr (RuD.enc t) 9) = some (SV.d (D.bool (RuD.self t)))) ∧ (∀ (t : RuD), partV false 1 10 (RuD.cells t) = some (SV.d (D.int IntKind.i64 (RuD.cls t))))) ∧ ((∀ (t : RuD), loadV false 1 (SV.dptr (RuD.enc t) 10) = some (SV.d (D.int IntKind.i64 (RuD.cls t)))) ∧ (∀ (t : RuD), partV false 1 11 (RuD.cells t) = some (SV.d (dU (RuD.perms t)))))) ∧ (((∀ (t : RuD), loadV false 1 (SV.dptr (RuD.enc t) 11) = some (SV.d (dU (RuD.perms t)))) ∧ (∀ (t : RuD), partV false 1 12 (RuD.cells t) = some (SV.d (D.int IntKind.i64 (RuD.cond t))))) ∧ ((∀ (t : RuD), loadV false 1 (SV.dptr (RuD.enc t) 12) = some (SV.d (D.int IntKind.i64 (RuD.cond t)))) ∧ (∀ (t : TrD), cellsV (SV.d (TrD.enc t)) = some (TrD.cells t))))))) ∧ (((((∀ (t : TrD), List.length (TrD.cells t) = 13) ∧ ((∀ (t : TrD), partV true 13 0 (TrD.cells t) = some (SV.d (TrD.enc t))) ∧ (∀ (t : TrD), loadV true 13 (SV.dptr (TrD.enc t) 0) = some (SV.d (TrD.enc t))))) ∧ (((∀ (t : TrD) (a0 a1 a2 a3 a4 a5 a6 a7 a8 a9 a10 a11 a12 : SV), setAt [a0, a1, a2, a3, a4, a5, a6, a7, a8, a9, a10, a11, a12] 0 (TrD.cells t) = TrD.cells t) ∧ (∀ (t : TrD), partV false 1 0 (TrD.cells t) = some (SV.d (D.int IntKind.i64 (TrD.kind t))))) ∧ ((∀ (t : TrD), loadV false 1 (SV.dptr (TrD.enc t) 0) = some (SV.d (D.int IntKind.i64 (TrD.kind t)))) ∧ (∀ (t : TrD), partV true 4 1 (TrD.cells t) = some (SV.d (dSet (TrD.sw t))))))) ∧ (((∀ (t : TrD), loadV true 4 (SV.dptr (TrD.enc t) 1) = some (SV.d (dSet (TrD.sw t)))) ∧ ((∀ (t : TrD), partV true 4 5 (TrD.cells t) = some (SV.d (dSet (TrD.tw t)))) ∧ (∀ (t : TrD), loadV true 4 (SV.dptr (TrD.enc t) 5) = some (SV.d (dSet (TrD.tw t)))))) ∧ (((∀ (t : TrD), partV false 1 9 (TrD.cells t) = some (SV.d (D.int IntKind.i64 (TrD.cls t)))) ∧ (∀ (t : TrD), loadV false 1 (SV.dptr (TrD.enc t) 9) = some (SV.d (D.int IntKind.i64 (TrD.cls t))))) ∧ ((∀ (t : TrD), partV false 1 10 (TrD.cells t) = some (SV.d (D.str (TrD.name t)))) ∧ (∀ (t : TrD), loadV false 1 (SV.dptr (TrD.enc t) 10) = some (SV.d (D.str (TrD.name t)))))))) ∧ ((((∀ (t : TrD), partV false 1 11 (TrD.cells t) = some (SV.d (D.int IntKind.i64 (TrD.res t)))) ∧ ((∀ (t : TrD), loadV false 1 (SV.dptr (TrD.enc t) 11) = some (SV.d (D.int IntKind.i64 (TrD.res t)))) ∧ (∀ (t : TrD), partV false 1 12 (TrD.cells t) = some (SV.d (D.int IntKind.i64 (TrD.cond t)))))) ∧ (((∀ (t : TrD), loadV false 1 (SV.dptr (TrD.enc t) 12) = some (SV.d (D.int IntKind.i64 (TrD.cond t)))) ∧ (∀ (t : RtD), cellsV (SV.d (RtD.enc t)) = some (RtD.cells t))) ∧ ((∀ (t : RtD), List.length (RtD.cells t) = 10) ∧ (∀ (t : RtD), partV true 10 0 (RtD.cells t) = some (SV.d (RtD.enc t)))))) ∧ ((((∀ (t : RtD), loadV true 10 (SV.dptr (RtD.enc t) 0) = some (SV.d (RtD.enc t))) ∧ (∀ (t : RtD) (a0 a1 a2 a3 a4 a5 a6 a7 a8 a9 : SV), setAt [a0, a1, a2, a3, a4, a5, a6, a7, a8, a9] 0 (RtD.cells t) = RtD.cells t)) ∧ ((∀ (t : RtD), partV true 4 0 (RtD.cells t) = some (SV.d (dSet (RtD.rw t)))) ∧ (∀ (t : RtD), loadV true 4 (SV.dptr (RtD.enc t) 0) = some (SV.d (dSet (RtD.rw t)))))) ∧ (((∀ (t : RtD), partV true 4 4 (RtD.cells t) = some (SV.d (dSet (RtD.tw t)))) ∧ (∀ (t : RtD), loadV true 4 (SV.dptr (RtD.enc t) 4) = some (SV.d (dSet (RtD.tw t))))) ∧ ((∀ (t : RtD), partV false 1 8 (RtD.cells t) = some (SV.d (D.int IntKind.i64 (RtD.cls t)))) ∧ (∀ (t : RtD), loadV false 1 (SV.dptr (RtD.enc t) 8) = some (SV.d (D.int IntKind.i64 (RtD.cls t))))))))))) ∧ (((((((∀ (t : RtD), partV false 1 9 (RtD.cells t) = some (SV.d (D.int IntKind.i64 (RtD.res t)))) ∧ ((∀ (t : RtD), loadV false 1 (SV.dptr (RtD.enc t) 9) = some (SV.d (D.int IntKind.i64 (RtD.res t)))) ∧ (∀ (t : RaD), cellsV (SV.d (RaD.enc t)) = some (RaD.cells t)))) ∧ (((∀ (t : RaD), List.length (RaD.cells t) = 13) ∧ (∀ (t : RaD), partV true 13 0 (RaD.cells t) = some (SV.d (RaD.enc t)))) ∧ ((∀ (t : RaD), loadV true 13 (SV.dptr (RaD.enc t) 0) = some (SV.d (RaD.enc t))) ∧ (∀ (t : RaD) (a0 a1 a2 a3 a4 a5 a6 a7 a8 a9 a10 a11 a12 : SV), setAt [a0, a1, a2, a3, a4, a5, a6, a7, a8, a9, a10, a11, a12] 0 (RaD.cells t) = RaD.cells t)))) ∧ (((∀ (t : RaD), partV true 4 0 (RaD.cells t) = some (SV.d (dSet (RaD.sw t)))) ∧ ((∀ (t : RaD), loadV true 4 (SV.dptr (RaD.enc t) 0) = some (SV.d (dSet (RaD.sw t)))) ∧ (∀ (t : RaD), partV true 4 4 (RaD.cells t) = some (SV.d (dSet (RaD.tw t)))))) ∧ (((∀ (t : RaD), loadV true 4 (SV.dptr (RaD.enc t) 4) = some (SV.d (dSet (RaD.tw t)))) ∧ (∀ (t : RaD), partV false 1 8 (RaD.cells t) = some (SV.d (D.int IntKind.i64 (RaD.cls t))))) ∧ ((∀ (t : RaD), loadV false 1 (SV.dptr (RaD.enc t) 8) = some (SV.d (D.int IntKind.i64 (RaD.cls t)))) ∧ (∀ (t : RaD), partV true 4 9 (RaD.cells t) = some (SV.d (dRg (RaD.rg t)))))))) ∧ ((((∀ (t : RaD), loadV true 4 (SV.dptr (RaD.enc t) 9) = some (SV.d (dRg (RaD.rg t)))) ∧ ((∀ (t : RaD), partV true 2 9 (RaD.cells t) = some (SV.d (dLev (Prod.fst (RaD.rg t))))) ∧ (∀ (t : RaD), partV true 2 11 (RaD.cells t) = some (SV.d (dLev (Prod.snd (RaD.rg t))))))) ∧ (((∀ (t : CsD), cellsV (SV.d (CsD.enc t)) = some (CsD.cells t)) ∧ (∀ (t : CsD), List.length (CsD.cells t) = 13)) ∧ ((∀ (t : CsD), partV true 13 0 (CsD.cells t) = some (SV.d (CsD.enc t))) ∧ (∀ (t : CsD), loadV true 13 (SV.dptr (CsD.enc t) 0) = some (SV.d (CsD.enc t)))))) ∧ (((∀ (t : CsD) (a0 a1 a2 a3 a4 a5 a6 a7 a8 a9 a10 a11 a12 : SV), setAt [a0, a1, a2, a3, a4, a5, a6, a7, a8, a9, a10, a11, a12] 0 (CsD.cells t) = CsD.cells t) ∧ ((∀ (t : CsD), partV false 1 0 (CsD.cells t) = some (SV.d (D.int IntKind.i64 (CsD.cls t)))) ∧ (∀ (t : CsD), loadV false 1 (SV.dptr (CsD.enc t) 0) = some (SV.d (D.int IntKind.i64 (CsD.cls t)))))) ∧ (((∀ (t : CsD), partV false 1 1 (CsD.cells t) = some (SV.d (dU (CsD.perms t)))) ∧ (∀ (t : CsD), loadV false 1 (SV.dptr (CsD.enc t) 1) = some (SV.d (dU (CsD.perms t))))) ∧ ((∀ (t : CsD), partV false 1 2 (CsD.cells t) = some (SV.d (D.bool (CsD.val t)))) ∧ (∀ (t : CsD), loadV false 1 (SV.dptr (CsD.enc t) 2) = some (SV.d (D.bool (CsD.val t))))))))) ∧ (((((∀ (t : CsD), partV true 10 3 (CsD.cells t) = some (SV.d (D.agg (fEx (Xp.op (CsD.e t)) (Xp.a (CsD.e t)) (Xp.rel (CsD.e t)) (Xp.b (CsD.e t)) (CsD.nm t) (Xp.w (CsD.e t)) (CsD.kd t))))) ∧ ((∀ (t : CsD), loadV true 10 (SV.dptr (CsD.enc t) 3) = some (SV.d (D.agg (fEx (Xp.op (CsD.e t)) (Xp.a (CsD.e t)) (Xp.rel (CsD.e t)) (Xp.b (CsD.e t)) (CsD.nm t) (Xp.w (CsD.e t)) (CsD.kd t))))) ∧ (∀ (t : SiD), cellsV (SV.d (SiD.enc t)) = some (SiD.cells t)))) ∧ (((∀ (t : SiD), List.length (SiD.cells t) = 8) ∧ (∀ (t : SiD), partV true 8 0 (SiD.cells t) = some (SV.d (SiD.enc t)))) ∧ ((∀ (t : SiD), loadV true 8 (SV.dptr (SiD.enc t) 0) = some (SV.d (SiD.enc t))) ∧ (∀ (t : SiD) (a0 a1 a2 a3 a4 a5 a6 a7 : SV), setAt [a0, a1, a2, a3, a4, a5, a6, a7] 0 (SiD.cells t) = SiD.cells t)))) ∧ (((∀ (t : SiD), partV false 1 0 (SiD.cells t) = some (SV.d (D.str (SiD.name t)))) ∧ ((∀ (t : SiD), loadV false 1 (SV.dptr (SiD.enc t) 0) = some (SV.d (D.str (SiD.name t)))) ∧ (∀ (t : SiD), partV true 7 1 (SiD.cells t) = some (SV.d (dCtx (SiD.ctx t)))))) ∧ (((∀ (t : SiD), loadV true 7 (SV.dptr (SiD.enc t) 1) = some (SV.d (dCtx (SiD.ctx t)))) ∧ (∀ (t : SiD), partV false 1 1 (SiD.cells t) = some (SV.d (D.int IntKind.i64 (CtxD.u (SiD.ctx t)))))) ∧ ((∀ (t : SiD), partV false 1 2 (SiD.cells t) = some (SV.d (D.int IntKind.i64 (CtxD.r (SiD.ctx t))))) ∧ (∀ (t : SiD), partV false 1 3 (SiD.cells t) = some (SV.d (D.int IntKind.i64 (CtxD.t (SiD.ctx t))))))))) ∧ ((((∀ (t : FiD), cellsV (SV.d (FiD.enc t)) = some (FiD.cells t)) ∧ ((∀ (t : FiD), List.length (FiD.cells t) = 9) ∧ (∀ (t : FiD), partV true 9 0 (FiD.cells t) = some (SV.d (FiD.enc t))))) ∧ (((∀ (t : FiD), loadV true 9 (SV.dptr (FiD.enc t) 0) = some (SV.d (FiD.enc t))) ∧ (∀ (t : FiD) (a0 a1 a2 a3 a4 a5 a6 a7 a8 : SV), setAt [a0, a1, a2, a3, a4, a5, a6, a7, a8] 0 (FiD.cells t) = FiD.cells t)) ∧ ((∀ (t : FiD), partV false 1 0 (FiD.cells t) = some (SV.d (D.str (FiD.pat t)))) ∧ (∀ (t : FiD), loadV false 1 (SV.dptr (FiD.enc t) 0) = some (SV.d (D.str (FiD.pat t))))))) ∧ ((((∀ (t : FiD), partV false 1 1 (FiD.cells t) = some (SV.d (D.int IntKind.i64 (FiD.kind t)))) ∧ (∀ (t : FiD), loadV false 1 (SV.dptr (FiD.enc t) 1) = some (SV.d (D.int IntKind.i64 (FiD.kind t))))) ∧ ((∀ (t : FiD), partV true 7 2 (FiD.cells t) = some (SV.d (dCtx (FiD.ctx t)))) ∧ (∀ (t : FiD), loadV true 7 (SV.dptr (FiD.enc t) 2) = some (SV.d (dCtx (FiD.ctx t)))))) ∧ (((∀ (t : FiD), partV false 1 2 (FiD.cells t) = some (SV.d (D.int IntKind.i64 (CtxD.u (FiD.ctx t))))) ∧ (∀ (t : FiD), partV false 1 3 (FiD.cells t) = some (SV.d (D.int IntKind.i64 (CtxD.r (FiD.ctx t)))))) ∧ ((∀ (t : FiD), partV false 1 4 (FiD.cells t) = some (SV.d (D.int IntKind.i64 (CtxD.t (FiD.ctx t))))) ∧ (∀ (t : AsD), cellsV (SV.d (AsD.enc t)) = some (AsD.cells t)))))))) ∧ ((((((∀ (t : AsD), List.length (AsD.cells t) = 10) ∧ ((∀ (t : AsD), partV true 10 0 (AsD.cells t) = some (SV.d (AsD.enc t))) ∧ (∀ (t : AsD), loadV true 10 (SV.dptr (AsD.enc t) 0) = some (SV.d (AsD.enc t))))) ∧ (((∀ (t : AsD) (a0 a1 a2 a3 a4 a5 a6 a7 a8 a9 : SV), setAt [a0, a1, a2, a3, a4, a5, a6, a7, a8, a9] 0 (AsD.cells t) = AsD.cells t) ∧ (∀ (t : AsD), partV false 1 0 (AsD.cells t) = some (SV.d (D.str (AsD.name t))))) ∧ ((∀ (t : AsD), loadV false 1 (SV.dptr (AsD.enc t) 0) = some (SV.d (D.str (AsD.name t)))) ∧ (∀ (t : AsD), partV false 1 1 (AsD.cells t) = some (SV.d (D.int IntKind.i64 (AsD.kind t))))))) ∧ (((∀ (t : AsD), loadV false 1 (SV.dptr (AsD.enc t) 1) = some (SV.d (D.int IntKind.i64 (AsD.kind t)))) ∧ ((∀ (t : AsD), partV true 4 2 (AsD.cells t) = some (SV.d (dSet (AsD.sw t)))) ∧ (∀ (t : AsD), loadV true 4 (SV.dptr (AsD.enc t) 2) = some (SV.d (dSet (AsD.sw t)))))) ∧ (((∀ (t : AsD), partV true 4 6 (AsD.cells t) = some (SV.d (dSet (AsD.tw t)))) ∧ (∀ (t : AsD), loadV true 4 (SV.dptr (AsD.enc t) 6) = some (SV.d (dSet (AsD.tw t))))) ∧ ((∀ (p : PolD), cellsV (SV.d (dPol p)) = some (cPol p)) ∧ (∀ (p : PolD), List.length (cPol p) = 17))))) ∧ ((((∀ (p : PolD), partV true 17 0 (cPol p) = some (SV.d (dPol p))) ∧ ((∀ (p : PolD), partV false 1 0 (cPol p) = some (SV.d (PolD.clX p))) ∧ (∀ (p : PolD), lenL (SV.d (PolD.clX p)) = some (SV.d (D.int IntKind.i64 ↑(List.length (PolD.cl p))))))) ∧ (((∀ (p : PolD), partV false 1 1 (cPol p) = some (SV.d (PolD.tyX p))) ∧ (∀ (p : PolD), lenL (SV.d (PolD.tyX p)) = some (SV.d (D.int IntKind.i64 ↑(List.length (PolD.ty p)))))) ∧ ((∀ (p : PolD), partV false 1 2 (cPol p) = some (SV.d (PolD.at_X p))) ∧ (∀ (p : PolD), lenL (SV.d (PolD.at_X p)) = some (SV.d (D.int IntKind.i64 ↑(List.length (PolD.at_ p)))))))) ∧ ((((∀ (p : PolD), partV false 1 3 (cPol p) = some (SV.d (PolD.roX p))) ∧ (∀ (p : PolD), lenL (SV.d (PolD.roX p)) = some (SV.d (D.int IntKind.i64 ↑(List.length (PolD.ro p)))))) ∧ ((∀ (p : PolD), partV false 1 4 (cPol p) = some (SV.d (PolD.usX p))) ∧ (∀ (p : PolD), lenL (SV.d (PolD.usX p)) = some (SV.d (D.int IntKind.i64 ↑(List.length (PolD.us p))))))) ∧ (((∀ (p : PolD), partV false 1 5 (cPol p) = some (SV.d (PolD.boX p))) ∧ (∀ (p : PolD), lenL (SV.d (PolD.boX p)) = some (SV.d (D.int IntKind.i64 ↑(List.length (PolD.bo p)))))) ∧ ((∀ (p : PolD), partV false 1 6 (cPol p) = some (SV.d (PolD.seX p))) ∧ (∀ (p : PolD), lenL (SV.d (PolD.seX p)) = some (SV.d (D.int IntKind.i64 ↑(List.length (PolD.se p)))))))))) ∧ (((((∀ (p : PolD), partV false 1 7 (cPol p) = some (SV.d (PolD.caX p))) ∧ ((∀ (p : PolD), lenL (SV.d (PolD.caX p)) = some (SV.d (D.int IntKind.i64 ↑(List.length (PolD.ca p))))) ∧ (∀ (p : PolD), partV false 1 8 (cPol p) = some (SV.d (PolD.coX p))))) ∧ (((∀ (p : PolD), lenL (SV.d (PolD.coX p)) = some (SV.d (D.int IntKind.i64 ↑(List.length (PolD.co p))))) ∧ (∀ (p : PolD), partV false 1 9 (cPol p) = some (SV.d (PolD.ruX p)))) ∧ ((∀ (p : PolD), lenL (SV.d (PolD.ruX p)) = some (SV.d (D.int IntKind.i64 ↑(List.length (PolD.ru p))))) ∧ (∀ (p : PolD), partV false 1 10 (cPol p) = some (SV.d (PolD.trX p)))))) ∧ (((∀ (p : PolD), lenL (SV.d (PolD.trX p)) = some (SV.d (D.int IntKind.i64 ↑(List.length (PolD.tr p))))) ∧ ((∀ (p : PolD), partV false 1 11 (cPol p) = some (SV.d (PolD.rtX p))) ∧ (∀ (p : PolD), lenL (SV.d (PolD.rtX p)) = some (SV.d (D.int IntKind.i64 ↑(List.length (PolD.rt p))))))) ∧ (((∀ (p : PolD), partV false 1 12 (cPol p) = some (SV.d (PolD.raX p))) ∧ (∀ (p : PolD), lenL (SV.d (PolD.raX p)) = some (SV.d (D.int IntKind.i64 ↑(List.length (PolD.ra p)))))) ∧ ((∀ (p : PolD), partV false 1 13 (cPol p) = some (SV.d (PolD.csX p))) ∧ (∀ (p : PolD), lenL (SV.d (PolD.csX p)) = some (SV.d (D.int IntKind.i64 ↑(List.length (PolD.cs p))))))))) ∧ ((((∀ (p : PolD), partV false 1 14 (cPol p) = some (SV.d (PolD.siX p))) ∧ ((∀ (p : PolD), lenL (SV.d (PolD.siX p)) = some (SV.d (D.int IntKind.i64 ↑(List.length (PolD.si p))))) ∧ (∀ (p : PolD), partV false 1 15 (cPol p) = some (SV.d (PolD.fiX p))))) ∧ (((∀ (p : PolD), lenL (SV.d (PolD.fiX p)) = some (SV.d (D.int IntKind.i64 ↑(List.length (PolD.fi p))))) ∧ (∀ (p : PolD), partV false 1 16 (cPol p) = some (SV.d (PolD.as_X p)))) ∧ ((∀ (p : PolD), lenL (SV.d (PolD.as_X p)) = some (SV.d (D.int IntKind.i64 ↑(List.length (PolD.as_ p))))) ∧ (∀ (r : (Int × BitVec 64) × Int × BitVec 64), cellsV (SV.d (dRg r)) = some (cRg r))))) ∧ ((((∀ (r : (Int × BitVec 64) × Int × BitVec 64), List.length (cRg r) = 4) ∧ (∀ (r : (Int × BitVec 64) × Int × BitVec 64), partV true 4 0 (cRg r) = some (SV.d (dRg r)))) ∧ ((∀ (r : (Int × BitVec 64) × Int × BitVec 64), partV true 2 0 (cRg r) = some (SV.d (dLev (Prod.fst r)))) ∧ (∀ (r : (Int × BitVec 64) × Int × BitVec 64), partV true 2 2 (cRg r) = some (SV.d (dLev (Prod.snd r)))))) ∧ (((∀ (r : (Int × BitVec 64) × Int × BitVec 64), fieldV true 2 0 (SV.d (dRg r)) = some (SV.d (dLev (Prod.fst r)))) ∧ (∀ (r : (Int × BitVec 64) × Int × BitVec 64), fieldV true 2 2 (SV.d (dRg r)) = some (SV.d (dLev (Prod.snd r))))) ∧ ((∀ (x : CtxD), partV true 4 3 (cCtx x) = some (SV.d (dRg ((CtxD.ls x, CtxD.lc x), CtxD.hs x, CtxD.hc x)))) ∧ (∀ (t : XpD), loadV true 10 (SV.dptr (XpD.enc t) 0) = some (SV.d (XpD.enc t))))))))))) := ⟨⟨⟨⟨⟨⟨⟨@ClD.c, ⟨@ClD.n, @ClD.a⟩⟩, ⟨⟨@ClD.ld, @ClD.st⟩, ⟨@ClD.p_name, @ClD.l_name⟩⟩⟩, ⟨⟨@ClD.p_perms, ⟨@ClD.l_perms, @ClD.n_perms⟩⟩, ⟨⟨@TyD.c, @TyD.n⟩, ⟨@TyD.a, @TyD.ld⟩⟩⟩⟩, ⟨⟨⟨@TyD.st, ⟨@TyD.p_name, @TyD.l_name⟩⟩, ⟨⟨@TyD.p_als, @TyD.l_als⟩, ⟨@TyD.n_als, @TyD.p_pm⟩⟩⟩, ⟨⟨@TyD.l_pm, ⟨@AtD.c, @AtD.n⟩⟩, ⟨⟨@AtD.a, @AtD.ld⟩, ⟨@AtD.st, @AtD.p_name⟩⟩⟩⟩⟩, ⟨⟨⟨⟨@AtD.l_name, ⟨@AtD.p_w, @AtD.l_w⟩⟩, ⟨⟨@RoD.c, @RoD.n⟩, ⟨@RoD.a, @RoD.ld⟩⟩⟩, ⟨⟨@RoD.st, ⟨@RoD.p_name, @RoD.l_name⟩⟩, ⟨⟨@RoD.p_tw, @RoD.l_tw⟩, ⟨@RoD.p_nw, @RoD.l_nw⟩⟩⟩⟩, ⟨⟨⟨@UsD.c, ⟨@UsD.n, @UsD.a⟩⟩, ⟨⟨@UsD.ld, @UsD.st⟩, ⟨@UsD.p_name, @UsD.l_name⟩⟩⟩, ⟨⟨⟨@UsD.p_rw, @UsD.l_rw⟩, ⟨@UsD.p_df, @UsD.l_df⟩⟩, ⟨⟨@UsD.p_rg, @UsD.l_rg⟩, ⟨@UsD.q_rg, @UsD.r_rg⟩⟩⟩⟩⟩⟩, ⟨⟨⟨⟨⟨@BoD.c, ⟨@BoD.n, @BoD.a⟩⟩, ⟨⟨@BoD.ld, @BoD.st⟩, ⟨@BoD.p_name, @BoD.l_name⟩⟩⟩, ⟨⟨@BoD.p_v, ⟨@BoD.l_v, @RuD.c⟩⟩, ⟨⟨@RuD.n, @RuD.a⟩, ⟨@RuD.ld, @RuD.st⟩⟩⟩⟩, ⟨⟨⟨@RuD.p_kind, ⟨@RuD.l_kind, @RuD.p_sw⟩⟩, ⟨⟨@RuD.l_sw, @RuD.p_tw⟩, ⟨@RuD.l_tw, @RuD.p_self⟩⟩⟩, ⟨⟨⟨@RuD.l_self, @RuD.p_cls⟩, ⟨@RuD.l_cls, @RuD.p_perms⟩⟩, ⟨⟨@RuD.l_perms, @RuD.p_cond⟩, ⟨@RuD.l_cond, @TrD.c⟩⟩⟩⟩⟩, ⟨⟨⟨⟨@TrD.n, ⟨@TrD.a, @TrD.ld⟩⟩, ⟨⟨@TrD.st, @TrD.p_kind⟩, ⟨@TrD.l_kind, @TrD.p_sw⟩⟩⟩, ⟨⟨@TrD.l_sw, ⟨@TrD.p_tw, @TrD.l_tw⟩⟩, ⟨⟨@TrD.p_cls, @TrD.l_cls⟩, ⟨@TrD.p_name, @TrD.l_name⟩⟩⟩⟩, ⟨⟨⟨@TrD.p_res, ⟨@TrD.l_res, @TrD.p_cond⟩⟩, ⟨⟨@TrD.l_cond, @RtD.c⟩, ⟨@RtD.n, @RtD.a⟩⟩⟩, ⟨⟨⟨@RtD.ld, @RtD.st⟩, ⟨@RtD.p_rw, @RtD.l_rw⟩⟩, ⟨⟨@RtD.p_tw, @RtD.l_tw⟩, ⟨@RtD.p_cls, @RtD.l_cls⟩⟩⟩⟩⟩⟩⟩, ⟨⟨⟨⟨⟨⟨@RtD.p_res, ⟨@RtD.l_res, @RaD.c⟩⟩, ⟨⟨@RaD.n, @RaD.a⟩, ⟨@RaD.ld, @RaD.st⟩⟩⟩, ⟨⟨@RaD.p_sw, ⟨@RaD.l_sw, @RaD.p_tw⟩⟩, ⟨⟨@RaD.l_tw, @RaD.p_cls⟩, ⟨@RaD.l_cls, @RaD.p_rg⟩⟩⟩⟩, ⟨⟨⟨@RaD.l_rg, ⟨@RaD.q_rg, @RaD.r_rg⟩⟩, ⟨⟨@CsD.c, @CsD.n⟩, ⟨@CsD.a, @CsD.ld⟩⟩⟩, ⟨⟨@CsD.st, ⟨@CsD.p_cls, @CsD.l_cls⟩⟩, ⟨⟨@CsD.p_perms, @CsD.l_perms⟩, ⟨@CsD.p_val, @CsD.l_val⟩⟩⟩⟩⟩, ⟨⟨⟨⟨@CsD.p_e, ⟨@CsD.l_e, @SiD.c⟩⟩, ⟨⟨@SiD.n, @SiD.a⟩, ⟨@SiD.ld, @SiD.st⟩⟩⟩, ⟨⟨@SiD.p_name, ⟨@SiD.l_name, @SiD.p_ctx⟩⟩, ⟨⟨@SiD.l_ctx, @SiD.c0_ctx⟩, ⟨@SiD.c1_ctx, @SiD.c2_ctx⟩⟩⟩⟩, ⟨⟨⟨@FiD.c, ⟨@FiD.n, @FiD.a⟩⟩, ⟨⟨@FiD.ld, @FiD.st⟩, ⟨@FiD.p_pat, @FiD.l_pat⟩⟩⟩, ⟨⟨⟨@FiD.p_kind, @FiD.l_kind⟩, ⟨@FiD.p_ctx, @FiD.l_ctx⟩⟩, ⟨⟨@FiD.c0_ctx, @FiD.c1_ctx⟩, ⟨@FiD.c2_ctx, @AsD.c⟩⟩⟩⟩⟩⟩, ⟨⟨⟨⟨⟨@AsD.n, ⟨@AsD.a, @AsD.ld⟩⟩, ⟨⟨@AsD.st, @AsD.p_name⟩, ⟨@AsD.l_name, @AsD.p_kind⟩⟩⟩, ⟨⟨@AsD.l_kind, ⟨@AsD.p_sw, @AsD.l_sw⟩⟩, ⟨⟨@AsD.p_tw, @AsD.l_tw⟩, ⟨@PolD.c, @PolD.n⟩⟩⟩⟩, ⟨⟨⟨@PolD.a, ⟨@PolD.p_cl, @PolD.l_cl⟩⟩, ⟨⟨@PolD.p_ty, @PolD.l_ty⟩, ⟨@PolD.p_at_, @PolD.l_at_⟩⟩⟩, ⟨⟨⟨@PolD.p_ro, @PolD.l_ro⟩, ⟨@PolD.p_us, @PolD.l_us⟩⟩, ⟨⟨@PolD.p_bo, @PolD.l_bo⟩, ⟨@PolD.p_se, @PolD.l_se⟩⟩⟩⟩⟩, ⟨⟨⟨⟨@PolD.p_ca, ⟨@PolD.l_ca, @PolD.p_co⟩⟩, ⟨⟨@PolD.l_co, @PolD.p_ru⟩, ⟨@PolD.l_ru, @PolD.p_tr⟩⟩⟩, ⟨⟨@PolD.l_tr, ⟨@PolD.p_rt, @PolD.l_rt⟩⟩, ⟨⟨@PolD.p_ra, @PolD.l_ra⟩, ⟨@PolD.p_cs, @PolD.l_cs⟩⟩⟩⟩, ⟨⟨⟨@PolD.p_si, ⟨@PolD.l_si, @PolD.p_fi⟩⟩, ⟨⟨@PolD.l_fi, @PolD.p_as_⟩, ⟨@PolD.l_as_, @cells_rg⟩⟩⟩, ⟨⟨⟨@len_rg, @part_rg⟩, ⟨@part_rg0, @part_rg2⟩⟩, ⟨⟨@fld_rg0, @fld_rg2⟩, ⟨@part_ctxr, @XpD.ld⟩⟩⟩⟩⟩⟩⟩⟩
end Go.Proofs.YtcnnhnjcnekhcaaGreat.Ab
/-
  STEPS TOGETHER: lemmas that are used as one.
-/
namespace Go.Proofs.YtcnnhnjcnekhcaaGreat.Ab
open Go
theorem sW : (((((∀ (x y : BitVec 64), binV none BinOp.and (SV.d (dW x)) (SV.d (dW y)) = some (SV.d (dW (x &&& y)))) ∧ (∀ (x y : BitVec 64), binV none BinOp.or (SV.d (dW x)) (SV.d (dW y)) = some (SV.d (dW (x ||| y))))) ∧ ((∀ (x y : BitVec 64), binV none BinOp.andNot (SV.d (dW x)) (SV.d (dW y)) = some (SV.d (dW (x &&& ~~~y)))) ∧ (∀ (x : BitVec 64) (k : IntKind) (n : Nat), binV none BinOp.shr (SV.d (dW x)) (SV.d (D.int k ↑n)) = some (SV.d (dW (x >>> n)))))) ∧ (((∀ (x y : BitVec 64), binV (some (false, [CK.int])) BinOp.eql (SV.d (dW x)) (SV.d (dW y)) = some (SV.d (D.bool (x == y)))) ∧ (∀ (x y : BitVec 64), binV (some (false, [CK.int])) BinOp.neq (SV.d (dW x)) (SV.d (dW y)) = some (SV.d (D.bool (x != y))))) ∧ ((∀ (x : BitVec 64), binV (some (false, [CK.int])) BinOp.eql (SV.d (dW x)) (SV.d (D.int IntKind.u64 0)) = some (SV.d (D.bool (x == 0)))) ∧ (∀ (x : BitVec 64), binV (some (false, [CK.int])) BinOp.neq (SV.d (dW x)) (SV.d (D.int IntKind.u64 0)) = some (SV.d (D.bool (x != 0))))))) ∧ ((((∀ (x : BitVec 32), binV (some (false, [CK.int])) BinOp.eql (SV.d (dU x)) (SV.d (D.int IntKind.u32 0)) = some (SV.d (D.bool (x == 0)))) ∧ (∀ (x : BitVec 32), binV (some (false, [CK.int])) BinOp.neq (SV.d (dU x)) (SV.d (D.int IntKind.u32 0)) = some (SV.d (D.bool (x != 0))))) ∧ ((∀ (x y : BitVec 32), binV (some (false, [CK.int])) BinOp.eql (SV.d (dU x)) (SV.d (dU y)) = some (SV.d (D.bool (x == y)))) ∧ (∀ (x y : BitVec 32), binV (some (false, [CK.int])) BinOp.neq (SV.d (dU x)) (SV.d (dU y)) = some (SV.d (D.bool (x != y)))))) ∧ (((∀ (x : BitVec 32) (k : IntKind) (n : Nat), binV none BinOp.shr (SV.d (dU x)) (SV.d (D.int k ↑n)) = some (SV.d (dU (x >>> n)))) ∧ (∀ (x y : BitVec 32), binV none BinOp.or (SV.d (dU x)) (SV.d (dU y)) = some (SV.d (dU (x ||| y))))) ∧ ((∀ (x : D) (o n : Nat), addOffV (SV.dptr x o) n = some (SV.dptr x (o + n))) ∧ ((∀ (x : D) (o : Nat), demote (SV.dptr x o) = SV.dptr x o) ∧ (∀ (s : List UInt8), loadV false 1 (SV.dptr (D.str s) 0) = some (SV.d (D.str s)))))))) := ⟨⟨⟨⟨@bin_and, @bin_or⟩, ⟨@bin_andNot, @bin_shr⟩⟩, ⟨⟨@bin_eqlW, @neq_word⟩, ⟨@eqW0, @neW0⟩⟩⟩, ⟨⟨⟨@eqU0, @neU0⟩, ⟨@eqU, @neU⟩⟩, ⟨⟨@shrU, @orU⟩, ⟨@off_ptr, ⟨@dem_ptr, @load_str⟩⟩⟩⟩⟩
end Go.Proofs.YtcnnhnjcnekhcaaGreat.Ab
/-
  CONDITIONS: the nodes of a condition, in plain terms.
-/
namespace Go.Proofs.YtcnnhnjcnekhcaaGreat.Ab
open Go
def kids13 (op : Int) : Int := if op == 1 then 0 else if op == 8 then 0 else if op == 9 then 0 else if op == 2 then 1 else if op == 3 then 2 else if op == 4 then 2 else if op == 5 then 2 else if op == 6 then 2 else if op == 7 then 2 else -1
def belI (i n : Int) : Bool := decide (i ≥ 0) && decide (i < n)
/-- the error of a node of a condition -/
def cnd1 (nb : Int) (e : Xp) : Int :=
  if e.op == 8 || (e.op == 9 || (kids13 e.op != lenK e || (e.rel != 0 || (e.b != 0 || (decide (lenN e > 0) || ((!eqW e.w zW) || (e.op != 1 && e.a != 0))))))) then 2
  else if e.op == 1 && !belI e.a nb then 3 else 0
theorem lvs_min (m : Nat) : ∀ {l : List Xp} {i : Nat} {k : Xp}, l[i]? = some k → min (Xp.lv.lvs (l.take (i + 1))) m = max (min (Xp.lv.lvs (l.take i)) m) (min k.lv m)
  | [], i, k, h => by simp at h
  | x :: l, 0, k, h => by simp at h; subst h; simp [Xp.lv.lvs]
  | x :: l, i + 1, k, h => by
    rw [List.take_succ_cons, Xp.lv.lvs, List.take_succ_cons, Xp.lv.lvs]
    have := lvs_min m (l := l) (i := i) (k := k) (by simpa using h)
    omega
end Go.Proofs.YtcnnhnjcnekhcaaGreat.Ab
/-
  CONSTRAINTS OF A POLICY: what they forbid, in plain terms.
-/
namespace Go.Proofs.YtcnnhnjcnekhcaaGreat.Ab
open Go
theorem first_snoc {α : Type} {p : α → Bool} : ∀ (l : List α) (x : α), first p (l ++ [x]) = match first p l with | some k => some k | none => if p x then some l.length else none
  | [], x => by simp [first]
  | y :: l, x => by
    rw [List.cons_append, first, first, first_snoc l x]
    by_cases h : p y = true
    · rw [if_pos h, if_pos h]
    · rw [if_neg h, if_neg h]
      cases first p l with
      | some k => rfl
      | none =>
        by_cases hx : p x = true
        · simp [hx]
        · simp [hx]
theorem first_take {α : Type} {p : α → Bool} {l : List α} {i : Nat} {x : α} (h : l[i]? = some x) : first p (l.take (i + 1)) = match first p (l.take i) with | some k => some k | none => if p x then some i else none := by
  have hi := (List.getElem?_eq_some_iff.1 h).1
  rw [take_get h, first_snoc, List.length_take, Nat.min_eq_left (by omega)]
/-- the permissions together -/
def orP (p : CsD → Bool) (l : List CsD) : BitVec 32 := l.foldl (fun v c => if p c then v ||| c.perms else v) 0
theorem orP_take {p : CsD → Bool} {l : List CsD} {i : Nat} {c : CsD} (h : l[i]? = some c) : orP p (l.take (i + 1)) = if p c then orP p (l.take i) ||| c.perms else orP p (l.take i) := by
  rw [take_get h, orP, orP, List.foldl_append]; rfl
theorem or_zero32 {x y : BitVec 32} (h : x ||| y = 0) : y = 0 := by
  apply BitVec.eq_of_getLsbD_eq
  intro i hi
  have := congrArg (fun z => z.getLsbD i) h
  simp only [BitVec.getLsbD_or] at this
  cases hy : y.getLsbD i with
  | false => simp
  | true => rw [hy, Bool.or_true] at this; simp at this
theorem orP_none {p : CsD → Bool} {l : List CsD} (hp : ∀ c ∈ l, p c = true → c.perms ≠ 0) : (orP p l == 0) = (first p l).isNone := by
  have key : ∀ i, i ≤ l.length → (orP p (l.take i) == 0) = (first p (l.take i)).isNone := by
    intro i
    induction i with
    | zero => intro _; rfl
    | succ i ih =>
      intro hi
      obtain ⟨c, hc⟩ := get_some (show i < l.length by omega)
      have ih := ih (by omega)
      rw [orP_take hc, first_take hc]
      by_cases h : p c = true
      · have hne := hp c (List.mem_of_getElem? hc) h
        rw [if_pos h]
        have : (orP p (l.take i) ||| c.perms == 0) = false := by
          rw [beq_eq_false_iff_ne]
          intro hz
          exact hne (or_zero32 hz)
        rw [this]
        cases first p (l.take i) <;> simp [h]
      · rw [if_neg h, ih]
        cases first p (l.take i) <;> simp [h]
  have := key l.length (Nat.le_refl _)
  rwa [List.take_length] at this
def zC : CtxD := ⟨0, 0, 0, 0, 0, 0, 0⟩
/-- does a constraint forbid -/
def blkF (cls : Int) (s t : CtxD) (c : CsD) : Bool := !c.val && (c.cls == cls && !evF c.e ⟨s, t, zC⟩)
def vioF (cls : Int) (s t r : CtxD) (c : CsD) : Bool := c.val && (c.cls == cls && !evF c.e ⟨s, t, r⟩)
/-- a policy, a class and three contexts -/
structure ChgD where
  p : PolD
  cls : Int
  c : CaseD
def dChg (q : ChgD) : D := .agg [q.p.clX, q.p.tyX, q.p.at_X, q.p.roX, q.p.usX, q.p.boX, q.p.seX, q.p.caX, q.p.coX, q.p.ruX, q.p.trX, q.p.rtX, q.p.raX, q.p.csX, q.p.siX, q.p.fiX, q.p.as_X, .int .i64 q.cls,
  .int .i64 q.c.f.u, .int .i64 q.c.f.r, .int .i64 q.c.f.t, .int .i64 q.c.f.ls, dW q.c.f.lc, .int .i64 q.c.f.hs, dW q.c.f.hc, .int .i64 q.c.s.u, .int .i64 q.c.s.r, .int .i64 q.c.s.t, .int .i64 q.c.s.ls, dW q.c.s.lc, .int .i64 q.c.s.hs, dW q.c.s.hc,
  .int .i64 q.c.t.u, .int .i64 q.c.t.r, .int .i64 q.c.t.t, .int .i64 q.c.t.ls, dW q.c.t.lc, .int .i64 q.c.t.hs, dW q.c.t.hc]
def cChg (q : ChgD) : List SV := cPol q.p ++ (.d (.int .i64 q.cls) :: cCase q.c)
theorem cells_chg (q : ChgD) : cellsV (.d (dChg q)) = some (cChg q) := rfl
theorem len_chg (q : ChgD) : (cChg q).length = 39 := rfl
theorem part_chg0 (q : ChgD) : partV true 17 0 (cChg q) = some (.d (dPol q.p)) := rfl
theorem part_chgP (q : ChgD) : partV false 1 0 (cChg q) = some (.d q.p.clX) := rfl
theorem part_chgQ (q : ChgD) : partV false 1 13 (cChg q) = some (.d q.p.csX) := rfl
theorem part_chg17 (q : ChgD) : partV false 1 17 (cChg q) = some (.d (.int .i64 q.cls)) := rfl
theorem part_chg18 (q : ChgD) : partV true 7 18 (cChg q) = some (.d (dCtx q.c.f)) := rfl
theorem part_chg25 (q : ChgD) : partV true 7 25 (cChg q) = some (.d (dCtx q.c.s)) := rfl
theorem part_chg32 (q : ChgD) : partV true 7 32 (cChg q) = some (.d (dCtx q.c.t)) := rfl
end Go.Proofs.YtcnnhnjcnekhcaaGreat.Ab
