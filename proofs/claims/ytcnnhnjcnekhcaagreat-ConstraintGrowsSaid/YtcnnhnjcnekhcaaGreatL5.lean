/-
  THE LAW ConstraintGrows, walked.
-/
import Derived.Test.YtcnnhnjcnekhcaaGreatQa
import Derived.Test.YtcnnhnjcnekhcaaGreatL6
set_option linter.unusedVariables false
set_option linter.unusedSimpArgs false
namespace Go.Proofs.YtcnnhnjcnekhcaaGreat.Ab
open Go
theorem build_cons (cls : Int) (v : BitVec 32) (op a rel b : Int) (w : Nat → BitVec 64) (nm kd : D) : buildD Tryz.prog 67 [(0, .int .i64 cls), (1, dU v), (3, .agg (fEx op a rel b nm w kd))] = some (.agg [.int .i64 cls, dU v, .bool false, .int .i64 op, .int .i64 a, .int .i64 rel, .int .i64 b, nm, dW (w 0), dW (w 1), dW (w 2), dW (w 3), kd]) := by kernel_rfl
theorem parts_cons (cls : Int) (v : BitVec 32) (x : D) : partsS [(0, .v (.d (.int .i64 cls))), (1, .v (.d (dU v))), (3, .v (.d x))] = some [(0, .int .i64 cls), (1, dU v), (3, x)] := rfl
/-- a policy with another list of constraints -/
def withCs (p : PolD) (l : List CsD) (x : D) (h : IsD 13 (l.map CsD.enc) x) (m : l.length ≤ maxLen) : PolD := { p with cs := l, csX := x, csH := h, csM := m }
/-- a policy's cells with another cell of constraints -/
def cPolW (p : PolD) (y : SV) : List SV := [.d p.clX, .d p.tyX, .d p.at_X, .d p.roX, .d p.usX, .d p.boX, .d p.seX, .d p.caX, .d p.coX, .d p.ruX, .d p.trX, .d p.rtX, .d p.raX, y, .d p.siX, .d p.fiX, .d p.as_X]
theorem setP_all (p : PolD) (a0 a1 a2 a3 a4 a5 a6 a7 a8 a9 b0 b1 b2 b3 b4 b5 b6 : SV) : setAt [a0, a1, a2, a3, a4, a5, a6, a7, a8, a9, b0, b1, b2, b3, b4, b5, b6] 0 (cPol p) = cPol p := by
  unfold cPol
  simp only [setAt, List.set_cons_zero, List.set_cons_succ]
theorem setP_one (p : PolD) (y : SV) : setAt (cPol p) 13 [y] = cPolW p y := rfl
theorem setP_two (p : PolD) (y z : SV) : setAt (cPolW p y) 13 [z] = cPolW p z := rfl
theorem setP_thr (p : PolD) (y z : SV) : (cPolW p y).set 13 z = cPolW p z := rfl
theorem len_cPolW (p : PolD) (y : SV) : (cPolW p y).length = 17 := rfl
theorem get_cPolW (p : PolD) (y : SV) : (cPolW p y)[13]? = some y := rfl
theorem cells_nil0 : cellsV (.d (.sl .nil 0 [])) = some [.d (.sl .nil 0 [])] := rfl
theorem part_cPolW (p : PolD) (l : List CsD) (m : l.length ≤ maxLen) : partV true 17 0 (cPolW p (gown 13 (l.map CsD.enc))) = some (.d (dPol (withCs p l (gsl 13 (l.map CsD.enc)) (is_gsl _ _) m))) := by
  cases l <;> rfl
theorem part_cPolQ (p : PolD) (l : List CsD) (M : List D) (h : M = l.map CsD.enc) (m : l.length ≤ maxLen) : ∃ Q : PolD, Q.cs = l ∧ partV true 17 0 (cPolW p (gown 13 M)) = some (.d (dPol Q)) := by
  subst h
  exact ⟨_, rfl, part_cPolW p l m⟩
theorem part_cPolC (p : PolD) (y : SV) : partV false 1 13 (cPolW p y) = some y := rfl
theorem parts_one (x : D) : partsS [(0, .v (.d x))] = some [(0, x)] := rfl
theorem fit_cons (a0 a1 a2 a3 a4 a5 a6 a7 a8 a9 b0 b1 b2 : D) : partsFit 13 1 [(0, .agg [a0, a1, a2, a3, a4, a5, a6, a7, a8, a9, b0, b1, b2])] = true := rfl
theorem el_one (z x : D) : buildElems z [(0, x)] 1 0 = [x] := rfl
theorem orP_snoc (f : CsD → Bool) (l : List CsD) (c : CsD) : orP f (l ++ [c]) = if f c then orP f l ||| c.perms else orP f l := by
  rw [orP, orP, List.foldl_append]; rfl
set_option maxHeartbeats 2000000 in
theorem law5_holds (q : ChgD) (v : BitVec 32) {e : Xp} {x : D} (hx : IsE e x) : Holds Tryz.prog gl 5 [.d (dChg q), .d (dU v), .d x] (.d (.bool true)) := by
  refine holds_of_body hm1 (enters_some (fn := Tryz.f5) (by kernel_rfl) (by kernel_rfl) (by kernel_rfl)) (h := h5) ?_; rw [body5]; intro hwf
  have h0 := fits_holds hx q.p
  have h1 := checkR_holds hx q.p false
  have h2 := fun h => evalC_holds hx ⟨q.c.f, q.c.s, zC⟩ h
  obtain ⟨nm, kd, L, e1, _, _, _, _⟩ := hx.inv
  have hc : IsE e (.agg (fEx e.op e.a e.rel e.b nm e.w kd)) := by rw [← e1]; exact hx
  subst e1
  simp only [sS, true_and, List.map_cons, List.map_nil, vget, bget, List.getD_cons_zero, List.getD_cons_succ, Box.vals, dI, Nat.le_refl, cells_chg, len_chg, part_chg0]
  refine ex_bool h0 fun b hb => ?_
  simp only [sS, true_and, List.map_cons, List.map_nil, vget, bget, List.getD_cons_zero, List.getD_cons_succ, Box.vals, dI, Nat.le_refl, sP]
  refine And.intro (fun _ => ?_) (fun hf => ?_)
  · refine callP_of awake_holds ?_
    simp only [sS, true_and, List.map_cons, List.map_nil, vget, bget, List.getD_cons_zero, List.getD_cons_succ, Box.vals, dI, Nat.le_refl]
  obtain ⟨hsx, hsm, hok⟩ := hb (by simpa using hf)
  have hlv := allX_lv e.lv e 15 (Nat.le_refl _) hsx
  simp only [part_chg17, part_chgP, sS, true_and, List.map_cons, List.map_nil, vget, bget, List.getD_cons_zero, List.getD_cons_succ, Box.vals, dI, Nat.le_refl, sP]
  refine And.intro (fun _ => ?_) (fun hc0 => ?_)
  · refine callP_of awake_holds ?_
    simp only [sS, true_and, List.map_cons, List.map_nil, vget, bget, List.getD_cons_zero, List.getD_cons_succ, Box.vals, dI, Nat.le_refl]
  refine And.intro (fun _ => ?_) (fun hc1 => ?_)
  · refine callP_of awake_holds ?_
    simp only [sS, true_and, List.map_cons, List.map_nil, vget, bget, List.getD_cons_zero, List.getD_cons_succ, Box.vals, dI, Nat.le_refl]
  simp only [sS, true_and, List.map_cons, List.map_nil, vget, bget, List.getD_cons_zero, List.getD_cons_succ, Box.vals, dI, Nat.le_refl, sW, Nat.zero_add]
  refine And.intro (fun _ => ?_) (fun hv0 => ?_)
  · refine callP_of awake_holds ?_
    simp only [sS, true_and, List.map_cons, List.map_nil, vget, bget, List.getD_cons_zero, List.getD_cons_succ, Box.vals, dI, Nat.le_refl]
  obtain ⟨k, hk⟩ : ∃ k : Nat, q.cls = k := ⟨q.cls.toNat, by simp at hc0; omega⟩
  obtain ⟨c, hcl⟩ : ∃ c, q.p.cl[k]? = some c := get_some (by rw [hk] at hc1; simp at hc1; omega)
  have hcl' := q.p.g_cl hcl
  rw [← hk] at hcl'
  simp only [hcl', sS, true_and, List.map_cons, List.map_nil, vget, bget, List.getD_cons_zero, List.getD_cons_succ, Box.vals, dI, Nat.le_refl, sP, sW, Nat.zero_add]
  refine And.intro (fun _ => ?_) (fun hv1 => ?_)
  · refine callP_of awake_holds ?_
    simp only [sS, true_and, List.map_cons, List.map_nil, vget, bget, List.getD_cons_zero, List.getD_cons_succ, Box.vals, dI, Nat.le_refl]
  refine callP_of h1 ?_
  simp only [sS, true_and, List.map_cons, List.map_nil, vget, bget, List.getD_cons_zero, List.getD_cons_succ, Box.vals, dI, Nat.le_refl]
  refine And.intro (fun _ => ?_) (fun hck => ?_)
  · refine callP_of awake_holds ?_
    simp only [sS, true_and, List.map_cons, List.map_nil, vget, bget, List.getD_cons_zero, List.getD_cons_succ, Box.vals, dI, Nat.le_refl]
  simp only [sS, true_and, List.map_cons, List.map_nil, vget, bget, List.getD_cons_zero, List.getD_cons_succ, Box.vals, dI, Nat.le_refl, sP, setP_all, setP_one, setP_two, setP_thr, len_cPolW, get_cPolW, cells_nil0, part_chgQ]
  have hn := hsm.cs
  have hm : (q.p.cs ++ [(⟨q.cls, v, false, e, nm, kd, hc⟩ : CsD)]).length ≤ maxLen := by
    rw [List.length_append]
    exact Nat.le_trans (Nat.add_le_add_right hn 1) (by decide)
  refine And.intro (by rfl) (And.intro (by decide) ?_)
  rw [gown_nil 13]
  refine app_gown q.p.csH.sv.elems.1 ?_ ?_
  · rw [List.length_map]; show (0 + _) * 128 ≤ _; omega
  rw [List.nil_append]
  simp only [sS, true_and, List.map_cons, List.map_nil, vget, bget, List.getD_cons_zero, List.getD_cons_succ, Box.vals, dI, Nat.le_refl, cells_gown, setP_two, get_cPolW, parts_cons, build_cons]
  refine And.intro (by rfl) (And.intro (by decide) ?_)
  simp only [parts_one, fit_cons, el_one, sS, true_and, List.map_cons, List.map_nil, vget, bget, List.getD_cons_zero, List.getD_cons_succ, Box.vals, dI, Nat.le_refl]
  refine app_gown (elems_full _ _) ?_ ?_
  · rw [List.length_map]; show (_ + 1) * 128 ≤ _; omega
  simp only [sS, true_and, List.map_cons, List.map_nil, vget, bget, List.getD_cons_zero, List.getD_cons_succ, Box.vals, dI, Nat.le_refl, cells_gown, setP_two, get_cPolW]
  refine And.intro (by rfl) (And.intro (by rw [setP_thr, len_cPolW]; decide) ?_)
  have hlq : ∀ (i : Nat) c, q.p.cs[i]? = some c → c.e.lv ≤ 1000 := fun i c hc => by have := hsm.cons i c hc; omega
  obtain ⟨Q, hQ, hpc⟩ := part_cPolQ q.p (q.p.cs ++ [(⟨q.cls, v, false, e, nm, kd, hc⟩ : CsD)]) (List.map CsD.enc q.p.cs ++ [D.agg [D.int .i64 q.cls, dU v, D.bool false, D.int .i64 e.op, D.int .i64 e.a, D.int .i64 e.rel, D.int .i64 e.b, nm, dW (e.w 0), dW (e.w 1), dW (e.w 2), dW (e.w 3), kd]]) (by rw [List.map_append]; rfl) hm
  have hlQ : ∀ (i : Nat) c, Q.cs[i]? = some c → c.e.lv ≤ 1000 := fun i c hc' => by
    rw [hQ] at hc'
    have := List.mem_of_getElem? hc'
    rw [List.mem_append] at this
    rcases this with h | h
    · obtain ⟨j, hj⟩ := List.mem_iff_getElem?.1 h
      exact hlq j c hj
    · rw [List.mem_singleton] at h
      subst h
      show e.lv ≤ 1000
      omega
  simp only [setP_thr, setP_two, hpc, part_chg17, part_chg18, part_chg25, part_chg32, part_chg0, part_cPolC, parts_c2, build_case2, len_gown, sS, true_and, List.map_cons, List.map_nil, vget, bget, List.getD_cons_zero, List.getD_cons_succ, Box.vals, dI, Nat.le_refl]
  refine call2 (deniedC_holds q.p hlq _ _ _) ?_
  refine call2 (deniedC_holds Q hlQ _ _ _) ?_
  refine callP_of (h2 (by omega)) ?_
  have hlen : (List.map CsD.enc q.p.cs ++ [D.agg [D.int .i64 q.cls, dU v, D.bool false, D.int .i64 e.op, D.int .i64 e.a, D.int .i64 e.rel, D.int .i64 e.b, nm, dW (e.w 0), dW (e.w 1), dW (e.w 2), dW (e.w 3), kd]]).length = q.p.cs.length + 1 := by simp
  have hbn : blkF q.cls q.c.f q.c.s (⟨q.cls, v, false, e, nm, kd, hc⟩ : CsD) = !evalF e ⟨q.c.f, q.c.s, zC⟩ := by
    simp only [blkF, Bool.not_false, Bool.true_and, beq_self_eq_true]
    rfl
  have e1 := orP_snoc (blkF q.cls q.c.f q.c.s) q.p.cs ⟨q.cls, v, false, e, nm, kd, hc⟩
  have e2 := first_snoc (p := blkF q.cls q.c.f q.c.s) q.p.cs ⟨q.cls, v, false, e, nm, kd, hc⟩
  rw [← hQ, hbn] at e1 e2
  have hlg : lenL (.d (gsl 13 (List.map CsD.enc q.p.cs ++ [D.agg [D.int .i64 q.cls, dU v, D.bool false, D.int .i64 e.op, D.int .i64 e.a, D.int .i64 e.rel, D.int .i64 e.b, nm, dW (e.w 0), dW (e.w 1), dW (e.w 2), dW (e.w 3), kd]]))) = some (.d (.int .i64 ((q.p.cs.length + 1 : Nat) : Int))) := by rw [(is_gsl _ _).len, hlen]
  have hsub : binV none .sub (.d (.int .i64 ((q.p.cs.length + 1 : Nat) : Int))) (.d (.int .i64 1)) = some (.d (.int .i64 (q.p.cs.length : Int))) := by
    rw [sub_int1 (by omega) (by omega)]
    congr 3; omega
  simp only [sS, true_and, List.map_cons, List.map_nil, vget, bget, List.getD_cons_zero, List.getD_cons_succ, Box.vals, dI, Nat.le_refl, sW, Nat.zero_add, orM_neg, orM_geq, dem_gown, hlg, hsub, e1, e2]
  generalize orP (blkF q.cls q.c.f q.c.s) q.p.cs = a1
  generalize first (blkF q.cls q.c.f q.c.s) q.p.cs = a2
  clear hpc hlQ hlen hbn e1 e2 hlg hsub hlq hm hcl' hb h0 h1 h2 hQ
  cases evalF e ⟨q.c.f, q.c.s, zC⟩ <;> cases a2 <;> simp only [Bool.not_true, Bool.not_false, ↓reduceIte, Option.isNone, Option.isSome, orM, beq_self_eq_true, sS, true_and, List.map_cons, List.map_nil, vget, bget, List.getD_cons_zero, List.getD_cons_succ, Box.vals, dI, Nat.le_refl] <;>
    (repeat' first | with_reducible refine And.intro (fun h => ?_) (fun h => ?_) | (refine callP_of awake_holds ?_; simp only [sS, true_and, List.map_cons, List.map_nil, vget, bget, List.getD_cons_zero, List.getD_cons_succ, Box.vals, dI, Nat.le_refl]) | (exfalso; contradiction) | (exfalso; simp at h; done))
end Go.Proofs.YtcnnhnjcnekhcaaGreat.Ab
