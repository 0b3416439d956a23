/-
  EXPRESSIONS WRITTEN WITH NAMES, both ways.
-/
import Derived.Test.YtcnnhnjcnekhcaaGreatQb
import Derived.Test.YtcnnhnjcnekhcaaGreatL4
set_option linter.unusedVariables false
set_option linter.unusedSimpArgs false
namespace Go.Proofs.YtcnnhnjcnekhcaaGreat.Ab
open Go
/-- the name of a symbol -/
def symN (p : PolD) (a : Int) (n : Int) : List UInt8 :=
  if sortI a == 0 then ((p.us[n.toNat]?).map UsD.name).getD [] else if sortI a == 1 then ((p.ro[n.toNat]?).map RoD.name).getD [] else ((p.ty[n.toNat]?).map TyD.name).getD []
def namL (p : PolD) (a : Int) (w : Nat → BitVec 64) : List (List UInt8) := (listW w 256).map (symN p a)
theorem list_mem (w : Nat → BitVec 64) : ∀ (i : Nat) {n : Int}, n ∈ listW w i → ∃ m : Nat, n = (m : Int) ∧ m < i ∧ hasW w m = true
  | 0, n, h => by simp [listW] at h
  | i + 1, n, h => by
    rw [listW, List.mem_append] at h
    rcases h with h | h
    · obtain ⟨m, h1, h2, h3⟩ := list_mem w i h
      exact ⟨m, h1, by omega, h3⟩
    · by_cases hb : hasW w i = true
      · rw [if_pos hb, List.mem_singleton] at h
        exact ⟨i, h, by omega, hb⟩
      · rw [if_neg hb] at h; cases h
theorem dem_nown (l : List Int) : ∃ y, demote (nown l) = .d y ∧ IsD 1 (l.map (D.int .i64)) y := by
  cases l with
  | nil => exact ⟨_, rfl, .nil 0 rfl⟩
  | cons a l => exact ⟨_, rfl, .ro⟩
theorem parts_s (s : List UInt8) : partsS [(0, .v (.d (.str s)))] = some [(0, .str s)] := rfl
/-- numbers that are the symbols of a policy -/
def SymL (p : PolD) (a : Int) (l : List Int) : Prop := ∀ (i : Nat) n, l[i]? = some n → ∃ m : Nat, n = (m : Int) ∧ ((m : Int) < symF p a)
theorem symL_of {p : PolD} (hs : SmOk p) {a : Int} {w : Nat → BitVec 64} (h : insW w (allW (clip (symF p a))) = true) : SymL p a (listW w 256) := by
  intro i n hn
  obtain ⟨m, h1, h2, h3⟩ := list_mem w 256 (List.mem_of_getElem? hn)
  refine ⟨m, h1, ?_⟩
  have h4 := (ins_has _ _).1 h m h2 h3
  have c : ∃ k : Nat, symF p a = (k : Int) ∧ k ≤ 256 := by
    have h1 := hs.us
    have h2 := hs.ro
    have h3 := hs.ty
    unfold symF
    by_cases c0 : (sortI a == 0) = true
    · rw [if_pos c0]; exact ⟨_, rfl, by omega⟩
    rw [if_neg c0]
    by_cases c1 : (sortI a == 1) = true
    · rw [if_pos c1]; exact ⟨_, rfl, by omega⟩
    rw [if_neg c1]
    exact ⟨_, rfl, by omega⟩
  obtain ⟨k, hk, hk2⟩ := c
  rw [hk] at h4 ⊢
  rw [clip_nat hk2, all_has k m h2 hk2] at h4
  have := of_decide_eq_true h4
  omega
theorem map_take (f : Int → List UInt8) {l : List Int} {i : Nat} {n : Int} (h : l[i]? = some n) : dStrs ((l.take (i + 1)).map f) = dStrs ((l.take i).map f) ++ [.str (f n)] := by
  rw [take_get h]; simp [dStrs]
set_option maxRecDepth 4000 in
theorem names17_holds (p : PolD) (a : Int) (w : Nat → BitVec 64) (hs : SymL p a (listW w 256)) : Holds Tryz.prog gl 87 [.d (dPol p), .d (.int .i64 a), .d (dSet w)] (gown 1 (dStrs (namL p a w))) := by
  refine holds_of_body hm1 (enters_some (fn := Tryz.f87) (by kernel_rfl) (by kernel_rfl) (by kernel_rfl)) (h := h87) ?_; rw [body87]; intro hwf
  have hln := listW_len w 256
  simp only [sS, true_and, List.map_cons, List.map_nil, vget, bget, List.getD_cons_zero, List.getD_cons_succ, Box.vals, dI, Nat.le_refl, sP, cells_set, len_cSet, part_set]
  refine callP_to (list_holds w) (isTup_nown _) ?_
  simp only [sS, true_and, List.map_cons, List.map_nil, vget, bget, List.getD_cons_zero, List.getD_cons_succ, Box.vals, dI, Nat.le_refl, len_nown]
  rw [namL]
  generalize listW w 256 = l at hs hln ⊢
  obtain ⟨y, hy, hyd⟩ := dem_nown l
  rw [gown_nil 1]
  refine loopP_count (fun i => [.d (.int .i64 a), gown 1 (dStrs ((l.take i).map (symN p a))), nown l, .d (.int .i64 (l.length : Int)), .d (.int .i64 ((i : Nat) : Int))]) (fun i => [cPol p, cSet w]) l.length (fun i hi I hI => ?_) (fun I => ?_)
  · simp only [sS, true_and, List.map_cons, List.map_nil, vget, bget, List.getD_cons_zero, List.getD_cons_succ, Box.vals, dI, Nat.le_refl, sP]
    refine And.intro (fun _ => ?_) (fun h => absurd h (by simp; omega))
    obtain ⟨n, hn⟩ := get_some hi
    have hn' : (l.map (D.int .i64))[i]? = some (.int .i64 n) := by rw [List.getElem?_map, hn]; rfl
    rw [map_take _ hn] at hI
    obtain ⟨m, hm1, hm2⟩ := hs i n hn
    subst hm1
    have hb : ((dStrs ((l.take i).map (symN p a))).length + 1) * 16 ≤ 140737488355328 := by
      have : (dStrs ((l.take i).map (symN p a))).length ≤ i := by rw [len_strs, List.length_map, List.length_take]; omega
      omega
    simp only [hy, hyd.at hn', load_intk, sS, true_and, List.map_cons, List.map_nil, vget, bget, List.getD_cons_zero, List.getD_cons_succ, Box.vals, dI, Nat.le_refl]
    refine callP_of (sort_holds a) ?_
    simp only [sS, true_and, List.map_cons, List.map_nil, vget, bget, List.getD_cons_zero, List.getD_cons_succ, Box.vals, dI, Nat.le_refl]
    unfold symF at hm2
    refine And.intro (fun h0 => ?_) (fun h0 => ?_)
    · rw [if_pos h0] at hm2
      obtain ⟨u, hu⟩ := get_some (show m < p.us.length by omega)
      have e1 : symN p a (m : Int) = u.name := by rw [symN, if_pos h0, Int.toNat_natCast, hu]; rfl
      rw [e1] at hI
      simp only [p.g_us hu, sS, true_and, List.map_cons, List.map_nil, vget, bget, List.getD_cons_zero, List.getD_cons_succ, Box.vals, dI, Nat.le_refl, sP, sW, Nat.zero_add, parts_s, fit_s1, elems_s1]
      refine app_gown (elems_full _ _) hb ?_
      exact bindO_to (add_up hi (Nat.le_trans hln (by decide))) hI
    rw [if_neg (by simp [h0])] at hm2
    refine And.intro (fun h1 => ?_) (fun h1 => ?_)
    · rw [if_pos h1] at hm2
      obtain ⟨u, hu⟩ := get_some (show m < p.ro.length by omega)
      have e1 : symN p a (m : Int) = u.name := by rw [symN, if_neg (by simp [h0]), if_pos h1, Int.toNat_natCast, hu]; rfl
      rw [e1] at hI
      simp only [p.g_ro hu, sS, true_and, List.map_cons, List.map_nil, vget, bget, List.getD_cons_zero, List.getD_cons_succ, Box.vals, dI, Nat.le_refl, sP, sW, Nat.zero_add, parts_s, fit_s1, elems_s1]
      refine app_gown (elems_full _ _) hb ?_
      exact bindO_to (add_up hi (Nat.le_trans hln (by decide))) hI
    · rw [if_neg (by simp [h1])] at hm2
      obtain ⟨u, hu⟩ := get_some (show m < p.ty.length by omega)
      have e1 : symN p a (m : Int) = u.name := by rw [symN, if_neg (by simp [h0]), if_neg (by simp [h1]), Int.toNat_natCast, hu]; rfl
      rw [e1] at hI
      simp only [p.g_ty hu, sS, true_and, List.map_cons, List.map_nil, vget, bget, List.getD_cons_zero, List.getD_cons_succ, Box.vals, dI, Nat.le_refl, sP, sW, Nat.zero_add, parts_s, fit_s1, elems_s1]
      refine app_gown (elems_full _ _) hb ?_
      exact bindO_to (add_up hi (Nat.le_trans hln (by decide))) hI
  · simp only [sS, true_and, List.map_cons, List.map_nil, vget, bget, List.getD_cons_zero, List.getD_cons_succ, Box.vals, dI, Nat.le_refl, sP, noRef_gown]
    refine And.intro (fun h => absurd h (by simp)) (fun _ => ?_)
    rw [List.take_length]
/-- an expression with names in place of sets -/
def wrF (p : PolD) : Xp → Xp
  | .mk op a rel b names w kids => .mk op a rel b (namL p a w) zW (go kids)
where go : List Xp → List Xp
  | [] => []
  | k :: l => wrF p k :: go l
theorem wrF_eq (p : PolD) (e : Xp) : wrF p e = .mk e.op e.a e.rel e.b (namL p e.a e.w) zW (wrF.go p e.kids) := by cases e; rfl
theorem wrs_get {p : PolD} : ∀ {l : List Xp} {i : Nat} {k : Xp}, l[i]? = some k → (wrF.go p l)[i]? = some (wrF p k)
  | [], i, k, h => by simp at h
  | x :: l, 0, k, h => by simp at h; subst h; rfl
  | x :: l, i + 1, k, h => by rw [wrF.go]; simpa using wrs_get (l := l) (by simpa using h)
theorem wrs_len {p : PolD} : ∀ l : List Xp, (wrF.go p l).length = l.length
  | [] => rfl
  | x :: l => by rw [wrF.go, List.length_cons, List.length_cons, wrs_len l]
theorem nodeP_node {p : PolD} {lim : Int} {e : Xp} (h : nodeP p lim e = 0) : nodeF e false lim = 0 ∧ (e.op = 9 → insW e.w (allW (clip (symF p e.a))) = true ∧ ¬ eqW e.w zW = true) := by
  unfold nodeP at h
  by_cases hx : nodeF e false lim = 0
  · rw [if_neg (by simpa using hx)] at h
    refine ⟨hx, fun h9 => ?_⟩
    rw [if_neg (by simp [h9])] at h
    by_cases hi : insW e.w (allW (clip (symF p e.a))) = true
    · refine ⟨hi, fun hz => ?_⟩
      rw [if_neg (by simp [hi]), if_pos hz] at h
      cases h
    · rw [if_pos (by simpa using hi)] at h; cases h
  · rw [if_pos (by simpa using hx)] at h; exact absurd h hx
theorem list_none {w : Nat → BitVec 64} (h : eqW w zW = true) : listW w 256 = [] := by
  have := listW_nil (w := w)
  rw [h] at this
  have h0 : (listW w 256).length = 0 := by have := of_decide_eq_true this; omega
  exact List.eq_nil_of_length_eq_zero h0
theorem nam_none {p : PolD} {a : Int} {w : Nat → BitVec 64} (h : eqW w zW = true) : namL p a w = [] := by
  rw [namL, list_none h]; rfl
set_option maxRecDepth 4000 in
theorem written_holds (p : PolD) (hs : SmOk p) : ∀ (n : Nat) (e : Xp) (x : D), e.lv ≤ n → IsE e x → firstF (nodeP p 15) e = 0 →
    ∃ y, IsE (wrF p e) y ∧ Holds Tryz.prog gl 47 [.d x, .d (dPol p)] (.d y)
  | 0, e, x, hn, _, _ => absurd hn (by have := lv_pos e; omega)
  | n + 1, e, x, hn, hx, hf => by
    obtain ⟨y0, hy0⟩ := enc_ex _ (wrF p e) (Nat.le_refl _)
    have hh : body Tryz.prog gl (Holds Tryz.prog gl) h47 47 [.d x, .d (dPol p)] fun r => ∃ y, r = .d y ∧ IsE (wrF p e) y := by
      rw [body47]; intro hwf
      obtain ⟨nm, kd, L, rfl, hnm, hl, hd, hk⟩ := hx.inv
      have hcap := ex_cap hwf hd
      obtain ⟨hn0, h9i⟩ := nodeP_node (first_node hf)
      have hform := node_form hn0
      have hk2 := form_kids hform
      have hnames := fun h9 : e.op = 9 => names17_holds p e.a e.w (symL_of hs (h9i h9).1)
      have hnone := fun h => nam_none (p := p) (a := e.a) (w := e.w) h
      rw [wrF_eq]
      generalize namL p e.a e.w = N at hnames hnone ⊢
      simp only [sS, true_and, List.map_cons, List.map_nil, vget, bget, List.getD_cons_zero, List.getD_cons_succ, Box.vals, dI, Nat.le_refl, sP, parts_ex4, build_ex4, set_ex, hd.len]
      refine And.intro (fun h9 => ?_) (fun h9 => ?_)
      · refine callP_to (hnames (by simpa using h9)) (isTup_gown _ _) ?_
        simp only [cells_gown, sS, true_and, List.map_cons, List.map_nil, vget, bget, List.getD_cons_zero, List.getD_cons_succ, Box.vals, dI, Nat.le_refl]
        rw [cEw_ex]
        simp only [at_cEw4, len_cEw, List.length_singleton, sS, true_and, List.map_cons, List.map_nil, vget, bget, List.getD_cons_zero, List.getD_cons_succ, Box.vals, dI, Nat.le_refl]
        refine ⟨by decide, ?_⟩
        refine loopP_ex (fun i M => Gath (wrF p) (e.kids.take i) M) (fun i M => [.d kd, .d (.int .i64 (L.length : Int)), .d (.int .i64 ((i : Nat) : Int))]) (fun i M => [cEx e.op e.a e.rel e.b nm e.w kd, cPol p, cEx 0 0 0 0 (.sl .nil 0 []) zW (.sl .nil 0 []), cEw e.op e.a e.rel e.b (gown 1 (dStrs N)) zW (gown 10 M)]) L.length [] (Gath.nil _) (fun i M hi hJ I hI => ?_) (fun M hJ I => ?_)
        · simp only [sS, true_and, List.map_cons, List.map_nil, vget, bget, List.getD_cons_zero, List.getD_cons_succ, Box.vals, dI, Nat.le_refl, sP, hd.len]
          refine And.intro (fun _ => ?_) (fun h => absurd h (by simp; omega))
          obtain ⟨y, hy⟩ := get_some hi
          obtain ⟨k, hky⟩ := get_some (show i < e.kids.length by omega)
          have hek := hk i k y hky hy
          have hlt := Xp.kid_lt hky
          obtain ⟨cs, c1, c2, c3, c4⟩ := hek.cells
          simp only [hd.at hy, hek.load, c1, c2, c3, c4, get_cEw9, sS, true_and, List.map_cons, List.map_nil, vget, bget, List.getD_cons_zero, List.getD_cons_succ, Box.vals, dI, Nat.le_refl, sP]
          obtain ⟨z, hz, hzh⟩ := written_holds p hs n k y (by omega) hek (first_kid hf hky)
          refine callP_of hzh ?_
          simp only [parts_one, el_one, hz.fit, sS, true_and, List.map_cons, List.map_nil, vget, bget, List.getD_cons_zero, List.getD_cons_succ, Box.vals, dI, Nat.le_refl]
          have hM := hJ.1
          rw [List.length_take] at hM
          refine app_gown (elems_full _ _) ?_ ?_
          · show (_ + 1) * 112 ≤ _; omega
          simp only [cells_gown, set_cEw9, at_cEw9, len_cEw, List.length_singleton, sS, true_and, List.map_cons, List.map_nil, vget, bget, List.getD_cons_zero, List.getD_cons_succ, Box.vals, dI, Nat.le_refl]
          refine ⟨by decide, ?_⟩
          refine bindO_to (add_up hi hcap) ?_
          refine hI _ ?_
          rw [take_get hky]
          exact hJ.snoc hz
        · simp only [sS, true_and, List.map_cons, List.map_nil, vget, bget, List.getD_cons_zero, List.getD_cons_succ, Box.vals, dI, Nat.le_refl, sP, part_cEw, cells_ex, len_cEx, hd.len, all_cEx]
          refine And.intro (fun h => absurd h (by simp)) (fun _ => ?_)
          rw [hl, List.take_length] at hJ
          exact ⟨_, rfl, hJ.isE (wrs_len _) (fun i k => wrs_get) _ _ _ _ _ _⟩
      · have hz := formN hform (by simpa using h9)
        rw [hnone hz.2, cEw_ex]
        refine loopP_ex (fun i M => Gath (wrF p) (e.kids.take i) M) (fun i M => [.d kd, .d (.int .i64 (L.length : Int)), .d (.int .i64 ((i : Nat) : Int))]) (fun i M => [cEx e.op e.a e.rel e.b nm e.w kd, cPol p, cEx 0 0 0 0 (.sl .nil 0 []) zW (.sl .nil 0 []), cEw e.op e.a e.rel e.b (gown 1 []) zW (gown 10 M)]) L.length [] (Gath.nil _) (fun i M hi hJ I hI => ?_) (fun M hJ I => ?_)
        · simp only [sS, true_and, List.map_cons, List.map_nil, vget, bget, List.getD_cons_zero, List.getD_cons_succ, Box.vals, dI, Nat.le_refl, sP, hd.len]
          refine And.intro (fun _ => ?_) (fun h => absurd h (by simp; omega))
          obtain ⟨y, hy⟩ := get_some hi
          obtain ⟨k, hky⟩ := get_some (show i < e.kids.length by omega)
          have hek := hk i k y hky hy
          have hlt := Xp.kid_lt hky
          obtain ⟨cs, c1, c2, c3, c4⟩ := hek.cells
          simp only [hd.at hy, hek.load, c1, c2, c3, c4, get_cEw9, sS, true_and, List.map_cons, List.map_nil, vget, bget, List.getD_cons_zero, List.getD_cons_succ, Box.vals, dI, Nat.le_refl, sP]
          obtain ⟨z, hz, hzh⟩ := written_holds p hs n k y (by omega) hek (first_kid hf hky)
          refine callP_of hzh ?_
          simp only [parts_one, el_one, hz.fit, sS, true_and, List.map_cons, List.map_nil, vget, bget, List.getD_cons_zero, List.getD_cons_succ, Box.vals, dI, Nat.le_refl]
          have hM := hJ.1
          rw [List.length_take] at hM
          refine app_gown (elems_full _ _) ?_ ?_
          · show (_ + 1) * 112 ≤ _; omega
          simp only [cells_gown, set_cEw9, at_cEw9, len_cEw, List.length_singleton, sS, true_and, List.map_cons, List.map_nil, vget, bget, List.getD_cons_zero, List.getD_cons_succ, Box.vals, dI, Nat.le_refl]
          refine ⟨by decide, ?_⟩
          refine bindO_to (add_up hi hcap) ?_
          refine hI _ ?_
          rw [take_get hky]
          exact hJ.snoc hz
        · simp only [sS, true_and, List.map_cons, List.map_nil, vget, bget, List.getD_cons_zero, List.getD_cons_succ, Box.vals, dI, Nat.le_refl, sP, part_cEw, cells_ex, len_cEx, hd.len, all_cEx]
          refine And.intro (fun h => absurd h (by simp)) (fun _ => ?_)
          rw [hl, List.take_length] at hJ
          exact ⟨_, rfl, hJ.isE (wrs_len _) (fun i k => wrs_get) _ _ _ _ [] _⟩
    obtain ⟨r, ⟨y, rfl, hy⟩, hr⟩ := holds_some hm1 (enters_some (fn := Tryz.f47) (by kernel_rfl) (by kernel_rfl) (by kernel_rfl)) ⟨_, y0, rfl, hy0⟩ hh
    exact ⟨y, hy, hr⟩
set_option maxRecDepth 4000 in
theorem source17_holds (p : PolD) (hs : SmOk p) : ∀ (n : Nat) (e : Xp) (x : D), e.lv ≤ n → IsE e x → firstF (nodeP p 15) e = 0 →
    ∃ y, IsE (wrF p e) y ∧ Holds Tryz.prog gl 48 [.d x, .d (dPol p)] (.d y)
  | 0, e, x, hn, _, _ => absurd hn (by have := lv_pos e; omega)
  | n + 1, e, x, hn, hx, hf => by
    obtain ⟨y0, hy0⟩ := enc_ex _ (wrF p e) (Nat.le_refl _)
    have hh : body Tryz.prog gl (Holds Tryz.prog gl) h48 48 [.d x, .d (dPol p)] fun r => ∃ y, r = .d y ∧ IsE (wrF p e) y := by
      rw [body48]; intro hwf
      obtain ⟨nm, kd, L, rfl, hnm, hl, hd, hk⟩ := hx.inv
      have hcap := ex_cap hwf hd
      obtain ⟨hn0, h9i⟩ := nodeP_node (first_node hf)
      have hform := node_form hn0
      have hk2 := form_kids hform
      have hsy : SymL p e.a (listW e.w 256) := by
        by_cases h9 : e.op = 9
        · exact symL_of hs (h9i h9).1
        · rw [list_none (formN hform h9).2]
          intro i n h
          simp at h
      have hln := listW_len e.w 256
      have hlist := listR_holds e.w
      rw [wrF_eq]
      simp only [sS, true_and, List.map_cons, List.map_nil, vget, bget, List.getD_cons_zero, List.getD_cons_succ, Box.vals, dI, Nat.le_refl, sP, parts_ex4, build_ex4, set_ex]
      refine callP_to hlist (isTup_nown _) ?_
      have hN : namL p e.a e.w = (listW e.w 256).map (symN p e.a) := rfl
      generalize namL p e.a e.w = N at hN ⊢
      generalize listW e.w 256 = l at hsy hln hN ⊢
      obtain ⟨y, hy, hyd⟩ := dem_nown l
      rw [cEw_ex, hy]
      refine loopP_count (fun i => [.d y, .d (.int .i64 ((i : Nat) : Int))]) (fun i => [cEx e.op e.a e.rel e.b nm e.w kd, cPol p, cEx 0 0 0 0 (.sl .nil 0 []) zW (.sl .nil 0 []), cEw e.op e.a e.rel e.b (gown 1 (dStrs ((l.take i).map (symN p e.a)))) zW (gown 10 [])]) l.length (fun i hi I hI => ?_) (fun I => ?_)
      · simp only [sS, true_and, List.map_cons, List.map_nil, vget, bget, List.getD_cons_zero, List.getD_cons_succ, Box.vals, dI, Nat.le_refl, sP, hyd.len, List.length_map]
        refine And.intro (fun _ => ?_) (fun h => absurd h (by simp; omega))
        obtain ⟨n', hn⟩ := get_some hi
        have hn' : (l.map (D.int .i64))[i]? = some (.int .i64 n') := by rw [List.getElem?_map, hn]; rfl
        rw [map_take _ hn] at hI
        obtain ⟨m, hm1, hm2⟩ := hsy i n' hn
        subst hm1
        have hb : ((dStrs ((l.take i).map (symN p e.a))).length + 1) * 16 ≤ 140737488355328 := by
          have : (dStrs ((l.take i).map (symN p e.a))).length ≤ i := by rw [len_strs, List.length_map, List.length_take]; omega
          omega
        simp only [hyd.at hn', load_intk, get_cEw4, sS, true_and, List.map_cons, List.map_nil, vget, bget, List.getD_cons_zero, List.getD_cons_succ, Box.vals, dI, Nat.le_refl]
        refine callP_of (sortR_holds e.a) ?_
        simp only [sS, true_and, List.map_cons, List.map_nil, vget, bget, List.getD_cons_zero, List.getD_cons_succ, Box.vals, dI, Nat.le_refl]
        unfold symF at hm2
        refine And.intro (fun h0 => ?_) (fun h0 => ?_)
        · rw [if_pos h0] at hm2
          obtain ⟨u, hu⟩ := get_some (show m < p.us.length by omega)
          have e1 : symN p e.a (m : Int) = u.name := by rw [symN, if_pos h0, Int.toNat_natCast, hu]; rfl
          rw [e1] at hI
          simp only [p.g_us hu, sS, true_and, List.map_cons, List.map_nil, vget, bget, List.getD_cons_zero, List.getD_cons_succ, Box.vals, dI, Nat.le_refl, sP, sW, Nat.zero_add, parts_s, fit_s1, elems_s1]
          refine app_gown (elems_full _ _) hb ?_
          simp only [cells_gown, set_cEw4, at_cEw4, len_cEw, List.length_singleton, sS, true_and, List.map_cons, List.map_nil, vget, bget, List.getD_cons_zero, List.getD_cons_succ, Box.vals, dI, Nat.le_refl]
          refine ⟨by decide, ?_⟩
          exact bindO_to (add_up hi (Nat.le_trans hln (by decide))) hI
        rw [if_neg (by simp [h0])] at hm2
        refine And.intro (fun h1 => ?_) (fun h1 => ?_)
        · rw [if_pos h1] at hm2
          obtain ⟨u, hu⟩ := get_some (show m < p.ro.length by omega)
          have e1 : symN p e.a (m : Int) = u.name := by rw [symN, if_neg (by simp [h0]), if_pos h1, Int.toNat_natCast, hu]; rfl
          rw [e1] at hI
          simp only [p.g_ro hu, sS, true_and, List.map_cons, List.map_nil, vget, bget, List.getD_cons_zero, List.getD_cons_succ, Box.vals, dI, Nat.le_refl, sP, sW, Nat.zero_add, parts_s, fit_s1, elems_s1]
          refine app_gown (elems_full _ _) hb ?_
          simp only [cells_gown, set_cEw4, at_cEw4, len_cEw, List.length_singleton, sS, true_and, List.map_cons, List.map_nil, vget, bget, List.getD_cons_zero, List.getD_cons_succ, Box.vals, dI, Nat.le_refl]
          refine ⟨by decide, ?_⟩
          exact bindO_to (add_up hi (Nat.le_trans hln (by decide))) hI
        · rw [if_neg (by simp [h1])] at hm2
          obtain ⟨u, hu⟩ := get_some (show m < p.ty.length by omega)
          have e1 : symN p e.a (m : Int) = u.name := by rw [symN, if_neg (by simp [h0]), if_neg (by simp [h1]), Int.toNat_natCast, hu]; rfl
          rw [e1] at hI
          simp only [p.g_ty hu, sS, true_and, List.map_cons, List.map_nil, vget, bget, List.getD_cons_zero, List.getD_cons_succ, Box.vals, dI, Nat.le_refl, sP, sW, Nat.zero_add, parts_s, fit_s1, elems_s1]
          refine app_gown (elems_full _ _) hb ?_
          simp only [cells_gown, set_cEw4, at_cEw4, len_cEw, List.length_singleton, sS, true_and, List.map_cons, List.map_nil, vget, bget, List.getD_cons_zero, List.getD_cons_succ, Box.vals, dI, Nat.le_refl]
          refine ⟨by decide, ?_⟩
          exact bindO_to (add_up hi (Nat.le_trans hln (by decide))) hI
      · simp only [sS, true_and, List.map_cons, List.map_nil, vget, bget, List.getD_cons_zero, List.getD_cons_succ, Box.vals, dI, Nat.le_refl, sP, hyd.len, List.length_map]
        refine And.intro (fun h => absurd h (by simp)) (fun _ => ?_)
        rw [List.take_length, ← hN]
        refine loopP_ex (fun i M => Gath (wrF p) (e.kids.take i) M) (fun i M => [.d (.int .i64 ((i : Nat) : Int))]) (fun i M => [cEx e.op e.a e.rel e.b nm e.w kd, cPol p, cEx 0 0 0 0 (.sl .nil 0 []) zW (.sl .nil 0 []), cEw e.op e.a e.rel e.b (gown 1 (dStrs N)) zW (gown 10 M)]) L.length [] (Gath.nil _) (fun i M hi hJ I hI => ?_) (fun M hJ I => ?_)
        · simp only [sS, true_and, List.map_cons, List.map_nil, vget, bget, List.getD_cons_zero, List.getD_cons_succ, Box.vals, dI, Nat.le_refl, sP, hd.len]
          refine And.intro (fun _ => ?_) (fun h => absurd h (by simp; omega))
          obtain ⟨y, hy⟩ := get_some hi
          obtain ⟨k, hky⟩ := get_some (show i < e.kids.length by omega)
          have hek := hk i k y hky hy
          have hlt := Xp.kid_lt hky
          obtain ⟨cs, c1, c2, c3, c4⟩ := hek.cells
          simp only [hd.at hy, hek.load, c1, c2, c3, c4, get_cEw9, sS, true_and, List.map_cons, List.map_nil, vget, bget, List.getD_cons_zero, List.getD_cons_succ, Box.vals, dI, Nat.le_refl, sP]
          obtain ⟨z, hz, hzh⟩ := source17_holds p hs n k y (by omega) hek (first_kid hf hky)
          refine callP_of hzh ?_
          simp only [parts_one, el_one, hz.fit, sS, true_and, List.map_cons, List.map_nil, vget, bget, List.getD_cons_zero, List.getD_cons_succ, Box.vals, dI, Nat.le_refl]
          have hM := hJ.1
          rw [List.length_take] at hM
          refine app_gown (elems_full _ _) ?_ ?_
          · show (_ + 1) * 112 ≤ _; omega
          simp only [cells_gown, set_cEw9, at_cEw9, len_cEw, List.length_singleton, sS, true_and, List.map_cons, List.map_nil, vget, bget, List.getD_cons_zero, List.getD_cons_succ, Box.vals, dI, Nat.le_refl]
          refine ⟨by decide, ?_⟩
          refine bindO_to (add_up hi hcap) ?_
          refine hI _ ?_
          rw [take_get hky]
          exact hJ.snoc hz
        · simp only [sS, true_and, List.map_cons, List.map_nil, vget, bget, List.getD_cons_zero, List.getD_cons_succ, Box.vals, dI, Nat.le_refl, sP, part_cEw, cells_ex, len_cEx, hd.len, all_cEx]
          refine And.intro (fun h => absurd h (by simp)) (fun _ => ?_)
          rw [hl, List.take_length] at hJ
          exact ⟨_, rfl, hJ.isE (wrs_len _) (fun i k => wrs_get) _ _ _ _ _ _⟩
    obtain ⟨r, ⟨y, rfl, hy⟩, hr⟩ := holds_some hm1 (enters_some (fn := Tryz.f48) (by kernel_rfl) (by kernel_rfl) (by kernel_rfl)) ⟨_, y0, rfl, hy0⟩ hh
    exact ⟨y, hy, hr⟩
end Go.Proofs.YtcnnhnjcnekhcaaGreat.Ab
/-
  SOURCE, both ways.
-/
namespace Go.Proofs.YtcnnhnjcnekhcaaGreat.Ab
open Go
def srcT (p : PolD) (e : Xp) : Xp := if checkF p true e == 0 then wrF p e else zX
theorem check_first {p : PolD} {v : Bool} {e : Xp} (h : checkF p v e = 0) : firstF (nodeP p (limF v)) e = 0 := by
  unfold checkF at h
  by_cases hl : e.lv > 12
  · rw [if_pos hl] at h; cases h
  · rw [if_neg hl] at h; exact h
theorem check_f15 {p : PolD} {e : Xp} (h : checkF p true e = 0) : firstF (nodeP p 15) e = 0 := by
  have h1 := check_first h
  rw [show limF true = 15 from rfl] at h1
  exact h1
set_option maxRecDepth 4000 in
theorem sourceC_holds {e : Xp} {x : D} (hx : IsE e x) (hlv : e.lv ≤ 1000) (p : PolD) (hs : SmOk p) : ∃ y, IsE (srcT p e) y ∧ Holds Tryz.prog gl 21 [.d x, .d (dPol p)] (.d y) := by
  obtain ⟨y0, hy0⟩ := enc_ex _ (srcT p e) (Nat.le_refl _)
  have hh : body Tryz.prog gl (Holds Tryz.prog gl) h21 21 [.d x, .d (dPol p)] fun r => ∃ y, r = .d y ∧ IsE (srcT p e) y := by
    rw [body21]; intro hwf
    have h1 := checkC_holds hx hlv p true
    have h2 := fun h => written_holds p hs e.lv e x (Nat.le_refl _) hx h
    obtain ⟨cs, c1, c2, c3, c4⟩ := hx.cells
    simp only [sS, true_and, List.map_cons, List.map_nil, vget, bget, List.getD_cons_zero, List.getD_cons_succ, Box.vals, dI, Nat.le_refl, sP, c1, c2, c3]
    refine callP_of h1 ?_
    simp only [sS, true_and, List.map_cons, List.map_nil, vget, bget, List.getD_cons_zero, List.getD_cons_succ, Box.vals, dI, Nat.le_refl]
    refine And.intro (fun h => ?_) (fun h => ?_)
    · simp only [build_ex0, sS, true_and, List.map_cons, List.map_nil, vget, bget, List.getD_cons_zero, List.getD_cons_succ, Box.vals, dI, Nat.le_refl, set_ex]
      refine ⟨_, rfl, ?_⟩
      rw [srcT, if_neg (by simpa using h)]
      exact isE_zX
    · have h0 : checkF p true e = 0 := by simpa using h
      obtain ⟨z, hz, hzh⟩ := h2 (check_f15 h0)
      obtain ⟨cs', d1, d2, d3, d4⟩ := hz.cells
      refine callP_of hzh ?_
      simp only [d1, d2, d3, d4, sS, true_and, List.map_cons, List.map_nil, vget, bget, List.getD_cons_zero, List.getD_cons_succ, Box.vals, dI, Nat.le_refl]
      refine ⟨_, rfl, ?_⟩
      rw [srcT, if_pos (by simp [h0])]
      exact hz
  obtain ⟨r, ⟨y, rfl, hy⟩, hr⟩ := holds_some hm1 (enters_some (fn := Tryz.f21) (by kernel_rfl) (by kernel_rfl) (by kernel_rfl)) ⟨_, y0, rfl, hy0⟩ hh
  exact ⟨y, hy, hr⟩
set_option maxRecDepth 4000 in
theorem sourceR_holds {e : Xp} {x : D} (hx : IsE e x) (p : PolD) (hs : SmOk p) : ∃ y, IsE (srcT p e) y ∧ Holds Tryz.prog gl 22 [.d x, .d (dPol p)] (.d y) := by
  obtain ⟨y0, hy0⟩ := enc_ex _ (srcT p e) (Nat.le_refl _)
  have hh : body Tryz.prog gl (Holds Tryz.prog gl) h22 22 [.d x, .d (dPol p)] fun r => ∃ y, r = .d y ∧ IsE (srcT p e) y := by
    rw [body22]; intro hwf
    have h1 := checkR_holds hx p true
    have h2 := fun h => source17_holds p hs e.lv e x (Nat.le_refl _) hx h
    obtain ⟨cs, c1, c2, c3, c4⟩ := hx.cells
    simp only [sS, true_and, List.map_cons, List.map_nil, vget, bget, List.getD_cons_zero, List.getD_cons_succ, Box.vals, dI, Nat.le_refl, sP, c1, c2, c3]
    refine callP_of h1 ?_
    simp only [sS, true_and, List.map_cons, List.map_nil, vget, bget, List.getD_cons_zero, List.getD_cons_succ, Box.vals, dI, Nat.le_refl]
    refine And.intro (fun h => ?_) (fun h => ?_)
    · simp only [build_ex0, sS, true_and, List.map_cons, List.map_nil, vget, bget, List.getD_cons_zero, List.getD_cons_succ, Box.vals, dI, Nat.le_refl, set_ex]
      refine ⟨_, rfl, ?_⟩
      rw [srcT, if_neg (by simpa using h)]
      exact isE_zX
    · have h0 : checkF p true e = 0 := by simpa using h
      obtain ⟨z, hz, hzh⟩ := h2 (check_f15 h0)
      obtain ⟨cs', d1, d2, d3, d4⟩ := hz.cells
      refine callP_of hzh ?_
      simp only [d1, d2, d3, d4, sS, true_and, List.map_cons, List.map_nil, vget, bget, List.getD_cons_zero, List.getD_cons_succ, Box.vals, dI, Nat.le_refl]
      refine ⟨_, rfl, ?_⟩
      rw [srcT, if_pos (by simp [h0])]
      exact hz
  obtain ⟨r, ⟨y, rfl, hy⟩, hr⟩ := holds_some hm1 (enters_some (fn := Tryz.f22) (by kernel_rfl) (by kernel_rfl) (by kernel_rfl)) ⟨_, y0, rfl, hy0⟩ hh
  exact ⟨y, hy, hr⟩
end Go.Proofs.YtcnnhnjcnekhcaaGreat.Ab
