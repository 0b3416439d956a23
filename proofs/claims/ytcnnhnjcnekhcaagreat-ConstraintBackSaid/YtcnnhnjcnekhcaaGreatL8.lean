/-
  THE LAW ConstraintBack: the plain law, and the walk.
-/
import Derived.Test.YtcnnhnjcnekhcaaGreatQc
import Derived.Test.YtcnnhnjcnekhcaaGreatAw
set_option linter.unusedVariables false
set_option linter.unusedSimpArgs false
namespace Go.Proofs.YtcnnhnjcnekhcaaGreat.Ab
open Go
theorem hasS_not {s t : List UInt8} {l : List (List UInt8)} {i : Nat} (h : hasS s l = false) (ht : l[i]? = some t) : (t == s) = false := by
  cases hb : (t == s) with
  | false => rfl
  | true => rw [hasS_get ht hb] at h; cases h
theorem take_lt {α : Type} {l : List α} {i j : Nat} {y : α} (hj : j < i) (h : l[j]? = some y) : (l.take i)[j]? = some y := by
  rw [List.getElem?_take_of_lt hj]; exact h
theorem first_dist {α : Type} (f : α → List UInt8) {l : List α} (hd : distF f l) {i : Nat} {x : α} (hx : l[i]? = some x) : first (fun u => f u == f x) l = some i := by
  refine first_at hx (by simp) fun j y hj hy => ?_
  have h1 : ((l.take i).map f)[j]? = some (f y) := by rw [List.getElem?_map, take_lt hj hy]; rfl
  exact hasS_not (hd i x hx) h1
theorem mem_tyN {l : List TyD} {t : TyD} {s : List UInt8} (ht : t ∈ l) (hs : s = t.name ∨ s ∈ t.als) : s ∈ tyN l := by
  rw [tyN, List.mem_flatMap]
  refine ⟨t, ht, ?_⟩
  rcases hs with h | h
  · subst h; simp
  · simp [h]
theorem first_ty {p : PolD} (h : TyOk p) {i : Nat} {x : TyD} (hx : p.ty[i]? = some x) : first (fun t => TyD.name t == x.name || hasS x.name t.als) p.ty = some i := by
  refine first_at hx (by simp) fun j y hj hy => ?_
  have h1 := (h.names i x hx 0 x.name rfl).2
  have hy' : y ∈ p.ty.take i := List.mem_of_getElem? (take_lt hj hy)
  cases hb : (y.name == x.name || hasS x.name y.als) with
  | false => rfl
  | true =>
    exfalso
    have h2 : x.name ∈ tyN (p.ty.take i) := by
      rw [Bool.or_eq_true] at hb
      rcases hb with hb | hb
      · exact mem_tyN hy' (Or.inl (by have := eq_of_beq hb; exact this.symm))
      · exact mem_tyN hy' (Or.inr (hasS_iff.1 hb))
    rw [hasS_iff.2 h2] at h1
    cases h1
theorem look_sym {p : PolD} (hok : PolOk p) {a : Int} {m : Nat} (hm : (m : Int) < symF p a) : lookF p a (symN p a (m : Int)) = some (oneF m) := by
  unfold symF at hm
  unfold lookF symN
  rw [Int.toNat_natCast]
  by_cases c0 : (sortI a == 0) = true
  · rw [if_pos c0] at hm
    rw [if_pos c0, if_pos c0]
    obtain ⟨u, hu⟩ := get_some (show m < p.us.length by omega)
    rw [hu, Option.map_some, Option.getD_some, first_dist UsD.name hok.us hu]; rfl
  rw [if_neg c0] at hm
  rw [if_neg c0, if_neg c0]
  by_cases c1 : (sortI a == 1) = true
  · rw [if_pos c1] at hm
    rw [if_pos c1, if_pos c1]
    obtain ⟨u, hu⟩ := get_some (show m < p.ro.length by omega)
    rw [hu, Option.map_some, Option.getD_some, first_dist RoD.name hok.ro hu]; rfl
  rw [if_neg c1] at hm
  rw [if_neg c1, if_neg c1]
  obtain ⟨u, hu⟩ := get_some (show m < p.ty.length by omega)
  rw [hu, Option.map_some, Option.getD_some, first_ty hok.ty hu]
theorem uni_sym {p : PolD} (hok : PolOk p) {a : Int} : ∀ (l : List Int) (w : Nat → BitVec 64), SymL p a l → ∃ w', (l.map (symN p a)).foldl (uniO p a) (some w) = some w' ∧ ∀ m, m < 256 → hasW w' m = (hasW w m || l.contains (m : Int))
  | [], w, _ => ⟨w, rfl, fun m _ => by simp⟩
  | n :: l, w, h => by
    obtain ⟨m0, h1, h2⟩ := h 0 n rfl
    subst h1
    obtain ⟨w', e1, e2⟩ := uni_sym hok l (fun k => w k ||| oneF m0 k) fun i n hn => h (i + 1) n (by simpa using hn)
    refine ⟨w', ?_, fun m hm => ?_⟩
    · rw [List.map_cons, List.foldl_cons, uniO, look_sym hok h2]
      exact e1
    · rw [e2 m hm]
      have : hasW (fun k => w k ||| oneF m0 k) m = (hasW w m || hasW (oneF m0) m) := by simp [hasW]
      rw [this, one_has m0 m hm, List.contains_cons, Bool.or_assoc]
      congr 2
      rw [Bool.eq_iff_iff]
      simp
      omega
theorem uni_back {p : PolD} (hs : SmOk p) (hok : PolOk p) {a : Int} {w : Nat → BitVec 64} (h : insW w (allW (clip (symF p a))) = true) : ∃ w', uniF p a (namL p a w) = some w' ∧ eqW w' w = true := by
  obtain ⟨w', e1, e2⟩ := uni_sym hok (listW w 256) zW (symL_of hs h)
  refine ⟨w', e1, eqW_has.2 fun m hm => ?_⟩
  rw [e2 m hm, mem_list, has_zW, Bool.false_or]
  simp [hm]
theorem mean_up {e : Xp} {lim : Int} (hl : lim ≤ 15) (h : meaningF e lim = 0) : meaningF e 15 = 0 := by
  unfold meaningF insideF at h ⊢
  grind
theorem nodeP_up {p : PolD} {lim : Int} (hl : lim ≤ 15) {e : Xp} (h : nodeP p lim e = 0) : nodeP p 15 e = 0 := by
  obtain ⟨h1, h2⟩ := nodeP_node h
  have hf := node_form h1
  have hm : meaningF e lim = 0 := by rw [nodeF, if_pos hf] at h1; exact h1
  have h3 : nodeF e false 15 = 0 := by rw [nodeF, if_pos hf]; exact mean_up hl hm
  rw [nodeP, h3, if_neg (by decide)]
  by_cases h9 : e.op = 9
  · obtain ⟨h4, h5⟩ := h2 h9
    rw [if_neg (by simp [h9]), if_neg (by simp [h4]), if_neg h5]
  · rw [if_pos (by simpa using h9)]
theorem first_up {F G : Xp → Int} (hFG : ∀ e, F e = 0 → G e = 0) : ∀ (n : Nat) (e : Xp), e.lv ≤ n → firstF F e = 0 → firstF G e = 0
  | 0, e, h, _ => absurd h (by have := lv_pos e; omega)
  | n + 1, e, h, h0 => first_zero (hFG e (first_node h0)) fun i k hk => first_up hFG n k (by have := Xp.kid_lt hk; omega) (first_kid h0 hk)
theorem form9F {e : Xp} (h : formF e false = true) (h9 : e.op = 9) : e.names = [] := by
  unfold formF at h
  rw [h9] at h
  simp [lenN] at h
  exact h.2.2.2
theorem eqW_symm {a b : Nat → BitVec 64} (h : eqW a b = true) : eqW b a = true := eqW_of fun k hk => (eqW_to h k hk).symm
theorem eqW_trans {a b c : Nat → BitVec 64} (h : eqW a b = true) (h' : eqW b c = true) : eqW a c = true := eqW_of fun k hk => (eqW_to h k hk).trans (eqW_to h' k hk)
theorem nam_pos {p : PolD} {a : Int} {w : Nat → BitVec 64} (h : ¬ eqW w zW = true) : 0 < (namL p a w).length := by
  have h1 := listW_nil (w := w)
  rw [namL, List.length_map]
  rcases Nat.eq_zero_or_pos (listW w 256).length with h0 | h0
  · rw [h0] at h1
    exact absurd h1.symm (by simpa using h)
  · exact h0
theorem wr_node {p : PolD} (hs : SmOk p) (hok : PolOk p) {lim : Int} {e : Xp} (h : nodeP p lim e = 0) : cmp1 p lim (wrF p e) = 0 := by
  obtain ⟨h1, h2⟩ := nodeP_node h
  have hf := node_form h1
  have hm : meaningF e lim = 0 := by rw [nodeF, if_pos hf] at h1; exact h1
  rw [wrF_eq]
  have hK : ∀ N : List (List UInt8), lenK (.mk e.op e.a e.rel e.b N zW (wrF.go p e.kids)) = lenK e := fun N => by
    show ((wrF.go p e.kids).length : Int) = (e.kids.length : Int)
    rw [wrs_len]
  have key : ∀ N : List (List UInt8), formF (.mk e.op e.a e.rel e.b N zW (wrF.go p e.kids)) true = true → (uniF p e.a N).isSome = true → cmp1 p lim (.mk e.op e.a e.rel e.b N zW (wrF.go p e.kids)) = 0 := fun N k1 k2 => by
    have k3 : nodeF (.mk e.op e.a e.rel e.b N zW (wrF.go p e.kids)) true lim = 0 := by
      rw [nodeF, if_pos k1]; exact hm
    have k4 : uniF p (Xp.mk e.op e.a e.rel e.b N zW (wrF.go p e.kids)).a (Xp.mk e.op e.a e.rel e.b N zW (wrF.go p e.kids)).names = uniF p e.a N := rfl
    rw [cmp1, k3, if_neg (by decide), k4]
    cases hu : uniF p e.a N with
    | none => rw [hu] at k2; cases k2
    | some w => rfl
  by_cases h9 : e.op = 9
  · obtain ⟨h4, h5⟩ := h2 h9
    obtain ⟨w', e1, _⟩ := uni_back hs hok h4
    have hpos := nam_pos (p := p) (a := e.a) h5
    generalize namL p e.a e.w = N at e1 hpos ⊢
    refine key N ?_ (by rw [e1]; rfl)
    obtain ⟨f1, f2, f3⟩ := form9 hf h9
    have hk := hK N
    have hk0 : lenK e = 0 := by rw [lenK, f3]; rfl
    have hn : lenN (.mk e.op e.a e.rel e.b N zW (wrF.go p e.kids)) = (N.length : Int) := rfl
    have hp : decide ((N.length : Int) > 0) = true := by simp; omega
    unfold formF
    rw [op_mk, b_mk, rel_mk, w_mk, hk, hk0, hn, h9, f1, f2, hp, eqW_refl]
    rfl
  · obtain ⟨f1, f2⟩ := formN hf h9
    rw [nam_none f2]
    refine key [] ?_ rfl
    have hk := hK []
    have hn : lenN (.mk e.op e.a e.rel e.b [] zW (wrF.go p e.kids)) = 0 := rfl
    have hn' : lenN e = 0 := by rw [lenN, f1]; rfl
    unfold formF bareF at hf ⊢
    rw [hk, hn]
    simp only [op_mk, a_mk, b_mk, rel_mk, w_mk]
    rw [eqW_refl]
    rw [f2, hn'] at hf
    grind
theorem wr_lv (p : PolD) : ∀ (n : Nat) (e : Xp), e.lv ≤ n → (wrF p e).lv ≤ e.lv
  | 0, e, h => absurd h (by have := lv_pos e; omega)
  | n + 1, e, h => by
    rw [wrF_eq, Xp.lv_eq, Xp.lv_eq]
    refine Nat.add_le_add_right (lvs_le fun i k hk => ?_) 1
    have h1 : (wrF.go p e.kids)[i]? = some k := hk
    have hi : i < e.kids.length := by rw [← wrs_len (p := p)]; exact (List.getElem?_eq_some_iff.1 h1).1
    obtain ⟨k', hk'⟩ := get_some hi
    rw [wrs_get hk'] at h1
    cases h1
    have := Xp.kid_lt hk'
    exact Nat.le_trans (wr_lv p n k' (by omega)) (Xp.lvs_get hk')
theorem wr_first {p : PolD} (hs : SmOk p) (hok : PolOk p) {lim : Int} : ∀ (n : Nat) (e : Xp), e.lv ≤ n → firstF (nodeP p lim) e = 0 → firstF (cmp1 p lim) (wrF p e) = 0
  | 0, e, h, _ => absurd h (by have := lv_pos e; omega)
  | n + 1, e, h, h0 => by
    refine first_zero (wr_node hs hok (first_node h0)) fun i k hk => ?_
    rw [wrF_eq] at hk
    have h1 : (wrF.go p e.kids)[i]? = some k := hk
    have hi : i < e.kids.length := by rw [← wrs_len (p := p)]; exact (List.getElem?_eq_some_iff.1 h1).1
    obtain ⟨k', hk'⟩ := get_some hi
    rw [wrs_get hk'] at h1
    cases h1
    exact wr_first hs hok n k' (by have := Xp.kid_lt hk'; omega) (first_kid h0 hk')
theorem wr_same {p : PolD} (hs : SmOk p) (hok : PolOk p) {lim : Int} : ∀ (n : Nat) (e : Xp), e.lv ≤ n → firstF (nodeP p lim) e = 0 → SameX (trF p (wrF p e)) e
  | 0, e, h, _ => absurd h (by have := lv_pos e; omega)
  | n + 1, e, h, h0 => by
    obtain ⟨h1, h2⟩ := nodeP_node (first_node h0)
    have hf := node_form h1
    have hkk : ∀ (i : Nat) k k', (trF.go p (wrF.go p e.kids))[i]? = some k → e.kids[i]? = some k' → SameX k k' := fun i k k' g1 g2 => by
      rw [trs_get (wrs_get g2)] at g1
      cases g1
      exact wr_same hs hok n k' (by have := Xp.kid_lt g2; omega) (first_kid h0 g2)
    rw [wrF_eq, trF_eq]
    by_cases h9 : e.op = 9
    · obtain ⟨h4, h5⟩ := h2 h9
      obtain ⟨w', e1, e2⟩ := uni_back hs hok h4
      obtain ⟨f1, f2, f3⟩ := form9 hf h9
      have f4 := form9F hf h9
      have hz : ¬ eqW w' zW = true := fun hz => h5 (eqW_trans (eqW_symm e2) hz)
      generalize namL p e.a e.w = N at e1 ⊢
      have k1 : (uniF p (Xp.mk e.op e.a e.rel e.b N zW (wrF.go p e.kids)).a (Xp.mk e.op e.a e.rel e.b N zW (wrF.go p e.kids)).names) = some w' := e1
      rw [k1, if_pos (by rw [op_mk, h9]; rfl), Option.getD_some, if_neg hz, a_mk]
      cases e with
      | mk op a rel b names w kids =>
        have g1 : op = 9 := h9
        have g2 : b = 0 := f1
        have g3 : rel = 0 := f2
        have g4 : kids = [] := f3
        have g5 : names = [] := f4
        subst g1; subst g2; subst g3; subst g4; subst g5
        exact .mk 9 a 0 0 [] w' w [] [] e2 rfl fun i k k' q => by simp at q
    · obtain ⟨f1, f2⟩ := formN hf h9
      rw [nam_none f2, if_neg (by rw [op_mk]; simpa using h9)]
      cases e with
      | mk op a rel b names w kids =>
        have g5 : names = [] := f1
        subst g5
        exact .mk op a rel b [] zW w _ kids (eqW_symm f2) (by rw [trs_len]; exact wrs_len kids) hkk
set_option maxRecDepth 4000 in
theorem law8_holds {e : Xp} {x : D} (hx : IsE e x) (p : PolD) (v : Bool) : Holds Tryz.prog gl 8 [.d x, .d (dPol p), .d (.bool v)] (.d (.bool true)) := by
  refine holds_of_body hm1 (enters_some (fn := Tryz.f8) (by kernel_rfl) (by kernel_rfl) (by kernel_rfl)) (h := h8) ?_; rw [body8]; intro hwf
  have h0 := fits_holds hx p
  have hx0 := hx
  obtain ⟨cs, c1, c2, c3, c4⟩ := hx.cells
  simp only [sS, true_and, List.map_cons, List.map_nil, vget, bget, List.getD_cons_zero, List.getD_cons_succ, Box.vals, dI, Nat.le_refl, sP, c1, c2, c3]
  refine ex_bool h0 fun b hb => ?_
  simp only [sS, true_and, List.map_cons, List.map_nil, vget, bget, List.getD_cons_zero, List.getD_cons_succ, Box.vals, dI, Nat.le_refl, sP]
  refine And.intro (fun _ => ?_) (fun hf => ?_)
  · refine callP_of awake_holds ?_
    simp only [sS, true_and, List.map_cons, List.map_nil, vget, bget, List.getD_cons_zero, List.getD_cons_succ, Box.vals, dI, Nat.le_refl]
  obtain ⟨hsx, hsm, hok⟩ := hb (by simpa using hf)
  have hlv := allX_lv e.lv e 15 (Nat.le_refl _) hsx
  have ha : ∀ t ∈ p.ty, t.als.length ≤ 4 := fun t ht => by obtain ⟨i, hi⟩ := List.mem_iff_getElem?.1 ht; exact hsm.als i t hi
  refine callP_of (checkC_holds hx0 (by omega) p v) ?_
  simp only [sS, true_and, List.map_cons, List.map_nil, vget, bget, List.getD_cons_zero, List.getD_cons_succ, Box.vals, dI, Nat.le_refl]
  refine And.intro (fun _ => ?_) (fun hck => ?_)
  · refine callP_of awake_holds ?_
    simp only [sS, true_and, List.map_cons, List.map_nil, vget, bget, List.getD_cons_zero, List.getD_cons_succ, Box.vals, dI, Nat.le_refl]
  have hck0 : checkF p v e = 0 := by simpa using hck
  have hfst := check_first hck0
  have hl12 : ¬ e.lv > 12 := fun hl => by rw [checkF, if_pos hl] at hck0; cases hck0
  have hck1 : checkF p true e = 0 := by
    rw [checkF, if_neg hl12, show limF true = 15 from rfl]
    exact first_up (fun e he => nodeP_up (limF_le v) he) e.lv e (Nat.le_refl _) hfst
  have hsrc : srcT p e = wrF p e := by rw [srcT, hck1]; rfl
  obtain ⟨y, hy, hyh⟩ := sourceC_holds hx0 (by omega) p hsm
  rw [hsrc] at hy
  have hwl := wr_lv p e.lv e (Nat.le_refl _)
  obtain ⟨z, hz, hzh⟩ := compileC_holds hy (by omega) p ha v
  have hE : cmpE p v (wrF p e) = 0 := by
    rw [cmpE, if_neg (by omega)]
    exact wr_first hsm hok e.lv e (Nat.le_refl _) hfst
  have hT : cmpT p v (wrF p e) = trF p (wrF p e) := by rw [cmpT, hE]; rfl
  rw [hT] at hz
  have hsame := same_holds _ _ _ z x (Nat.le_refl _) (wr_same hsm hok e.lv e (Nat.le_refl _) hfst) hz hx0
  refine callP_of hyh ?_
  simp only [sS, true_and, List.map_cons, List.map_nil, vget, bget, List.getD_cons_zero, List.getD_cons_succ, Box.vals, dI, Nat.le_refl]
  obtain ⟨zs, d1, d2, d3, d4⟩ := hz.cells
  refine call2 hzh ?_
  rw [hE]
  simp only [d1, d2, d3, d4, sS, true_and, List.map_cons, List.map_nil, vget, bget, List.getD_cons_zero, List.getD_cons_succ, Box.vals, dI, Nat.le_refl, beq_self_eq_true]
  refine And.intro (fun _ => ?_) (fun h => by cases h)
  refine callP_of hsame ?_
  simp only [sS, true_and, List.map_cons, List.map_nil, vget, bget, List.getD_cons_zero, List.getD_cons_succ, Box.vals, dI, Nat.le_refl]
  refine And.intro (fun _ => ?_) (fun h => by cases h)
  refine callP_of awake_holds ?_
  simp only [sS, true_and, List.map_cons, List.map_nil, vget, bget, List.getD_cons_zero, List.getD_cons_succ, Box.vals, dI, Nat.le_refl]
end Go.Proofs.YtcnnhnjcnekhcaaGreat.Ab
