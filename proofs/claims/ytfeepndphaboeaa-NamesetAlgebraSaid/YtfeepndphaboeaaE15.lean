/-
  THE LAW: the complement, the order and repetitions of names, what stands on both sides.
-/
import Derived.Test.YtfeepndphaboeaaE14
set_option linter.unusedVariables false
set_option linter.unusedSimpArgs false
namespace Go.Proofs.Ytfeepndphaboeaa.Ab
open Go

theorem alg_facts (e : EnvD) (n nO nT nB nX : NsD) (o1 : nO.all = n.all) (o2 : nO.not = !n.not) (o3 : nO.names = n.names) (o4 : nO.ex = n.ex)
    (t1 : nT.all = n.all) (t2 : nT.not = n.not) (t3 : ∀ s, s ∈ nT.names ↔ s ∈ n.names) (t4 : ∀ s, s ∈ nT.ex ↔ s ∈ n.ex)
    (b1 : nB.all = n.all) (b2 : nB.not = false) (b3 : nB.names = n.names ++ n.ex) (b4 : nB.ex = n.ex) (x1 : nX.all = false) (x2 : nX.not = false) (x3 : nX.names = n.ex) (x4 : nX.ex = []) :
    (typF n e = none ∧ typF nO e = none ∧ typF nT e = none) ∨ ∃ va vb vc vd vo, typF n e = some va ∧ typF nO e = some vb ∧ typF nT e = some vc ∧ typF nB e = some vd ∧ typF nX e = some vo ∧
      eqW va vc = true ∧ eqW (fun k => va k ||| vb k) (allW (clip (e.tys.length : Int))) = true ∧ eqW (fun k => va k &&& vb k) (fun _ => 0) = true ∧ eqW (fun k => vd k &&& vo k) (fun _ => 0) = true := by
  have hT : (allF (oneF e) nT.names && allF (oneF e) nT.ex) = (allF (oneF e) n.names && allF (oneF e) n.ex) := by rw [allF_mem t3, allF_mem t4]
  have hO : (allF (oneF e) nO.names && allF (oneF e) nO.ex) = (allF (oneF e) n.names && allF (oneF e) n.ex) := by rw [o3, o4]
  rcases typF_cases n e with ⟨h, hn⟩ | ⟨h, hn⟩
  · left
    refine ⟨hn, ?_, ?_⟩
    · rcases typF_cases nO e with ⟨_, h2⟩ | ⟨h2, _⟩
      · exact h2
      · rw [hO, h] at h2; cases h2
    · rcases typF_cases nT e with ⟨_, h2⟩ | ⟨h2, _⟩
      · exact h2
      · rw [hT, h] at h2; cases h2
  · right
    have hBB : (allF (oneF e) nB.names && allF (oneF e) nB.ex) = true := by
      rw [b3, b4]
      rw [Bool.and_eq_true] at h ⊢
      refine ⟨?_, h.2⟩
      unfold allF at h ⊢
      rw [List.all_append, h.1, h.2]
      rfl
    have hXX : (allF (oneF e) nX.names && allF (oneF e) nX.ex) = true := by
      rw [x3, x4]
      rw [Bool.and_eq_true] at h ⊢
      exact ⟨h.2, rfl⟩
    have g1 : typF nO e = some (combW nO (accF orW (oneF e) nO.names fun _ => 0) (accF orW (oneF e) nO.ex fun _ => 0) (allW (clip (e.tys.length : Int)))) := by
      rcases typF_cases nO e with ⟨h2, _⟩ | ⟨_, h2⟩
      · rw [hO, h] at h2; cases h2
      · exact h2
    have g2 : typF nT e = some (combW nT (accF orW (oneF e) nT.names fun _ => 0) (accF orW (oneF e) nT.ex fun _ => 0) (allW (clip (e.tys.length : Int)))) := by
      rcases typF_cases nT e with ⟨h2, _⟩ | ⟨_, h2⟩
      · rw [hT, h] at h2; cases h2
      · exact h2
    have g3 : typF nB e = some (combW nB (accF orW (oneF e) nB.names fun _ => 0) (accF orW (oneF e) nB.ex fun _ => 0) (allW (clip (e.tys.length : Int)))) := by
      rcases typF_cases nB e with ⟨h2, _⟩ | ⟨_, h2⟩
      · rw [hBB] at h2; cases h2
      · exact h2
    have g4 : typF nX e = some (combW nX (accF orW (oneF e) nX.names fun _ => 0) (accF orW (oneF e) nX.ex fun _ => 0) (allW (clip (e.tys.length : Int)))) := by
      rcases typF_cases nX e with ⟨h2, _⟩ | ⟨_, h2⟩
      · rw [hXX] at h2; cases h2
      · exact h2
    refine ⟨_, _, _, _, _, hn, g1, g2, g3, g4, ?_, ?_, ?_, ?_⟩
    · rw [eqW_has]
      intro m hm
      rw [has_comb, has_comb, t1, t2, acc_mem t3, acc_mem t4]
    · rw [eqW_has]
      intro m hm
      show hasW (orW _ _) m = _
      rw [has_or, has_comb, has_comb, o1, o2, o3, o4]
      have hA := acc_in e n.names m hm
      generalize hasW (accF orW (oneF e) n.names fun _ => 0) m = A at *
      generalize hasW (accF orW (oneF e) n.ex fun _ => 0) m = B at *
      generalize hasW (allW (clip (e.tys.length : Int))) m = L at *
      cases n.not <;> cases n.all <;> cases A <;> cases B <;> cases L <;> simp_all
    · rw [eqW_has]
      intro m hm
      rw [has_and, has_zero, has_comb, has_comb, o1, o2, o3, o4]
      generalize hasW (accF orW (oneF e) n.names fun _ => 0) m = A at *
      generalize hasW (accF orW (oneF e) n.ex fun _ => 0) m = B at *
      generalize hasW (allW (clip (e.tys.length : Int))) m = L at *
      cases n.not <;> cases n.all <;> cases A <;> cases B <;> cases L <;> rfl
    · rw [eqW_has]
      intro m hm
      rw [has_and, has_zero, has_comb, has_comb, b2, x1, x2, b4, x3, x4]
      generalize hasW (accF orW (oneF e) nB.names fun _ => 0) m = A at *
      generalize hasW (accF orW (oneF e) n.ex fun _ => 0) m = B at *
      generalize hasW (allW (clip (e.tys.length : Int))) m = L at *
      have hz : hasW (accF orW (oneF e) [] fun _ => 0) m = false := has_zero m
      rw [hz]
      cases nB.all <;> cases A <;> cases B <;> cases L <;> rfl

theorem few_ns {n : NsD} {e : EnvD} (h : fewF n e = true) : n.names.length ≤ 60 ∧ n.ex.length ≤ 60 := by
  rw [fewF] at h
  simp only [Bool.and_eq_true, decide_eq_true_eq] at h
  exact ⟨h.1, h.2.1⟩
theorem sub_nat {m n : Nat} (h : n ≤ m) (hm : m < 2 ^ 62) : binV none .sub (.d (.int .i64 (m : Int))) (.d (.int .i64 (n : Int))) = some (.d (.int .i64 ((m - n : Nat) : Int))) := by
  have h2 : IntKind.i64.wrap ((m : Int) - (n : Int)) = ((m - n : Nat) : Int) := by rw [wrap_i64 (by omega) (by omega)]; omega
  simp only [binV, binD, intBop, h2, ↓reduceIte]
theorem sub_1 {m : Nat} (h : 1 ≤ m) (hm : m < 2 ^ 62) : binV none .sub (.d (.int .i64 (m : Int))) (.d (.int .i64 1)) = some (.d (.int .i64 ((m - 1 : Nat) : Int))) := sub_nat h hm
theorem app2_sown (l : List (List UInt8)) (s t : List UInt8) (k : SV → Prop) (hb : (l.length + 2) * 16 ≤ 140737488355328) (hk : k (sown (l ++ [s, t]))) : appP 1 16 (sown l) (.full 1 [.str s, .str t]) k := by
  unfold appP
  have : appV 1 (sown l) (.full 1 [.str s, .str t]) = some (sown (l ++ [s, t]), l.length + 2) := by
    cases l with
    | nil => rfl
    | cons a l => simp [sown, appV, elems, dStrs]
  rw [this]
  exact ⟨hb, hk⟩
theorem str_two (s t : List UInt8) : partsS [(0, .v (.d (.str s))), (1, .v (.d (.str t)))] = some [(0, .str s), (1, .str t)] := rfl
theorem fit_two (s t : List UInt8) : partsFit 1 2 [(0, .str s), (1, .str t)] = true := rfl
theorem elem_two (s t : List UInt8) : buildElems (mkElem false [.str []]) [(0, .str s), (1, .str t)] 2 0 = [.str s, .str t] := rfl
def cTw (n : NsD) (x y : List (List UInt8)) : List SV := [.d (.bool n.all), .d (.bool n.not), .d (.bool n.self), sown x, sown y]
def nsT (n : NsD) (x y : List (List UInt8)) (hx : x.length ≤ maxLen) (hy : y.length ≤ maxLen) : NsD := { all := n.all, not := n.not, self := n.self, names := x, ex := y, nd := sdS x, ed := sdS y, hn := isD_sd x, he := isD_sd y, ln := hx, le := hy }
theorem part_tw (n : NsD) (x y : List (List UInt8)) (hx : x.length ≤ maxLen) (hy : y.length ≤ maxLen) : partV true 5 0 (cTw n x y) = some (.d (nsT n x y hx hy).enc) := by
  cases x <;> cases y <;> rfl
theorem set_tw3 (n : NsD) (x x' y : List (List UInt8)) : setAt ((cTw n x y).set 3 (demote (sown x))) 3 [sown x'] = cTw n x' y := rfl
theorem set_tw4 (n : NsD) (x y y' : List (List UInt8)) : setAt ((cTw n x y).set 4 (demote (sown y))) 4 [sown y'] = cTw n x y' := rfl
def nsO (n : NsD) : NsD := { n with not := !n.not }
def nsX (n : NsD) : NsD := { all := false, not := false, self := false, names := n.ex, ex := [], nd := n.ed, ed := .sl .nil 0 [], hn := n.he, he := .nil 0 rfl, ln := n.le, le := by decide }
theorem build_x {L : List D} {x : D} (hx : IsD 1 L x) : buildD Try.prog 29 [(3, x)] = some (.agg [.bool false, .bool false, .bool false, x, .sl .nil 0 []]) := by
  cases hx with
  | nil s h => kernel_rfl
  | ro => kernel_rfl
theorem build_nsX (n : NsD) : buildD Try.prog 29 [(3, n.ed)] = some (nsX n).enc := build_x n.he
/-- names behind names -/
def appd (l : List (List UInt8)) : SV := if dStrs l = [] then .full 1 [] else .own 1 (dStrs l)
theorem app_fst (l : List (List UInt8)) {x : SV} (hx : IsSl 1 (dStrs l) x) (hlen : l.length * 16 ≤ 140737488355328) (k : SV → Prop) (hk : k (appd l)) : appP 1 16 (.full 1 []) x k := by
  have e1 : appV 1 (.full 1 []) x = some (appd l, l.length) := by
    unfold appV appd
    rw [hx.elems.1]
    cases l with
    | nil => rfl
    | cons a l => simp [dStrs]
  unfold appP
  rw [e1]
  exact ⟨hlen, hk⟩
theorem app_snd (l m : List (List UInt8)) {y : SV} (hy : IsSl 1 (dStrs m) y) (hlen : (l.length + m.length) * 16 ≤ 140737488355328) (k : SV → Prop) (hk : k (appd (l ++ m))) : appP 1 16 (appd l) y k := by
  have e2 : appV 1 (appd l) y = some (appd (l ++ m), l.length + m.length) := by
    unfold appV appd
    rw [hy.elems.1]
    cases l with
    | nil =>
      cases m with
      | nil => rfl
      | cons b m => simp [dStrs]
    | cons a l => simp [dStrs]
  unfold appP
  rw [e2]
  exact ⟨hlen, hk⟩
theorem appd_data (l : List (List UInt8)) : cellsV (demote (appd l)) = some [demote (appd l)] ∧ ∃ d, toD (demote (appd l)) = some d ∧ IsD 1 (dStrs l) d := by
  unfold appd
  by_cases h : dStrs l = []
  · rw [if_pos h]
    refine ⟨rfl, .sl .ro 1 [], rfl, ?_⟩
    rw [h]
    exact .ro
  · rw [if_neg h]
    exact ⟨rfl, .sl .ro 1 (dStrs l), rfl, .ro⟩
theorem toDs_cons {x : SV} {l : List SV} {y : D} {r : List D} (hx : toD x = some y) (hl : toDs l = some r) : toDs (x :: l) = some (y :: r) := by
  rw [toDs, hx, hl]
theorem part_both (a b c : Bool) (z y : SV) (d d' : D) (hz : toD z = some d) (hy : toD y = some d') : partV true 5 0 [.d (.bool a), .d (.bool b), .d (.bool c), z, y] = some (.d (.agg [.bool a, .bool b, .bool c, d, d'])) := by
  have h : toDs [.d (.bool a), .d (.bool b), .d (.bool c), z, y] = some [.bool a, .bool b, .bool c, d, d'] := toDs_cons rfl (toDs_cons rfl (toDs_cons rfl (toDs_cons hz (toDs_cons hy rfl))))
  show (match toDs [.d (.bool a), .d (.bool b), .d (.bool c), z, y] with | some l => some (SV.d (.agg l)) | none => none) = _
  rw [h]
def nsB (n : NsD) (d : D) (hd : IsD 1 (dStrs (n.names ++ n.ex)) d) (h : (n.names ++ n.ex).length ≤ maxLen) : NsD := { all := n.all, not := false, self := n.self, names := n.names ++ n.ex, ex := n.ex, nd := d, ed := n.ed, hn := hd, he := n.he, ln := h, le := n.le }

theorem cells_ns5 (n : NsD) : cellsV (.d n.enc) = some [.d (.bool n.all), .d (.bool n.not), .d (.bool n.self), .d n.nd, .d n.ed] := rfl
theorem e7 : Enters Try.prog 7 := enters_some (fn := Try.f7) (by kernel_rfl) (by kernel_rfl) (by kernel_rfl)
theorem law7_holds (n : NsD) (e : EnvD) : Holds Try.prog gl 7 [.d n.enc, .d e.enc] (.d (.bool true)) := by
  refine holds_of_body hm1 e7 (h := h7) ?_
  rw [body7]
  intro hwf
  rw [demote_d, demote_d]
  refine bindO_to (cells_ns n) ⟨rfl, ?_⟩
  refine bindO_to (cells_env e) ⟨rfl, ?_⟩
  refine bindO_to (part_ns n) ?_
  refine bindO_to (part_env e) ?_
  refine callP_of (few_holds n e) ?_
  refine bindO_to (un_not _) ?_
  rw [ifP_dec]
  refine ⟨fun _ => ?_, fun hfew => ?_⟩
  · refine callP_of awake_holds ?_
    exact ⟨rfl, rfl⟩
  obtain ⟨hn60, he60⟩ := few_ns (n := n) (e := e) (by simpa using hfew)
  have lT1 := twN_len n.names n.names.length
  have lT2 := twN_len n.ex n.ex.length
  have mT1 : (twN n.names n.names.length).length ≤ maxLen := by simp only [maxLen]; omega
  have mT2 : (twN n.ex n.ex.length).length ≤ maxLen := by simp only [maxLen]; omega
  obtain ⟨cz, dB, tdB, hdB⟩ := appd_data (n.names ++ n.ex)
  have mB : (n.names ++ n.ex).length ≤ maxLen := by rw [List.length_append]; simp only [maxLen]; omega
  have facts := alg_facts e n (nsO n) (nsT n _ _ mT1 mT2) (nsB n dB hdB mB) (nsX n) rfl rfl rfl rfl rfl rfl (mem_tw_all n.names) (mem_tw_all n.ex) rfl rfl rfl rfl rfl rfl rfl rfl
  obtain ⟨a, f, b, g, c, h', hA, hB, hC, hcase⟩ : ∃ a f b g c h', Holds Try.prog gl 14 [.d n.enc, .d e.enc] (.tup [.d (dSet a), .d (.int .i64 f)]) ∧ Holds Try.prog gl 14 [.d (nsO n).enc, .d e.enc] (.tup [.d (dSet b), .d (.int .i64 g)]) ∧
      Holds Try.prog gl 14 [.d (nsT n _ _ mT1 mT2).enc, .d e.enc] (.tup [.d (dSet c), .d (.int .i64 h')]) ∧ f = g ∧ f = h' ∧ eqW a c = true ∧ ((f = 11 ∧ a = fun _ => 0) ∨ (f = 0 ∧ ∃ vd vo, Holds Try.prog gl 14 [.d (nsB n dB hdB mB).enc, .d e.enc] (.tup [.d (dSet vd), .d (.int .i64 0)]) ∧
        Holds Try.prog gl 14 [.d (nsX n).enc, .d e.enc] (.tup [.d (dSet vo), .d (.int .i64 0)]) ∧ eqW (fun k => a k ||| b k) (allW (clip (e.tys.length : Int))) = true ∧ eqW (fun k => a k &&& b k) (fun _ => 0) = true ∧ eqW (fun k => vd k &&& vo k) (fun _ => 0) = true)) := by
    have r1 := types_holds n e
    have r2 := types_holds (nsO n) e
    have r3 := types_holds (nsT n _ _ mT1 mT2) e
    have r4 := types_holds (nsB n dB hdB mB) e
    have r5 := types_holds (nsX n) e
    rcases facts with ⟨q1, q2, q3⟩ | ⟨va, vb, vc, vd, vo, q1, q2, q3, q4, q5, q6, q7, q8, q9⟩
    · rw [q1, tupE_none] at r1
      rw [q2, tupE_none] at r2
      rw [q3, tupE_none] at r3
      exact ⟨_, _, _, _, _, _, r1, r2, r3, rfl, rfl, eqW_refl _, .inl ⟨rfl, rfl⟩⟩
    · rw [q1, tupE_some] at r1
      rw [q2, tupE_some] at r2
      rw [q3, tupE_some] at r3
      rw [q4, tupE_some] at r4
      rw [q5, tupE_some] at r5
      exact ⟨_, _, _, _, _, _, r1, r2, r3, rfl, rfl, q6, .inr ⟨rfl, vd, vo, r4, r5, q7, q8, q9⟩⟩
  obtain ⟨hfg, hfh, hac, hcase⟩ := hcase
  subst hfg hfh
  refine bindO_to (part_ns n) ?_
  refine bindO_to (part_env e) ?_
  refine call2 hA ?_
  refine bindO_to (cells_set a) ⟨len_cSet _, Nat.le_refl 4, ?_⟩
  refine bindO_to (part_ns n) ?_
  refine bindO_to (cells_ns5 n) ⟨rfl, Nat.le_refl 5, ?_⟩
  refine bindO_to (ns_not n) ?_
  rw [demote_d, demote_d]
  refine bindO_to (un_not _) ?_
  refine bindO_to (x := [.d (.bool (!n.not))]) rfl ⟨rfl, by show 2 ≤ 5; decide, ?_⟩
  refine bindO_to (x := .d (nsO n).enc) rfl ?_
  refine bindO_to (part_env e) ?_
  refine call2 hB ?_
  refine bindO_to (cells_set b) ⟨len_cSet _, Nat.le_refl 4, ?_⟩
  refine bindO_to (part_ns n) ?_
  refine bindO_to (cells_ns5 n) ⟨rfl, Nat.le_refl 5, ?_⟩
  refine bindO_to (x := [.d (.sl .nil 0 [])]) rfl ⟨rfl, by show 4 ≤ 5; decide, ?_⟩
  refine bindO_to (x := [.d (.sl .nil 0 [])]) rfl ⟨rfl, by show 5 ≤ 5; decide, ?_⟩
  refine bindO_to (ns_names n) ?_
  rw [demote_d, demote_d]
  refine bindO_to n.hn.len ?_
  rw [len_strs, zero_set]
  refine loopP_count (fun i => [.d (.int .i64 f), .d (.int .i64 f), .d (.int .i64 (n.names.length : Int)), .d (.int .i64 ((i : Nat) : Int))]) (fun i => [cNs n, cEnv e, cSet a, cNs (nsO n), cSet b, cTw n (twN n.names i) []]) n.names.length (fun i hi I hI => ?_) (fun I => ?_)
  · simp only [vget, bget, List.getD_cons_zero, List.getD_cons_succ, demote_d]
    refine bindO_to (lss_int _ _ _) ?_
    refine ifP_to rfl (decide_eq_true (by omega)) ?_
    obtain ⟨s, hs⟩ := get_some (l := n.names) (i := n.names.length - 1 - i) (by omega)
    obtain ⟨t, ht⟩ := get_some (l := n.names) (i := 0) (by omega)
    have hlen := twN_len n.names i
    refine bindO_to (show (cTw n (twN n.names i) [])[3]? = some (sown (twN n.names i)) from rfl) ?_
    refine bindO_to (ns_names n) ?_
    refine bindO_to (ns_names n) ?_
    simp only [demote_d]
    refine bindO_to n.hn.len ?_
    rw [len_strs, demote_d, sub_1 (by omega) (by omega), bindO_some', demote_d, sub_nat (by omega) (by omega), bindO_some', demote_d]
    refine bindO_to (n.hn.at (at_strs hs)) ?_
    refine bindO_to (load_str s) ?_
    refine bindO_to (ns_names n) ?_
    rw [demote_d, demote_d]
    refine bindO_to (n.hn.at (i := 0) (at_strs ht)) ?_
    refine bindO_to (load_str t) ?_
    refine bindO_to (str_two s t) ⟨fit_two s t, ?_⟩
    rw [elem_two]
    refine app2_sown _ s t _ (by omega) ?_
    refine bindO_to (cells_sown _) ⟨rfl, by show 3 < 5; decide, ?_⟩
    refine bindO_to (add_up hi (by simp only [maxLen]; omega)) ?_
    have e1 : twN n.names (i + 1) = twN n.names i ++ [s, t] := by rw [twN, hs, ht]
    rw [e1] at hI
    exact hI
  · simp only [vget, bget, List.getD_cons_zero, List.getD_cons_succ, demote_d]
    refine bindO_to (lss_int _ _ _) ?_
    refine ifP_no rfl (decide_eq_false (by omega)) ?_
    refine bindO_to (ns_ex n) ?_
    rw [demote_d, demote_d]
    refine bindO_to n.he.len ?_
    rw [len_strs]
    refine loopP_count (fun i => [.d (.int .i64 f), .d (.int .i64 f), .d (.int .i64 (n.ex.length : Int)), .d (.int .i64 ((i : Nat) : Int))]) (fun i => [cNs n, cEnv e, cSet a, cNs (nsO n), cSet b, cTw n (twN n.names n.names.length) (twN n.ex i)]) n.ex.length (fun i hi I hI => ?_) (fun I => ?_)
    · simp only [vget, bget, List.getD_cons_zero, List.getD_cons_succ, demote_d]
      refine bindO_to (lss_int _ _ _) ?_
      refine ifP_to rfl (decide_eq_true (by omega)) ?_
      obtain ⟨s, hs⟩ := get_some (l := n.ex) (i := n.ex.length - 1 - i) (by omega)
      obtain ⟨t, ht⟩ := get_some (l := n.ex) (i := 0) (by omega)
      have hlen := twN_len n.ex i
      refine bindO_to (show (cTw n (twN n.names n.names.length) (twN n.ex i))[4]? = some (sown (twN n.ex i)) from rfl) ?_
      refine bindO_to (ns_ex n) ?_
      refine bindO_to (ns_ex n) ?_
      simp only [demote_d]
      refine bindO_to n.he.len ?_
      rw [len_strs, demote_d, sub_1 (by omega) (by omega), bindO_some', demote_d, sub_nat (by omega) (by omega), bindO_some', demote_d]
      refine bindO_to (n.he.at (at_strs hs)) ?_
      refine bindO_to (load_str s) ?_
      refine bindO_to (ns_ex n) ?_
      rw [demote_d, demote_d]
      refine bindO_to (n.he.at (i := 0) (at_strs ht)) ?_
      refine bindO_to (load_str t) ?_
      refine bindO_to (str_two s t) ⟨fit_two s t, ?_⟩
      rw [elem_two]
      refine app2_sown _ s t _ (by omega) ?_
      refine bindO_to (cells_sown _) ⟨rfl, by show 4 < 5; decide, ?_⟩
      refine bindO_to (add_up hi (by simp only [maxLen]; omega)) ?_
      have e1 : twN n.ex (i + 1) = twN n.ex i ++ [s, t] := by rw [twN, hs, ht]
      rw [e1] at hI
      exact hI
    · simp only [vget, bget, List.getD_cons_zero, List.getD_cons_succ, demote_d]
      refine bindO_to (lss_int _ _ _) ?_
      refine ifP_no rfl (decide_eq_false (by omega)) ?_
      refine bindO_to (part_tw n _ _ mT1 mT2) ?_
      refine bindO_to (part_env e) ?_
      refine call2 hC ?_
      refine bindO_to (cells_set c) ⟨len_cSet _, Nat.le_refl 4, ?_⟩
      simp only [demote_d]
      have hne : ∀ z : Int, (z != z) = false := fun z => by simp
      rw [neq_int, bindO_some', hne, demote_d, ifP_false, bindO_some', demote_d, demote_d, ifP_false]
      refine bindO_to (part_set a) ?_
      rw [set_all]
      refine bindO_to (part_set c) ?_
      refine bindO_to (neq_set a c) ?_
      refine ifP_no rfl (by rw [hac]; rfl) ?_
      rcases hcase with ⟨rfl, rfl⟩ | ⟨rfl, vd, vo, hD, hX, q1, q2, q3⟩
      · rw [neq_int, bindO_some', show ((11 : Int) != 0) = true from rfl, ifP_true]
        refine bindO_to (part_set _) ?_
        refine bindO_to (x := []) rfl ?_
        refine bindO_to build_set ?_
        refine bindO_to (eql_set _ _) ?_
        refine ifP_to rfl (eqW_refl _) ?_
        refine callP_of awake_holds ?_
        exact ⟨rfl, rfl⟩
      · rw [neq_int, bindO_some', show ((0 : Int) != 0) = false from rfl, ifP_false]
        refine bindO_to (env_tys e) ?_
        rw [demote_d, demote_d]
        refine bindO_to e.ht.len ?_
        rw [List.length_map]
        refine callP_of (allR_holds (e.tys.length : Int)) ?_
        generalize allW (clip (e.tys.length : Int)) = al at q1 ⊢
        refine bindO_to (cells_set al) ⟨len_cSet _, Nat.le_refl 4, ?_⟩
        refine bindO_to (part_set a) ?_
        refine bindO_to (part_set b) ?_
        refine callP_of (unionR_holds a b) ?_
        rw [set_all]
        refine bindO_to (part_set al) ?_
        refine bindO_to (neq_set _ _) ?_
        refine ifP_no rfl (by rw [q1]; rfl) ?_
        refine bindO_to (part_set a) ?_
        refine bindO_to (part_set b) ?_
        refine callP_of (meetR_holds a b) ?_
        refine bindO_to (x := []) rfl ?_
        refine bindO_to build_set ?_
        refine bindO_to (neq_set _ _) ?_
        refine ifP_no rfl (by rw [q2]; rfl) ?_
        refine bindO_to (part_ns n) ?_
        refine bindO_to (cells_ns5 n) ⟨rfl, Nat.le_refl 5, ?_⟩
        refine bindO_to (x := [.d (.bool false)]) rfl ⟨rfl, by show 2 ≤ 5; decide, ?_⟩
        refine bindO_to (x := []) rfl ⟨rfl, ?_⟩
        refine bindO_to (ns_names n) ?_
        rw [demote_d, demote_d]
        refine app_fst n.names n.hn.sv (by omega) _ ?_
        refine bindO_to (ns_ex n) ?_
        rw [demote_d, demote_d]
        refine app_snd n.names n.ex n.he.sv (by omega) _ ?_
        refine bindO_to cz ⟨rfl, by show 4 ≤ 5; decide, ?_⟩
        refine bindO_to (part_both n.all false n.self (demote (appd (n.names ++ n.ex))) (.d n.ed) dB n.ed tdB rfl) ?_
        refine bindO_to (part_env e) ?_
        refine call2 (show Holds Try.prog gl 14 [.d (.agg [.bool n.all, .bool false, .bool n.self, dB, n.ed]), .d e.enc] _ from hD) ?_
        refine bindO_to (cells_set vd) ⟨len_cSet _, Nat.le_refl 4, ?_⟩
        refine bindO_to (ns_ex n) ?_
        rw [demote_d, demote_d]
        refine bindO_to (show partsS [(3, .v (.d n.ed))] = some [(3, n.ed)] from rfl) ?_
        refine bindO_to (build_nsX n) ?_
        refine bindO_to (part_env e) ?_
        refine call2 hX ?_
        refine bindO_to (cells_set vo) ⟨len_cSet _, Nat.le_refl 4, ?_⟩
        simp only [demote_d]
        refine bindO_to (eql_int _ _ _) ?_
        refine ifP_to rfl rfl ?_
        refine bindO_to (eql_int _ _ _) ?_
        refine ifP_to rfl rfl ?_
        rw [set_all, set_all]
        refine bindO_to (part_set vd) ?_
        refine bindO_to (part_set vo) ?_
        refine callP_of (meetR_holds vd vo) ?_
        refine bindO_to (x := []) rfl ?_
        refine bindO_to build_set ?_
        refine bindO_to (eql_set _ _) ?_
        refine ifP_to rfl q3 ?_
        refine callP_of awake_holds ?_
        exact ⟨rfl, rfl⟩
end Go.Proofs.Ytfeepndphaboeaa.Ab
