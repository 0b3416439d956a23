/-
  THE LAW: what is written as names means what was written.
-/
import Derived.Test.YtfeepndphaboeaaE12
set_option linter.unusedVariables false
set_option linter.unusedSimpArgs false
namespace Go.Proofs.Ytfeepndphaboeaa.Ab
open Go

theorem few_tys {n : NsD} {e : EnvD} (h : fewF n e = true) : e.tys.length ≤ 300 := by
  rw [fewF] at h
  simp only [Bool.and_eq_true, decide_eq_true_eq] at h
  exact h.2.2.1
def cRd (l : List (List UInt8)) : List SV := [.d (.bool false), .d (.bool false), .d (.bool false), .d (sdS l), .d (.sl .nil 0 [])]
theorem build_ns3 (l : List (List UInt8)) : buildD Try.prog 29 [(3, sdS l)] = some (nsOut l) := by
  cases l with
  | nil => kernel_rfl
  | cons a l => kernel_rfl
theorem part_rd (l : List (List UInt8)) : partV true 5 0 (cRd l) = some (.d (nsOut l)) := by cases l <;> rfl
theorem index_w0 (w : Nat → BitVec 64) : indexV false 1 4 (.d (dSet w)) (.d (.int .i64 0)) = some (.d (dW (w 0))) := rfl
theorem conv_low (w : Nat → BitVec 64) : convI .u32 (.d (dW (w 0))) = some (.d (.int .u32 (lowW w))) := rfl
theorem part_cls (x : D) : partV true 2 0 (setAt [.d (.str []), .d (.sl .nil 0 [])] 0 [.d (.str []), .d x]) = some (.d (.agg [.str [], x])) := rfl
theorem e6 : Enters Try.prog 6 := enters_some (fn := Try.f6) (by kernel_rfl) (by kernel_rfl) (by kernel_rfl)
theorem law6_holds (w : Nat → BitVec 64) (m : Nat) (hm : m < 2 ^ 32) (e : EnvD) : Holds Try.prog gl 6 [.d (dSet w), .d (.int .u32 (m : Int)), .d e.enc] (.d (.bool true)) := by
  refine holds_of_body hm1 e6 (h := h6) ?_
  rw [body6]
  intro hwf
  rw [demote_d, demote_d]
  refine bindO_to (cells_set w) ⟨len_cSet _, ?_⟩
  refine bindO_to (cells_env e) ⟨rfl, ?_⟩
  refine bindO_to (x := []) rfl ?_
  refine bindO_to build_n0 ?_
  refine bindO_to (part_env e) ?_
  refine callP_of (few_holds n0 e) ?_
  refine bindO_to (un_not _) ?_
  rw [ifP_dec]
  refine ⟨fun _ => ?_, fun hfew => ?_⟩
  · refine callP_of awake_holds ?_
    exact ⟨rfl, rfl⟩
  have h300 : e.tys.length ≤ 300 := few_tys (n := n0) (by simpa using hfew)
  have hbig : e.tys.length ≤ 1000000 := by omega
  have hmax : e.tys.length ≤ maxLen := by simp only [maxLen]; omega
  have hN : (e.tys.map TyD.name).length = e.tys.length := List.length_map ..
  have hnmlen := nmW_len w e.tys e.tys.length
  have hvclen := vcW_len m (e.tys.map TyD.name) (e.tys.map TyD.name).length
  have a1 := names_holds w e.tys e.ht hbig
  have a2 := namesR_holds w e.tys e.ht hbig
  have a3 := vector_holds m hm [] (e.tys.map TyD.name) (isD_sd _) (by omega)
  have a4 := vectorR_holds m hm [] (e.tys.map TyD.name) (isD_sd _) (by omega)
  have p1 := fun hlen hd (n : NsD) => wr_types w e hlen hd n
  have p2 := fun hd (n : NsD) => wr_perms m hm (e.tys.map TyD.name) hd n
  generalize nmW w e.tys e.tys.length = nm at a1 a2 p1 hnmlen
  generalize vcW m (e.tys.map TyD.name) (e.tys.map TyD.name).length = vc at a3 a4 p2 hvclen
  have lnm : nm.length ≤ maxLen := by simp only [maxLen]; omega
  have lvc : vc.length ≤ maxLen := by simp only [maxLen]; omega
  have a5 := same_holds nm nm (isD_sd nm).sv (isD_sd nm).sv lnm
  have a6 := same_holds vc vc (isD_sd vc).sv (isD_sd vc).sv lvc
  rw [beq_self_eq_true] at a5 a6
  refine bindO_to (part_set w) ?_
  refine bindO_to (env_tys e) ?_
  refine callP_of a1 ?_
  refine bindO_to (cells_out nm) ⟨rfl, Nat.le_refl 5, ?_⟩
  refine bindO_to (env_tys e) ?_
  refine bindO_to e.ht.len ?_
  rw [List.length_map, demote_d, leq_int, bindO_some']
  refine bindO_to (env_tys e) ?_
  refine bindO_to e.ht.len ?_
  have hdec : decide ((e.tys.length : Int) ≤ 256) = dfB e 0 := by
    rw [dfB]
    congr 1
    exact propext (by omega)
  rw [List.length_map, hdec]
  refine loopP_count (fun i => [.d (.int .u32 (m : Int)), sown ((e.tys.take i).map TyD.name), .d (.bool (dfB e i)), .d (.int .i64 (e.tys.length : Int)), .d (.int .i64 ((i : Nat) : Int))]) (fun _ => [cSet w, cEnv e, cRd nm]) e.tys.length (fun i hi I hI => ?_) (fun I => ?_)
  · simp only [vget, bget, List.getD_cons_zero, List.getD_cons_succ, demote_d]
    refine bindO_to (lss_int _ _ _) ?_
    refine ifP_to rfl (decide_eq_true (by omega)) ?_
    obtain ⟨t, ht⟩ := get_some hi
    refine bindO_to (env_tys e) ?_
    refine bindO_to (e.ht.at (at_map ht)) ?_
    refine bindO_to (off_ptr _ _ _) ?_
    refine bindO_to (load_cell _ _ (.str t.name) rfl) ?_
    refine bindO_to (part_env e) ?_
    refine call2 (show Holds Try.prog gl 11 _ (.tup [.d (.int .i64 (((tyF e t.name).getD 0 : Nat) : Int)), .d (.bool (tyF e t.name).isSome)]) from typeR_holds e t.name) ?_
    have e1 : (e.tys.take (i + 1)).map TyD.name = (e.tys.take i).map TyD.name ++ [t.name] := by rw [List.take_add_one, ht]; simp
    have e2 : dfB e (i + 1) = (dfB e i && ((((tyF e t.name).getD 0 : Nat) : Int) == (i : Int))) := by rw [dfB, ht]
    rw [e1, e2] at hI
    rw [ifP_dec]
    refine ⟨fun hd => ?_, fun hd => ?_⟩
    · rw [hd, Bool.true_and] at hI
      simp only [demote_d]
      refine bindO_to (eql_int _ _ _) ?_
      refine bindO_to (env_tys e) ?_
      refine bindO_to (e.ht.at (at_map ht)) ?_
      refine bindO_to (off_ptr _ _ _) ?_
      refine bindO_to (load_cell _ _ (.str t.name) rfl) ?_
      refine bindO_to (str_one t.name) ⟨str_fit t.name, ?_⟩
      rw [str_elem]
      refine app_sown _ t.name _ (by rw [List.length_map, List.length_take]; omega) ?_
      refine bindO_to (add_up hi hmax) ?_
      exact hI
    · rw [hd, Bool.false_and] at hI
      refine bindO_to (env_tys e) ?_
      refine bindO_to (e.ht.at (at_map ht)) ?_
      refine bindO_to (off_ptr _ _ _) ?_
      refine bindO_to (load_cell _ _ (.str t.name) rfl) ?_
      refine bindO_to (str_one t.name) ⟨str_fit t.name, ?_⟩
      rw [str_elem]
      refine app_sown _ t.name _ (by rw [List.length_map, List.length_take]; omega) ?_
      refine bindO_to (add_up hi hmax) ?_
      exact hI
  · rw [List.take_length]
    have hdf := dfB_true e e.tys.length (Nat.le_refl _)
    generalize dfB e e.tys.length = df at hdf ⊢
    simp only [vget, bget, List.getD_cons_zero, List.getD_cons_succ, demote_d, demote_two, dem_sown]
    refine bindO_to (lss_int _ _ _) ?_
    refine ifP_no rfl (decide_eq_false (by omega)) ?_
    refine bindO_to (show partsS [(1, .v (.d (sdS (e.tys.map TyD.name))))] = some [(1, sdS (e.tys.map TyD.name))] from rfl) ?_
    refine bindO_to (build_pm (isD_sd _)) ?_
    refine bindO_to (show cellsV (.d (.agg [.str [], sdS (e.tys.map TyD.name)])) = some [.d (.str []), .d (sdS (e.tys.map TyD.name))] from rfl) ⟨rfl, Nat.le_refl 2, ?_⟩
    refine bindO_to (part_cls _) ?_
    refine callP_to a3 (isTup_sown _) ?_
    refine bindO_to (show partV false 1 3 (cRd nm) = some (.d (sdS nm)) from rfl) ?_
    refine bindO_to (part_set w) ?_
    refine bindO_to (env_tys e) ?_
    refine callP_of a2 ?_
    refine bindO_to (show fieldV false 1 3 (.d (nsOut nm)) = some (.d (sdS nm)) from rfl) ?_
    refine callP_of a5 ?_
    refine bindO_to (un_not _) ?_
    refine ifP_no rfl rfl ?_
    refine bindO_to (show partV false 1 4 (cRd nm) = some (.d (.sl .nil 0 [])) from rfl) ?_
    refine bindO_to (show lenL (.d (.sl .nil 0 [])) = some (.d (.int .i64 0)) from rfl) ?_
    rw [demote_d, gtr_int, bindO_some', demote_d, show decide ((0 : Int) > 0) = false from rfl, ifP_false]
    refine bindO_to (show partV false 1 0 (cRd nm) = some (.d (.bool false)) from rfl) ?_
    refine ifP_no rfl rfl ?_
    refine bindO_to (show partV false 1 1 (cRd nm) = some (.d (.bool false)) from rfl) ?_
    refine ifP_no rfl rfl ?_
    refine bindO_to (show partV false 1 2 (cRd nm) = some (.d (.bool false)) from rfl) ?_
    refine ifP_no rfl rfl ?_
    refine bindO_to (part_cls _) ?_
    refine callP_to a4 (isTup_sown _) ?_
    simp only [demote_two, dem_sown]
    refine callP_of a6 ?_
    refine bindO_to (un_not _) ?_
    refine ifP_no rfl rfl ?_
    refine bindO_to (un_not _) ?_
    rw [ifP_dec]
    refine ⟨fun _ => ?_, fun hdd => ?_⟩
    · refine callP_of awake_holds ?_
      exact ⟨rfl, rfl⟩
    · obtain ⟨h256, hd⟩ := hdf (by simpa using hdd)
      have hd' : ∀ i t, e.tys[i]? = some t → tyF e t.name = some i := fun i t ht => hd i t (List.getElem?_eq_some_iff.1 ht).1 ht
      obtain ⟨v, hv, hveq⟩ := p1 h256 hd' (mkNs false false nm [] lnm (by decide)) rfl rfl rfl rfl
      obtain ⟨u, hu, hueq⟩ := p2 (names_diff e hd') (mkNs false false vc [] lvc (by decide)) rfl rfl rfl rfl
      have b1 := types_holds (mkNs false false nm [] lnm (by decide)) e
      rw [hv, tupE_some] at b1
      have b2 := perms_holds (mkNs false false vc [] lvc (by decide)) [] (e.tys.map TyD.name) (isD_sd _) (by omega)
      rw [hu] at b2
      rw [hN] at hueq
      refine bindO_to (part_rd nm) ?_
      refine bindO_to (part_env e) ?_
      refine call2 (show Holds Try.prog gl 14 [.d (nsOut nm), .d e.enc] _ from b1) ?_
      refine bindO_to (cells_set v) ⟨len_cSet _, Nat.le_refl 4, ?_⟩
      refine bindO_to (show partsS [(3, .v (.d (sdS vc)))] = some [(3, sdS vc)] from rfl) ?_
      refine bindO_to (build_ns3 vc) ?_
      refine bindO_to (part_cls _) ?_
      refine call2 (show Holds Try.prog gl 20 [.d (nsOut vc), .d (.agg [.str [], sdS (e.tys.map TyD.name)])] (.tup [.d (.int .u32 (lowW u)), .d (.int .i64 0)]) from b2) ?_
      refine bindO_to (isD_sd (e.tys.map TyD.name)).len ?_
      have hf : foldIntV minD (.d (.int .i64 (e.tys.length : Int))) [.d (.int .i64 32)] = some (.d (.int .i64 ((min e.tys.length 32 : Nat) : Int))) := by
        rw [← min_nat]; rfl
      rw [len_strs, hN, demote_d, hf, bindO_some']
      refine callP_of (allR_holds ((min e.tys.length 32 : Nat) : Int)) ?_
      generalize allW (clip ((min e.tys.length 32 : Nat) : Int)) = al at hueq ⊢
      refine bindO_to (index_w0 al) ?_
      refine bindO_to (conv_low al) ?_
      simp only [demote_d]
      refine bindO_to (eql_int _ _ _) ?_
      refine ifP_to rfl rfl ?_
      rw [zero_set, set_all]
      refine bindO_to (part_set v) ?_
      refine bindO_to (part_set w) ?_
      refine bindO_to (env_tys e) ?_
      rw [demote_d, demote_d]
      refine bindO_to e.ht.len ?_
      rw [List.length_map]
      refine callP_of (allR_holds (e.tys.length : Int)) ?_
      refine callP_of (meetR_holds w _) ?_
      refine bindO_to (eql_set _ _) ?_
      refine ifP_to rfl hveq ?_
      refine bindO_to (eql_int _ _ _) ?_
      refine ifP_to rfl rfl ?_
      rw [lowW_nat al, and_u32g hm (Nat.mod_lt _ (by decide)), bindO_some', hueq]
      refine bindO_to (eql_int _ _ _) ?_
      refine ifP_to rfl (beq_self_eq_true _) ?_
      refine callP_of awake_holds ?_
      exact ⟨rfl, rfl⟩
end Go.Proofs.Ytfeepndphaboeaa.Ab
