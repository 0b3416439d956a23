/-
  COUNTING BITS BY LANES.
-/

set_option linter.unusedVariables false
set_option linter.unusedSimpArgs false
namespace Go.Proofs.YtofghbnaofcpdaaDoor.Ab

/-- how many of the k lowest bits are set -/
def popc : Nat → Nat → Nat
  | 0, _ => 0
  | k + 1, x => x % 2 + popc k (x / 2)
theorem popc_le : ∀ k x, popc k x ≤ k
  | 0, _ => Nat.le_refl _
  | k + 1, x => by have := popc_le k (x / 2); simp only [popc]; omega
theorem popc_add : ∀ k l x, popc (k + l) x = popc k x + popc l (x / 2 ^ k)
  | 0, l, x => by simp [popc]
  | k + 1, l, x => by
    rw [show k + 1 + l = (k + l) + 1 by omega]
    simp only [popc]
    rw [popc_add k l (x / 2), Nat.div_div_eq_div_mul, show 2 * 2 ^ k = 2 ^ (k + 1) by rw [Nat.pow_succ]; omega]
    omega
/-- lanes of width L, each with its bits' count -/
def lanes (L : Nat) : Nat → Nat → Nat
  | 0, _ => 0
  | m + 1, x => popc L x + 2 ^ L * lanes L m (x / 2 ^ L)
def mask (L : Nat) : Nat → Nat
  | 0 => 0
  | m + 1 => (2 ^ L - 1) + 2 ^ (2 * L) * mask L m

theorem and_split {n a b c d : Nat} (ha : a < 2 ^ n) (hc : c < 2 ^ n) : (a + 2 ^ n * b) &&& (c + 2 ^ n * d) = (a &&& c) + 2 ^ n * (b &&& d) := by
  have hac : a &&& c < 2 ^ n := Nat.lt_of_le_of_lt Nat.and_le_left ha
  apply Nat.eq_of_testBit_eq
  intro i
  rw [Nat.testBit_and, Nat.add_comm a, Nat.add_comm c, Nat.add_comm (a &&& c), Nat.testBit_two_pow_mul_add _ ha, Nat.testBit_two_pow_mul_add _ hc, Nat.testBit_two_pow_mul_add _ hac]
  split <;> rw [Nat.testBit_and]

theorem lt_two_pow (n : Nat) : n < 2 ^ n := Nat.lt_two_pow_self

/-- two lanes are one -/
theorem lanes_step (L : Nat) : ∀ m x, ((lanes L (2 * m) x / 2 ^ L) &&& mask L m) + (lanes L (2 * m) x &&& mask L m) = lanes (2 * L) m x
  | 0, x => by simp [lanes, mask]
  | m + 1, x => by
    have e : 2 * (m + 1) = (2 * m + 1) + 1 := by omega
    rw [e]
    simp only [lanes, mask]
    have p0 := popc_le L x
    have p1 := popc_le L (x / 2 ^ L)
    have hp0 : popc L x < 2 ^ L := Nat.lt_of_le_of_lt p0 (lt_two_pow L)
    have hp1 : popc L (x / 2 ^ L) < 2 ^ L := Nat.lt_of_le_of_lt p1 (lt_two_pow L)
    have hpos : 0 < 2 ^ L := Nat.pow_pos (by decide)
    have h2 : 2 ^ (2 * L) = 2 ^ L * 2 ^ L := by rw [Nat.two_mul, Nat.pow_add]
    have hdd : x / 2 ^ L / 2 ^ L = x / 2 ^ (2 * L) := by rw [Nat.div_div_eq_div_mul, h2]
    rw [hdd]
    have ih := lanes_step L m (x / 2 ^ (2 * L))
    generalize lanes L (2 * m) (x / 2 ^ (2 * L)) = s at ih ⊢
    rw [show 2 * L = L + L by omega, popc_add L L x, ← show 2 * L = L + L by omega, ← ih]
    generalize popc L x = a at *
    generalize popc L (x / 2 ^ L) = b at *
    have q1 : (a + 2 ^ L * (b + 2 ^ L * s)) / 2 ^ L = b + 2 ^ L * s := by rw [Nat.add_mul_div_left _ _ hpos, Nat.div_eq_of_lt hp0]; omega
    have hm : 2 ^ L - 1 < 2 ^ (2 * L) := by
      have : 2 ^ L ≤ 2 ^ (2 * L) := Nat.pow_le_pow_right (by decide) (by omega)
      omega
    have q2 : b + 2 ^ L * s = (b + 2 ^ L * (s % 2 ^ L)) + 2 ^ (2 * L) * (s / 2 ^ L) := by
      have := Nat.div_add_mod s (2 ^ L)
      rw [h2, Nat.mul_assoc, Nat.add_assoc, ← Nat.mul_add]
      congr 2
      omega
    have q3 : a + 2 ^ L * (b + 2 ^ L * s) = (a + 2 ^ L * b) + 2 ^ (2 * L) * s := by rw [h2, Nat.mul_add, Nat.mul_assoc, Nat.add_assoc]
    have b1 : b + 2 ^ L * (s % 2 ^ L) < 2 ^ (2 * L) := by
      have : s % 2 ^ L < 2 ^ L := Nat.mod_lt _ hpos
      have : 2 ^ L * (s % 2 ^ L) ≤ 2 ^ L * (2 ^ L - 1) := Nat.mul_le_mul_left _ (by omega)
      rw [Nat.mul_sub, Nat.mul_one, ← h2] at this
      have : 2 ^ L ≤ 2 ^ (2 * L) := Nat.pow_le_pow_right (by decide) (by omega)
      omega
    have b2 : a + 2 ^ L * b < 2 ^ (2 * L) := by
      have : 2 ^ L * b ≤ 2 ^ L * (2 ^ L - 1) := Nat.mul_le_mul_left _ (by omega)
      rw [Nat.mul_sub, Nat.mul_one, ← h2] at this
      have : 2 ^ L ≤ 2 ^ (2 * L) := Nat.pow_le_pow_right (by decide) (by omega)
      omega
    rw [q1, q3, q2, and_split b1 hm, and_split b2 hm]
    rw [Nat.and_two_pow_sub_one_eq_mod, Nat.and_two_pow_sub_one_eq_mod]
    rw [Nat.add_mul_mod_self_left, Nat.add_mul_mod_self_left, Nat.mod_eq_of_lt hp0, Nat.mod_eq_of_lt hp1, Nat.mul_add]
    omega
theorem lanes_one : ∀ m x, lanes 1 m x = x % 2 ^ m
  | 0, x => by simp [lanes, Nat.mod_one]
  | m + 1, x => by
    simp only [lanes, popc, lanes_one m, Nat.pow_one, Nat.add_zero]
    rw [Nat.pow_succ, Nat.mul_comm (2 ^ m) 2, Nat.mod_mul]
theorem popc_top (k x : Nat) : popc (k + 1) x = popc k x + (if x.testBit k then 1 else 0) := by
  rw [popc_add k 1 x]
  congr 1
  simp only [popc, Nat.add_zero]
  rw [Nat.testBit_eq_decide_div_mod_eq]
  have : x / 2 ^ k % 2 < 2 := Nat.mod_lt _ (by decide)
  by_cases h : x / 2 ^ k % 2 = 1
  · simp [h]
  · simp [h]; omega
theorem lanes4_low (m x : Nat) : lanes 4 m x % 16 ≤ 4 := by
  cases m with
  | zero => simp [lanes]
  | succ m =>
    simp only [lanes]
    have := popc_le 4 x
    rw [show (2 : Nat) ^ 4 = 16 by decide]
    omega
theorem lt_step {A y z : Nat} (hA : A < 2 ^ 8) (hy : y < z) : A + 2 ^ 8 * y < z * 256 := by
  rw [show (2 : Nat) ^ 8 = 256 by decide] at *
  omega
/-- the third step: bytes -/
theorem bytes_step : ∀ m x, lanes 4 (2 * m) x / 16 + lanes 4 (2 * m) x < 256 ^ m ∧ (lanes 4 (2 * m) x / 16 + lanes 4 (2 * m) x) &&& mask 4 m = lanes 8 m x
  | 0, x => by simp [lanes, mask]
  | m + 1, x => by
    have e : 2 * (m + 1) = (2 * m + 1) + 1 := by omega
    rw [e]
    simp only [lanes, mask]
    have p0 := popc_le 4 x
    have p1 := popc_le 4 (x / 2 ^ 4)
    have hdd : x / 2 ^ 4 / 2 ^ 4 = x / 2 ^ 8 := by rw [Nat.div_div_eq_div_mul]
    rw [hdd]
    have hlow := lanes4_low (2 * m) (x / 2 ^ 8)
    obtain ⟨ihl, ih⟩ := bytes_step m (x / 2 ^ 8)
    generalize lanes 4 (2 * m) (x / 2 ^ 8) = s at ih ihl hlow ⊢
    rw [popc_add 4 4 x, ← ih]
    generalize popc 4 x = a at *
    generalize popc 4 (x / 2 ^ 4) = b at *
    have q : (a + 2 ^ 4 * (b + 2 ^ 4 * s)) / 16 + (a + 2 ^ 4 * (b + 2 ^ 4 * s)) = ((a + b) + 16 * (b + s % 16)) + 2 ^ 8 * (s / 16 + s) := by
      rw [show (2 : Nat) ^ 4 = 16 by decide, show (2 : Nat) ^ 8 = 256 by decide]
      omega
    rw [q]
    have hb : (a + b) + 16 * (b + s % 16) < 2 ^ 8 := by
      rw [show (2 : Nat) ^ 8 = 256 by decide]
      omega
    refine ⟨?_, ?_⟩
    · rw [Nat.pow_succ]
      exact lt_step hb ihl
    · rw [show 2 ^ (2 * 4) = 2 ^ 8 by decide, and_split hb (by decide), Nat.and_two_pow_sub_one_eq_mod]
      rw [show (2 : Nat) ^ 4 = 16 by decide]
      omega
/-- the count of a word -/
theorem popc64 (x : Nat) : ∃ c0 c1 c2 c3 c4 c5 c6 c7 : Nat, c0 ≤ 8 ∧ c1 ≤ 8 ∧ c2 ≤ 8 ∧ c3 ≤ 8 ∧ c4 ≤ 8 ∧ c5 ≤ 8 ∧ c6 ≤ 8 ∧ c7 ≤ 8 ∧ popc 64 x = c0 + c1 + c2 + c3 + c4 + c5 + c6 + c7 ∧ lanes 8 8 x = c0 + 256 * (c1 + 256 * (c2 + 256 * (c3 + 256 * (c4 + 256 * (c5 + 256 * (c6 + 256 * c7)))))) := by
  refine ⟨popc 8 x, popc 8 (x / 2 ^ 8), popc 8 (x / 2 ^ 8 / 2 ^ 8), popc 8 (x / 2 ^ 8 / 2 ^ 8 / 2 ^ 8), popc 8 (x / 2 ^ 8 / 2 ^ 8 / 2 ^ 8 / 2 ^ 8), popc 8 (x / 2 ^ 8 / 2 ^ 8 / 2 ^ 8 / 2 ^ 8 / 2 ^ 8), popc 8 (x / 2 ^ 8 / 2 ^ 8 / 2 ^ 8 / 2 ^ 8 / 2 ^ 8 / 2 ^ 8), popc 8 (x / 2 ^ 8 / 2 ^ 8 / 2 ^ 8 / 2 ^ 8 / 2 ^ 8 / 2 ^ 8 / 2 ^ 8), popc_le _ _, popc_le _ _, popc_le _ _, popc_le _ _, popc_le _ _, popc_le _ _, popc_le _ _, popc_le _ _, ?_, ?_⟩
  · rw [show (64 : Nat) = 8 + (8 + (8 + (8 + (8 + (8 + (8 + 8)))))) by decide]
    simp only [popc_add 8 _]
    omega
  · simp only [lanes, show (2 : Nat) ^ 8 = 256 by decide, Nat.mul_zero, Nat.add_zero]
theorem mask1 : mask 1 32 = 0x5555555555555555 := by decide
theorem mask2 : mask 2 16 = 0x3333333333333333 := by decide
theorem mask4 : mask 4 8 = 0x0f0f0f0f0f0f0f0f := by decide
theorem lanes_lt (L : Nat) : ∀ m x, lanes L m x < (2 ^ L) ^ m
  | 0, x => by simp [lanes]
  | m + 1, x => by
    simp only [lanes]
    have h1 := lanes_lt L m (x / 2 ^ L)
    have h2 : popc L x < 2 ^ L := Nat.lt_of_le_of_lt (popc_le L x) (lt_two_pow L)
    rw [Nat.pow_succ]
    generalize (2 ^ L) ^ m = z at *
    generalize lanes L m (x / 2 ^ L) = y at *
    generalize 2 ^ L = p at *
    have : p * y ≤ p * (z - 1) := Nat.mul_le_mul_left _ (by omega)
    rw [Nat.mul_sub, Nat.mul_one, Nat.mul_comm p z] at this
    have hpz : p ≤ z * p := Nat.le_mul_of_pos_left _ (by omega)
    omega
theorem shift8 {c0 c1 c2 c3 c4 c5 c6 c7 : Nat} (h : c0 < 256) : (c0 + 256 * (c1 + 256 * (c2 + 256 * (c3 + 256 * (c4 + 256 * (c5 + 256 * (c6 + 256 * c7))))))) + (c0 + 256 * (c1 + 256 * (c2 + 256 * (c3 + 256 * (c4 + 256 * (c5 + 256 * (c6 + 256 * c7))))))) / 256 = (c0 + c1) + 256 * ((c1 + c2) + 256 * ((c2 + c3) + 256 * ((c3 + c4) + 256 * ((c4 + c5) + 256 * ((c5 + c6) + 256 * ((c6 + c7) + 256 * c7)))))) := by omega
theorem shift16 {d0 d1 d2 d3 d4 d5 d6 c7 : Nat} (h : d0 < 256) (h1 : d1 < 256) : (d0 + 256 * (d1 + 256 * (d2 + 256 * (d3 + 256 * (d4 + 256 * (d5 + 256 * (d6 + 256 * c7))))))) + (d0 + 256 * (d1 + 256 * (d2 + 256 * (d3 + 256 * (d4 + 256 * (d5 + 256 * (d6 + 256 * c7))))))) / 65536 = (d0 + d2) + 256 * ((d1 + d3) + 256 * ((d2 + d4) + 256 * ((d3 + d5) + 256 * ((d4 + d6) + 256 * ((d5 + c7) + 256 * (d6 + 256 * c7)))))) := by
  have : (d0 + 256 * (d1 + 256 * (d2 + 256 * (d3 + 256 * (d4 + 256 * (d5 + 256 * (d6 + 256 * c7))))))) / 65536 = d2 + 256 * (d3 + 256 * (d4 + 256 * (d5 + 256 * (d6 + 256 * c7)))) := by
    generalize d2 + 256 * (d3 + 256 * (d4 + 256 * (d5 + 256 * (d6 + 256 * c7)))) = y
    omega
  rw [this]
  omega
theorem shift32 {e0 e1 e2 e3 e4 e5 d6 c7 : Nat} (h : e0 < 256) (h1 : e1 < 256) (h2 : e2 < 256) (h3 : e3 < 256) : (e0 + 256 * (e1 + 256 * (e2 + 256 * (e3 + 256 * (e4 + 256 * (e5 + 256 * (d6 + 256 * c7))))))) + (e0 + 256 * (e1 + 256 * (e2 + 256 * (e3 + 256 * (e4 + 256 * (e5 + 256 * (d6 + 256 * c7))))))) / 4294967296 = (e0 + e4) + 256 * ((e1 + e5) + 256 * ((e2 + d6) + 256 * ((e3 + c7) + 256 * (e4 + 256 * (e5 + 256 * (d6 + 256 * c7)))))) := by
  have : (e0 + 256 * (e1 + 256 * (e2 + 256 * (e3 + 256 * (e4 + 256 * (e5 + 256 * (d6 + 256 * c7))))))) / 4294967296 = e4 + 256 * (e5 + 256 * (d6 + 256 * c7)) := by
    generalize e4 + 256 * (e5 + 256 * (d6 + 256 * c7)) = y
    omega
  rw [this]
  omega
theorem count_fin {c0 c1 c2 c3 c4 c5 c6 c7 t u v z : Nat} (h0 : c0 ≤ 8) (h1 : c1 ≤ 8) (h2 : c2 ≤ 8) (h3 : c3 ≤ 8) (h4 : c4 ≤ 8) (h5 : c5 ≤ 8) (h6 : c6 ≤ 8) (h7 : c7 ≤ 8)
    (ht : t = c0 + 256 * (c1 + 256 * (c2 + 256 * (c3 + 256 * (c4 + 256 * (c5 + 256 * (c6 + 256 * c7))))))) (hu0 : u = t + t / 256) (hv0 : v = u + u / 65536) (hz0 : z = v + v / 4294967296) :
    t < 2 ^ 64 ∧ u < 2 ^ 64 ∧ v < 2 ^ 64 ∧ z < 2 ^ 63 ∧ z % 128 = c0 + c1 + c2 + c3 + c4 + c5 + c6 + c7 := by
  have hu : u = (c0 + c1) + 256 * ((c1 + c2) + 256 * ((c2 + c3) + 256 * ((c3 + c4) + 256 * ((c4 + c5) + 256 * ((c5 + c6) + 256 * ((c6 + c7) + 256 * c7)))))) := by rw [hu0, ht]; exact shift8 (by omega)
  have hv : v = (c0 + c1 + (c2 + c3)) + 256 * ((c1 + c2 + (c3 + c4)) + 256 * ((c2 + c3 + (c4 + c5)) + 256 * ((c3 + c4 + (c5 + c6)) + 256 * ((c4 + c5 + (c6 + c7)) + 256 * ((c5 + c6 + c7) + 256 * ((c6 + c7) + 256 * c7)))))) := by rw [hv0, hu]; exact shift16 (by omega) (by omega)
  have hz : z = (c0 + c1 + (c2 + c3) + (c4 + c5 + (c6 + c7))) + 256 * ((c1 + c2 + (c3 + c4) + (c5 + c6 + c7)) + 256 * ((c2 + c3 + (c4 + c5) + (c6 + c7)) + 256 * ((c3 + c4 + (c5 + c6) + c7) + 256 * ((c4 + c5 + (c6 + c7)) + 256 * ((c5 + c6 + c7) + 256 * ((c6 + c7) + 256 * c7)))))) := by rw [hz0, hv]; exact shift32 (by omega) (by omega) (by omega) (by omega)
  clear hu0 hv0 hz0
  refine ⟨?_, ?_, ?_, ?_, ?_⟩
  · clear hu hv hz; omega
  · clear ht hv hz; omega
  · clear ht hu hz; omega
  · clear ht hu hv; omega
  · clear ht hu hv
    have : z = (c0 + c1 + (c2 + c3) + (c4 + c5 + (c6 + c7))) + 128 * (2 * ((c1 + c2 + (c3 + c4) + (c5 + c6 + c7)) + 256 * ((c2 + c3 + (c4 + c5) + (c6 + c7)) + 256 * ((c3 + c4 + (c5 + c6) + c7) + 256 * ((c4 + c5 + (c6 + c7)) + 256 * ((c5 + c6 + c7) + 256 * ((c6 + c7) + 256 * c7))))))) := by rw [hz]; omega
    rw [this, Nat.add_mul_mod_self_left, Nat.mod_eq_of_lt (by omega)]
    omega
/-- the words of the program's count, in numbers -/
theorem count_steps {x : Nat} (hx : x < 2 ^ 64) :
    let a := ((x / 2) &&& 0x5555555555555555) + (x &&& 0x5555555555555555)
    let b := ((a / 4) &&& 0x3333333333333333) + (a &&& 0x3333333333333333)
    let t := (b / 16 + b) &&& 0x0f0f0f0f0f0f0f0f
    let u := t + t / 256
    let v := u + u / 65536
    let z := v + v / 4294967296
    a < 2 ^ 64 ∧ b < 2 ^ 64 ∧ b / 16 + b < 2 ^ 64 ∧ t < 2 ^ 64 ∧ u < 2 ^ 64 ∧ v < 2 ^ 64 ∧ z < 2 ^ 63 ∧ z % 128 = popc 64 x := by
  intro a b t u v z
  have ha : a = lanes 2 32 x := by
    have := lanes_step 1 32 x
    rw [lanes_one, show 2 * 32 = 64 by decide, Nat.mod_eq_of_lt hx, mask1] at this
    exact this
  have hb : b = lanes 4 16 x := by
    have := lanes_step 2 16 x
    rw [mask2, show 2 * 16 = 32 by decide, ← ha] at this
    exact this
  have ht := bytes_step 8 x
  rw [mask4, show 2 * 8 = 16 by decide, ← hb] at ht
  have ht2 : t = lanes 8 8 x := ht.2
  obtain ⟨c0, c1, c2, c3, c4, c5, c6, c7, h0, h1, h2, h3, h4, h5, h6, h7, hs, hl⟩ := popc64 x
  have l1 := lanes_lt 2 32 x
  have l2 := lanes_lt 4 16 x
  have l3 := ht.1
  rw [show (2 ^ 2) ^ 32 = 2 ^ 64 by decide, ← ha] at l1
  rw [show (2 ^ 4) ^ 16 = 2 ^ 64 by decide, ← hb] at l2
  rw [show 256 ^ 8 = 2 ^ 64 by decide] at l3
  refine ⟨l1, l2, l3, ?_⟩
  rw [hs]
  rw [hl] at ht2
  exact count_fin h0 h1 h2 h3 h4 h5 h6 h7 ht2 rfl rfl rfl
end Go.Proofs.YtofghbnaofcpdaaDoor.Ab
