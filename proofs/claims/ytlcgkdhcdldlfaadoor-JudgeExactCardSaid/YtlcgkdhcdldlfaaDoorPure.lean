/- The plain law of the drawn numbers: the mixing is one to one, its way back; the upper half of a product. -/
namespace Go.Proofs.YtlcgkdhcdldlfaaDoor.PureDraw

theorem xs_inv1 (z s : Nat) (hz : z >>> (3 * s) = 0) : (z ^^^ z >>> s) ^^^ (z ^^^ z >>> s) >>> s ^^^ (z ^^^ z >>> s) >>> (2 * s) = z := by
  simp only [Nat.shiftRight_xor_distrib, ← Nat.shiftRight_add]
  rw [show s + s = 2 * s by omega, show s + 2 * s = 3 * s by omega, hz]
  apply Nat.eq_of_testBit_eq
  intro i
  simp only [Nat.testBit_xor, Nat.zero_testBit]
  cases z.testBit i <;> cases (z >>> s).testBit i <;> cases (z >>> (2*s)).testBit i <;> rfl

theorem xs_inv2 (z s : Nat) (hz : z >>> (3 * s) = 0) : (z ^^^ z >>> s ^^^ z >>> (2 * s)) ^^^ (z ^^^ z >>> s ^^^ z >>> (2 * s)) >>> s = z := by
  simp only [Nat.shiftRight_xor_distrib, ← Nat.shiftRight_add]
  rw [show s + s = 2 * s by omega, show 2 * s + s = 3 * s by omega, hz]
  apply Nat.eq_of_testBit_eq
  intro i
  simp only [Nat.testBit_xor, Nat.zero_testBit]
  cases z.testBit i <;> cases (z >>> s).testBit i <;> cases (z >>> (2*s)).testBit i <;> rfl

/-- x with itself shifted by s (written as a division) -/
def xs (q x : Nat) : Nat := x ^^^ x / q
def un (q r x : Nat) : Nat := x ^^^ x / q ^^^ x / r
def M : Nat := 18446744073709551616
def mix (x : Nat) : Nat := xs 2147483648 (xs 134217728 (xs 1073741824 x * 13787848793156543929 % M) * 10723151780598845931 % M)
def unmix (y : Nat) : Nat :=
  un 1073741824 1152921504606846976 (un 134217728 18014398509481984 (un 2147483648 4611686018427387904 y * 3573116690164977347 % M) * 10871156337175269513 % M)

theorem lt_pow {x : Nat} (h : x < M) : x < 2 ^ 64 := h
theorem xs_lt {q x : Nat} (h : x < M) : xs q x < M := by
  unfold xs M
  exact Nat.xor_lt_two_pow (n := 64) (lt_pow h) (Nat.lt_of_le_of_lt (Nat.div_le_self _ _) (lt_pow h))
theorem un_lt {q r x : Nat} (h : x < M) : un q r x < M := by
  unfold un M
  exact Nat.xor_lt_two_pow (n := 64) (Nat.xor_lt_two_pow (n := 64) (lt_pow h) (Nat.lt_of_le_of_lt (Nat.div_le_self _ _) (lt_pow h))) (Nat.lt_of_le_of_lt (Nat.div_le_self _ _) (lt_pow h))
theorem mod_lt (x : Nat) : x % M < M := Nat.mod_lt _ (by decide)

theorem un_xs {x s : Nat} (h : x < M) (hs : 64 ≤ 3 * s) : un (2 ^ s) (2 ^ (2 * s)) (xs (2 ^ s) x) = x := by
  have := xs_inv1 x s (by rw [Nat.shiftRight_eq_div_pow]; exact Nat.div_eq_of_lt (Nat.lt_of_lt_of_le (lt_pow h) (Nat.pow_le_pow_right (by omega) hs)))
  unfold un xs
  simpa only [Nat.shiftRight_eq_div_pow] using this
theorem xs_un {x s : Nat} (h : x < M) (hs : 64 ≤ 3 * s) : xs (2 ^ s) (un (2 ^ s) (2 ^ (2 * s)) x) = x := by
  have := xs_inv2 x s (by rw [Nat.shiftRight_eq_div_pow]; exact Nat.div_eq_of_lt (Nat.lt_of_lt_of_le (lt_pow h) (Nat.pow_le_pow_right (by omega) hs)))
  unfold un xs
  simpa only [Nat.shiftRight_eq_div_pow] using this
theorem back {x c d : Nat} (h : x < M) (hcd : c * d % M = 1) : x * c % M * d % M = x := by
  rw [Nat.mod_mul_mod, Nat.mul_assoc, Nat.mul_mod, hcd, Nat.mul_one, Nat.mod_mod, Nat.mod_eq_of_lt h]

theorem unmix_mix {x : Nat} (h : x < M) : unmix (mix x) = x := by
  unfold unmix mix
  have h1 := mod_lt (xs 1073741824 x * 13787848793156543929)
  have h2 := mod_lt (xs 134217728 (xs 1073741824 x * 13787848793156543929 % M) * 10723151780598845931)
  rw [show un 2147483648 4611686018427387904 (xs 2147483648 _) = _ from un_xs (s := 31) h2 (by omega),
    back (xs_lt h1) (by decide), show un 134217728 18014398509481984 (xs 134217728 _) = _ from un_xs (s := 27) h1 (by omega),
    back (xs_lt h) (by decide), show un 1073741824 1152921504606846976 (xs 1073741824 _) = _ from un_xs (s := 30) h (by omega)]
theorem mix_unmix {x : Nat} (h : x < M) : mix (unmix x) = x := by
  unfold unmix mix
  have h1 := mod_lt (un 2147483648 4611686018427387904 x * 3573116690164977347)
  have h2 := mod_lt (un 134217728 18014398509481984 (un 2147483648 4611686018427387904 x * 3573116690164977347 % M) * 10871156337175269513)
  rw [show xs 1073741824 (un 1073741824 1152921504606846976 _) = _ from xs_un (s := 30) h2 (by omega),
    back (un_lt h1) (by decide), show xs 134217728 (un 134217728 18014398509481984 _) = _ from xs_un (s := 27) h1 (by omega),
    back (un_lt h) (by decide), show xs 2147483648 (un 2147483648 4611686018427387904 _) = _ from xs_un (s := 31) h (by omega)]
theorem mix_lt (x : Nat) : mix x < M := xs_lt (mod_lt _)
theorem unmix_lt (x : Nat) : unmix x < M := un_lt (mod_lt _)
theorem mix_inj {x y : Nat} (hx : x < M) (hy : y < M) (h : mix x = mix y) : x = y := by
  rw [← unmix_mix hx, ← unmix_mix hy, h]


theorem odd_inj {a b g gi : Nat} (h : g * a % M = g * b % M) (hg : g * gi % M = 1) : a % M = b % M := by
  have e := congrArg (fun x => x * gi % M) h
  simp only [Nat.mod_mul_mod] at e
  rw [show g * a * gi = g * gi * a by ac_rfl, show g * b * gi = g * gi * b by ac_rfl] at e
  rw [Nat.mul_mod, hg, Nat.one_mul, Nat.mod_mod, Nat.mul_mod (g * gi) b, hg, Nat.one_mul, Nat.mod_mod] at e
  exact e
theorem add_inj {a b c : Nat} (h : (c + a) % M = (c + b) % M) : a % M = b % M := by
  unfold M at *
  omega

/-- the upper half of the product -/
theorem high_le (u n : Nat) (hu : u < M) : u * n / M ≤ n := by
  apply Nat.div_le_of_le_mul
  rw [Nat.mul_comm M]
  rw [Nat.mul_comm u]
  exact Nat.mul_le_mul_left _ (Nat.le_of_lt hu)
theorem high_lt (u n : Nat) (hu : u < M) (hn : 0 < n) : u * n / M < n := by
  rw [Nat.div_lt_iff_lt_mul (by decide), Nat.mul_comm u]
  exact (Nat.mul_lt_mul_left hn).2 hu
theorem high_mono (u n m : Nat) (h : n ≤ m) : u * n / M ≤ u * m / M := Nat.div_le_div_right (Nat.mul_le_mul_left _ h)
theorem high_mono' (u v n : Nat) (h : u ≤ v) : u * n / M ≤ v * n / M := Nat.div_le_div_right (Nat.mul_le_mul_right _ h)
theorem high_top (n : Nat) (hn : 0 < n) (hM : n < M) : (M - 1) * n / M = n - 1 := by
  have e : (M - 1) * n = M * (n - 1) + (M - n) := by
    rw [Nat.mul_sub, Nat.sub_mul]
    have : M ≤ M * n := Nat.le_mul_of_pos_right _ hn
    omega
  rw [e, Nat.mul_add_div (by decide), Nat.div_eq_of_lt (by omega)]
  rfl
theorem high_nest (u n m : Nat) (hm : 0 < m) : u * (n * m) / M / m = u * n / M := by
  rw [Nat.div_div_eq_div_mul, ← Nat.mul_assoc]
  exact Nat.mul_div_mul_right _ _ hm
/-- the least u whose product with n reaches k times 2^64 -/
def from_ (k n : Nat) : Nat := (k * M + (n - 1)) / n
theorem from_spec (k n u : Nat) (hn : 0 < n) : from_ k n ≤ u ↔ k ≤ u * n / M := by
  unfold from_
  rw [Nat.le_div_iff_mul_le (by decide)]
  rw [← Nat.lt_succ_iff, Nat.div_lt_iff_lt_mul hn, Nat.succ_mul]
  omega
theorem from_lt (k n : Nat) (hk : k < n) (hM : n < M) : from_ k n < M := by
  have := (from_spec k n (M - 1) (by omega)).2 (by rw [high_top n (by omega) hM]; omega)
  have : 0 < M := by decide
  omega
theorem from_high (k n : Nat) (hk : k < n) (hM : n < M) : from_ k n * n / M = k := by
  have h1 := (from_spec k n (from_ k n) (by omega)).1 (Nat.le_refl _)
  have h2 : ¬ (k + 1 ≤ from_ k n * n / M) := by
    rw [Nat.le_div_iff_mul_le (by decide)]
    have : from_ k n * n ≤ k * M + (n - 1) := Nat.div_mul_le_self _ _
    rw [Nat.succ_mul]
    omega
  omega
theorem from_pred (k n : Nat) (hk : k < n) (hM : n < M) (h0 : 0 < k) : 0 < from_ k n ∧ (from_ k n - 1) * n / M = k - 1 := by
  have hp : 0 < from_ k n := by
    rcases Nat.eq_zero_or_pos (from_ k n) with h | h
    · have := (from_spec k n 0 (by omega)).1 (by omega)
      simp at this
      omega
    · exact h
  refine ⟨hp, ?_⟩
  have h1 : ¬ (k ≤ (from_ k n - 1) * n / M) := fun h => by
    have := (from_spec k n (from_ k n - 1) (by omega)).2 h
    omega
  have h2 : k - 1 ≤ (from_ k n - 1) * n / M := by
    rw [Nat.le_div_iff_mul_le (by decide)]
    have h3 := (from_spec k n (from_ k n) (by omega)).1 (Nat.le_refl _)
    rw [Nat.le_div_iff_mul_le (by decide)] at h3
    rw [Nat.sub_mul, Nat.sub_mul]
    omega
  omega
theorem from_zero (n : Nat) (hn : 0 < n) : from_ 0 n = 0 := by
  unfold from_
  exact Nat.div_eq_of_lt (by omega)

theorem product_high (u n : Nat) (hu : u < M) (hn : n < M) :
    (u % 4294967296) * (n % 4294967296) < M ∧
    (u / 4294967296) * (n % 4294967296) + (u % 4294967296) * (n % 4294967296) / 4294967296 < M ∧
    (u % 4294967296) * (n / 4294967296) + ((u / 4294967296) * (n % 4294967296) + (u % 4294967296) * (n % 4294967296) / 4294967296) % 4294967296 < M ∧
    (u / 4294967296) * (n / 4294967296) + ((u / 4294967296) * (n % 4294967296) + (u % 4294967296) * (n % 4294967296) / 4294967296) / 4294967296 +
      ((u % 4294967296) * (n / 4294967296) + ((u / 4294967296) * (n % 4294967296) + (u % 4294967296) * (n % 4294967296) / 4294967296) % 4294967296) / 4294967296 = u * n / M := by
  unfold M at *
  have split : (u / 4294967296 * 4294967296 + u % 4294967296) * (n / 4294967296 * 4294967296 + n % 4294967296) = (u / 4294967296) * (n / 4294967296) * (4294967296 * 4294967296) + ((u / 4294967296) * (n % 4294967296) + (u % 4294967296) * (n / 4294967296)) * 4294967296 + (u % 4294967296) * (n % 4294967296) := by
    generalize u / 4294967296 = a
    generalize u % 4294967296 = b
    generalize n / 4294967296 = c
    generalize n % 4294967296 = d
    rw [Nat.add_mul, Nat.mul_add, Nat.mul_add, Nat.mul_mul_mul_comm, Nat.mul_right_comm a 4294967296 d, ← Nat.mul_assoc b c 4294967296, Nat.add_mul]
    omega
  have e : u * n = _ := (by rw [Nat.div_add_mod' u 4294967296, Nat.div_add_mod' n 4294967296] : u * n = (u / 4294967296 * 4294967296 + u % 4294967296) * (n / 4294967296 * 4294967296 + n % 4294967296)).trans split
  have le {a b : Nat} (ha : a ≤ 4294967295) (hb : b ≤ 4294967295) : a * b ≤ 18446744065119617025 := Nat.mul_le_mul ha hb
  have ha := le (a := u / 4294967296) (b := n / 4294967296) (by omega) (by omega)
  have hb := le (a := u / 4294967296) (b := n % 4294967296) (by omega) (by omega)
  have hc := le (a := u % 4294967296) (b := n / 4294967296) (by omega) (by omega)
  have hd := le (a := u % 4294967296) (b := n % 4294967296) (by omega) (by omega)
  rw [e]
  generalize (u / 4294967296) * (n / 4294967296) = a at *
  generalize (u / 4294967296) * (n % 4294967296) = b at *
  generalize (u % 4294967296) * (n / 4294967296) = c at *
  generalize (u % 4294967296) * (n % 4294967296) = d at *
  refine ⟨by omega, by omega, by omega, by omega⟩

end Go.Proofs.YtlcgkdhcdldlfaaDoor.PureDraw
