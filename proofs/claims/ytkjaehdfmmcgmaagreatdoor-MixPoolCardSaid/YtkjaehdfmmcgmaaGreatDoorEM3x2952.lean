/- What functions of the given program do, one after the other, told by that layer. -/
import Derived.Test.YtkjaehdfmmcgmaaGreatDoorEM1x8434
import Derived.Test.YtkjaehdfmmcgmaaGreatDoorEHead
/- Primes: Fermat's little theorem, and how a number is shown to be prime. -/
namespace Go.Cv
set_option maxRecDepth 10000

def Prm (p : Nat) : Prop := 2 ≤ p ∧ ∀ d, d ∣ p → d = 1 ∨ d = p
theorem Prm.cop {p a : Nat} (h : Prm p) (ha : ¬ p ∣ a) : Nat.gcd p a = 1 := by
  rcases h.2 _ (Nat.gcd_dvd_left p a) with h1 | h1
  · exact h1
  · exact absurd (h1 ▸ Nat.gcd_dvd_right p a) ha
theorem Prm.mul {p a b : Nat} (h : Prm p) (hd : p ∣ a * b) : p ∣ a ∨ p ∣ b := by
  by_cases ha : p ∣ a
  · exact .inl ha
  · exact .inr (Nat.Coprime.dvd_of_dvd_mul_left (h.cop ha) hd)
theorem exists_prm : ∀ n : Nat, 2 ≤ n → ∃ p, Prm p ∧ p ∣ n := by
  intro n
  induction n using Nat.strongRecOn with
  | _ n ih =>
    intro hn
    by_cases h : ∃ d, d ∣ n ∧ d ≠ 1 ∧ d ≠ n
    · obtain ⟨d, hd, h1, h2⟩ := h
      have hle := Nat.le_of_dvd (by omega) hd
      have h0 : d ≠ 0 := fun e => by subst e; simp at hd; omega
      obtain ⟨p, hp, hpd⟩ := ih d (by omega) (by omega)
      exact ⟨p, hp, Nat.dvd_trans hpd hd⟩
    · refine ⟨n, ⟨hn, fun d hd => ?_⟩, Nat.dvd_refl n⟩
      by_cases h1 : d = 1
      · exact .inl h1
      · exact .inr (Classical.byContradiction fun h2 => h ⟨d, hd, h1, h2⟩)

/-! Binomials. -/
def chs : Nat → Nat → Nat
  | _, 0 => 1
  | 0, _ + 1 => 0
  | n + 1, k + 1 => chs n k + chs n (k + 1)
theorem chs_big : ∀ (n k : Nat), n < k → chs n k = 0
  | _, 0, h => by omega
  | 0, k + 1, _ => rfl
  | n + 1, k + 1, h => by rw [chs, chs_big n k (by omega), chs_big n (k + 1) (by omega)]
theorem chs_self : ∀ n : Nat, chs n n = 1
  | 0 => rfl
  | n + 1 => by rw [chs, chs_self n, chs_big n (n + 1) (by omega)]
theorem chs_absorb : ∀ (n k : Nat), (k + 1) * chs (n + 1) (k + 1) = (n + 1) * chs n k
  | 0, 0 => rfl
  | 0, k + 1 => by simp [chs]
  | n + 1, 0 => by
    have := chs_absorb n 0
    have z : ∀ m, chs m 0 = 1 := fun m => by cases m <;> rfl
    rw [z] at this ⊢
    rw [show chs (n + 1 + 1) (0 + 1) = chs (n + 1) 0 + chs (n + 1) (0 + 1) from rfl, z]
    omega
  | n + 1, k + 1 => by
    have h1 := chs_absorb n k
    have h2 := chs_absorb n (k + 1)
    rw [chs, Nat.mul_add, h2]
    rw [show (k + 1 + 1) * chs (n + 1) (k + 1) = (k + 1) * chs (n + 1) (k + 1) + chs (n + 1) (k + 1) by rw [Nat.succ_mul], h1]
    rw [show chs (n + 1) (k + 1) = chs n k + chs n (k + 1) from rfl]
    simp only [Nat.add_mul, Nat.mul_add]
    omega
theorem chs_dvd {p k : Nat} (hp : Prm p) (h1 : 1 ≤ k) (h2 : k < p) : p ∣ chs p k := by
  obtain ⟨m, rfl⟩ : ∃ m, p = m + 1 := ⟨p - 1, by omega⟩
  obtain ⟨j, rfl⟩ : ∃ j, k = j + 1 := ⟨k - 1, by omega⟩
  have h := chs_absorb m j
  have hd : m + 1 ∣ (j + 1) * chs (m + 1) (j + 1) := ⟨_, h⟩
  rcases hp.mul hd with h3 | h3
  · have := Nat.le_of_dvd (by omega) h3
    omega
  · exact h3
/-- The first so many summands of (x + 1) to the n. -/
def bsum (n x : Nat) : Nat → Nat
  | 0 => 0
  | k + 1 => bsum n x k + chs n k * x ^ k
theorem bsum_succ (n x : Nat) : ∀ m : Nat, bsum (n + 1) x (m + 1) = bsum n x (m + 1) + x * bsum n x m
  | 0 => by simp [bsum, chs]
  | m + 1 => by
    have ih := bsum_succ n x m
    rw [bsum, ih, show bsum n x (m + 1 + 1) = bsum n x (m + 1) + chs n (m + 1) * x ^ (m + 1) from rfl, show chs (n + 1) (m + 1) = chs n m + chs n (m + 1) from rfl]
    rw [show x * bsum n x (m + 1) = x * bsum n x m + chs n m * x ^ (m + 1) by rw [bsum, Nat.mul_add, Nat.pow_succ]; congr 1; rw [Nat.mul_left_comm, Nat.mul_comm x]]
    rw [Nat.add_mul]
    omega
theorem bsum_all (x : Nat) : ∀ n : Nat, bsum n x (n + 1) = (x + 1) ^ n
  | 0 => by simp [bsum, chs]
  | n + 1 => by
    have ih := bsum_all x n
    have e : bsum n x (n + 1 + 1) = bsum n x (n + 1) := by rw [bsum, chs_big n (n + 1) (by omega)]; simp
    rw [bsum_succ, e, ih, Nat.pow_succ, Nat.mul_add, Nat.mul_one, Nat.mul_comm x, Nat.add_comm]
theorem bsum_mod {p x : Nat} (hp : Prm p) : ∀ m : Nat, m < p → bsum p x (m + 1) % p = 1 % p
  | 0, _ => by simp [bsum, chs]
  | m + 1, h => by
    have ih := bsum_mod (x := x) hp m (by omega)
    obtain ⟨c, hc⟩ := chs_dvd hp (show 1 ≤ m + 1 by omega) h
    rw [bsum, hc, Nat.mul_assoc, Nat.add_mul_mod_self_left]
    exact ih
theorem fermat {p : Nat} (hp : Prm p) : ∀ a : Nat, a ^ p % p = a % p
  | 0 => by
    have := hp.1
    rw [Nat.zero_pow (by omega)]
  | a + 1 => by
    have ih := fermat hp a
    have h2 := hp.1
    obtain ⟨m, rfl⟩ : ∃ m, p = m + 1 := ⟨p - 1, by omega⟩
    have e := bsum_all a (m + 1)
    rw [bsum, chs_self, Nat.one_mul] at e
    rw [← e, Nat.add_mod, bsum_mod hp m (by omega), ih, ← Nat.add_mod, Nat.add_comm]
theorem fermat1 {p a : Nat} (hp : Prm p) (ha : ¬ p ∣ a) : a ^ (p - 1) % p = 1 := by
  have h2 := hp.1
  have h := fermat hp a
  obtain ⟨m, rfl⟩ : ∃ m, p = m + 1 := ⟨p - 1, by omega⟩
  simp only [Nat.add_sub_cancel]
  have h0 : (a ^ (m + 1) - a) % (m + 1) = 0 := Nat.sub_mod_eq_zero_of_mod_eq h
  have e : a ^ (m + 1) - a = a * (a ^ m - 1) := by rw [Nat.mul_sub, Nat.mul_one, Nat.pow_succ, Nat.mul_comm]
  rw [e] at h0
  have hd : m + 1 ∣ a ^ m - 1 := by
    rcases hp.mul (Nat.dvd_of_mod_eq_zero h0) with h3 | h3
    · exact absurd h3 ha
    · exact h3
  have hpos : 0 < a ^ m := Nat.pow_pos (Nat.pos_of_ne_zero fun e => ha (e ▸ Nat.dvd_zero _))
  obtain ⟨c, hc⟩ := hd
  have e2 : a ^ m = 1 + (m + 1) * c := by omega
  rw [e2, Nat.add_mul_mod_self_left, Nat.mod_eq_of_lt (by omega)]

/-! Pocklington. -/
theorem pow_one_gcd {p b : Nat} (m n : Nat) (h2 : 2 ≤ p) (hm : b ^ m % p = 1) (hn : b ^ n % p = 1) : b ^ Nat.gcd m n % p = 1 := by
  induction m, n using Nat.gcd.induction with
  | H0 n => rw [Nat.gcd_zero_left]; exact hn
  | H1 m n _ ih =>
    rw [Nat.gcd_rec]
    refine ih ?_ hm
    have e : b ^ n = (b ^ m) ^ (n / m) * b ^ (n % m) := by rw [← Nat.pow_mul, ← Nat.pow_add, Nat.div_add_mod]
    rw [e, Nat.mul_mod, Nat.pow_mod, hm, Nat.one_pow, Nat.mod_eq_of_lt (show 1 < p by omega), Nat.one_mul, Nat.mod_mod] at hn
    exact hn
/-- Powers modulo a number. -/
def pmod (n a : Nat) : Nat → Nat → Nat
  | 0, _ => 1 % n
  | f + 1, e => let h := pmod n a f (e / 2); if e % 2 = 1 then h * h % n * a % n else h * h % n
theorem pmod_eq (n a : Nat) : ∀ (f e : Nat), e < 2 ^ f → pmod n a f e = a ^ e % n
  | 0, e, h => by
    have : e = 0 := by simpa using h
    subst this
    rfl
  | f + 1, e, h => by
    have ih := pmod_eq n a f (e / 2) (by rw [Nat.pow_succ] at h; omega)
    have e0 : e = e / 2 + e / 2 + e % 2 := by omega
    unfold pmod
    simp only [ih]
    rcases Nat.mod_two_eq_zero_or_one e with h1 | h1
    · rw [if_neg (by omega)]
      rw [← Nat.mul_mod, ← Nat.pow_add, show e / 2 + e / 2 = e by omega]
    · rw [if_pos h1]
      rw [← Nat.mul_mod, ← Nat.pow_add, Nat.mod_mul_mod, ← Nat.pow_succ, show (e / 2 + e / 2).succ = e by omega]
theorem pock {N r a p : Nat} (hr : Prm r) (hd : r ∣ N - 1) (_hN : 2 ≤ N) (h1 : a ^ (N - 1) % N = 1) (h2 : Nat.gcd (a ^ ((N - 1) / r) % N - 1) N = 1) (hp : Prm p) (hpN : p ∣ N) : r ∣ p - 1 := by
  have hp2 := hp.1
  have h1p : a ^ (N - 1) % p = 1 := by
    rw [← Nat.mod_mod_of_dvd _ hpN, h1]
    exact Nat.mod_eq_of_lt (by omega)
  obtain ⟨b, hb⟩ : ∃ b, b = a ^ ((N - 1) / r) := ⟨_, rfl⟩
  have hbr : b ^ r % p = 1 := by rw [hb, ← Nat.pow_mul, Nat.div_mul_cancel hd]; exact h1p
  have hpb : ¬ p ∣ b := by
    intro hx
    have h3 : p ∣ b ^ r := Nat.dvd_trans hx (by obtain ⟨r', rfl⟩ : ∃ r', r = r' + 1 := ⟨r - 1, by have := hr.1; omega⟩; exact ⟨b ^ r', by rw [Nat.pow_succ, Nat.mul_comm]⟩)
    rw [Nat.mod_eq_zero_of_dvd h3] at hbr
    omega
  apply Classical.byContradiction
  intro hn
  have hg : Nat.gcd r (p - 1) = 1 := hr.cop hn
  have h4 := pow_one_gcd r (p - 1) hp2 hbr (fermat1 hp hpb)
  rw [hg, Nat.pow_one] at h4
  rw [← hb] at h2
  have h5 : p ∣ b % N - 1 := by
    have e : b % N % p = 1 := by rw [Nat.mod_mod_of_dvd _ hpN]; exact h4
    have h6 : (b % N - 1) % p = 0 := Nat.sub_mod_eq_zero_of_mod_eq (by rw [e, Nat.mod_eq_of_lt (by omega)])
    exact Nat.dvd_of_mod_eq_zero h6
  have h7 := Nat.dvd_gcd h5 hpN
  rw [h2] at h7
  have := Nat.le_of_dvd (by omega) h7
  omega
/-- A number is prime if all its prime divisors are above its root. -/
theorem prm_of {N F : Nat} (hN : 2 ≤ N) (hF : N < (F + 1) * (F + 1)) (h : ∀ p, Prm p → p ∣ N → F ∣ p - 1) : Prm N := by
  refine ⟨hN, fun d hd => ?_⟩
  apply Classical.byContradiction
  intro hn
  have h1 : d ≠ 1 := fun e => hn (.inl e)
  have h2 : d ≠ N := fun e => hn (.inr e)
  obtain ⟨c, hc⟩ := hd
  have hd0 : d ≠ 0 := fun e => by subst e; omega
  have hc0 : c ≠ 0 := fun e => by subst e; omega
  have hc1 : c ≠ 1 := fun e => by subst e; omega
  have big : ∀ x, 2 ≤ x → x ∣ N → F + 1 ≤ x := by
    intro x hx hxN
    obtain ⟨p, hp, hpx⟩ := exists_prm x hx
    have h3 := Nat.le_of_dvd (by have := hp.1; omega) (h p hp (Nat.dvd_trans hpx hxN))
    have h4 := Nat.le_of_dvd (by omega) hpx
    have := hp.1
    omega
  have b1 := big d (by omega) ⟨c, hc⟩
  have b2 := big c (by omega) ⟨d, by rw [hc, Nat.mul_comm]⟩
  have := Nat.mul_le_mul b1 b2
  omega
/-- Small ones, by trial. -/
def tri (n : Nat) : Nat → Nat → Bool
  | 0, _ => true
  | f + 1, d => !(n % d == 0) && tri n f (d + 1)
theorem tri_spec (n : Nat) : ∀ (f d : Nat), tri n f d = true → ∀ x, d ≤ x → x < d + f → ¬ x ∣ n
  | 0, _, _, x, h1, h2 => by omega
  | f + 1, d, h, x, h1, h2 => by
    rw [tri, Bool.and_eq_true] at h
    by_cases hx : x = d
    · subst hx
      intro hd
      rw [Nat.mod_eq_zero_of_dvd hd] at h
      simp at h
    · exact tri_spec n f (d + 1) h.2 x (by omega) (by omega)
theorem prm_tri {n f : Nat} (hn : 2 ≤ n) (h : tri n f 2 = true) (hf : n < (f + 2) * (f + 2)) : Prm n := by
  refine ⟨hn, fun d hd => ?_⟩
  apply Classical.byContradiction
  intro hx
  obtain ⟨c, hc⟩ := hd
  have h1 : d ≠ 1 := fun e => hx (.inl e)
  have h2 : d ≠ n := fun e => hx (.inr e)
  have hd0 : d ≠ 0 := fun e => by subst e; omega
  have hc0 : c ≠ 0 := fun e => by subst e; omega
  have hc1 : c ≠ 1 := fun e => by subst e; omega
  have b1 : f + 2 ≤ d := Classical.byContradiction fun hl => tri_spec n f 2 h d (by omega) (by omega) ⟨c, hc⟩
  have b2 : f + 2 ≤ c := Classical.byContradiction fun hl => tri_spec n f 2 h c (by omega) (by omega) ⟨d, by rw [hc, Nat.mul_comm]⟩
  have := Nat.mul_le_mul b1 b2
  omega
theorem pock1 {N r : Nat} (a f : Nat) (hr : Prm r) (hd : (N - 1) % r = 0) (hN : 2 ≤ N) (hf : N < 2 ^ f) (h1 : pmod N a f (N - 1) = 1) (h2 : Nat.gcd (pmod N a f ((N - 1) / r) - 1) N = 1) {p : Nat} (hp : Prm p) (hpN : p ∣ N) : r ∣ p - 1 := by
  have e1 : N - 1 < 2 ^ f := by omega
  have e2 : (N - 1) / r < 2 ^ f := Nat.lt_of_le_of_lt (Nat.div_le_self _ _) e1
  rw [pmod_eq _ _ _ _ e1] at h1
  rw [pmod_eq _ _ _ _ e2] at h2
  exact pock hr (Nat.dvd_of_mod_eq_zero hd) hN h1 h2 hp hpN
def n23 : Nat := 8574133
def n51 : Nat := 1919519569386763
def n116 : Nat := 75445702479781427272750846543864801
def n235 : Nat := 74058212732561358302231226437062788676166966415465897661863160754340907
theorem prm_127 : Prm 127 := prm_tri (f := 10) (by decide) (by decide +kernel) (by decide)
theorem prm_57467 : Prm 57467 := prm_tri (f := 240) (by decide) (by decide +kernel) (by decide)
theorem prm_75707 : Prm 75707 := prm_tri (f := 280) (by decide) (by decide +kernel) (by decide)
theorem prm_n23 : Prm n23 := prm_tri (f := 2940) (by decide +kernel) (by decide +kernel) (by decide +kernel)
theorem two_div {a b x : Nat} (hc : Nat.gcd a b = 1) (h1 : a ∣ x) (h2 : b ∣ x) : a * b ∣ x := Nat.Coprime.mul_dvd_of_dvd_of_dvd hc h1 h2
theorem prm_n51 : Prm n51 := prm_of (F := n23 * 127) (by decide +kernel) (by decide +kernel) fun _ hp hd => two_div (by decide +kernel) (pock1 2 51 prm_n23 (by decide +kernel) (by decide +kernel) (by decide +kernel) (by decide +kernel) (by decide +kernel) hp hd) (pock1 2 51 prm_127 (by decide +kernel) (by decide +kernel) (by decide +kernel) (by decide +kernel) (by decide +kernel) hp hd)
theorem prm_n116 : Prm n116 := prm_of (F := n51 * 75707) (by decide +kernel) (by decide +kernel) fun _ hp hd => two_div (by decide +kernel) (pock1 2 116 prm_n51 (by decide +kernel) (by decide +kernel) (by decide +kernel) (by decide +kernel) (by decide +kernel) hp hd) (pock1 2 116 prm_75707 (by decide +kernel) (by decide +kernel) (by decide +kernel) (by decide +kernel) (by decide +kernel) hp hd)
theorem prm_n235 : Prm n235 := prm_of (F := n116 * 57467) (by decide +kernel) (by decide +kernel) fun _ hp hd => two_div (by decide +kernel) (pock1 2 236 prm_n116 (by decide +kernel) (by decide +kernel) (by decide +kernel) (by decide +kernel) (by decide +kernel) hp hd) (pock1 2 236 prm_57467 (by decide +kernel) (by decide +kernel) (by decide +kernel) (by decide +kernel) (by decide +kernel) hp hd)
theorem prm_q : Prm q := prm_of (F := n235) (by decide +kernel) (by decide +kernel) fun _ hp hd => pock1 2 255 prm_n235 (by decide +kernel) (by decide +kernel) (by decide +kernel) (by decide +kernel) (by decide +kernel) hp hd
end Go.Cv

/- The field of the numbers modulo q. -/
namespace Go.Cv
set_option maxRecDepth 10000
instance : NeZero q := ⟨by decide +kernel⟩
abbrev Fp := Fin q
theorem one_lt_q : 1 < q := by decide +kernel
/-- A number as an element. -/
def fp (n : Nat) : Fp := ⟨n % q, Nat.mod_lt _ q_pos⟩
theorem fp_val (n : Nat) : (fp n).val = n % q := rfl
theorem fp_self (a : Fp) : fp a.val = a := Fin.ext (Nat.mod_eq_of_lt a.isLt)
theorem fp_add (a b : Nat) : fp (addq a b) = fp a + fp b := by
  apply Fin.ext
  rw [Fin.val_add, fp_val, fp_val, fp_val, addq, Nat.mod_mod, ← Nat.add_mod]
theorem fp_mul (a b : Nat) : fp (mulq a b) = fp a * fp b := by
  apply Fin.ext
  rw [Fin.val_mul, fp_val, fp_val, fp_val, mulq, Nat.mod_mod, ← Nat.mul_mod]
theorem fp_sub (a b : Nat) : fp (subq a b) = fp a - fp b := by
  apply Fin.ext
  rw [Fin.sub_def]
  simp only [fp_val]
  rw [subq, Nat.mod_mod, Nat.add_comm, Nat.add_mod, ← Nat.mod_mod a, ← Nat.add_mod, Nat.mod_mod]
theorem fp_0 : fp 0 = 0 := by
  apply Fin.ext; rw [fp_val]; rfl
theorem fp_1 : fp 1 = 1 := by
  apply Fin.ext; rw [fp_val]; rfl
theorem fp_inj {a b : Nat} (ha : a < q) (hb : b < q) (h : fp a = fp b) : a = b := by
  have := congrArg Fin.val h
  rw [fp_val, fp_val, Nat.mod_eq_of_lt ha, Nat.mod_eq_of_lt hb] at this
  exact this
theorem one_ne : (1 : Fp) ≠ 0 := by
  intro h
  have := congrArg Fin.val h
  rw [← fp_1, ← fp_0, fp_val, fp_val] at this
  rw [Nat.mod_eq_of_lt one_lt_q, Nat.zero_mod] at this
  exact absurd this (by decide)
/-- Powers of elements. -/
def pw (a : Fp) : Nat → Fp
  | 0 => 1
  | n + 1 => pw a n * a
theorem pw_fp (a : Nat) : ∀ n : Nat, pw (fp a) n = fp (a ^ n)
  | 0 => by rw [pw, Nat.pow_zero, fp_1]
  | n + 1 => by
    rw [pw, pw_fp a n, ← fp_mul, Nat.pow_succ]
    apply Fin.ext
    rw [fp_val, fp_val, mulq, Nat.mod_mod]
theorem fermat_fp {a : Fp} (h : a ≠ 0) : pw a (q - 1) = 1 := by
  rw [← fp_self a, pw_fp, ← fp_1]
  apply Fin.ext
  rw [fp_val, fp_val, fermat1 prm_q, Nat.mod_eq_of_lt one_lt_q]
  intro hd
  have := Nat.le_of_dvd (Nat.pos_of_ne_zero fun e => h (by rw [← fp_self a, e, fp_0])) hd
  exact absurd a.isLt (by omega)
/-- The inverse; of 0 it is 0. -/
def inv (a : Fp) : Fp := pw a (q - 2)
theorem inv_mul {a : Fp} (h : a ≠ 0) : inv a * a = 1 := by
  rw [← fermat_fp h, inv]
  show pw a (q - 2 + 1) = pw a (q - 1)
  congr 1
theorem mul_inv {a : Fp} (h : a ≠ 0) : a * inv a = 1 := by rw [Fin.mul_comm]; exact inv_mul h
theorem pw_zero : ∀ n : Nat, 0 < n → pw 0 n = 0
  | n + 1, _ => by rw [pw, Fin.mul_zero]
theorem inv_zero : inv 0 = 0 := pw_zero _ (by decide +kernel)
theorem fp_inv (a : Nat) : fp (invq a) = inv (fp a) := by
  rw [inv, pw_fp]
  apply Fin.ext
  rw [fp_val, fp_val]
  exact invq_eq a
theorem mul_ne {a b : Fp} (ha : a ≠ 0) (hb : b ≠ 0) : a * b ≠ 0 := by
  intro h
  have h1 := inv_mul ha
  have h2 := inv_mul hb
  exact one_ne (by grind)
theorem mul_zero_of {a b : Fp} (h : a * b = 0) : a = 0 ∨ b = 0 := by
  by_cases ha : a = 0
  · exact .inl ha
  · exact .inr (Classical.byContradiction fun hb => mul_ne ha hb h)
theorem mul_cancel {a b c : Fp} (hc : c ≠ 0) (h : a * c = b * c) : a = b := by
  have h1 := mul_inv hc
  grind
theorem pw_mul (a : Fp) (m : Nat) : ∀ n : Nat, pw a (m * n) = pw (pw a m) n
  | 0 => rfl
  | n + 1 => by
    rw [pw, ← pw_mul a m n, Nat.mul_succ]
    have : ∀ k, pw a (m * n + k) = pw a (m * n) * pw a k := by
      intro k
      induction k with
      | zero => rw [Nat.add_zero, pw, Fin.mul_one]
      | succ k ih => rw [← Nat.add_assoc, pw, ih, pw]; grind
    exact this m
/-! Constants. -/
theorem two_ne : (2 : Fp) ≠ 0 := by
  intro h
  have := congrArg Fin.val h
  revert this
  decide +kernel
def cd : Fp := fp 37095705934669439343138083508754565189542113879843219016388785533085940283555
def ci : Fp := fp 19681161376707505956807079304988542015446066515923890162744021073123829784752
theorem ci_sq : ci * ci = -1 := by decide +kernel
theorem cd_eq : cd * 121666 = -121665 := by decide +kernel
theorem cd_pow : pmod q 37095705934669439343138083508754565189542113879843219016388785533085940283555 255 ((q - 1) / 2) = q - 1 := by decide +kernel
/-- d is no square. -/
theorem cd_nonsq (s : Fp) : s * s ≠ cd := by
  intro h
  have h1 : pw cd ((q - 1) / 2) = fp (q - 1) := by
    rw [cd, pw_fp]
    apply Fin.ext
    have e := pmod_eq q 37095705934669439343138083508754565189542113879843219016388785533085940283555 255 ((q - 1) / 2) (by decide +kernel)
    rw [cd_pow] at e
    rw [fp_val, fp_val, ← e]
    exact (Nat.mod_eq_of_lt (by decide +kernel)).symm
  have hs : s ≠ 0 := by
    rintro rfl
    rw [Fin.zero_mul] at h
    exact absurd h.symm (by decide +kernel)
  have h2 : pw s (2 * ((q - 1) / 2)) = 1 := by
    rw [show 2 * ((q - 1) / 2) = q - 1 by decide +kernel]
    exact fermat_fp hs
  rw [pw_mul, pw, pw, pw, Fin.one_mul, h, h1] at h2
  exact absurd h2 (by decide +kernel)
theorem cd_neg_nonsq (s : Fp) : s * s ≠ -cd := by
  intro h
  refine cd_nonsq (ci * s) ?_
  have := ci_sq
  grind
end Go.Cv

/- The curve's points: sums, multiples. -/
namespace Go.Cv
set_option maxRecDepth 10000
attribute [local irreducible] q cd ci inv
/-- Of two points on the curve the product that the sum divides by is no root of 1. -/
theorem compl0 {D x1 y1 x2 y2 e : Fp} (hD : ∀ s : Fp, s * s ≠ D) (h1 : x1 * x1 + y1 * y1 = 1 + D * (x1 * x1) * (y1 * y1)) (h2 : x2 * x2 + y2 * y2 = 1 + D * (x2 * x2) * (y2 * y2)) (he : e * e = 1) (ht : D * (x1 * x2 * y1 * y2) = e) : False := by
  have a1 : D * (x1 * x1) * (y1 * y1) * (D * (x2 * x2) * (y2 * y2)) = 1 := by
    have : (D * (x1 * x2 * y1 * y2)) * (D * (x1 * x2 * y1 * y2)) = 1 := by rw [ht, he]
    grind
  have a2 : D * (x1 * x1) * (y1 * y1) * (x2 * x2 + y2 * y2) = x1 * x1 + y1 * y1 := by
    rw [h2, h1]
    grind
  have e0 : e ≠ 0 := by
    rintro rfl
    rw [Fin.mul_zero] at he
    exact one_ne he.symm
  have k1 : (x1 + e * y1) * (x1 + e * y1) = D * ((x1 * y1 * (x2 + y2)) * (x1 * y1 * (x2 + y2))) := by
    have b1 : (x1 + e * y1) * (x1 + e * y1) = x1 * x1 + (e * e) * (y1 * y1) + 2 * (e * (x1 * y1)) := by grind
    have b2 : D * ((x1 * y1 * (x2 + y2)) * (x1 * y1 * (x2 + y2))) = D * (x1 * x1) * (y1 * y1) * (x2 * x2 + y2 * y2) + 2 * ((D * (x1 * x2 * y1 * y2)) * (x1 * y1)) := by grind
    rw [b1, b2, a2, ht, he]
    grind
  have k2 : (x1 - e * y1) * (x1 - e * y1) = D * ((x1 * y1 * (x2 - y2)) * (x1 * y1 * (x2 - y2))) := by
    have b1 : (x1 - e * y1) * (x1 - e * y1) = x1 * x1 + (e * e) * (y1 * y1) - 2 * (e * (x1 * y1)) := by grind
    have b2 : D * ((x1 * y1 * (x2 - y2)) * (x1 * y1 * (x2 - y2))) = D * (x1 * x1) * (y1 * y1) * (x2 * x2 + y2 * y2) - 2 * ((D * (x1 * x2 * y1 * y2)) * (x1 * y1)) := by grind
    rw [b1, b2, a2, ht, he]
    grind
  have nz : ∀ {v w : Fp}, v * v = D * (w * w) → w = 0 := by
    intro v w h
    apply Classical.byContradiction
    intro hw
    have hi := mul_inv hw
    refine hD (v * inv w) ?_
    have : (v * inv w) * (v * inv w) = (v * v) * (inv w * inv w) := by grind
    rw [this, h]
    have : D * (w * w) * (inv w * inv w) = D * ((w * inv w) * (w * inv w)) := by grind
    rw [this, hi]
    grind
  have n0 : x1 * y1 ≠ 0 := by
    intro h
    apply e0
    rw [← ht]
    have : D * (x1 * x2 * y1 * y2) = D * ((x1 * y1) * (x2 * y2)) := by grind
    rw [this, h, Fin.zero_mul, Fin.mul_zero]
  have n2 : y2 ≠ 0 := by
    rintro rfl
    apply e0
    rw [← ht, Fin.mul_zero, Fin.mul_zero]
  have s1 : x2 + y2 = 0 := (mul_zero_of (nz k1)).resolve_left n0
  have s2 : x2 - y2 = 0 := (mul_zero_of (nz k2)).resolve_left n0
  refine mul_ne two_ne n2 ?_
  grind

structure Pt where
  x : Fp
  y : Fp
  on : y * y - x * x = 1 + cd * (x * x) * (y * y)
theorem Pt.ext' {P Q : Pt} (hx : P.x = Q.x) (hy : P.y = Q.y) : P = Q := by
  cases P; cases Q
  cases hx; cases hy
  rfl
def Pt.t (P Q : Pt) : Fp := cd * (P.x * Q.x * P.y * Q.y)
theorem Pt.t_comm (P Q : Pt) : P.t Q = Q.t P := by unfold Pt.t; grind
theorem Pt.compl (P Q : Pt) {e : Fp} (he : e * e = 1) : P.t Q ≠ e := by
  intro ht
  have hi := ci_sq
  have h1 := P.on
  have h2 := Q.on
  refine compl0 (D := -cd) (x1 := ci * P.x) (y1 := P.y) (x2 := ci * Q.x) (y2 := Q.y) (e := e) cd_neg_nonsq ?_ ?_ he ?_
  · have : ci * P.x * (ci * P.x) = (ci * ci) * (P.x * P.x) := by grind
    rw [this, hi]
    grind
  · have : ci * Q.x * (ci * Q.x) = (ci * ci) * (Q.x * Q.x) := by grind
    rw [this, hi]
    grind
  · have : ci * P.x * (ci * Q.x) * P.y * Q.y = (ci * ci) * (P.x * Q.x * P.y * Q.y) := by grind
    rw [this, hi, ← ht]
    unfold Pt.t
    grind
theorem Pt.p (P Q : Pt) : 1 + P.t Q ≠ 0 := by
  intro h
  refine P.compl Q (e := -1) (by grind) ?_
  grind
theorem Pt.m (P Q : Pt) : 1 - P.t Q ≠ 0 := by
  intro h
  refine P.compl Q (e := 1) (by grind) ?_
  grind
theorem close_id {d x1 y1 x2 y2 : Fp} (h1 : y1 * y1 - x1 * x1 = 1 + d * (x1 * x1) * (y1 * y1)) (h2 : y2 * y2 - x2 * x2 = 1 + d * (x2 * x2) * (y2 * y2)) :
    (y1 * y2 + x1 * x2) * (y1 * y2 + x1 * x2) * ((1 + d * (x1 * x2 * y1 * y2)) * (1 + d * (x1 * x2 * y1 * y2))) - (x1 * y2 + x2 * y1) * (x1 * y2 + x2 * y1) * ((1 - d * (x1 * x2 * y1 * y2)) * (1 - d * (x1 * x2 * y1 * y2))) = (1 + d * (x1 * x2 * y1 * y2)) * (1 + d * (x1 * x2 * y1 * y2)) * ((1 - d * (x1 * x2 * y1 * y2)) * (1 - d * (x1 * x2 * y1 * y2))) + d * ((x1 * y2 + x2 * y1) * (x1 * y2 + x2 * y1)) * ((y1 * y2 + x1 * x2) * (y1 * y2 + x1 * x2)) := by
  grind
def Pt.add (P Q : Pt) : Pt where
  x := (P.x * Q.y + Q.x * P.y) * inv (1 + P.t Q)
  y := (P.y * Q.y + P.x * Q.x) * inv (1 - P.t Q)
  on := by
    have h := close_id P.on Q.on
    have hp := mul_inv (P.p Q)
    have hm := mul_inv (P.m Q)
    rw [← Pt.t] at h
    generalize inv (1 + P.t Q) = v at *
    generalize inv (1 - P.t Q) = w at *
    generalize P.t Q = t at *
    generalize P.x * Q.y + Q.x * P.y = N at *
    generalize P.y * Q.y + P.x * Q.x = M at *
    have e := congrArg (fun z => z * (v * v * (w * w))) h
    have e1 : (M * M * ((1 + t) * (1 + t)) - N * N * ((1 - t) * (1 - t))) * (v * v * (w * w)) = (M * w) * (M * w) * (((1 + t) * v) * ((1 + t) * v)) - (N * v) * (N * v) * (((1 - t) * w) * ((1 - t) * w)) := by grind
    have e2 : ((1 + t) * (1 + t) * ((1 - t) * (1 - t)) + cd * (N * N) * (M * M)) * (v * v * (w * w)) = ((1 + t) * v) * ((1 + t) * v) * (((1 - t) * w) * ((1 - t) * w)) + cd * ((N * v) * (N * v)) * ((M * w) * (M * w)) := by grind
    rw [e1, e2, hp, hm] at e
    grind
theorem Pt.add_x (P Q : Pt) : (P.add Q).x * (1 + P.t Q) = P.x * Q.y + Q.x * P.y := by
  show (P.x * Q.y + Q.x * P.y) * inv (1 + P.t Q) * (1 + P.t Q) = _
  rw [Fin.mul_assoc, inv_mul (P.p Q), Fin.mul_one]
theorem Pt.add_y (P Q : Pt) : (P.add Q).y * (1 - P.t Q) = P.y * Q.y + P.x * Q.x := by
  show (P.y * Q.y + P.x * Q.x) * inv (1 - P.t Q) * (1 - P.t Q) = _
  rw [Fin.mul_assoc, inv_mul (P.m Q), Fin.mul_one]
theorem Pt.add_comm (P Q : Pt) : P.add Q = Q.add P := by
  refine Pt.ext' ?_ ?_
  · show (P.x * Q.y + Q.x * P.y) * inv (1 + P.t Q) = (Q.x * P.y + P.x * Q.y) * inv (1 + Q.t P)
    rw [P.t_comm Q]
    grind
  · show (P.y * Q.y + P.x * Q.x) * inv (1 - P.t Q) = (Q.y * P.y + Q.x * P.x) * inv (1 - Q.t P)
    rw [P.t_comm Q]
    grind
def Pt.zero : Pt := ⟨0, 1, by grind⟩
theorem Pt.zero_add (P : Pt) : Pt.zero.add P = P := by
  have ht : Pt.zero.t P = 0 := by
    show cd * (0 * P.x * 1 * P.y) = 0
    grind
  refine Pt.ext' ?_ ?_
  · have h := Pt.zero.add_x P
    rw [ht, show Pt.zero.x = 0 from rfl, show Pt.zero.y = 1 from rfl] at h
    grind
  · have h := Pt.zero.add_y P
    rw [ht, show Pt.zero.x = 0 from rfl, show Pt.zero.y = 1 from rfl] at h
    grind
def Pt.neg (P : Pt) : Pt := ⟨-P.x, P.y, by have := P.on; grind⟩
theorem Pt.add_neg (P : Pt) : P.add P.neg = Pt.zero := by
  have ho := P.on
  have ht : P.t P.neg = -(cd * (P.x * P.x) * (P.y * P.y)) := by
    show cd * (P.x * -P.x * P.y * P.y) = _
    grind
  refine Pt.ext' ?_ ?_
  · refine mul_cancel (P.p P.neg) ?_
    rw [P.add_x, show P.neg.x = -P.x from rfl, show P.neg.y = P.y from rfl, show Pt.zero.x = 0 from rfl]
    grind
  · refine mul_cancel (P.m P.neg) ?_
    rw [P.add_y, ht, show P.neg.x = -P.x from rfl, show P.neg.y = P.y from rfl, show Pt.zero.y = 1 from rfl]
    grind
theorem sub_self' (a : Fp) : a - a = 0 := by grind
set_option maxHeartbeats 4000000 in
theorem assoc_x {d x1 y1 x2 y2 x3 y3 : Fp} (h1 : y1 * y1 - x1 * x1 = 1 + d * (x1 * x1) * (y1 * y1)) (h2 : y2 * y2 - x2 * x2 = 1 + d * (x2 * x2) * (y2 * y2)) (h3 : y3 * y3 - x3 * x3 = 1 + d * (x3 * x3) * (y3 * y3)) :
    ((x1 * y2 + x2 * y1) * (1 - (d * (x1 * x2 * y1 * y2))) * y3 + x3 * (y1 * y2 + x1 * x2) * (1 + (d * (x1 * x2 * y1 * y2)))) * ((1 + (d * (x2 * x3 * y2 * y3))) * (1 - (d * (x2 * x3 * y2 * y3))) + d * (x1 * (x2 * y3 + x3 * y2) * y1 * (y2 * y3 + x2 * x3))) = (x1 * (y2 * y3 + x2 * x3) * (1 + (d * (x2 * x3 * y2 * y3))) + (x2 * y3 + x3 * y2) * y1 * (1 - (d * (x2 * x3 * y2 * y3)))) * ((1 + (d * (x1 * x2 * y1 * y2))) * (1 - (d * (x1 * x2 * y1 * y2))) + d * ((x1 * y2 + x2 * y1) * x3 * (y1 * y2 + x1 * x2) * y3)) := by
  have e : ((x1 * y2 + x2 * y1) * (1 - (d * (x1 * x2 * y1 * y2))) * y3 + x3 * (y1 * y2 + x1 * x2) * (1 + (d * (x1 * x2 * y1 * y2)))) * ((1 + (d * (x2 * x3 * y2 * y3))) * (1 - (d * (x2 * x3 * y2 * y3))) + d * (x1 * (x2 * y3 + x3 * y2) * y1 * (y2 * y3 + x2 * x3))) - (x1 * (y2 * y3 + x2 * x3) * (1 + (d * (x2 * x3 * y2 * y3))) + (x2 * y3 + x3 * y2) * y1 * (1 - (d * (x2 * x3 * y2 * y3)))) * ((1 + (d * (x1 * x2 * y1 * y2))) * (1 - (d * (x1 * x2 * y1 * y2))) + d * ((x1 * y2 + x2 * y1) * x3 * (y1 * y2 + x1 * x2) * y3)) = (x1 * x2 * x2 * y2 * y2 * y2 * y3 * y3 * y3 * d + x1 * x2 * y2 * y2 * y2 * y2 * x3 * y3 * y3 * d + y1 * x2 * x2 * x2 * y2 * y2 * y3 * y3 * y3 * d + y1 * x2 * x2 * x2 * x2 * y2 * x3 * y3 * y3 * d - y1 * x2 * y2 * y2 * y2 * y2 * x3 * x3 * y3 * d - y1 * x2 * x2 * y2 * y2 * y2 * x3 * x3 * x3 * d - x1 * x2 * x2 * x2 * x2 * y2 * x3 * x3 * y3 * d - x1 * x2 * x2 * x2 * y2 * y2 * x3 * x3 * x3 * d - x1 * x2 * x2 * y2 * y2 * y2 * y3 * d - x1 * x2 * x2 * x2 * y2 * y2 * y2 * y2 * x3 * y3 * y3 * d * d - x1 * x2 * x2 * x2 * y2 * y2 * x3 * d - x1 * x2 * x2 * x2 * x2 * y2 * y2 * y2 * x3 * x3 * y3 * d * d - y1 * x2 * x2 * x2 * y2 * y2 * y3 * d + y1 * x2 * x2 * x2 * x2 * y2 * y2 * y2 * x3 * y3 * y3 * d * d - y1 * x2 * x2 * y2 * y2 * y2 * x3 * d + y1 * x2 * x2 * x2 * y2 * y2 * y2 * y2 * x3 * x3 * y3 * d * d) * ((y1 * y1 - x1 * x1) - (1 + d * (x1 * x1) * (y1 * y1))) + (x1 * y2 * x3 * x3 * y3 * y3 * y3 * d - x1 * x1 * y1 * x2 * y2 * y2 * x3 * x3 * y3 * y3 * y3 * d * d + y1 * x2 * x3 * x3 * y3 * y3 * y3 * d - x1 * y1 * y1 * x2 * x2 * y2 * x3 * x3 * y3 * y3 * y3 * d * d + y1 * y2 * x3 * x3 * x3 * y3 * y3 * d + x1 * y1 * y1 * x2 * y2 * y2 * x3 * x3 * x3 * y3 * y3 * d * d + x1 * x2 * x3 * x3 * x3 * y3 * y3 * d + x1 * x1 * y1 * x2 * x2 * y2 * x3 * x3 * x3 * y3 * y3 * d * d + x1 * x1 * x1 * y2 * x3 * x3 * y3 * y3 * y3 * d + x1 * x1 * x1 * x2 * x3 * x3 * x3 * y3 * y3 * d - y1 * y1 * y1 * x2 * x3 * x3 * y3 * y3 * y3 * d - y1 * y1 * y1 * y2 * x3 * x3 * x3 * y3 * y3 * d + x1 * x1 * y1 * x2 * x3 * x3 * y3 * y3 * y3 * d + x1 * y1 * y1 * y2 * y3 * y3 * y3 - x1 * x1 * x1 * y2 * y3 * y3 * y3 - x1 * y2 * y3 * y3 * y3 - x1 * y1 * y1 * y2 * x3 * x3 * y3 * y3 * y3 * d + y1 * y1 * y1 * x2 * y3 * y3 * y3 - x1 * x1 * y1 * x2 * y3 * y3 * y3 - y1 * x2 * y3 * y3 * y3 - x1 * y1 * y1 * x2 * x3 * x3 * x3 * y3 * y3 * d - y1 * y1 * y1 * y2 * x3 * x3 * x3 + x1 * x1 * y1 * y2 * x3 * x3 * x3 + y1 * y2 * x3 * x3 * x3 + x1 * x1 * y1 * y2 * x3 * x3 * x3 * y3 * y3 * d - x1 * y1 * y1 * x2 * x3 * x3 * x3 + x1 * x1 * x1 * x2 * x3 * x3 * x3 + x1 * x2 * x3 * x3 * x3 - x1 * y1 * y1 * y2 * y3 + x1 * x1 * x1 * y2 * y3 + x1 * y2 * y3 - x1 * y1 * y1 * x2 * y2 * y2 * x3 * y3 * y3 * d + x1 * x1 * x1 * x2 * y2 * y2 * x3 * y3 * y3 * d + x1 * x2 * y2 * y2 * x3 * y3 * y3 * d - x1 * y1 * y1 * x2 * x3 + x1 * x1 * x1 * x2 * x3 + x1 * x2 * x3 - x1 * y1 * y1 * x2 * x2 * y2 * x3 * x3 * y3 * d + x1 * x1 * x1 * x2 * x2 * y2 * x3 * x3 * y3 * d + x1 * x2 * x2 * y2 * x3 * x3 * y3 * d - y1 * y1 * y1 * x2 * y3 + x1 * x1 * y1 * x2 * y3 + y1 * x2 * y3 + y1 * y1 * y1 * x2 * x2 * y2 * x3 * y3 * y3 * d - x1 * x1 * y1 * x2 * x2 * y2 * x3 * y3 * y3 * d - y1 * x2 * x2 * y2 * x3 * y3 * y3 * d - y1 * y1 * y1 * y2 * x3 + x1 * x1 * y1 * y2 * x3 + y1 * y2 * x3 + y1 * y1 * y1 * x2 * y2 * y2 * x3 * x3 * y3 * d - x1 * x1 * y1 * x2 * y2 * y2 * x3 * x3 * y3 * d - y1 * x2 * y2 * y2 * x3 * x3 * y3 * d + x1 * y1 * y1 * x2 * x3 * y3 * y3 - x1 * x1 * x1 * x2 * x3 * y3 * y3 - x1 * x2 * x3 * y3 * y3 - x1 * y1 * y1 * y2 * x3 * x3 * y3 + x1 * x1 * x1 * y2 * x3 * x3 * y3 + x1 * y2 * x3 * x3 * y3 + y1 * y1 * y1 * y2 * x3 * y3 * y3 - x1 * x1 * y1 * y2 * x3 * y3 * y3 - y1 * y2 * x3 * y3 * y3 - y1 * y1 * y1 * x2 * x3 * x3 * y3 + x1 * x1 * y1 * x2 * x3 * x3 * y3 + y1 * x2 * x3 * x3 * y3) * ((y2 * y2 - x2 * x2) - (1 + d * (x2 * x2) * (y2 * y2))) + (x1 * y2 * y2 * y2 * y3 - x1 * x2 * x2 * y2 * y3 - x1 * y2 * y3 + x1 * x1 * y1 * x2 * y2 * y2 * y3 * d + y1 * x2 * y2 * y2 * y3 - y1 * x2 * x2 * x2 * y3 - y1 * x2 * y3 + x1 * y1 * y1 * x2 * x2 * y2 * y3 * d + y1 * y2 * y2 * y2 * x3 - y1 * x2 * x2 * y2 * x3 - y1 * y2 * x3 - x1 * y1 * y1 * x2 * y2 * y2 * x3 * d + x1 * x2 * y2 * y2 * x3 - x1 * x2 * x2 * x2 * x3 - x1 * x2 * x3 - x1 * x1 * y1 * x2 * x2 * y2 * x3 * d + x1 * x1 * x1 * y2 * y2 * y2 * y3 - x1 * x1 * x1 * x2 * x2 * y2 * y3 - x1 * x1 * x1 * y2 * y3 + x1 * x1 * x1 * x2 * y2 * y2 * x3 - x1 * x1 * x1 * x2 * x2 * x2 * x3 - x1 * x1 * x1 * x2 * x3 - y1 * y1 * y1 * x2 * y2 * y2 * y3 + y1 * y1 * y1 * x2 * x2 * x2 * y3 + y1 * y1 * y1 * x2 * y3 - y1 * y1 * y1 * y2 * y2 * y2 * x3 + y1 * y1 * y1 * x2 * x2 * y2 * x3 + y1 * y1 * y1 * y2 * x3 + x1 * x1 * y1 * x2 * y2 * y2 * y3 - x1 * x1 * y1 * x2 * x2 * x2 * y3 - x1 * x1 * y1 * x2 * y3 - x1 * y1 * y1 * y2 * y2 * y2 * y3 + x1 * y1 * y1 * x2 * x2 * y2 * y3 + x1 * y1 * y1 * y2 * y3 - x1 * y1 * y1 * x2 * y2 * y2 * x3 + x1 * y1 * y1 * x2 * x2 * x2 * x3 + x1 * y1 * y1 * x2 * x3 + x1 * x1 * y1 * y2 * y2 * y2 * x3 - x1 * x1 * y1 * x2 * x2 * y2 * x3 - x1 * x1 * y1 * y2 * x3) * ((y3 * y3 - x3 * x3) - (1 + d * (x3 * x3) * (y3 * y3))) := by clear h1 h2 h3; grind
  rw [h1, h2, h3, sub_self', sub_self', sub_self', Fin.mul_zero, Fin.mul_zero, Fin.mul_zero] at e
  grind
set_option maxHeartbeats 4000000 in
theorem assoc_y {d x1 y1 x2 y2 x3 y3 : Fp} (h1 : y1 * y1 - x1 * x1 = 1 + d * (x1 * x1) * (y1 * y1)) (h2 : y2 * y2 - x2 * x2 = 1 + d * (x2 * x2) * (y2 * y2)) (h3 : y3 * y3 - x3 * x3 = 1 + d * (x3 * x3) * (y3 * y3)) :
    ((y1 * y2 + x1 * x2) * (1 + (d * (x1 * x2 * y1 * y2))) * y3 + (x1 * y2 + x2 * y1) * (1 - (d * (x1 * x2 * y1 * y2))) * x3) * ((1 + (d * (x2 * x3 * y2 * y3))) * (1 - (d * (x2 * x3 * y2 * y3))) - d * (x1 * (x2 * y3 + x3 * y2) * y1 * (y2 * y3 + x2 * x3))) = (y1 * (y2 * y3 + x2 * x3) * (1 + (d * (x2 * x3 * y2 * y3))) + x1 * (x2 * y3 + x3 * y2) * (1 - (d * (x2 * x3 * y2 * y3)))) * ((1 + (d * (x1 * x2 * y1 * y2))) * (1 - (d * (x1 * x2 * y1 * y2))) - d * ((x1 * y2 + x2 * y1) * x3 * (y1 * y2 + x1 * x2) * y3)) := by
  have e : ((y1 * y2 + x1 * x2) * (1 + (d * (x1 * x2 * y1 * y2))) * y3 + (x1 * y2 + x2 * y1) * (1 - (d * (x1 * x2 * y1 * y2))) * x3) * ((1 + (d * (x2 * x3 * y2 * y3))) * (1 - (d * (x2 * x3 * y2 * y3))) - d * (x1 * (x2 * y3 + x3 * y2) * y1 * (y2 * y3 + x2 * x3))) - (y1 * (y2 * y3 + x2 * x3) * (1 + (d * (x2 * x3 * y2 * y3))) + x1 * (x2 * y3 + x3 * y2) * (1 - (d * (x2 * x3 * y2 * y3)))) * ((1 + (d * (x1 * x2 * y1 * y2))) * (1 - (d * (x1 * x2 * y1 * y2))) - d * ((x1 * y2 + x2 * y1) * x3 * (y1 * y2 + x1 * x2) * y3)) = (y1 * x2 * x2 * y2 * y2 * y2 * y3 * y3 * y3 * d + y1 * x2 * y2 * y2 * y2 * y2 * x3 * y3 * y3 * d + x1 * x2 * x2 * x2 * y2 * y2 * y3 * y3 * y3 * d + x1 * x2 * x2 * x2 * x2 * y2 * x3 * y3 * y3 * d - x1 * x2 * y2 * y2 * y2 * y2 * x3 * x3 * y3 * d - x1 * x2 * x2 * y2 * y2 * y2 * x3 * x3 * x3 * d - y1 * x2 * x2 * x2 * x2 * y2 * x3 * x3 * y3 * d - y1 * x2 * x2 * x2 * y2 * y2 * x3 * x3 * x3 * d - y1 * x2 * x2 * y2 * y2 * y2 * y3 * d - y1 * x2 * x2 * x2 * y2 * y2 * y2 * y2 * x3 * y3 * y3 * d * d - y1 * x2 * x2 * x2 * y2 * y2 * x3 * d - y1 * x2 * x2 * x2 * x2 * y2 * y2 * y2 * x3 * x3 * y3 * d * d - x1 * x2 * x2 * x2 * y2 * y2 * y3 * d + x1 * x2 * x2 * x2 * x2 * y2 * y2 * y2 * x3 * y3 * y3 * d * d - x1 * x2 * x2 * y2 * y2 * y2 * x3 * d + x1 * x2 * x2 * x2 * y2 * y2 * y2 * y2 * x3 * x3 * y3 * d * d) * ((y1 * y1 - x1 * x1) - (1 + d * (x1 * x1) * (y1 * y1))) + (y1 * y2 * x3 * x3 * y3 * y3 * y3 * d + x1 * y1 * y1 * x2 * y2 * y2 * x3 * x3 * y3 * y3 * y3 * d * d + x1 * x2 * x3 * x3 * y3 * y3 * y3 * d + x1 * x1 * y1 * x2 * x2 * y2 * x3 * x3 * y3 * y3 * y3 * d * d + x1 * y2 * x3 * x3 * x3 * y3 * y3 * d - x1 * x1 * y1 * x2 * y2 * y2 * x3 * x3 * x3 * y3 * y3 * d * d + y1 * x2 * x3 * x3 * x3 * y3 * y3 * d - x1 * y1 * y1 * x2 * x2 * y2 * x3 * x3 * x3 * y3 * y3 * d * d - y1 * y1 * y1 * y2 * x3 * x3 * y3 * y3 * y3 * d - y1 * y1 * y1 * x2 * x3 * x3 * x3 * y3 * y3 * d + x1 * x1 * x1 * x2 * x3 * x3 * y3 * y3 * y3 * d + x1 * x1 * x1 * y2 * x3 * x3 * x3 * y3 * y3 * d - x1 * y1 * y1 * x2 * x3 * x3 * y3 * y3 * y3 * d + y1 * y1 * y1 * y2 * y3 * y3 * y3 - x1 * x1 * y1 * y2 * y3 * y3 * y3 - y1 * y2 * y3 * y3 * y3 + x1 * x1 * y1 * y2 * x3 * x3 * y3 * y3 * y3 * d + x1 * y1 * y1 * x2 * y3 * y3 * y3 - x1 * x1 * x1 * x2 * y3 * y3 * y3 - x1 * x2 * y3 * y3 * y3 + x1 * x1 * y1 * x2 * x3 * x3 * x3 * y3 * y3 * d - x1 * y1 * y1 * y2 * x3 * x3 * x3 + x1 * x1 * x1 * y2 * x3 * x3 * x3 + x1 * y2 * x3 * x3 * x3 - x1 * y1 * y1 * y2 * x3 * x3 * x3 * y3 * y3 * d - y1 * y1 * y1 * x2 * x3 * x3 * x3 + x1 * x1 * y1 * x2 * x3 * x3 * x3 + y1 * x2 * x3 * x3 * x3 - y1 * y1 * y1 * y2 * y3 + x1 * x1 * y1 * y2 * y3 + y1 * y2 * y3 - y1 * y1 * y1 * x2 * y2 * y2 * x3 * y3 * y3 * d + x1 * x1 * y1 * x2 * y2 * y2 * x3 * y3 * y3 * d + y1 * x2 * y2 * y2 * x3 * y3 * y3 * d - y1 * y1 * y1 * x2 * x3 + x1 * x1 * y1 * x2 * x3 + y1 * x2 * x3 - y1 * y1 * y1 * x2 * x2 * y2 * x3 * x3 * y3 * d + x1 * x1 * y1 * x2 * x2 * y2 * x3 * x3 * y3 * d + y1 * x2 * x2 * y2 * x3 * x3 * y3 * d - x1 * y1 * y1 * x2 * y3 + x1 * x1 * x1 * x2 * y3 + x1 * x2 * y3 + x1 * y1 * y1 * x2 * x2 * y2 * x3 * y3 * y3 * d - x1 * x1 * x1 * x2 * x2 * y2 * x3 * y3 * y3 * d - x1 * x2 * x2 * y2 * x3 * y3 * y3 * d - x1 * y1 * y1 * y2 * x3 + x1 * x1 * x1 * y2 * x3 + x1 * y2 * x3 + x1 * y1 * y1 * x2 * y2 * y2 * x3 * x3 * y3 * d - x1 * x1 * x1 * x2 * y2 * y2 * x3 * x3 * y3 * d - x1 * x2 * y2 * y2 * x3 * x3 * y3 * d + y1 * y1 * y1 * x2 * x3 * y3 * y3 - x1 * x1 * y1 * x2 * x3 * y3 * y3 - y1 * x2 * x3 * y3 * y3 - y1 * y1 * y1 * y2 * x3 * x3 * y3 + x1 * x1 * y1 * y2 * x3 * x3 * y3 + y1 * y2 * x3 * x3 * y3 + x1 * y1 * y1 * y2 * x3 * y3 * y3 - x1 * x1 * x1 * y2 * x3 * y3 * y3 - x1 * y2 * x3 * y3 * y3 - x1 * y1 * y1 * x2 * x3 * x3 * y3 + x1 * x1 * x1 * x2 * x3 * x3 * y3 + x1 * x2 * x3 * x3 * y3) * ((y2 * y2 - x2 * x2) - (1 + d * (x2 * x2) * (y2 * y2))) + (y1 * y2 * y2 * y2 * y3 - y1 * x2 * x2 * y2 * y3 - y1 * y2 * y3 - x1 * y1 * y1 * x2 * y2 * y2 * y3 * d + x1 * x2 * y2 * y2 * y3 - x1 * x2 * x2 * x2 * y3 - x1 * x2 * y3 - x1 * x1 * y1 * x2 * x2 * y2 * y3 * d + x1 * y2 * y2 * y2 * x3 - x1 * x2 * x2 * y2 * x3 - x1 * y2 * x3 + x1 * x1 * y1 * x2 * y2 * y2 * x3 * d + y1 * x2 * y2 * y2 * x3 - y1 * x2 * x2 * x2 * x3 - y1 * x2 * x3 + x1 * y1 * y1 * x2 * x2 * y2 * x3 * d - y1 * y1 * y1 * y2 * y2 * y2 * y3 + y1 * y1 * y1 * x2 * x2 * y2 * y3 + y1 * y1 * y1 * y2 * y3 - y1 * y1 * y1 * x2 * y2 * y2 * x3 + y1 * y1 * y1 * x2 * x2 * x2 * x3 + y1 * y1 * y1 * x2 * x3 + x1 * x1 * x1 * x2 * y2 * y2 * y3 - x1 * x1 * x1 * x2 * x2 * x2 * y3 - x1 * x1 * x1 * x2 * y3 + x1 * x1 * x1 * y2 * y2 * y2 * x3 - x1 * x1 * x1 * x2 * x2 * y2 * x3 - x1 * x1 * x1 * y2 * x3 - x1 * y1 * y1 * x2 * y2 * y2 * y3 + x1 * y1 * y1 * x2 * x2 * x2 * y3 + x1 * y1 * y1 * x2 * y3 + x1 * x1 * y1 * y2 * y2 * y2 * y3 - x1 * x1 * y1 * x2 * x2 * y2 * y3 - x1 * x1 * y1 * y2 * y3 + x1 * x1 * y1 * x2 * y2 * y2 * x3 - x1 * x1 * y1 * x2 * x2 * x2 * x3 - x1 * x1 * y1 * x2 * x3 - x1 * y1 * y1 * y2 * y2 * y2 * x3 + x1 * y1 * y1 * x2 * x2 * y2 * x3 + x1 * y1 * y1 * y2 * x3) * ((y3 * y3 - x3 * x3) - (1 + d * (x3 * x3) * (y3 * y3))) := by clear h1 h2 h3; grind
  rw [h1, h2, h3, sub_self', sub_self', sub_self', Fin.mul_zero, Fin.mul_zero, Fin.mul_zero] at e
  grind
theorem Pt.assoc (P Q R : Pt) : (P.add Q).add R = P.add (Q.add R) := by
  have hSx := P.add_x Q
  have hSy := P.add_y Q
  have hTx := Q.add_x R
  have hTy := Q.add_y R
  have n1 := P.p Q
  have n2 := P.m Q
  have n3 := Q.p R
  have n4 := Q.m R
  refine Pt.ext' ?_ ?_
  · have hL := (P.add Q).add_x R
    have hK := P.add_x (Q.add R)
    have n5 := (P.add Q).p R
    have n6 := P.p (Q.add R)
    have key := assoc_x P.on Q.on R.on
    simp only [Pt.t] at *
    generalize ((P.add Q).add R).x = L at *
    generalize (P.add (Q.add R)).x = K at *
    generalize (P.add Q).x = sx at *
    generalize (P.add Q).y = sy at *
    generalize (Q.add R).x = tx at *
    generalize (Q.add R).y = ty at *
    generalize P.x = x1 at *
    generalize P.y = y1 at *
    generalize Q.x = x2 at *
    generalize Q.y = y2 at *
    generalize R.x = x3 at *
    generalize R.y = y3 at *
    rw [← hSx, ← hSy, ← hTx, ← hTy] at key
    clear hSx hSy hTx hTy
    generalize 1 + cd * (x1 * x2 * y1 * y2) = D1 at *
    generalize 1 - cd * (x1 * x2 * y1 * y2) = D2 at *
    generalize 1 + cd * (x2 * x3 * y2 * y3) = E1 at *
    generalize 1 - cd * (x2 * x3 * y2 * y3) = E2 at *
    have e1 : sx * D1 * D2 * y3 + x3 * (sy * D2) * D1 = D1 * D2 * (L * (1 + cd * (sx * x3 * sy * y3))) := by rw [hL]; grind
    have e2 : x1 * (ty * E2) * E1 + tx * E1 * y1 * E2 = E1 * E2 * (K * (1 + cd * (x1 * tx * y1 * ty))) := by rw [hK]; grind
    have e3 : D1 * D2 + cd * (sx * D1 * x3 * (sy * D2) * y3) = D1 * D2 * (1 + cd * (sx * x3 * sy * y3)) := by grind
    have e4 : E1 * E2 + cd * (x1 * (tx * E1) * y1 * (ty * E2)) = E1 * E2 * (1 + cd * (x1 * tx * y1 * ty)) := by grind
    rw [e1, e2, e3, e4] at key
    refine mul_cancel (mul_ne (mul_ne (mul_ne n1 n2) n5) (mul_ne (mul_ne n3 n4) n6)) ?_
    grind
  · have hL := (P.add Q).add_y R
    have hK := P.add_y (Q.add R)
    have n5 := (P.add Q).m R
    have n6 := P.m (Q.add R)
    have key := assoc_y P.on Q.on R.on
    simp only [Pt.t] at *
    generalize ((P.add Q).add R).y = L at *
    generalize (P.add (Q.add R)).y = K at *
    generalize (P.add Q).x = sx at *
    generalize (P.add Q).y = sy at *
    generalize (Q.add R).x = tx at *
    generalize (Q.add R).y = ty at *
    generalize P.x = x1 at *
    generalize P.y = y1 at *
    generalize Q.x = x2 at *
    generalize Q.y = y2 at *
    generalize R.x = x3 at *
    generalize R.y = y3 at *
    rw [← hSx, ← hSy, ← hTx, ← hTy] at key
    clear hSx hSy hTx hTy
    generalize 1 + cd * (x1 * x2 * y1 * y2) = D1 at *
    generalize 1 - cd * (x1 * x2 * y1 * y2) = D2 at *
    generalize 1 + cd * (x2 * x3 * y2 * y3) = E1 at *
    generalize 1 - cd * (x2 * x3 * y2 * y3) = E2 at *
    have e1 : sy * D2 * D1 * y3 + sx * D1 * D2 * x3 = D1 * D2 * (L * (1 - cd * (sx * x3 * sy * y3))) := by rw [hL]; grind
    have e2 : y1 * (ty * E2) * E1 + x1 * (tx * E1) * E2 = E1 * E2 * (K * (1 - cd * (x1 * tx * y1 * ty))) := by rw [hK]; grind
    have e3 : D1 * D2 - cd * (sx * D1 * x3 * (sy * D2) * y3) = D1 * D2 * (1 - cd * (sx * x3 * sy * y3)) := by grind
    have e4 : E1 * E2 - cd * (x1 * (tx * E1) * y1 * (ty * E2)) = E1 * E2 * (1 - cd * (x1 * tx * y1 * ty)) := by grind
    rw [e1, e2, e3, e4] at key
    refine mul_cancel (mul_ne (mul_ne (mul_ne n1 n2) n5) (mul_ne (mul_ne n3 n4) n6)) ?_
    grind
/-- Multiples. -/
def Pt.smul : Nat → Pt → Pt
  | 0, _ => Pt.zero
  | n + 1, P => (Pt.smul n P).add P
theorem Pt.add_zero (P : Pt) : P.add Pt.zero = P := by rw [Pt.add_comm, Pt.zero_add]
theorem Pt.smul_add (m : Nat) (P : Pt) : ∀ n : Nat, Pt.smul (m + n) P = (Pt.smul m P).add (Pt.smul n P)
  | 0 => (Pt.add_zero _).symm
  | n + 1 => by rw [← Nat.add_assoc, Pt.smul, Pt.smul_add m P n, Pt.smul, Pt.assoc]
theorem Pt.smul_smul (n : Nat) (P : Pt) : ∀ m : Nat, Pt.smul m (Pt.smul n P) = Pt.smul (m * n) P
  | 0 => by rw [Nat.zero_mul]; rfl
  | m + 1 => by rw [Pt.smul, Pt.smul_smul n P m, Nat.succ_mul, Pt.smul_add]
theorem Pt.smul_one (P : Pt) : Pt.smul 1 P = P := by
  show Pt.zero.add P = P
  exact Pt.zero_add P
end Go.Cv

/- The ladder reckons multiples. -/
namespace Go.Cv
set_option maxRecDepth 10000
attribute [local irreducible] q cd ci inv
/-- X and Z tell a point. -/
def Rep (X Z : Fp) (P : Pt) : Prop := X * (1 - P.y) = Z * (1 + P.y) ∧ (X = 0 → Z ≠ 0)
theorem Rep.scale {X Z : Fp} {P : Pt} (h : Rep X Z P) : ∃ l : Fp, l ≠ 0 ∧ X = l * (1 + P.y) ∧ Z = l * (1 - P.y) := by
  obtain ⟨h1, h2⟩ := h
  have h3 := inv_mul two_ne
  have hs : X + Z ≠ 0 := by
    intro hz
    have e : 2 * X = 0 := by grind
    rcases mul_zero_of e with h4 | h4
    · exact two_ne h4
    · refine h2 h4 ?_
      rw [h4] at hz
      grind
  have hi : inv (2 : Fp) ≠ 0 := by
    intro h4
    rw [h4, Fin.zero_mul] at h3
    exact one_ne h3.symm
  refine ⟨(X + Z) * inv 2, mul_ne hs hi, ?_, ?_⟩
  · grind
  · grind
theorem four_ne : (4 : Fp) ≠ 0 := by decide +kernel
theorem c121666 : (121666 : Fp) ≠ 0 := by decide +kernel
theorem rep_dbl {X Z : Fp} {P : Pt} (h : Rep X Z P) : Rep (((X + Z) * (X + Z)) * ((X - Z) * (X - Z))) (((X + Z) * (X + Z) - (X - Z) * (X - Z)) * ((X + Z) * (X + Z) + 121665 * ((X + Z) * (X + Z) - (X - Z) * (X - Z)))) (P.add P) := by
  obtain ⟨l, hl, hX, hZ⟩ := h.scale
  have hy := P.add_y P
  have hm := P.m P
  have ho := P.on
  have hd := cd_eq
  have ht : P.t P = cd * (P.x * P.x) * (P.y * P.y) := by unfold Pt.t; grind
  rw [ht] at hy hm
  have a : X + Z = 2 * l := by rw [hX, hZ]; grind
  have b : X - Z = 2 * l * P.y := by rw [hX, hZ]; grind
  rw [a, b]
  unfold Rep
  generalize (P.add P).y = y2 at *
  generalize P.x = x at *
  generalize P.y = y at *
  have m1 : 1 - cd * (x * x) * (y * y) = 2 - y * y + x * x := by grind
  rw [m1] at hy hm
  have key : y * y = (121666 - 121665 * (y * y)) * (1 + x * x) := by
    have : 121665 * (y * y) = -(121666 * (cd * (y * y))) := by grind
    rw [this]
    grind
  refine ⟨?_, ?_⟩
  · refine mul_cancel hm ?_
    have e1 : (1 - y2) * (2 - y * y + x * x) = 2 * (1 - y * y) := by grind
    have e2 : (1 + y2) * (2 - y * y + x * x) = 2 * (1 + x * x) := by grind
    rw [Fin.mul_assoc _ (1 - y2), e1, Fin.mul_assoc _ (1 + y2), e2]
    have e3 : 2 * l * (2 * l) * (2 * l * y * (2 * l * y)) * (2 * (1 - y * y)) = 32 * (l * l * l * l) * (1 - y * y) * (y * y) := by grind
    have e4 : (2 * l * (2 * l) - 2 * l * y * (2 * l * y)) * (2 * l * (2 * l) + 121665 * (2 * l * (2 * l) - 2 * l * y * (2 * l * y))) * (2 * (1 + x * x)) = 32 * (l * l * l * l) * (1 - y * y) * ((121666 - 121665 * (y * y)) * (1 + x * x)) := by grind
    rw [e3, e4, ← key]
  · intro hx0
    have n2 := two_ne
    have n4 : 2 * l ≠ 0 := mul_ne n2 hl
    have y0 : y = 0 := by
      rcases mul_zero_of hx0 with h1 | h1
      · exact absurd h1 (mul_ne n4 n4)
      · rcases mul_zero_of h1 with h2 | h2 <;> exact (mul_zero_of h2).resolve_left n4
    subst y0
    have : (2 * l * (2 * l) - 2 * l * 0 * (2 * l * 0)) * (2 * l * (2 * l) + 121665 * (2 * l * (2 * l) - 2 * l * 0 * (2 * l * 0))) = (2 * l) * (2 * l) * ((2 * l) * (2 * l)) * 121666 := by grind
    rw [this]
    exact mul_ne (mul_ne (mul_ne n4 n4) (mul_ne n4 n4)) c121666
theorem dif_id {d x1 y1 x2 y2 : Fp} (h1 : y1 * y1 - x1 * x1 = 1 + d * (x1 * x1) * (y1 * y1)) (h2 : y2 * y2 - x2 * x2 = 1 + d * (x2 * x2) * (y2 * y2)) :
    ((1 - d * (x1 * x2 * y1 * y2)) + (y1 * y2 + x1 * x2)) * ((1 + d * (x1 * x2 * y1 * y2)) + (y1 * y2 - x1 * x2)) * ((y1 - y2) * (y1 - y2)) = ((1 - d * (x1 * x2 * y1 * y2)) - (y1 * y2 + x1 * x2)) * ((1 + d * (x1 * x2 * y1 * y2)) - (y1 * y2 - x1 * x2)) * ((y1 + y2) * (y1 + y2)) := by
  grind
/-- The points' difference is told by y. -/
def Dif (A B : Pt) (yp : Fp) : Prop := yp * (1 + A.t B) = A.y * B.y - A.x * B.x
theorem Dif.symm {A B : Pt} {yp : Fp} (h : Dif A B yp) : Dif B A yp := by
  unfold Dif at *
  rw [B.t_comm, h]
  grind
theorem dif_sub {A R D : Pt} (h : A.add R.neg = D) : Dif A R D.y := by
  unfold Dif
  have hy := A.add_y R.neg
  rw [h] at hy
  have hx : R.neg.x = -R.x := rfl
  have hy2 : R.neg.y = R.y := rfl
  unfold Pt.t at hy ⊢
  rw [hx, hy2] at hy
  grind
theorem dif_of (R P : Pt) : Dif (R.add P) R P.y := by
  refine dif_sub ?_
  rw [Pt.add_comm R, Pt.assoc, Pt.add_neg, Pt.add_zero]
theorem key2_of {ys yp t ya yb : Fp} (np : 1 + t ≠ 0) (nm : 1 - t ≠ 0) (key : (1 - t + ys * (1 - t)) * (1 + t + yp * (1 + t)) * ((ya - yb) * (ya - yb)) = (1 - t - ys * (1 - t)) * (1 + t - yp * (1 + t)) * ((ya + yb) * (ya + yb))) : (1 + ys) * (1 + yp) * ((ya - yb) * (ya - yb)) = (1 - ys) * (1 - yp) * ((ya + yb) * (ya + yb)) := by
  refine mul_cancel (mul_ne nm np) ?_
  have e1 : (1 - t + ys * (1 - t)) * (1 + t + yp * (1 + t)) * ((ya - yb) * (ya - yb)) = (1 + ys) * (1 + yp) * ((ya - yb) * (ya - yb)) * ((1 - t) * (1 + t)) := by clear key np nm; grind
  have e2 : (1 - t - ys * (1 - t)) * (1 + t - yp * (1 + t)) * ((ya + yb) * (ya + yb)) = (1 - ys) * (1 - yp) * ((ya + yb) * (ya + yb)) * ((1 - t) * (1 + t)) := by clear key np nm e1; grind
  rw [← e1, ← e2, key]
theorem fin_of {k u ys yp ya yb : Fp} (h1 : 1 - yp ≠ 0) (hu : u * (1 - yp) = 1 + yp) (key : (1 + ys) * (1 + yp) * ((ya - yb) * (ya - yb)) = (1 - ys) * (1 - yp) * ((ya + yb) * (ya + yb))) : (k * yb + k * ya) * (k * yb + k * ya) * (1 - ys) = u * ((k * yb - k * ya) * (k * yb - k * ya)) * (1 + ys) := by
  refine mul_cancel h1 ?_
  rw [← hu] at key
  have e1 : (k * yb + k * ya) * (k * yb + k * ya) * (1 - ys) * (1 - yp) = k * k * ((1 - ys) * (1 - yp) * ((ya + yb) * (ya + yb))) := by clear key hu h1; grind
  have e2 : u * ((k * yb - k * ya) * (k * yb - k * ya)) * (1 + ys) * (1 - yp) = k * k * ((1 + ys) * (u * (1 - yp)) * ((ya - yb) * (ya - yb))) := by clear key hu h1 e1; grind
  rw [e1, e2, key]
theorem both_zero {k a b : Fp} (hk : k ≠ 0) (e1 : k * b + k * a = 0) (e2 : k * b - k * a = 0) : a = 0 ∧ b = 0 := by
  have s1 : k * (2 * b) = 0 := by clear hk; grind
  have s2 : k * (2 * a) = 0 := by clear hk s1; grind
  exact ⟨(mul_zero_of ((mul_zero_of s2).resolve_left hk)).resolve_left two_ne, (mul_zero_of ((mul_zero_of s1).resolve_left hk)).resolve_left two_ne⟩
theorem rep_add {X2 Z2 X3 Z3 u yp : Fp} {A B : Pt} (hA : Rep X2 Z2 A) (hB : Rep X3 Z3 B) (hd : Dif A B yp) (hu : u * (1 - yp) = 1 + yp) (h1 : 1 - yp ≠ 0) (h2 : 1 + yp ≠ 0) :
    Rep (((X3 - Z3) * (X2 + Z2) + (X3 + Z3) * (X2 - Z2)) * ((X3 - Z3) * (X2 + Z2) + (X3 + Z3) * (X2 - Z2))) (u * (((X3 - Z3) * (X2 + Z2) - (X3 + Z3) * (X2 - Z2)) * ((X3 - Z3) * (X2 + Z2) - (X3 + Z3) * (X2 - Z2)))) (A.add B) := by
  obtain ⟨l, hl, hX2, hZ2⟩ := hA.scale
  obtain ⟨m, hm, hX3, hZ3⟩ := hB.scale
  have hy := A.add_y B
  have np := A.p B
  have nm := A.m B
  have oA := A.on
  have oB := B.on
  have key := dif_id oA oB
  unfold Dif at hd
  rw [← Pt.t] at key
  have a : (X3 - Z3) * (X2 + Z2) = 4 * (l * m) * B.y := by rw [hX2, hZ2, hX3, hZ3]; grind
  have b : (X3 + Z3) * (X2 - Z2) = 4 * (l * m) * A.y := by rw [hX2, hZ2, hX3, hZ3]; grind
  rw [a, b]
  have n4 := four_ne
  have nk : 4 * (l * m) ≠ 0 := mul_ne n4 (mul_ne hl hm)
  have un : u ≠ 0 := by
    rintro rfl
    apply h2
    rw [← hu, Fin.zero_mul]
  refine ⟨?_, ?_⟩
  · clear oA oB a b hX2 hZ2 hX3 hZ3
    generalize 4 * (l * m) = k at *
    generalize (A.add B).y = ys at *
    generalize A.t B = t at *
    rw [← hy, ← hd] at key
    generalize A.y = ya at *
    generalize B.y = yb at *
    exact fin_of h1 hu (key2_of np nm key)
  · intro hX hZ
    have e1 : 4 * (l * m) * B.y + 4 * (l * m) * A.y = 0 := by
      rcases mul_zero_of hX with h | h <;> exact h
    have e2 : 4 * (l * m) * B.y - 4 * (l * m) * A.y = 0 := by
      rcases mul_zero_of ((mul_zero_of hZ).resolve_left un) with h | h <;> exact h
    obtain ⟨a0, b0⟩ := both_zero nk e1 e2
    have t0 : A.t B = 0 := by unfold Pt.t; rw [a0]; grind
    rw [t0, a0, b0] at hd
    rw [a0] at oA
    rw [b0] at oB
    refine mul_ne h1 h2 ?_
    have f1 : A.x * A.x = -1 := by grind
    have f2 : B.x * B.x = -1 := by grind
    have f3 : yp = -(A.x * B.x) := by grind
    rw [f3]
    have : (1 - -(A.x * B.x)) * (1 + -(A.x * B.x)) = 1 - (A.x * A.x) * (B.x * B.x) := by grind
    rw [this, f1, f2]
    grind
end Go.Cv

/- X25519 of X25519, in either order. -/
namespace Go.Cv
set_option maxRecDepth 10000
attribute [local irreducible] q cd ci inv
/-- What the ladder's state tells, as elements. -/
structure LRep (s : Four) (A B : Pt) : Prop where
  a : Rep (fp s.x2) (fp s.z2) A
  b : Rep (fp s.x3) (fp s.z3) B
theorem lstep_rep {u : Nat} {s : Four} {A B : Pt} {yp : Fp} (h : LRep s A B) (hd : Dif A B yp) (hu : fp u * (1 - yp) = 1 + yp) (h1 : 1 - yp ≠ 0) (h2 : 1 + yp ≠ 0) : LRep (lstep u s) (A.add A) (A.add B) := by
  have e1 := rep_dbl h.a
  have e2 := rep_add h.a h.b hd hu h1 h2
  have c : fp 121665 = 121665 := by decide +kernel
  constructor
  · unfold lstep
    simp only [fp_mul, fp_add, fp_sub, c]
    exact e1
  · unfold lstep
    simp only [fp_mul, fp_add, fp_sub]
    exact e2
theorem bit_div (k i : Nat) (h : i < 255) : k / 2 ^ (254 - i) = 2 * (k / 2 ^ (255 - i)) + (if k.testBit (254 - i) then 1 else 0) := by
  have e : 2 ^ (255 - i) = 2 ^ (254 - i) * 2 := by rw [← Nat.pow_succ]; congr 1; omega
  rw [e, ← Nat.div_div_eq_div_mul, Nat.testBit_eq_decide_div_mod_eq]
  generalize k / 2 ^ (254 - i) = n
  rcases Nat.mod_two_eq_zero_or_one n with h1 | h1
  · rw [h1]; simp; omega
  · rw [h1]; simp; omega
theorem lad_rep {k u : Nat} {P : Pt} (hk : k < 2 ^ 255) (hu : fp u * (1 - P.y) = 1 + P.y) (h1 : 1 - P.y ≠ 0) (h2 : 1 + P.y ≠ 0) : ∀ i : Nat, i ≤ 255 → LRep (lad k u i) (Pt.smul (k / 2 ^ (255 - i)) P) (Pt.smul (k / 2 ^ (255 - i) + 1) P)
  | 0, _ => by
    have e : k / 2 ^ (255 - 0) = 0 := Nat.div_eq_of_lt hk
    rw [e]
    constructor
    · show Rep (fp 1) (fp 0) Pt.zero
      rw [fp_1, fp_0]
      refine ⟨?_, fun h => absurd h one_ne⟩
      show 1 * (1 - 1) = 0 * (1 + 1)
      grind
    · show Rep (fp u) (fp 1) (Pt.smul 1 P)
      rw [Pt.smul_one, fp_1]
      refine ⟨?_, fun _ => one_ne⟩
      rw [hu, Fin.one_mul]
  | i + 1, hi => by
    have ih := lad_rep hk hu h1 h2 i (by omega)
    obtain ⟨n, hn⟩ : ∃ n, n = k / 2 ^ (255 - i) := ⟨_, rfl⟩
    have e := bit_div k i (by omega)
    rw [← hn] at ih e
    rw [show 255 - (i + 1) = 254 - i by omega, e]
    have hs : Pt.smul (n + 1) P = (Pt.smul n P).add P := rfl
    have d1 : Dif (Pt.smul (n + 1) P) (Pt.smul n P) P.y := by rw [hs]; exact dif_of _ _
    have aa : ∀ m, (Pt.smul m P).add (Pt.smul m P) = Pt.smul (2 * m) P := fun m => by rw [Nat.two_mul, Pt.smul_add]
    show LRep (lbit u (lad k u i) (k.testBit (254 - i))) _ _
    unfold lbit
    cases k.testBit (254 - i) with
    | false =>
      have r := lstep_rep ih d1.symm hu h1 h2
      rw [aa, ← Pt.smul_add] at r
      simp only [Bool.false_eq_true, if_false, Nat.add_zero]
      rw [show n + (n + 1) = 2 * n + 1 by omega] at r
      exact r
    | true =>
      have r := lstep_rep (s := (lad k u i).swap) ⟨ih.b, ih.a⟩ d1 hu h1 h2
      rw [aa, ← Pt.smul_add] at r
      simp only [if_true]
      rw [show n + 1 + n = 2 * n + 1 by omega, show 2 * (n + 1) = 2 * n + 1 + 1 by omega] at r
      exact ⟨r.b, r.a⟩
/-- With u = 0 the ladder ends in 0. -/
theorem lad_zero {k u : Nat} (hu : fp u = 0) : ∀ i : Nat, (fp (lad k u i).x2 * fp (lad k u i).z2 = 0) ∧ (fp (lad k u i).x3 * fp (lad k u i).z3 = 0)
  | 0 => by
    constructor
    · show fp 1 * fp 0 = 0
      rw [fp_0, Fin.mul_zero]
    · show fp u * fp 1 = 0
      rw [hu, Fin.zero_mul]
  | i + 1 => by
    have ih := lad_zero (k := k) hu i
    have st : ∀ s : Four, fp s.x2 * fp s.z2 = 0 → fp (lstep u s).z2 = 0 ∧ fp (lstep u s).z3 = 0 := by
      intro s h
      constructor
      · unfold lstep
        simp only [fp_mul, fp_add, fp_sub]
        have : (fp s.x2 + fp s.z2) * (fp s.x2 + fp s.z2) - (fp s.x2 - fp s.z2) * (fp s.x2 - fp s.z2) = 4 * (fp s.x2 * fp s.z2) := by grind
        rw [this, h, Fin.mul_zero, Fin.zero_mul]
      · unfold lstep
        simp only [fp_mul, hu, Fin.zero_mul]
    rw [show lad k u (i + 1) = lbit u (lad k u i) (k.testBit (254 - i)) from rfl]
    unfold lbit
    cases k.testBit (254 - i) with
    | false =>
      have r := st _ ih.1
      simp only [Bool.false_eq_true, if_false]
      rw [r.1, r.2, Fin.mul_zero, Fin.mul_zero]
      exact ⟨rfl, rfl⟩
    | true =>
      have r := st (lad k u i).swap ih.2
      simp only [if_true]
      show fp (lstep u (lad k u i).swap).x3 * fp (lstep u (lad k u i).swap).z3 = 0 ∧ fp (lstep u (lad k u i).swap).x2 * fp (lstep u (lad k u i).swap).z2 = 0
      rw [r.1, r.2, Fin.mul_zero, Fin.mul_zero]
      exact ⟨rfl, rfl⟩
/-- What the curve's functions have of a point; 0 of the points with no other. -/
def uc (P : Pt) : Fp := (1 + P.y) * inv (1 - P.y)
theorem fp_ladx (k u : Nat) : fp (ladx k u) = fp (lad k u 255).x2 * inv (fp (lad k u 255).z2) := by
  unfold ladx
  rw [fp_mul, fp_inv]
theorem flat_zero {P : Pt} (h : P.y * P.y = 1) : uc P = 0 := by
  unfold uc
  have : (1 + P.y) * (1 - P.y) = 0 := by grind
  rcases mul_zero_of this with h1 | h1
  · rw [h1, Fin.zero_mul]
  · rw [h1, inv_zero, Fin.mul_zero]
theorem uc_flat {P : Pt} (h : uc P = 0) : P.y * P.y = 1 := by
  unfold uc at h
  rcases mul_zero_of h with h1 | h1
  · grind
  · by_cases h2 : 1 - P.y = 0
    · grind
    · have := mul_inv h2
      rw [h1, Fin.mul_zero] at this
      exact absurd this.symm one_ne
theorem d1_ne : 1 + cd ≠ 0 := by
  intro h
  have h1 := cd_eq
  have : (1 : Fp) = 0 := by grind
  exact one_ne this
theorem flat_x {P : Pt} (h : P.y * P.y = 1) : P.x = 0 := by
  have ho := P.on
  have : (1 + cd) * (P.x * P.x) = 0 := by rw [h] at ho; grind
  have := (mul_zero_of this).resolve_left d1_ne
  rcases mul_zero_of this with h1 | h1 <;> exact h1
theorem flat_smul {P : Pt} (h : P.y * P.y = 1) : ∀ n : Nat, (Pt.smul n P).y * (Pt.smul n P).y = 1
  | 0 => by
    show (1 : Fp) * 1 = 1
    exact Fin.mul_one _
  | n + 1 => by
    have ih := flat_smul h n
    have x0 := flat_x h
    have hy := (Pt.smul n P).add_y P
    have t0 : (Pt.smul n P).t P = 0 := by unfold Pt.t; rw [x0]; grind
    rw [t0, x0] at hy
    have e : (Pt.smul (n + 1) P).y = (Pt.smul n P).y * P.y := by
      show ((Pt.smul n P).add P).y = _
      grind
    rw [e]
    have : (Pt.smul n P).y * P.y * ((Pt.smul n P).y * P.y) = ((Pt.smul n P).y * (Pt.smul n P).y) * (P.y * P.y) := by grind
    rw [this, ih, h, Fin.mul_one]
theorem ladx_uc {k u : Nat} {P : Pt} (hk : k < 2 ^ 255) (hu : fp u = uc P) : fp (ladx k u) = uc (Pt.smul k P) := by
  rw [fp_ladx]
  by_cases h0 : uc P = 0
  · rw [flat_zero (flat_smul (uc_flat h0) k)]
    rcases mul_zero_of (lad_zero (k := k) (hu.trans h0) 255).1 with h1 | h1
    · rw [h1, Fin.zero_mul]
    · rw [h1, inv_zero, Fin.mul_zero]
  · have h1 : 1 - P.y ≠ 0 := by
      intro h
      apply h0
      unfold uc
      rw [h, inv_zero, Fin.mul_zero]
    have h2 : 1 + P.y ≠ 0 := by
      intro h
      apply h0
      unfold uc
      rw [h, Fin.zero_mul]
    have hu2 : fp u * (1 - P.y) = 1 + P.y := by
      rw [hu]
      unfold uc
      rw [Fin.mul_assoc, inv_mul h1, Fin.mul_one]
    have r := (lad_rep hk hu2 h1 h2 255 (Nat.le_refl _)).a
    rw [show k / 2 ^ (255 - 255) = k by rw [Nat.sub_self, Nat.pow_zero, Nat.div_one]] at r
    obtain ⟨l, hl, hX, hZ⟩ := r.scale
    rw [hX, hZ]
    unfold uc
    by_cases h3 : 1 - (Pt.smul k P).y = 0
    · rw [h3, Fin.mul_zero, inv_zero, Fin.mul_zero, Fin.mul_zero]
    · have m1 := mul_inv h3
      have m2 := mul_inv (mul_ne hl h3)
      refine mul_cancel (mul_ne hl h3) ?_
      grind
/-- What lies on the curve. -/
def OnC (u : Nat) : Prop := u < q ∧ ∃ P : Pt, fp u = uc P
theorem ladx_lt (k u : Nat) : ladx k u < q := mulq_lt _ _
theorem OnC.ladx {k u : Nat} (hk : k < 2 ^ 255) (h : OnC u) : OnC (ladx k u) := by
  obtain ⟨_, P, hP⟩ := h
  exact ⟨ladx_lt k u, _, ladx_uc hk hP⟩
theorem ladx_comm {k l u : Nat} (hk : k < 2 ^ 255) (hl : l < 2 ^ 255) (h : OnC u) : ladx k (ladx l u) = ladx l (ladx k u) := by
  obtain ⟨_, P, hP⟩ := h
  refine fp_inj (ladx_lt _ _) (ladx_lt _ _) ?_
  rw [ladx_uc hk (ladx_uc hl hP), ladx_uc hl (ladx_uc hk hP), Pt.smul_smul, Pt.smul_smul, Nat.mul_comm]
def bx : Fp := fp 42783823269122696939284341094755422415180979639778424813682678720006717057747
def bY : Fp := fp 46316835694926478169428394003475163141307993866256225615783033603165251855960
theorem b_on : bY * bY - bx * bx = 1 + cd * (bx * bx) * (bY * bY) := by decide +kernel
end Go.Cv

/- The base point's order. -/
namespace Go.Cv
set_option maxRecDepth 10000
attribute [local irreducible] q cd ci inv
def n50 : Nat := 1257559732178653
def n62 : Nat := 4434155615661930479
def n87 : Nat := 172054593956031949258510691
def n134 : Nat := 19757330305831588566944191468367130476339
def n138 : Nat := 276602624281642239937218680557139826668747
def ell : Nat := 7237005577332262213973186563042994240857116359379907606001950938285454250989
theorem prm_1224481 : Prm 1224481 := prm_tri (f := 1110) (by decide) (by decide +kernel) (by decide)
theorem prm_531581 : Prm 531581 := prm_tri (f := 730) (by decide) (by decide +kernel) (by decide)
theorem prm_n50 : Prm n50 := prm_of (F := 1224481 * 531581) (by decide +kernel) (by decide +kernel) fun _ hp hd => two_div (by decide +kernel) (pock1 2 51 prm_1224481 (by decide +kernel) (by decide +kernel) (by decide +kernel) (by decide +kernel) (by decide +kernel) hp hd) (pock1 2 51 prm_531581 (by decide +kernel) (by decide +kernel) (by decide +kernel) (by decide +kernel) (by decide +kernel) hp hd)
theorem prm_n62 : Prm n62 := prm_of (F := n50) (by decide +kernel) (by decide +kernel) fun _ hp hd => pock1 2 62 prm_n50 (by decide +kernel) (by decide +kernel) (by decide +kernel) (by decide +kernel) (by decide +kernel) hp hd
theorem prm_n87 : Prm n87 := prm_of (F := n62) (by decide +kernel) (by decide +kernel) fun _ hp hd => pock1 2 88 prm_n62 (by decide +kernel) (by decide +kernel) (by decide +kernel) (by decide +kernel) (by decide +kernel) hp hd
theorem prm_n134 : Prm n134 := prm_of (F := n87) (by decide +kernel) (by decide +kernel) fun _ hp hd => pock1 2 134 prm_n87 (by decide +kernel) (by decide +kernel) (by decide +kernel) (by decide +kernel) (by decide +kernel) hp hd
theorem prm_n138 : Prm n138 := prm_of (F := n134) (by decide +kernel) (by decide +kernel) fun _ hp hd => pock1 2 138 prm_n134 (by decide +kernel) (by decide +kernel) (by decide +kernel) (by decide +kernel) (by decide +kernel) hp hd
theorem prm_ell : Prm ell := prm_of (F := n138) (by decide +kernel) (by decide +kernel) fun _ hp hd => pock1 2 253 prm_n138 (by decide +kernel) (by decide +kernel) (by decide +kernel) (by decide +kernel) (by decide +kernel) hp hd
theorem lad_ell : ladx ell 9 = 0 := by decide +kernel
def bp : Pt := ⟨bx, bY, b_on⟩
theorem bp_9 : fp 9 = uc bp := by
  have h1 : (1 : Fp) - bY ≠ 0 := by decide +kernel
  have h2 : fp 9 * (1 - bY) = 1 + bY := by decide +kernel
  show fp 9 = (1 + bY) * inv (1 - bY)
  rw [← h2, Fin.mul_assoc, mul_inv h1, Fin.mul_one]
theorem smul_zero : ∀ n : Nat, Pt.smul n Pt.zero = Pt.zero
  | 0 => rfl
  | n + 1 => by rw [Pt.smul, smul_zero n, Pt.zero_add]
theorem flat_dbl {P : Pt} (h : P.y * P.y = 1) : Pt.smul 2 P = Pt.zero := by
  have x0 := flat_x h
  have t0 : P.t P = 0 := by unfold Pt.t; rw [x0]; grind
  have e : Pt.smul 2 P = P.add P := by
    show (Pt.zero.add P).add P = P.add P
    rw [Pt.zero_add]
  rw [e]
  refine Pt.ext' ?_ ?_
  · have hx := P.add_x P
    rw [t0, x0] at hx
    show (P.add P).x = 0
    clear h e x0 t0
    grind
  · have hy := P.add_y P
    rw [t0, x0] at hy
    show (P.add P).y = 1
    rw [h, Fin.zero_mul] at hy
    clear h e x0 t0
    grind
theorem smul_gcd {P : Pt} (m n : Nat) (hm : Pt.smul m P = Pt.zero) (hn : Pt.smul n P = Pt.zero) : Pt.smul (Nat.gcd m n) P = Pt.zero := by
  induction m, n using Nat.gcd.induction with
  | H0 n => rw [Nat.gcd_zero_left]; exact hn
  | H1 m n _ ih =>
    rw [Nat.gcd_rec]
    refine ih ?_ hm
    rw [← Nat.div_add_mod n m, Pt.smul_add, Nat.mul_comm, ← Pt.smul_smul, hm, smul_zero, Pt.zero_add] at hn
    exact hn
theorem two_not : Pt.smul 2 bp ≠ Pt.zero := by
  intro h
  have e : Pt.smul 2 bp = bp.add bp := by
    show (Pt.zero.add bp).add bp = bp.add bp
    rw [Pt.zero_add]
  rw [e] at h
  have hy := bp.add_y bp
  rw [h] at hy
  revert hy
  show (1 : Fp) * (1 - cd * (bx * bx * bY * bY)) = bY * bY + bx * bx → False
  decide +kernel
/-- A multiple of the base point by what the order does not divide is none of the two points without u. -/
theorem uc_ne {n : Nat} (h : ¬ ell ∣ n) : uc (Pt.smul n bp) ≠ 0 := by
  intro h0
  have h1 : Pt.smul (2 * n) bp = Pt.zero := by rw [← Pt.smul_smul, flat_dbl (uc_flat h0)]
  have h2 : uc (Pt.smul ell bp) = 0 := by rw [← ladx_uc (by decide +kernel) bp_9, lad_ell, fp_0]
  have h3 : Pt.smul (2 * ell) bp = Pt.zero := by rw [← Pt.smul_smul, flat_dbl (uc_flat h2)]
  have h4 := smul_gcd _ _ h3 h1
  rw [Nat.gcd_mul_left, prm_ell.cop h] at h4
  exact two_not h4
/-- Multiples of the base point that are told by u, by what the order does not divide. -/
def InB (u : Nat) : Prop := u < q ∧ ∃ n : Nat, ¬ ell ∣ n ∧ fp u = uc (Pt.smul n bp)
theorem InB.onC {u : Nat} (h : InB u) : OnC u := by
  obtain ⟨h1, n, _, h2⟩ := h
  exact ⟨h1, _, h2⟩
theorem inB_9 : InB 9 := ⟨by decide +kernel, 1, by decide +kernel, by rw [Pt.smul_one]; exact bp_9⟩
theorem InB.ne {u : Nat} (h : InB u) : u ≠ 0 := by
  obtain ⟨h1, n, h2, h3⟩ := h
  rintro rfl
  rw [fp_0] at h3
  exact uc_ne h2 h3.symm
theorem InB.ladx {k u : Nat} (hk : k < 2 ^ 255) (hn : ¬ ell ∣ k) (h : InB u) : InB (ladx k u) := by
  obtain ⟨_, n, h2, h3⟩ := h
  refine ⟨ladx_lt _ _, k * n, fun hd => ?_, ?_⟩
  · rcases prm_ell.mul hd with h4 | h4
    · exact hn h4
    · exact h2 h4
  · rw [ladx_uc hk h3, Pt.smul_smul]
/-- A clamped scalar is none of the order's multiples. -/
theorem clamp_lt (k : List UInt8) : clampN k < 2 ^ 255 := by
  unfold clampN
  have := Nat.mod_lt (leNat k) (show 0 < 2 ^ 254 by decide)
  omega
theorem clamp_not (k : List UInt8) : ¬ ell ∣ clampN k := by
  have h1 := clamp_lt k
  have h2 : 8 ∣ clampN k := by
    unfold clampN
    exact ⟨leNat k % 2 ^ 254 / 8 + 2 ^ 251, by rw [Nat.mul_add, Nat.mul_comm 8]⟩
  have h3 : 0 < clampN k := by unfold clampN; omega
  intro h
  have h4 := two_div (show Nat.gcd ell 8 = 1 by decide +kernel) h h2
  have h5 := Nat.le_of_dvd h3 h4
  have h6 : 2 ^ 255 < ell * 8 := by decide +kernel
  omega
end Go.Cv

/- Bytes: multiples of the base point, in either order; none is refused. -/
namespace Go.Cv
set_option maxRecDepth 10000
theorem le_aux (n : Nat) : ∀ m a : Nat, leNat ((List.range m).map fun i => UInt8.ofNat (n / 2 ^ (8 * (a + i)))) = n / 2 ^ (8 * a) % 2 ^ (8 * m)
  | 0, a => by simp [leNat, Nat.mod_one]
  | m + 1, a => by
    have ih := le_aux n m (a + 1)
    rw [List.range_succ_eq_map, List.map_cons, List.map_map, leNat]
    have e : ((fun i => UInt8.ofNat (n / 2 ^ (8 * (a + i)))) ∘ Nat.succ) = fun i => UInt8.ofNat (n / 2 ^ (8 * (a + 1 + i))) := by
      funext i
      show UInt8.ofNat (n / 2 ^ (8 * (a + (i + 1)))) = _
      rw [show a + (i + 1) = a + 1 + i by omega]
    rw [e, ih, UInt8.toNat_ofNat', Nat.add_zero]
    rw [show 8 * (a + 1) = 8 * a + 8 by omega, Nat.pow_add 2 (8 * a) 8, ← Nat.div_div_eq_div_mul, show 8 * (m + 1) = 8 + 8 * m by omega, Nat.pow_add 2 8 (8 * m), Nat.mod_mul]
theorem leNat_le32 {n : Nat} (h : n < 2 ^ 256) : leNat (le32 n) = n := by
  have e := le_aux n 32 0
  have e2 : (fun i => UInt8.ofNat (n / 2 ^ (8 * i))) = fun i => UInt8.ofNat (n / 2 ^ (8 * (0 + i))) := by
    funext i
    rw [Nat.zero_add]
  unfold le32
  rw [e2, e, Nat.mul_zero, Nat.pow_zero, Nat.div_one]
  exact Nat.mod_eq_of_lt h
attribute [local irreducible] q leNat le32 ladx clampN
/-- The number that the curve's functions take of bytes. -/
def un (u : List UInt8) : Nat := leNat u % 2 ^ 255 % q
theorem un_le32 {n : Nat} (h : n < q) : un (le32 n) = n := by
  have h2 : q < 2 ^ 255 := by decide +kernel
  unfold un
  rw [leNat_le32 (by omega), Nat.mod_eq_of_lt (show n < 2 ^ 255 by omega), Nat.mod_eq_of_lt h]
theorem le32_inj {m n : Nat} (hm : m < q) (hn : n < q) (h : le32 m = le32 n) : m = n := by
  rw [← un_le32 hm, h, un_le32 hn]
def OnB (u : List UInt8) : Prop := u.length = 32 ∧ InB (un u)
theorem x_eq (k u : List UInt8) : x25519 k u = le32 (ladx (clampN k) (un u)) := rfl
theorem len32 (n : Nat) : (le32 n).length = 32 := by simp [le32]
theorem OnB.x {u : List UInt8} (k : List UInt8) (h : OnB u) : OnB (x25519 k u) := by
  refine ⟨len32 _, ?_⟩
  rw [x_eq, un_le32 (ladx_lt _ _)]
  exact h.2.ladx (clamp_lt k) (clamp_not k)
theorem OnB.nz {u : List UInt8} (k : List UInt8) (h : OnB u) : x25519 k u ≠ le32 0 := by
  intro e
  rw [x_eq] at e
  exact (h.2.ladx (clamp_lt k) (clamp_not k)).ne (le32_inj (ladx_lt _ _) q_pos e)
theorem x_comm {u : List UInt8} (k l : List UInt8) (h : OnB u) : x25519 k (x25519 l u) = x25519 l (x25519 k u) := by
  rw [x_eq k (x25519 l u), x_eq l (x25519 k u), x_eq l u, x_eq k u, un_le32 (ladx_lt _ _), un_le32 (ladx_lt _ _), ladx_comm (clamp_lt k) (clamp_lt l) h.2.onC]
theorem onB_9 : OnB base9 := by
  refine ⟨len32 9, ?_⟩
  show InB (un (le32 9))
  rw [un_le32 (by decide +kernel)]
  exact inB_9
theorem publicR_eq {k : List UInt8} (hk : k.length = 32) : publicR k = (x25519 k base9, 0) := by
  unfold publicR timesR
  rw [if_pos ⟨hk, len32 9⟩]
theorem timesR_eq {k u : List UInt8} (hk : k.length = 32) (hu : u.length = 32) : timesR k u = (x25519 k u, 0) := by
  unfold timesR
  rw [if_pos ⟨hk, hu⟩]
theorem sharedR_eq {k u : List UInt8} (hk : k.length = 32) (hu : OnB u) : sharedR k u = (x25519 k u, 0) := by
  unfold sharedR
  rw [timesR_eq hk hu.1, if_neg (by simp), if_neg (hu.nz k)]
/-- One scalar after the other. -/
def xs (u : List UInt8) (ks : List (List UInt8)) : List UInt8 := ks.foldl (fun u k => x25519 k u) u
theorem OnB.xs : ∀ {u : List UInt8} (ks : List (List UInt8)), OnB u → OnB (xs u ks)
  | _, [], h => h
  | u, k :: ks, h => OnB.xs (u := x25519 k u) ks (h.x k)
theorem xs_comm : ∀ {u : List UInt8} (k : List UInt8) (ks : List (List UInt8)), OnB u → x25519 k (xs u ks) = xs (x25519 k u) ks
  | _, _, [], _ => rfl
  | u, k, l :: ks, h => by
    show x25519 k (xs (x25519 l u) ks) = xs (x25519 l (x25519 k u)) ks
    rw [xs_comm k ks (h.x l), x_comm k l h]
theorem chainGo_eq : ∀ {u : List UInt8} (ks : List (List UInt8)), OnB u → (∀ k ∈ ks, k.length = 32) → chainGo u ks = (xs u ks, 0)
  | _, [], _, _ => rfl
  | u, k :: ks, h, hk => by
    rw [chainGo, sharedR_eq (hk k (List.mem_cons_self ..)) h, if_neg (by simp)]
    exact chainGo_eq ks (h.x k) fun x hx => hk x (List.mem_cons_of_mem _ hx)
theorem chainR_eq {u : List UInt8} (ks : List (List UInt8)) (h : OnB u) (hk : ∀ k ∈ ks, k.length = 32) (hn : ks.length ≤ 16) : chainR u ks = (xs u ks, 0) := by
  unfold chainR
  rw [if_neg (fun hx => hx fun s hs => by rcases List.mem_cons.1 hs with rfl | hs; exact h.1; exact hk s hs), if_neg (by omega)]
  exact chainGo_eq ks h hk
end Go.Cv

/- A header that is made, peeled hop by hop: plain lists, no program. -/
namespace Go.Hd
open Go.Sha Go.Cv
theorem xors_append : ∀ (a b f : List UInt8), xors (a ++ b) f = xors a f ++ xors b (f.drop a.length)
  | [], b, f => by simp [xors]
  | x :: a, b, [] => by simp [xors]
  | x :: a, b, y :: f => by
    have := xors_append a b f
    unfold xors at this ⊢
    rw [List.cons_append, List.zipWith_cons_cons, List.zipWith_cons_cons, this, List.cons_append, List.length_cons, List.drop_succ_cons]
theorem xors_take : ∀ (t f : List UInt8) (n : Nat), (xors t f).take n = xors (t.take n) f
  | [], f, n => by simp [xors]
  | x :: t, [], n => by simp [xors]
  | x :: t, y :: f, 0 => by simp [xors]
  | x :: t, y :: f, n + 1 => by
    have := xors_take t f n
    unfold xors at this ⊢
    rw [List.zipWith_cons_cons, List.take_succ_cons, List.take_succ_cons, List.zipWith_cons_cons, this]
theorem xors_drop : ∀ (t f : List UInt8) (n : Nat), (xors t f).drop n = xors (t.drop n) (f.drop n)
  | [], f, n => by simp [xors]
  | x :: t, [], n => by cases n <;> simp [xors]
  | x :: t, y :: f, 0 => by simp [xors]
  | x :: t, y :: f, n + 1 => by
    have := xors_drop t f n
    unfold xors at this ⊢
    rw [List.zipWith_cons_cons, List.drop_succ_cons, List.drop_succ_cons, List.drop_succ_cons, this]
theorem xors_xors : ∀ (t f : List UInt8), t.length ≤ f.length → xors (xors t f) f = t
  | [], f, _ => by simp [xors]
  | x :: t, [], h => by simp at h
  | x :: t, y :: f, h => by
    have := xors_xors t f (by simpa using h)
    unfold xors at this ⊢
    rw [List.zipWith_cons_cons, List.zipWith_cons_cons, this, UInt8.xor_assoc, UInt8.xor_self, UInt8.xor_zero]
theorem xors_zero : ∀ (n : Nat) (f : List UInt8), f.length = n → xors (List.replicate n 0) f = f
  | 0, [], _ => by simp [xors]
  | 0, _ :: _, h => by simp at h
  | n + 1, [], h => by simp at h
  | n + 1, y :: f, h => by
    have := xors_zero n f (by simpa using h)
    unfold xors at this ⊢
    rw [List.replicate_succ, List.zipWith_cons_cons, this, UInt8.zero_xor]
/-- The bytes of a hop's flow. -/
def fl (k : HK) : List UInt8 := stream k.flow zeros12 0 240
theorem fl_len (k : HK) : (fl k).length = 240 := stream_len _ _ _ _
theorem flowX_eq (k : HK) (t : List UInt8) (a : Nat) : flowX k t a = xors t ((fl k).drop a) := rfl
theorem flowX_back (k : HK) (t u : List UInt8) (h : t.length ≤ 240) : flowX k (flowX k t 0 ++ u) 0 = t ++ flowX k u t.length := by
  have hl : (xors t (fl k)).length = t.length := by rw [xors_len, fl_len]; omega
  rw [flowX_eq, flowX_eq, flowX_eq, List.drop_zero, xors_append, xors_xors t _ (by rw [fl_len]; omega), hl]
theorem flowX_zeros (k : HK) : flowX k (List.replicate 40 0) 200 = (fl k).drop 200 := by
  rw [flowX_eq]
  exact xors_zero 40 _ (by rw [List.length_drop, fl_len])
theorem take_drop_app {a b c : List UInt8} (ha : a.length = 24) (hb : b.length = 16) (_hc : c.length = 200) : (a ++ b ++ c).take 200 = a ++ b ++ c.take 160 := by
  rw [List.take_append, List.take_of_length_le (by simp [ha, hb])]
  congr 2
  simp [ha, hb]
/-- The list's last bytes are those of the filler so far. -/
theorem list_tail {pad : List UInt8} (hp : pad.length = 200) : ∀ (r : List (List UInt8 × HK)) (g : List UInt8), r ≠ [] → (∀ x ∈ r, x.1.length = 24) → g.length + 40 * r.length ≤ 200 →
    (listR pad (fillGo g (r.map (·.2)).dropLast) r).2.drop (200 - g.length) = g
  | [], _, h, _, _ => absurd rfl h
  | [(b, k)], g, _, hb, hg => by
    have hb1 : b.length = 24 := hb (b, k) (List.mem_cons_self ..)
    simp only [List.length_cons, List.length_nil] at hg
    rw [listR_cons]
    unfold restR
    simp only [List.length_nil, if_true, List.map_cons, List.map_nil, List.dropLast_singleton, fillGo]
    have hl : (flowX k ((b ++ (listR pad g []).1 ++ (listR pad g []).2).take (200 - g.length)) 0).length = 200 - g.length := by
      have h1 : ((b ++ (listR pad g []).1 ++ (listR pad g []).2).take (200 - g.length)).length = 200 - g.length := by
        rw [List.length_take, List.length_append, List.length_append, hb1]
        simp only [listR, List.length_replicate, hp]
        omega
      rw [flowX_len _ (by omega), h1]
    rw [List.drop_append, hl, Nat.sub_self, List.drop_zero, List.drop_of_length_le (by omega), List.nil_append]
  | (b, k) :: x :: r, g, _, hb, hg => by
    have hb1 : b.length = 24 := hb (b, k) (List.mem_cons_self ..)
    simp only [List.length_cons] at hg
    have hbr : ∀ y ∈ x :: r, y.1.length = 24 := fun y hy => hb y (List.mem_cons_of_mem _ hy)
    have hf : fillGo g (((b, k) :: x :: r).map (·.2)).dropLast = fillGo (flowX k (g ++ List.replicate 40 0) (240 - (g.length + 40))) ((x :: r).map (·.2)).dropLast := rfl
    rw [hf]
    have hgl : (flowX k (g ++ List.replicate 40 0) (240 - (g.length + 40))).length = g.length + 40 := by
      rw [flowX_len _ (by simp; omega)]; simp
    have ih := list_tail hp (x :: r) (flowX k (g ++ List.replicate 40 0) (240 - (g.length + 40))) (by simp) hbr (by rw [hgl]; simp only [List.length_cons]; omega)
    rw [hgl] at ih
    have hfl : (fillGo (flowX k (g ++ List.replicate 40 0) (240 - (g.length + 40))) ((x :: r).map (·.2)).dropLast).length ≤ 200 := by
      rw [fillGo_len _ _ (by rw [hgl]; simp; omega), hgl]
      simp
      omega
    obtain ⟨hl1, hl2⟩ := listR_len (fill := fillGo (flowX k (g ++ List.replicate 40 0) (240 - (g.length + 40))) ((x :: r).map (·.2)).dropLast) hp hfl (x :: r) hbr
    generalize hF : fillGo (flowX k (g ++ List.replicate 40 0) (240 - (g.length + 40))) ((x :: r).map (·.2)).dropLast = F at *
    rw [listR_cons]
    unfold restR
    rw [if_neg (by simp)]
    rw [take_drop_app hb1 hl1 hl2, flowX_eq, List.drop_zero, xors_drop]
    have e1 : (b ++ (listR pad F (x :: r)).1 ++ (listR pad F (x :: r)).2.take 160).drop (200 - g.length) = ((listR pad F (x :: r)).2.drop (200 - (g.length + 40))).take g.length := by
      rw [List.drop_append, List.drop_of_length_le (by rw [List.length_append, hb1, hl1]; omega), List.nil_append, List.length_append, hb1, hl1, List.drop_take]
      rw [show 200 - g.length - (24 + 16) = 200 - (g.length + 40) by omega]
      congr 1
      omega
    rw [e1, ih, flowX_eq, xors_take, List.take_append_of_le_length (Nat.le_refl _), List.take_length]
    rw [show 240 - (g.length + 40) = 200 - g.length by omega]
    exact xors_xors _ _ (by rw [List.length_drop, fl_len]; omega)
/-- A list that is opened: not the last one. -/
theorem open_on {pad : List UInt8} (hp : pad.length = 200) (b : List UInt8) (k : HK) (x : List UInt8 × HK) (r : List (List UInt8 × HK)) (g : List UInt8) (hb : ∀ y ∈ (b, k) :: x :: r, y.1.length = 24) (hg : g.length + 40 * (r.length + 2) ≤ 200) :
    flowX k ((listR pad (fillGo g (((b, k) :: x :: r).map (·.2)).dropLast) ((b, k) :: x :: r)).2 ++ List.replicate 40 0) 0 = b ++ (listR pad (fillGo g (((b, k) :: x :: r).map (·.2)).dropLast) (x :: r)).1 ++ (listR pad (fillGo g (((b, k) :: x :: r).map (·.2)).dropLast) (x :: r)).2 := by
  have hb1 : b.length = 24 := hb (b, k) (List.mem_cons_self ..)
  have hbr : ∀ y ∈ x :: r, y.1.length = 24 := fun y hy => hb y (List.mem_cons_of_mem _ hy)
  have hf : fillGo g (((b, k) :: x :: r).map (·.2)).dropLast = fillGo (flowX k (g ++ List.replicate 40 0) (240 - (g.length + 40))) ((x :: r).map (·.2)).dropLast := rfl
  rw [hf]
  have hgl : (flowX k (g ++ List.replicate 40 0) (240 - (g.length + 40))).length = g.length + 40 := by
    rw [flowX_len _ (by simp; omega)]; simp
  have ih := list_tail hp (x :: r) (flowX k (g ++ List.replicate 40 0) (240 - (g.length + 40))) (by simp) hbr (by rw [hgl]; simp only [List.length_cons]; omega)
  rw [hgl] at ih
  have hfl : (fillGo (flowX k (g ++ List.replicate 40 0) (240 - (g.length + 40))) ((x :: r).map (·.2)).dropLast).length ≤ 200 := by
    rw [fillGo_len _ _ (by rw [hgl]; simp; omega), hgl]
    simp
    omega
  obtain ⟨hl1, hl2⟩ := listR_len (fill := fillGo (flowX k (g ++ List.replicate 40 0) (240 - (g.length + 40))) ((x :: r).map (·.2)).dropLast) hp hfl (x :: r) hbr
  generalize hF : fillGo (flowX k (g ++ List.replicate 40 0) (240 - (g.length + 40))) ((x :: r).map (·.2)).dropLast = F at *
  rw [listR_cons]
  unfold restR
  rw [if_neg (by simp), take_drop_app hb1 hl1 hl2]
  have hlen : (b ++ (listR pad F (x :: r)).1 ++ (listR pad F (x :: r)).2.take 160).length = 200 := by
    rw [List.length_append, List.length_append, hb1, hl1, List.length_take, hl2]; rfl
  rw [flowX_back _ _ _ (by omega), hlen, flowX_zeros, List.append_assoc _ (List.take 160 _)]
  congr 1
  have e2 : (listR pad F (x :: r)).2.drop 160 = (fl k).drop 200 := by
    have := congrArg (List.drop g.length) ih
    rw [List.drop_drop, show 200 - (g.length + 40) + g.length = 160 by omega] at this
    rw [this, flowX_eq, xors_drop, List.drop_append, List.drop_of_length_le (Nat.le_refl _), Nat.sub_self, List.drop_zero, List.nil_append, List.drop_drop]
    rw [show 240 - (g.length + 40) + g.length = 200 by omega]
    exact xors_zero 40 _ (by rw [List.length_drop, fl_len])
  rw [← e2, List.take_append_drop]
/-- The last one. -/
theorem open_last {pad : List UInt8} (hp : pad.length = 200) (b : List UInt8) (k : HK) (g : List UInt8) (hb : b.length = 24) (hg : g.length ≤ 160) :
    (flowX k ((listR pad g [(b, k)]).2 ++ List.replicate 40 0) 0).take 24 = b := by
  rw [listR_cons]
  unfold restR
  rw [if_pos (by simp)]
  have hl : ((b ++ (listR pad g []).1 ++ (listR pad g []).2).take (200 - g.length)).length = 200 - g.length := by
    rw [List.length_take, List.length_append, List.length_append, hb]
    simp only [listR, List.length_replicate, hp]
    omega
  rw [List.append_assoc, flowX_back _ _ _ (by omega), List.take_append_of_le_length (by omega), List.take_take, Nat.min_eq_left (by omega), List.append_assoc, List.take_append_of_le_length (by omega), List.take_of_length_le (by omega)]
/-- The secrets of hops whose points lie on the curve. -/
def secs : List (List UInt8) → List (List UInt8) → List (List UInt8)
  | _, [] => []
  | by_, p :: ps => xs p by_ :: secs (by_ ++ [(keysOf (xs p by_)).blind]) ps
theorem blind_len (s : List UInt8) : (keysOf s).blind.length = 32 := derive_len _ _ _
theorem hopsGo_eq : ∀ (ps by_ : List (List UInt8)), (∀ p ∈ ps, OnB p) → (∀ b ∈ by_, b.length = 32) → by_.length + ps.length ≤ 17 → hopsGo by_ ps = (secs by_ ps, 0)
  | [], _, _, _, _ => rfl
  | p :: ps, by_, hp, hb, hl => by
    simp only [List.length_cons] at hl
    have hc := chainR_eq by_ (hp p (List.mem_cons_self ..)) hb (by omega)
    rw [hopsGo, hc, if_neg (by simp)]
    have ih := hopsGo_eq ps (by_ ++ [(keysOf (xs p by_)).blind]) (fun x hx => hp x (List.mem_cons_of_mem _ hx)) (fun x hx => by
      rcases List.mem_append.1 hx with h | h
      · exact hb x h
      · rw [List.mem_singleton.1 h]; exact blind_len _) (by simp; omega)
    simp only [ih]
    rw [if_neg (by simp), secs]
theorem secs_len : ∀ (ps by_ : List (List UInt8)), (secs by_ ps).length = ps.length
  | [], _ => rfl
  | p :: ps, by_ => by rw [secs, List.length_cons, secs_len ps, List.length_cons]
/-- A header, of the scalars so far and the hops that are left. -/
def stg (pad fill : List UInt8) (by_ : List (List UInt8)) (r : List (List UInt8 × HK)) : List UInt8 := xs base9 by_ ++ (listR pad fill r).1 ++ (listR pad fill r).2
theorem stg_parts {pad fill : List UInt8} {by_ : List (List UInt8)} {r : List (List UInt8 × HK)} (hp : pad.length = 200) (hf : fill.length ≤ 200) (hr : ∀ x ∈ r, x.1.length = 24) : (stg pad fill by_ r).length = 248 ∧ (stg pad fill by_ r).take 32 = xs base9 by_ ∧ (stg pad fill by_ r).drop 48 = (listR pad fill r).2 ∧ ((stg pad fill by_ r).drop 32).take 16 = (listR pad fill r).1 := by
  obtain ⟨h1, h2⟩ := listR_len hp hf r hr
  have h3 : (xs base9 by_).length = 32 := (onB_9.xs by_).1
  unfold stg
  generalize xs base9 by_ = a at *
  generalize (listR pad fill r).1 = b at *
  generalize (listR pad fill r).2 = c at *
  refine ⟨by simp [h1, h2, h3], ?_, ?_, ?_⟩
  · rw [List.append_assoc, List.take_append_of_le_length (by omega), List.take_of_length_le (by omega)]
  · rw [List.drop_append, List.drop_of_length_le (by simp [h1, h3]), List.nil_append, List.length_append, h1, h3]; rfl
  · rw [List.append_assoc, List.drop_append, List.drop_of_length_le (by omega), List.nil_append, h3, Nat.sub_self, List.drop_zero, List.take_append_of_le_length (by omega), List.take_of_length_le (by omega)]
theorem shared_stage {priv : List UInt8} (by_ : List (List UInt8)) (h : priv.length = 32) : sharedR priv (xs base9 by_) = (xs (x25519 priv base9) by_, 0) := by
  rw [sharedR_eq h (onB_9.xs by_), xs_comm _ _ onB_9]
theorem xs_snoc (u : List UInt8) (ks : List (List UInt8)) (k : List UInt8) : xs u (ks ++ [k]) = x25519 k (xs u ks) := by
  unfold xs
  rw [List.foldl_append]
  rfl
end Go.Hd
