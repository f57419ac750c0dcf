/- What functions of the given program do, one after the other, told by that layer. -/
import Derived.Test.YtfimmdafjalonaaDoorBKey2
namespace Go.Proofs.D
open Go.Lg Go.Sha
set_option maxRecDepth 100000

theorem or_low {a b i : Nat} (h : a < 2 ^ i) : a ||| b * 2 ^ i = a + b * 2 ^ i := by
  rw [Nat.or_comm, Nat.add_comm, Nat.mul_comm, Nat.two_pow_add_eq_or_of_lt h]
theorem u8_u32 (x : UInt8) : IntKind.u32.wrap (x.toNat : Int) = (x.toNat : Int) := by
  have := x.toNat_lt
  rw [IntKind.wrap_u32]; omega
theorem shl_u32 (x : UInt8) (k : Nat) (hk : k ≤ 24) : IntKind.u32.wrap ((x.toNat : Int) * 2 ^ (min k IntKind.u32.bits)) = ((x.toNat * 2 ^ k : Nat) : Int) := by
  have h1 := x.toNat_lt
  have h2 : min k IntKind.u32.bits = k := by show min k 32 = k; omega
  have h3 : x.toNat * 2 ^ k < 4294967296 := by
    have := Nat.mul_le_mul (show x.toNat ≤ 255 by omega) (Nat.pow_le_pow_right (show 0 < 2 by decide) hk)
    omega
  rw [h2]
  have e : (x.toNat : Int) * 2 ^ k = ((x.toNat * 2 ^ k : Nat) : Int) := by simp
  rw [e, IntKind.wrap_u32]
  omega
theorem word_eq (a b c d : UInt8) (r : List UInt8) : bits .or .u32 (bits .or .u32 (bits .or .u32 (IntKind.u32.wrap (a.toNat : Int)) (IntKind.u32.wrap (IntKind.u32.wrap (b.toNat : Int) * 2 ^ (min 8 IntKind.u32.bits)))) (IntKind.u32.wrap (IntKind.u32.wrap (c.toNat : Int) * 2 ^ (min 16 IntKind.u32.bits)))) (IntKind.u32.wrap (IntKind.u32.wrap (d.toNat : Int) * 2 ^ (min 24 IntKind.u32.bits))) = ((le (a :: b :: c :: d :: r) : Nat) : Int) := by
  have h1 := a.toNat_lt
  have h2 := b.toNat_lt
  have h3 := c.toNat_lt
  have h4 := d.toNat_lt
  rw [u8_u32, u8_u32, u8_u32, u8_u32, shl_u32 b 8 (by decide), shl_u32 c 16 (by decide), shl_u32 d 24 (by decide)]
  rw [Go.Lg.u32_or (by omega) (by omega), or_low (by omega), Go.Lg.u32_or (by omega) (by omega), or_low (by omega), Go.Lg.u32_or (by omega) (by omega), or_low (by omega)]
  rfl

section
variable {B : Nat} {S R : Ents} {Q : Value → Ents → Prop}

theorem wordC {s : List UInt8} (hs : 4 ≤ s.length) (H : Q (.int .u32 (le s : Nat)) S) :
    CallWp Tryd.prog B 138 #[.string (str s)] Q S := by
  obtain ⟨a, b, c, d, r, rfl⟩ : ∃ a b c d r, s = a :: b :: c :: d :: r := by
    match s, hs with
    | a :: b :: c :: d :: r, _ => exact ⟨a, b, c, d, r, rfl⟩
  refine CallWp.enter (args := [_]) Tryd.func138 rfl Tryd.ntmps138 rfl ?_
  refine Wp.seq (Wp.region ?_)
  refine OWp.evs 1 rfl ?_
  refine OWp.nil ?_
  refine Wp.seq (Wp.regionDraw [0, 1, 2, 3, 4, 5, 6, 7, 8, 9, 10, 11, 12, 13, 14, 15, 16, 17, 18] [] rfl (by decide +kernel) ?_)
  refine DWp.evs 1 rfl ?_
  refine DWp.g rfl rfl rfl rfl (Gives.indexStr (b := a) rfl rfl rfl rfl (by decide) rfl) ?_
  refine DWp.evs 2 rfl ?_
  refine DWp.g rfl rfl rfl rfl (Gives.indexStr (b := b) rfl rfl rfl rfl (by decide) rfl) ?_
  refine DWp.evs 4 rfl ?_
  refine DWp.g rfl rfl rfl rfl (Gives.indexStr (b := c) rfl rfl rfl rfl (by decide) rfl) ?_
  refine DWp.evs 4 rfl ?_
  refine DWp.g rfl rfl rfl rfl (Gives.indexStr (b := d) rfl rfl rfl rfl (by decide) rfl) ?_
  refine DWp.evs 4 rfl ?_
  refine DWp.nil ?_
  refine Wp.ret ⟨trivial, _, ⟨_, _, rfl, rfl, rfl⟩, ?_⟩
  rw [word_eq a b c d r]; exact H
theorem rlC {x n : Nat} {v k : Int} (hv : v = (x : Int)) (hx : x < 4294967296) (hn : n ≤ 32) (hk : bits .and .u64 (IntKind.u64.wrap k) 31 = (n : Int)) (h : Q (.int .u32 (rl x n : Nat)) S) :
    CallWp Tryd.prog B 136 #[.int .u32 v, .int .i64 k] Q S := by
  subst hv
  exact rotC hx hk (show n + (32 - n) = 32 by omega) h

theorem rl_lt {x n : Nat} (hx : x < 4294967296) (hn : n ≤ 32) : rl x n < 4294967296 := by
  obtain ⟨m, hm⟩ : ∃ m, n + m = 32 := ⟨32 - n, by omega⟩
  have em : 32 - n = m := by omega
  unfold rl
  rw [em]
  have hlt : x / 2 ^ m < 2 ^ n := by
    rw [Nat.div_lt_iff_lt_mul (Nat.two_pow_pos m), ← Nat.pow_add, hm]; exact hx
  have hp : (4294967296 : Nat) = 2 ^ n * 2 ^ m := by rw [← Nat.pow_add, hm]
  have hmod : x * 2 ^ n % 4294967296 = 2 ^ n * (x % 2 ^ m) := by
    rw [hp, Nat.mul_comm x, Nat.mul_mod_mul_left]
  have hz := Nat.mod_lt x (Nat.two_pow_pos m)
  rw [hmod]
  have : 2 ^ n * (x % 2 ^ m + 1) ≤ 2 ^ n * 2 ^ m := Nat.mul_le_mul_left _ hz
  rw [Nat.mul_add, Nat.mul_one, ← hp] at this
  omega
theorem add_lt (x y : Nat) : add x y < 4294967296 := Nat.mod_lt _ (by decide)

theorem quarterC {a b c d : Nat} (_ha : a < 4294967296) (hb : b < 4294967296) (_hc : c < 4294967296) (hd : d < 4294967296)
    (H : Q (.tuple #[.int .u32 ((quarter a b c d).1 : Nat), .int .u32 ((quarter a b c d).2.1 : Nat), .int .u32 ((quarter a b c d).2.2.1 : Nat), .int .u32 ((quarter a b c d).2.2.2 : Nat)]) S) :
    CallWp Tryd.prog B 150 #[.int .u32 (a : Int), .int .u32 (b : Int), .int .u32 (c : Int), .int .u32 (d : Int)] Q S := by
  have r : ∀ x n, x < 4294967296 → n ≤ 32 → rl x n < 4294967296 := fun x n => rl_lt
  have x32 : ∀ a b, a < 4294967296 → b < 4294967296 → a ^^^ b < 4294967296 := fun a b => xor_lt32
  obtain ⟨a1, ea1⟩ : ∃ a1, a1 = add a b := ⟨_, rfl⟩
  have ha1 : a1 < 4294967296 := ea1 ▸ add_lt _ _
  obtain ⟨d1, ed1⟩ : ∃ d1, d1 = rl (d ^^^ a1) 16 := ⟨_, rfl⟩
  have hd1 : d1 < 4294967296 := ed1 ▸ r _ _ (x32 _ _ hd ha1) (by decide)
  obtain ⟨c1, ec1⟩ : ∃ c1, c1 = add c d1 := ⟨_, rfl⟩
  have hc1 : c1 < 4294967296 := ec1 ▸ add_lt _ _
  obtain ⟨b1, eb1⟩ : ∃ b1, b1 = rl (b ^^^ c1) 12 := ⟨_, rfl⟩
  have hb1 : b1 < 4294967296 := eb1 ▸ r _ _ (x32 _ _ hb hc1) (by decide)
  obtain ⟨a2, ea2⟩ : ∃ a2, a2 = add a1 b1 := ⟨_, rfl⟩
  have ha2 : a2 < 4294967296 := ea2 ▸ add_lt _ _
  obtain ⟨d2, ed2⟩ : ∃ d2, d2 = rl (d1 ^^^ a2) 8 := ⟨_, rfl⟩
  have hd2 : d2 < 4294967296 := ed2 ▸ r _ _ (x32 _ _ hd1 ha2) (by decide)
  obtain ⟨c2, ec2⟩ : ∃ c2, c2 = add c1 d2 := ⟨_, rfl⟩
  have hc2 : c2 < 4294967296 := ec2 ▸ add_lt _ _
  obtain ⟨b2, eb2⟩ : ∃ b2, b2 = rl (b1 ^^^ c2) 7 := ⟨_, rfl⟩
  have hq : quarter a b c d = (a2, b2, c2, d2) := by
    rw [eb2, ec2, ed2, ea2, eb1, ec1, ed1, ea1]; rfl
  rw [hq] at H
  refine CallWp.enter (args := [_, _, _, _]) Tryd.func150 rfl Tryd.ntmps150 rfl ?_
  refine Wp.seq (Wp.region ?_)
  refine OWp.evs 4 rfl ?_
  refine OWp.nil ?_
  refine Wp.seq (Wp.region ?_)
  refine OWp.evs 4 rfl ?_
  refine OWp.nil ?_
  refine Wp.weaken (E' := [(0, .int .u32 (a1 : Int)), (1, .int .u32 (b : Int)), (2, .int .u32 (c : Int)), (3, .int .u32 (d : Int))]) (.cons' rfl (int_eq (by rw [u32_add, ea1]; rfl)) (.cons rfl (.cons rfl (.cons rfl (.nil _))))) (fun _ h => h) ?_
  refine Wp.seq (Wp.region ?_)
  refine OWp.evs 3 rfl ?_
  refine OWp.step rfl (Step.call rfl rfl rfl rfl rfl rfl ((rlC (n := 16) (Go.Lg.u32_xor hd ha1) (x32 _ _ hd ha1) (by decide) (by decide +kernel) ?_)))
  rw [← ed1]
  refine OWp.evs 1 rfl ?_
  refine OWp.nil ?_
  refine Wp.seq (Wp.region ?_)
  refine OWp.evs 4 rfl ?_
  refine OWp.nil ?_
  refine Wp.weaken (E' := [(0, .int .u32 (a1 : Int)), (1, .int .u32 (b : Int)), (2, .int .u32 (c1 : Int)), (3, .int .u32 (d1 : Int))]) (.cons rfl (.cons rfl (.cons' rfl (int_eq (by rw [u32_add, ec1]; rfl)) (.cons rfl (.nil _))))) (fun _ h => h) ?_
  refine Wp.seq (Wp.region ?_)
  refine OWp.evs 3 rfl ?_
  refine OWp.step rfl (Step.call rfl rfl rfl rfl rfl rfl ((rlC (n := 12) (Go.Lg.u32_xor hb hc1) (x32 _ _ hb hc1) (by decide) (by decide +kernel) ?_)))
  rw [← eb1]
  refine OWp.evs 1 rfl ?_
  refine OWp.nil ?_
  refine Wp.seq (Wp.region ?_)
  refine OWp.evs 4 rfl ?_
  refine OWp.nil ?_
  refine Wp.weaken (E' := [(0, .int .u32 (a2 : Int)), (1, .int .u32 (b1 : Int)), (2, .int .u32 (c1 : Int)), (3, .int .u32 (d1 : Int))]) (.cons' rfl (int_eq (by rw [u32_add, ea2]; rfl)) (.cons rfl (.cons rfl (.cons rfl (.nil _))))) (fun _ h => h) ?_
  refine Wp.seq (Wp.region ?_)
  refine OWp.evs 3 rfl ?_
  refine OWp.step rfl (Step.call rfl rfl rfl rfl rfl rfl ((rlC (n := 8) (Go.Lg.u32_xor hd1 ha2) (x32 _ _ hd1 ha2) (by decide) (by decide +kernel) ?_)))
  rw [← ed2]
  refine OWp.evs 1 rfl ?_
  refine OWp.nil ?_
  refine Wp.seq (Wp.region ?_)
  refine OWp.evs 4 rfl ?_
  refine OWp.nil ?_
  refine Wp.weaken (E' := [(0, .int .u32 (a2 : Int)), (1, .int .u32 (b1 : Int)), (2, .int .u32 (c2 : Int)), (3, .int .u32 (d2 : Int))]) (.cons rfl (.cons rfl (.cons' rfl (int_eq (by rw [u32_add, ec2]; rfl)) (.cons rfl (.nil _))))) (fun _ h => h) ?_
  refine Wp.seq (Wp.region ?_)
  refine OWp.evs 3 rfl ?_
  refine OWp.step rfl (Step.call rfl rfl rfl rfl rfl rfl ((rlC (n := 7) (Go.Lg.u32_xor hb1 hc2) (x32 _ _ hb1 hc2) (by decide) (by decide +kernel) ?_)))
  rw [← eb2]
  refine OWp.evs 1 rfl ?_
  refine OWp.nil ?_
  refine Wp.seq (Wp.region ?_)
  refine OWp.evs 8 rfl ?_
  refine OWp.nil ?_
  refine Wp.ret ⟨trivial, _, ⟨_, _, rfl, rfl, _, _, rfl, rfl, _, _, rfl, rfl, _, _, rfl, rfl, rfl⟩, ?_⟩
  exact H
end
end Go.Proofs.D
