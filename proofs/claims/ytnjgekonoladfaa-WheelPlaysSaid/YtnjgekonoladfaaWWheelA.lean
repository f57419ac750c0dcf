/- What functions of the given program do, one after the other, told by that layer. -/
import Derived.Test.YtnjgekonoladfaaWWheelM
import Derived.Test.YtnjgekonoladfaaLgBits
namespace Go.Proofs.E
open Go.Lg Go.Whl
set_option maxRecDepth 100000

theorem i64_inc {a : Nat} (ha : a ≤ 281474976710656) : IntKind.i64.wrap ((a : Int) + 1) = ((a + 1 : Nat) : Int) := by rw [i64_id] <;> omega
theorem pow6 (k : Nat) : (2 : Nat) ^ (6 * k) = 64 ^ k := by rw [Nat.pow_mul]
theorem i63_and63 (x : Nat) (h : x < 9223372036854775808) : bits .and .i64 (x : Int) 63 = ((x % 64 : Nat) : Int) := by
  have h1 := Go.Lg.i63_and (a := x) (b := 63) h (by decide)
  rw [Nat.and_two_pow_sub_one_eq_mod x 6] at h1
  exact h1
theorem shr_dig {a k : Nat} (ha : a < most) (hk : k ≤ 6) : bits .and .i64 ((a : Int).fdiv (2 ^ (min (6 * k) IntKind.i64.bits))) 63 = ((dig a k : Nat) : Int) := by
  have e1 : min (6 * k) IntKind.i64.bits = 6 * k := by show min (6 * k) 64 = _; omega
  have e2 : (a : Int).fdiv (2 ^ (6 * k)) = ((a / 2 ^ (6 * k) : Nat) : Int) := by
    rw [Int.fdiv_eq_ediv_of_nonneg _ (by exact Int.le_of_lt (Int.pow_pos (by decide)))]
    simp
  have h3 : a / 2 ^ (6 * k) ≤ a := Nat.div_le_self _ _
  have hm : most = 4398046511104 := by decide
  rw [e1, e2, i63_and63 _ (by omega), pow6]
  rfl

section
variable {B : Nat} {S R : Ents} {Q : Value → Ents → Prop}

theorem newC (H : ∀ p, B ≤ p → Q (pt p) (wE p (fun _ => .slice none 0 0) 0 0 0 :: S)) : CallWp Try.prog B 8 #[] Q S := by
  refine CallWp.enter (args := []) Try.func8 rfl Try.ntmps8 rfl ?_
  refine Wp.seq (Wp.region ?_)
  refine OWp.evs 1 rfl ?_
  refine OWp.nil ?_
  refine Wp.seq (Wp.region ?_)
  refine OWp.g rfl rfl (Gives.build rfl rfl) ?_
  refine OWp.step rfl (Step.box rfl rfl rfl ?_); intro p hBp hLp
  refine OWp.evs 1 rfl ?_
  refine OWp.nil ?_
  refine Wp.ret ⟨trivial, _, ⟨_, _, rfl, rfl, rfl⟩, ?_⟩
  exact H p hBp
theorem digitC {a k : Nat} {za zk : Int} (hza : za = (a : Int)) (hzk : zk = (k : Int)) (ha : a < most) (hk : k ≤ 6) (H : Q (.int .i64 (dig a k : Nat)) S) :
    CallWp Try.prog B 32 #[.int .i64 za, .int .i64 zk] Q S := by
  subst hza hzk
  refine CallWp.enter (args := [_, _]) Try.func32 rfl Try.ntmps32 rfl ?_
  refine Wp.seq (Wp.region ?_)
  refine OWp.evs 1 rfl ?_
  refine OWp.nil ?_
  refine Wp.seq (Wp.region ?_)
  refine OWp.evs 3 rfl ?_
  refine OWp.g rfl rfl (Gives.shr (m := 6 * k) rfl rfl rfl (by rw [i64_id] <;> omega)) ?_
  refine OWp.evs 2 rfl ?_
  refine OWp.nil ?_
  refine Wp.ret ⟨trivial, _, ⟨_, _, rfl, rfl, rfl⟩, ?_⟩
  rw [shr_dig ha hk]; exact H
theorem levelC {p now put many a : Nat} {v : Nat → Value} {za : Int} (hza : za = (a : Int)) (hm : wE p v now put many ∈ S) (hn : now < most) (ha : a < most) (H : Q (.int .i64 (lev now a : Nat)) S) :
    CallWp Try.prog B 31 #[pt p, .int .i64 za] Q S := by
  subst hza
  refine CallWp.enter (args := [_, _]) Try.func31 rfl Try.ntmps31 rfl ?_
  refine Wp.seq (Wp.region ?_)
  refine OWp.evs 1 rfl ?_
  refine OWp.nil ?_
  refine Wp.seq ?_
  refine Wp.seq (Wp.region ?_)
  refine OWp.evs 1 rfl ?_
  refine OWp.nil ?_
  refine Wp.block ?_
  refine Wp.loopS (α := Nat) (fun k => k) (fun k => [(0, pt p), (1, .int .i64 (a : Int)), (5, .int .i64 (k : Int))]) (fun _ => S) (fun k => k ≤ 6 ∧ levF now a k = lev now a) 6 ?_ (.refl _) ⟨Nat.le_refl _, rfl⟩ ?_
  · exact .cons rfl (.cons rfl (.cons rfl (.nil _)))
  rintro k ⟨hk, hl⟩
  refine Wp.seq ?_
  refine Wp.seq (Wp.region ?_)
  refine OWp.evs 2 rfl ?_
  refine OWp.nil ?_
  refine Wp.cond rfl (fun h1 => ?_) (fun h1 => ?_)
  · have h1 := of_decide_eq_true h1
    obtain ⟨j, rfl⟩ : ∃ j, k = j + 1 := ⟨k - 1, by omega⟩
    refine Wp.skip ?_
    refine Wp.seq ?_
    refine Wp.block ?_
    refine Wp.seq (Wp.regionDraw [0, 1, 3, 4, 5, 6, 7, 2, 8, 9] [2, 8] rfl (by decide +kernel) ?_)
    refine DWp.evs 5 rfl ?_
    refine DWp.load hm rfl rfl rfl rfl rfl rfl (wv_now rfl) ?_
    refine DWp.evs 1 rfl ?_
    refine DWp.stepGrow rfl rfl rfl (Step.call rfl rfl rfl rfl rfl rfl ((digitC rfl rfl ha hk ?_)))
    refine ⟨fun _ hy => hy, ?_⟩
    refine DWp.stepGrow rfl rfl rfl (Step.call rfl rfl rfl rfl rfl rfl ((digitC rfl rfl hn hk ?_)))
    refine ⟨fun _ hy => hy, ?_⟩
    refine DWp.evs 1 rfl ?_
    refine DWp.nil ?_
    refine Wp.cond rfl (fun h2 => ?_) (fun h2 => ?_)
    · have h2 := ndT h2
      refine Wp.seq (Wp.region ?_)
      refine OWp.evs 2 rfl ?_
      refine OWp.nil ?_
      refine Wp.ret ⟨trivial, _, ⟨_, _, rfl, rfl, rfl⟩, ?_⟩
      have : levF now a (j + 1) = j + 1 := by unfold levF; rw [if_neg (by omega)]
      rw [← hl, this] at H
      exact H
    have h2 := ndF h2
    refine Wp.skip ?_
    refine Wp.region ?_
    refine OWp.evs 3 rfl ?_
    refine OWp.nil ?_
    refine ⟨j, by omega, ⟨by omega, ?_⟩, .cons rfl (.cons rfl (.cons' rfl (int_eq (by rw [i64_id] <;> omega)) (.nil _))), .refl _⟩
    rw [← hl]; exact (if_pos (by omega)).symm
  have h1 := of_decide_eq_false h1
  obtain rfl : k = 0 := by omega
  refine Wp.exit ?_
  refine Wp.seq (Wp.region ?_)
  refine OWp.evs 1 rfl ?_
  refine OWp.nil ?_
  refine Wp.ret ⟨trivial, _, ⟨_, _, rfl, rfl, rfl⟩, ?_⟩
  rw [← hl] at H; exact H
theorem placeC {p now put many a : Nat} {v : Nat → Value} {za : Int} (hza : za = (a : Int)) (hm : wE p v now put many ∈ S) (hn : now < most) (ha : a < most) (H : Q (.pointer (some ⟨p, slotAt now a, none⟩)) S) :
    CallWp Try.prog B 24 #[pt p, .int .i64 za] Q S := by
  subst hza
  have hl := lev_le now a
  have hd := dig_lt a (lev now a)
  refine CallWp.enter (args := [_, _]) Try.func24 rfl Try.ntmps24 rfl ?_
  refine Wp.seq (Wp.region ?_)
  refine OWp.evs 1 rfl ?_
  refine OWp.nil ?_
  refine Wp.seq (Wp.region ?_)
  refine OWp.evs 2 rfl ?_
  refine OWp.step rfl (Step.call rfl rfl rfl rfl rfl rfl ((levelC rfl hm hn ha ?_)))
  refine OWp.evs 1 rfl ?_
  refine OWp.nil ?_
  refine Wp.seq (Wp.regionDraw [0, 1, 2, 3, 5, 6, 7, 4, 8, 9] [4] rfl (by decide +kernel) ?_)
  refine DWp.evs 6 rfl ?_
  refine DWp.g rfl rfl rfl rfl (Gives.indexAddrArr ((lev now a)) rfl rfl rfl rfl rfl rfl (by omega)) ?_
  refine DWp.stepGrow rfl rfl rfl (Step.call rfl rfl rfl rfl rfl rfl ((digitC rfl rfl ha hl ?_)))
  refine ⟨fun _ hy => hy, ?_⟩
  refine DWp.g rfl rfl rfl rfl (Gives.indexAddrArr ((dig a (lev now a))) rfl rfl rfl rfl rfl rfl (by omega)) ?_
  refine DWp.evs 1 rfl ?_
  refine DWp.nil ?_
  refine Wp.ret ⟨trivial, _, ⟨_, _, rfl, rfl, rfl⟩, ?_⟩
  have e : 0 + 0 + lev now a * 64 + dig a (lev now a) * 1 = slotAt now a := by unfold slotAt; omega
  have e2 : Q (.pointer (some ⟨p, 0 + 0 + lev now a * 64 + dig a (lev now a) * 1, none⟩)) S := by rw [e]; exact H
  exact e2
end
end Go.Proofs.E
