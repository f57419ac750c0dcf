/- What functions of the given program do, one after the other, told by that layer. -/
import Derived.Test.YtfimmdafjalonaaDoorBShaW
import Derived.Test.YtfimmdafjalonaaDoorProg
namespace Go.Proofs.D
open Go.Lg Go.Sha
set_option maxRecDepth 100000

abbrev pt (b : Nat) : Value := .pointer (some ⟨b, 0, none⟩)
def u32s (l : List Nat) : List Value := l.map fun (x : Nat) => .int .u32 (x : Int)
theorem u32s_length (l : List Nat) : (u32s l).length = l.length := by simp [u32s]
theorem u32s_part {l : List Nat} {i : Nat} (h : i < l.length) : Lg.partAt Tryd.prog 120 (u32s l) (0 + i * 1) = some (.int .u32 (l.getD i 0 : Nat)) := by
  show (u32s l)[0 + i * 1]? = _
  rw [Nat.zero_add, Nat.mul_one]
  simp [u32s, h]
theorem u32s_set {l : List Nat} {o i x : Nat} (h : i < l.length) (ho : o = i) : wr (u32s l) o (Value.int .u32 (x : Int)).cells.toList = u32s (l.set i x) := by
  subst ho
  unfold wr u32s
  rw [List.set_eq_take_append_cons_drop, if_pos h]
  show List.take o _ ++ [Value.int .u32 (x : Int)] ++ List.drop (o + 1) _ = _
  simp [List.map_take, List.map_drop]
theorem getD_lt {l : List Nat} (h : ∀ x ∈ l, x < 4294967296) (i : Nat) : l.getD i 0 < 4294967296 := by
  rw [List.getD_eq_getElem?_getD]
  cases e : l[i]? with
  | none => simp
  | some x => exact h x (List.mem_of_getElem? e)
theorem u32_wrap (n : Nat) : IntKind.u32.wrap (n : Int) = ((n % 4294967296 : Nat) : Int) := by rw [IntKind.wrap_u32]; omega
theorem u32_add (a b : Nat) : IntKind.u32.wrap ((a : Int) + (b : Int)) = (((a + b) % 4294967296 : Nat) : Int) := by rw [IntKind.wrap_u32]; omega
theorem u32_fdiv (x k : Nat) (e : Nat) (he : min k IntKind.u32.bits = e) : ((x : Int)).fdiv (2 ^ (min k IntKind.u32.bits)) = ((x / 2 ^ e : Nat) : Int) := by
  rw [he, Int.fdiv_eq_ediv_of_nonneg _ (by exact Int.le_of_lt (Int.pow_pos (by decide)))]
  simp
theorem i64_sub {a b : Nat} (h : b ≤ a) (ha : a ≤ 281474976710656) : IntKind.i64.wrap ((a : Int) - (b : Int)) = ((a - b : Nat) : Int) := by rw [i64_id] <;> omega
theorem i64_inc {a : Nat} (ha : a ≤ 281474976710656) : IntKind.i64.wrap ((a : Int) + 1) = ((a + 1 : Nat) : Int) := by rw [i64_id] <;> omega
theorem and15 {i : Nat} (h : i < 9223372036854775808) : bits .and .i64 (i : Int) 15 = ((i % 16 : Nat) : Int) := by
  have := i63_and (a := i) (b := 15) h (by decide)
  rw [Nat.and_two_pow_sub_one_eq_mod i 4] at this
  exact this

theorem s0_term {x : Nat} (hx : x < 4294967296) : bits .xor .u32 (bits .xor .u32 (rr x 7 : Nat) (rr x 18 : Nat)) ((x : Int).fdiv (2 ^ (min 3 IntKind.u32.bits))) = (s0 x : Nat) := by
  rw [Lg.u32_xor (rr_lt hx (by decide)) (rr_lt hx (by decide)), u32_fdiv x 3 3 (by decide), Lg.u32_xor (xor_lt32 (rr_lt hx (by decide)) (rr_lt hx (by decide))) (by omega)]
  rfl
theorem s1_term {x : Nat} (hx : x < 4294967296) : bits .xor .u32 (bits .xor .u32 (rr x 17 : Nat) (rr x 19 : Nat)) ((x : Int).fdiv (2 ^ (min 10 IntKind.u32.bits))) = (s1 x : Nat) := by
  rw [Lg.u32_xor (rr_lt hx (by decide)) (rr_lt hx (by decide)), u32_fdiv x 10 10 (by decide), Lg.u32_xor (xor_lt32 (rr_lt hx (by decide)) (rr_lt hx (by decide))) (by omega)]
  rfl
theorem xor3_term {a b c : Nat} (ha : a < 4294967296) (hb : b < 4294967296) (hc : c < 4294967296) : bits .xor .u32 (bits .xor .u32 (a : Int) (b : Int)) (c : Int) = ((a ^^^ b ^^^ c : Nat) : Int) := by
  rw [Lg.u32_xor ha hb, Lg.u32_xor (xor_lt32 ha hb) hc]
theorem ch_term {e f g : Nat} (he : e < 4294967296) (hf : f < 4294967296) (hg : g < 4294967296) : bits .xor .u32 (g : Int) (bits .and .u32 (e : Int) (bits .xor .u32 (f : Int) (g : Int))) = (ch e f g : Nat) := by
  rw [Lg.u32_xor hf hg, Lg.u32_and he (xor_lt32 hf hg), Lg.u32_xor hg (and_lt32 (xor_lt32 hf hg))]
  rfl
theorem maj_term {a b c : Nat} (ha : a < 4294967296) (hb : b < 4294967296) (hc : c < 4294967296) : bits .or .u32 (bits .and .u32 (a : Int) (b : Int)) (bits .and .u32 (c : Int) (bits .or .u32 (a : Int) (b : Int))) = (maj a b c : Nat) := by
  rw [Lg.u32_or ha hb, Lg.u32_and ha hb, Lg.u32_and hc (or_lt32 ha hb), Lg.u32_or (and_lt32 hb) (and_lt32 (or_lt32 ha hb))]
  rfl

section
variable {B : Nat} {S R : Ents} {Q : Value → Ents → Prop}

theorem rotC {x : Nat} {k : Int} {n m : Nat} (hx : x < 4294967296) (hk : bits .and .u64 (IntKind.u64.wrap k) 31 = (n : Int)) (hnm : n + m = 32) (h : Q (.int .u32 ((x * 2 ^ n % 4294967296 + x / 2 ^ m : Nat) : Int)) S) :
    CallWp Tryd.prog B 136 #[.int .u32 (x : Int), .int .i64 k] Q S := by
  refine CallWp.enter (args := [_, _]) Tryd.func136 rfl Tryd.ntmps136 rfl ?_
  refine Wp.seq (Wp.region ?_)
  refine OWp.evs 1 rfl ?_
  refine OWp.nil ?_
  refine Wp.seq (Wp.region ?_)
  refine OWp.evs 4 rfl ?_
  refine OWp.nil ?_
  refine Wp.seq (Wp.region ?_)
  refine OWp.evs 2 rfl ?_
  refine OWp.g rfl rfl (Gives.shl (m := n) rfl rfl rfl hk) ?_
  refine OWp.evs 3 rfl ?_
  refine OWp.g rfl rfl (Gives.shr (m := m) rfl rfl rfl (by rw [hk, IntKind.wrap_u64]; omega)) ?_
  refine OWp.evs 2 rfl ?_
  refine OWp.nil ?_
  refine Wp.ret ⟨trivial, _, ⟨_, _, rfl, rfl, rfl⟩, ?_⟩
  rw [u32_turn hx (by omega) hnm]; exact h
theorem rrC {x j : Nat} {k : Int} (hx : x < 4294967296) (hj : j ≤ 32) (hk : bits .and .u64 (IntKind.u64.wrap k) 31 = ((32 - j : Nat) : Int)) (h : Q (.int .u32 (rr x j : Nat)) S) :
    CallWp Tryd.prog B 136 #[.int .u32 (x : Int), .int .i64 k] Q S := by
  refine rotC (n := 32 - j) (m := j) hx hk (by omega) ?_
  rw [Nat.add_comm]
  exact h

theorem atC {b i : Nat} (hi : i < 9223372036854775808) (h : Q (.pointer (some ⟨b, 0 + (i % 16) * 1, none⟩)) S) : CallWp Tryd.prog B 137 #[pt b, .int .i64 (i : Int)] Q S := by
  refine CallWp.enter (args := [_, _]) Tryd.func137 rfl Tryd.ntmps137 rfl ?_
  refine Wp.seq (Wp.region ?_)
  refine OWp.evs 1 rfl ?_
  refine OWp.nil ?_
  refine Wp.seq (Wp.region ?_)
  refine OWp.evs 4 rfl ?_
  refine OWp.g rfl rfl (Gives.indexAddrArr ((i % 16)) rfl rfl rfl rfl rfl (and15 hi) (by omega)) ?_
  refine OWp.evs 1 rfl ?_
  refine OWp.nil ?_
  refine Wp.ret ⟨trivial, _, ⟨_, _, rfl, rfl, rfl⟩, ?_⟩
  exact h
theorem growC {b i : Nat} {c : List Nat} (hB : B ≤ b) (hc : c.length = 16) (hl : ∀ x ∈ c, x < 4294967296) (h1 : 16 ≤ i) (h2 : i < 64)
    (h : Q (.tuple #[]) ((b, cel (u32s (c.set (i % 16) ((c.getD (i % 16) 0 + ((s0 (c.getD ((i - 15) % 16) 0) + c.getD ((i - 7) % 16) 0) % 4294967296 + s1 (c.getD ((i - 2) % 16) 0)) % 4294967296) % 4294967296))) 165) :: R)) :
    CallWp Tryd.prog B 135 #[pt b, .int .i64 (i : Int)] Q ((b, cel (u32s c) 165) :: R) := by
  have x1 := getD_lt hl ((i - 15) % 16)
  have x2 := getD_lt hl ((i - 2) % 16)
  have e15 : IntKind.i64.wrap ((i : Int) - 15) = ((i - 15 : Nat) : Int) := i64_sub (b := 15) (by omega) (by omega)
  have e2 : IntKind.i64.wrap ((i : Int) - 2) = ((i - 2 : Nat) : Int) := i64_sub (b := 2) (by omega) (by omega)
  have e7 : IntKind.i64.wrap ((i : Int) - 7) = ((i - 7 : Nat) : Int) := i64_sub (b := 7) (by omega) (by omega)
  refine CallWp.enter (args := [_, _]) Tryd.func135 rfl Tryd.ntmps135 rfl ?_
  refine Wp.seq (Wp.regionDraw [0, 1, 2, 6, 7, 8, 3, 4, 5, 9, 10, 11, 12, 13] [3, 9] rfl (by decide +kernel) ?_)
  refine DWp.evs 6 rfl ?_
  refine DWp.stepGrow rfl rfl rfl (Step.call rfl rfl rfl rfl rfl rfl ((e15.symm ▸ atC (i := i - 15) (by omega) ?_)))
  refine ⟨fun _ hy => hy, ?_⟩
  refine DWp.evs 1 rfl ?_
  refine DWp.load (.head _) rfl rfl rfl rfl rfl rfl (u32s_part (by omega)) ?_
  refine DWp.stepGrow rfl rfl rfl (Step.call rfl rfl rfl rfl rfl rfl ((e2.symm ▸ atC (i := i - 2) (by omega) ?_)))
  refine ⟨fun _ hy => hy, ?_⟩
  refine DWp.evs 1 rfl ?_
  refine DWp.load (.head _) rfl rfl rfl rfl rfl rfl (u32s_part (by omega)) ?_
  refine DWp.evs 2 rfl ?_
  refine DWp.nil ?_
  refine Wp.seq (Wp.region ?_)
  refine OWp.evs 1 rfl ?_
  refine OWp.step rfl (Step.call rfl rfl rfl rfl rfl rfl ((rrC (j := 7) x1 (by decide) (by decide +kernel) ?_)))
  refine OWp.evs 1 rfl ?_
  refine OWp.step rfl (Step.call rfl rfl rfl rfl rfl rfl ((rrC (j := 18) x1 (by decide) (by decide +kernel) ?_)))
  refine OWp.evs 5 rfl ?_
  refine OWp.nil ?_
  refine Wp.weaken (E' := [(6, .int .u32 (s0 (c.getD ((i - 15) % 16) 0) : Nat)), (5, .int .u32 (c.getD ((i - 2) % 16) 0 : Nat)), (0, pt b), (1, .int .i64 (i : Int))]) (.cons' rfl (int_eq (s0_term x1)) (.cons rfl (.cons rfl (.cons rfl (.nil _))))) (fun _ h => h) ?_
  refine Wp.seq (Wp.region ?_)
  refine OWp.evs 1 rfl ?_
  refine OWp.step rfl (Step.call rfl rfl rfl rfl rfl rfl ((rrC (j := 17) x2 (by decide) (by decide +kernel) ?_)))
  refine OWp.evs 1 rfl ?_
  refine OWp.step rfl (Step.call rfl rfl rfl rfl rfl rfl ((rrC (j := 19) x2 (by decide) (by decide +kernel) ?_)))
  refine OWp.evs 5 rfl ?_
  refine OWp.nil ?_
  refine Wp.weaken (E' := [(6, .int .u32 (s0 (c.getD ((i - 15) % 16) 0) : Nat)), (7, .int .u32 (s1 (c.getD ((i - 2) % 16) 0) : Nat)), (0, pt b), (1, .int .i64 (i : Int))]) (.cons rfl (.cons' rfl (int_eq (s1_term x2)) (.cons rfl (.cons rfl (.nil _))))) (fun _ h => h) ?_
  refine Wp.regionDraw [0, 1, 5, 6, 7, 8, 13, 2, 3, 4, 9, 10, 11, 12, 14, 15, 16, 17] [2, 9, 17] rfl (by decide +kernel) ?_
  refine DWp.evs 7 rfl ?_
  refine DWp.stepGrow rfl rfl rfl (Step.call rfl rfl rfl rfl rfl rfl ((atC (i := i) (by omega) ?_)))
  refine ⟨fun _ hy => hy, ?_⟩
  refine DWp.evs 1 rfl ?_
  refine DWp.load (.head _) rfl rfl rfl rfl rfl rfl (u32s_part (by omega)) ?_
  refine DWp.stepGrow rfl rfl rfl (Step.call rfl rfl rfl rfl rfl rfl ((e7.symm ▸ atC (i := i - 7) (by omega) ?_)))
  refine ⟨fun _ hy => hy, ?_⟩
  refine DWp.evs 1 rfl ?_
  refine DWp.load (.head _) rfl rfl rfl rfl rfl rfl (u32s_part (by omega)) ?_
  refine DWp.evs 4 rfl ?_
  refine DWp.stepAll rfl rfl rfl rfl (Step.storeAs 0 (u32s (c.set (i % 16) ((c.getD (i % 16) 0 + ((s0 (c.getD ((i - 15) % 16) 0) + c.getD ((i - 7) % 16) 0) % 4294967296 + s1 (c.getD ((i - 2) % 16) 0)) % 4294967296) % 4294967296))) rfl rfl rfl rfl rfl (by assumption) rfl (Unfz.zero _) rfl (by rw [u32s_length, hc]; show 0 + (i % 16) * 1 + 1 ≤ 16; omega) (by rw [u32_add, u32_add, u32_add]; exact u32s_set (by omega) (by show 0 + (i % 16) * 1 = i % 16; omega)) rfl ?_)
  refine DWp.nil ?_
  refine ⟨trivial, [], rfl, ?_⟩
  exact h
end
end Go.Proofs.D
