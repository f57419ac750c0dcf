/- What functions of the given program do, one after the other, told by that layer. -/
import Derived.Test.YtkbagleekpgdeaaGreatDoorZM1xa199
import Derived.Test.YtkbagleekpgdeaaGreatDoorZM6xf9cb
import Derived.Test.YtkbagleekpgdeaaGreatDoorENum2
namespace Go.Proofs.D
open Go.Lg Go.Cv Go.Nm
open Go.Proofs.C (zi zi_length zi_one zi_append)
set_option maxRecDepth 100000
theorem nm_part (n : Nat) : Lg.partAt Tryz.prog 100 (zi (dg (n : Int))) 0 = some (nmV n) := num_part (dg_len _)
theorem inv_drop {j : Nat} (h : j < 255) : invBits.drop j = (!(j == 250 || j == 252)) :: invBits.drop (j + 1) := by
  have hl : j < invBits.length := by rw [show invBits.length = 255 from rfl]; exact h
  rw [List.drop_eq_getElem_cons hl]
  simp [invBits]
theorem leNat_drop {b : List UInt8} {i : Nat} (h : i < b.length) : leNat (b.drop i) = (b.getD i 0).toNat + 256 * leNat (b.drop (i + 1)) := by
  rw [List.drop_eq_getElem_cons h, leNat, List.getD_eq_getElem?_getD, List.getElem?_eq_getElem h]
  rfl
theorem red_step (s x : Nat) : addq (mulq (s % q) 256) x = (x + 256 * s) % q := by
  unfold addq mulq
  rw [Nat.mod_mul_mod, Nat.mod_add_mod, Nat.add_comm, Nat.mul_comm]
attribute [local irreducible] dg
section
variable {B : Nat} {S R : Ents} {Q : Value → Ents → Prop}
set_option maxHeartbeats 1000000 in
theorem rinverseC {a : Nat} (ha : a < q) (H : Q (nmV (invq a)) S) : CallWp Tryz.prog B 119 #[nmV a] Q S := by
  have hal := dg_len (a : Int)
  have hpart := nm_part (invq a)
  refine CallWp.dropRet ?_
  show CallWp _ _ _ #[.agg (zi (dg (a : Int))).toArray] _ _
  refine CallWp.enter (args := [_]) Tryz.func119 rfl Tryz.ntmps119 rfl ?_
  refine Wp.seq (Wp.region ?_)
  refine OWp.step rfl (Step.box rfl rfl rfl ?_); intro L1 hBL1 hLL1
  refine OWp.step rfl (Step.alloc rfl rfl rfl ?_); intro L2 hBL2 hLL2
  refine OWp.nil ?_
  refine Wp.seq (Wp.region ?_)
  refine OWp.step rfl (Step.call rfl rfl rfl rfl rfl rfl ((roneC ?_)))
  refine OWp.step rfl (Step.alloc rfl rfl rfl ?_); intro L3 hBL3 hLL3
  refine OWp.step rfl (Step.storeAs 0 (zi (dg ((1 : Nat) : Int))) rfl rfl rfl rfl rfl hBL3 (show some 10 = some (zi (dg ((1 : Nat) : Int))).length from congrArg some (((zi_length _).trans (dg_len _)).symm)) (Unfz.zero _) (zi_one _) (show 0 + (zi (dg ((1 : Nat) : Int))).length ≤ _ from len_le ((zi_length _).trans (dg_len _)) rfl) (wr_whole (show (zi (dg ((1 : Nat) : Int))).length = _ from ((zi_length _).trans (dg_len _)).trans (Eq.symm rfl))) rfl ?_)
  refine OWp.nil ?_
  refine Wp.seq ?_
  refine Wp.seq (Wp.region ?_)
  refine OWp.evs 1 rfl ?_
  refine OWp.nil ?_
  refine Wp.block ?_
  refine Wp.loopS (α := Nat × Nat) (fun y => 255 - y.1) (fun y => [(1, pn L1), (2, pn L2), (3, pn L3), (4, .int .i64 (254 - (y.1 : Int)))]) (fun y => (L3, cel (zi (dg (y.2 : Int))) 100) :: (L2, cel (zi (List.replicate 10 0)) 100) :: (L1, cel (zi (dg (a : Int))) 100) :: S) (fun y => y.1 ≤ 255 ∧ y.2 < q ∧ powBits a (invBits.drop y.1) y.2 = invq a) (0, 1) ?_ (.refl _) ⟨Nat.zero_le _, by decide, rfl⟩ ?_
  · exact .cons rfl (.cons rfl (.cons rfl (.cons rfl (.nil _))))
  rintro ⟨j, o⟩ ⟨hj, ho, hp⟩
  simp only at hj ho hp ⊢
  refine Wp.seq ?_
  refine Wp.seq (Wp.region ?_)
  refine OWp.evs 2 rfl ?_
  refine OWp.nil ?_
  refine Wp.cond rfl (fun h1 => ?_) (fun h1 => ?_)
  · have h1 := of_decide_eq_true h1
    have hj1 : j < 255 := by omega
    rw [inv_drop hj1, powBits] at hp
    refine Wp.skip ?_
    refine Wp.seq ?_
    refine Wp.block ?_
    refine Wp.seq (Wp.region ?_)
    refine OWp.load (.head _) rfl rfl rfl rfl (nm_part o) ?_
    refine OWp.load (.head _) rfl rfl rfl rfl (nm_part o) ?_
    refine OWp.step rfl (Step.call rfl rfl rfl rfl rfl rfl ((rtimesC ho ho ?_)))
    refine OWp.step rfl (Step.storeAs 0 (zi (dg ((mulq o o : Nat) : Int))) rfl rfl rfl rfl rfl hBL3 (show some 10 = some (zi (dg ((mulq o o : Nat) : Int))).length from congrArg some (((zi_length _).trans (dg_len _)).symm)) (Unfz.zero _) (zi_one _) (show 0 + (zi (dg ((mulq o o : Nat) : Int))).length ≤ _ from len_le ((zi_length _).trans (dg_len _)) ((zi_length _).trans (dg_len _))) (wr_whole (show (zi (dg ((mulq o o : Nat) : Int))).length = _ from ((zi_length _).trans (dg_len _)).trans (Eq.symm ((zi_length _).trans (dg_len _))))) rfl ?_)
    refine OWp.nil ?_
    refine Wp.seq (Wp.region ?_)
    refine OWp.evs 3 rfl ?_
    refine OWp.part 15 rfl (fun k1 => ?_) (fun k1 => ?_)
    · have k1 := ndT k1
      have k1 : ¬ (254 - (j : Int) = 2) := k1
      refine OWp.evs 3 rfl ?_
      refine OWp.nil ?_
      refine Wp.cond rfl (fun k2 => ?_) (fun k2 => ?_)
      · have k2 := ndT k2
        have k2 : ¬ (254 - (j : Int) = 4) := k2
        have e1 : (!(j == 250 || j == 252)) = true := by simp; omega
        refine Wp.region ?_
        refine OWp.load (.head _) rfl rfl rfl rfl (nm_part (mulq o o)) ?_
        refine OWp.load (.tail _ (.tail _ (.head _))) rfl rfl rfl rfl (nm_part a) ?_
        refine OWp.step rfl (Step.call rfl rfl rfl rfl rfl rfl ((rtimesC (mulq_lt _ _) ha ?_)))
        refine OWp.step rfl (Step.storeAs 0 (zi (dg ((mulq (mulq o o) a : Nat) : Int))) rfl rfl rfl rfl rfl hBL3 (show some 10 = some (zi (dg ((mulq (mulq o o) a : Nat) : Int))).length from congrArg some (((zi_length _).trans (dg_len _)).symm)) (Unfz.zero _) (zi_one _) (show 0 + (zi (dg ((mulq (mulq o o) a : Nat) : Int))).length ≤ _ from len_le ((zi_length _).trans (dg_len _)) ((zi_length _).trans (dg_len _))) (wr_whole (show (zi (dg ((mulq (mulq o o) a : Nat) : Int))).length = _ from ((zi_length _).trans (dg_len _)).trans (Eq.symm ((zi_length _).trans (dg_len _))))) rfl ?_)
        refine OWp.nil ?_
        refine Wp.region ?_
        refine OWp.evs 3 rfl ?_
        refine OWp.nil ?_
        exact ⟨(j + 1, mulq (mulq o o) a), by simp only; omega, ⟨by simp only; omega, mulq_lt _ _, by rw [if_pos e1] at hp; exact hp⟩, .cons rfl (.cons rfl (.cons rfl (.cons' rfl (int_eq (by simp only; rw [i64_id] <;> omega)) (.nil _)))), .refl _⟩
      have k2 := ndF k2
      have k2 : (254 - (j : Int) = 4) := k2
      have e1 : ¬ (!(j == 250 || j == 252)) = true := by simp; omega
      refine Wp.skip ?_
      refine Wp.region ?_
      refine OWp.evs 3 rfl ?_
      refine OWp.nil ?_
      exact ⟨(j + 1, mulq o o), by simp only; omega, ⟨by simp only; omega, mulq_lt _ _, by rw [if_neg e1] at hp; exact hp⟩, .cons rfl (.cons rfl (.cons rfl (.cons' rfl (int_eq (by simp only; rw [i64_id] <;> omega)) (.nil _)))), .refl _⟩
    have k1 := ndF k1
    have k1 : (254 - (j : Int) = 2) := k1
    have e1 : ¬ (!(j == 250 || j == 252)) = true := by simp; omega
    refine OWp.evs 3 rfl ?_
    refine OWp.nil ?_
    refine Wp.cond rfl (fun c => nomatch c) (fun _ => ?_)
    refine Wp.skip ?_
    refine Wp.region ?_
    refine OWp.evs 3 rfl ?_
    refine OWp.nil ?_
    exact ⟨(j + 1, mulq o o), by simp only; omega, ⟨by simp only; omega, mulq_lt _ _, by rw [if_neg e1] at hp; exact hp⟩, .cons rfl (.cons rfl (.cons rfl (.cons' rfl (int_eq (by simp only; rw [i64_id] <;> omega)) (.nil _)))), .refl _⟩
  have h1 := of_decide_eq_false h1
  obtain rfl : j = 255 := by omega
  rw [show invBits.drop 255 = [] from rfl, powBits] at hp
  subst hp
  refine Wp.exit ?_
  refine Wp.seq (Wp.region ?_)
  refine OWp.load (.head _) rfl rfl rfl rfl (nm_part _) ?_
  refine OWp.step rfl (Step.storeAs 1 (zi (dg ((invq a : Nat) : Int))) rfl rfl rfl rfl rfl hBL2 (show some 10 = some (zi (dg ((invq a : Nat) : Int))).length from congrArg some (((zi_length _).trans (dg_len _)).symm)) (Unfz.zero _) (zi_one _) (show 0 + (zi (dg ((invq a : Nat) : Int))).length ≤ _ from len_le ((zi_length _).trans (dg_len _)) rfl) (wr_whole (show (zi (dg ((invq a : Nat) : Int))).length = _ from ((zi_length _).trans (dg_len _)).trans (Eq.symm rfl))) rfl ?_)
  refine OWp.nil ?_
  refine Wp.ret ⟨trivial, _, ⟨_, _, _, _, rfl, rfl, ⟨_, _, _, mems, (by first | assumption | rfl)⟩, rfl⟩, ?_⟩
  exact ⟨S, subl, H⟩
end
end Go.Proofs.D

namespace Go.Proofs.D
open Go.Lg Go.Cv Go.Nm
open Go.Proofs.C (zi zi_length zi_one zi_append)
set_option maxRecDepth 100000
theorem and_one {x : Nat} (h : x < 9223372036854775808) : bits .and .i64 (x : Int) 1 = ((x % 2 : Nat) : Int) := by
  have := i63_and (a := x) (b := 1) h (by decide)
  rw [Nat.and_one_is_mod] at this
  exact this
theorem bit_of {n i : Nat} : n / (2 ^ 26) ^ (i / 26) % 2 ^ 26 / 2 ^ (i % 26) % 2 = n / 2 ^ i % 2 := by
  have hr := Nat.mod_lt i (show 0 < 26 by decide)
  have e : (2 : Nat) ^ 26 = 2 ^ (i % 26) * 2 ^ (26 - i % 26) := by rw [← Nat.pow_add]; congr 1; omega
  have e2 : 2 ∣ 2 ^ (26 - i % 26) := ⟨2 ^ (25 - i % 26), by rw [Nat.mul_comm, ← Nat.pow_succ]; congr 1; omega⟩
  conv => lhs; arg 1; arg 1; arg 2; rw [e]
  rw [Nat.mod_mul_right_div_self, Nat.mod_mod_of_dvd _ e2, Nat.div_div_eq_div_mul, ← Nat.pow_mul, ← Nat.pow_add, Nat.div_add_mod]
theorem digit_bit {n i : Nat} : bits .and .i64 (((n / (2 ^ 26) ^ (i / 26) % 2 ^ 26 : Nat) : Int).fdiv (2 ^ (min (i % 26) IntKind.i64.bits))) 1 = ((n / 2 ^ i % 2 : Nat) : Int) := by
  have hr := Nat.mod_lt i (show 0 < 26 by decide)
  have hm : min (i % 26) IntKind.i64.bits = i % 26 := Nat.min_eq_left (by show i % 26 ≤ 64; omega)
  have hd : ((n / (2 ^ 26) ^ (i / 26) % 2 ^ 26 : Nat) : Int).fdiv (2 ^ (i % 26)) = ((n / (2 ^ 26) ^ (i / 26) % 2 ^ 26 / 2 ^ (i % 26) : Nat) : Int) := by
    rw [Int.fdiv_eq_ediv_of_nonneg _ (Int.pow_nonneg (by decide)), Int.natCast_ediv, Int.natCast_pow]; rfl
  have hlt : n / (2 ^ 26) ^ (i / 26) % 2 ^ 26 / 2 ^ (i % 26) < 9223372036854775808 :=
    Nat.lt_of_le_of_lt (Nat.div_le_self _ _) (Nat.lt_of_lt_of_le (Nat.mod_lt _ (by decide)) (by decide))
  rw [hm, hd, and_one hlt, bit_of]
theorem quo26 {i : Nat} (h : i < 1000) : IntKind.i64.wrap ((i : Int).tdiv (Int.ofNat (25 + 1))) = ((i / 26 : Nat) : Int) := by
  show IntKind.i64.wrap ((i : Int).tdiv 26) = _
  rw [Int.tdiv_eq_ediv_of_nonneg (by omega), i64_id] <;> omega
theorem rem26 {i : Nat} : (i : Int).tmod (Int.ofNat (25 + 1)) = ((i % 26 : Nat) : Int) := by
  show (i : Int).tmod 26 = _
  rw [Int.tmod_eq_emod_of_nonneg (by omega)]; omega
theorem pow_min {r b : Nat} (h : r ≤ b) : (2 : Int) ^ (min r b) = ((2 ^ r : Nat) : Int) := by
  rw [Nat.min_eq_left h, Int.natCast_pow]; rfl
theorem byte_add {o : UInt8} {t r : Nat} (ht : t < 2) (hr : r < 8) : IntKind.u8.wrap ((o.toNat : Int) + IntKind.u8.wrap (IntKind.u8.wrap (t : Int) * 2 ^ (min r IntKind.u8.bits))) = ((UInt8.ofNat (o.toNat + 2 ^ r * t)).toNat : Int) := by
  have hp : (2 : Nat) ^ r ≤ 2 ^ 7 := Nat.pow_le_pow_right (by decide) (by omega)
  have ho := o.toNat_lt
  rw [show IntKind.u8.bits = 8 from rfl, pow_min (show r ≤ 8 by omega), IntKind.wrap_u8, IntKind.wrap_u8, IntKind.wrap_u8, UInt8.toNat_ofNat']
  generalize 2 ^ r = p at *
  have : t = 0 ∨ t = 1 := by omega
  rcases this with rfl | rfl
  · simp; omega
  · simp only [Nat.mul_one]; omega
attribute [local irreducible] dg le32
section
variable {B : Nat} {S R : Ents} {Q : Value → Ents → Prop}
set_option maxHeartbeats 1000000 in
theorem rbytesC {n : Nat} (hn : n < q) (H : Q (.string (str (le32 n))) S) : CallWp Tryz.prog B 78 #[nmV n] Q S := by
  have hal := dg_len (n : Int)
  have hn26 : n < (2 ^ 26) ^ 10 := Nat.lt_trans hn (by decide +kernel)
  have hl32 : ∀ m, (le32 m).length = 32 := fun m => by unfold le32; simp
  have hfull : n % 2 ^ 256 = n := Nat.mod_eq_of_lt (Nat.lt_trans hn (by decide +kernel))
  have hzero : le32 (n % 2 ^ 0) = List.replicate 32 0 := by rw [Nat.pow_zero, Nat.mod_one]; unfold le32; decide
  refine CallWp.dropRet ?_
  show CallWp _ _ _ #[.agg (zi (dg (n : Int))).toArray] _ _
  refine CallWp.enter (args := [_]) Tryz.func78 rfl Tryz.ntmps78 rfl ?_
  refine Wp.seq (Wp.region ?_)
  refine OWp.step rfl (Step.box rfl rfl rfl ?_); intro L1 hBL1 hLL1
  refine OWp.evs 1 rfl ?_
  refine OWp.nil ?_
  refine Wp.seq (Wp.region ?_)
  refine OWp.step rfl (Step.makeSlice (len := 32) (cap := 32) rfl rfl rfl rfl rfl rfl (by decide) rfl rfl (Nat.le_refl _) (by decide) (by decide) ?_)
  intro L3 hBL3 hLL3
  rw [show zeros (cellsOf (Value.int .u8 0)) 32 = byteCells (List.replicate 32 0) from zeros_bytes 32]
  refine OWp.evs 1 rfl ?_
  refine OWp.nil ?_
  refine Wp.seq ?_
  refine Wp.seq (Wp.region ?_)
  refine OWp.evs 1 rfl ?_
  refine OWp.nil ?_
  refine Wp.block ?_
  refine Wp.loopS (α := Nat) (fun i => 256 - i) (fun i => [(1, pn L1), (3, .slice (some ⟨L3, 0, none⟩) 32 32), (4, .int .i64 (i : Int))]) (fun i => (L3, cel (byteCells (le32 (n % 2 ^ i))) 5) :: (L1, cel (zi (dg (n : Int))) 100) :: S) (fun i => i ≤ 256) 0 ?_ (by rw [hzero]; exact .refl _) (Nat.zero_le _) ?_
  · exact .cons rfl (.cons rfl (.cons rfl (.nil _)))
  rintro i hi
  refine Wp.seq ?_
  refine Wp.seq (Wp.region ?_)
  refine OWp.evs 2 rfl ?_
  refine OWp.nil ?_
  refine Wp.cond rfl (fun h1 => ?_) (fun h1 => ?_)
  · have h1 := of_decide_eq_true h1
    have hi1 : i < 256 := by omega
    have h26 : i / 26 < 10 := by omega
    refine Wp.skip ?_
    refine Wp.seq ?_
    refine Wp.block ?_
    refine Wp.seq (Wp.region ?_)
    refine OWp.evs 2 rfl ?_
    refine OWp.g rfl rfl (Gives.indexAddrArr (i / 26) rfl rfl rfl rfl rfl (quo26 (by omega)) (by omega)) ?_
    refine OWp.load (.tail _ (.head _)) rfl rfl rfl rfl (zi_at (i := i / 26) (by omega) (by show 0 + i / 26 * 1 = i / 26; omega)) ?_
    refine OWp.evs 2 rfl ?_
    refine OWp.g rfl rfl (Gives.shr (m := i % 26) rfl rfl rfl rem26) ?_
    rw [dg_nat hn26 h26]
    refine OWp.evs 2 rfl ?_
    refine OWp.nil ?_
    refine Wp.regionDraw [0, 1, 2, 3, 4, 5, 6, 7, 8, 9, 10, 11, 12] [12] rfl (by decide +kernel) ?_
    refine DWp.evs 3 rfl ?_
    refine DWp.g rfl rfl rfl rfl (Gives.indexAddrSlice (i / 8) rfl rfl rfl rfl rfl (quo8 (by omega)) (by omega)) ?_
    refine DWp.load (.head _) rfl rfl rfl rfl rfl rfl (bc_at (i := i / 8) (by rw [hl32]; omega) (by show 0 + i / 8 * 1 = _; omega)) ?_
    refine DWp.evs 4 rfl ?_
    refine DWp.g rfl rfl rfl rfl (Gives.shl (m := i % 8) rfl rfl rfl rem8b) ?_
    refine DWp.evs 1 rfl ?_
    refine DWp.g rfl rfl rfl rfl (Gives.indexAddrSlice (i / 8) rfl rfl rfl rfl rfl (quo8 (by omega)) (by omega)) ?_
    refine DWp.stepAll rfl rfl rfl rfl (Step.storeAs 0 (byteCells (le32 (n % 2 ^ (i + 1)))) rfl rfl rfl rfl rfl hBL3 rfl (Unfz.zero _) rfl (by rw [byteCells_length, hl32]; show 0 + i / 8 * 1 + 1 ≤ 32; omega) ((bc_put (i := i / 8) (by rw [hl32]; omega) (by rw [digit_bit]; exact byte_add (Nat.mod_lt _ (by decide)) (Nat.mod_lt _ (by decide))) (by show 0 + i / 8 * 1 = _; omega)).trans (congrArg byteCells le32_bit)) rfl ?_)
    refine DWp.nil ?_
    refine Wp.region ?_
    refine OWp.evs 3 rfl ?_
    refine OWp.nil ?_
    exact ⟨i + 1, by omega, by omega, .cons rfl (.cons rfl (.cons' rfl (int_eq (i64_inc' (by omega))) (.nil _))), .refl _⟩
  have h1 := of_decide_eq_false h1
  obtain rfl : i = 256 := by omega
  rw [hfull]
  refine Wp.exit ?_
  refine Wp.seq (Wp.region ?_)
  refine OWp.evs 1 rfl ?_
  refine OWp.gives rfl rfl (Gives.bytesToStr (F := (L3, cel (byteCells (le32 n)) 5) :: (L1, cel (zi (dg (n : Int))) 100) :: S) (l := le32 n) (k := 32) rfl rfl rfl rfl rfl (by have := Reads.row (S := (L3, cel (byteCells (le32 n)) 5) :: (L1, cel (zi (dg (n : Int))) 100) :: S) (sz := 1) (k := 32) (cap := 32) (.head _) (by rw [byteCells_length, hl32]; decide); rw [List.take_of_length_le (by rw [byteCells_length, hl32]; decide)] at this; exact this)) (fun _ h => h) ?_
  refine OWp.evs 1 rfl ?_
  refine OWp.nil ?_
  refine Wp.ret ⟨trivial, _, ⟨_, _, rfl, rfl, rfl⟩, ?_⟩
  exact ⟨S, subl, H⟩
end
end Go.Proofs.D

namespace Go.Proofs.D
open Go.Lg Go.Cv Go.Nm
open Go.Proofs.C (zi zi_length zi_one zi_append)
set_option maxRecDepth 100000
theorem str_bit {s : List UInt8} {i : Nat} : bits .and .i64 (IntKind.i64.wrap (((s.getD (i / 8) 0).toNat : Int).fdiv (2 ^ (min (i % 8) IntKind.u8.bits)))) 1 = ((leNat s / 2 ^ i % 2 : Nat) : Int) := by
  have hr := Nat.mod_lt i (show 0 < 8 by decide)
  have hb := (s.getD (i / 8) 0).toNat_lt
  have ht := leNat_testBit s i
  have e : leNat s / 2 ^ i % 2 = (s.getD (i / 8) 0).toNat / 2 ^ (i % 8) % 2 := by rw [← Nat.toNat_testBit, ← Nat.toNat_testBit, ht]
  rw [e]
  generalize (s.getD (i / 8) 0).toNat = b at *
  have hd : ((b : Nat) : Int).fdiv (2 ^ (min (i % 8) IntKind.u8.bits)) = ((b / 2 ^ (i % 8) : Nat) : Int) := by
    rw [show IntKind.u8.bits = 8 from rfl, pow_min (show i % 8 ≤ 8 by omega), Int.fdiv_eq_ediv_of_nonneg _ (Int.natCast_nonneg _), Int.natCast_ediv]
  have hle := Nat.div_le_self b (2 ^ (i % 8))
  rw [hd]
  generalize b / 2 ^ (i % 8) = y at *
  rw [i64_id (by omega) (by omega), and_one (by omega)]
theorem digit_add {n i : Nat} {x : Int} (hx : 0 ≤ x ∧ x < 9223372036854775807 / 4) : IntKind.i64.wrap (x + IntKind.i64.wrap (((n / 2 ^ i % 2 : Nat) : Int) * 2 ^ (min (i % 26) IntKind.i64.bits))) = x + ((2 ^ (i % 26) * (n / 2 ^ i % 2) : Nat) : Int) := by
  have hr := Nat.mod_lt i (show 0 < 26 by decide)
  have hp : (2 : Nat) ^ (i % 26) ≤ 2 ^ 25 := Nat.pow_le_pow_right (by decide) (by omega)
  have ht := Nat.mod_lt (n / 2 ^ i) (show 0 < 2 by decide)
  rw [show IntKind.i64.bits = 64 from rfl, pow_min (show i % 26 ≤ 64 by omega)]
  generalize 2 ^ (i % 26) = p at *
  generalize n / 2 ^ i % 2 = t at *
  have : t = 0 ∨ t = 1 := by omega
  rcases this with rfl | rfl
  · simp; rw [i64_id (x := 0) (by decide) (by decide), i64_id] <;> omega
  · simp only [Nat.mul_one]; rw [i64_id (x := ((1 : Nat) : Int) * (p : Int)) (by omega) (by omega), i64_id (by omega) (by omega)]; omega
attribute [local irreducible] dg le32
section
variable {B : Nat} {S R : Ents} {Q : Value → Ents → Prop}
set_option maxHeartbeats 1000000 in
theorem rofNC {s : List UInt8} (hs : s.length = 32) (H : Q (nmV (leNat s)) S) : CallWp Tryz.prog B 82 #[.string (str s)] Q S := by
  obtain ⟨n, hn⟩ : ∃ n, n = leNat s := ⟨_, rfl⟩
  have hlt : n < 2 ^ 256 := by have := leNat_lt s; rw [hs] at this; rw [hn]; exact Nat.lt_of_lt_of_le this (by decide)
  have hfull : n % 2 ^ 256 = n := Nat.mod_eq_of_lt hlt
  have hpart := nm_part n
  rw [← hn] at H
  refine CallWp.dropRet ?_
  refine CallWp.enter (args := [_]) Tryz.func82 rfl Tryz.ntmps82 rfl ?_
  refine Wp.seq (Wp.region ?_)
  refine OWp.step rfl (Step.alloc rfl rfl rfl ?_); intro L2 hBL2 hLL2
  refine OWp.nil ?_
  refine Wp.seq (Wp.region ?_)
  refine OWp.step rfl (Step.alloc rfl rfl rfl ?_); intro L3 hBL3 hLL3
  refine OWp.nil ?_
  refine Wp.seq ?_
  refine Wp.seq (Wp.region ?_)
  refine OWp.evs 1 rfl ?_
  refine OWp.nil ?_
  refine Wp.block ?_
  refine Wp.loopS (α := Nat) (fun i => 256 - i) (fun i => [(0, .string (str s)), (2, pn L2), (3, pn L3), (4, .int .i64 (i : Int))]) (fun i => (L3, cel (zi (dg ((n % 2 ^ i : Nat) : Int))) 100) :: (L2, cel (zi (List.replicate 10 0)) 100) :: S) (fun i => i ≤ 256) 0 ?_ (by rw [Nat.pow_zero, Nat.mod_one, show zi (dg ((0 : Nat) : Int)) = zi (List.replicate 10 0) from congrArg zi (dg_small 0 (by decide) (by decide))]; exact .refl _) (Nat.zero_le _) ?_
  · exact .cons rfl (.cons rfl (.cons rfl (.cons rfl (.nil _))))
  rintro i hi
  refine Wp.seq ?_
  refine Wp.seq (Wp.region ?_)
  refine OWp.evs 2 rfl ?_
  refine OWp.nil ?_
  refine Wp.cond rfl (fun h1 => ?_) (fun h1 => ?_)
  · have h1 := of_decide_eq_true h1
    have hi1 : i < 256 := by omega
    have hdl := dg_len ((n % 2 ^ i : Nat) : Int)
    have hml : n % 2 ^ i < (2 ^ 26) ^ 10 := Nat.lt_of_lt_of_le (Nat.lt_of_le_of_lt (Nat.mod_le _ _) hlt) (by decide +kernel)
    have hdd := dg_nat hml (k := i / 26) (by omega)
    have hdm := Nat.mod_lt (n % 2 ^ i / (2 ^ 26) ^ (i / 26)) (show 0 < 2 ^ 26 by decide)
    refine Wp.skip ?_
    refine Wp.seq ?_
    refine Wp.block ?_
    refine Wp.seq (Wp.region ?_)
    refine OWp.evs 3 rfl ?_
    refine OWp.g rfl rfl (Gives.indexStr (b := (s.getD (i / 8) 0)) rfl rfl rfl rfl (by rw [quo8 (by omega)]; omega) (by rw [quo8 (by omega)]; exact getD_some (l := s) (i := i / 8) (by omega))) ?_
    refine OWp.evs 2 rfl ?_
    refine OWp.g rfl rfl (Gives.shr (m := i % 8) rfl rfl rfl rem8b) ?_
    refine OWp.evs 3 rfl ?_
    refine OWp.nil ?_
    refine Wp.regionDraw [0, 1, 2, 3, 4, 5, 6, 7, 8, 9, 10] [10] rfl (by decide +kernel) ?_
    refine DWp.evs 2 rfl ?_
    refine DWp.g rfl rfl rfl rfl (Gives.indexAddrArr (i / 26) rfl rfl rfl rfl rfl (quo26 (by omega)) (by omega)) ?_
    refine DWp.load (.head _) rfl rfl rfl rfl rfl rfl (zi_at (i := i / 26) (by omega) (by show 0 + i / 26 * 1 = i / 26; omega)) ?_
    refine DWp.evs 3 rfl ?_
    refine DWp.g rfl rfl rfl rfl (Gives.shl (m := i % 26) rfl rfl rfl rem26) ?_
    refine DWp.evs 1 rfl ?_
    refine DWp.g rfl rfl rfl rfl (Gives.indexAddrArr (i / 26) rfl rfl rfl rfl rfl (quo26 (by omega)) (by omega)) ?_
    refine DWp.stepAll rfl rfl rfl rfl (Step.storeAs 0 (zi (dg ((n % 2 ^ (i + 1) : Nat) : Int))) rfl rfl rfl rfl rfl hBL3 rfl (Unfz.zero _) rfl (by rw [zi_length, hdl]; show 0 + i / 26 * 1 + 1 ≤ 10; omega) ((zi_put (i := i / 26) (by omega) (by rw [str_bit, ← hn]; exact digit_add (by rw [hdd]; omega)) (by show 0 + i / 26 * 1 = i / 26; omega)).trans (congrArg zi (dg_bit hi1))) rfl ?_)
    refine DWp.nil ?_
    refine Wp.region ?_
    refine OWp.evs 3 rfl ?_
    refine OWp.nil ?_
    exact ⟨i + 1, by omega, by omega, .cons rfl (.cons rfl (.cons rfl (.cons' rfl (int_eq (i64_inc' (by omega))) (.nil _)))), .refl _⟩
  have h1 := of_decide_eq_false h1
  obtain rfl : i = 256 := by omega
  rw [hfull]
  refine Wp.exit ?_
  refine Wp.seq (Wp.region ?_)
  refine OWp.load (.head _) rfl rfl rfl rfl (nm_part n) ?_
  refine OWp.step rfl (Step.storeAs 1 (zi (dg (n : Int))) rfl rfl rfl rfl rfl hBL2 (show some 10 = some (zi (dg (n : Int))).length from congrArg some (((zi_length _).trans (dg_len _)).symm)) (Unfz.zero _) (zi_one _) (show 0 + (zi (dg (n : Int))).length ≤ _ from len_le ((zi_length _).trans (dg_len _)) rfl) (wr_whole (show (zi (dg (n : Int))).length = _ from ((zi_length _).trans (dg_len _)).trans (Eq.symm rfl))) rfl ?_)
  refine OWp.nil ?_
  refine Wp.ret ⟨trivial, _, ⟨_, _, _, _, rfl, rfl, ⟨_, _, _, mems, (by first | assumption | rfl)⟩, rfl⟩, ?_⟩
  exact ⟨S, subl, H⟩
end
end Go.Proofs.D

namespace Go.Proofs.D
open Go.Lg Go.Cv Go.Nm
open Go.Proofs.C (zi zi_length zi_one zi_append)
set_option maxRecDepth 100000
attribute [local irreducible] dg le32
section
variable {B : Nat} {S R : Ents} {Q : Value → Ents → Prop}
theorem rtimesEqC {a b : Nat} {va vb : Value} (hva : va = nmV a) (hvb : vb = nmV b) (ha : a < q) (hb : b < q) (H : Q (nmV (mulq a b)) S) : CallWp Tryz.prog B 116 #[va, vb] Q S := by
  subst hva hvb; exact rtimesC ha hb H
theorem rplusEqC {a b : Nat} {va vb : Value} (hva : va = nmV a) (hvb : vb = nmV b) (ha : a < q) (hb : b < q) (H : Q (nmV (addq a b)) S) : CallWp Tryz.prog B 115 #[va, vb] Q S := by
  subst hva hvb; exact rplusC ha hb H
set_option maxHeartbeats 1000000 in
theorem rreduceC {b : List UInt8} (hb : b.length ≤ 64) (H : Q (.tuple #[.string (str (le32 (leNat b % q))), .int .i64 0]) S) : CallWp Tryz.prog B 79 #[.string (str b)] Q S := by
  obtain ⟨n, hn⟩ : ∃ n, n = b.length := ⟨_, rfl⟩
  have hz : zi (dg ((0 : Nat) : Int)) = zi (List.replicate 10 0) := congrArg zi (dg_small 0 (by decide) (by decide))
  refine CallWp.dropRet ?_
  refine CallWp.enter (args := [_]) Tryz.func79 rfl Tryz.ntmps79 rfl ?_
  refine Wp.seq (Wp.region ?_)
  refine OWp.evs 2 rfl ?_
  refine OWp.nil ?_
  refine Wp.seq ?_
  refine Wp.seq (Wp.region ?_)
  refine OWp.evs 3 rfl ?_
  refine OWp.nil ?_
  refine Wp.cond rfl (fun cc1 => absurd (of_decide_eq_true cc1) (by omega)) (fun cc1 => ?_)
  have cc1 := of_decide_eq_false cc1
  refine Wp.skip ?_
  refine Wp.seq (Wp.region ?_)
  refine OWp.g rfl rfl (Gives.build rfl rfl) ?_
  refine OWp.step rfl (Step.alloc rfl rfl rfl ?_); intro L4 hBL4 hLL4
  refine OWp.step rfl (Step.storeAs 0 ([.int .i64 0, .int .i64 0, .int .i64 0, .int .i64 0, .int .i64 0, .int .i64 0, .int .i64 0, .int .i64 0, .int .i64 0, .int .i64 0]) rfl rfl rfl rfl rfl (by assumption) rfl (Unfz.zero _) rfl (Nat.le_of_ble_eq_true rfl) rfl rfl ?_)
  refine OWp.nil ?_
  refine Wp.seq ?_
  refine Wp.seq (Wp.region ?_)
  refine OWp.evs 4 rfl ?_
  refine OWp.nil ?_
  refine Wp.block ?_
  refine Wp.loopS (α := Nat) (fun j => n - j) (fun j => [(0, .string (str b)), (4, pn L4), (5, .int .i64 ((n : Int) - 1 - (j : Int)))]) (fun j => (L4, cel (zi (dg ((leNat (b.drop (n - j)) % q : Nat) : Int))) 100) :: S) (fun j => j ≤ n) 0 ?_ (by rw [Nat.sub_zero, hn, List.drop_length, show leNat [] % q = 0 by rw [leNat]; exact Nat.zero_mod _, hz]; exact .refl _) (Nat.zero_le _) ?_
  · exact .cons rfl (.cons rfl (.cons' rfl (int_eq (by rw [i64_id] <;> omega)) (.nil _)))
  rintro j hj
  refine Wp.seq ?_
  refine Wp.seq (Wp.region ?_)
  refine OWp.evs 2 rfl ?_
  refine OWp.nil ?_
  refine Wp.cond rfl (fun h1 => ?_) (fun h1 => ?_)
  · have h1 := of_decide_eq_true h1
    have hj1 : j < n := by omega
    obtain ⟨i, hi⟩ : ∃ i, i = n - (j + 1) := ⟨_, rfl⟩
    have hi2 : (n : Int) - 1 - (j : Int) = (i : Int) := by omega
    have hi3 : n - j = i + 1 := by omega
    have hx := (b.getD i 0).toNat_lt
    have hxq : (b.getD i 0).toNat < q := Nat.lt_trans hx (by decide)
    have hst : addq (mulq (leNat (b.drop (i + 1)) % q) 256) (b.getD i 0).toNat = leNat (b.drop i) % q := by rw [red_step, leNat_drop (b := b) (i := i) (by omega)]
    rw [hi2, hi3]
    refine Wp.skip ?_
    refine Wp.seq ?_
    refine Wp.block ?_
    refine Wp.regionDraw [0, 1, 3, 4, 5, 6, 7, 2, 8, 9] [2, 8, 9] rfl (by decide +kernel) ?_
    refine DWp.load (.head _) rfl rfl rfl rfl rfl rfl (nm_part _) ?_
    refine DWp.g rfl rfl rfl rfl (Gives.build rfl rfl) ?_
    refine DWp.evs 2 rfl ?_
    refine DWp.g rfl rfl rfl rfl (Gives.indexStr (b := (b.getD i 0)) rfl rfl rfl rfl (by omega) (getD_some (by omega))) ?_
    refine DWp.evs 1 rfl ?_
    refine DWp.g rfl rfl rfl rfl (Gives.build rfl rfl) ?_
    refine DWp.stepGrow rfl rfl rfl (Step.call rfl rfl rfl rfl rfl rfl ((rtimesEqC (b := 256) rfl (nmV_small (by decide)).symm (Nat.mod_lt _ q_pos) (by decide) ?_)))
    refine ⟨fun _ hy => hy, ?_⟩
    refine DWp.stepGrow rfl rfl rfl (Step.call rfl rfl rfl rfl rfl rfl ((rplusEqC (b := (b.getD i 0).toNat) rfl (by rw [nmV_small (by omega), i64_id (by omega) (by omega)]) (mulq_lt _ _) hxq ?_)))
    refine ⟨fun _ hy => hy, ?_⟩
    rw [hst]
    refine DWp.stepAll rfl rfl rfl rfl (Step.storeAs 0 (zi (dg ((leNat (b.drop i) % q : Nat) : Int))) rfl rfl rfl rfl rfl hBL4 (show some 10 = some (zi (dg ((leNat (b.drop i) % q : Nat) : Int))).length from congrArg some (((zi_length _).trans (dg_len _)).symm)) (Unfz.zero _) (zi_one _) (show 0 + (zi (dg ((leNat (b.drop i) % q : Nat) : Int))).length ≤ _ from len_le ((zi_length _).trans (dg_len _)) ((zi_length _).trans (dg_len _))) (wr_whole (show (zi (dg ((leNat (b.drop i) % q : Nat) : Int))).length = _ from ((zi_length _).trans (dg_len _)).trans (Eq.symm ((zi_length _).trans (dg_len _))))) rfl ?_)
    refine DWp.nil ?_
    refine Wp.region ?_
    refine OWp.evs 3 rfl ?_
    refine OWp.nil ?_
    exact ⟨j + 1, by omega, by omega, .cons rfl (.cons rfl (.cons' rfl (int_eq (by rw [i64_id] <;> omega)) (.nil _))), by rw [← hi]⟩
  have h1 := of_decide_eq_false h1
  obtain rfl : j = n := by omega
  rw [Nat.sub_self, List.drop_zero]
  refine Wp.exit ?_
  refine Wp.seq (Wp.region ?_)
  refine OWp.load (.head _) rfl rfl rfl rfl (nm_part _) ?_
  refine OWp.step rfl (Step.call rfl rfl rfl rfl rfl rfl ((rbytesC (Nat.mod_lt _ q_pos) ?_)))
  refine OWp.evs 2 rfl ?_
  refine OWp.nil ?_
  refine Wp.ret ⟨trivial, _, ⟨_, _, rfl, rfl, _, _, rfl, rfl, rfl⟩, ?_⟩
  exact ⟨S, subl, H⟩
end
end Go.Proofs.D
