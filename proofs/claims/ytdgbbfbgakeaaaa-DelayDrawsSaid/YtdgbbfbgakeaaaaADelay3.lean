/- What functions of the given program do, one after the other, told by that layer. -/
import Derived.Test.YtdgbbfbgakeaaaaADelay2
namespace Go.Proofs.C
open Go.Lg
set_option maxRecDepth 100000

instance (mean most u : Int) : Decidable (ofP mean most u) := by unfold ofP; infer_instance
/-- The delay of a word, and why there is none. -/
def ofR (mean most u : Int) : Int × Int := if ofP mean most u then ((dl mean.toNat u.toNat most.toNat : Nat), 0) else (0, 1)
theorem ofR_yes {mean most u : Nat} (h1 : most ≤ 4096) (h2 : mean ≤ 4096) (h3 : u < 4294967296) : ofR mean most u = (((dl mean u most : Nat) : Int), 0) := by
  unfold ofR
  rw [if_pos ⟨(mayP_one _ _).2 ⟨by omega, by omega, by omega, by omega⟩, by omega, by omega⟩]
  rfl

def um (x : Int) (d : Nat) : Nat := (x % 18446744073709551616 % d).toNat
theorem um_lt {x : Int} {d : Nat} (hd : 0 < d) : um x d < d := by
  unfold um
  have := Int.emod_lt_of_pos (x % 18446744073709551616) (show (0 : Int) < d by omega)
  have := Int.emod_nonneg (x % 18446744073709551616) (show (d : Int) ≠ 0 by omega)
  omega
theorem um_eq {x : Int} {d : Nat} (hd : 0 < d) (h : d ≤ 4294967296) : IntKind.i64.wrap ((IntKind.u64.wrap x).tmod (d : Int)) = (um x d : Nat) := by
  have h1 := um_lt (x := x) hd
  have h2 := Int.emod_nonneg (x % 18446744073709551616) (show (d : Int) ≠ 0 by omega)
  rw [IntKind.wrap_u64, Int.tmod_eq_emod_of_nonneg (by omega)]
  unfold um at *
  rw [i64_id (by omega) (by omega)]
  omega

section
variable {B : Nat} {S R : Ents} {Q : Value → Ents → Prop}

theorem ofC {mean most u : Int} (h : Q (.tuple #[.int .i64 (ofR mean most u).1, .int .i64 (ofR mean most u).2]) S) : CallWp Try.prog B 35 #[.int .i64 mean, .int .i64 most, .int .i64 u] Q S := by
  by_cases hp : ofP mean most u
  · have hp' := hp
    obtain ⟨hm, h1, h2⟩ := hp'
    obtain ⟨m1, m2, m3, m4⟩ := (mayP_one _ _).1 hm
    rw [ofR, if_pos hp] at h
    obtain ⟨mean, rfl⟩ : ∃ m : Nat, mean = (m : Int) := ⟨mean.toNat, by omega⟩
    obtain ⟨most, rfl⟩ : ∃ m : Nat, most = (m : Int) := ⟨most.toNat, by omega⟩
    obtain ⟨u, rfl⟩ : ∃ m : Nat, u = (m : Int) := ⟨u.toNat, by omega⟩
    exact of_yes (by omega) (by omega) (by omega) h
  · rw [ofR, if_neg hp] at h
    exact of_no hp h
theorem rofC {mean most u : Int} (h : Q (.tuple #[.int .i64 (ofR mean most u).1, .int .i64 (ofR mean most u).2]) S) : CallWp Try.prog B 36 #[.int .i64 mean, .int .i64 most, .int .i64 u] Q S := by
  by_cases hp : ofP mean most u
  · have hp' := hp
    obtain ⟨hm, h1, h2⟩ := hp'
    obtain ⟨m1, m2, m3, m4⟩ := (mayP_one _ _).1 hm
    rw [ofR, if_pos hp] at h
    obtain ⟨mean, rfl⟩ : ∃ m : Nat, mean = (m : Int) := ⟨mean.toNat, by omega⟩
    obtain ⟨most, rfl⟩ : ∃ m : Nat, most = (m : Int) := ⟨most.toNat, by omega⟩
    obtain ⟨u, rfl⟩ : ∃ m : Nat, u = (m : Int) := ⟨u.toNat, by omega⟩
    exact rof_yes (by omega) (by omega) (by omega) h
  · rw [ofR, if_neg hp] at h
    exact rof_no hp h

theorem dworks (h : Q (.bool true) S) : CallWp Try.prog B 38 #[] Q S := by
  have key : ∀ i, i < 3 → dl 1 ([2147483648, 2147483647, 0].getD i 0) 3 = [0, 1, 3].getD i 0 := by decide
  have small : ∀ i, i < 3 → [2147483648, 2147483647, 0].getD i 0 < 4294967296 := by decide
  refine CallWp.enter (args := []) Try.func38 rfl Try.ntmps38 rfl ?_
  refine Wp.seq (Wp.region ?_)
  refine OWp.evs 1 rfl ?_
  refine OWp.nil ?_
  refine Wp.seq (Wp.region ?_)
  refine OWp.step rfl (Step.call rfl rfl rfl rfl rfl rfl ((table_yes (mean := 1) (most := 3) (by decide) (by decide) ?_)))
  intro L hBL hLL
  refine OWp.evs 5 rfl ?_
  refine OWp.nil ?_
  refine Wp.seq ?_
  refine Wp.seq (Wp.region ?_)
  refine OWp.evs 3 rfl ?_
  refine OWp.evs 5 rfl ?_
  refine OWp.evs 1 rfl ?_
  refine OWp.g rfl rfl (Gives.indexAddrSlice (0) rfl rfl rfl rfl rfl rfl (by omega)) ?_
  refine OWp.load (.head _) rfl rfl rfl rfl (ints_part (tabs 1 4) 0 (by decide)) ?_
  refine OWp.evs 3 rfl ?_
  refine OWp.evs 1 rfl ?_
  refine OWp.g rfl rfl (Gives.indexAddrSlice (3) rfl rfl rfl rfl rfl rfl (by omega)) ?_
  refine OWp.load (.head _) rfl rfl rfl rfl (ints_part (tabs 1 4) 3 (by decide)) ?_
  refine OWp.evs 2 rfl ?_
  refine OWp.nil ?_
  refine Wp.cond rfl (fun cc1 => absurd (ndT cc1) (by decide)) (fun cc1 => ?_)
  have cc1 := ndF cc1
  refine Wp.skip ?_
  refine Wp.seq ?_
  refine Wp.seq (Wp.region ?_)
  refine OWp.step rfl (Step.buildSlice rfl rfl rfl ?_); intro L3 hBL3 hLL3
  refine OWp.evs 2 rfl ?_
  refine OWp.nil ?_
  refine Wp.block ?_
  refine Wp.loopS (α := Nat) (fun i => 3 - i) (fun i => [(32, .int .i64 (i : Int)), (31, .int .i64 3), (30, .slice (some ⟨L3, 0, none⟩) 3 3)]) (fun _ => (L3, cel (ints [2147483648, 2147483647, 0]) 3) :: (L, cel (ints (tabs 1 4)) 3) :: S) (fun i => i ≤ 3) 0 ?_ (.refl _) (by decide) ?_
  · exact .cons rfl (.cons rfl (.cons rfl (.nil _)))
  intro i hi
  refine Wp.seq (Wp.region ?_)
  refine OWp.evs 1 rfl ?_
  refine OWp.nil ?_
  refine Wp.seq ?_
  refine Wp.cond rfl (fun h1 => ?_) (fun h1 => ?_)
  · have h1 := of_decide_eq_true h1
    have hlt : i < 3 := by omega
    refine Wp.skip ?_
    refine Wp.seq ?_
    refine Wp.block ?_
    refine Wp.seq (Wp.region ?_)
    refine OWp.evs 1 rfl ?_
    refine OWp.g rfl rfl (Gives.indexAddrSlice (i) rfl rfl rfl rfl rfl rfl (by omega)) ?_
    refine OWp.load (.head _) rfl rfl rfl rfl (ints_part [2147483648, 2147483647, 0] i hlt) ?_
    refine OWp.evs 2 rfl ?_
    refine OWp.nil ?_
    refine Wp.seq (Wp.region ?_)
    refine OWp.evs 1 rfl ?_
    refine OWp.step rfl (Step.call rfl rfl rfl rfl rfl rfl ((of_yes (mean := 1) (most := 3) (u := [2147483648, 2147483647, 0].getD i 0) (by decide) (by decide) (small i hlt) ?_)))
    rw [key i hlt]
    refine OWp.evs 5 rfl ?_
    refine OWp.nil ?_
    refine Wp.seq (Wp.region ?_)
    refine OWp.evs 3 rfl ?_
    refine OWp.evs 1 rfl ?_
    refine OWp.step rfl (Step.buildSlice rfl rfl rfl ?_); intro L4 hBL4 hLL4
    refine OWp.evs 1 rfl ?_
    refine OWp.g rfl rfl (Gives.indexAddrSlice (i) rfl rfl rfl rfl rfl rfl (by omega)) ?_
    refine OWp.load (.head _) rfl rfl rfl rfl (ints_part [0, 1, 3] i hlt) ?_
    refine OWp.evs 2 rfl ?_
    refine OWp.nil ?_
    refine Wp.cond rfl (fun cc2 => absurd (ndT cc2) (by simp)) (fun cc2 => ?_)
    have cc2 := ndF cc2
    refine Wp.skip ?_
    refine Wp.dropAt 0 rfl ?_
    refine Wp.region ?_
    refine OWp.evs 2 rfl ?_
    refine OWp.nil ?_
    refine ⟨i + 1, by omega, by omega, ?_, .refl _⟩
    exact .cons' rfl (int_eq (wrap_add1 i (by unfold lim; omega))) (.cons rfl (.cons rfl (.nil _)))
  have h1 := of_decide_eq_false h1
  refine Wp.exit ?_
  refine Wp.drop (S' := S) (by repeat (first | exact List.Sublist.refl _ | exact List.sublist_append_right _ _ | apply List.Sublist.cons)) ?_
  refine Wp.seq (Wp.region ?_)
  refine OWp.evs 1 rfl ?_
  refine OWp.nil ?_
  refine Wp.ret ⟨trivial, _, ⟨_, _, rfl, rfl, rfl⟩, ?_⟩
  exact h
end
end Go.Proofs.C
