/- What functions of the given program do, one after the other, told by that layer. -/
import Derived.Test.YtdgbbfbgakeaaaaATape4
namespace Go.Proofs.C
open Go.Lg
set_option maxRecDepth 100000

/-- A number as four bytes. -/
def b4 (x : Nat) : List UInt8 := [UInt8.ofNat (x / 16777216), UInt8.ofNat (x / 65536), UInt8.ofNat (x / 256), UInt8.ofNat x]
theorem be4_b4 (x : Nat) (r : List UInt8) (h : x < 4294967296) : be4 (b4 x ++ r) = x := by
  show (UInt8.ofNat (x / 16777216)).toNat * 16777216 + (UInt8.ofNat (x / 65536)).toNat * 65536 + (UInt8.ofNat (x / 256)).toNat * 256 + (UInt8.ofNat x).toNat = x
  simp only [UInt8.toNat_ofNat']
  omega

theorem u8_cell (x d e : Nat) (he : (2 : Int) ^ (min e IntKind.u32.bits) = (d : Int)) (hd : 0 < d) : IntKind.u8.wrap (((x : Nat) : Int).fdiv (2 ^ (min e IntKind.u32.bits))) = ((UInt8.ofNat (x / d)).toNat : Int) := by
  rw [he, Int.fdiv_eq_ediv_of_nonneg _ (by omega), IntKind.wrap_u8, UInt8.toNat_ofNat']
  omega

section
variable {B : Nat} {S R : Ents} {Q : Value → Ents → Prop} {s : List UInt8} {k p : Nat}

theorem lword {x : Nat} (h : Q (.string (str (b4 x))) S) : CallWp Try.prog B 25 #[.int .u32 (x : Int)] Q S := by
  refine CallWp.enter (args := [_]) Try.func25 rfl Try.ntmps25 rfl ?_
  refine Wp.seq (Wp.region ?_)
  refine OWp.evs 1 rfl ?_
  refine OWp.nil ?_
  refine Wp.seq (Wp.region ?_)
  refine OWp.evs 11 rfl ?_
  rw [u8_cell x 16777216 24 (by decide) (by decide), u8_cell x 65536 16 (by decide) (by decide), u8_cell x 256 8 (by decide) (by decide), show IntKind.u8.wrap (x : Int) = ((UInt8.ofNat x).toNat : Int) by rw [IntKind.wrap_u8, UInt8.toNat_ofNat']; omega]
  refine OWp.step rfl (Step.buildSlice rfl rfl rfl ?_); intro L11 hB11 hL11
  refine OWp.gives rfl rfl (Gives.bytesToStr (F := (L11, _) :: S) (l := b4 x) (k := 4) rfl rfl rfl rfl rfl (Reads.row (.head _) (Nat.le_of_ble_eq_true rfl))) (fun _ h => h) ?_
  refine OWp.evs 1 rfl ?_
  refine OWp.nil ?_
  refine Wp.drop (List.sublist_cons_self _ S) ?_
  refine Wp.ret ⟨trivial, _, ⟨_, _, rfl, rfl, rfl⟩, ?_⟩
  exact h

theorem among {x : Int} {m : Nat} (hm : 0 < m) (hl : m ≤ 2147483648) (h : Q (.int .i64 (x % (m : Int))) S) : CallWp Try.prog B 28 #[.int .i64 x, .int .i64 (m : Int)] Q S := by
  refine CallWp.enter (args := [_, _]) Try.func28 rfl Try.ntmps28 rfl ?_
  refine Wp.seq (Wp.region ?_)
  refine OWp.evs 1 rfl ?_
  refine OWp.nil ?_
  refine Wp.seq (Wp.region ?_)
  refine OWp.evs 2 rfl ?_
  refine OWp.g rfl rfl (Gives.rem rfl rfl rfl (by omega)) ?_
  refine OWp.evs 3 rfl ?_
  refine OWp.g rfl rfl (Gives.rem rfl rfl rfl (by omega)) ?_
  refine OWp.evs 1 rfl ?_
  refine OWp.nil ?_
  refine Wp.ret ⟨trivial, _, ⟨_, _, rfl, rfl, rfl⟩, ?_⟩
  have h1 : -(m : Int) < x.tmod m := by
    rcases Int.le_total 0 x with h0 | h0
    · have := Int.tmod_nonneg (m : Int) h0; omega
    · have h3 := Int.tmod_lt_of_pos (-x) (show (0 : Int) < m by omega)
      rw [Int.neg_tmod] at h3; omega
  have h2 : x.tmod m < m := Int.tmod_lt_of_pos x (by omega)
  have e : (IntKind.i64.wrap (x.tmod (m : Int) + (m : Int))).tmod (m : Int) = x % (m : Int) := by
    rw [i64_id (by omega) (by omega)]
    rw [Int.tmod_eq_emod_of_nonneg (by omega), Int.add_emod_right]
    rw [Int.tmod_def, Int.sub_mul_emod_self_left]
  exact (congrArg (fun z => Q (.int .i64 z) S) e).mpr h

theorem works (h : Q (.bool true) S) : CallWp Try.prog B 23 #[] Q S := by
  refine CallWp.enter (args := []) Try.func23 rfl Try.ntmps23 rfl ?_
  refine Wp.seq (Wp.region ?_)
  refine OWp.evs 1 rfl ?_
  refine OWp.nil ?_
  refine Wp.seq (Wp.region ?_)
  refine OWp.step rfl (Step.call rfl rfl rfl rfl rfl rfl (tapeNew (s := [128, 0, 0, 0, 120]) ?_))
  intro L hB hL
  refine OWp.evs 1 rfl ?_
  refine OWp.nil ?_
  refine Wp.seq ?_
  refine Wp.seq (Wp.region ?_)
  refine OWp.evs 2 rfl ?_
  refine OWp.nil ?_
  refine Wp.cond rfl (fun c => nomatch c) (fun _ => ?_)
  refine Wp.skip ?_
  refine Wp.seq (Wp.region ?_)
  refine OWp.evs 1 rfl ?_
  refine OWp.step rfl (Step.call rfl rfl rfl rfl rfl rfl (belowC (n := 10) hB (by decide) (by decide) ?_))
  refine OWp.evs 5 rfl ?_
  refine OWp.nil ?_
  refine Wp.seq (Wp.region ?_)
  refine OWp.evs 1 rfl ?_
  refine OWp.step rfl (Step.call rfl rfl rfl rfl rfl rfl (wordC hB (by decide) (by decide) ?_))
  refine OWp.evs 5 rfl ?_
  refine OWp.nil ?_
  refine Wp.seq (Wp.region ?_)
  refine OWp.evs 3 rfl ?_
  refine OWp.part 21 rfl (fun _ => ?_) (fun c => absurd c (by decide))
  refine OWp.evs 4 rfl ?_
  refine OWp.part 25 rfl (fun _ => ?_) (fun c => absurd c (by decide))
  refine OWp.evs 4 rfl ?_
  refine OWp.part 29 rfl (fun _ => ?_) (fun c => absurd c (by decide))
  refine OWp.evs 3 rfl ?_
  refine OWp.step rfl (Step.call rfl rfl rfl rfl rfl rfl (left (s := [128, 0, 0, 0, 120]) (k := 4) (.head _) (by decide) (by decide) ?_))
  refine OWp.evs 3 rfl ?_
  refine OWp.nil ?_
  refine Wp.drop (List.sublist_cons_self _ S) ?_
  refine Wp.ret ⟨trivial, _, ⟨_, _, rfl, rfl, rfl⟩, ?_⟩
  exact h
end
end Go.Proofs.C
