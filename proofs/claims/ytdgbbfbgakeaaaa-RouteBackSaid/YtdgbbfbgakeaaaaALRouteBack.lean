/- What functions of the given program do, one after the other, told by that layer. -/
import Derived.Test.YtdgbbfbgakeaaaaARoute6
namespace Go.Proofs.C
open Go.Lg
set_option maxRecDepth 100000
section
variable {B : Nat} {S R : Ents}

theorem routeBackL {x : Hop} {b : List UInt8} : CallWp Try.prog B 16 #[.agg x.cells.toArray, .string (str b)] (fun v _ => v = .bool true) S := by
  obtain ⟨y, e, h1, _, hy⟩ := decode_both b
  refine CallWp.enter (args := [_, _]) Try.func16 rfl Try.ntmps16 rfl ?_
  refine Wp.seq (Wp.region ?_)
  refine OWp.step rfl (Step.box rfl rfl rfl ?_); intro L2 hBL2 hLL2
  refine OWp.evs 1 rfl ?_
  refine OWp.nil ?_
  refine Wp.seq ?_
  refine Wp.seq (Wp.region ?_)
  refine OWp.step rfl (Step.call rfl rfl rfl rfl rfl rfl ((rworks ?_)))
  refine OWp.evs 1 rfl ?_
  refine OWp.nil ?_
  refine Wp.cond rfl (fun c => nomatch c) (fun _ => ?_)
  refine Wp.skip ?_
  refine Wp.seqS (α := Ents) (fun _ => [(1, .string (str b))]) (fun j => j ++ S) (fun _ => True) ?_ ?_
  · skip
    refine Wp.seq (Wp.region ?_)
    refine OWp.load (.head _) rfl rfl rfl rfl (partAt_agg (n := 5) (r := x.cells) rfl rfl rfl rfl) ?_
    refine OWp.step rfl (Step.call rfl rfl rfl rfl rfl rfl ((encodeC ?_)))
    by_cases hp : hopP x
    · skip
      rw [encB, if_pos hp, hopE_yes hp]
      obtain ⟨w, e2, g1, _, hw⟩ := decode_both (hopB x)
      have hw : e2 = 0 ∧ w = x := by
        rcases hw with ⟨a, b, c⟩ | ⟨_, _, c⟩
        · exact ⟨a, hopB_inj b hp c⟩
        · exact (c x hp rfl).elim
      obtain ⟨rfl, rfl⟩ := hw
      have hxx : eqHop w w = true := eqHop_iff.2 rfl
      refine OWp.evs 5 rfl ?_
      refine OWp.nil ?_
      refine Wp.seq (Wp.region ?_)
      refine OWp.evs 2 rfl ?_
      refine OWp.nil ?_
      refine Wp.cond rfl (fun _ => ?_) (fun c => nomatch c)
      refine Wp.seq (Wp.region ?_)
      refine OWp.evs 1 rfl ?_
      refine OWp.step rfl (Step.call rfl rfl rfl rfl rfl rfl ((g1 _ _ _ ?_)))
      refine OWp.evs 3 rfl ?_
      refine OWp.step rfl (Step.alloc rfl rfl rfl ?_); intro L7 hBL7 hLL7
      refine OWp.step rfl (Step.storeAs 0 (w.cells) rfl rfl rfl rfl rfl (by assumption) rfl (Unfz.zero _) rfl (Nat.le_of_ble_eq_true rfl) rfl rfl ?_)
      refine OWp.evs 1 rfl ?_
      refine OWp.nil ?_
      refine Wp.seq (Wp.region ?_)
      refine OWp.evs 3 rfl ?_
      refine OWp.load (.head _) rfl rfl rfl rfl (partAt_agg (n := 5) (r := w.cells) rfl rfl rfl rfl) ?_
      refine OWp.load (.tail _ (.head _)) rfl rfl rfl rfl (partAt_agg (n := 5) (r := w.cells) rfl rfl rfl rfl) ?_
      refine OWp.g rfl rfl (Gives.neqStruct (r := eqHop w w) 10 rfl rfl rfl rfl hopG (by rfl)) ?_
      rw [hxx]
      refine OWp.evs 2 rfl ?_
      refine OWp.evs 4 rfl ?_
      refine OWp.nil ?_
      refine Wp.cond rfl (fun cc1 => absurd (ndT cc1) (by rw [hopB_len hp]; simp)) (fun cc1 => ?_)
      have cc1 := ndF cc1
      refine Wp.skip ?_
      exact ⟨[_, _], trivial, .cons rfl (.nil _), .refl _⟩
    rw [encB, if_neg hp, hopE_no hp]
    refine OWp.evs 5 rfl ?_
    refine OWp.nil ?_
    refine Wp.seq (Wp.region ?_)
    refine OWp.evs 2 rfl ?_
    refine OWp.nil ?_
    refine Wp.cond rfl (fun c => nomatch c) (fun _ => ?_)
    refine Wp.seq (Wp.region ?_)
    refine OWp.evs 3 rfl ?_
    refine OWp.evs 3 rfl ?_
    refine OWp.nil ?_
    refine Wp.cond rfl (fun c => nomatch c) (fun _ => ?_)
    refine Wp.skip ?_
    exact ⟨[_], trivial, .cons rfl (.nil _), .refl _⟩
  rintro j -
  refine Wp.seq (Wp.region ?_)
  refine OWp.evs 1 rfl ?_
  refine OWp.step rfl (Step.call rfl rfl rfl rfl rfl rfl ((h1 _ _ _ ?_)))
  refine OWp.evs 3 rfl ?_
  refine OWp.step rfl (Step.alloc rfl rfl rfl ?_); intro L9 hBL9 hLL9
  refine OWp.step rfl (Step.storeAs 0 (y.cells) rfl rfl rfl rfl rfl (by assumption) rfl (Unfz.zero _) rfl (Nat.le_of_ble_eq_true rfl) rfl rfl ?_)
  rcases hy with ⟨rfl, hp, hyb⟩ | ⟨he, rfl, _⟩
  · skip
    refine OWp.evs 1 rfl ?_
    refine OWp.nil ?_
    refine Wp.seq ?_
    refine Wp.seq (Wp.region ?_)
    refine OWp.evs 2 rfl ?_
    refine OWp.nil ?_
    refine Wp.cond rfl (fun c => nomatch c) (fun _ => ?_)
    refine Wp.skip ?_
    refine Wp.seq (Wp.region ?_)
    refine OWp.load (.head _) rfl rfl rfl rfl (partAt_agg (n := 5) (r := y.cells) rfl rfl rfl rfl) ?_
    refine OWp.step rfl (Step.call rfl rfl rfl rfl rfl rfl ((encode_yes hp ?_)))
    refine OWp.evs 5 rfl ?_
    refine OWp.nil ?_
    refine Wp.seq (Wp.region ?_)
    refine OWp.evs 3 rfl ?_
    refine OWp.evs 5 rfl ?_
    refine OWp.nil ?_
    refine Wp.ret ⟨trivial, _, ⟨_, _, rfl, rfl, rfl⟩, ?_⟩
    rw [decide_eq_true hyb]; rfl
  refine OWp.evs 1 rfl ?_
  refine OWp.nil ?_
  refine Wp.seq ?_
  refine Wp.seq (Wp.region ?_)
  refine OWp.evs 2 rfl ?_
  refine OWp.nil ?_
  refine Wp.cond rfl (fun cc2 => ?_) (fun cc2 => absurd (ndF cc2) (by exact he))
  have cc2 := ndT cc2
  refine Wp.seq (Wp.region ?_)
  refine OWp.load (.head _) rfl rfl rfl rfl (partAt_agg (n := 5) (r := Hop.zero.cells) rfl rfl rfl rfl) ?_
  refine OWp.g rfl rfl (Gives.build rfl rfl) ?_
  refine OWp.g rfl rfl (Gives.eqStruct (r := eqHop Hop.zero Hop.zero) 10 rfl rfl rfl rfl hopG (by rfl)) ?_
  refine OWp.evs 1 rfl ?_
  refine OWp.nil ?_
  refine Wp.ret ⟨trivial, _, ⟨_, _, rfl, rfl, rfl⟩, ?_⟩
  rfl
theorem routeBackW {z : Array Value} {t : ByteArray} (h1 : Rd Try.prog S 63 z.toList) (h2 : Rd Try.prog S 9 [.string t]) : CallWp Try.prog B 16 #[.agg z, .string t] (fun v _ => v = .bool true) S := by
  obtain ⟨x, rfl, _⟩ := rdHop h1
  obtain ⟨s, rfl, _⟩ := rdStr h2
  exact routeBackL
end
end Go.Proofs.C
