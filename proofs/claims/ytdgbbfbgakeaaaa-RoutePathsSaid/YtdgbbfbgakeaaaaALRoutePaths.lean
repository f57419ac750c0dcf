/- What functions of the given program do, one after the other, told by that layer. -/
import Derived.Test.YtdgbbfbgakeaaaaARoute6
namespace Go.Proofs.C
open Go.Lg
set_option maxRecDepth 100000
section
variable {B : Nat} {S R : Ents}

theorem hops_one (l : List Hop) : (l.flatMap Hop.cells).all (·.oneCell') = true := by
  rw [List.all_eq_true]
  intro v hv
  obtain ⟨x, _, hv⟩ := List.mem_flatMap.1 hv
  simp [Hop.cells] at hv
  rcases hv with rfl | rfl | rfl | rfl | rfl <;> rfl

theorem routePathsL {a : Option Addr} {len cap n : Nat} {l : List Hop} (hl : Reads S 5 (.slice a len cap) n (l.flatMap Hop.cells)) (hn : l.length = n) (hm : n ≤ 2932031007320) :
    CallWp Try.prog B 12 #[.slice a len cap] (fun v _ => v = .bool true) S := by
  obtain rfl := hl.len
  have hlim : len ≤ lim := by unfold lim; omega
  refine CallWp.enter (args := [_]) Try.func12 rfl Try.ntmps12 rfl ?_
  refine Wp.seq (Wp.region ?_)
  refine OWp.evs 1 rfl ?_
  refine OWp.nil ?_
  refine Wp.seq (Wp.region ?_)
  refine OWp.step rfl (Step.buildSlice rfl rfl rfl ?_); intro L hBL hLL
  refine OWp.evs 1 rfl ?_
  refine OWp.step rfl (Step.appendAt (es := [(L, cel [] 63)]) (R := S) [] rfl rfl rfl rfl rfl rfl (by decide) rfl rfl (Own.row (k := 0) (sz := 5) (xs := []) hBL rfl (by decide)) (hl.mono fun x hx => .tail _ hx) (hops_one l) (by show (0 + len) * 48 ≤ _; omega) (by unfold maxLen; omega) ?_)
  intro v es hown _
  rw [Nat.zero_add, List.nil_append] at hown
  have hown : Own B 63 5 v len (l.flatMap Hop.cells) es := hown
  have hr1 : Reads (es ++ S) 5 v len (l.flatMap Hop.cells) := hown.reads.mono fun x hx => List.mem_append_left _ hx
  have hr2 : Reads (es ++ S) 5 (.slice a len cap) len (l.flatMap Hop.cells) := hl.mono fun x hx => List.mem_append_right _ hx
  refine OWp.evs 1 rfl ?_
  refine OWp.nil ?_
  refine Wp.seq ?_
  refine Wp.seq (Wp.region ?_)
  refine OWp.evs 1 rfl ?_
  refine OWp.step rfl (Step.call rfl rfl rfl rfl rfl rfl ((pathC hr1 hn hlim ?_)))
  refine OWp.evs 1 rfl ?_
  refine OWp.step rfl (Step.call rfl rfl rfl rfl rfl rfl ((rpathC hr2 hn hlim ?_)))
  refine OWp.evs 1 rfl ?_
  refine OWp.nil ?_
  refine Wp.cond rfl (fun cc1 => absurd (ndT cc1) (by simp)) (fun cc1 => ?_)
  have cc1 := ndF cc1
  refine Wp.skip ?_
  refine Wp.seq ?_
  refine Wp.seq (Wp.region ?_)
  refine OWp.evs 1 rfl ?_
  refine OWp.nil ?_
  refine Wp.block ?_
  refine Wp.loopS (α := Nat) (fun i => len - i) (fun i => [(4, .int .i64 (i : Int)), (3, v), (0, .slice a len cap)]) (fun _ => es ++ S) (fun i => i ≤ len) 0 ?_ (.refl _) (Nat.zero_le _) ?_
  · exact .cons rfl (.cons rfl (.cons rfl (.nil _)))
  intro i hi
  refine Wp.seq ?_
  refine Wp.seq (Wp.region ?_)
  refine OWp.evs 4 rfl ?_
  refine OWp.nil ?_
  refine Wp.cond rfl (fun h1 => ?_) (fun h1 => ?_)
  · have h1 := of_decide_eq_true h1
    have hlt : i < l.length := by omega
    subst hn
    obtain ⟨b1, o1, c1, l1, e1, f1, hv1, hm1, hat1⟩ := hr1.elem (sz := 5) (hop_flat l) (by omega)
    obtain ⟨b2, o2, c2, l2, e2, f2, hv2, hm2, hat2⟩ := hr2.elem (sz := 5) (hop_flat l) (by omega)
    subst hv1
    cases hv2
    have hxx : eqHop l[i] l[i] = true := eqHop_iff.2 rfl
    refine Wp.skip ?_
    refine Wp.seq ?_
    refine Wp.block ?_
    refine Wp.seq (Wp.regionDraw [0, 1, 2, 3, 4, 5, 6, 7, 8] [] rfl (by decide +kernel) ?_)
    refine DWp.evs 2 rfl ?_
    refine DWp.g rfl rfl rfl rfl (Gives.indexAddrSlice (i) rfl rfl rfl rfl rfl rfl (by omega)) ?_
    refine DWp.load (hm1) rfl rfl rfl rfl rfl rfl (partAt_agg (hat1 i hlt) rfl rfl rfl) ?_
    refine DWp.evs 2 rfl ?_
    refine DWp.g rfl rfl rfl rfl (Gives.indexAddrSlice (i) rfl rfl rfl rfl rfl rfl (by omega)) ?_
    refine DWp.load (hm2) rfl rfl rfl rfl rfl rfl (partAt_agg (hat2 i hlt) rfl rfl rfl) ?_
    refine DWp.g rfl rfl rfl rfl (Gives.neqStruct (r := eqHop l[i] l[i]) 10 rfl rfl rfl rfl hopG (by rfl)) ?_
    rw [hxx]
    refine DWp.nil ?_
    refine Wp.cond rfl (fun c => nomatch c) (fun _ => ?_)
    refine Wp.skip ?_
    refine Wp.region ?_
    refine OWp.evs 3 rfl ?_
    refine OWp.nil ?_
    refine ⟨i + 1, by omega, by omega, ?_, .refl _⟩
    exact .cons' rfl (int_eq (wrap_add1 i (by unfold lim; omega))) (.cons rfl (.cons rfl (.nil _)))
  have h1 := of_decide_eq_false h1
  refine Wp.exit ?_
  refine Wp.seq (Wp.region ?_)
  refine OWp.step rfl (Step.call rfl rfl rfl rfl rfl rfl ((rworks ?_)))
  refine OWp.evs 1 rfl ?_
  refine OWp.nil ?_
  refine Wp.ret ⟨trivial, _, ⟨_, _, rfl, rfl, rfl⟩, ?_⟩
  rfl
theorem routePathsW {a : Option Addr} {len cap : Nat} (h : Rd Try.prog S 67 [.slice a len cap]) : CallWp Try.prog B 12 #[.slice a len cap] (fun v _ => v = .bool true) S := by
  obtain ⟨l, hl, hm, _⟩ := rdHops h
  exact routePathsL hl rfl hm
end
end Go.Proofs.C
