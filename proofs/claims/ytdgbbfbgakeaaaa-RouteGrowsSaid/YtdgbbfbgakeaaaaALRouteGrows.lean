/- What functions of the given program do, one after the other, told by that layer. -/
import Derived.Test.YtdgbbfbgakeaaaaARoute6
namespace Go.Proofs.C
open Go.Lg
set_option maxRecDepth 100000
section
variable {B : Nat} {S R : Ents}

theorem hops_one (l : List Hop) : (l.flatMap Hop.cells).all (·.oneCell') = true := by
  rw [List.all_eq_true]
  intro v hv
  obtain ⟨x, _, hv⟩ := List.mem_flatMap.1 hv
  simp [Hop.cells] at hv
  rcases hv with rfl | rfl | rfl | rfl | rfl <;> rfl

theorem path_cut {l : List Hop} (h : pathE l = 0) (h1 : 1 < l.length) : pathE (l.take (l.length - 1)) = 4 := by
  unfold pathE at h
  split at h
  · rename_i hg
    split at h
    · rename_i hs
      rw [pathE_good (fun x hx => hg x (List.mem_of_mem_take hx)), if_neg]
      rintro ⟨hs2, _⟩
      obtain ⟨_, hs⟩ := (shape_iff l).1 hs.1
      obtain ⟨_, hs2⟩ := (shape_iff _).1 hs2
      have hl : (l.take (l.length - 1)).length = l.length - 1 := by rw [List.length_take]; omega
      have e1 := hs2 (l.length - 2) (by omega)
      have e2 := hs (l.length - 2) (by omega)
      rw [List.getElem_take] at e1
      omega
    · cases h
  · cases h
theorem path_grow {l : List Hop} {x : Hop} (h : pathE l = 0) (hx : hopP x) (h1 : x.kind = 1) : pathE (x :: l) = if l.length < 5 then 0 else 4 := by
  unfold pathE at h
  split at h
  · rename_i hg
    split at h
    · rename_i hs
      rw [pathE_good (fun y hy => by rcases List.mem_cons.1 hy with rfl | hy; exact hx; exact hg y hy)]
      have hsh : shape (x :: l) := by
        match l, hs.1 with
        | y :: r, hs => exact ⟨h1, hs⟩
      by_cases e : l.length < 5
      · rw [if_pos e, if_pos ⟨hsh, by simp; omega⟩]
      · rw [if_neg e, if_neg (fun q => e (by have := q.2; simp at this; omega))]
    · cases h
  · cases h

theorem routeGrowsL {a : Option Addr} {len cap n : Nat} {l : List Hop} {x : Hop} (hl : Reads S 5 (.slice a len cap) n (l.flatMap Hop.cells)) (hn : l.length = n) (hm : n ≤ 2932031007320) (hcap : len ≤ cap) :
    CallWp Try.prog B 13 #[.slice a len cap, .agg x.cells.toArray] (fun v _ => v = .bool true) S := by
  obtain rfl := hl.len
  subst hn
  have hlim : l.length ≤ lim := by unfold lim; omega
  refine CallWp.enter (args := [_, _]) Try.func13 rfl Try.ntmps13 rfl ?_
  refine Wp.seq (Wp.region ?_)
  refine OWp.step rfl (Step.box rfl rfl rfl ?_); intro L3 hBL3 hLL3
  refine OWp.evs 1 rfl ?_
  refine OWp.nil ?_
  refine Wp.seq ?_
  refine Wp.seq (Wp.region ?_)
  refine OWp.step rfl (Step.call rfl rfl rfl rfl rfl rfl ((rworks ?_)))
  refine OWp.evs 1 rfl ?_
  refine OWp.nil ?_
  refine Wp.cond rfl (fun c => nomatch c) (fun _ => ?_)
  refine Wp.skip ?_
  refine Wp.seq ?_
  refine Wp.seq (Wp.region ?_)
  refine OWp.evs 1 rfl ?_
  refine OWp.step rfl (Step.call rfl rfl rfl rfl rfl rfl ((pathC (hl.mono fun x hx => .tail _ hx) rfl hlim ?_)))
  refine OWp.evs 1 rfl ?_
  refine OWp.nil ?_
  refine Wp.cond rfl (fun h1 => ?_) (fun h1 => ?_)
  · have h1 := ndT h1
    refine Wp.seq (Wp.region ?_)
    refine OWp.evs 1 rfl ?_
    refine OWp.nil ?_
    refine Wp.ret ⟨trivial, _, ⟨_, _, rfl, rfl, rfl⟩, ?_⟩
    rfl
  have h1 := ndF h1
  refine Wp.skip ?_
  refine Wp.seqS (α := Unit) (fun _ => [(3, pt L3), (0, .slice a l.length cap)]) (fun _ => (L3, cel x.cells 63) :: S) (fun _ => True) ?_ ?_
  · skip
    refine Wp.seq (Wp.region ?_)
    refine OWp.evs 4 rfl ?_
    refine OWp.part 14 rfl (fun h2 => ?_) (fun h2 => ?_)
    · have h2 := of_decide_eq_true h2
      obtain ⟨hl0, ⟨_, h0⟩ | ⟨b, o, cap', l', e, fz, hv, hmm, hle, hx⟩⟩ := id hl
      · omega
      cases hv
      refine OWp.evs 4 rfl ?_
      refine OWp.g rfl rfl (Gives.sliceSlice (l := 0) (h' := l.length - 1) rfl rfl rfl rfl rfl ⟨_, _, rfl, (by rw [i64_id (by omega) (by omega)]; omega)⟩ (by omega) (by omega) (by omega)) ?_
      have hr : Reads ((L3, cel x.cells 63) :: S) 5 (.slice (some ⟨b, o + 0 * 5, none⟩) (l.length - 1 - 0) (cap - 0)) (l.length - 1) ((l.take (l.length - 1)).flatMap Hop.cells) := by
        rw [Nat.zero_mul, Nat.add_zero, ← flat_take l (l.length - 1) (by omega)]
        exact (hl.take (m := l.length - 1) (cap' := cap) (by omega) (by omega)).mono fun x hx => .tail _ hx
      refine OWp.step rfl (Step.call rfl rfl rfl rfl rfl rfl ((pathC hr (by rw [List.length_take]; omega) (by omega) ?_)))
      rw [path_cut h1 (by omega)]
      refine OWp.evs 2 rfl ?_
      refine OWp.nil ?_
      refine Wp.cond rfl (fun c => nomatch c) (fun _ => ?_)
      refine Wp.skip ?_
      exact ⟨(), trivial, .cons rfl (.cons rfl (.nil _)), .refl _⟩
    have h2 := of_decide_eq_false h2
    refine OWp.evs 8 rfl ?_
    refine OWp.nil ?_
    refine Wp.cond rfl (fun c => nomatch c) (fun _ => ?_)
    refine Wp.skip ?_
    exact ⟨(), trivial, .cons rfl (.cons rfl (.nil _)), .refl _⟩
  rintro ⟨⟩ -
  refine Wp.seq ?_
  refine Wp.seq (Wp.region ?_)
  refine OWp.evs 1 rfl ?_
  first | refine OWp.load (List.Mem.head _) rfl rfl rfl rfl rfl ?_ | refine OWp.load (List.Mem.tail _ (List.Mem.head _)) rfl rfl rfl rfl rfl ?_ | refine OWp.load (List.Mem.tail _ (List.Mem.tail _ (List.Mem.head _))) rfl rfl rfl rfl rfl ?_ | refine OWp.load (List.Mem.tail _ (List.Mem.tail _ (List.Mem.tail _ (List.Mem.head _)))) rfl rfl rfl rfl rfl ?_ | refine OWp.load (List.Mem.tail _ (List.Mem.tail _ (List.Mem.tail _ (List.Mem.tail _ (List.Mem.head _))))) rfl rfl rfl rfl rfl ?_ | refine OWp.load (List.Mem.tail _ (List.Mem.tail _ (List.Mem.tail _ (List.Mem.tail _ (List.Mem.tail _ (List.Mem.head _)))))) rfl rfl rfl rfl rfl ?_
  refine OWp.evs 2 rfl ?_
  refine OWp.part 26 rfl (fun h3 => ?_) (fun h3 => ?_)
  · have h3 := ndT h3
    refine OWp.evs 4 rfl ?_
    refine OWp.nil ?_
    refine Wp.cond rfl (fun _ => ?_) (fun c => nomatch c)
    refine Wp.seq (Wp.region ?_)
    refine OWp.evs 1 rfl ?_
    refine OWp.nil ?_
    refine Wp.ret ⟨trivial, _, ⟨_, _, rfl, rfl, rfl⟩, ?_⟩
    rfl
  have h3 := ndF h3
  refine OWp.load (.head _) rfl rfl rfl rfl (partAt_agg (n := 5) (r := x.cells) rfl rfl rfl rfl) ?_
  refine OWp.step rfl (Step.call rfl rfl rfl rfl rfl rfl ((checkC (x := x) ?_)))
  by_cases hp : hopP x
  · skip
    rw [hopE_yes hp]
    refine OWp.evs 2 rfl ?_
    refine OWp.nil ?_
    refine Wp.cond rfl (fun c => nomatch c) (fun _ => ?_)
    refine Wp.skip ?_
    refine Wp.seq (Wp.region ?_)
    refine OWp.load (.head _) rfl rfl rfl rfl (partAt_agg (n := 5) (r := x.cells) rfl rfl rfl rfl) ?_
    refine OWp.step rfl (Step.buildSlice rfl rfl rfl ?_); intro L4 hBL4 hLL4
    refine OWp.evs 1 rfl ?_
    refine OWp.step rfl (Step.appendAt (es := [(L4, cel x.cells 63)]) (R := (L3, cel x.cells 63) :: S) [] rfl rfl rfl rfl rfl rfl (by decide) rfl rfl (Own.row (k := 1) (sz := 5) (xs := x.cells) hBL4 rfl (by decide)) (hl.mono fun x hx => .tail _ (.tail _ hx)) (hops_one l) (by show (1 + l.length) * 48 ≤ _; omega) (by unfold maxLen; omega) ?_)
    intro v es hown _
    have hown : Own B 63 5 v (1 + l.length) ((x :: l).flatMap Hop.cells) es := hown
    refine OWp.step rfl (Step.call rfl rfl rfl rfl rfl rfl ((pathC (l := x :: l) (hown.reads.mono fun x hx => (List.mem_append_left _ hx : x ∈ es ++ ((L3, cel _ 63) :: S))) (by simp; omega) (by unfold lim; omega) ?_)))
    rw [path_grow h1 hp h3]
    refine OWp.evs 1 rfl ?_
    refine OWp.nil ?_
    refine Wp.seq (Wp.region ?_)
    refine OWp.evs 7 rfl ?_
    refine OWp.nil ?_
    refine Wp.ret ⟨trivial, _, ⟨_, _, rfl, rfl, rfl⟩, ?_⟩
    by_cases e : l.length < 5
    · rw [if_pos e, decide_eq_true (show (l.length : Int) < 5 by omega)]; rfl
    · rw [if_neg e, decide_eq_false (show ¬ (l.length : Int) < 5 by omega)]; rfl
  rw [hopE_no hp]
  refine OWp.evs 2 rfl ?_
  refine OWp.nil ?_
  refine Wp.cond rfl (fun _ => ?_) (fun c => nomatch c)
  refine Wp.seq (Wp.region ?_)
  refine OWp.evs 1 rfl ?_
  refine OWp.nil ?_
  refine Wp.ret ⟨trivial, _, ⟨_, _, rfl, rfl, rfl⟩, ?_⟩
  rfl
theorem routeGrowsW {a : Option Addr} {len cap : Nat} {z : Array Value} (h : Rd Try.prog S 67 [.slice a len cap]) (h2 : Rd Try.prog S 63 z.toList) : CallWp Try.prog B 13 #[.slice a len cap, .agg z] (fun v _ => v = .bool true) S := by
  obtain ⟨l, hl, hm, _⟩ := rdHops h
  obtain ⟨x, rfl, _⟩ := rdHop h2
  exact routeGrowsL hl rfl hm (h.cap_le Try.underlying67)
end
end Go.Proofs.C
