/- What functions of the given program do, one after the other, told by that layer. -/
import Derived.Test.YtdgbbfbgakeaaaaADelay4
import Derived.Test.YtdgbbfbgakeaaaaARd
namespace Go.Proofs.C
open Go.Lg
set_option maxRecDepth 100000
section
variable {B : Nat} {S R : Ents} {s : List UInt8}
set_option maxHeartbeats 1000000 in
theorem delayOneByOneL {most : Int} {a : Option Addr} {len cap n : Nat} {l : List Int} (hs : s.length ≤ lim) (hl : Reads S 1 (.slice a len cap) n (zi l)) (hn : n ≤ lim) :
    CallWp Try.prog B 18 #[.string (str s), .int .i64 most, .slice a len cap] (fun v _ => v = .bool true) S := by
  obtain rfl := hl.len
  have e1 : l.length = len := by have := hl.1; rw [zi_length] at this; omega
  refine CallWp.enter (args := [_, _, _]) Try.func18 rfl Try.ntmps18 rfl ?_
  refine Wp.seq (Wp.region ?_)
  refine OWp.evs 1 rfl ?_
  refine OWp.nil ?_
  refine Wp.seq (Wp.region ?_)
  refine OWp.evs 1 rfl ?_
  refine OWp.step rfl (Step.call rfl rfl rfl rfl rfl rfl ((tapeNew ?_)))
  intro La hBa hLa
  refine OWp.evs 1 rfl ?_
  refine OWp.step rfl (Step.call rfl rfl rfl rfl rfl rfl ((tapeNew ?_)))
  intro Lb hBb hLb
  refine OWp.evs 2 rfl ?_
  refine OWp.nil ?_
  refine Wp.seq ?_
  refine Wp.seq (Wp.region ?_)
  refine OWp.evs 3 rfl ?_
  refine OWp.evs 4 rfl ?_
  refine OWp.step rfl (Step.call rfl rfl rfl rfl rfl rfl ((dworks ?_)))
  refine OWp.evs 2 rfl ?_
  refine OWp.nil ?_
  refine Wp.cond rfl (fun c => nomatch c) (fun _ => ?_)
  refine Wp.skip ?_
  refine Wp.seq (Wp.region ?_)
  refine OWp.evs 3 rfl ?_
  refine OWp.step rfl (Step.call rfl rfl rfl rfl rfl rfl (CallWp.focus 1 rfl ((sevC hBa hs (by omega) (hl.mono fun x hx => .tail _ hx) hn ?_))))
  intro u es hown
  unfold sevR at hown ⊢
  by_cases hm : mayP most l ∧ l.length ≤ 64
  · skip
    rw [if_neg (show ¬¬ (mayP most l ∧ l.length ≤ 64) from fun e => e hm)] at hown ⊢
    by_cases ht : s.length - 0 < 4 * l.length
    · skip
      rw [if_pos ht] at hown ⊢
      obtain ⟨ua, uc, rfl⟩ := hown.reads.form
      refine OWp.evs 5 rfl ?_
      refine OWp.nil ?_
      refine Wp.seq ?_
      refine Wp.seq (Wp.region ?_)
      refine OWp.evs 2 rfl ?_
      refine OWp.nil ?_
      refine Wp.cond rfl (fun _ => ?_) (fun c => nomatch c)
      refine Wp.seq (Wp.region ?_)
      refine OWp.evs 4 rfl ?_
      refine OWp.evs 3 rfl ?_
      refine OWp.step rfl (Step.call rfl rfl rfl rfl rfl rfl ((left (.head _) (Nat.zero_le _) hs ?_)))
      refine OWp.evs 5 rfl ?_
      refine OWp.nil ?_
      refine Wp.ret ⟨trivial, _, ⟨_, _, rfl, rfl, rfl⟩, ?_⟩
      rw [decide_eq_true (show ((s.length - 0 : Nat) : Int) = (s.length : Int) by omega)]; rfl
    rw [if_neg ht] at hown ⊢
    rw [Nat.zero_add] at hown ⊢
    have hown : Own B 3 1 u l.length (ints (drawn s most 0 l l.length)) es := by rw [drawn_len] at hown; exact hown
    refine OWp.evs 5 rfl ?_
    refine OWp.nil ?_
    refine Wp.seq ?_
    refine Wp.seq (Wp.region ?_)
    refine OWp.evs 2 rfl ?_
    refine OWp.nil ?_
    refine Wp.cond rfl (fun c => nomatch c) (fun _ => ?_)
    refine Wp.skip ?_
    refine Wp.seq ?_
    refine Wp.seq (Wp.region ?_)
    refine OWp.evs 3 rfl ?_
    refine OWp.nil ?_
    refine Wp.block ?_
    refine Wp.loopS (α := Nat) (fun i => len - i) (fun i => [(52, .int .i64 (i : Int)), (51, .int .i64 (len : Int)), (50, .slice a len cap), (9, u), (7, pt La), (8, pt Lb), (1, .int .i64 most)]) (fun i => tp Lb s (4 * i) :: tp La s (4 * l.length) :: (S ++ es)) (fun i => i ≤ len) 0 ?_ (.swap _ _ _) (Nat.zero_le _) ?_
    · exact .cons rfl (.cons rfl (.cons rfl (.cons rfl (.cons rfl (.cons rfl (.cons rfl (.nil _)))))))
    intro i hi
    refine Wp.seq (Wp.region ?_)
    refine OWp.evs 1 rfl ?_
    refine OWp.nil ?_
    refine Wp.seq ?_
    refine Wp.cond rfl (fun h1 => ?_) (fun h1 => ?_)
    · have h1 := of_decide_eq_true h1
      have hlt : i < len := by omega
      obtain ⟨b1, o1, c1, l1, t1, f1, hv1, hm1, _, hg1⟩ := hl.get1 (by omega)
      cases hv1
      obtain ⟨b2, o2, c2, l2, t2, f2, hv2, hm2, _, hg2⟩ := hown.reads.get1 (by omega)
      subst hv2
      have x1 : l[i]? = some (l.getD i 0) := by rw [List.getD_eq_getElem?_getD, List.getElem?_eq_getElem (by omega)]; rfl
      refine Wp.skip ?_
      refine Wp.seq ?_
      refine Wp.block ?_
      refine Wp.seq (Wp.region ?_)
      refine OWp.evs 1 rfl ?_
      refine OWp.g rfl rfl (Gives.indexAddrSlice (i) rfl rfl rfl rfl rfl rfl (by omega)) ?_
      refine OWp.load (.tail _ (.tail _ (List.mem_append_left _ hm1))) rfl rfl rfl rfl ((hg1 i hlt).trans (zi_get x1)) ?_
      refine OWp.evs 2 rfl ?_
      refine OWp.nil ?_
      refine Wp.seq (Wp.region ?_)
      refine OWp.evs 3 rfl ?_
      refine OWp.step rfl (Step.call rfl rfl rfl rfl rfl rfl ((drawC hBb hs (by omega) ?_)))
      rw [show drawR s (l.getD i 0) most (4 * i) = (dr s most 0 l i, 0, 4 * (i + 1)) by
        unfold drawR dr
        have hmi := hm.1.2.2 _ (List.mem_of_getElem? x1)
        rw [if_neg (show ¬¬ _ from fun e => e ((mayP_one _ _).2 ⟨hm.1.1, hm.1.2.1, hmi.1, hmi.2⟩)), if_neg (by omega), Nat.zero_add]
        rfl]
      refine OWp.evs 5 rfl ?_
      refine OWp.nil ?_
      refine Wp.seq (Wp.region ?_)
      refine OWp.evs 3 rfl ?_
      refine OWp.evs 3 rfl ?_
      refine OWp.g rfl rfl (Gives.indexAddrSlice (i) rfl rfl rfl rfl rfl rfl (by omega)) ?_
      refine OWp.load (.tail _ (.tail _ (List.mem_append_right _ hm2))) rfl rfl rfl rfl ((hg2 i (by omega)).trans (by rw [ints, List.getElem?_map, drawn, List.getElem?_map, List.getElem?_range (by omega)]; rfl)) ?_
      refine OWp.evs 2 rfl ?_
      refine OWp.nil ?_
      refine Wp.cond rfl (fun cc1 => absurd (ndT cc1) (by simp)) (fun cc1 => ?_)
      have cc1 := ndF cc1
      refine Wp.skip ?_
      refine Wp.region ?_
      refine OWp.evs 2 rfl ?_
      refine OWp.nil ?_
      refine ⟨i + 1, by omega, by omega, ?_, .refl _⟩
      exact .cons' rfl (int_eq (wrap_add1 i (by unfold lim; unfold lim at hn; omega))) (.cons rfl (.cons rfl (.cons rfl (.cons rfl (.cons rfl (.cons rfl (.nil _)))))))
    have h1 := of_decide_eq_false h1
    obtain rfl : i = len := by omega
    refine Wp.exit ?_
    refine Wp.seq (Wp.regionDraw [0, 1, 2, 4, 5, 6, 3, 7, 8, 9] [3, 7] rfl (by decide +kernel) ?_)
    refine DWp.evs 6 rfl ?_
    refine DWp.stepGrow rfl rfl rfl (Step.call rfl rfl rfl rfl rfl rfl ((left (.tail _ (.head _)) (by omega) hs ?_)))
    refine ⟨fun _ hy => hy, ?_⟩
    refine DWp.stepGrow rfl rfl rfl (Step.call rfl rfl rfl rfl rfl rfl ((left (.head _) (by omega) hs ?_)))
    refine ⟨fun _ hy => hy, ?_⟩
    refine DWp.evs 2 rfl ?_
    refine DWp.nil ?_
    refine Wp.ret ⟨trivial, _, ⟨_, _, rfl, rfl, rfl⟩, ?_⟩
    rw [e1, decide_eq_true rfl]; rfl
  rw [if_pos hm] at hown ⊢
  obtain ⟨ua, uc, rfl⟩ := hown.reads.form
  refine OWp.evs 5 rfl ?_
  refine OWp.nil ?_
  refine Wp.seq ?_
  refine Wp.seq (Wp.region ?_)
  refine OWp.evs 2 rfl ?_
  refine OWp.nil ?_
  refine Wp.cond rfl (fun _ => ?_) (fun c => nomatch c)
  refine Wp.seq (Wp.region ?_)
  refine OWp.evs 4 rfl ?_
  refine OWp.evs 3 rfl ?_
  refine OWp.step rfl (Step.call rfl rfl rfl rfl rfl rfl ((left (.head _) (Nat.zero_le _) hs ?_)))
  refine OWp.evs 5 rfl ?_
  refine OWp.nil ?_
  refine Wp.ret ⟨trivial, _, ⟨_, _, rfl, rfl, rfl⟩, ?_⟩
  rw [decide_eq_true (show ((s.length - 0 : Nat) : Int) = (s.length : Int) by omega)]; rfl
theorem delayOneByOneW {t : ByteArray} {most : Int} {a : Option Addr} {len cap : Nat} (h0 : Rd Try.prog S 9 [.string t]) (_h1 : Rd Try.prog S 3 [.int .i64 most]) (h2 : Rd Try.prog S 28 [.slice a len cap]) :
    CallWp Try.prog B 18 #[.string t, .int .i64 most, .slice a len cap] (fun v _ => v = .bool true) S := by
  obtain ⟨s, hs, hl⟩ := rdStr h0
  cases hs
  obtain ⟨zs, hz, hzl, _⟩ := rdInts h2
  rw [zi_flat] at hz
  exact delayOneByOneL hl hz hzl
end
end Go.Proofs.C
