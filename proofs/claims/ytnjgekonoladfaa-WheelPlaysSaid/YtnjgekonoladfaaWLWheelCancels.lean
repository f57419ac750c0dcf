/- What functions of the given program do, one after the other, told by that layer. -/
import Derived.Test.YtnjgekonoladfaaWWheelJ
namespace Go.Proofs.E
open Go.Lg Go.Whl
set_option maxRecDepth 100000

def canM (zs : List Int) (n : Nat) : List T := (List.range n).map fun (j : Nat) => ⟨dueOf 100000 (zs.getD j 0), (j : Int), j + 1⟩
theorem canM_succ {zs : List Int} {n : Nat} (h : n < zs.length) : canM zs (n + 1) = canM zs n ++ [⟨dueOf 100000 zs[n], (n : Int), n + 1⟩] := by simp [canM, List.range_succ, h]
theorem canM_len (zs : List Int) (n : Nat) : (canM zs n).length = n := by simp [canM]
theorem canM_low {zs : List Int} {n : Nat} {t : T} (h : t ∈ canM zs n) : t.due ≤ 100000 := by
  obtain ⟨j, _, rfl⟩ := List.mem_map.1 h
  exact dueOf_le (by decide)
theorem canM_mem {zs : List Int} {n k : Nat} (h : k < n) : ∃ t ∈ canM zs n, t.no = k + 1 := ⟨_, List.mem_map.2 ⟨k, List.mem_range.2 h, rfl⟩, rfl⟩
/-- The second wheel has all but one. -/
def Alike (zs : List Int) (k n : Nat) (N : List T) : Prop := N.map strip = ((canM zs n).filter fun t => decide ((t.no : Int) ≠ ((k + 1 : Nat) : Int))).map strip ∧ ∀ t ∈ N, t.due ≤ 100000
theorem alike_skip {zs : List Int} {k : Nat} {N : List T} (hk : k < zs.length) (h : Alike zs k k N) : Alike zs k (k + 1) N := by
  refine ⟨?_, h.2⟩
  rw [canM_succ hk, List.filter_append, h.1]
  simp
theorem alike_put {zs : List Int} {k n m : Nat} {N : List T} (hn : n < zs.length) (hne : n ≠ k) (h : Alike zs k n N) : Alike zs k (n + 1) (N ++ [⟨dueOf 100000 zs[n], (n : Int), m⟩]) := by
  refine ⟨?_, ?_⟩
  · rw [canM_succ hn, List.filter_append, List.map_append, h.1, List.filter_cons_of_pos (by simp; omega), List.map_append]
    rfl
  · intro t ht
    rcases List.mem_append.1 ht with ht | ht
    · exact h.2 t ht
    · rw [List.mem_singleton.1 ht]; exact dueOf_le (by decide)

theorem permb {α : Type} (A o C S : List α) : (A ++ (o ++ (C ++ S))).Perm (C ++ (A ++ (o ++ S))) := ((List.perm_append_comm_assoc o C S).append_left A).trans (List.perm_append_comm_assoc A C (o ++ S))
section
variable {B : Nat} {S : Ents} {Q : Value → Ents → Prop}
theorem among_eq {x : Int} {n : Nat} (h0 : 0 < n) (hn : n ≤ 1000) : ∃ k : Nat, k < n ∧ (IntKind.i64.wrap (x.tmod (n : Int) + (n : Int))).tmod (n : Int) = (k : Int) := by
  have h1 : x.tmod (n : Int) < (n : Int) := Int.tmod_lt_of_pos _ (by omega)
  have h2 : -(n : Int) < x.tmod (n : Int) := Int.neg_lt_of_neg_lt (by
    have := Int.tmod_lt_of_pos (-x) (show (0 : Int) < n by omega)
    rw [Int.neg_tmod] at this
    omega)
  rw [i64_id (by omega) (by omega)]
  obtain ⟨m, hm⟩ := Int.eq_ofNat_of_zero_le (show 0 ≤ x.tmod (n : Int) + (n : Int) by omega)
  rw [hm, Int.tmod_eq_emod_of_nonneg (by omega)]
  exact ⟨m % n, Nat.mod_lt _ h0, by simp⟩
theorem amongC {x : Int} {n : Nat} {zn : Int} (hzn : zn = (n : Int)) (h0 : 0 < n) (hn : n ≤ 1000) (H : ∀ k : Nat, k < n → Q (.int .i64 (k : Int)) S) : CallWp Try.prog B 16 #[.int .i64 x, .int .i64 zn] Q S := by
  subst hzn
  obtain ⟨k, hk, he⟩ := among_eq (x := x) h0 hn
  refine CallWp.enter (args := [_, _]) Try.func16 rfl Try.ntmps16 rfl ?_
  refine Wp.seq (Wp.region ?_)
  refine OWp.evs 1 rfl ?_
  refine OWp.nil ?_
  refine Wp.seq (Wp.region ?_)
  refine OWp.evs 2 rfl ?_
  refine OWp.g rfl rfl (Gives.rem rfl rfl rfl (by omega)) ?_
  refine OWp.evs 3 rfl ?_
  refine OWp.g rfl rfl (Gives.rem rfl rfl rfl (by omega)) ?_
  refine OWp.evs 1 rfl ?_
  refine OWp.nil ?_
  refine Wp.ret ⟨trivial, _, ⟨_, _, rfl, rfl, rfl⟩, ?_⟩
  rw [he]; exact H k hk
set_option maxHeartbeats 4000000 in
theorem wheelCancelsW {a1 : Option Addr} {len1 cap1 : Nat} {which : Int} (h1 : Rd Try.prog S 22 [.slice a1 len1 cap1]) (_h2 : Rd Try.prog S 3 [.int .i64 which]) :
    CallWp Try.prog B 5 #[.slice a1 len1 cap1, .int .i64 which] (fun v _ => v = .bool true) S := by
  obtain ⟨zs, hz, rfl, hlen1⟩ := rdInts h1
  refine CallWp.enter (args := [_, _]) Try.func5 rfl Try.ntmps5 rfl ?_
  refine Wp.seq (Wp.region ?_)
  refine OWp.evs 1 rfl ?_
  refine OWp.nil ?_
  refine Wp.seq (Wp.region ?_)
  refine OWp.step rfl (Step.call rfl rfl rfl rfl rfl rfl ((newW ?_)))
  intro pa Wa hWa
  refine OWp.step rfl (Step.call rfl rfl rfl rfl rfl rfl ((newW ?_)))
  intro pb Wb hWb
  refine OWp.evs 2 rfl ?_
  refine OWp.nil ?_
  refine Wp.seq ?_
  refine Wp.seq (Wp.region ?_)
  refine OWp.evs 3 rfl ?_
  refine OWp.evs 4 rfl ?_
  refine OWp.step rfl (Step.call rfl rfl rfl rfl rfl rfl ((worksC ?_)))
  refine OWp.evs 2 rfl ?_
  refine OWp.nil ?_
  refine Wp.cond rfl (fun c => nomatch c) (fun _ => ?_)
  refine Wp.skip ?_
  refine Wp.seq ?_
  refine Wp.seq (Wp.region ?_)
  by_cases h0 : zs.length = 0
  · skip
    refine OWp.evs 4 rfl ?_
    refine OWp.part 34 rfl (fun cc1 => ?_) (fun cc1 => absurd (of_decide_eq_false cc1) (by omega))
    have cc1 := of_decide_eq_true cc1
    refine OWp.evs 4 rfl ?_
    refine OWp.nil ?_
    refine Wp.cond rfl (fun _ => ?_) (fun c => nomatch c)
    refine Wp.seq (Wp.region ?_)
    refine OWp.evs 1 rfl ?_
    refine OWp.nil ?_
    refine Wp.ret ⟨trivial, _, ⟨_, _, rfl, rfl, rfl⟩, ?_⟩
    rfl
  refine OWp.evs 4 rfl ?_
  refine OWp.part 34 rfl (fun cc2 => absurd (of_decide_eq_true cc2) (by omega)) (fun cc2 => ?_)
  have cc2 := of_decide_eq_false cc2
  by_cases h100 : 100 < zs.length
  · skip
    refine OWp.evs 4 rfl ?_
    refine OWp.nil ?_
    refine Wp.cond rfl (fun cc3 => ?_) (fun cc3 => absurd (of_decide_eq_false cc3) (by omega))
    have cc3 := of_decide_eq_true cc3
    refine Wp.seq (Wp.region ?_)
    refine OWp.evs 1 rfl ?_
    refine OWp.nil ?_
    refine Wp.ret ⟨trivial, _, ⟨_, _, rfl, rfl, rfl⟩, ?_⟩
    rfl
  refine OWp.evs 4 rfl ?_
  refine OWp.nil ?_
  refine Wp.cond rfl (fun cc4 => absurd (of_decide_eq_true cc4) (by omega)) (fun cc4 => ?_)
  have cc4 := of_decide_eq_false cc4
  refine Wp.skip ?_
  refine Wp.seq (Wp.region ?_)
  refine OWp.evs 3 rfl ?_
  refine OWp.step rfl (Step.call rfl rfl rfl rfl rfl rfl ((amongC rfl (by omega) (by omega) ?_)))
  intro k hk
  refine OWp.evs 1 rfl ?_
  refine OWp.nil ?_
  refine Wp.seq (Wp.region ?_)
  refine OWp.evs 1 rfl ?_
  refine OWp.nil ?_
  refine Wp.seq ?_
  refine Wp.seq (Wp.region ?_)
  refine OWp.evs 3 rfl ?_
  refine OWp.nil ?_
  refine Wp.block ?_
  refine Wp.loopS (α := Nat × List T × Nat × Ents × Ents) (fun z => zs.length - z.1) (fun z => [(0, .slice a1 zs.length cap1), (5, pt pa), (6, pt pb), (7, .int .i64 (k : Int)), (8, .int .i64 (if k < z.1 then ((k + 1 : Nat) : Int) else 0)), (44, .int .i64 (zs.length : Int)), (45, .int .i64 (z.1 : Int))]) (fun z => z.2.2.2.2 ++ (z.2.2.2.1 ++ S)) (fun z => z.1 ≤ zs.length ∧ z.2.2.1 ≤ z.1 ∧ z.2.1.length ≤ z.1 ∧ Alike zs k z.1 z.2.1 ∧ Wh B pa (canM zs z.1) 0 z.1 z.2.2.2.1 ∧ Wh B pb z.2.1 0 z.2.2.1 z.2.2.2.2) (0, [], 0, Wa, Wb) ?_ (.refl _) ⟨Nat.zero_le _, Nat.le_refl _, Nat.le_refl _, ⟨rfl, fun _ h => nomatch h⟩, hWa, hWb⟩ ?_
  · exact .cons rfl (.cons rfl (.cons rfl (.cons rfl (.cons' rfl (by simp) (.cons rfl (.cons rfl (.nil _)))))))
  rintro ⟨i, N, put, Wa1, Wb1⟩ ⟨hi, hput, hNl, hal, hWa1, hWb1⟩
  simp only at hi hput hNl hal hWa1 hWb1 ⊢
  refine Wp.seq (Wp.region ?_)
  refine OWp.evs 1 rfl ?_
  refine OWp.nil ?_
  refine Wp.seq ?_
  refine Wp.cond rfl (fun h1 => ?_) (fun h1 => ?_)
  · have h1 := of_decide_eq_true h1
    have hi1 : i < zs.length := by omega
    obtain ⟨b1, o1, c1, l1, t1, f1, hv1, hm1, hat⟩ := zi_at hz (by omega)
    cases hv1
    obtain ⟨d, hd⟩ : ∃ d, d = dueOf 100000 zs[i] := ⟨_, rfl⟩
    have hd1 : 0 < d := by rw [hd]; exact dueOf_pos _ _
    have hd2 : d ≤ 100000 := by rw [hd]; exact dueOf_le (by decide)
    have hde : IntKind.i64.wrap (1 + IntKind.i64.wrap ((IntKind.u64.wrap zs[i]).tmod 100000)) = (d : Int) := by rw [hd]; exact dueOf_eq rfl (by decide) (by decide)
    have hsucc := canM_succ hi1
    rw [← hd] at hsucc
    refine Wp.skip ?_
    refine Wp.seq ?_
    refine Wp.block ?_
    refine Wp.seq (Wp.region ?_)
    refine OWp.evs 2 rfl ?_
    refine OWp.nil ?_
    refine Wp.seq (Wp.region ?_)
    refine OWp.evs 2 rfl ?_
    refine OWp.g rfl rfl (Gives.indexAddrSlice (i) rfl rfl rfl rfl rfl rfl (by omega)) ?_
    refine OWp.load (List.mem_append_right _ (List.mem_append_right _ hm1)) rfl rfl rfl rfl (hat i hi1) ?_
    refine OWp.evs 5 rfl ?_
    refine OWp.nil ?_
    refine Wp.seq (Wp.region ?_)
    refine OWp.evs 3 rfl ?_
    refine OWp.step rfl (Step.call rfl rfl rfl rfl rfl rfl ((CallWp.permS (List.perm_append_comm_assoc _ _ _) (putW (a := d) hde hWa1 hd1 (by omega) (by rw [canM_len]; omega) (by omega) ?_))))
    rw [← hsucc]
    intro Wa2 hWa2
    refine OWp.evs 5 rfl ?_
    refine OWp.nil ?_
    refine Wp.seq ?_
    refine Wp.seq (Wp.region ?_)
    refine OWp.evs 2 rfl ?_
    refine OWp.nil ?_
    refine Wp.cond rfl (fun cc5 => absurd (ndT cc5) (by exact fun h => h rfl)) (fun cc5 => ?_)
    have cc5 := ndF cc5
    refine Wp.skip ?_
    refine Wp.seq ?_
    refine Wp.seq (Wp.region ?_)
    refine OWp.evs 3 rfl ?_
    refine OWp.nil ?_
    refine Wp.cond rfl (fun heq => ?_) (fun heq => ?_)
    · have heq := of_decide_eq_true heq
      obtain rfl : i = k := by omega
      refine Wp.seq (Wp.region ?_)
      refine OWp.evs 2 rfl ?_
      refine OWp.nil ?_
      refine Wp.exit ?_
      refine Wp.region ?_
      refine OWp.evs 2 rfl ?_
      refine OWp.nil ?_
      refine ⟨(i + 1, N, put, Wa2, Wb1), by simp only; omega, ⟨by simp only; omega, by simp only; omega, by simp only; omega, alike_skip hi1 hal, hWa2, hWb1⟩, .cons rfl (.cons rfl (.cons rfl (.cons rfl (.cons' rfl ?_ (.cons rfl (.cons' rfl (int_eq (i64_inc (by omega))) (.nil _))))))), List.perm_append_comm_assoc _ _ _⟩
      simp only
      rw [if_pos (by omega)]
    have heq := of_decide_eq_false heq
    refine Wp.skip ?_
    refine Wp.seq (Wp.region ?_)
    refine OWp.evs 3 rfl ?_
    refine OWp.step rfl (Step.call rfl rfl rfl rfl rfl rfl ((CallWp.permS (List.perm_append_comm_assoc _ _ _) (putW (a := d) hde hWb1 hd1 (by omega) (by omega) (by omega) ?_))))
    intro Wb2 hWb2
    refine OWp.evs 5 rfl ?_
    refine OWp.nil ?_
    refine Wp.seq (Wp.region ?_)
    refine OWp.evs 2 rfl ?_
    refine OWp.nil ?_
    refine Wp.cond rfl (fun cc6 => absurd (ndT cc6) (by exact fun h => h rfl)) (fun cc6 => ?_)
    have cc6 := ndF cc6
    refine Wp.skip ?_
    refine Wp.region ?_
    refine OWp.evs 2 rfl ?_
    refine OWp.nil ?_
    refine ⟨(i + 1, N ++ [⟨d, (i : Int), put + 1⟩], put + 1, Wa2, Wb2), by simp only; omega, ⟨by simp only; omega, by simp only; omega, by simp only; rw [len_snoc]; omega, by rw [hd]; exact alike_put hi1 (by omega) hal, hWa2, hWb2⟩, .cons rfl (.cons rfl (.cons rfl (.cons rfl (.cons' rfl ?_ (.cons rfl (.cons' rfl (int_eq (i64_inc (by omega))) (.nil _))))))), .refl _⟩
    simp only
    by_cases hki : k < i
    · rw [if_pos hki, if_pos (by omega)]
    · rw [if_neg hki, if_neg (by omega)]
  have h1 := of_decide_eq_false h1
  obtain rfl : i = zs.length := by omega
  obtain ⟨tk, htk, hno⟩ := canM_mem (zs := zs) hk
  have hnum : (if k < zs.length then ((k + 1 : Nat) : Int) else 0) = ((k + 1 : Nat) : Int) := if_pos hk
  rw [hnum]
  refine Wp.exit ?_
  refine Wp.seq ?_
  refine Wp.seq (Wp.region ?_)
  refine OWp.evs 2 rfl ?_
  refine OWp.step rfl (Step.call rfl rfl rfl rfl rfl rfl ((CallWp.permS (List.perm_append_comm_assoc _ _ _) (cancelW hWa1 (fun t ht hn Wa2 hWa2 => ?_) (fun h => absurd (by rw [hno]) (h tk htk))))))
  have hl2 := erase_len hWa1.nos ht hn
  rw [canM_len] at hl2
  obtain ⟨K, hK⟩ : ∃ K, K = (canM zs zs.length).filter fun t => decide ((t.no : Int) ≠ ((k + 1 : Nat) : Int)) := ⟨_, rfl⟩
  have hal1 := hal.1
  have hKlow : ∀ t ∈ K, t.due ≤ 100000 := fun t ht => by rw [hK] at ht; exact canM_low (List.mem_filter.1 ht).1
  have hKno : ∀ t ∈ K, (t.no : Int) ≠ ((k + 1 : Nat) : Int) := fun t ht => by rw [hK] at ht; simpa using (List.mem_filter.1 ht).2
  rw [← hK] at hWa2 hl2 hal1
  have htold : told N 100000 = told K 100000 := told_congr _ hal1
  refine OWp.evs 2 rfl ?_
  refine OWp.part 83 rfl (fun cc7 => absurd (ndT cc7) (by exact fun h => h rfl)) (fun cc7 => ?_)
  have cc7 := ndF cc7
  refine OWp.evs 2 rfl ?_
  refine OWp.step rfl (Step.call rfl rfl rfl rfl rfl rfl ((cancelW hWa2 (fun t ht hn _ _ => absurd hn (hKno t ht)) (fun _ => ?_))))
  refine OWp.evs 2 rfl ?_
  refine OWp.nil ?_
  refine Wp.cond rfl (fun cc8 => absurd (ndT cc8) (by exact fun h => h rfl)) (fun cc8 => ?_)
  have cc8 := ndF cc8
  refine Wp.skip ?_
  refine Wp.seq (Wp.region ?_)
  refine OWp.evs 1 rfl ?_
  refine OWp.step rfl (Step.call rfl rfl rfl rfl rfl rfl ((advW (to := 100000) rfl hWa2 (by omega) (by decide) (by decide) ?_)))
  intro Wa3 va oa hWa3 hoa
  have hlen := told_len hKlow
  refine OWp.evs 5 rfl ?_
  refine OWp.nil ?_
  refine Wp.seq (Wp.region ?_)
  refine OWp.evs 1 rfl ?_
  refine OWp.step rfl (Step.call rfl rfl rfl rfl rfl rfl ((CallWp.permS (permb _ _ _ _) (advW (to := 100000) rfl hWb1 (by omega) (by decide) (by decide) ?_))))
  intro Wb3 vb ob hWb3 hob
  rw [htold] at hob
  obtain ⟨ga, gc, rfl⟩ := hoa.reads.form
  refine OWp.evs 5 rfl ?_
  refine OWp.nil ?_
  refine Wp.seq (Wp.region ?_)
  refine OWp.evs 3 rfl ?_
  refine OWp.part 101 rfl (fun cc9 => ?_) (fun cc9 => absurd (of_decide_eq_false cc9) (by exact fun h => h rfl))
  have cc9 := of_decide_eq_true cc9
  refine OWp.evs 4 rfl ?_
  refine OWp.part 105 rfl (fun cc10 => ?_) (fun cc10 => absurd (of_decide_eq_false cc10) (by exact fun h => h rfl))
  have cc10 := of_decide_eq_true cc10
  refine OWp.evs 2 rfl ?_
  refine OWp.step rfl (Step.call rfl rfl rfl rfl rfl rfl ((sameEq (hoa.reads.mono fun x hx => List.mem_append_right _ (List.mem_append_right _ (List.mem_append_right _ (List.mem_append_left _ hx)))) (hob.reads.mono fun x hx => List.mem_append_right _ (List.mem_append_left _ hx)) (by omega) ?_)))
  refine OWp.evs 2 rfl ?_
  refine OWp.part 110 rfl (fun cc11 => ?_) (fun cc11 => (by contradiction))
  refine OWp.evs 8 rfl ?_
  refine OWp.nil ?_
  refine Wp.ret ⟨trivial, _, ⟨_, _, rfl, rfl, rfl⟩, ?_⟩
  refine congrArg Value.bool (decide_eq_true ?_)
  rw [i64_id (by omega) (by omega)]
  omega
end
end Go.Proofs.E
