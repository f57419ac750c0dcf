/- What functions of the given program do, one after the other, told by that layer. -/
import Derived.Test.YtdgbbfbgakeaaaaADelay3
import Derived.Test.YtdgbbfbgakeaaaaARd
namespace Go.Proofs.C
open Go.Lg
set_option maxRecDepth 100000

theorem tab_sum (m : Nat) : ∀ k, tab m 0 - tab m k + tab m k = 4294967296 := fun k => by have := tab_anti m (Nat.zero_le k); show 4294967296 - tab m k + tab m k = _; have := tab_le m k; omega

/-- What stands behind place i, as far as the cap. -/
def nxt (m most i : Nat) : Nat := if i < most then tab m (i + 1) else 0
theorem nxt_le (m most i : Nat) : nxt m most i ≤ tab m i := by
  unfold nxt
  split
  · exact tab_step m i
  · omega
/-- The delay of each word from the next number up to just ahead of this one. -/
theorem dl_mid {m most k u : Nat} (hk : k ≤ most) (h1 : nxt m most k ≤ u) (h2 : u < tab m k) : dl m u most = k := by
  refine dl_cut hk (fun i hi => ?_) (fun i hi hm => ?_)
  · have := tab_anti m (show i + 1 ≤ k by omega); omega
  · unfold nxt at h1
    rw [if_pos (by omega)] at h1
    have := tab_anti m (show k + 1 ≤ i + 1 by omega); omega

theorem two_eq {α β : Type} (f : α → α → β) {a b c d : α} (h : a = b) (k : c = d) : f a c = f b d := by rw [h, k]

section
variable {B : Nat} {S R : Ents}
set_option maxHeartbeats 1000000 in
theorem delayCountsW {mean most k : Int} (_h0 : Rd Try.prog S 3 [.int .i64 mean]) (_h1 : Rd Try.prog S 3 [.int .i64 most]) (_h2 : Rd Try.prog S 3 [.int .i64 k]) :
    CallWp Try.prog B 8 #[.int .i64 mean, .int .i64 most, .int .i64 k] (fun v _ => v = .bool true) S := by
  have hm := um_lt (x := mean) (d := 4097) (by decide)
  have ho := um_lt (x := most) (d := 4097) (by decide)
  have em := um_eq (x := mean) (d := 4097) (by decide) (by decide)
  have eo := um_eq (x := most) (d := 4097) (by decide) (by decide)
  generalize um mean 4097 = m at hm em
  generalize um most 4097 = o at ho eo
  have hk := um_lt (x := k) (d := o + 1) (by omega)
  have ek := um_eq (x := k) (d := o + 1) (by omega) (by omega)
  generalize um k (o + 1) = q at hk ek
  have el : IntKind.u64.wrap (IntKind.i64.wrap ((o : Int) + 1)) = ((o + 1 : Nat) : Int) := by rw [wrap_add1 o (by unfold lim; omega), IntKind.wrap_u64]; omega
  have hq0 := tab_le m q
  have hnx := nxt_le m o q
  have hmid := fun u => dl_mid (m := m) (most := o) (k := q) (u := u) (by omega)
  refine CallWp.enter (args := [_, _, _]) Try.func8 rfl Try.ntmps8 rfl ?_
  refine Wp.seq (Wp.region ?_)
  refine OWp.evs 1 rfl ?_
  refine OWp.nil ?_
  refine Wp.seq ?_
  refine Wp.seq (Wp.region ?_)
  refine OWp.step rfl (Step.call rfl rfl rfl rfl rfl rfl ((dworks ?_)))
  refine OWp.evs 1 rfl ?_
  refine OWp.nil ?_
  refine Wp.cond rfl (fun c => nomatch c) (fun _ => ?_)
  refine Wp.skip ?_
  refine Wp.seq (Wp.region ?_)
  refine OWp.evs 10 rfl ?_
  refine OWp.nil ?_
  refine Wp.weaken (E' := [(0, .int .i64 (m : Int)), (1, .int .i64 (o : Int)), (2, .int .i64 k)]) (.cons' rfl (int_eq em) (.cons' rfl (int_eq eo) (.cons rfl (.nil _)))) (fun _ h => h) ?_
  refine Wp.seq (Wp.region ?_)
  refine OWp.evs 2 rfl ?_
  refine OWp.step rfl (Step.call rfl rfl rfl rfl rfl rfl ((table_yes (by omega) (by omega) ?_)))
  intro L hBL hLL
  refine OWp.evs 5 rfl ?_
  refine OWp.nil ?_
  refine Wp.seq ?_
  refine Wp.seq (Wp.region ?_)
  refine OWp.evs 3 rfl ?_
  refine OWp.evs 6 rfl ?_
  refine OWp.nil ?_
  refine Wp.cond rfl (fun cc1 => absurd (ndT cc1) (by rw [wrap_add1 o (by unfold lim; omega)]; simp)) (fun cc1 => ?_)
  have cc1 := ndF cc1
  refine Wp.skip ?_
  refine Wp.seq (Wp.region ?_)
  refine OWp.evs 5 rfl ?_
  refine OWp.g rfl rfl (Gives.rem rfl rfl rfl (by rw [el]; omega)) ?_
  rw [el]
  refine OWp.evs 2 rfl ?_
  refine OWp.nil ?_
  rw [ek]
  refine Wp.seq (Wp.regionDraw [0, 1, 2, 3, 4, 5, 6] [] rfl (by decide +kernel) ?_)
  refine DWp.evs 2 rfl ?_
  refine DWp.g rfl rfl rfl rfl (Gives.indexAddrSlice (q) rfl rfl rfl rfl rfl rfl (by omega)) ?_
  refine DWp.load (.head _) rfl rfl rfl rfl rfl rfl (ints_part (tabs m (o + 1)) q (by rw [tabs_len]; omega)) ?_
  rw [show (tabs m (o + 1)).getD q 0 = tab m q by simp [tabs, hk]]
  refine DWp.evs 3 rfl ?_
  refine DWp.nil ?_
  refine Wp.weaken (E' := [(7, .slice (some ⟨L, 0, none⟩) (o + 1) (o + 1)), (0, .int .i64 (m : Int)), (1, .int .i64 (o : Int)), (2, .int .i64 (q : Int)), (9, .int .i64 0), (10, .int .i64 ((tab m q : Nat) - 1))]) (.cons rfl (.cons rfl (.cons rfl (.cons rfl (.cons rfl (.cons' rfl (int_eq (i64_id (by omega) (by omega))) (.nil _))))))) (fun _ h => h) ?_
  refine Wp.seqS (α := Unit) (fun _ => [(7, .slice (some ⟨L, 0, none⟩) (o + 1) (o + 1)), (0, .int .i64 (m : Int)), (1, .int .i64 (o : Int)), (2, .int .i64 (q : Int)), (9, .int .i64 (nxt m o q : Nat)), (10, .int .i64 ((tab m q : Nat) - 1))]) (fun _ => (L, cel (ints (tabs m (o + 1))) 3) :: S) (fun _ => True) ?_ ?_
  · skip
    refine Wp.seq (Wp.region ?_)
    refine OWp.evs 3 rfl ?_
    refine OWp.nil ?_
    refine Wp.cond rfl (fun h1 => ?_) (fun h1 => ?_)
    · have h1 := of_decide_eq_true h1
      refine Wp.region ?_
      refine OWp.evs 3 rfl ?_
      refine OWp.g rfl rfl (Gives.indexAddrSlice (q + 1) rfl rfl rfl rfl rfl (wrap_add1 q (by unfold lim; omega)) (by omega)) ?_
      refine OWp.load (.head _) rfl rfl rfl rfl (ints_part (tabs m (o + 1)) (q + 1) (by rw [tabs_len]; omega)) ?_
      refine OWp.evs 1 rfl ?_
      refine OWp.nil ?_
      refine ⟨(), trivial, .cons rfl (.cons rfl (.cons rfl (.cons rfl (.cons' rfl (int_eq ?_) (.cons rfl (.nil _)))))), .refl _⟩
      rw [show (tabs m (o + 1)).getD (q + 1) 0 = tab m (q + 1) by simp [tabs, show q < o by omega], nxt, if_pos (by omega)]
    have h1 := of_decide_eq_false h1
    refine Wp.skip ?_
    refine ⟨(), trivial, .cons rfl (.cons rfl (.cons rfl (.cons rfl (.cons' rfl (int_eq ?_) (.cons rfl (.nil _)))))), .refl _⟩
    rw [nxt, if_neg (by omega)]; rfl
  rintro ⟨⟩ -
  refine Wp.seq ?_
  refine Wp.seq (Wp.region ?_)
  refine OWp.evs 3 rfl ?_
  refine OWp.nil ?_
  refine Wp.cond rfl (fun h2 => ?_) (fun h2 => ?_)
  · have h2 := of_decide_eq_true h2
    refine Wp.seq (Wp.region ?_)
    refine OWp.evs 5 rfl ?_
    refine OWp.nil ?_
    refine Wp.ret ⟨trivial, _, ⟨_, _, rfl, rfl, rfl⟩, ?_⟩
    rw [i64_id (by omega) (by omega), decide_eq_true (by omega)]; rfl
  have h2 := of_decide_eq_false h2
  have hlo : nxt m o q < tab m q := by omega
  have e2 : IntKind.i64.wrap ((nxt m o q : Int) + IntKind.i64.wrap ((IntKind.i64.wrap ((tab m q : Nat) - 1 - (nxt m o q : Int))).tdiv 2)) = ((nxt m o q + (tab m q - 1 - nxt m o q) / 2 : Nat) : Int) := by
    rw [i64_id (x := (tab m q : Nat) - 1 - (nxt m o q : Int)) (by omega) (by omega), Int.tdiv_eq_ediv_of_nonneg (by omega)]
    rw [i64_id (x := ((tab m q : Nat) - 1 - (nxt m o q : Int)) / 2) (by omega) (by omega), i64_id (by omega) (by omega)]
    omega
  refine Wp.skip ?_
  refine Wp.seq ?_
  refine Wp.seq (Wp.region ?_)
  refine OWp.evs 8 rfl ?_
  refine OWp.step rfl (Step.buildSlice rfl rfl rfl ?_); intro L3 hBL3 hLL3
  refine OWp.evs 2 rfl ?_
  refine OWp.nil ?_
  refine Wp.block ?_
  refine Wp.loopS (α := Nat) (fun i => 3 - i) (fun i => [(80, .int .i64 (i : Int)), (79, .int .i64 3), (78, .slice (some ⟨L3, 0, none⟩) 3 3), (7, .slice (some ⟨L, 0, none⟩) (o + 1) (o + 1)), (0, .int .i64 (m : Int)), (1, .int .i64 (o : Int)), (2, .int .i64 (q : Int))]) (fun _ => (L3, cel (ints [nxt m o q, tab m q - 1, nxt m o q + (tab m q - 1 - nxt m o q) / 2]) 3) :: (L, cel (ints (tabs m (o + 1))) 3) :: S) (fun i => i ≤ 3) 0 ?_ ?_ (by decide) ?_
  · exact .cons rfl (.cons rfl (.cons rfl (.cons rfl (.cons rfl (.cons rfl (.cons rfl (.nil _)))))))
  · exact List.Perm.of_eq (two_eq (fun y z => ((L3, cel [Value.int .i64 (nxt m o q : Int), .int .i64 y, .int .i64 z] 3) :: (L, cel (ints (tabs m (o + 1))) 3) :: S : Ents)) (show ((tab m q : Nat) : Int) - 1 = ((tab m q - 1 : Nat) : Int) by omega) e2)
  intro i hi
  refine Wp.seq (Wp.region ?_)
  refine OWp.evs 1 rfl ?_
  refine OWp.nil ?_
  refine Wp.seq ?_
  refine Wp.cond rfl (fun h3 => ?_) (fun h3 => ?_)
  · have h3 := of_decide_eq_true h3
    have hlt : i < 3 := by omega
    have hw : nxt m o q ≤ [nxt m o q, tab m q - 1, nxt m o q + (tab m q - 1 - nxt m o q) / 2].getD i 0 ∧ [nxt m o q, tab m q - 1, nxt m o q + (tab m q - 1 - nxt m o q) / 2].getD i 0 < tab m q := by
      obtain rfl | rfl | rfl : i = 0 ∨ i = 1 ∨ i = 2 := by omega
      · exact ⟨Nat.le_refl _, hlo⟩
      · show nxt m o q ≤ tab m q - 1 ∧ tab m q - 1 < tab m q; omega
      · show nxt m o q ≤ nxt m o q + (tab m q - 1 - nxt m o q) / 2 ∧ nxt m o q + (tab m q - 1 - nxt m o q) / 2 < tab m q; omega
    refine Wp.skip ?_
    refine Wp.seq ?_
    refine Wp.block ?_
    refine Wp.seq (Wp.region ?_)
    refine OWp.g rfl rfl (Gives.indexAddrSlice (i) rfl rfl rfl rfl rfl rfl (by omega)) ?_
    refine OWp.load (.head _) rfl rfl rfl rfl (ints_part [nxt m o q, tab m q - 1, nxt m o q + (tab m q - 1 - nxt m o q) / 2] i hlt) ?_
    refine OWp.evs 1 rfl ?_
    refine OWp.nil ?_
    refine Wp.seq (Wp.region ?_)
    refine OWp.evs 3 rfl ?_
    refine OWp.step rfl (Step.call rfl rfl rfl rfl rfl rfl ((of_yes (by omega) (by omega) (by omega) ?_)))
    rw [hmid _ hw.1 hw.2]
    refine OWp.evs 5 rfl ?_
    refine OWp.nil ?_
    refine Wp.seq (Wp.region ?_)
    refine OWp.evs 3 rfl ?_
    refine OWp.evs 4 rfl ?_
    refine OWp.nil ?_
    refine Wp.cond rfl (fun cc2 => absurd (ndT cc2) (by simp)) (fun cc2 => ?_)
    have cc2 := ndF cc2
    refine Wp.skip ?_
    refine Wp.region ?_
    refine OWp.evs 2 rfl ?_
    refine OWp.nil ?_
    refine ⟨i + 1, by omega, by omega, ?_, .refl _⟩
    exact .cons' rfl (int_eq (wrap_add1 i (by unfold lim; omega))) (.cons rfl (.cons rfl (.cons rfl (.cons rfl (.cons rfl (.cons rfl (.nil _)))))))
  have h3 := of_decide_eq_false h3
  refine Wp.exit ?_
  refine Wp.dropAt 0 rfl ?_
  refine Wp.seq (Wp.region ?_)
  refine OWp.evs 1 rfl ?_
  refine OWp.nil ?_
  refine Wp.seq ?_
  refine Wp.seq (Wp.region ?_)
  refine OWp.evs 3 rfl ?_
  refine OWp.nil ?_
  refine Wp.block ?_
  refine Wp.loopS (α := Nat) (fun i => o + 1 - i) (fun i => [(101, .int .i64 (i : Int)), (100, .int .i64 ((o + 1 : Nat) : Int)), (7, .slice (some ⟨L, 0, none⟩) (o + 1) (o + 1)), (1, .int .i64 (o : Int)), (15, .int .i64 ((4294967296 - (if i ≤ o then tab m i else 0) : Nat) : Int))]) (fun _ => (L, cel (ints (tabs m (o + 1))) 3) :: S) (fun i => i ≤ o + 1) 0 ?_ (.refl _) (by omega) ?_
  · exact .cons rfl (.cons rfl (.cons rfl (.cons rfl (.cons' rfl (int_eq (by rw [if_pos (by omega), show tab m 0 = 4294967296 from rfl, Nat.sub_self]; rfl)) (.nil _)))))
  intro i hi
  refine Wp.seq (Wp.region ?_)
  refine OWp.evs 1 rfl ?_
  refine OWp.nil ?_
  refine Wp.seq ?_
  refine Wp.cond rfl (fun h4 => ?_) (fun h4 => ?_)
  · have h4 := of_decide_eq_true h4
    have hlt : i ≤ o := by omega
    have hti := tab_le m i
    have hni := nxt_le m o i
    refine Wp.skip ?_
    refine Wp.seq ?_
    refine Wp.block ?_
    refine Wp.seq (Wp.region ?_)
    refine OWp.evs 2 rfl ?_
    refine OWp.nil ?_
    refine Wp.seq (Wp.region ?_)
    refine OWp.evs 1 rfl ?_
    refine OWp.nil ?_
    refine Wp.seqS (α := Unit) (fun _ => [(16, .int .i64 (i : Int)), (17, .int .i64 (nxt m o i : Nat)), (101, .int .i64 (i : Int)), (100, .int .i64 ((o + 1 : Nat) : Int)), (7, .slice (some ⟨L, 0, none⟩) (o + 1) (o + 1)), (1, .int .i64 (o : Int)), (15, .int .i64 ((4294967296 - (if i ≤ o then tab m i else 0) : Nat) : Int))]) (fun _ => (L, cel (ints (tabs m (o + 1))) 3) :: S) (fun _ => True) ?_ ?_
    · skip
      refine Wp.seq (Wp.region ?_)
      refine OWp.evs 3 rfl ?_
      refine OWp.nil ?_
      refine Wp.cond rfl (fun h5 => ?_) (fun h5 => ?_)
      · have h5 := of_decide_eq_true h5
        refine Wp.region ?_
        refine OWp.evs 3 rfl ?_
        refine OWp.g rfl rfl (Gives.indexAddrSlice (i + 1) rfl rfl rfl rfl rfl (wrap_add1 i (by unfold lim; omega)) (by omega)) ?_
        refine OWp.load (.head _) rfl rfl rfl rfl (ints_part (tabs m (o + 1)) (i + 1) (by rw [tabs_len]; omega)) ?_
        refine OWp.evs 1 rfl ?_
        refine OWp.nil ?_
        refine ⟨(), trivial, .cons rfl (.cons' rfl (int_eq ?_) (.cons rfl (.cons rfl (.cons rfl (.cons rfl (.cons rfl (.nil _))))))), .refl _⟩
        rw [show (tabs m (o + 1)).getD (i + 1) 0 = tab m (i + 1) by simp [tabs, show i < o by omega], nxt, if_pos (by omega)]
      have h5 := of_decide_eq_false h5
      refine Wp.skip ?_
      refine ⟨(), trivial, .cons rfl (.cons' rfl (int_eq ?_) (.cons rfl (.cons rfl (.cons rfl (.cons rfl (.cons rfl (.nil _))))))), .refl _⟩
      rw [nxt, if_neg (by omega)]; rfl
    rintro ⟨⟩ -
    refine Wp.seq ?_
    refine Wp.seq (Wp.region ?_)
    refine OWp.evs 3 rfl ?_
    refine OWp.g rfl rfl (Gives.indexAddrSlice (i) rfl rfl rfl rfl rfl rfl (by omega)) ?_
    refine OWp.load (.head _) rfl rfl rfl rfl (ints_part (tabs m (o + 1)) i (by rw [tabs_len]; omega)) ?_
    rw [show (tabs m (o + 1)).getD i 0 = tab m i by simp [tabs, show i < o + 1 by omega]]
    refine OWp.evs 1 rfl ?_
    refine OWp.nil ?_
    refine Wp.cond rfl (fun cc3 => absurd (of_decide_eq_true cc3) (by omega)) (fun cc3 => ?_)
    have cc3 := of_decide_eq_false cc3
    refine Wp.skip ?_
    refine Wp.region ?_
    refine OWp.evs 3 rfl ?_
    refine OWp.g rfl rfl (Gives.indexAddrSlice (i) rfl rfl rfl rfl rfl rfl (by omega)) ?_
    refine OWp.load (.head _) rfl rfl rfl rfl (ints_part (tabs m (o + 1)) i (by rw [tabs_len]; omega)) ?_
    rw [show (tabs m (o + 1)).getD i 0 = tab m i by simp [tabs, show i < o + 1 by omega]]
    refine OWp.evs 4 rfl ?_
    refine OWp.nil ?_
    refine Wp.region ?_
    refine OWp.evs 2 rfl ?_
    refine OWp.nil ?_
    refine ⟨i + 1, by omega, by omega, ?_, .refl _⟩
    refine .cons' rfl (int_eq (wrap_add1 i (by unfold lim; omega))) (.cons rfl (.cons rfl (.cons rfl (.cons' rfl (int_eq ?_) (.nil _)))))
    rw [if_pos (by omega), i64_id (x := (tab m i : Int) - (nxt m o i : Int)) (by omega) (by omega), i64_id (by omega) (by omega)]
    unfold nxt at hni ⊢
    by_cases hio : i < o
    · rw [if_pos hio] at hni ⊢; rw [if_pos (by omega)]; omega
    · rw [if_neg hio] at hni ⊢; rw [if_neg (by omega)]; omega
  have h4 := of_decide_eq_false h4
  refine Wp.exit ?_
  refine Wp.drop (S' := S) (by repeat (first | exact List.Sublist.refl _ | exact List.sublist_append_right _ _ | apply List.Sublist.cons)) ?_
  refine Wp.seq (Wp.region ?_)
  refine OWp.evs 3 rfl ?_
  refine OWp.nil ?_
  refine Wp.ret ⟨trivial, _, ⟨_, _, rfl, rfl, rfl⟩, ?_⟩
  rw [if_neg (by omega)]; rfl
end
end Go.Proofs.C
