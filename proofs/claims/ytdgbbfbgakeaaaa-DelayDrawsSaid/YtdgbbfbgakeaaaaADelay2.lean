/- What functions of the given program do, one after the other, told by that layer. -/
import Derived.Test.YtdgbbfbgakeaaaaADelay1
namespace Go.Proofs.C
open Go.Lg
set_option maxRecDepth 100000

section
variable {B : Nat} {S R : Ents} {Q : Value → Ents → Prop}

/-- sort.Search: the place behind which the answer turns. -/
theorem searchC {n : Nat} {g : FuncId} {cap : Array Value} {f : Nat → Bool} (hc : callable Try.prog g = true) (hn : n ≤ lim)
    (hf : ∀ i, i < n → ∀ Q' : Value → Ents → Prop, Q' (.bool (f i)) S → CallWp Try.prog B g ([Value.int .i64 (i : Int)] ++ cap.toList).toArray Q' S)
    (h : ∀ j, j ≤ n → (0 < j → f (j - 1) = false) → (j < n → f j = true) → Q (.int .i64 (j : Int)) S) :
    CallWp Try.prog B 74 #[.int .i64 (n : Int), .func (.func g) #[] cap] Q S := by
  unfold lim at hn
  refine CallWp.enter (args := [_, _]) Try.func74 rfl Try.ntmps74 rfl ?_
  refine Wp.seq (Wp.region ?_)
  refine OWp.evs 1 rfl ?_
  refine OWp.nil ?_
  refine Wp.seq (Wp.region ?_)
  refine OWp.evs 3 rfl ?_
  refine OWp.nil ?_
  refine Wp.seq ?_
  refine Wp.block ?_
  refine Wp.loopS (α := Nat × Nat) (fun x => x.2 - x.1) (fun x => [(5, .int .i64 (x.1 : Int)), (6, .int .i64 (x.2 : Int)), (1, .func (.func g) #[] cap)]) (fun _ => S) (fun x => x.1 ≤ x.2 ∧ x.2 ≤ n ∧ (0 < x.1 → f (x.1 - 1) = false) ∧ (x.2 < n → f x.2 = true)) (0, n) ?_ (.refl _) ⟨by simp, by simp, by simp, by simp⟩ ?_
  · exact .cons rfl (.cons rfl (.cons rfl (.nil _)))
  rintro ⟨i, j⟩ ⟨hij, hj, hi0, hj1⟩
  simp only at hij hj hi0 hj1 ⊢
  refine Wp.seq ?_
  refine Wp.seq (Wp.region ?_)
  refine OWp.evs 3 rfl ?_
  refine OWp.nil ?_
  refine Wp.cond rfl (fun h1 => ?_) (fun h1 => ?_)
  · have h1 := of_decide_eq_true h1
    refine Wp.skip ?_
    refine Wp.block ?_
    refine Wp.seq (Wp.region ?_)
    refine OWp.evs 7 rfl ?_
    refine OWp.nil ?_
    refine Wp.seq (Wp.region ?_)
    refine OWp.evs 2 rfl ?_
    refine OWp.step rfl (Step.call rfl rfl rfl rfl rfl hc ?_)
    rw [mid_id (by omega)]
    refine hf ((i + j) / 2) (by omega) _ ?_
    generalize hb : f ((i + j) / 2) = b
    cases b
    · skip
      refine OWp.evs 1 rfl ?_
      refine OWp.nil ?_
      refine Wp.cond rfl (fun _ => ?_) (fun c => nomatch c)
      refine Wp.region ?_
      refine OWp.evs 3 rfl ?_
      refine OWp.nil ?_
      refine ⟨((i + j) / 2 + 1, j), by simp only; omega, ⟨by simp only; omega, by simp only; omega, fun _ => ?_, hj1⟩, ?_, .refl _⟩
      · simpa using hb
      · exact .cons' rfl (int_eq (wrap_add1 _ (by unfold lim; omega))) (.cons rfl (.cons rfl (.nil _)))
    refine OWp.evs 1 rfl ?_
    refine OWp.nil ?_
    refine Wp.cond rfl (fun c => nomatch c) (fun _ => ?_)
    refine Wp.region ?_
    refine OWp.evs 2 rfl ?_
    refine OWp.nil ?_
    refine ⟨(i, (i + j) / 2), by simp only; omega, ⟨by simp only; omega, by simp only; omega, hi0, fun _ => hb⟩, ?_, .refl _⟩
    · exact .cons' rfl rfl (.cons rfl (.cons rfl (.nil _)))
  have h1 := of_decide_eq_false h1
  obtain rfl : i = j := by omega
  refine Wp.exit ?_
  refine Wp.seq (Wp.region ?_)
  refine OWp.evs 2 rfl ?_
  refine OWp.nil ?_
  refine Wp.ret ⟨trivial, _, ⟨_, _, rfl, rfl, rfl⟩, ?_⟩
  exact h i hj hi0 hj1
theorem of1C {L8 L5 L mean most i u cap : Nat} (h8 : (L8, cel [.slice (some ⟨L, 0, none⟩) (most + 1) cap] 28) ∈ S) (hL : (L, cel (ints (tabs mean (most + 1))) 3) ∈ S)
    (h5 : (L5, cel [.int .i64 (u : Int)] 3) ∈ S) (hi : i < most) (hm : most ≤ 4096) (h : Q (.bool (decide (tab mean (i + 1) ≤ u))) S) :
    CallWp Try.prog B 75 #[.int .i64 (i : Int), pt L8, pt L5] Q S := by
  refine CallWp.enter (args := [_, _, _]) Try.func75 rfl Try.ntmps75 rfl ?_
  refine Wp.seq (Wp.region ?_)
  refine OWp.evs 1 rfl ?_
  refine OWp.nil ?_
  refine Wp.seq (Wp.regionDraw [0, 1, 2, 3, 4, 5, 6, 7] [] rfl (by decide +kernel) ?_)
  refine DWp.load ((by repeat (first | exact h8 | apply List.mem_cons_of_mem | apply List.mem_append_right))) rfl rfl rfl rfl rfl rfl rfl ?_
  refine DWp.evs 2 rfl ?_
  refine DWp.g rfl rfl rfl rfl (Gives.indexAddrSlice (i + 1) rfl rfl rfl rfl rfl (wrap_add1 i (by unfold lim; omega)) (by omega)) ?_
  refine DWp.load ((by repeat (first | exact hL | apply List.mem_cons_of_mem | apply List.mem_append_right))) rfl rfl rfl rfl rfl rfl (by exact ints_part (tabs mean (most + 1)) (i + 1) (by rw [tabs_len]; omega)) ?_
  refine DWp.load ((by repeat (first | exact h5 | apply List.mem_cons_of_mem | apply List.mem_append_right))) rfl rfl rfl rfl rfl rfl rfl ?_
  refine DWp.evs 2 rfl ?_
  refine DWp.nil ?_
  refine Wp.ret ⟨trivial, _, ⟨_, _, rfl, rfl, rfl⟩, ?_⟩
  rw [show (tabs mean (most + 1)).getD (i + 1) 0 = tab mean (i + 1) by simp [tabs, hi]]
  rw [decide_eq_decide.2 (Int.ofNat_le)]
  exact h
def ofP (mean most u : Int) : Prop := mayP most [mean] ∧ 0 ≤ u ∧ u < 4294967296

theorem of_no {mean most u : Int} (hp : ¬ ofP mean most u) (h : Q (.tuple #[.int .i64 0, .int .i64 1]) S) : CallWp Try.prog B 35 #[.int .i64 mean, .int .i64 most, .int .i64 u] Q S := by
  unfold ofP at hp
  by_cases hm : mayP most [mean]
  · obtain ⟨m1, m2, m3, m4⟩ := (mayP_one _ _).1 hm
    obtain ⟨mean, rfl⟩ : ∃ m : Nat, mean = (m : Int) := ⟨mean.toNat, by omega⟩
    obtain ⟨most, rfl⟩ : ∃ m : Nat, most = (m : Int) := ⟨most.toNat, by omega⟩
    refine CallWp.enter (args := [_, _, _]) Try.func35 rfl Try.ntmps35 rfl ?_
    refine Wp.seq (Wp.region ?_)
    refine OWp.step rfl (Step.box rfl rfl rfl ?_); intro L5 hBL5 hLL5
    refine OWp.evs 2 rfl ?_
    refine OWp.nil ?_
    refine Wp.seq (Wp.region ?_)
    refine OWp.evs 2 rfl ?_
    refine OWp.step rfl (Step.call rfl rfl rfl rfl rfl rfl ((table_yes (by omega) (by omega) ?_)))
    intro L hBL hLL
    refine OWp.evs 3 rfl ?_
    refine OWp.step rfl (Step.alloc rfl rfl rfl ?_); intro L8 hBL8 hLL8
    refine OWp.step rfl (Step.store 0 rfl rfl rfl rfl rfl (by assumption) rfl (Nat.le_of_ble_eq_true rfl) (Unfz.zero _) rfl rfl ?_)
    refine OWp.evs 1 rfl ?_
    refine OWp.nil ?_
    refine Wp.seq ?_
    refine Wp.seq (Wp.region ?_)
    refine OWp.evs 3 rfl ?_
    first | refine OWp.load (List.Mem.head _) rfl rfl rfl rfl rfl ?_ | refine OWp.load (List.Mem.tail _ (List.Mem.head _)) rfl rfl rfl rfl rfl ?_ | refine OWp.load (List.Mem.tail _ (List.Mem.tail _ (List.Mem.head _))) rfl rfl rfl rfl rfl ?_ | refine OWp.load (List.Mem.tail _ (List.Mem.tail _ (List.Mem.tail _ (List.Mem.head _)))) rfl rfl rfl rfl rfl ?_ | refine OWp.load (List.Mem.tail _ (List.Mem.tail _ (List.Mem.tail _ (List.Mem.tail _ (List.Mem.head _))))) rfl rfl rfl rfl rfl ?_ | refine OWp.load (List.Mem.tail _ (List.Mem.tail _ (List.Mem.tail _ (List.Mem.tail _ (List.Mem.tail _ (List.Mem.head _)))))) rfl rfl rfl rfl rfl ?_
    refine OWp.evs 3 rfl ?_
    refine OWp.part 22 rfl (fun h1 => ?_) (fun h1 => ?_)
    · have h1 := of_decide_eq_true h1
      refine OWp.evs 3 rfl ?_
      refine OWp.nil ?_
      refine Wp.cond rfl (fun _ => ?_) (fun c => nomatch c)
      refine Wp.drop (S' := S) (by repeat (first | exact List.Sublist.refl _ | exact List.sublist_append_right _ _ | apply List.Sublist.cons)) ?_
      refine Wp.seq (Wp.region ?_)
      refine OWp.evs 2 rfl ?_
      refine OWp.nil ?_
      refine Wp.ret ⟨trivial, _, ⟨_, _, rfl, rfl, _, _, rfl, rfl, rfl⟩, ?_⟩
      exact h
    have h1 := of_decide_eq_false h1
    first | refine OWp.load (List.Mem.head _) rfl rfl rfl rfl rfl ?_ | refine OWp.load (List.Mem.tail _ (List.Mem.head _)) rfl rfl rfl rfl rfl ?_ | refine OWp.load (List.Mem.tail _ (List.Mem.tail _ (List.Mem.head _))) rfl rfl rfl rfl rfl ?_ | refine OWp.load (List.Mem.tail _ (List.Mem.tail _ (List.Mem.tail _ (List.Mem.head _)))) rfl rfl rfl rfl rfl ?_ | refine OWp.load (List.Mem.tail _ (List.Mem.tail _ (List.Mem.tail _ (List.Mem.tail _ (List.Mem.head _))))) rfl rfl rfl rfl rfl ?_ | refine OWp.load (List.Mem.tail _ (List.Mem.tail _ (List.Mem.tail _ (List.Mem.tail _ (List.Mem.tail _ (List.Mem.head _)))))) rfl rfl rfl rfl rfl ?_
    refine OWp.evs 2 rfl ?_
    refine OWp.nil ?_
    refine Wp.cond rfl (fun cc1 => ?_) (fun cc1 => absurd (of_decide_eq_false cc1) (by exact Classical.byContradiction fun h2 => hp ⟨hm, by omega, by omega⟩))
    have cc1 := of_decide_eq_true cc1
    refine Wp.drop (S' := S) (by repeat (first | exact List.Sublist.refl _ | exact List.sublist_append_right _ _ | apply List.Sublist.cons)) ?_
    refine Wp.seq (Wp.region ?_)
    refine OWp.evs 2 rfl ?_
    refine OWp.nil ?_
    refine Wp.ret ⟨trivial, _, ⟨_, _, rfl, rfl, _, _, rfl, rfl, rfl⟩, ?_⟩
    exact h
  · skip
    refine CallWp.enter (args := [_, _, _]) Try.func35 rfl Try.ntmps35 rfl ?_
    refine Wp.seq (Wp.region ?_)
    refine OWp.step rfl (Step.box rfl rfl rfl ?_); intro L5 hBL5 hLL5
    refine OWp.evs 2 rfl ?_
    refine OWp.nil ?_
    refine Wp.seq (Wp.region ?_)
    refine OWp.evs 2 rfl ?_
    refine OWp.step rfl (Step.call rfl rfl rfl rfl rfl rfl ((table_no hm ?_)))
    refine OWp.evs 3 rfl ?_
    refine OWp.step rfl (Step.alloc rfl rfl rfl ?_); intro L8 hBL8 hLL8
    refine OWp.step rfl (Step.store 0 rfl rfl rfl rfl rfl (by assumption) rfl (Nat.le_of_ble_eq_true rfl) (Unfz.zero _) rfl rfl ?_)
    refine OWp.evs 1 rfl ?_
    refine OWp.nil ?_
    refine Wp.seq ?_
    refine Wp.seq (Wp.region ?_)
    refine OWp.evs 3 rfl ?_
    refine OWp.evs 7 rfl ?_
    refine OWp.nil ?_
    refine Wp.cond rfl (fun _ => ?_) (fun c => nomatch c)
    refine Wp.drop (S' := S) (by repeat (first | exact List.Sublist.refl _ | exact List.sublist_append_right _ _ | apply List.Sublist.cons)) ?_
    refine Wp.seq (Wp.region ?_)
    refine OWp.evs 2 rfl ?_
    refine OWp.nil ?_
    refine Wp.ret ⟨trivial, _, ⟨_, _, rfl, rfl, _, _, rfl, rfl, rfl⟩, ?_⟩
    exact h
theorem of_yes {mean most u : Nat} (h1 : most ≤ 4096) (h2 : mean ≤ 4096) (h3 : u < 4294967296) (h : Q (.tuple #[.int .i64 (dl mean u most : Nat), .int .i64 0]) S) :
    CallWp Try.prog B 35 #[.int .i64 (mean : Int), .int .i64 (most : Int), .int .i64 (u : Int)] Q S := by
  refine CallWp.enter (args := [_, _, _]) Try.func35 rfl Try.ntmps35 rfl ?_
  refine Wp.seq (Wp.region ?_)
  refine OWp.step rfl (Step.box rfl rfl rfl ?_); intro L5 hBL5 hLL5
  refine OWp.evs 2 rfl ?_
  refine OWp.nil ?_
  refine Wp.seq (Wp.region ?_)
  refine OWp.evs 2 rfl ?_
  refine OWp.step rfl (Step.call rfl rfl rfl rfl rfl rfl ((table_yes h1 h2 ?_)))
  intro L hBL hLL
  refine OWp.evs 3 rfl ?_
  refine OWp.step rfl (Step.alloc rfl rfl rfl ?_); intro L8 hBL8 hLL8
  refine OWp.step rfl (Step.store 0 rfl rfl rfl rfl rfl (by assumption) rfl (Nat.le_of_ble_eq_true rfl) (Unfz.zero _) rfl rfl ?_)
  refine OWp.evs 1 rfl ?_
  refine OWp.nil ?_
  refine Wp.seq ?_
  refine Wp.seq (Wp.region ?_)
  refine OWp.evs 3 rfl ?_
  first | refine OWp.load (List.Mem.head _) rfl rfl rfl rfl rfl ?_ | refine OWp.load (List.Mem.tail _ (List.Mem.head _)) rfl rfl rfl rfl rfl ?_ | refine OWp.load (List.Mem.tail _ (List.Mem.tail _ (List.Mem.head _))) rfl rfl rfl rfl rfl ?_ | refine OWp.load (List.Mem.tail _ (List.Mem.tail _ (List.Mem.tail _ (List.Mem.head _)))) rfl rfl rfl rfl rfl ?_ | refine OWp.load (List.Mem.tail _ (List.Mem.tail _ (List.Mem.tail _ (List.Mem.tail _ (List.Mem.head _))))) rfl rfl rfl rfl rfl ?_ | refine OWp.load (List.Mem.tail _ (List.Mem.tail _ (List.Mem.tail _ (List.Mem.tail _ (List.Mem.tail _ (List.Mem.head _)))))) rfl rfl rfl rfl rfl ?_
  refine OWp.evs 3 rfl ?_
  refine OWp.part 22 rfl (fun cc1 => absurd (of_decide_eq_true cc1) (by omega)) (fun cc1 => ?_)
  have cc1 := of_decide_eq_false cc1
  first | refine OWp.load (List.Mem.head _) rfl rfl rfl rfl rfl ?_ | refine OWp.load (List.Mem.tail _ (List.Mem.head _)) rfl rfl rfl rfl rfl ?_ | refine OWp.load (List.Mem.tail _ (List.Mem.tail _ (List.Mem.head _))) rfl rfl rfl rfl rfl ?_ | refine OWp.load (List.Mem.tail _ (List.Mem.tail _ (List.Mem.tail _ (List.Mem.head _)))) rfl rfl rfl rfl rfl ?_ | refine OWp.load (List.Mem.tail _ (List.Mem.tail _ (List.Mem.tail _ (List.Mem.tail _ (List.Mem.head _))))) rfl rfl rfl rfl rfl ?_ | refine OWp.load (List.Mem.tail _ (List.Mem.tail _ (List.Mem.tail _ (List.Mem.tail _ (List.Mem.tail _ (List.Mem.head _)))))) rfl rfl rfl rfl rfl ?_
  refine OWp.evs 2 rfl ?_
  refine OWp.nil ?_
  refine Wp.cond rfl (fun cc2 => absurd (of_decide_eq_true cc2) (by omega)) (fun cc2 => ?_)
  have cc2 := of_decide_eq_false cc2
  refine Wp.skip ?_
  refine Wp.seq (Wp.region ?_)
  refine OWp.evs 2 rfl ?_
  refine OWp.step rfl (Step.call rfl rfl rfl rfl rfl rfl ((searchC (f := fun i => decide (tab mean (i + 1) ≤ u)) rfl (by unfold lim; omega) (fun i hi Q' hq => of1C (by repeat (first | exact List.Mem.head _ | assumption | apply List.mem_cons_of_mem | apply List.mem_append_right)) (by repeat (first | exact List.Mem.head _ | assumption | apply List.mem_cons_of_mem | apply List.mem_append_right)) (by repeat (first | exact List.Mem.head _ | assumption | apply List.mem_cons_of_mem | apply List.mem_append_right)) hi h1 hq) ?_)))
  intro j hj hj0 hj1
  refine OWp.evs 2 rfl ?_
  refine OWp.nil ?_
  refine Wp.drop (S' := S) (by repeat (first | exact List.Sublist.refl _ | exact List.sublist_append_right _ _ | apply List.Sublist.cons)) ?_
  refine Wp.ret ⟨trivial, _, ⟨_, _, rfl, rfl, _, _, rfl, rfl, rfl⟩, ?_⟩
  have e : dl mean u most = j := dl_cut hj (fun i hi => ?_) (fun i hi hk => ?_)
  · rw [e] at h; exact h
  · have := hj0 (by omega)
    have := of_decide_eq_false this
    have h4 := tab_anti mean (show i + 1 ≤ j - 1 + 1 by omega)
    omega
  · have := of_decide_eq_true (hj1 (by omega))
    have h4 := tab_anti mean (show j + 1 ≤ i + 1 by omega)
    omega
theorem rtable_yes {most mean : Nat} (h1 : most ≤ 4096) (h2 : mean ≤ 4096)
    (h : ∀ v es, Own B 3 1 v (most + 1) (ints (tabs mean (most + 1))) es → Q (.tuple #[v, .int .i64 0]) (es ++ S)) :
    CallWp Try.prog B 34 #[.int .i64 (mean : Int), .int .i64 (most : Int)] Q S := by
  refine CallWp.enter (args := [_, _]) Try.func34 rfl Try.ntmps34 rfl ?_
  refine Wp.seq (Wp.region ?_)
  refine OWp.evs 2 rfl ?_
  refine OWp.nil ?_
  refine Wp.seq ?_
  refine Wp.seq (Wp.region ?_)
  refine OWp.evs 2 rfl ?_
  refine OWp.step rfl (Step.call rfl rfl rfl rfl rfl rfl ((rmayC ?_)))
  rw [decide_eq_true ((mayP_one _ _).2 ⟨by omega, by omega, by omega, by omega⟩)]
  refine OWp.evs 1 rfl ?_
  refine OWp.nil ?_
  refine Wp.cond rfl (fun c => nomatch c) (fun _ => ?_)
  refine Wp.skip ?_
  refine Wp.seq (Wp.region ?_)
  refine OWp.step rfl (Step.buildSlice rfl rfl rfl ?_); intro L0 hBL0 hLL0
  refine OWp.evs 1 rfl ?_
  refine OWp.nil ?_
  refine Wp.seq ?_
  refine Wp.seq (Wp.region ?_)
  refine OWp.evs 1 rfl ?_
  refine OWp.nil ?_
  refine Wp.block ?_
  refine Wp.loopS (α := Nat × Value × Ents) (fun x => most - x.1) (fun x => [(7, .int .i64 (x.1 : Int)), (6, x.2.1), (0, .int .i64 (mean : Int)), (1, .int .i64 (most : Int))]) (fun x => x.2.2 ++ S) (fun x => x.1 ≤ most ∧ Own B 3 1 x.2.1 (x.1 + 1) (ints (tabs mean (x.1 + 1))) x.2.2) (0, .slice (some ⟨L0, 0, none⟩) 1 1, [(L0, cel [.int .i64 4294967296] 3)]) ?_ (.refl _) ⟨Nat.zero_le _, Own.row hBL0 rfl (by decide)⟩ ?_
  · exact .cons rfl (.cons rfl (.cons rfl (.cons rfl (.nil _))))
  rintro ⟨i, v, es⟩ ⟨hi, hown⟩
  simp only at hi hown ⊢
  refine Wp.seq ?_
  refine Wp.seq (Wp.region ?_)
  refine OWp.evs 3 rfl ?_
  refine OWp.nil ?_
  refine Wp.cond rfl (fun h3 => ?_) (fun h3 => ?_)
  · have h3 := of_decide_eq_true h3
    obtain ⟨b1, o1, c1, l1, t1, f1, hv1, hm1, _, hg1⟩ := hown.reads.get1 (by omega)
    subst hv1
    refine Wp.skip ?_
    refine Wp.seq ?_
    refine Wp.block ?_
    refine Wp.region ?_
    refine OWp.evs 3 rfl ?_
    refine OWp.g rfl rfl (Gives.indexAddrSlice (i) rfl rfl rfl rfl rfl rfl (by omega)) ?_
    refine OWp.load (List.mem_append_left _ hm1) rfl rfl rfl rfl ((hg1 i (by omega)).trans (by rw [ints, List.getElem?_map, tabs_get (by omega)]; rfl)) ?_
    refine OWp.evs 4 rfl ?_
    refine OWp.g rfl rfl (Gives.quo rfl rfl rfl (by rw [i64_id] <;> omega)) ?_
    rw [table_step (tab_le _ _) h2]
    refine OWp.step rfl (Step.buildSlice rfl rfl rfl ?_); intro Lp1 hBLp1 hLLp1
    refine OWp.step rfl (Step.appendAt [_] rfl rfl rfl rfl rfl rfl (by decide) rfl rfl hown (Reads.row (k := 1) (sz := 1) (.head _) (Nat.le_of_ble_eq_true rfl)) rfl (by show (_ + 1) * 8 ≤ _; omega) (by unfold maxLen; omega) ?_); intro v3 es3 ho3 _
    refine OWp.dropAt 0 rfl ?_
    refine OWp.evs 1 rfl ?_
    refine OWp.nil ?_
    refine Wp.region ?_
    refine OWp.evs 3 rfl ?_
    refine OWp.nil ?_
    refine ⟨(i + 1, v3, es3), by simp only; omega, ⟨by simp only; omega, ?_⟩, ?_, .refl _⟩
    · have : ints (tabs mean (i + 1 + 1)) = ints (tabs mean (i + 1)) ++ [.int .i64 (tab mean (i + 1) : Nat)] := by rw [tabs_snoc _ (i + 1)]; simp [ints]
      exact this ▸ ho3
    · exact .cons' rfl (int_eq (wrap_add1 i (by unfold lim; omega))) (.cons rfl (.cons rfl (.cons rfl (.nil _))))
  have h3 := of_decide_eq_false h3
  obtain rfl : i = most := by omega
  refine Wp.exit ?_
  refine Wp.seq (Wp.region ?_)
  refine OWp.evs 3 rfl ?_
  refine OWp.nil ?_
  refine Wp.ret ⟨trivial, _, ⟨_, _, rfl, rfl, _, _, rfl, rfl, rfl⟩, ?_⟩
  exact h v es hown
theorem rof_no {mean most u : Int} (hp : ¬ ofP mean most u) (h : Q (.tuple #[.int .i64 0, .int .i64 1]) S) : CallWp Try.prog B 36 #[.int .i64 mean, .int .i64 most, .int .i64 u] Q S := by
  unfold ofP at hp
  by_cases hm : mayP most [mean]
  · obtain ⟨m1, m2, m3, m4⟩ := (mayP_one _ _).1 hm
    obtain ⟨mean, rfl⟩ : ∃ m : Nat, mean = (m : Int) := ⟨mean.toNat, by omega⟩
    obtain ⟨most, rfl⟩ : ∃ m : Nat, most = (m : Int) := ⟨most.toNat, by omega⟩
    refine CallWp.enter (args := [_, _, _]) Try.func36 rfl Try.ntmps36 rfl ?_
    refine Wp.seq (Wp.region ?_)
    refine OWp.evs 2 rfl ?_
    refine OWp.nil ?_
    refine Wp.seq (Wp.region ?_)
    refine OWp.evs 2 rfl ?_
    refine OWp.step rfl (Step.call rfl rfl rfl rfl rfl rfl ((rtable_yes (by omega) (by omega) ?_)))
    intro v es hown
    refine OWp.evs 5 rfl ?_
    refine OWp.nil ?_
    refine Wp.seq ?_
    refine Wp.seq (Wp.region ?_)
    refine OWp.evs 3 rfl ?_
    refine OWp.evs 4 rfl ?_
    refine OWp.part 24 rfl (fun h1 => ?_) (fun h1 => ?_)
    · have h1 := of_decide_eq_true h1
      refine OWp.evs 3 rfl ?_
      refine OWp.nil ?_
      refine Wp.cond rfl (fun _ => ?_) (fun c => nomatch c)
      refine Wp.drop (S' := S) (by repeat (first | exact List.Sublist.refl _ | exact List.sublist_append_right _ _ | apply List.Sublist.cons)) ?_
      refine Wp.seq (Wp.region ?_)
      refine OWp.evs 2 rfl ?_
      refine OWp.nil ?_
      refine Wp.ret ⟨trivial, _, ⟨_, _, rfl, rfl, _, _, rfl, rfl, rfl⟩, ?_⟩
      exact h
    have h1 := of_decide_eq_false h1
    refine OWp.evs 3 rfl ?_
    refine OWp.nil ?_
    refine Wp.cond rfl (fun cc1 => ?_) (fun cc1 => absurd (of_decide_eq_false cc1) (by exact Classical.byContradiction fun h2 => hp ⟨hm, by omega, by omega⟩))
    have cc1 := of_decide_eq_true cc1
    refine Wp.drop (S' := S) (by repeat (first | exact List.Sublist.refl _ | exact List.sublist_append_right _ _ | apply List.Sublist.cons)) ?_
    refine Wp.seq (Wp.region ?_)
    refine OWp.evs 2 rfl ?_
    refine OWp.nil ?_
    refine Wp.ret ⟨trivial, _, ⟨_, _, rfl, rfl, _, _, rfl, rfl, rfl⟩, ?_⟩
    exact h
  · skip
    refine CallWp.enter (args := [_, _, _]) Try.func36 rfl Try.ntmps36 rfl ?_
    refine Wp.seq (Wp.region ?_)
    refine OWp.evs 2 rfl ?_
    refine OWp.nil ?_
    refine Wp.seq (Wp.region ?_)
    refine OWp.evs 2 rfl ?_
    refine OWp.step rfl (Step.call rfl rfl rfl rfl rfl rfl ((rtable_no hm ?_)))
    refine OWp.evs 5 rfl ?_
    refine OWp.nil ?_
    refine Wp.seq ?_
    refine Wp.seq (Wp.region ?_)
    refine OWp.evs 3 rfl ?_
    refine OWp.evs 7 rfl ?_
    refine OWp.nil ?_
    refine Wp.cond rfl (fun _ => ?_) (fun c => nomatch c)
    refine Wp.seq (Wp.region ?_)
    refine OWp.evs 2 rfl ?_
    refine OWp.nil ?_
    refine Wp.ret ⟨trivial, _, ⟨_, _, rfl, rfl, _, _, rfl, rfl, rfl⟩, ?_⟩
    exact h
theorem rof_yes {mean most u : Nat} (h1 : most ≤ 4096) (h2 : mean ≤ 4096) (h3 : u < 4294967296) (h : Q (.tuple #[.int .i64 (dl mean u most : Nat), .int .i64 0]) S) :
    CallWp Try.prog B 36 #[.int .i64 (mean : Int), .int .i64 (most : Int), .int .i64 (u : Int)] Q S := by
  refine CallWp.enter (args := [_, _, _]) Try.func36 rfl Try.ntmps36 rfl ?_
  refine Wp.seq (Wp.region ?_)
  refine OWp.evs 2 rfl ?_
  refine OWp.nil ?_
  refine Wp.seq (Wp.region ?_)
  refine OWp.evs 2 rfl ?_
  refine OWp.step rfl (Step.call rfl rfl rfl rfl rfl rfl ((rtable_yes h1 h2 ?_)))
  intro v es hown
  obtain ⟨b1, o1, c1, l1, t1, f1, hv1, hm1, _, hg1⟩ := hown.reads.get1 (by omega)
  subst hv1
  refine OWp.evs 5 rfl ?_
  refine OWp.nil ?_
  refine Wp.seq ?_
  refine Wp.seq (Wp.region ?_)
  refine OWp.evs 3 rfl ?_
  refine OWp.evs 4 rfl ?_
  refine OWp.part 24 rfl (fun cc1 => absurd (of_decide_eq_true cc1) (by omega)) (fun cc1 => ?_)
  have cc1 := of_decide_eq_false cc1
  refine OWp.evs 3 rfl ?_
  refine OWp.nil ?_
  refine Wp.cond rfl (fun cc2 => absurd (of_decide_eq_true cc2) (by omega)) (fun cc2 => ?_)
  have cc2 := of_decide_eq_false cc2
  refine Wp.skip ?_
  refine Wp.seq (Wp.region ?_)
  refine OWp.evs 1 rfl ?_
  refine OWp.nil ?_
  refine Wp.seq ?_
  refine Wp.seq (Wp.region ?_)
  refine OWp.evs 1 rfl ?_
  refine OWp.nil ?_
  refine Wp.block ?_
  refine Wp.loopS (α := Nat) (fun i => most - i) (fun i => [(11, .int .i64 ((i + 1 : Nat) : Int)), (10, .int .i64 (dl mean u i : Nat)), (8, .slice (some ⟨b1, o1, none⟩) (most + 1) c1), (2, .int .i64 (u : Int))]) (fun _ => es ++ S) (fun i => i ≤ most) 0 ?_ (.refl _) (Nat.zero_le _) ?_
  · exact .cons rfl (.cons rfl (.cons rfl (.cons rfl (.nil _))))
  intro i hi
  have hdl := dl_le mean u i
  refine Wp.seq ?_
  refine Wp.seq (Wp.region ?_)
  refine OWp.evs 4 rfl ?_
  refine OWp.nil ?_
  refine Wp.cond rfl (fun h4 => ?_) (fun h4 => ?_)
  · have h4 := of_decide_eq_true h4
    refine Wp.skip ?_
    refine Wp.seq ?_
    refine Wp.block ?_
    refine Wp.seq (Wp.region ?_)
    refine OWp.evs 2 rfl ?_
    refine OWp.g rfl rfl (Gives.indexAddrSlice (i + 1) rfl rfl rfl rfl rfl rfl (by omega)) ?_
    refine OWp.load (List.mem_append_left _ hm1) rfl rfl rfl rfl ((hg1 (i + 1) (by omega)).trans (by rw [ints, List.getElem?_map, tabs_get (by omega)]; rfl)) ?_
    refine OWp.evs 2 rfl ?_
    refine OWp.nil ?_
    refine Wp.cond rfl (fun h5 => ?_) (fun h5 => ?_)
    · have h5 := of_decide_eq_true h5
      refine Wp.region ?_
      refine OWp.evs 3 rfl ?_
      refine OWp.nil ?_
      refine Wp.region ?_
      refine OWp.evs 3 rfl ?_
      refine OWp.nil ?_
      refine ⟨i + 1, by omega, by omega, ?_, .refl _⟩
      exact .cons' rfl (int_eq (wrap_add1 (i + 1) (by unfold lim; omega))) (.cons' rfl (int_eq (by rw [dl, if_pos (by omega)]; exact wrap_add1 _ (by unfold lim; omega))) (.cons rfl (.cons rfl (.nil _))))
    have h5 := of_decide_eq_false h5
    refine Wp.skip ?_
    refine Wp.region ?_
    refine OWp.evs 3 rfl ?_
    refine OWp.nil ?_
    refine ⟨i + 1, by omega, by omega, ?_, .refl _⟩
    exact .cons' rfl (int_eq (wrap_add1 (i + 1) (by unfold lim; omega))) (.cons' rfl (int_eq (by rw [dl, if_neg (by omega)]; rfl)) (.cons rfl (.cons rfl (.nil _))))
  have h4 := of_decide_eq_false h4
  obtain rfl : i = most := by omega
  refine Wp.exit ?_
  refine Wp.drop (S' := S) (by repeat (first | exact List.Sublist.refl _ | exact List.sublist_append_right _ _ | apply List.Sublist.cons)) ?_
  refine Wp.seq (Wp.region ?_)
  refine OWp.evs 3 rfl ?_
  refine OWp.nil ?_
  refine Wp.ret ⟨trivial, _, ⟨_, _, rfl, rfl, _, _, rfl, rfl, rfl⟩, ?_⟩
  exact h
end
end Go.Proofs.C
