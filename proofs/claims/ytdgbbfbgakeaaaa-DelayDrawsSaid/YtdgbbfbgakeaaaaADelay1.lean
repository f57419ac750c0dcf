/- What functions of the given program do, one after the other, told by that layer. -/
import Derived.Test.YtdgbbfbgakeaaaaAInts
import Derived.Test.YtdgbbfbgakeaaaaADelayP
namespace Go.Proofs.C
open Go.Lg
set_option maxRecDepth 100000

def mayP (most : Int) (l : List Int) : Prop := 0 ≤ most ∧ most ≤ 4096 ∧ ∀ m ∈ l, 0 ≤ m ∧ m ≤ 4096
instance (most : Int) (l : List Int) : Decidable (mayP most l) := by unfold mayP; infer_instance

theorem mayP_one (most mean : Int) : mayP most [mean] ↔ 0 ≤ most ∧ most ≤ 4096 ∧ 0 ≤ mean ∧ mean ≤ 4096 := by simp [mayP]

theorem mid_id {i j : Nat} (h : i + j ≤ 281474976710656) : IntKind.i64.wrap ((IntKind.u64.wrap (IntKind.i64.wrap ((i : Int) + (j : Int)))).fdiv (2 ^ (min 1 IntKind.u64.bits))) = (((i + j) / 2 : Nat) : Int) := by
  have e : (2 : Int) ^ (min 1 IntKind.u64.bits) = 2 := by decide
  rw [e, i64_id (x := (i : Int) + (j : Int)) (by omega) (by omega), IntKind.wrap_u64, Int.fdiv_eq_ediv_of_nonneg _ (by omega), i64_id (by omega) (by omega)]
  omega

theorem table_step {m x : Nat} (hx : x ≤ 4294967296) (hm : m ≤ 4096) : IntKind.i64.wrap ((IntKind.i64.wrap ((x : Int) * (m : Int))).tdiv (IntKind.i64.wrap ((m : Int) + 1))) = ((x * m / (m + 1) : Nat) : Int) := by
  have h1 : x * m ≤ 4294967296 * 4096 := Nat.mul_le_mul hx hm
  have e : (x : Int) * (m : Int) = ((x * m : Nat) : Int) := by simp
  rw [e, i64_id (x := ((x * m : Nat) : Int)) (by omega) (by omega), i64_id (x := (m : Int) + 1) (by omega) (by omega), Int.tdiv_eq_ediv_of_nonneg (by omega)]
  rw [show (m : Int) + 1 = ((m + 1 : Nat) : Int) by omega, ← Int.natCast_ediv]
  have h2 : x * m / (m + 1) ≤ x * m := Nat.div_le_self _ _
  generalize x * m / (m + 1) = z at h2 ⊢
  rw [i64_id (by omega) (by omega)]

theorem tabs_set {m i n : Nat} (h : i + 1 ≤ n) : (tabs m (i + 1) ++ List.replicate (n - i) 0).set (i + 1) (tab m (i + 1)) = tabs m (i + 2) ++ List.replicate (n - (i + 1)) 0 := by
  obtain ⟨r, rfl⟩ : ∃ r, n = i + (r + 1) := ⟨n - i - 1, by omega⟩
  rw [List.set_append_right _ _ (by simp [tabs])]
  simp only [tabs_len, Nat.sub_self, Nat.add_sub_cancel_left, List.replicate_succ, List.set_cons_zero]
  rw [tabs_snoc m (i + 1), List.append_assoc, show i + (r + 1) - (i + 1) = r by omega]
  rfl

theorem tabs_getD {m i n : Nat} {r : List Nat} (h : i < n) : (tabs m n ++ r).getD i 0 = tab m i := by
  rw [List.getD_eq_getElem?_getD, List.getElem?_append_left (by rw [tabs_len]; exact h), tabs_get h]
  rfl

section
variable {B : Nat} {S R : Ents} {Q : Value → Ents → Prop}

theorem mayC {most : Int} {v : Value} {n : Nat} {l : List Int} (hl : Reads S 1 v n (zi l)) (hn : n ≤ lim) (h : Q (.bool (decide (mayP most l))) S) :
    CallWp Try.prog B 72 #[.int .i64 most, v] Q S := by
  obtain ⟨aa, ac, rfl⟩ := hl.form
  have e1 : l.length = n := by have := hl.1; rw [zi_length] at this; omega
  unfold lim at hn
  refine CallWp.enter (args := [_, _]) Try.func72 rfl Try.ntmps72 rfl ?_
  refine Wp.seq (Wp.region ?_)
  refine OWp.evs 1 rfl ?_
  refine OWp.nil ?_
  refine Wp.seq ?_
  refine Wp.seq (Wp.region ?_)
  refine OWp.evs 3 rfl ?_
  refine OWp.part 9 rfl (fun h1 => ?_) (fun h1 => ?_)
  · have h1 := of_decide_eq_true h1
    refine OWp.evs 3 rfl ?_
    refine OWp.nil ?_
    refine Wp.cond rfl (fun _ => ?_) (fun c => nomatch c)
    refine Wp.seq (Wp.region ?_)
    refine OWp.evs 1 rfl ?_
    refine OWp.nil ?_
    refine Wp.ret ⟨trivial, _, ⟨_, _, rfl, rfl, rfl⟩, ?_⟩
    rw [decide_eq_false (fun e => by unfold mayP at e; omega)] at h; exact h
  have h1 := of_decide_eq_false h1
  refine OWp.evs 3 rfl ?_
  refine OWp.nil ?_
  refine Wp.cond rfl (fun h2 => ?_) (fun h2 => ?_)
  · have h2 := of_decide_eq_true h2
    refine Wp.seq (Wp.region ?_)
    refine OWp.evs 1 rfl ?_
    refine OWp.nil ?_
    refine Wp.ret ⟨trivial, _, ⟨_, _, rfl, rfl, rfl⟩, ?_⟩
    rw [decide_eq_false (fun e => by unfold mayP at e; omega)] at h; exact h
  have h2 := of_decide_eq_false h2
  refine Wp.skip ?_
  refine Wp.seq ?_
  refine Wp.seq (Wp.region ?_)
  refine OWp.evs 3 rfl ?_
  refine OWp.nil ?_
  refine Wp.block ?_
  refine Wp.loopS (α := Nat) (fun i => n - i) (fun i => [(15, .int .i64 (i : Int)), (14, .int .i64 (n : Int)), (13, .slice aa n ac)]) (fun _ => S) (fun i => i ≤ n ∧ ∀ m ∈ l.take i, 0 ≤ m ∧ m ≤ 4096) 0 ?_ (.refl _) ⟨Nat.zero_le _, by simp⟩ ?_
  · exact .cons rfl (.cons rfl (.cons rfl (.nil _)))
  rintro i ⟨hi, he⟩
  refine Wp.seq (Wp.region ?_)
  refine OWp.evs 1 rfl ?_
  refine OWp.nil ?_
  refine Wp.seq ?_
  refine Wp.cond rfl (fun h3 => ?_) (fun h3 => ?_)
  · have h3 := of_decide_eq_true h3
    have hlt : i < n := by omega
    obtain ⟨b1, o1, c1, l1, t1, f1, hv1, hm1, _, hg1⟩ := hl.get1 (by omega)
    cases hv1
    have x1 : l[i]? = some l[i] := by simp
    refine Wp.skip ?_
    refine Wp.seq ?_
    refine Wp.block ?_
    refine Wp.seq (Wp.region ?_)
    refine OWp.g rfl rfl (Gives.indexAddrSlice (i) rfl rfl rfl rfl rfl rfl (by omega)) ?_
    refine OWp.load (hm1) rfl rfl rfl rfl ((hg1 i hlt).trans (zi_get x1)) ?_
    refine OWp.evs 1 rfl ?_
    refine OWp.nil ?_
    refine Wp.seq (Wp.region ?_)
    refine OWp.evs 3 rfl ?_
    refine OWp.part 21 rfl (fun h4 => ?_) (fun h4 => ?_)
    · have h4 := of_decide_eq_true h4
      refine OWp.evs 3 rfl ?_
      refine OWp.nil ?_
      refine Wp.cond rfl (fun _ => ?_) (fun c => nomatch c)
      refine Wp.seq (Wp.region ?_)
      refine OWp.evs 1 rfl ?_
      refine OWp.nil ?_
      refine Wp.ret ⟨trivial, _, ⟨_, _, rfl, rfl, rfl⟩, ?_⟩
      rw [decide_eq_false (fun e => by have := e.2.2 l[i] (by simp); omega)] at h; exact h
    have h4 := of_decide_eq_false h4
    refine OWp.evs 3 rfl ?_
    refine OWp.nil ?_
    refine Wp.cond rfl (fun h5 => ?_) (fun h5 => ?_)
    · have h5 := of_decide_eq_true h5
      refine Wp.seq (Wp.region ?_)
      refine OWp.evs 1 rfl ?_
      refine OWp.nil ?_
      refine Wp.ret ⟨trivial, _, ⟨_, _, rfl, rfl, rfl⟩, ?_⟩
      rw [decide_eq_false (fun e => by have := e.2.2 l[i] (by simp); omega)] at h; exact h
    have h5 := of_decide_eq_false h5
    refine Wp.skip ?_
    refine Wp.region ?_
    refine OWp.evs 2 rfl ?_
    refine OWp.nil ?_
    refine ⟨i + 1, by omega, ⟨by omega, ?_⟩, ?_, .refl _⟩
    · intro m hm
      rw [List.take_add_one, x1] at hm
      rcases List.mem_append.1 hm with hm | hm
      · exact he m hm
      · simp at hm; subst hm; omega
    · exact .cons' rfl (int_eq (by rw [i64_id] <;> omega)) (.cons rfl (.cons rfl (.nil _)))
  have h3 := of_decide_eq_false h3
  refine Wp.exit ?_
  refine Wp.seq (Wp.region ?_)
  refine OWp.evs 1 rfl ?_
  refine OWp.nil ?_
  refine Wp.ret ⟨trivial, _, ⟨_, _, rfl, rfl, rfl⟩, ?_⟩
  rw [decide_eq_true ⟨by omega, by omega, by rw [List.take_of_length_le (by omega)] at he; exact he⟩] at h; exact h
theorem rmayC {most mean : Int} (h : Q (.bool (decide (mayP most [mean]))) S) : CallWp Try.prog B 73 #[.int .i64 mean, .int .i64 most] Q S := by
  have h : Q (.bool (decide (0 ≤ most ∧ most ≤ 4096 ∧ 0 ≤ mean ∧ mean ≤ 4096))) S := by rw [← decide_eq_decide.2 (mayP_one most mean)]; exact h
  refine CallWp.enter (args := [_, _]) Try.func73 rfl Try.ntmps73 rfl ?_
  refine Wp.seq (Wp.region ?_)
  refine OWp.evs 1 rfl ?_
  refine OWp.nil ?_
  refine Wp.seq (Wp.region ?_)
  refine OWp.evs 3 rfl ?_
  refine OWp.part 7 rfl (fun h1 => ?_) (fun h1 => ?_)
  · have h1 := of_decide_eq_true h1
    refine OWp.evs 4 rfl ?_
    refine OWp.part 11 rfl (fun h2 => ?_) (fun h2 => ?_)
    · have h2 := of_decide_eq_true h2
      refine OWp.evs 4 rfl ?_
      refine OWp.part 15 rfl (fun h3 => ?_) (fun h3 => ?_)
      · have h3 := of_decide_eq_true h3
        refine OWp.evs 4 rfl ?_
        refine OWp.nil ?_
        refine Wp.ret ⟨trivial, _, ⟨_, _, rfl, rfl, rfl⟩, ?_⟩
        rw [decide_eq_decide.2 (show (0 ≤ most ∧ most ≤ 4096 ∧ 0 ≤ mean ∧ mean ≤ 4096) ↔ most ≤ 4096 by omega)] at h; exact h
      have h3 := of_decide_eq_false h3
      refine OWp.evs 4 rfl ?_
      refine OWp.nil ?_
      refine Wp.ret ⟨trivial, _, ⟨_, _, rfl, rfl, rfl⟩, ?_⟩
      rw [decide_eq_false (by omega)] at h; exact h
    have h2 := of_decide_eq_false h2
    refine OWp.evs 8 rfl ?_
    refine OWp.nil ?_
    refine Wp.ret ⟨trivial, _, ⟨_, _, rfl, rfl, rfl⟩, ?_⟩
    rw [decide_eq_false (by omega)] at h; exact h
  have h1 := of_decide_eq_false h1
  refine OWp.evs 12 rfl ?_
  refine OWp.nil ?_
  refine Wp.ret ⟨trivial, _, ⟨_, _, rfl, rfl, rfl⟩, ?_⟩
  rw [decide_eq_false (by omega)] at h; exact h
theorem table_no {most mean : Int} (hm : ¬ mayP most [mean]) (h : Q (.tuple #[.slice none 0 0, .int .i64 1]) S) : CallWp Try.prog B 33 #[.int .i64 mean, .int .i64 most] Q S := by
  refine CallWp.enter (args := [_, _]) Try.func33 rfl Try.ntmps33 rfl ?_
  refine Wp.seq (Wp.region ?_)
  refine OWp.evs 2 rfl ?_
  refine OWp.nil ?_
  refine Wp.seq ?_
  refine Wp.seq (Wp.region ?_)
  refine OWp.evs 2 rfl ?_
  refine OWp.step rfl (Step.buildSlice rfl rfl rfl ?_); intro L hBL hLL
  refine OWp.step rfl (Step.call rfl rfl rfl rfl rfl rfl ((mayC (l := [mean]) (Reads.row (k := 1) (sz := 1) (.head _) (Nat.le_refl 1)) (by decide) ?_)))
  rw [decide_eq_false hm]
  refine OWp.evs 1 rfl ?_
  refine OWp.nil ?_
  refine Wp.cond rfl (fun _ => ?_) (fun c => nomatch c)
  refine Wp.drop (S' := S) (by repeat (first | exact List.Sublist.refl _ | exact List.sublist_append_right _ _ | apply List.Sublist.cons)) ?_
  refine Wp.seq (Wp.region ?_)
  refine OWp.evs 2 rfl ?_
  refine OWp.nil ?_
  refine Wp.ret ⟨trivial, _, ⟨_, _, rfl, rfl, _, _, rfl, rfl, rfl⟩, ?_⟩
  exact h
theorem rtable_no {most mean : Int} (hm : ¬ mayP most [mean]) (h : Q (.tuple #[.slice none 0 0, .int .i64 1]) S) : CallWp Try.prog B 34 #[.int .i64 mean, .int .i64 most] Q S := by
  refine CallWp.enter (args := [_, _]) Try.func34 rfl Try.ntmps34 rfl ?_
  refine Wp.seq (Wp.region ?_)
  refine OWp.evs 2 rfl ?_
  refine OWp.nil ?_
  refine Wp.seq ?_
  refine Wp.seq (Wp.region ?_)
  refine OWp.evs 2 rfl ?_
  refine OWp.step rfl (Step.call rfl rfl rfl rfl rfl rfl ((rmayC ?_)))
  rw [decide_eq_false hm]
  refine OWp.evs 1 rfl ?_
  refine OWp.nil ?_
  refine Wp.cond rfl (fun _ => ?_) (fun c => nomatch c)
  refine Wp.seq (Wp.region ?_)
  refine OWp.evs 2 rfl ?_
  refine OWp.nil ?_
  refine Wp.ret ⟨trivial, _, ⟨_, _, rfl, rfl, _, _, rfl, rfl, rfl⟩, ?_⟩
  exact h
theorem table_yes {most mean : Nat} (h1 : most ≤ 4096) (h2 : mean ≤ 4096)
    (h : ∀ L, B ≤ L → (∀ x ∈ S, x.1 < L) → Q (.tuple #[.slice (some ⟨L, 0, none⟩) (most + 1) (most + 1), .int .i64 0]) ((L, cel (ints (tabs mean (most + 1))) 3) :: S)) :
    CallWp Try.prog B 33 #[.int .i64 (mean : Int), .int .i64 (most : Int)] Q S := by
  refine CallWp.enter (args := [_, _]) Try.func33 rfl Try.ntmps33 rfl ?_
  refine Wp.seq (Wp.region ?_)
  refine OWp.evs 2 rfl ?_
  refine OWp.nil ?_
  refine Wp.seq ?_
  refine Wp.seq (Wp.region ?_)
  refine OWp.evs 2 rfl ?_
  refine OWp.step rfl (Step.buildSlice rfl rfl rfl ?_); intro L0 hBL0 hLL0
  refine OWp.step rfl (Step.call rfl rfl rfl rfl rfl rfl ((mayC (l := [(mean : Int)]) (Reads.row (k := 1) (sz := 1) (.head _) (Nat.le_refl 1)) (by decide) ?_)))
  rw [decide_eq_true ((mayP_one _ _).2 ⟨by omega, by omega, by omega, by omega⟩)]
  refine OWp.evs 1 rfl ?_
  refine OWp.nil ?_
  refine Wp.cond rfl (fun c => nomatch c) (fun _ => ?_)
  refine Wp.skip ?_
  refine Wp.seq (Wp.region ?_)
  refine OWp.evs 2 rfl ?_
  refine OWp.step rfl (Step.makeSlice (len := most + 1) (cap := most + 1) rfl rfl rfl rfl rfl rfl (by decide) (by show _ = some (Value.int .i64 ((most + 1 : Nat) : Int)); rw [← wrap_add1 most (by unfold lim; omega)]; rfl) (by show _ = some (Value.int .i64 ((most + 1 : Nat) : Int)); rw [← wrap_add1 most (by unfold lim; omega)]; rfl) (Nat.le_refl _) ?_ (by omega) ?_)
  · show 8 * (most + 1) ≤ _; omega
  intro L hBL hLL
  rw [show zeros (cellsOf (.int .i64 0)) (most + 1) = ints (List.replicate (most + 1) 0) from zeros_ints (most + 1)]
  refine OWp.evs 1 rfl ?_
  refine OWp.nil ?_
  refine Wp.seq (Wp.region ?_)
  refine OWp.evs 1 rfl ?_
  refine OWp.g rfl rfl (Gives.indexAddrSlice (0) rfl rfl rfl rfl rfl rfl (by omega)) ?_
  refine OWp.step rfl (Step.storeAs 0 (ints ((List.replicate (most + 1) 0).set 0 4294967296)) rfl rfl rfl rfl rfl (by assumption) rfl (Unfz.zero _) rfl (by rw [ints_length, List.length_replicate]; show 0 + 0 * 1 + 1 ≤ _; omega) (ints_set' (List.replicate (most + 1) 0) _ 0 4294967296 (by simp) (by show 0 + 0 * 1 = 0; omega)) rfl ?_)
  refine OWp.nil ?_
  refine Wp.seq ?_
  refine Wp.seq (Wp.region ?_)
  refine OWp.evs 2 rfl ?_
  refine OWp.nil ?_
  refine Wp.block ?_
  refine Wp.loopS (α := Nat) (fun i => most - i) (fun i => [(19, .int .i64 (i : Int)), (18, .int .i64 (most : Int)), (6, .slice (some ⟨L, 0, none⟩) (most + 1) (most + 1)), (0, .int .i64 (mean : Int))]) (fun i => (L, cel (ints (tabs mean (i + 1) ++ List.replicate (most - i) 0)) 3) :: (L0, cel [.int .i64 (mean : Int)] 3) :: S) (fun i => i ≤ most) 0 ?_ ?_ (Nat.zero_le _) ?_
  · exact .cons rfl (.cons rfl (.cons rfl (.cons rfl (.nil _))))
  · exact .refl _
  intro i hi
  have hlen : (tabs mean (i + 1) ++ List.replicate (most - i) 0).length = most + 1 := by simp [tabs]; omega
  refine Wp.seq (Wp.region ?_)
  refine OWp.evs 1 rfl ?_
  refine OWp.nil ?_
  refine Wp.seq ?_
  refine Wp.cond rfl (fun h3 => ?_) (fun h3 => ?_)
  · have h3 := of_decide_eq_true h3
    refine Wp.skip ?_
    refine Wp.seq ?_
    refine Wp.block ?_
    refine Wp.seq (Wp.region ?_)
    refine OWp.evs 2 rfl ?_
    refine OWp.nil ?_
    refine Wp.region ?_
    refine OWp.evs 5 rfl ?_
    refine OWp.g rfl rfl (Gives.indexAddrSlice (i) rfl rfl rfl rfl rfl rfl (by omega)) ?_
    refine OWp.load (.head _) rfl rfl rfl rfl (ints_part _ i (by omega)) ?_
    refine OWp.evs 4 rfl ?_
    refine OWp.g rfl rfl (Gives.quo rfl rfl rfl (by rw [i64_id] <;> omega)) ?_
    rw [tabs_getD (Nat.lt_succ_self i), table_step (tab_le _ _) h2]
    refine OWp.g rfl rfl (Gives.indexAddrSlice (i + 1) rfl rfl rfl rfl rfl (wrap_add1 i (by unfold lim; omega)) (by omega)) ?_
    refine OWp.step rfl (Step.storeAs 0 (ints (tabs mean (i + 2) ++ List.replicate (most - (i + 1)) 0)) rfl rfl rfl rfl rfl (by assumption) rfl (Unfz.zero _) rfl (by rw [ints_length, hlen]; show 0 + (i + 1) * 1 + 1 ≤ _; omega) (by rw [← tabs_set (by omega)]; exact ints_set' _ _ (i + 1) (tab mean (i + 1)) (by omega) (by show 0 + (i + 1) * 1 = i + 1; omega)) rfl ?_)
    refine OWp.nil ?_
    refine Wp.region ?_
    refine OWp.evs 2 rfl ?_
    refine OWp.nil ?_
    refine ⟨i + 1, by omega, by omega, ?_, .refl _⟩
    exact .cons' rfl (int_eq (wrap_add1 i (by unfold lim; omega))) (.cons rfl (.cons rfl (.cons rfl (.nil _))))
  have h3 := of_decide_eq_false h3
  obtain rfl : i = most := by omega
  rw [Nat.sub_self, List.replicate_zero, List.append_nil]
  refine Wp.exit ?_
  refine Wp.drop (S' := (L, cel (ints (tabs mean (i + 1))) 3) :: S) (.cons_cons _ (.cons _ (.refl _))) ?_
  refine Wp.seq (Wp.region ?_)
  refine OWp.evs 3 rfl ?_
  refine OWp.nil ?_
  refine Wp.ret ⟨trivial, _, ⟨_, _, rfl, rfl, _, _, rfl, rfl, rfl⟩, ?_⟩
  exact h L hBL (fun x hx => hLL x (List.mem_cons_of_mem _ hx))
end
end Go.Proofs.C
