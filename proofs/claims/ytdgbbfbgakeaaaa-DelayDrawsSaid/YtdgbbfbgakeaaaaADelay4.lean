/- What functions of the given program do, one after the other, told by that layer. -/
import Derived.Test.YtdgbbfbgakeaaaaADelay3
import Derived.Test.YtdgbbfbgakeaaaaATape8
namespace Go.Proofs.C
open Go.Lg
set_option maxRecDepth 100000

/-- The delay that is drawn at place i. -/
def dr (s : List UInt8) (most : Int) (k : Nat) (l : List Int) (i : Nat) : Nat := dl (l.getD i 0).toNat (word s (k + 4 * i)) most.toNat
def drawn (s : List UInt8) (most : Int) (k : Nat) (l : List Int) (n : Nat) : List Nat := (List.range n).map (dr s most k l)
/-- What Several tells: delays, why not, and where the tape stands. -/
def sevR (s : List UInt8) (most : Int) (k : Nat) (l : List Int) : List Nat × Nat × Nat :=
  if ¬ (mayP most l ∧ l.length ≤ 64) then ([], 1, k) else if s.length - k < 4 * l.length then ([], 120, k) else (drawn s most k l l.length, 0, k + 4 * l.length)
def drawR (s : List UInt8) (mean most : Int) (k : Nat) : Nat × Nat × Nat :=
  if ¬ mayP most [mean] then (0, 1, k) else if s.length - k < 4 then (0, 120, k) else (dl mean.toNat (word s k) most.toNat, 0, k + 4)

theorem drawn_len (s : List UInt8) (most : Int) (k : Nat) (l : List Int) (n : Nat) : (drawn s most k l n).length = n := by simp [drawn]
theorem drawn_snoc (s : List UInt8) (most : Int) (k : Nat) (l : List Int) (n : Nat) : drawn s most k l (n + 1) = drawn s most k l n ++ [dr s most k l n] := by simp [drawn, List.range_succ]
theorem ints_snoc (l : List Nat) (x : Nat) : ints (l ++ [x]) = ints l ++ [.int .i64 (x : Int)] := by simp [ints]
theorem sevR_pos {s : List UInt8} {most : Int} {k : Nat} {l : List Int} (hk : k ≤ s.length) : (sevR s most k l).2.2 ≤ s.length := by
  unfold sevR
  split
  · exact hk
  split
  · exact hk
  · simp only; omega
theorem drawR_pos {s : List UInt8} {mean most : Int} {k : Nat} (hk : k ≤ s.length) : (drawR s mean most k).2.2 ≤ s.length := by
  unfold drawR
  split
  · exact hk
  split
  · exact hk
  · simp only; omega

theorem four_mul {n : Nat} (h : n ≤ 64) : IntKind.i64.wrap (4 * (n : Int)) = ((4 * n : Nat) : Int) := by rw [i64_id] <;> omega

section
variable {B : Nat} {S R : Ents} {Q : Value → Ents → Prop} {s : List UInt8} {k p : Nat}

theorem sev_nil {most : Int} {v : Value} {n : Nat} {l : List Int} (hl : Reads S 1 v n (zi l)) (hn : n ≤ 64) (hm : mayP most l) (h : Q (.tuple #[.slice none 0 0, .int .i64 120]) S) :
    CallWp Try.prog B 50 #[.pointer none, .int .i64 most, v] Q S := by
  obtain ⟨aa, ac, rfl⟩ := hl.form
  refine CallWp.enter (args := [_, _, _]) Try.func50 rfl Try.ntmps50 rfl ?_
  refine Wp.seq (Wp.region ?_)
  refine OWp.evs 2 rfl ?_
  refine OWp.nil ?_
  refine Wp.seq ?_
  refine Wp.block ?_
  refine Wp.seq (Wp.region ?_)
  refine OWp.evs 2 rfl ?_
  refine OWp.step rfl (Step.call rfl rfl rfl rfl rfl rfl ((mayC hl (by unfold lim; omega) ?_)))
  rw [decide_eq_true hm]
  refine OWp.evs 2 rfl ?_
  refine OWp.evs 5 rfl ?_
  refine OWp.nil ?_
  refine Wp.cond rfl (fun cc1 => absurd (of_decide_eq_true cc1) (by omega)) (fun cc1 => ?_)
  have cc1 := of_decide_eq_false cc1
  refine Wp.seq (Wp.region ?_)
  refine OWp.evs 3 rfl ?_
  refine OWp.evs 10 rfl ?_
  refine OWp.nil ?_
  refine Wp.cond rfl (fun _ => ?_) (fun c => nomatch c)
  refine Wp.seq (Wp.region ?_)
  refine OWp.evs 2 rfl ?_
  refine OWp.nil ?_
  refine Wp.ret ⟨trivial, _, ⟨_, _, rfl, rfl, _, _, rfl, rfl, rfl⟩, ?_⟩
  exact h
theorem sevC {most : Int} {v : Value} {n : Nat} {l : List Int} (hB : B ≤ p) (hs : s.length ≤ lim) (hk : k ≤ s.length) (hl : Reads R 1 v n (zi l)) (hn : n ≤ lim)
    (h : ∀ u es, Own B 3 1 u (sevR s most k l).1.length (ints (sevR s most k l).1) es → Q (.tuple #[u, .int .i64 ((sevR s most k l).2.1 : Nat)]) (tp p s (sevR s most k l).2.2 :: (R ++ es))) :
    CallWp Try.prog B 50 #[pt p, .int .i64 most, v] Q (tp p s k :: R) := by
  have hl' : Reads (tp p s k :: R) 1 v n (zi l) := hl.mono fun x hx => .tail _ hx
  have e1 : l.length = n := by have := hl.1; rw [zi_length] at this; omega
  obtain ⟨aa, ac, rfl⟩ := hl.form
  unfold sevR at h
  by_cases hm : mayP most l ∧ l.length ≤ 64
  · rw [if_neg (by simpa using hm)] at h
    obtain ⟨hm, h64⟩ := hm
    by_cases ht : s.length - k < 4 * l.length
    · rw [if_pos ht] at h
      have h0 := h _ _ (Own.nil B 3 1)
      rw [List.append_nil] at h0
      refine CallWp.enter (args := [_, _, _]) Try.func50 rfl Try.ntmps50 rfl ?_
      refine Wp.seq (Wp.region ?_)
      refine OWp.evs 2 rfl ?_
      refine OWp.nil ?_
      refine Wp.seq ?_
      refine Wp.block ?_
      refine Wp.seq (Wp.region ?_)
      refine OWp.evs 2 rfl ?_
      refine OWp.step rfl (Step.call rfl rfl rfl rfl rfl rfl ((mayC hl' hn ?_)))
      rw [decide_eq_true hm]
      refine OWp.evs 2 rfl ?_
      refine OWp.evs 5 rfl ?_
      refine OWp.nil ?_
      refine Wp.cond rfl (fun cc1 => absurd (of_decide_eq_true cc1) (by omega)) (fun cc1 => ?_)
      have cc1 := of_decide_eq_false cc1
      refine Wp.seq (Wp.region ?_)
      refine OWp.evs 3 rfl ?_
      refine OWp.evs 3 rfl ?_
      refine OWp.step rfl (Step.call rfl rfl rfl rfl rfl rfl ((left (.head _) hk hs ?_)))
      refine OWp.evs 6 rfl ?_
      refine OWp.nil ?_
      refine Wp.cond rfl (fun cc2 => ?_) (fun cc2 => absurd (of_decide_eq_false cc2) (by rw [four_mul (by omega)]; omega))
      have cc2 := of_decide_eq_true cc2
      refine Wp.seq (Wp.region ?_)
      refine OWp.evs 2 rfl ?_
      refine OWp.nil ?_
      refine Wp.ret ⟨trivial, _, ⟨_, _, rfl, rfl, _, _, rfl, rfl, rfl⟩, ?_⟩
      exact h0
    · rw [if_neg ht] at h
      refine CallWp.enter (args := [_, _, _]) Try.func50 rfl Try.ntmps50 rfl ?_
      refine Wp.seq (Wp.region ?_)
      refine OWp.evs 2 rfl ?_
      refine OWp.nil ?_
      refine Wp.seq ?_
      refine Wp.block ?_
      refine Wp.seq (Wp.region ?_)
      refine OWp.evs 2 rfl ?_
      refine OWp.step rfl (Step.call rfl rfl rfl rfl rfl rfl ((mayC hl' hn ?_)))
      rw [decide_eq_true hm]
      refine OWp.evs 2 rfl ?_
      refine OWp.evs 5 rfl ?_
      refine OWp.nil ?_
      refine Wp.cond rfl (fun cc1 => absurd (of_decide_eq_true cc1) (by omega)) (fun cc1 => ?_)
      have cc1 := of_decide_eq_false cc1
      refine Wp.seq (Wp.region ?_)
      refine OWp.evs 3 rfl ?_
      refine OWp.evs 3 rfl ?_
      refine OWp.step rfl (Step.call rfl rfl rfl rfl rfl rfl ((left (.head _) hk hs ?_)))
      refine OWp.evs 6 rfl ?_
      refine OWp.nil ?_
      refine Wp.cond rfl (fun cc2 => absurd (of_decide_eq_true cc2) (by rw [four_mul (by omega)]; omega)) (fun cc2 => ?_)
      have cc2 := of_decide_eq_false cc2
      refine Wp.skip ?_
      refine Wp.seq (Wp.region ?_)
      refine OWp.evs 1 rfl ?_
      refine OWp.nil ?_
      refine Wp.seq ?_
      refine Wp.seq (Wp.region ?_)
      refine OWp.evs 3 rfl ?_
      refine OWp.nil ?_
      refine Wp.block ?_
      refine Wp.loopS (α := Nat × Value × Ents) (fun x => n - x.1) (fun x => [(40, .int .i64 (x.1 : Int)), (39, .int .i64 (n : Int)), (38, .slice aa n ac), (8, x.2.1), (0, pt p), (1, .int .i64 most)]) (fun x => tp p s (k + 4 * x.1) :: (x.2.2 ++ R)) (fun x => x.1 ≤ n ∧ Own B 3 1 x.2.1 x.1 (ints (drawn s most k l x.1)) x.2.2) (0, .slice none 0 0, []) ?_ (.refl _) ⟨Nat.zero_le _, Own.nil B 3 1⟩ ?_
      · exact .cons rfl (.cons rfl (.cons rfl (.cons rfl (.cons rfl (.cons rfl (.nil _))))))
      rintro ⟨i, u, es⟩ ⟨hi, hown⟩
      simp only at hi hown ⊢
      refine Wp.seq (Wp.region ?_)
      refine OWp.evs 1 rfl ?_
      refine OWp.nil ?_
      refine Wp.seq ?_
      refine Wp.cond rfl (fun h3 => ?_) (fun h3 => ?_)
      · have h3 := of_decide_eq_true h3
        have hlt : i < n := by omega
        obtain ⟨b1, o1, c1, l1, t1, f1, hv1, hm1, _, hg1⟩ := hl.get1 (by omega)
        cases hv1
        have x1 : l[i]? = some (l.getD i 0) := by rw [List.getD_eq_getElem?_getD, List.getElem?_eq_getElem (by omega)]; rfl
        have hmi := hm.2.2 (l.getD i 0) (List.mem_of_getElem? x1)
        have hmo := hm
        obtain ⟨ho0, ho1, _⟩ := hmo
        refine Wp.skip ?_
        refine Wp.seq ?_
        refine Wp.block ?_
        refine Wp.seq (Wp.region ?_)
        refine OWp.g rfl rfl (Gives.indexAddrSlice (i) rfl rfl rfl rfl rfl rfl (by omega)) ?_
        refine OWp.load ((by repeat (first | exact hm1 | apply List.mem_cons_of_mem | apply List.mem_append_right))) rfl rfl rfl rfl ((hg1 i hlt).trans (zi_get x1)) ?_
        refine OWp.evs 1 rfl ?_
        refine OWp.nil ?_
        refine Wp.seq (Wp.region ?_)
        refine OWp.evs 1 rfl ?_
        refine OWp.step rfl (Step.call rfl rfl rfl rfl rfl rfl ((word_yes hB hs (by omega) ?_)))
        refine OWp.evs 5 rfl ?_
        refine OWp.nil ?_
        refine Wp.seq (Wp.region ?_)
        refine OWp.evs 3 rfl ?_
        refine OWp.step rfl (Step.call rfl rfl rfl rfl rfl rfl ((ofC ?_)))
        rw [show ofR (l.getD i 0) most (word s (k + 4 * i) : Nat) = (((dr s most k l i : Nat) : Int), 0) by
          unfold ofR
          rw [if_pos (show ofP (l.getD i 0) most (word s (k + 4 * i) : Nat) from ⟨(mayP_one _ _).2 ⟨ho0, ho1, hmi.1, hmi.2⟩, by omega, by have := be4_lt (s.drop (k + 4 * i)); show ((be4 (s.drop (k + 4 * i)) : Nat) : Int) < _; omega⟩)]
          rfl]
        refine OWp.evs 5 rfl ?_
        refine OWp.nil ?_
        refine Wp.region ?_
        refine OWp.evs 2 rfl ?_
        refine OWp.step rfl (Step.buildSlice rfl rfl rfl ?_); intro Lp3 hBLp3 hLLp3
        refine OWp.step rfl (Step.appendAt [_, _] rfl rfl rfl rfl rfl rfl (by decide) rfl rfl hown (Reads.row (k := 1) (sz := 1) (.head _) (Nat.le_of_ble_eq_true rfl)) rfl (by show (_ + 1) * 8 ≤ _; omega) (by unfold maxLen; omega) ?_); intro v3 es3 ho3 _
        refine OWp.dropAt 0 rfl ?_
        refine OWp.evs 1 rfl ?_
        refine OWp.nil ?_
        refine Wp.region ?_
        refine OWp.evs 2 rfl ?_
        refine OWp.nil ?_
        refine ⟨(i + 1, v3, es3), by simp only; omega, ⟨by simp only; omega, ?_⟩, ?_, .refl _⟩
        · simp only; rw [drawn_snoc, ints_snoc]; exact ho3
        · exact .cons' rfl (int_eq (wrap_add1 i (by unfold lim; omega))) (.cons rfl (.cons rfl (.cons rfl (.cons rfl (.cons rfl (.nil _))))))
      have h3 := of_decide_eq_false h3
      obtain rfl : i = n := by omega
      refine Wp.exit ?_
      refine Wp.permS (List.Perm.cons _ List.perm_append_comm) ?_
      refine Wp.seq (Wp.region ?_)
      refine OWp.evs 3 rfl ?_
      refine OWp.nil ?_
      refine Wp.ret ⟨trivial, _, ⟨_, _, rfl, rfl, _, _, rfl, rfl, rfl⟩, ?_⟩
      rw [e1] at h
      exact h u es (by rw [drawn_len]; exact hown)
  · rw [if_pos hm] at h
    have h0 := h _ _ (Own.nil B 3 1)
    rw [List.append_nil] at h0
    refine CallWp.enter (args := [_, _, _]) Try.func50 rfl Try.ntmps50 rfl ?_
    refine Wp.seq (Wp.region ?_)
    refine OWp.evs 2 rfl ?_
    refine OWp.nil ?_
    refine Wp.seq ?_
    refine Wp.block ?_
    refine Wp.seq (Wp.region ?_)
    refine OWp.evs 2 rfl ?_
    refine OWp.step rfl (Step.call rfl rfl rfl rfl rfl rfl ((mayC hl' hn ?_)))
    by_cases hmm : mayP most l
    · skip
      rw [decide_eq_true hmm]
      have : ¬ l.length ≤ 64 := fun e => hm ⟨hmm, e⟩
      refine OWp.evs 2 rfl ?_
      refine OWp.evs 5 rfl ?_
      refine OWp.nil ?_
      refine Wp.cond rfl (fun cc1 => ?_) (fun cc1 => absurd (of_decide_eq_false cc1) (by omega))
      have cc1 := of_decide_eq_true cc1
      refine Wp.seq (Wp.region ?_)
      refine OWp.evs 2 rfl ?_
      refine OWp.nil ?_
      refine Wp.ret ⟨trivial, _, ⟨_, _, rfl, rfl, _, _, rfl, rfl, rfl⟩, ?_⟩
      exact h0
    rw [decide_eq_false hmm]
    refine OWp.evs 2 rfl ?_
    refine OWp.evs 5 rfl ?_
    refine OWp.nil ?_
    refine Wp.cond rfl (fun _ => ?_) (fun c => nomatch c)
    refine Wp.seq (Wp.region ?_)
    refine OWp.evs 2 rfl ?_
    refine OWp.nil ?_
    refine Wp.ret ⟨trivial, _, ⟨_, _, rfl, rfl, _, _, rfl, rfl, rfl⟩, ?_⟩
    exact h0
theorem drawC {mean most : Int} (hB : B ≤ p) (hs : s.length ≤ lim) (hk : k ≤ s.length)
    (h : Q (.tuple #[.int .i64 ((drawR s mean most k).1 : Nat), .int .i64 ((drawR s mean most k).2.1 : Nat)]) (tp p s (drawR s mean most k).2.2 :: R)) :
    CallWp Try.prog B 53 #[pt p, .int .i64 mean, .int .i64 most] Q (tp p s k :: R) := by
  have e : sevR s most k [mean] = if ¬ mayP most [mean] then ([], 1, k) else if s.length - k < 4 then ([], 120, k) else ([dl mean.toNat (word s k) most.toNat], 0, k + 4) := by
    unfold sevR
    by_cases hm : mayP most [mean]
    · rw [if_neg (show ¬¬(mayP most [mean] ∧ [mean].length ≤ 64) by simp [hm]), if_neg (show ¬¬ mayP most [mean] by simpa using hm)]; rfl
    · rw [if_pos (by simp [hm]), if_pos hm]
  unfold drawR at h
  refine CallWp.enter (args := [_, _, _]) Try.func53 rfl Try.ntmps53 rfl ?_
  refine Wp.seq (Wp.region ?_)
  refine OWp.evs 2 rfl ?_
  refine OWp.nil ?_
  refine Wp.seq (Wp.region ?_)
  refine OWp.evs 3 rfl ?_
  refine OWp.step rfl (Step.buildSlice rfl rfl rfl ?_); intro L hBL hLL
  refine OWp.step rfl (Step.call rfl rfl rfl rfl rfl rfl (CallWp.focus 1 rfl ((sevC hB hs hk (l := [mean]) (Reads.row (k := 1) (sz := 1) (.head _) (Nat.le_refl 1)) (by decide) ?_))))
  intro u es hown
  rw [e] at hown ⊢
  by_cases hm : mayP most [mean]
  · skip
    rw [if_neg (by simpa using hm)] at h hown ⊢
    by_cases ht : s.length - k < 4
    · skip
      rw [if_pos ht] at h hown ⊢
      refine OWp.evs 5 rfl ?_
      refine OWp.nil ?_
      refine Wp.seq ?_
      refine Wp.seq (Wp.region ?_)
      refine OWp.evs 2 rfl ?_
      refine OWp.nil ?_
      refine Wp.cond rfl (fun _ => ?_) (fun c => nomatch c)
      refine Wp.drop (List.Sublist.cons_cons _ (List.Sublist.cons _ (List.sublist_append_left _ _))) ?_
      refine Wp.seq (Wp.region ?_)
      refine OWp.evs 3 rfl ?_
      refine OWp.nil ?_
      refine Wp.ret ⟨trivial, _, ⟨_, _, rfl, rfl, _, _, rfl, rfl, rfl⟩, ?_⟩
      exact h
    rw [if_neg ht] at h hown ⊢
    obtain ⟨b1, o1, c1, l1, t1, f1, hv1, hm1, _, hg1⟩ := hown.reads.get1 (show 0 < 1 by decide)
    subst hv1
    refine OWp.evs 5 rfl ?_
    refine OWp.nil ?_
    refine Wp.seq ?_
    refine Wp.seq (Wp.region ?_)
    refine OWp.evs 2 rfl ?_
    refine OWp.nil ?_
    refine Wp.cond rfl (fun c => nomatch c) (fun _ => ?_)
    refine Wp.skip ?_
    refine Wp.seq (Wp.region ?_)
    refine OWp.evs 1 rfl ?_
    refine OWp.g rfl rfl (Gives.indexAddrSlice (0) rfl rfl rfl rfl rfl rfl (show 0 < 1 by decide)) ?_
    refine OWp.load (.tail _ (List.mem_append_right _ hm1)) rfl rfl rfl rfl (hg1 0 (show 0 < 1 by decide)) ?_
    refine OWp.evs 2 rfl ?_
    refine OWp.nil ?_
    refine Wp.drop (List.Sublist.cons_cons _ (List.Sublist.cons _ (List.sublist_append_left _ _))) ?_
    refine Wp.ret ⟨trivial, _, ⟨_, _, rfl, rfl, _, _, rfl, rfl, rfl⟩, ?_⟩
    exact h
  rw [if_pos hm] at h hown ⊢
  refine OWp.evs 5 rfl ?_
  refine OWp.nil ?_
  refine Wp.seq ?_
  refine Wp.seq (Wp.region ?_)
  refine OWp.evs 2 rfl ?_
  refine OWp.nil ?_
  refine Wp.cond rfl (fun _ => ?_) (fun c => nomatch c)
  refine Wp.drop (List.Sublist.cons_cons _ (List.Sublist.cons _ (List.sublist_append_left _ _))) ?_
  refine Wp.seq (Wp.region ?_)
  refine OWp.evs 3 rfl ?_
  refine OWp.nil ?_
  refine Wp.ret ⟨trivial, _, ⟨_, _, rfl, rfl, _, _, rfl, rfl, rfl⟩, ?_⟩
  exact h
theorem rdrawC {mean most : Int} (hB : B ≤ p) (hs : s.length ≤ lim) (hk : k ≤ s.length)
    (h : Q (.tuple #[.int .i64 ((drawR s mean most k).1 : Nat), .int .i64 ((drawR s mean most k).2.1 : Nat)]) (rtp p s (drawR s mean most k).2.2 :: R)) :
    CallWp Try.prog B 54 #[pt p, .int .i64 mean, .int .i64 most] Q (rtp p s k :: R) := by
  unfold drawR at h
  refine CallWp.enter (args := [_, _, _]) Try.func54 rfl Try.ntmps54 rfl ?_
  refine Wp.seq (Wp.region ?_)
  refine OWp.evs 2 rfl ?_
  refine OWp.nil ?_
  refine Wp.seq ?_
  refine Wp.seq (Wp.region ?_)
  refine OWp.evs 2 rfl ?_
  refine OWp.step rfl (Step.call rfl rfl rfl rfl rfl rfl ((rmayC ?_)))
  by_cases hm : mayP most [mean]
  · skip
    rw [decide_eq_true hm]
    rw [if_neg (by simpa using hm)] at h
    refine OWp.evs 1 rfl ?_
    refine OWp.nil ?_
    refine Wp.cond rfl (fun c => nomatch c) (fun _ => ?_)
    refine Wp.skip ?_
    refine Wp.seq (Wp.region ?_)
    refine OWp.evs 1 rfl ?_
    refine OWp.step rfl (Step.call rfl rfl rfl rfl rfl rfl ((rwordC hB hs hk ?_)))
    unfold wordR
    by_cases ht : s.length - k < 4
    · skip
      rw [if_pos ht] at h
      rw [if_neg (by omega)]
      refine OWp.evs 5 rfl ?_
      refine OWp.nil ?_
      refine Wp.seq ?_
      refine Wp.seq (Wp.region ?_)
      refine OWp.evs 2 rfl ?_
      refine OWp.nil ?_
      refine Wp.cond rfl (fun _ => ?_) (fun c => nomatch c)
      refine Wp.seq (Wp.region ?_)
      refine OWp.evs 3 rfl ?_
      refine OWp.nil ?_
      refine Wp.ret ⟨trivial, _, ⟨_, _, rfl, rfl, _, _, rfl, rfl, rfl⟩, ?_⟩
      exact h
    rw [if_neg ht] at h
    rw [if_pos (by omega)]
    refine OWp.evs 5 rfl ?_
    refine OWp.nil ?_
    refine Wp.seq ?_
    refine Wp.seq (Wp.region ?_)
    refine OWp.evs 2 rfl ?_
    refine OWp.nil ?_
    refine Wp.cond rfl (fun c => nomatch c) (fun _ => ?_)
    refine Wp.skip ?_
    refine Wp.seq (Wp.region ?_)
    refine OWp.evs 3 rfl ?_
    refine OWp.step rfl (Step.call rfl rfl rfl rfl rfl rfl ((rofC ?_)))
    rw [show ofR mean most (word s k : Nat) = (((dl mean.toNat (word s k) most.toNat : Nat) : Int), 0) by
      unfold ofR
      rw [if_pos (show ofP mean most (word s k : Nat) from ⟨hm, by omega, by have := be4_lt (s.drop k); show ((be4 (s.drop k) : Nat) : Int) < _; omega⟩)]
      rfl]
    refine OWp.evs 4 rfl ?_
    refine OWp.nil ?_
    refine Wp.ret ⟨trivial, _, ⟨_, _, rfl, rfl, _, _, rfl, rfl, rfl⟩, ?_⟩
    exact h
  rw [decide_eq_false hm]
  rw [if_pos hm] at h
  refine OWp.evs 1 rfl ?_
  refine OWp.nil ?_
  refine Wp.cond rfl (fun _ => ?_) (fun c => nomatch c)
  refine Wp.seq (Wp.region ?_)
  refine OWp.evs 2 rfl ?_
  refine OWp.nil ?_
  refine Wp.ret ⟨trivial, _, ⟨_, _, rfl, rfl, _, _, rfl, rfl, rfl⟩, ?_⟩
  exact h
theorem rsevC {most : Int} {v : Value} {n : Nat} {l : List Int} (hB : B ≤ p) (hs : s.length ≤ lim) (hk : k ≤ s.length) (hl : Reads R 1 v n (zi l)) (hn : n ≤ lim)
    (h : ∀ u es, Own B 3 1 u (sevR s most k l).1.length (ints (sevR s most k l).1) es → Q (.tuple #[u, .int .i64 ((sevR s most k l).2.1 : Nat)]) (rtp p s (sevR s most k l).2.2 :: (R ++ es))) :
    CallWp Try.prog B 51 #[pt p, .int .i64 most, v] Q (rtp p s k :: R) := by
  have e1 : l.length = n := by have := hl.1; rw [zi_length] at this; omega
  have hlen : (s.drop k).length = s.length - k := List.length_drop
  obtain ⟨aa, ac, rfl⟩ := hl.form
  unfold sevR at h
  unfold lim at hn
  refine CallWp.enter (args := [_, _, _]) Try.func51 rfl Try.ntmps51 rfl ?_
  refine Wp.seq (Wp.region ?_)
  refine OWp.evs 2 rfl ?_
  refine OWp.nil ?_
  refine Wp.seq ?_
  refine Wp.seq (Wp.region ?_)
  refine OWp.evs 1 rfl ?_
  refine OWp.nil ?_
  refine Wp.block ?_
  refine Wp.loopS (α := Nat) (fun i => n - i) (fun i => [(8, .int .i64 (i : Int)), (0, pt p), (1, .int .i64 most), (2, .slice aa n ac)]) (fun _ => rtp p s k :: R) (fun i => i ≤ n ∧ ∀ m ∈ l.take i, mayP most [m]) 0 ?_ (.refl _) ⟨Nat.zero_le _, by simp⟩ ?_
  · exact .cons rfl (.cons rfl (.cons rfl (.cons rfl (.nil _))))
  rintro i ⟨hi, he⟩
  refine Wp.seq ?_
  refine Wp.seq (Wp.region ?_)
  refine OWp.evs 4 rfl ?_
  refine OWp.nil ?_
  refine Wp.cond rfl (fun h1 => ?_) (fun h1 => ?_)
  · have h1 := of_decide_eq_true h1
    have hlt : i < n := by omega
    obtain ⟨b1, o1, c1, l1, t1, f1, hv1, hm1, _, hg1⟩ := hl.get1 (by omega)
    cases hv1
    have x1 : l[i]? = some l[i] := by simp
    refine Wp.skip ?_
    refine Wp.seq ?_
    refine Wp.block ?_
    refine Wp.seq (Wp.region ?_)
    refine OWp.evs 2 rfl ?_
    refine OWp.g rfl rfl (Gives.indexAddrSlice (i) rfl rfl rfl rfl rfl rfl (by omega)) ?_
    refine OWp.load ((by repeat (first | exact hm1 | apply List.mem_cons_of_mem | apply List.mem_append_right))) rfl rfl rfl rfl ((hg1 i hlt).trans (zi_get x1)) ?_
    refine OWp.evs 1 rfl ?_
    refine OWp.step rfl (Step.call rfl rfl rfl rfl rfl rfl ((rmayC ?_)))
    by_cases hmi : mayP most [l[i]]
    · skip
      rw [decide_eq_true hmi]
      refine OWp.evs 1 rfl ?_
      refine OWp.nil ?_
      refine Wp.cond rfl (fun c => nomatch c) (fun _ => ?_)
      refine Wp.skip ?_
      refine Wp.region ?_
      refine OWp.evs 3 rfl ?_
      refine OWp.nil ?_
      refine ⟨i + 1, by omega, ⟨by omega, ?_⟩, ?_, .refl _⟩
      · intro m hm
        rw [List.take_add_one, x1] at hm
        rcases List.mem_append.1 hm with hm | hm
        · exact he m hm
        · simp at hm; subst hm; exact hmi
      · exact .cons' rfl (int_eq (by rw [i64_id] <;> omega)) (.cons rfl (.cons rfl (.cons rfl (.nil _))))
    rw [decide_eq_false hmi]
    refine OWp.evs 1 rfl ?_
    refine OWp.nil ?_
    refine Wp.cond rfl (fun _ => ?_) (fun c => nomatch c)
    refine Wp.seq (Wp.region ?_)
    refine OWp.evs 2 rfl ?_
    refine OWp.nil ?_
    refine Wp.ret ⟨trivial, _, ⟨_, _, rfl, rfl, _, _, rfl, rfl, rfl⟩, ?_⟩
    have hno : ¬ (mayP most l ∧ l.length ≤ 64) := fun e => hmi ((mayP_one _ _).2 ⟨e.1.1, e.1.2.1, (e.1.2.2 l[i] (by simp)).1, (e.1.2.2 l[i] (by simp)).2⟩)
    rw [if_pos hno] at h
    have h0 := h _ _ (Own.nil B 3 1)
    rw [List.append_nil] at h0
    exact h0
  have h1 := of_decide_eq_false h1
  rw [List.take_of_length_le (by omega)] at he
  refine Wp.exit ?_
  refine Wp.seq ?_
  refine Wp.seq (Wp.region ?_)
  refine OWp.evs 1 rfl ?_
  refine OWp.step rfl (Step.call rfl rfl rfl rfl rfl rfl ((rmayC ?_)))
  by_cases hm0 : mayP most [0]
  · skip
    rw [decide_eq_true hm0]
    have hm : mayP most l := ⟨hm0.1, hm0.2.1, fun m hm => ⟨((mayP_one _ _).1 (he m hm)).2.2.1, ((mayP_one _ _).1 (he m hm)).2.2.2⟩⟩
    refine OWp.evs 2 rfl ?_
    refine OWp.evs 4 rfl ?_
    refine OWp.nil ?_
    refine Wp.cond rfl (fun h2 => ?_) (fun h2 => ?_)
    · have h2 := of_decide_eq_true h2
      refine Wp.seq (Wp.region ?_)
      refine OWp.evs 2 rfl ?_
      refine OWp.nil ?_
      refine Wp.ret ⟨trivial, _, ⟨_, _, rfl, rfl, _, _, rfl, rfl, rfl⟩, ?_⟩
      rw [if_pos (fun e => by have := e.2; omega)] at h
      have h0 := h _ _ (Own.nil B 3 1)
      rw [List.append_nil] at h0
      exact h0
    have h2 := of_decide_eq_false h2
    rw [if_neg (show ¬¬(mayP most l ∧ l.length ≤ 64) from fun e => e ⟨hm, by omega⟩)] at h
    refine Wp.skip ?_
    refine Wp.seq ?_
    refine Wp.seq (Wp.region ?_)
    refine OWp.evs 3 rfl ?_
    first | refine OWp.load (List.Mem.head _) rfl rfl rfl rfl rfl ?_ | refine OWp.load (List.Mem.tail _ (List.Mem.head _)) rfl rfl rfl rfl rfl ?_ | refine OWp.load (List.Mem.tail _ (List.Mem.tail _ (List.Mem.head _))) rfl rfl rfl rfl rfl ?_ | refine OWp.load (List.Mem.tail _ (List.Mem.tail _ (List.Mem.tail _ (List.Mem.head _)))) rfl rfl rfl rfl rfl ?_ | refine OWp.load (List.Mem.tail _ (List.Mem.tail _ (List.Mem.tail _ (List.Mem.tail _ (List.Mem.head _))))) rfl rfl rfl rfl rfl ?_ | refine OWp.load (List.Mem.tail _ (List.Mem.tail _ (List.Mem.tail _ (List.Mem.tail _ (List.Mem.tail _ (List.Mem.head _)))))) rfl rfl rfl rfl rfl ?_
    refine OWp.evs 5 rfl ?_
    refine OWp.nil ?_
    refine Wp.cond rfl (fun h3 => ?_) (fun h3 => ?_)
    · have h3 := of_decide_eq_true h3
      rw [hlen, four_mul (by omega)] at h3
      refine Wp.seq (Wp.region ?_)
      refine OWp.evs 2 rfl ?_
      refine OWp.nil ?_
      refine Wp.ret ⟨trivial, _, ⟨_, _, rfl, rfl, _, _, rfl, rfl, rfl⟩, ?_⟩
      rw [if_pos (by omega)] at h
      have h0 := h _ _ (Own.nil B 3 1)
      rw [List.append_nil] at h0
      exact h0
    have h3 := of_decide_eq_false h3
    rw [hlen, four_mul (by omega)] at h3
    rw [if_neg (by omega)] at h
    refine Wp.skip ?_
    refine Wp.seq (Wp.region ?_)
    refine OWp.evs 1 rfl ?_
    refine OWp.nil ?_
    refine Wp.seq ?_
    refine Wp.seq (Wp.region ?_)
    refine OWp.evs 1 rfl ?_
    refine OWp.nil ?_
    refine Wp.block ?_
    refine Wp.loopS (α := Nat × Value × Ents) (fun x => n - x.1) (fun x => [(10, .int .i64 (x.1 : Int)), (9, x.2.1), (0, pt p), (1, .int .i64 most), (2, .slice aa n ac)]) (fun x => rtp p s (k + 4 * x.1) :: (x.2.2 ++ R)) (fun x => x.1 ≤ n ∧ Own B 3 1 x.2.1 x.1 (ints (drawn s most k l x.1)) x.2.2) (0, .slice none 0 0, []) ?_ (.refl _) ⟨Nat.zero_le _, Own.nil B 3 1⟩ ?_
    · exact .cons rfl (.cons rfl (.cons rfl (.cons rfl (.cons rfl (.nil _)))))
    rintro ⟨j, u, es⟩ ⟨hj, hown⟩
    simp only at hj hown ⊢
    refine Wp.seq ?_
    refine Wp.seq (Wp.region ?_)
    refine OWp.evs 4 rfl ?_
    refine OWp.nil ?_
    refine Wp.cond rfl (fun h4 => ?_) (fun h4 => ?_)
    · have h4 := of_decide_eq_true h4
      have hlt : j < n := by omega
      obtain ⟨b1, o1, c1, l1, t1, f1, hv1, hm1, _, hg1⟩ := hl.get1 (by omega)
      cases hv1
      have x1 : l[j]? = some (l.getD j 0) := by rw [List.getD_eq_getElem?_getD, List.getElem?_eq_getElem (by omega)]; rfl
      have hmi := he (l.getD j 0) (List.mem_of_getElem? x1)
      refine Wp.skip ?_
      refine Wp.seq ?_
      refine Wp.block ?_
      refine Wp.seq (Wp.region ?_)
      refine OWp.evs 3 rfl ?_
      refine OWp.g rfl rfl (Gives.indexAddrSlice (j) rfl rfl rfl rfl rfl rfl (by omega)) ?_
      refine OWp.load ((by repeat (first | exact hm1 | apply List.mem_cons_of_mem | apply List.mem_append_right))) rfl rfl rfl rfl ((hg1 j hlt).trans (zi_get x1)) ?_
      refine OWp.evs 1 rfl ?_
      refine OWp.step rfl (Step.call rfl rfl rfl rfl rfl rfl ((rdrawC hB hs (by omega) ?_)))
      rw [show drawR s (l.getD j 0) most (k + 4 * j) = (dr s most k l j, 0, k + 4 * (j + 1)) by
        unfold drawR
        rw [if_neg (show ¬¬ _ from fun e => e hmi), if_neg (by omega)]
        rfl]
      refine OWp.evs 5 rfl ?_
      refine OWp.nil ?_
      refine Wp.region ?_
      refine OWp.evs 2 rfl ?_
      refine OWp.step rfl (Step.buildSlice rfl rfl rfl ?_); intro Lp1 hBLp1 hLLp1
      refine OWp.step rfl (Step.appendAt [_, _] rfl rfl rfl rfl rfl rfl (by decide) rfl rfl hown (Reads.row (k := 1) (sz := 1) (.head _) (Nat.le_of_ble_eq_true rfl)) rfl (by show (_ + 1) * 8 ≤ _; omega) (by unfold maxLen; omega) ?_); intro v3 es3 ho3 _
      refine OWp.dropAt 0 rfl ?_
      refine OWp.evs 1 rfl ?_
      refine OWp.nil ?_
      refine Wp.region ?_
      refine OWp.evs 3 rfl ?_
      refine OWp.nil ?_
      refine ⟨(j + 1, v3, es3), by simp only; omega, ⟨by simp only; omega, ?_⟩, ?_, .refl _⟩
      · simp only; rw [drawn_snoc, ints_snoc]; exact ho3
      · exact .cons' rfl (int_eq (wrap_add1 j (by unfold lim; omega))) (.cons rfl (.cons rfl (.cons rfl (.cons rfl (.nil _)))))
    have h4 := of_decide_eq_false h4
    obtain rfl : j = n := by omega
    refine Wp.exit ?_
    refine Wp.permS (List.Perm.cons _ List.perm_append_comm) ?_
    refine Wp.seq (Wp.region ?_)
    refine OWp.evs 3 rfl ?_
    refine OWp.nil ?_
    refine Wp.ret ⟨trivial, _, ⟨_, _, rfl, rfl, _, _, rfl, rfl, rfl⟩, ?_⟩
    rw [e1] at h
    exact h u es (by rw [drawn_len]; exact hown)
  rw [decide_eq_false hm0]
  refine OWp.evs 2 rfl ?_
  refine OWp.evs 4 rfl ?_
  refine OWp.nil ?_
  refine Wp.cond rfl (fun _ => ?_) (fun c => nomatch c)
  refine Wp.seq (Wp.region ?_)
  refine OWp.evs 2 rfl ?_
  refine OWp.nil ?_
  refine Wp.ret ⟨trivial, _, ⟨_, _, rfl, rfl, _, _, rfl, rfl, rfl⟩, ?_⟩
  rw [if_pos (fun e => hm0 ((mayP_one _ _).2 ⟨e.1.1, e.1.2.1, by decide, by decide⟩))] at h
  have h0 := h _ _ (Own.nil B 3 1)
  rw [List.append_nil] at h0
  exact h0
/-- A copy with a mark behind it. -/
theorem lendC {v : Value} {n : Nat} {l : List Int} (hl : Reads S 1 v n (zi l)) (hn : n ≤ 17592186044400)
    (h : ∀ b cap g, B ≤ b → n + 1 ≤ cap → cap ≤ maxLen → (zi l ++ Value.int .i64 (-77) :: g).length = cap → Q (.slice (some ⟨b, 0, none⟩) n cap) ((b, cel (zi l ++ .int .i64 (-77) :: g) 3) :: S)) :
    CallWp Try.prog B 49 #[v] Q S := by
  have e1 : l.length = n := by have := hl.1; rw [zi_length] at this; omega
  obtain ⟨aa, ac, rfl⟩ := hl.form
  refine CallWp.enter (args := [_]) Try.func49 rfl Try.ntmps49 rfl ?_
  refine Wp.seq (Wp.region ?_)
  refine OWp.evs 1 rfl ?_
  refine OWp.nil ?_
  refine Wp.seq (Wp.region ?_)
  refine OWp.step rfl (Step.buildSlice rfl rfl rfl ?_); intro L hBL hLL
  refine OWp.evs 1 rfl ?_
  refine OWp.step rfl (Step.appendAt (es := [(L, cel [] 3)]) (R := S) [] rfl rfl rfl rfl rfl rfl (by decide) rfl rfl (Own.row (k := 0) (sz := 1) (xs := []) hBL rfl (by decide)) (hl.mono fun x hx => .tail _ hx) (zi_one l) (by show (0 + n) * 8 ≤ _; omega) (by unfold maxLen; omega) ?_)
  intro v2 es2 ho2 _
  rw [Nat.zero_add, List.nil_append] at ho2
  refine OWp.evs 1 rfl ?_
  refine OWp.nil ?_
  refine Wp.seq (Wp.region ?_)
  refine OWp.evs 1 rfl ?_
  refine OWp.step rfl (Step.buildSlice rfl rfl rfl ?_); intro Lp1 hBLp1 hLLp1
  refine OWp.step rfl (Step.appendAt [_] rfl rfl rfl rfl rfl rfl (by decide) rfl rfl ho2 (Reads.row (k := 1) (sz := 1) (.head _) (Nat.le_of_ble_eq_true rfl)) rfl (by show (_ + 1) * 8 ≤ _; omega) (by unfold maxLen; omega) ?_); intro v3 es3 ho3 _
  refine OWp.dropAt 0 rfl ?_
  refine OWp.evs 1 rfl ?_
  refine OWp.nil ?_
  obtain ⟨hl3, ⟨_, h0, _⟩ | ⟨bb, cap, cur, rfl, rfl, hBb, hcap, hmx, hcl, htk⟩⟩ := ho3
  · omega
  have hcl : cur.length = cap * 1 := hcl
  rw [Nat.mul_one] at hcl
  have htk : cur.take ((n + 1) * 1) = zi l ++ [Value.int .i64 (-77)] := htk
  rw [Nat.mul_one] at htk
  obtain ⟨g, rfl⟩ : ∃ g, cur = zi l ++ Value.int .i64 (-77) :: g := ⟨cur.drop (n + 1), by
    have := List.take_append_drop (n + 1) cur
    rw [htk, List.append_assoc] at this
    exact this.symm⟩
  refine Wp.seq (Wp.region ?_)
  refine OWp.evs 3 rfl ?_
  refine OWp.g rfl rfl (Gives.sliceSlice (l := 0) (h' := n) rfl rfl rfl rfl rfl ⟨_, _, rfl, rfl⟩ (by omega) (by omega) (by omega)) ?_
  refine OWp.evs 1 rfl ?_
  refine OWp.nil ?_
  refine Wp.ret ⟨trivial, _, ⟨_, _, rfl, rfl, rfl⟩, ?_⟩
  exact h bb cap g hBb hcap hmx hcl
theorem keptC {v : Value} {n b cap : Nat} {l : List Int} {g : List Value} (hl : Reads S 1 v n (zi l)) (hm : (b, cel (zi l ++ .int .i64 (-77) :: g) 3) ∈ S) (hn : n ≤ 17592186044400) (hcap : n + 1 ≤ cap) (h : Q (.bool true) S) :
    CallWp Try.prog B 52 #[.slice (some ⟨b, 0, none⟩) n cap, v] Q S := by
  have e1 : l.length = n := by have := hl.1; rw [zi_length] at this; omega
  have hr := Reads.row (sz := 1) (k := n) (cap := cap) hm (by rw [List.length_append, zi_length]; simp; omega)
  rw [Nat.mul_one, List.take_append_of_le_length (by rw [zi_length]; omega), List.take_of_length_le (by rw [zi_length]; omega)] at hr
  obtain ⟨aa, ac, rfl⟩ := hl.form
  refine CallWp.enter (args := [_, _]) Try.func52 rfl Try.ntmps52 rfl ?_
  refine Wp.seq (Wp.region ?_)
  refine OWp.evs 1 rfl ?_
  refine OWp.nil ?_
  refine Wp.seq (Wp.region ?_)
  refine OWp.evs 2 rfl ?_
  refine OWp.step rfl (Step.call rfl rfl rfl rfl rfl rfl ((sameInts hr hl (by unfold lim; omega) ?_)))
  rw [decide_eq_true rfl]
  refine OWp.evs 1 rfl ?_
  refine OWp.evs 4 rfl ?_
  refine OWp.g rfl rfl (Gives.sliceSlice (l := 0) (h' := n + 1) rfl rfl rfl rfl rfl ⟨_, _, rfl, wrap_add1 n (by unfold lim; omega)⟩ (by omega) (by omega) (by omega)) ?_
  refine OWp.evs 2 rfl ?_
  refine OWp.g rfl rfl (Gives.indexAddrSlice (n) rfl rfl rfl rfl rfl rfl (by omega)) ?_
  refine OWp.load ((by repeat (first | exact hm | apply List.mem_cons_of_mem | apply List.mem_append_right))) rfl rfl rfl rfl (show (zi l ++ Value.int .i64 (-77) :: g)[0 + 0 * 1 + n * 1]? = some (Value.int .i64 (-77)) by rw [show 0 + 0 * 1 + n * 1 = (zi l).length by rw [zi_length]; omega]; simp) ?_
  refine OWp.evs 3 rfl ?_
  refine OWp.nil ?_
  refine Wp.ret ⟨trivial, _, ⟨_, _, rfl, rfl, rfl⟩, ?_⟩
  exact h
end
end Go.Proofs.C
