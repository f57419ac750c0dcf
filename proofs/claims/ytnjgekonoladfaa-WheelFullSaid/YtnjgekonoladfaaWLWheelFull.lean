/- What functions of the given program do, one after the other, told by that layer. -/
import Derived.Test.YtnjgekonoladfaaWWheelJ
namespace Go.Proofs.E
open Go.Lg Go.Whl
set_option maxRecDepth 100000

def fullM (a n : Nat) : List T := (List.range n).map fun (j : Nat) => ⟨a + j, (j : Int), j + 1⟩
theorem fullM_succ (a n : Nat) : fullM a (n + 1) = fullM a n ++ [⟨a + n, (n : Int), n + 1⟩] := by simp [fullM, List.range_succ]
theorem fullM_len (a n : Nat) : (fullM a n).length = n := by simp [fullM]
theorem fullM_first (a : Nat) : ∀ n, (fullM a (n + 1)).filter (fun t => decide (t.due ≤ a)) = [⟨a, 0, 1⟩]
  | 0 => by simp [fullM]
  | n + 1 => by
    rw [fullM_succ, List.filter_append, fullM_first a n]
    simp
theorem fullM_told (a n : Nat) : (told (fullM a (n + 1)) a).length = 1 := by
  unfold told
  rw [List.length_map, ← srt_filter, fullM_first, srt_len]
  rfl
theorem fullM_mem {a n k : Nat} (h : k < n) : (⟨a + k, (k : Int), k + 1⟩ : T) ∈ fullM a n := List.mem_map.2 ⟨k, List.mem_range.2 h, rfl⟩

section
variable {B : Nat} {S : Ents}
set_option maxHeartbeats 1000000 in
theorem wheelFullW {at' : Int} {b : Bool} (_h : Rd Try.prog S 3 [.int .i64 at']) : CallWp Try.prog B 6 #[.int .i64 at', .bool b] (fun v _ => v = .bool true) S := by
  obtain ⟨a, ha⟩ : ∃ a, a = dueOf 1000 at' := ⟨_, rfl⟩
  have ha1 : 0 < a := by rw [ha]; exact dueOf_pos _ _
  have ha2 : a ≤ 1000 := by rw [ha]; exact dueOf_le (by decide)
  have hae : IntKind.i64.wrap (1 + IntKind.i64.wrap ((IntKind.u64.wrap at').tmod 1000)) = (a : Int) := by rw [ha]; exact dueOf_eq rfl (by decide) (by decide)
  refine CallWp.enter (args := [_, _]) Try.func6 rfl Try.ntmps6 rfl ?_
  refine Wp.seq (Wp.region ?_)
  refine OWp.evs 1 rfl ?_
  refine OWp.nil ?_
  refine Wp.seq (Wp.region ?_)
  refine OWp.step rfl (Step.call rfl rfl rfl rfl rfl rfl ((newW ?_)))
  intro p W hW
  refine OWp.evs 1 rfl ?_
  refine OWp.nil ?_
  refine Wp.seq ?_
  refine Wp.seq (Wp.region ?_)
  refine OWp.evs 3 rfl ?_
  refine OWp.step rfl (Step.call rfl rfl rfl rfl rfl rfl ((worksC ?_)))
  refine OWp.evs 2 rfl ?_
  refine OWp.nil ?_
  refine Wp.cond rfl (fun c => nomatch c) (fun _ => ?_)
  refine Wp.skip ?_
  refine Wp.seq (Wp.region ?_)
  refine OWp.evs 6 rfl ?_
  refine OWp.nil ?_
  refine Wp.seq ?_
  refine Wp.seq (Wp.region ?_)
  refine OWp.evs 1 rfl ?_
  refine OWp.nil ?_
  refine Wp.block ?_
  refine Wp.loopS (α := Nat × Ents) (fun z => 4096 - z.1) (fun z => [(0, .int .i64 (a : Int)), (1, .bool b), (5, pt p), (29, .int .i64 (z.1 : Int))]) (fun z => z.2 ++ S) (fun z => z.1 ≤ 4096 ∧ Wh B p (fullM a z.1) 0 z.1 z.2) (0, W) ?_ (.refl _) ⟨Nat.zero_le _, hW⟩ ?_
  · exact .cons' rfl (int_eq hae) (.cons rfl (.cons rfl (.cons rfl (.nil _))))
  rintro ⟨i, W1⟩ ⟨hi, hW1⟩
  simp only at hi hW1 ⊢
  refine Wp.seq (Wp.region ?_)
  refine OWp.evs 1 rfl ?_
  refine OWp.nil ?_
  refine Wp.seq ?_
  refine Wp.cond rfl (fun h1 => ?_) (fun h1 => ?_)
  · have h1 := of_decide_eq_true h1
    have hi2 : i < 4096 := by omega
    refine Wp.skip ?_
    refine Wp.seq ?_
    refine Wp.block ?_
    refine Wp.seq (Wp.region ?_)
    refine OWp.evs 2 rfl ?_
    refine OWp.nil ?_
    refine Wp.seq (Wp.region ?_)
    refine OWp.evs 5 rfl ?_
    refine OWp.step rfl (Step.call rfl rfl rfl rfl rfl rfl ((putW (a := a + i) (by rw [i64_id] <;> omega) hW1 (by omega) (by omega) (by rw [fullM_len]; omega) (by omega) ?_)))
    rw [← fullM_succ]
    intro W2 hW2
    refine OWp.evs 5 rfl ?_
    refine OWp.nil ?_
    refine Wp.seq (Wp.region ?_)
    refine OWp.evs 2 rfl ?_
    refine OWp.nil ?_
    refine Wp.cond rfl (fun cc1 => absurd (ndT cc1) (by exact fun h => h rfl)) (fun cc1 => ?_)
    have cc1 := ndF cc1
    refine Wp.skip ?_
    refine Wp.region ?_
    refine OWp.evs 2 rfl ?_
    refine OWp.nil ?_
    exact ⟨(i + 1, W2), by simp only; omega, ⟨by simp only; omega, hW2⟩, .cons rfl (.cons rfl (.cons rfl (.cons' rfl (int_eq (i64_inc (by omega))) (.nil _)))), .refl _⟩
  have h1 := of_decide_eq_false h1
  obtain rfl : i = 4096 := by omega
  refine Wp.exit ?_
  refine Wp.seq ?_
  refine Wp.seq (Wp.region ?_)
  refine OWp.evs 2 rfl ?_
  refine OWp.step rfl (Step.call rfl rfl rfl rfl rfl rfl ((putFullW hW1 (fun x hx => List.mem_append_left _ hx) (fullM_len _ _) (by omega) (by omega) ?_)))
  refine OWp.evs 5 rfl ?_
  refine OWp.nil ?_
  refine Wp.seq (Wp.region ?_)
  refine OWp.evs 3 rfl ?_
  refine OWp.part 52 rfl (fun cc2 => absurd (ndT cc2) (by exact fun h => h rfl)) (fun cc2 => ?_)
  have cc2 := ndF cc2
  refine OWp.evs 1 rfl ?_
  refine OWp.step rfl (Step.call rfl rfl rfl rfl rfl rfl ((lenW hW1 (fun x hx => List.mem_append_left _ hx) ?_)))
  refine OWp.evs 2 rfl ?_
  refine OWp.nil ?_
  refine Wp.cond rfl (fun cc3 => absurd (ndT cc3) (by rw [fullM_len]; exact fun h => h rfl)) (fun cc3 => ?_)
  have cc3 := ndF cc3
  refine Wp.skip ?_
  refine Wp.seq ?_
  refine Wp.seq (Wp.region ?_)
  refine OWp.evs 1 rfl ?_
  refine OWp.nil ?_
  refine Wp.cond rfl (fun hc => ?_) (fun hc => ?_)
  · skip
    refine Wp.seq (Wp.region ?_)
    refine OWp.evs 3 rfl ?_
    refine OWp.step rfl (Step.call rfl rfl rfl rfl rfl rfl ((cancelW hW1 (fun t ht hn W2 hW2 => ?_) (fun h => absurd (show (((a + 1 : Nat)) : Int) = _ by rw [i64_id] <;> omega) (h _ (fullM_mem (k := a) (by omega)))))))
    have hl2 := erase_len hW1.nos ht hn
    rw [fullM_len] at hl2
    refine OWp.evs 1 rfl ?_
    refine OWp.nil ?_
    refine Wp.cond rfl (fun cc4 => absurd (ndT cc4) (by exact fun h => h rfl)) (fun cc4 => ?_)
    have cc4 := ndF cc4
    refine Wp.skip ?_
    refine Wp.seq (Wp.region ?_)
    refine OWp.evs 3 rfl ?_
    refine OWp.step rfl (Step.call rfl rfl rfl rfl rfl rfl ((putW (a := a + 1) (i64_inc (by omega)) hW2 (by omega) (by omega) (by rw [hl2]; decide) (by omega) ?_)))
    intro W3 hW3
    refine OWp.evs 5 rfl ?_
    refine OWp.nil ?_
    refine Wp.seq (Wp.region ?_)
    refine OWp.evs 3 rfl ?_
    refine OWp.step rfl (Step.call rfl rfl rfl rfl rfl rfl ((putFullW hW3 (fun x hx => List.mem_append_left _ hx) (by rw [len_snoc, hl2]) (by rw [i64_inc (by omega)]; omega) (by rw [i64_inc (by omega)]; omega) ?_)))
    refine OWp.evs 5 rfl ?_
    refine OWp.nil ?_
    refine Wp.seq (Wp.region ?_)
    refine OWp.evs 3 rfl ?_
    refine OWp.part 92 rfl (fun cc5 => ?_) (fun cc5 => absurd (of_decide_eq_false cc5) (by decide))
    have cc5 := of_decide_eq_true cc5
    refine OWp.evs 4 rfl ?_
    refine OWp.nil ?_
    refine Wp.ret ⟨trivial, _, ⟨_, _, rfl, rfl, rfl⟩, ?_⟩
    rfl
  refine Wp.seq (Wp.region ?_)
  refine OWp.evs 2 rfl ?_
  refine OWp.step rfl (Step.call rfl rfl rfl rfl rfl rfl ((advW (to := a) rfl hW1 (by omega) (by omega) (by omega) ?_)))
  intro W2 ov oe hW2 ho
  have ht1 : (told (fullM a 4096) a).length = 1 := fullM_told a 4095
  have hl2 := told_left_len (fullM a 4096) a
  rw [fullM_len] at hl2
  have hl2 : (left (fullM a 4096) a).length = 4095 := by omega
  rw [ht1] at ho
  obtain ⟨oa, oc, rfl⟩ := ho.reads.form
  refine OWp.evs 5 rfl ?_
  refine OWp.nil ?_
  refine Wp.seq (Wp.region ?_)
  refine OWp.evs 3 rfl ?_
  refine OWp.part 71 rfl (fun cc6 => absurd (ndT cc6) (by exact fun h => h rfl)) (fun cc6 => ?_)
  have cc6 := ndF cc6
  refine OWp.evs 4 rfl ?_
  refine OWp.nil ?_
  refine Wp.cond rfl (fun cc7 => absurd (ndT cc7) (by exact fun h => h rfl)) (fun cc7 => ?_)
  have cc7 := ndF cc7
  refine Wp.skip ?_
  refine Wp.seq (Wp.region ?_)
  refine OWp.evs 3 rfl ?_
  refine OWp.step rfl (Step.call rfl rfl rfl rfl rfl rfl ((putW (a := a + 1) (i64_inc (by omega)) hW2 (by omega) (by omega) (by rw [hl2]; decide) (by omega) ?_)))
  intro W3 hW3
  refine OWp.evs 5 rfl ?_
  refine OWp.nil ?_
  refine Wp.seq (Wp.region ?_)
  refine OWp.evs 3 rfl ?_
  refine OWp.step rfl (Step.call rfl rfl rfl rfl rfl rfl ((putFullW hW3 (fun x hx => List.mem_append_left _ hx) (by rw [len_snoc, hl2]) (by rw [i64_inc (by omega)]; omega) (by rw [i64_inc (by omega)]; omega) ?_)))
  refine OWp.evs 5 rfl ?_
  refine OWp.nil ?_
  refine Wp.seq (Wp.region ?_)
  refine OWp.evs 3 rfl ?_
  refine OWp.part 92 rfl (fun cc8 => ?_) (fun cc8 => absurd (of_decide_eq_false cc8) (by decide))
  have cc8 := of_decide_eq_true cc8
  refine OWp.evs 4 rfl ?_
  refine OWp.nil ?_
  refine Wp.ret ⟨trivial, _, ⟨_, _, rfl, rfl, rfl⟩, ?_⟩
  rfl
end
end Go.Proofs.E
