/- What functions of the given program do, one after the other, told by that layer. -/
import Derived.Test.YtdgbbfbgakeaaaaAInts
namespace Go.Proofs.C
open Go.Lg
set_option maxRecDepth 100000

theorem below_quo {d n : Nat} (hd : d < 4294967296) (hn : n ≤ 2147483647) : IntKind.i64.wrap ((IntKind.i64.wrap ((d : Int) * (n : Int))).tdiv 4294967296) = ((d * n / 4294967296 : Nat) : Int) := by
  have hm : d * n ≤ 4294967295 * 2147483647 := Nat.mul_le_mul (by omega) hn
  have e : (d : Int) * (n : Int) = ((d * n : Nat) : Int) := by simp
  rw [e, i64_id (x := ((d * n : Nat) : Int)) (by omega) (by omega), Int.tdiv_eq_ediv_of_nonneg (by omega), i64_id (by omega) (by omega)]
  omega

/-- Numbers at the front of a row. -/
theorem ints_gset {l : List Nat} {g : List Value} {o i x : Nat} (h : i < l.length) (ho : o = i) : wr (ints l ++ g) o (Value.int .i64 (x : Int)).cells.toList = ints (l.set i x) ++ g := by
  subst ho
  rw [← ints_set l o x h]
  unfold wr
  show List.take o _ ++ [Value.int .i64 (x : Int)] ++ List.drop (o + 1) _ = _
  rw [List.take_append_of_le_length (by rw [ints_length]; omega), List.drop_append_of_le_length (by rw [ints_length]; omega)]
  simp
theorem ints_gpart {l : List Nat} {g : List Value} {i : Nat} (h : i < l.length) : Lg.partAt Try.prog 3 (ints l ++ g) (0 + i * 1) = some (.int .i64 (l.getD i 0 : Nat)) := by
  show (ints l ++ g)[0 + i * 1]? = _
  rw [Nat.zero_add, Nat.mul_one, List.getElem?_append_left (by rw [ints_length]; exact h)]
  simp [ints, h]

section
variable {B : Nat} {S R : Ents} {Q : Value → Ents → Prop} {s : List UInt8} {k p : Nat}

theorem rbelowC {n : Int} (hB : B ≤ p) (hs : s.length ≤ lim) (hk : k ≤ s.length) (h : Q (.tuple #[.int .i64 ((belowR s k n).1 : Nat), .int .i64 ((belowR s k n).2.1 : Nat)]) (rtp p s (belowR s k n).2.2 :: R)) :
    CallWp Try.prog B 76 #[pt p, .int .i64 n] Q (rtp p s k :: R) := by
  unfold belowR at h
  refine CallWp.enter (args := [_, _]) Try.func76 rfl Try.ntmps76 rfl ?_
  refine Wp.seq (Wp.region ?_)
  refine OWp.evs 2 rfl ?_
  refine OWp.nil ?_
  refine Wp.seq ?_
  refine Wp.seq (Wp.region ?_)
  refine OWp.evs 3 rfl ?_
  refine OWp.part 10 rfl (fun h1 => ?_) (fun h1 => ?_)
  · have h1 := of_decide_eq_true h1
    refine OWp.evs 3 rfl ?_
    refine OWp.nil ?_
    refine Wp.cond rfl (fun _ => ?_) (fun c => nomatch c)
    refine Wp.seq (Wp.region ?_)
    refine OWp.evs 2 rfl ?_
    refine OWp.nil ?_
    refine Wp.ret ⟨trivial, _, ⟨_, _, rfl, rfl, _, _, rfl, rfl, rfl⟩, ?_⟩
    rw [if_pos (.inl h1)] at h; exact h
  have h1 := of_decide_eq_false h1
  refine OWp.evs 3 rfl ?_
  refine OWp.nil ?_
  refine Wp.cond rfl (fun h2 => ?_) (fun h2 => ?_)
  · have h2 := of_decide_eq_true h2
    refine Wp.seq (Wp.region ?_)
    refine OWp.evs 2 rfl ?_
    refine OWp.nil ?_
    refine Wp.ret ⟨trivial, _, ⟨_, _, rfl, rfl, _, _, rfl, rfl, rfl⟩, ?_⟩
    rw [if_pos (.inr h2)] at h; exact h
  have h2 := of_decide_eq_false h2
  rw [if_neg (by omega)] at h
  obtain ⟨m, rfl⟩ : ∃ m : Nat, n = (m : Int) := ⟨n.toNat, by omega⟩
  refine Wp.skip ?_
  refine Wp.seq (Wp.region ?_)
  refine OWp.evs 1 rfl ?_
  refine OWp.step rfl (Step.call rfl rfl rfl rfl rfl rfl ((rwordC hB hs hk ?_)))
  unfold wordR
  by_cases c : k + 4 ≤ s.length
  · skip
    rw [if_pos c] at h ⊢
    refine OWp.evs 5 rfl ?_
    refine OWp.nil ?_
    refine Wp.seq ?_
    refine Wp.seq (Wp.region ?_)
    refine OWp.evs 2 rfl ?_
    refine OWp.nil ?_
    refine Wp.cond rfl (fun c => nomatch c) (fun _ => ?_)
    refine Wp.skip ?_
    refine Wp.seq (Wp.region ?_)
    refine OWp.evs 6 rfl ?_
    refine OWp.nil ?_
    refine Wp.ret ⟨trivial, _, ⟨_, _, rfl, rfl, _, _, rfl, rfl, rfl⟩, ?_⟩
    exact (congrArg (fun z => Q (.tuple #[.int .i64 z, .int .i64 0]) (rtp p s (k + 4) :: R)) (below_quo (d := word s k) (n := m) (be4_lt _) (by omega))).mpr h
  rw [if_neg c] at h ⊢
  refine OWp.evs 5 rfl ?_
  refine OWp.nil ?_
  refine Wp.seq ?_
  refine Wp.seq (Wp.region ?_)
  refine OWp.evs 2 rfl ?_
  refine OWp.nil ?_
  refine Wp.cond rfl (fun _ => ?_) (fun c => nomatch c)
  refine Wp.seq (Wp.region ?_)
  refine OWp.evs 3 rfl ?_
  refine OWp.nil ?_
  refine Wp.ret ⟨trivial, _, ⟨_, _, rfl, rfl, _, _, rfl, rfl, rfl⟩, ?_⟩
  exact h
theorem rbytesC {n : Int} (hB : B ≤ p) (_hs : s.length ≤ lim) (hk : k ≤ s.length)
    (h : Q (.tuple #[.string (str (bytesR s k n).1), .int .i64 ((bytesR s k n).2.1 : Nat)]) (rtp p s (bytesR s k n).2.2 :: R)) :
    CallWp Try.prog B 78 #[pt p, .int .i64 n] Q (rtp p s k :: R) := by
  unfold bytesR at h
  have hlen : (s.drop k).length = s.length - k := List.length_drop
  refine CallWp.enter (args := [_, _]) Try.func78 rfl Try.ntmps78 rfl ?_
  refine Wp.seq (Wp.region ?_)
  refine OWp.evs 2 rfl ?_
  refine OWp.nil ?_
  refine Wp.seq ?_
  refine Wp.seq (Wp.region ?_)
  refine OWp.evs 3 rfl ?_
  refine OWp.part 9 rfl (fun h1 => ?_) (fun h1 => ?_)
  · have h1 := of_decide_eq_true h1
    refine OWp.evs 3 rfl ?_
    refine OWp.nil ?_
    refine Wp.cond rfl (fun _ => ?_) (fun c => nomatch c)
    refine Wp.seq (Wp.region ?_)
    refine OWp.evs 2 rfl ?_
    refine OWp.nil ?_
    refine Wp.ret ⟨trivial, _, ⟨_, _, rfl, rfl, _, _, rfl, rfl, rfl⟩, ?_⟩
    rw [if_pos (.inl h1)] at h; exact h
  have h1 := of_decide_eq_false h1
  refine OWp.evs 3 rfl ?_
  refine OWp.nil ?_
  refine Wp.cond rfl (fun h2 => ?_) (fun h2 => ?_)
  · have h2 := of_decide_eq_true h2
    refine Wp.seq (Wp.region ?_)
    refine OWp.evs 2 rfl ?_
    refine OWp.nil ?_
    refine Wp.ret ⟨trivial, _, ⟨_, _, rfl, rfl, _, _, rfl, rfl, rfl⟩, ?_⟩
    rw [if_pos (.inr h2)] at h; exact h
  have h2 := of_decide_eq_false h2
  rw [if_neg (by omega)] at h
  obtain ⟨m, rfl⟩ : ∃ m : Nat, n = (m : Int) := ⟨n.toNat, by omega⟩
  refine Wp.skip ?_
  refine Wp.seq ?_
  refine Wp.seq (Wp.region ?_)
  refine OWp.evs 3 rfl ?_
  first | refine OWp.load (List.Mem.head _) rfl rfl rfl rfl rfl ?_ | refine OWp.load (List.Mem.tail _ (List.Mem.head _)) rfl rfl rfl rfl rfl ?_ | refine OWp.load (List.Mem.tail _ (List.Mem.tail _ (List.Mem.head _))) rfl rfl rfl rfl rfl ?_ | refine OWp.load (List.Mem.tail _ (List.Mem.tail _ (List.Mem.tail _ (List.Mem.head _)))) rfl rfl rfl rfl rfl ?_ | refine OWp.load (List.Mem.tail _ (List.Mem.tail _ (List.Mem.tail _ (List.Mem.tail _ (List.Mem.head _))))) rfl rfl rfl rfl rfl ?_ | refine OWp.load (List.Mem.tail _ (List.Mem.tail _ (List.Mem.tail _ (List.Mem.tail _ (List.Mem.tail _ (List.Mem.head _)))))) rfl rfl rfl rfl rfl ?_
  refine OWp.evs 3 rfl ?_
  refine OWp.nil ?_
  refine Wp.cond rfl (fun h3 => ?_) (fun h3 => ?_)
  · have h3 := of_decide_eq_true h3
    rw [hlen] at h3
    refine Wp.seq (Wp.region ?_)
    refine OWp.evs 2 rfl ?_
    refine OWp.nil ?_
    refine Wp.ret ⟨trivial, _, ⟨_, _, rfl, rfl, _, _, rfl, rfl, rfl⟩, ?_⟩
    rw [if_pos (by omega)] at h; exact h
  have h3 := of_decide_eq_false h3
  rw [hlen] at h3
  rw [if_neg (by omega)] at h
  refine Wp.skip ?_
  refine Wp.seq (Wp.region ?_)
  refine OWp.evs 3 rfl ?_
  first | refine OWp.load (List.Mem.head _) rfl rfl rfl rfl rfl ?_ | refine OWp.load (List.Mem.tail _ (List.Mem.head _)) rfl rfl rfl rfl rfl ?_ | refine OWp.load (List.Mem.tail _ (List.Mem.tail _ (List.Mem.head _))) rfl rfl rfl rfl rfl ?_ | refine OWp.load (List.Mem.tail _ (List.Mem.tail _ (List.Mem.tail _ (List.Mem.head _)))) rfl rfl rfl rfl rfl ?_ | refine OWp.load (List.Mem.tail _ (List.Mem.tail _ (List.Mem.tail _ (List.Mem.tail _ (List.Mem.head _))))) rfl rfl rfl rfl rfl ?_ | refine OWp.load (List.Mem.tail _ (List.Mem.tail _ (List.Mem.tail _ (List.Mem.tail _ (List.Mem.tail _ (List.Mem.head _)))))) rfl rfl rfl rfl rfl ?_
  refine OWp.evs 1 rfl ?_
  refine OWp.g rfl rfl (Gives.sliceStr (l := 0) (h' := m) rfl rfl rfl rfl ⟨_, _, rfl, rfl⟩ (by omega) (by omega)) ?_
  refine OWp.evs 1 rfl ?_
  refine OWp.nil ?_
  refine Wp.seq (Wp.region ?_)
  refine OWp.evs 4 rfl ?_
  first | refine OWp.load (List.Mem.head _) rfl rfl rfl rfl rfl ?_ | refine OWp.load (List.Mem.tail _ (List.Mem.head _)) rfl rfl rfl rfl rfl ?_ | refine OWp.load (List.Mem.tail _ (List.Mem.tail _ (List.Mem.head _))) rfl rfl rfl rfl rfl ?_ | refine OWp.load (List.Mem.tail _ (List.Mem.tail _ (List.Mem.tail _ (List.Mem.head _)))) rfl rfl rfl rfl rfl ?_ | refine OWp.load (List.Mem.tail _ (List.Mem.tail _ (List.Mem.tail _ (List.Mem.tail _ (List.Mem.head _))))) rfl rfl rfl rfl rfl ?_ | refine OWp.load (List.Mem.tail _ (List.Mem.tail _ (List.Mem.tail _ (List.Mem.tail _ (List.Mem.tail _ (List.Mem.head _)))))) rfl rfl rfl rfl rfl ?_
  refine OWp.evs 1 rfl ?_
  refine OWp.g rfl rfl (Gives.sliceStr (l := m) (h' := (s.drop k).length) rfl rfl rfl ⟨_, _, rfl, rfl⟩ rfl (by omega) (by omega)) ?_
  refine OWp.evs 2 rfl ?_
  refine OWp.step rfl (Step.store 0 rfl rfl rfl rfl rfl (by assumption) rfl (Nat.le_of_ble_eq_true rfl) (Unfz.zero _) rfl rfl ?_)
  refine OWp.nil ?_
  refine Wp.seq (Wp.region ?_)
  refine OWp.evs 3 rfl ?_
  refine OWp.nil ?_
  refine Wp.ret ⟨trivial, _, ⟨_, _, rfl, rfl, _, _, rfl, rfl, rfl⟩, ?_⟩
  have e : ((s.drop k).drop m).take ((s.drop k).length - m) = s.drop (k + m) := by
    rw [List.drop_drop, List.take_of_length_le]
    simp only [List.length_drop]; omega
  rw [e]
  exact h
theorem rorder_range {n : Int} (hn : n < 0 ∨ 64 < n) (h : Q (.tuple #[.slice none 0 0, .int .i64 1]) (rtp p s k :: R)) :
    CallWp Try.prog B 79 #[pt p, .int .i64 n] Q (rtp p s k :: R) := by
  refine CallWp.enter (args := [_, _]) Try.func79 rfl Try.ntmps79 rfl ?_
  refine Wp.seq (Wp.region ?_)
  refine OWp.evs 2 rfl ?_
  refine OWp.nil ?_
  refine Wp.seq ?_
  refine Wp.seq (Wp.region ?_)
  refine OWp.evs 3 rfl ?_
  refine OWp.part 13 rfl (fun h1 => ?_) (fun h1 => ?_)
  · have h1 := of_decide_eq_true h1
    refine OWp.evs 3 rfl ?_
    refine OWp.nil ?_
    refine Wp.cond rfl (fun _ => ?_) (fun c => nomatch c)
    refine Wp.seq (Wp.region ?_)
    refine OWp.evs 2 rfl ?_
    refine OWp.nil ?_
    refine Wp.ret ⟨trivial, _, ⟨_, _, rfl, rfl, _, _, rfl, rfl, rfl⟩, ?_⟩
    exact h
  have h1 := of_decide_eq_false h1
  refine OWp.evs 3 rfl ?_
  refine OWp.nil ?_
  refine Wp.cond rfl (fun c1 => ?_) (fun c1 => absurd (of_decide_eq_false c1) (by omega))
  have c1 := of_decide_eq_true c1
  refine Wp.seq (Wp.region ?_)
  refine OWp.evs 2 rfl ?_
  refine OWp.nil ?_
  refine Wp.ret ⟨trivial, _, ⟨_, _, rfl, rfl, _, _, rfl, rfl, rfl⟩, ?_⟩
  exact h
theorem rorder_tape {n : Nat} (hn : n ≤ 64) (ht : s.length - k < 4 * (n - 1)) (h : Q (.tuple #[.slice none 0 0, .int .i64 120]) (rtp p s k :: R)) :
    CallWp Try.prog B 79 #[pt p, .int .i64 (n : Int)] Q (rtp p s k :: R) := by
  have hlen : (s.drop k).length = s.length - k := List.length_drop
  have e1 : IntKind.i64.wrap (4 * (IntKind.i64.wrap ((n : Int) - 1))) = 4 * ((n : Int) - 1) := by
    rw [wrap_sub1 n (by unfold lim; omega), i64_id] <;> omega
  refine CallWp.enter (args := [_, _]) Try.func79 rfl Try.ntmps79 rfl ?_
  refine Wp.seq (Wp.region ?_)
  refine OWp.evs 2 rfl ?_
  refine OWp.nil ?_
  refine Wp.seq ?_
  refine Wp.seq (Wp.region ?_)
  refine OWp.evs 3 rfl ?_
  refine OWp.part 13 rfl (fun c1 => absurd (of_decide_eq_true c1) (by omega)) (fun c1 => ?_)
  have c1 := of_decide_eq_false c1
  refine OWp.evs 3 rfl ?_
  refine OWp.nil ?_
  refine Wp.cond rfl (fun c2 => absurd (of_decide_eq_true c2) (by omega)) (fun c2 => ?_)
  have c2 := of_decide_eq_false c2
  refine Wp.skip ?_
  refine Wp.seq ?_
  refine Wp.seq (Wp.region ?_)
  refine OWp.evs 3 rfl ?_
  refine OWp.part 19 rfl (fun c3 => ?_) (fun c3 => absurd (of_decide_eq_false c3) (by omega))
  have c3 := of_decide_eq_true c3
  refine OWp.evs 3 rfl ?_
  first | refine OWp.load (List.Mem.head _) rfl rfl rfl rfl rfl ?_ | refine OWp.load (List.Mem.tail _ (List.Mem.head _)) rfl rfl rfl rfl rfl ?_ | refine OWp.load (List.Mem.tail _ (List.Mem.tail _ (List.Mem.head _))) rfl rfl rfl rfl rfl ?_ | refine OWp.load (List.Mem.tail _ (List.Mem.tail _ (List.Mem.tail _ (List.Mem.head _)))) rfl rfl rfl rfl rfl ?_ | refine OWp.load (List.Mem.tail _ (List.Mem.tail _ (List.Mem.tail _ (List.Mem.tail _ (List.Mem.head _))))) rfl rfl rfl rfl rfl ?_ | refine OWp.load (List.Mem.tail _ (List.Mem.tail _ (List.Mem.tail _ (List.Mem.tail _ (List.Mem.tail _ (List.Mem.head _)))))) rfl rfl rfl rfl rfl ?_
  refine OWp.evs 6 rfl ?_
  refine OWp.nil ?_
  refine Wp.cond rfl (fun c4 => ?_) (fun c4 => absurd (of_decide_eq_false c4) (by rw [hlen, e1]; omega))
  have c4 := of_decide_eq_true c4
  refine Wp.seq (Wp.region ?_)
  refine OWp.evs 2 rfl ?_
  refine OWp.nil ?_
  refine Wp.ret ⟨trivial, _, ⟨_, _, rfl, rfl, _, _, rfl, rfl, rfl⟩, ?_⟩
  exact h
theorem rorder_yes {n : Nat} (hB : B ≤ p) (hn : n ≤ 64) (hs : s.length ≤ lim) (hk : k ≤ s.length) (ht : 4 * (n - 1) ≤ s.length - k)
    (h : ∀ v es, Reads (es ++ rtp p s (k + 4 * (n - 1)) :: R) 1 v n (ints (shuf s n k (List.range n))) → Q (.tuple #[v, .int .i64 0]) (es ++ rtp p s (k + 4 * (n - 1)) :: R)) :
    CallWp Try.prog B 79 #[pt p, .int .i64 (n : Int)] Q (rtp p s k :: R) := by
  have hlen : (s.drop k).length = s.length - k := List.length_drop
  have e1 : IntKind.i64.wrap (4 * (IntKind.i64.wrap ((n : Int) - 1))) = 4 * ((n : Int) - 1) := by
    rw [wrap_sub1 n (by unfold lim; omega), i64_id] <;> omega
  refine CallWp.enter (args := [_, _]) Try.func79 rfl Try.ntmps79 rfl ?_
  refine Wp.seq (Wp.region ?_)
  refine OWp.evs 2 rfl ?_
  refine OWp.nil ?_
  refine Wp.seq ?_
  refine Wp.seq (Wp.region ?_)
  refine OWp.evs 3 rfl ?_
  refine OWp.part 13 rfl (fun c1 => absurd (of_decide_eq_true c1) (by omega)) (fun c1 => ?_)
  have c1 := of_decide_eq_false c1
  refine OWp.evs 3 rfl ?_
  refine OWp.nil ?_
  refine Wp.cond rfl (fun c2 => absurd (of_decide_eq_true c2) (by omega)) (fun c2 => ?_)
  have c2 := of_decide_eq_false c2
  refine Wp.skip ?_
  refine Wp.seq ?_
  refine Wp.seq (Wp.region ?_)
  by_cases hn1 : n ≤ 1
  · skip
    refine OWp.evs 3 rfl ?_
    refine OWp.part 19 rfl (fun c3 => absurd (of_decide_eq_true c3) (by omega)) (fun c3 => ?_)
    have c3 := of_decide_eq_false c3
    refine OWp.evs 10 rfl ?_
    refine OWp.nil ?_
    refine Wp.cond rfl (fun c => nomatch c) (fun _ => ?_)
    refine Wp.skip ?_
    refine Wp.seq (Wp.region ?_)
    refine OWp.evs 1 rfl ?_
    refine OWp.nil ?_
    refine Wp.seq ?_
    refine Wp.seq (Wp.region ?_)
    refine OWp.evs 1 rfl ?_
    refine OWp.nil ?_
    refine Wp.block ?_
    refine Wp.loopS (α := Nat × Value × Ents) (fun x => n - x.1) (fun x => [(7, .int .i64 (x.1 : Int)), (6, x.2.1), (0, pt p), (1, .int .i64 (n : Int))]) (fun x => x.2.2 ++ rtp p s k :: R) (fun x => x.1 ≤ n ∧ Own B 3 1 x.2.1 x.1 (ints (List.range x.1)) x.2.2) (0, .slice none 0 0, []) ?_ (.refl _) ⟨Nat.zero_le _, Own.nil B 3 1⟩ ?_
    · exact .cons rfl (.cons rfl (.cons rfl (.cons rfl (.nil _))))
    rintro ⟨i, v, es⟩ ⟨hi, hown⟩
    simp only at hi hown ⊢
    refine Wp.seq ?_
    refine Wp.seq (Wp.region ?_)
    refine OWp.evs 3 rfl ?_
    refine OWp.nil ?_
    refine Wp.cond rfl (fun h1 => ?_) (fun h1 => ?_)
    · have h1 := of_decide_eq_true h1
      refine Wp.skip ?_
      refine Wp.seq ?_
      refine Wp.block ?_
      refine Wp.region ?_
      refine OWp.evs 2 rfl ?_
      refine OWp.step rfl (Step.buildSlice rfl rfl rfl ?_); intro Lp4 hBLp4 hLLp4
      refine OWp.step rfl (Step.appendAt [_] rfl rfl rfl rfl rfl rfl (by decide) rfl rfl hown (Reads.row (k := 1) (sz := 1) (.head _) (Nat.le_of_ble_eq_true rfl)) rfl (by show (_ + 1) * 8 ≤ _; omega) (by unfold maxLen; omega) ?_); intro v3 es3 ho3 _
      refine OWp.dropAt 0 rfl ?_
      refine OWp.evs 1 rfl ?_
      refine OWp.nil ?_
      refine Wp.region ?_
      refine OWp.evs 3 rfl ?_
      refine OWp.nil ?_
      refine ⟨(i + 1, v3, es3), by simp only; omega, ⟨by simp only; omega, ?_⟩, ?_, .refl _⟩
      · have : ints (List.range (i + 1)) = ints (List.range i) ++ [.int .i64 (i : Int)] := by rw [List.range_succ]; simp [ints]
        exact this ▸ ho3
      · exact .cons' rfl (int_eq (wrap_add1 i (by unfold lim; omega))) (.cons rfl (.cons rfl (.cons rfl (.nil _))))
    have h1 := of_decide_eq_false h1
    obtain rfl : i = n := by omega
    refine Wp.exit ?_
    refine Wp.seq ?_
    refine Wp.seq (Wp.region ?_)
    refine OWp.evs 3 rfl ?_
    refine OWp.nil ?_
    refine Wp.block ?_
    refine Wp.loopS (α := Unit) (fun _ => 0) (fun _ => [(8, .int .i64 ((i : Int) - 1)), (6, v)]) (fun _ => es ++ rtp p s k :: R) (fun _ => True) () ?_ (.refl _) trivial ?_
    · exact .cons' rfl (int_eq (wrap_sub1 i (by unfold lim; omega))) (.cons rfl (.nil _))
    rintro ⟨⟩ -
    refine Wp.seq ?_
    refine Wp.seq (Wp.region ?_)
    refine OWp.evs 2 rfl ?_
    refine OWp.nil ?_
    refine Wp.cond rfl (fun c5 => absurd (of_decide_eq_true c5) (by omega)) (fun c5 => ?_)
    have c5 := of_decide_eq_false c5
    refine Wp.exit ?_
    refine Wp.seq (Wp.region ?_)
    refine OWp.evs 3 rfl ?_
    refine OWp.nil ?_
    refine Wp.ret ⟨trivial, _, ⟨_, _, rfl, rfl, _, _, rfl, rfl, rfl⟩, ?_⟩
    have e2 : shuf s i k (List.range i) = List.range i := by
      match i, hn1 with
      | 0, _ => rfl
      | 1, _ => rfl
      | q + 2, c5 => omega
    have e3 : k + 4 * (i - 1) = k := by omega
    rw [e2, e3] at h
    exact h v es (hown.reads.mono fun x hx => List.mem_append_left _ hx)
  refine OWp.evs 3 rfl ?_
  refine OWp.part 19 rfl (fun c6 => ?_) (fun c6 => absurd (of_decide_eq_false c6) (by omega))
  have c6 := of_decide_eq_true c6
  refine OWp.evs 3 rfl ?_
  first | refine OWp.load (List.Mem.head _) rfl rfl rfl rfl rfl ?_ | refine OWp.load (List.Mem.tail _ (List.Mem.head _)) rfl rfl rfl rfl rfl ?_ | refine OWp.load (List.Mem.tail _ (List.Mem.tail _ (List.Mem.head _))) rfl rfl rfl rfl rfl ?_ | refine OWp.load (List.Mem.tail _ (List.Mem.tail _ (List.Mem.tail _ (List.Mem.head _)))) rfl rfl rfl rfl rfl ?_ | refine OWp.load (List.Mem.tail _ (List.Mem.tail _ (List.Mem.tail _ (List.Mem.tail _ (List.Mem.head _))))) rfl rfl rfl rfl rfl ?_ | refine OWp.load (List.Mem.tail _ (List.Mem.tail _ (List.Mem.tail _ (List.Mem.tail _ (List.Mem.tail _ (List.Mem.head _)))))) rfl rfl rfl rfl rfl ?_
  refine OWp.evs 6 rfl ?_
  refine OWp.nil ?_
  refine Wp.cond rfl (fun c7 => absurd (of_decide_eq_true c7) (by rw [hlen, e1]; omega)) (fun c7 => ?_)
  have c7 := of_decide_eq_false c7
  refine Wp.skip ?_
  refine Wp.seq (Wp.region ?_)
  refine OWp.evs 1 rfl ?_
  refine OWp.nil ?_
  refine Wp.seq ?_
  refine Wp.seq (Wp.region ?_)
  refine OWp.evs 1 rfl ?_
  refine OWp.nil ?_
  refine Wp.block ?_
  refine Wp.loopS (α := Nat × Value × Ents) (fun x => n - x.1) (fun x => [(7, .int .i64 (x.1 : Int)), (6, x.2.1), (0, pt p), (1, .int .i64 (n : Int))]) (fun x => x.2.2 ++ rtp p s k :: R) (fun x => x.1 ≤ n ∧ Own B 3 1 x.2.1 x.1 (ints (List.range x.1)) x.2.2) (0, .slice none 0 0, []) ?_ (.refl _) ⟨Nat.zero_le _, Own.nil B 3 1⟩ ?_
  · exact .cons rfl (.cons rfl (.cons rfl (.cons rfl (.nil _))))
  rintro ⟨i, v, es⟩ ⟨hi, hown⟩
  simp only at hi hown ⊢
  refine Wp.seq ?_
  refine Wp.seq (Wp.region ?_)
  refine OWp.evs 3 rfl ?_
  refine OWp.nil ?_
  refine Wp.cond rfl (fun h1 => ?_) (fun h1 => ?_)
  · have h1 := of_decide_eq_true h1
    refine Wp.skip ?_
    refine Wp.seq ?_
    refine Wp.block ?_
    refine Wp.region ?_
    refine OWp.evs 2 rfl ?_
    refine OWp.step rfl (Step.buildSlice rfl rfl rfl ?_); intro Lp8 hBLp8 hLLp8
    refine OWp.step rfl (Step.appendAt [_] rfl rfl rfl rfl rfl rfl (by decide) rfl rfl hown (Reads.row (k := 1) (sz := 1) (.head _) (Nat.le_of_ble_eq_true rfl)) rfl (by show (_ + 1) * 8 ≤ _; omega) (by unfold maxLen; omega) ?_); intro v3 es3 ho3 _
    refine OWp.dropAt 0 rfl ?_
    refine OWp.evs 1 rfl ?_
    refine OWp.nil ?_
    refine Wp.region ?_
    refine OWp.evs 3 rfl ?_
    refine OWp.nil ?_
    refine ⟨(i + 1, v3, es3), by simp only; omega, ⟨by simp only; omega, ?_⟩, ?_, .refl _⟩
    · have : ints (List.range (i + 1)) = ints (List.range i) ++ [.int .i64 (i : Int)] := by rw [List.range_succ]; simp [ints]
      exact this ▸ ho3
    · exact .cons' rfl (int_eq (wrap_add1 i (by unfold lim; omega))) (.cons rfl (.cons rfl (.cons rfl (.nil _))))
  have h1 := of_decide_eq_false h1
  obtain rfl : i = n := by omega
  obtain ⟨hl0, ⟨_, h0, _⟩ | ⟨bb, cap, cur, rfl, rfl, hBb, hcap, _, hcl, htk⟩⟩ := hown
  · omega
  rw [Nat.mul_one] at hcl htk
  obtain ⟨g, rfl⟩ : ∃ g, cur = ints (List.range i) ++ g := ⟨cur.drop i, by rw [← htk, List.take_append_drop]⟩
  refine Wp.exit ?_
  refine Wp.seq ?_
  refine Wp.seq (Wp.region ?_)
  refine OWp.evs 3 rfl ?_
  refine OWp.nil ?_
  refine Wp.block ?_
  refine Wp.loopS (α := Nat × Nat × List Nat) (fun x => x.1) (fun x => [(8, .int .i64 ((x.1 : Int) - 1)), (6, .slice (some ⟨bb, 0, none⟩) i cap), (0, pt p)]) (fun x => (bb, cel (ints x.2.2 ++ g) 3) :: rtp p s x.2.1 :: R) (fun x => x.1 ≤ i ∧ x.2.2.length = i ∧ x.2.1 + 4 * (x.1 - 1) = k + 4 * (i - 1) ∧ shuf s x.1 x.2.1 x.2.2 = shuf s i k (List.range i)) (i, k, List.range i) ?_ (.refl _) ⟨Nat.le_refl i, List.length_range, rfl, rfl⟩ ?_
  · exact .cons' rfl (int_eq (wrap_sub1 i (by unfold lim; omega))) (.cons rfl (.cons rfl (.nil _)))
  rintro ⟨q, kk, l⟩ ⟨hq, hl, hkk, hsh⟩
  simp only at hq hl hkk hsh ⊢
  refine Wp.seq ?_
  refine Wp.seq (Wp.region ?_)
  refine OWp.evs 2 rfl ?_
  refine OWp.nil ?_
  refine Wp.cond rfl (fun h5 => ?_) (fun h5 => ?_)
  · have h5 := of_decide_eq_true h5
    obtain ⟨m, rfl⟩ : ∃ m, q = m + 2 := ⟨q - 2, by omega⟩
    have e2 : ((m + 2 : Nat) : Int) - 1 = ((m + 1 : Nat) : Int) := by omega
    rw [e2]
    refine Wp.skip ?_
    refine Wp.seq ?_
    refine Wp.block ?_
    refine Wp.seq (Wp.region ?_)
    refine OWp.evs 3 rfl ?_
    refine OWp.step rfl (Step.call rfl rfl rfl rfl rfl rfl (CallWp.focus 1 rfl ((rbelowC hB hs (by omega) ?_))))
    rw [wrap_add1 (m + 1) (by unfold lim; omega)]
    have hb : belowR s kk ((m + 1 + 1 : Nat) : Int) = (word s kk * (m + 2) / 4294967296, 0, kk + 4) := by
      unfold belowR
      rw [if_neg (by omega), if_pos (by omega)]
      rfl
    rw [hb]
    have hj : word s kk * (m + 2) / 4294967296 < m + 2 := by
      have := be4_lt (s.drop kk)
      have h1 : word s kk * (m + 2) < 4294967296 * (m + 2) := Nat.mul_lt_mul_of_pos_right this (by omega)
      exact Nat.div_lt_of_lt_mul h1
    rw [shuf] at hsh
    generalize word s kk * (m + 2) / 4294967296 = j at hj hsh
    refine OWp.evs 5 rfl ?_
    refine OWp.nil ?_
    refine Wp.regionDraw [0, 1, 2, 3, 4, 5, 6, 7, 8, 9, 10, 11, 12, 13, 14, 15] [13, 15] rfl (by decide +kernel) ?_
    refine DWp.evs 6 rfl ?_
    refine DWp.g rfl rfl rfl rfl (Gives.indexAddrSlice (j) rfl rfl rfl rfl rfl rfl (by omega)) ?_
    refine DWp.load (.tail _ (.head _)) rfl rfl rfl rfl rfl rfl (ints_gpart (l := l) (by omega)) ?_
    refine DWp.evs 2 rfl ?_
    refine DWp.g rfl rfl rfl rfl (Gives.indexAddrSlice ((m + 1)) rfl rfl rfl rfl rfl rfl (by omega)) ?_
    refine DWp.load (.tail _ (.head _)) rfl rfl rfl rfl rfl rfl (ints_gpart (l := l) (by omega)) ?_
    refine DWp.g rfl rfl rfl rfl (Gives.indexAddrSlice ((m + 1)) rfl rfl rfl rfl rfl rfl (by omega)) ?_
    refine DWp.stepAll rfl rfl rfl rfl (Step.store 1 rfl rfl rfl rfl rfl hBb rfl ?_ (Unfz.zero _) rfl rfl ?_)
    · rw [List.length_append, ints_length, hl]; show 0 + (m + 1) * 1 + 1 ≤ _; omega
    rw [ints_gset (l := l) (i := m + 1) (by omega) (by show 0 + (m + 1) * 1 = m + 1; omega)]
    refine DWp.g rfl rfl rfl rfl (Gives.indexAddrSlice (j) rfl rfl rfl rfl rfl rfl (by omega)) ?_
    refine DWp.stepAll rfl rfl rfl rfl (Step.store 1 rfl rfl rfl rfl rfl hBb rfl ?_ (Unfz.zero _) rfl rfl ?_)
    · rw [List.length_append, ints_length, List.length_set, hl]; show 0 + j * 1 + 1 ≤ _; omega
    rw [ints_gset (l := l.set (m + 1) (l.getD j 0)) (i := j) (by rw [List.length_set]; omega) (by show 0 + j * 1 = j; omega)]
    refine DWp.nil ?_
    refine Wp.region ?_
    refine OWp.evs 3 rfl ?_
    refine OWp.nil ?_
    refine ⟨(m + 1, kk + 4, swp l (m + 1) j), by simp, ⟨by simp only; omega, by rw [swp_length]; exact hl, by simp only; omega, hsh⟩, ?_, .swap _ _ _⟩
    · exact .cons' rfl (int_eq (wrap_sub1 (m + 1) (by unfold lim; omega))) (.cons rfl (.cons rfl (.nil _)))
  have h5 := of_decide_eq_false h5
  refine Wp.exit ?_
  refine Wp.seq (Wp.region ?_)
  refine OWp.evs 3 rfl ?_
  refine OWp.nil ?_
  refine Wp.ret ⟨trivial, _, ⟨_, _, rfl, rfl, _, _, rfl, rfl, rfl⟩, ?_⟩
  have hfin : shuf s q kk l = l := by
    match q, h5 with
    | 0, _ => rfl
    | 1, _ => rfl
    | q + 2, c5 => omega
  rw [← hsh, hfin, ← hkk, show kk + 4 * (q - 1) = kk by omega] at h
  refine h _ [(bb, cel (ints l ++ g) 3)] ?_
  have := Reads.row (sz := 1) (k := i) (cap := cap) (List.Mem.head (rtp p s kk :: R) : (bb, cel (ints l ++ g) 3) ∈ _) (by rw [List.length_append, ints_length]; omega)
  rw [Nat.mul_one, List.take_append_of_le_length (by rw [ints_length]; omega), List.take_of_length_le (by rw [ints_length]; omega)] at this
  exact this
end
end Go.Proofs.C
