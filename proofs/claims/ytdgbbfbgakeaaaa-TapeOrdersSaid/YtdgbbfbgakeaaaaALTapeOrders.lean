/- What functions of the given program do, one after the other, told by that layer. -/
import Derived.Test.YtdgbbfbgakeaaaaAShuf
import Derived.Test.YtdgbbfbgakeaaaaATape5
import Derived.Test.YtdgbbfbgakeaaaaARd
namespace Go.Proofs.C
open Go.Lg
set_option maxRecDepth 100000

/-- Which of the first 65 numbers are among these. -/
def among65 (l : List Nat) : List Value := (List.range 65).map fun x => .bool (decide (x ∈ l))
theorem among65_length (l : List Nat) : (among65 l).length = 65 := by simp [among65]
theorem among65_nil : zeros [.bool false] 65 = among65 [] := rfl
theorem among65_part (l : List Nat) {x : Nat} (h : x < 65) : Lg.partAt Try.prog 4 (among65 l) (0 + x * 1) = some (.bool (decide (x ∈ l))) := by
  show (among65 l)[0 + x * 1]? = _
  rw [Nat.zero_add, Nat.mul_one]
  simp [among65, h]
theorem among65_set (l : List Nat) {x o : Nat} (h : x < 65) (ho : o = x) : wr (among65 l) o (Value.bool true).cells.toList = among65 (l ++ [x]) := by
  subst ho
  show (among65 l).take o ++ [.bool true] ++ (among65 l).drop (o + 1) = _
  have e : (among65 l).set o (.bool true) = (among65 l).take o ++ .bool true :: (among65 l).drop (o + 1) := by
    rw [List.set_eq_take_append_cons_drop, if_pos (by rw [among65_length]; exact h)]
  rw [List.append_assoc, List.singleton_append, ← e]
  apply List.ext_getElem?
  intro y
  rw [List.getElem?_set]
  unfold among65
  by_cases hy : y < 65
  · by_cases hxy : o = y
    · subst hxy; simp [h]
    · simp [hxy, hy, Ne.symm hxy]
  · rw [if_neg (by omega)]; simp [hy]

section
variable {B : Nat} {S : Ents}

theorem take_range {l : List Nat} {i n : Nat} (hl : l.length = n) (hi : i < n) : decide (l.take (i + 1) = List.range (i + 1)) = (decide (l.take i = List.range i) && decide (l.getD i 0 = i)) := by
  have e : l.take (i + 1) = l.take i ++ [l.getD i 0] := by
    rw [List.take_add_one]
    simp [hl, hi]
  rw [e, List.range_succ]
  have hlen : (l.take i).length = (List.range i).length := by simp; omega
  rw [Bool.eq_iff_iff]
  simp only [decide_eq_true_eq, Bool.and_eq_true]
  constructor
  · intro h
    obtain ⟨h1, h2⟩ := List.append_inj h hlen
    exact ⟨h1, by simpa using h2⟩
  · rintro ⟨h1, h2⟩
    rw [h1, h2]

theorem getD_mem {l : List Nat} {i : Nat} (h : i < l.length) : l.getD i 0 ∈ l := by
  rw [List.getD_eq_getElem?_getD, List.getElem?_eq_getElem h]
  exact List.getElem_mem h
theorem getD_notMem {l : List Nat} {i : Nat} (hn : l.Nodup) (h : i < l.length) : l.getD i 0 ∉ l.take i := by
  intro hm
  obtain ⟨j, hj, e⟩ := List.mem_iff_getElem.1 hm
  rw [List.length_take] at hj
  rw [List.getElem_take] at e
  have e2 : l.getD i 0 = l[i] := by simp [h]
  rw [e2] at e
  have := (List.getElem_inj hn).1 e
  omega

set_option maxHeartbeats 1000000 in
theorem tapeOrdersL {s : List UInt8} {x : Int} (hs : s.length ≤ lim) :
    CallWp Try.prog B 6 #[.string (str s), .int .i64 x] (fun v _ => v = .bool true) S := by
  refine CallWp.enter (args := [_, _]) Try.func6 rfl Try.ntmps6 rfl ?_
  refine Wp.seq (Wp.region ?_)
  refine OWp.evs 1 rfl ?_
  refine OWp.nil ?_
  refine Wp.seq ?_
  refine Wp.seq (Wp.region ?_)
  refine OWp.step rfl (Step.call rfl rfl rfl rfl rfl rfl (works ?_))
  refine OWp.evs 1 rfl ?_
  refine OWp.nil ?_
  refine Wp.cond rfl (fun c => nomatch c) (fun _ => ?_)
  refine Wp.skip ?_
  refine Wp.seq (Wp.region ?_)
  refine OWp.evs 1 rfl ?_
  refine OWp.step rfl (Step.call rfl rfl rfl rfl rfl rfl (among (m := 65) (by decide) (by decide) ?_))
  obtain ⟨n, hn, hn65⟩ : ∃ n : Nat, x % ((65 : Nat) : Int) = (n : Int) ∧ n < 65 := ⟨(x % 65).toNat, by omega, by omega⟩
  rw [hn]
  refine OWp.evs 1 rfl ?_
  refine OWp.nil ?_
  refine Wp.seq (Wp.region ?_)
  refine OWp.evs 1 rfl ?_
  refine OWp.step rfl (Step.call rfl rfl rfl rfl rfl rfl (tapeNew ?_))
  intro L hBL hL
  refine OWp.evs 1 rfl ?_
  refine OWp.nil ?_
  refine Wp.seq ?_
  refine Wp.seq (Wp.region ?_)
  refine OWp.evs 2 rfl ?_
  refine OWp.nil ?_
  refine Wp.cond rfl (fun c => nomatch c) (fun _ => ?_)
  refine Wp.skip ?_
  refine Wp.seq (Wp.region ?_)
  refine OWp.evs 2 rfl ?_
  have e1 : IntKind.i64.wrap (4 * (IntKind.i64.wrap ((n : Int) - 1))) = 4 * ((n : Int) - 1) := by
    rw [wrap_sub1 n (by unfold lim; omega), i64_id] <;> omega
  have e2 : (4 * ((n : Int) - 1)).toNat = 4 * (n - 1) := by omega
  have e3 : (if IntKind.i64.wrap (4 * (IntKind.i64.wrap ((n : Int) - 1))) > 0 then IntKind.i64.wrap (4 * (IntKind.i64.wrap ((n : Int) - 1))) else 0) = ((4 * (n - 1) : Nat) : Int) := by
    rw [e1]; split <;> omega
  by_cases hneed : s.length < 4 * (n - 1)
  · refine OWp.step rfl (Step.call rfl rfl rfl rfl rfl rfl (order_tape (by omega) hs (Nat.zero_le _) hneed ?_))
    refine OWp.evs 5 rfl ?_
    refine OWp.nil ?_
    refine Wp.seq (Wp.region ?_)
    refine OWp.evs 5 rfl ?_
    refine OWp.nil ?_
    rw [e3]
    refine Wp.seq ?_
    refine Wp.seq (Wp.region ?_)
    refine OWp.evs 4 rfl ?_
    refine OWp.nil ?_
    refine Wp.cond rfl (fun c3 => ?_) (fun c3 => ?_)
    · refine Wp.seq (Wp.region ?_)
      refine OWp.evs 3 rfl ?_
      refine OWp.part 38 rfl (fun _ => ?_) (fun c => absurd c (by simp))
      refine OWp.evs 5 rfl ?_
      refine OWp.part 43 rfl (fun _ => ?_) (fun c => absurd c (by simp))
      refine OWp.evs 3 rfl ?_
      refine OWp.step rfl (Step.call rfl rfl rfl rfl rfl rfl (left (.head _) (Nat.zero_le _) hs ?_))
      refine OWp.evs 5 rfl ?_
      refine OWp.nil ?_
      refine Wp.ret ⟨trivial, _, ⟨_, _, rfl, rfl, rfl⟩, ?_⟩
      simp
      rfl
    · have := of_decide_eq_false c3
      omega
  refine OWp.step rfl (Step.call rfl rfl rfl rfl rfl rfl (order_yes hBL (by omega) hs (Nat.zero_le _) (by omega) ?_))
  intro L1 hBL1 hL1
  have hperm := shuf_perm s n 0 (List.range n) (by simp)
  have hff : (∀ j, j < 4 * (n - 1) → s[j]? = some 255) → shuf s n 0 (List.range n) = List.range n := fun h =>
    shuf_ff n 0 _ (by simp) (by omega) (by omega) fun j _ hj => h j (by omega)
  have hlen : (shuf s n 0 (List.range n)).length = n := by rw [hperm.length_eq]; simp
  have hnd : (shuf s n 0 (List.range n)).Nodup := hperm.nodup_iff.2 List.nodup_range
  have hlt : ∀ i, i < n → (shuf s n 0 (List.range n)).getD i 0 < n := by
    intro i hi
    have := hperm.mem_iff.1 (getD_mem (l := shuf s n 0 (List.range n)) (i := i) (by omega))
    exact List.mem_range.1 this
  generalize shuf s n 0 (List.range n) = l at hperm hff hlen hnd hlt
  rw [Nat.zero_add]
  refine OWp.evs 5 rfl ?_
  refine OWp.nil ?_
  refine Wp.seq (Wp.region ?_)
  refine OWp.evs 5 rfl ?_
  refine OWp.nil ?_
  rw [e3]
  refine Wp.seq ?_
  refine Wp.seq (Wp.region ?_)
  refine OWp.evs 4 rfl ?_
  refine OWp.nil ?_
  refine Wp.cond rfl (fun c3 => ?_) (fun c3 => ?_)
  · have := of_decide_eq_true c3
    omega
  refine Wp.skip ?_
  refine Wp.seq ?_
  refine Wp.seq (Wp.region ?_)
  refine OWp.evs 3 rfl ?_
  refine OWp.part 54 rfl (fun c => absurd c (by simp)) (fun _ => ?_)
  refine OWp.evs 6 rfl ?_
  refine OWp.part 60 rfl (fun c => absurd c (by simp)) (fun _ => ?_)
  refine OWp.evs 3 rfl ?_
  refine OWp.step rfl (Step.call rfl rfl rfl rfl rfl rfl (left (.tail _ (.head _)) (by omega) hs ?_))
  refine OWp.evs 6 rfl ?_
  refine OWp.nil ?_
  have e4 : IntKind.i64.wrap ((s.length : Int) - ((4 * (n - 1) : Nat) : Int)) = ((s.length - 4 * (n - 1) : Nat) : Int) := by unfold lim at hs; rw [i64_id (by omega) (by omega)]; omega
  rw [e4]
  refine Wp.cond rfl (fun c => absurd c (by simp)) (fun _ => ?_)
  refine Wp.skip ?_
  refine Wp.seq (Wp.region ?_)
  refine OWp.step rfl (Step.makeSlice (len := 65) (cap := 65) rfl rfl rfl rfl rfl rfl (by decide) rfl rfl (Nat.le_refl _) (by decide) (by decide) ?_); intro L2 hBL2 hL2
  rw [show zeros (cellsOf (.bool false)) 65 = among65 (l.take 0) from by rw [List.take_zero]; exact among65_nil]
  refine OWp.evs 1 rfl ?_
  refine OWp.nil ?_
  refine Wp.seq (Wp.region ?_)
  refine OWp.evs 1 rfl ?_
  refine OWp.nil ?_
  refine Wp.seq ?_
  refine Wp.seq (Wp.region ?_)
  refine OWp.evs 3 rfl ?_
  refine OWp.nil ?_
  refine Wp.block ?_
  refine Wp.loopS (α := Nat) (fun i => n - i) (fun i => [(74, .int .i64 (i : Int)), (10, .bool (decide (l.take i = List.range i))), (73, .int .i64 (n : Int)), (72, .slice (some ⟨L1, 0, none⟩) n n), (9, .slice (some ⟨L2, 0, none⟩) 65 65), (1, .int .i64 (n : Int)), (0, .string (str s)), (8, .int .i64 ((4 * (n - 1) : Nat) : Int))])
    (fun i => (L2, cel (among65 (l.take i)) 4) :: (L1, cel (ints l) 3) :: tp L s (4 * (n - 1)) :: S) (fun i => i ≤ n) 0 ?_ (.refl _) (Nat.zero_le _) ?_
  · exact .cons rfl (.cons rfl (.cons rfl (.cons rfl (.cons rfl (.cons rfl (.cons rfl (.cons rfl (.nil _))))))))
  intro i hi
  refine Wp.seq (Wp.region ?_)
  refine OWp.evs 1 rfl ?_
  refine OWp.nil ?_
  refine Wp.seq ?_
  refine Wp.cond rfl (fun c9 => ?_) (fun c9 => ?_)
  · have c9 := of_decide_eq_true c9
    have hin : i < n := by omega
    have hli := hlt i hin
    refine Wp.skip ?_
    refine Wp.seq ?_
    refine Wp.block ?_
    refine Wp.seq (Wp.region ?_)
    refine OWp.evs 1 rfl ?_
    refine OWp.g rfl rfl (Gives.indexAddrSlice i rfl rfl rfl rfl rfl rfl hin) ?_
    refine OWp.load (.tail _ (.head _)) rfl rfl rfl rfl (ints_part l i (by omega)) ?_
    have hnot := getD_notMem (l := l) (i := i) hnd (by omega)
    have htk := take_range (l := l) (i := i) hlen hin
    have hset : l.take (i + 1) = l.take i ++ [l.getD i 0] := by
      rw [List.take_add_one]
      simp [hlen, hin]
    generalize l.getD i 0 = y at hli hnot htk hset
    refine OWp.evs 2 rfl ?_
    refine OWp.nil ?_
    refine Wp.seq ?_
    refine Wp.seq (Wp.region ?_)
    refine OWp.evs 3 rfl ?_
    refine OWp.part 81 rfl (fun c => absurd (of_decide_eq_true c) (by omega)) (fun _ => ?_)
    refine OWp.evs 5 rfl ?_
    refine OWp.part 86 rfl (fun c => absurd (of_decide_eq_true c) (by omega)) (fun _ => ?_)
    refine OWp.evs 2 rfl ?_
    refine OWp.g rfl rfl (Gives.indexAddrSlice y rfl rfl rfl rfl rfl rfl (by omega)) ?_
    refine OWp.load (.head _) rfl rfl rfl rfl (among65_part _ (by omega)) ?_
    rw [decide_eq_false hnot]
    refine OWp.evs 1 rfl ?_
    refine OWp.nil ?_
    refine Wp.cond rfl (fun c => nomatch c) (fun _ => ?_)
    refine Wp.skip ?_
    refine Wp.seq (Wp.region ?_)
    refine OWp.evs 2 rfl ?_
    refine OWp.g rfl rfl (Gives.indexAddrSlice y rfl rfl rfl rfl rfl rfl (by omega)) ?_
    refine OWp.step rfl (Step.store 0 rfl rfl rfl rfl rfl hBL2 rfl ?_ (Unfz.zero _) rfl rfl ?_)
    · rw [among65_length]; show 0 + y * 1 + 1 ≤ 65; omega
    rw [among65_set (l.take i) (x := y) (by omega) (by show 0 + y * 1 = y; omega), ← hset]
    refine OWp.nil ?_
    refine Wp.region ?_
    refine OWp.evs 2 rfl ?_
    refine OWp.part 96 rfl (fun c13 => ?_) (fun c13 => ?_)
    · refine OWp.evs 5 rfl ?_
      refine OWp.nil ?_
      refine Wp.region ?_
      refine OWp.evs 2 rfl ?_
      refine OWp.nil ?_
      refine ⟨i + 1, by omega, by omega, ?_, .refl _⟩
      refine .cons' rfl (int_eq (wrap_add1 i (by unfold lim; omega))) (.cons' rfl ?_ (.cons rfl (.cons rfl (.cons rfl (.cons rfl (.cons rfl (.cons rfl (.nil _))))))))
      rw [htk, c13, Bool.true_and]
      simp
      omega
    · refine OWp.evs 5 rfl ?_
      refine OWp.nil ?_
      refine Wp.region ?_
      refine OWp.evs 2 rfl ?_
      refine OWp.nil ?_
      refine ⟨i + 1, by omega, by omega, ?_, .refl _⟩
      refine .cons' rfl (int_eq (wrap_add1 i (by unfold lim; omega))) (.cons' rfl ?_ (.cons rfl (.cons rfl (.cons rfl (.cons rfl (.cons rfl (.cons rfl (.nil _))))))))
      rw [htk, c13, Bool.false_and]
  · have c9 := of_decide_eq_false c9
    obtain rfl : i = n := by omega
    refine Wp.exit ?_
    refine Wp.seq ?_
    refine Wp.seq (Wp.region ?_)
    refine OWp.evs 2 rfl ?_
    refine OWp.nil ?_
    refine Wp.block ?_
    refine Wp.loopS (α := Nat) (fun j => 4 * (i - 1) - j) (fun j => [(103, .int .i64 (j : Int)), (102, .int .i64 ((4 * (i - 1) : Nat) : Int)), (10, .bool (decide (l.take i = List.range i))), (0, .string (str s))])
      (fun _ => (L2, cel (among65 (l.take i)) 4) :: (L1, cel (ints l) 3) :: tp L s (4 * (i - 1)) :: S) (fun j => j ≤ 4 * (i - 1) ∧ ∀ q, q < j → s[q]? = some 255) 0 ?_ (.refl _) ⟨Nat.zero_le _, fun q hq => absurd hq (Nat.not_lt_zero q)⟩ ?_
    · exact .cons rfl (.cons rfl (.cons rfl (.cons rfl (.nil _))))
    rintro j ⟨hj, hall⟩
    refine Wp.seq (Wp.region ?_)
    refine OWp.evs 1 rfl ?_
    refine OWp.nil ?_
    refine Wp.seq ?_
    refine Wp.cond rfl (fun c14 => ?_) (fun c14 => ?_)
    · have c14 := of_decide_eq_true c14
      have hjl : j < s.length := by omega
      refine Wp.skip ?_
      refine Wp.seq ?_
      refine Wp.block ?_
      refine Wp.seq (Wp.region ?_)
      refine OWp.evs 2 rfl ?_
      refine OWp.nil ?_
      refine Wp.seq (Wp.region ?_)
      refine OWp.evs 2 rfl ?_
      refine OWp.g rfl rfl (Gives.indexStr (b := s[j]) rfl rfl rfl rfl (by omega) (by simp [hjl])) ?_
      refine OWp.evs 1 rfl ?_
      refine OWp.nil ?_
      refine Wp.cond rfl (fun c15 => ?_) (fun c15 => ?_)
      · refine Wp.seq (Wp.region ?_)
        refine OWp.evs 1 rfl ?_
        refine OWp.nil ?_
        refine Wp.ret ⟨trivial, _, ⟨_, _, rfl, rfl, rfl⟩, ?_⟩
        rfl
      · refine Wp.skip ?_
        refine Wp.region ?_
        refine OWp.evs 2 rfl ?_
        refine OWp.nil ?_
        have e255 : s[j] = 255 := by
          have h15 : ((s[j].toNat : Nat) : Int) = 255 := of_decide_eq_true (by cases h : decide (((s[j].toNat : Nat) : Int) = 255) with | true => rfl | false => exact absurd c15 (by show ¬ (!decide (((s[j].toNat : Nat) : Int) = 255)) = false; rw [h]; decide))
          exact UInt8.toNat_inj.1 (by show s[j].toNat = 255; omega)
        refine ⟨j + 1, by omega, ⟨by omega, fun q hq => ?_⟩, ?_, .refl _⟩
        · by_cases hqj : q = j
          · subst hqj; simp [hjl, e255]
          · exact hall q (by omega)
        · exact .cons' rfl (int_eq (wrap_add1 j (by unfold lim at hs ⊢; omega))) (.cons rfl (.cons rfl (.cons rfl (.nil _))))
    · have c14 := of_decide_eq_false c14
      refine Wp.exit ?_
      refine Wp.seq (Wp.region ?_)
      refine OWp.evs 2 rfl ?_
      refine OWp.nil ?_
      refine Wp.ret ⟨trivial, _, ⟨_, _, rfl, rfl, rfl⟩, ?_⟩
      have := hff fun q hq => hall q (by omega)
      subst this
      simp
      rfl

theorem tapeOrdersW {t : ByteArray} {x : Int} (h0 : Rd Try.prog S 9 [.string t]) :
    CallWp Try.prog B 6 #[.string t, .int .i64 x] (fun v _ => v = .bool true) S := by
  obtain ⟨s, hs, hl⟩ := rdStr h0
  cases hs
  exact tapeOrdersL hl
end
end Go.Proofs.C
