/- What functions of the given program do, one after the other, told by that layer. -/
import Derived.Test.YtdgbbfbgakeaaaaATape3
namespace Go.Proofs.C
open Go.Lg
set_option maxRecDepth 100000

def ints (l : List Nat) : List Value := l.map fun (x : Nat) => .int .i64 (x : Int)
theorem ints_length (l : List Nat) : (ints l).length = l.length := by simp [ints]
theorem ints_set (l : List Nat) (i x : Nat) (h : i < l.length) : wr (ints l) i [.int .i64 (x : Int)] = ints (l.set i x) := by
  unfold wr ints
  rw [List.set_eq_take_append_cons_drop, if_pos h]
  simp [List.map_take, List.map_drop]
theorem ints_set' (l : List Nat) (o i x : Nat) (h : i < l.length) (ho : o = i) : wr (ints l) o (Value.int .i64 (x : Int)).cells.toList = ints (l.set i x) := by
  subst ho; exact ints_set l o x h
theorem ints_part (l : List Nat) (i : Nat) (h : i < l.length) : Lg.partAt Try.prog 3 (ints l) (0 + i * 1) = some (.int .i64 (l.getD i 0 : Nat)) := by
  show (ints l)[0 + i * 1]? = _
  rw [Nat.zero_add, Nat.mul_one]
  simp [ints, h]
theorem ints_one (l : List Nat) : (ints l).all (·.oneCell') = true := by
  rw [List.all_eq_true]; intro x hx; simp [ints] at hx; obtain ⟨_, _, rfl⟩ := hx; rfl
theorem zeros_ints (n : Nat) : zeros [.int .i64 0] n = ints (List.replicate n 0) := by
  induction n with
  | zero => rfl
  | succ n ih => simp [zeros, ih, ints, List.replicate_succ]

theorem wrap_sub1 (n : Nat) (h : n ≤ lim) : IntKind.i64.wrap ((n : Int) - 1) = (n : Int) - 1 := by unfold lim at h; rw [i64_id] <;> omega
theorem wrap_add1 (n : Nat) (h : n ≤ lim) : IntKind.i64.wrap ((n : Int) + 1) = ((n + 1 : Nat) : Int) := by unfold lim at h; rw [i64_id] <;> omega

def swp (l : List Nat) (i j : Nat) : List Nat := (l.set i (l.getD j 0)).set j (l.getD i 0)
theorem swp_length (l : List Nat) (i j : Nat) : (swp l i j).length = l.length := by simp [swp]

/-- The order that is drawn. -/
def shuf (s : List UInt8) : Nat → Nat → List Nat → List Nat
  | i + 2, k, l => shuf s (i + 1) (k + 4) (swp l (i + 1) (word s k * (i + 2) / 4294967296))
  | _, _, l => l

theorem range_step (i n : Nat) (h : i < n) : (List.range i ++ List.replicate (n - i) 0).set i i = List.range (i + 1) ++ List.replicate (n - (i + 1)) 0 := by
  obtain ⟨m, rfl⟩ : ∃ m, n = i + (m + 1) := ⟨n - i - 1, by omega⟩
  rw [List.set_append_right _ _ (by simp)]
  simp only [List.length_range, Nat.sub_self, Nat.add_sub_cancel_left, List.replicate_succ, List.set_cons_zero, List.range_succ, List.append_assoc]
  rw [show i + (m + 1) - (i + 1) = m by omega]
  rfl

section
variable {B : Nat} {S R : Ents} {Q : Value → Ents → Prop} {s : List UInt8} {k p : Nat}

theorem order_range {n : Int} (hn : n < 0 ∨ 64 < n) (h : Q (.tuple #[.slice none 0 0, .int .i64 1]) (tp p s k :: R)) :
    CallWp Try.prog B 32 #[pt p, .int .i64 n] Q (tp p s k :: R) := by
  refine CallWp.enter (args := [_, _]) Try.func32 rfl Try.ntmps32 rfl ?_
  refine Wp.seq (Wp.region ?_)
  refine OWp.evs 2 rfl ?_
  refine OWp.nil ?_
  refine Wp.seq ?_
  refine Wp.block ?_
  refine Wp.seq (Wp.region ?_)
  refine OWp.evs 3 rfl ?_
  refine OWp.part 14 rfl (fun c1 => ?_) (fun c1 => ?_)
  · refine OWp.evs 4 rfl ?_
    refine OWp.nil ?_
    refine Wp.cond rfl (fun _ => ?_) (fun c => nomatch c)
    refine Wp.seq (Wp.region ?_)
    refine OWp.evs 2 rfl ?_
    refine OWp.nil ?_
    refine Wp.ret ⟨trivial, _, ⟨_, _, rfl, rfl, _, _, rfl, rfl, rfl⟩, ?_⟩
    exact h
  · refine OWp.evs 4 rfl ?_
    refine OWp.nil ?_
    refine Wp.cond rfl (fun c2 => ?_) (fun c2 => ?_)
    · refine Wp.seq (Wp.region ?_)
      refine OWp.evs 2 rfl ?_
      refine OWp.nil ?_
      refine Wp.ret ⟨trivial, _, ⟨_, _, rfl, rfl, _, _, rfl, rfl, rfl⟩, ?_⟩
      exact h
    · have := of_decide_eq_false c1
      have := of_decide_eq_false c2
      omega

theorem order_tape {n : Nat} (hn : n ≤ 64) (hs : s.length ≤ lim) (hk : k ≤ s.length) (ht : s.length - k < 4 * (n - 1)) (h : Q (.tuple #[.slice none 0 0, .int .i64 120]) (tp p s k :: R)) :
    CallWp Try.prog B 32 #[pt p, .int .i64 (n : Int)] Q (tp p s k :: R) := by
  have e1 : IntKind.i64.wrap (4 * (IntKind.i64.wrap ((n : Int) - 1))) = 4 * ((n : Int) - 1) := by
    rw [wrap_sub1 n (by unfold lim; omega), i64_id] <;> omega
  refine CallWp.enter (args := [_, _]) Try.func32 rfl Try.ntmps32 rfl ?_
  refine Wp.seq (Wp.region ?_)
  refine OWp.evs 2 rfl ?_
  refine OWp.nil ?_
  refine Wp.seq ?_
  refine Wp.block ?_
  refine Wp.seq (Wp.region ?_)
  refine OWp.evs 3 rfl ?_
  refine OWp.part 14 rfl (fun c1 => ?_) (fun c1 => ?_)
  · exact absurd (of_decide_eq_true c1) (by omega)
  · refine OWp.evs 4 rfl ?_
    refine OWp.nil ?_
    refine Wp.cond rfl (fun c2 => ?_) (fun c2 => ?_)
    · exact absurd (of_decide_eq_true c2) (by omega)
    · refine Wp.seq (Wp.region ?_)
      refine OWp.evs 6 rfl ?_
      refine OWp.step rfl (Step.call rfl rfl rfl rfl rfl rfl (left (.head _) hk hs ?_))
      refine OWp.evs 2 rfl ?_
      refine OWp.nil ?_
      refine Wp.cond rfl (fun c3 => ?_) (fun c3 => ?_)
      · refine Wp.seq (Wp.region ?_)
        refine OWp.evs 2 rfl ?_
        refine OWp.nil ?_
        refine Wp.ret ⟨trivial, _, ⟨_, _, rfl, rfl, _, _, rfl, rfl, rfl⟩, ?_⟩
        exact h
      · have c3 := of_decide_eq_false c3
        rw [e1] at c3
        omega

theorem order_yes {n : Nat} (hB : B ≤ p) (hn : n ≤ 64) (hs : s.length ≤ lim) (hk : k ≤ s.length) (ht : 4 * (n - 1) ≤ s.length - k)
    (h : ∀ L, B ≤ L → (∀ x ∈ (tp p s k :: R), x.1 < L) → Q (.tuple #[.slice (some ⟨L, 0, none⟩) n n, .int .i64 0]) ((L, cel (ints (shuf s n k (List.range n))) 3) :: tp p s (k + 4 * (n - 1)) :: R)) :
    CallWp Try.prog B 32 #[pt p, .int .i64 (n : Int)] Q (tp p s k :: R) := by
  have e1 : IntKind.i64.wrap (4 * (IntKind.i64.wrap ((n : Int) - 1))) = 4 * ((n : Int) - 1) := by
    rw [wrap_sub1 n (by unfold lim; omega), i64_id] <;> omega
  refine CallWp.enter (args := [_, _]) Try.func32 rfl Try.ntmps32 rfl ?_
  refine Wp.seq (Wp.region ?_)
  refine OWp.evs 2 rfl ?_
  refine OWp.nil ?_
  refine Wp.seq ?_
  refine Wp.block ?_
  refine Wp.seq (Wp.region ?_)
  refine OWp.evs 3 rfl ?_
  refine OWp.part 14 rfl (fun c1 => ?_) (fun c1 => ?_)
  · exact absurd (of_decide_eq_true c1) (by omega)
  refine OWp.evs 4 rfl ?_
  refine OWp.nil ?_
  refine Wp.cond rfl (fun c2 => ?_) (fun c2 => ?_)
  · exact absurd (of_decide_eq_true c2) (by omega)
  refine Wp.seq (Wp.region ?_)
  refine OWp.evs 6 rfl ?_
  refine OWp.step rfl (Step.call rfl rfl rfl rfl rfl rfl (left (.head _) hk hs ?_))
  refine OWp.evs 2 rfl ?_
  refine OWp.nil ?_
  refine Wp.cond rfl (fun c3 => ?_) (fun c3 => ?_)
  · have c3 := of_decide_eq_true c3
    rw [e1] at c3
    omega
  refine Wp.skip ?_
  refine Wp.seq (Wp.region ?_)
  refine OWp.evs 1 rfl ?_
  refine OWp.step rfl (Step.makeSlice (len := n) (cap := n) rfl rfl rfl rfl rfl rfl (by decide) rfl rfl (Nat.le_refl n) ?_ (by omega) ?_)
  · show 8 * n ≤ _; omega
  intro L hBL hL
  rw [show zeros (cellsOf (.int .i64 0)) n = ints (List.range 0 ++ List.replicate (n - 0) 0) from zeros_ints n]
  refine OWp.evs 1 rfl ?_
  refine OWp.nil ?_
  refine Wp.seq ?_
  refine Wp.seq (Wp.region ?_)
  refine OWp.evs 3 rfl ?_
  refine OWp.nil ?_
  refine Wp.block ?_
  refine Wp.loopS (α := Nat) (fun i => n - i) (fun i => [(31, .int .i64 (i : Int)), (30, .int .i64 (n : Int)), (6, .slice (some ⟨L, 0, none⟩) n n), (0, pt p), (1, .int .i64 (n : Int))])
    (fun i => (L, cel (ints (List.range i ++ List.replicate (n - i) 0)) 3) :: tp p s k :: R) (fun i => i ≤ n) 0 ?_ (.refl _) (Nat.zero_le n) ?_
  · exact .cons rfl (.cons rfl (.cons rfl (.cons rfl (.cons rfl (.nil _)))))
  · intro i hi
    have hlen : (List.range i ++ List.replicate (n - i) 0).length = n := by simp; omega
    refine Wp.seq (Wp.region ?_)
    refine OWp.evs 1 rfl ?_
    refine OWp.nil ?_
    refine Wp.seq ?_
    refine Wp.cond rfl (fun c4 => ?_) (fun c4 => ?_)
    · have c4 := of_decide_eq_true c4
      refine Wp.skip ?_
      refine Wp.seq ?_
      refine Wp.block ?_
      refine Wp.seq (Wp.region ?_)
      refine OWp.evs 2 rfl ?_
      refine OWp.nil ?_
      refine Wp.region ?_
      refine OWp.evs 3 rfl ?_
      refine OWp.g rfl rfl (Gives.indexAddrSlice i rfl rfl rfl rfl rfl rfl (by omega)) ?_
      refine OWp.step rfl (Step.store 0 rfl rfl rfl rfl rfl hBL rfl ?_ (Unfz.zero _) rfl rfl ?_)
      · rw [ints_length, hlen]; show 0 + i * 1 + 1 ≤ n; omega
      rw [ints_set' _ _ i i (by rw [hlen]; omega) (by show 0 + i * 1 = i; omega), range_step i n (by omega)]
      refine OWp.nil ?_
      refine Wp.region ?_
      refine OWp.evs 2 rfl ?_
      refine OWp.nil ?_
      refine ⟨i + 1, by omega, by omega, ?_, .refl _⟩
      exact .cons' rfl (int_eq (wrap_add1 i (by unfold lim; omega))) (.cons rfl (.cons rfl (.cons rfl (.cons rfl (.nil _)))))
    · have c4 := of_decide_eq_false c4
      obtain rfl : i = n := by omega
      refine Wp.exit ?_
      rw [Nat.sub_self, List.replicate_zero, List.append_nil]
      refine Wp.seq ?_
      refine Wp.seq (Wp.region ?_)
      refine OWp.evs 3 rfl ?_
      refine OWp.nil ?_
      refine Wp.block ?_
      refine Wp.loopS (α := Nat × Nat × List Nat) (fun x => x.1) (fun x => [(8, .int .i64 ((x.1 : Int) - 1)), (6, .slice (some ⟨L, 0, none⟩) i i), (0, pt p)])
        (fun x => (L, cel (ints x.2.2) 3) :: tp p s x.2.1 :: R) (fun x => x.1 ≤ i ∧ x.2.2.length = i ∧ x.2.1 + 4 * (x.1 - 1) = k + 4 * (i - 1) ∧ shuf s x.1 x.2.1 x.2.2 = shuf s i k (List.range i)) (i, k, List.range i) ?_ (.refl _) ⟨Nat.le_refl i, List.length_range, rfl, rfl⟩ ?_
      · exact .cons' rfl (int_eq (wrap_sub1 i (by unfold lim; omega))) (.cons rfl (.cons rfl (.nil _)))
      rintro ⟨q, kk, l⟩ ⟨hq, hl, hkk, hsh⟩
      simp only at hq hl hkk hsh ⊢
      refine Wp.seq ?_
      refine Wp.seq (Wp.region ?_)
      refine OWp.evs 2 rfl ?_
      refine OWp.nil ?_
      refine Wp.cond rfl (fun c5 => ?_) (fun c5 => ?_)
      · have c5 := of_decide_eq_true c5
        obtain ⟨m, rfl⟩ : ∃ m, q = m + 2 := ⟨q - 2, by omega⟩
        have e2 : ((m + 2 : Nat) : Int) - 1 = ((m + 1 : Nat) : Int) := by omega
        rw [e2]
        refine Wp.skip ?_
        refine Wp.seq ?_
        refine Wp.block ?_
        refine Wp.seq (Wp.region ?_)
        refine OWp.evs 3 rfl ?_
        rw [wrap_add1 (m + 1) (by unfold lim; omega)]
        refine OWp.step rfl (Step.call rfl rfl rfl rfl rfl rfl (CallWp.focus 1 rfl (belowC hB hs (by omega) ?_)))
        have hb : belowR s kk ((m + 1 + 1 : Nat) : Int) = (word s kk * (m + 2) / 4294967296, 0, kk + 4) := by
          unfold belowR
          rw [if_neg (by omega), if_pos (by omega)]
          rfl
        rw [hb]
        have hj : word s kk * (m + 2) / 4294967296 < m + 2 := by
          have := be4_lt (s.drop kk)
          have h1 : word s kk * (m + 2) < 4294967296 * (m + 2) := Nat.mul_lt_mul_of_pos_right this (by omega)
          exact Nat.div_lt_of_lt_mul h1
        rw [shuf] at hsh
        generalize word s kk * (m + 2) / 4294967296 = j at hj hsh
        refine OWp.evs 5 rfl ?_
        refine OWp.nil ?_
        refine Wp.regionDraw [0, 1, 2, 3, 4, 5, 6, 7, 8, 9, 10, 11, 12, 13, 14, 15] [13, 15] rfl (by decide +kernel) ?_
        refine DWp.evs 6 rfl ?_
        refine DWp.g rfl rfl rfl rfl (Gives.indexAddrSlice j rfl rfl rfl rfl rfl rfl (by omega)) ?_
        refine DWp.load (.tail _ (.head _)) rfl rfl rfl rfl rfl rfl (ints_part l j (by omega)) ?_
        refine DWp.evs 2 rfl ?_
        refine DWp.g rfl rfl rfl rfl (Gives.indexAddrSlice (m + 1) rfl rfl rfl rfl rfl rfl (by omega)) ?_
        refine DWp.load (.tail _ (.head _)) rfl rfl rfl rfl rfl rfl (ints_part l (m + 1) (by omega)) ?_
        refine DWp.g rfl rfl rfl rfl (Gives.indexAddrSlice (m + 1) rfl rfl rfl rfl rfl rfl (by omega)) ?_
        refine DWp.stepAll rfl rfl rfl rfl (Step.store 1 rfl rfl rfl rfl rfl hBL rfl ?_ (Unfz.zero _) rfl rfl ?_)
        · rw [ints_length, hl]; show 0 + (m + 1) * 1 + 1 ≤ i; omega
        rw [ints_set' l _ (m + 1) _ (by omega) (by show 0 + (m + 1) * 1 = m + 1; omega)]
        refine DWp.g rfl rfl rfl rfl (Gives.indexAddrSlice j rfl rfl rfl rfl rfl rfl (by omega)) ?_
        refine DWp.stepAll rfl rfl rfl rfl (Step.store 1 rfl rfl rfl rfl rfl hBL rfl ?_ (Unfz.zero _) rfl rfl ?_)
        · rw [ints_length, List.length_set, hl]; show 0 + j * 1 + 1 ≤ i; omega
        rw [ints_set' (l.set (m + 1) (l.getD j 0)) _ j _ (by rw [List.length_set]; omega) (by show 0 + j * 1 = j; omega)]
        refine DWp.nil ?_
        refine Wp.region ?_
        refine OWp.evs 3 rfl ?_
        refine OWp.nil ?_
        refine ⟨(m + 1, kk + 4, swp l (m + 1) j), by simp, ⟨by simp only; omega, by rw [swp_length]; exact hl, by simp only; omega, hsh⟩, ?_, .swap _ _ _⟩
        · exact .cons' rfl (int_eq (wrap_sub1 (m + 1) (by unfold lim; omega))) (.cons rfl (.cons rfl (.nil _)))
      · have c5 := of_decide_eq_false c5
        refine Wp.exit ?_
        refine Wp.seq (Wp.region ?_)
        refine OWp.evs 3 rfl ?_
        refine OWp.nil ?_
        refine Wp.ret ⟨trivial, _, ⟨_, _, rfl, rfl, _, _, rfl, rfl, rfl⟩, ?_⟩
        have hfin : shuf s q kk l = l := by
          match q, c5 with
          | 0, _ => rfl
          | 1, _ => rfl
          | q + 2, c5 => omega
        have := h L hBL hL
        rw [← hsh, hfin, ← hkk, show kk + 4 * (q - 1) = kk by omega] at this
        exact this
end
end Go.Proofs.C
