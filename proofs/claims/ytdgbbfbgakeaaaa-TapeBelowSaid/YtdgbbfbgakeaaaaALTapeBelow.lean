/- What functions of the given program do, one after the other, told by that layer. -/
import Derived.Test.YtdgbbfbgakeaaaaATape5
namespace Go.Proofs.C
open Go.Lg
set_option maxRecDepth 100000

theorem drop4 (a b c d : List UInt8) (ha : a.length = 4) (hb : b.length = 4) (hc : c.length = 4) : (a ++ b ++ c ++ d).drop 4 = b ++ (c ++ d) ∧ (a ++ b ++ c ++ d).drop 8 = c ++ d ∧ (a ++ b ++ c ++ d).drop 12 = d := by
  refine ⟨?_, ?_, ?_⟩
  · rw [List.append_assoc, List.append_assoc, List.drop_append_of_le_length (by omega), List.drop_of_length_le (by omega)]; rfl
  · rw [List.append_assoc, List.drop_append, List.drop_of_length_le (by rw [List.length_append]; omega), List.length_append, ha, hb]; rfl
  · rw [List.drop_append, List.drop_of_length_le (by simp [ha, hb, hc]), List.length_append, List.length_append, ha, hb, hc]; rfl

section
variable {B : Nat} {S : Ents}

/-- The law's four draws. -/
def belowFour (x y N : Nat) : List Nat := [x * N / 4294967296, y * N / 4294967296, 0 * N / 4294967296, 4294967295 * N / 4294967296]

theorem ints_at {v : Value} {es : Ents} {l : List Nat} {i : Nat} (ho : Own B 3 1 v l.length (ints l) es) (hi : i < l.length) : ∃ b cap cur, v = .slice (some ⟨b, 0, none⟩) l.length cap ∧ es = [(b, cel cur 3)] ∧ ∀ j < l.length, Lg.partAt Try.prog 3 cur (0 + j * 1) = some (.int .i64 (l.getD j 0 : Nat)) := by
  obtain ⟨hl, h⟩ := ho
  rcases h with ⟨rfl, h0, rfl⟩ | ⟨b, cap, cur, rfl, rfl, hB, hk, hm, hc, ht⟩
  · omega
  · refine ⟨b, cap, cur, rfl, rfl, fun j hj => ?_⟩
    show cur[0 + j * 1]? = _
    rw [Nat.zero_add, Nat.mul_one]
    have : (cur.take (l.length * 1))[j]? = (ints l)[j]? := by rw [ht]
    rw [List.getElem?_take, if_pos (by omega)] at this
    rw [this]
    simp [ints, hj]

set_option maxHeartbeats 1000000 in
theorem tapeBelowL (a b n : Int) : CallWp Try.prog B 3 #[.int .i64 a, .int .i64 b, .int .i64 n] (fun v _ => v = .bool true) S := by
  obtain ⟨N, hN⟩ : ∃ N : Nat, IntKind.i64.wrap (1 + IntKind.i64.wrap ((IntKind.u64.wrap n).tmod (Int.ofNat (2147483646 + 1)))) = (N : Int) ∧ 1 ≤ N ∧ N ≤ 2147483647 := by
    have h1 : 0 ≤ IntKind.u64.wrap n := by rw [IntKind.wrap_u64]; omega
    have h2 : (IntKind.u64.wrap n).tmod (Int.ofNat (2147483646 + 1)) = IntKind.u64.wrap n % 2147483647 := Int.tmod_eq_emod_of_nonneg h1
    rw [h2]
    refine ⟨(1 + IntKind.u64.wrap n % 2147483647).toNat, ?_, by omega, by omega⟩
    rw [i64_id (x := IntKind.u64.wrap n % 2147483647) (by omega) (by omega), i64_id (by omega) (by omega)]
    omega
  obtain ⟨hN, hN1, hN2⟩ := hN
  obtain ⟨x0, hx0, hx1⟩ : ∃ x : Nat, IntKind.u32.wrap a = (x : Int) ∧ x < 4294967296 := ⟨(IntKind.u32.wrap a).toNat, by rw [IntKind.wrap_u32]; omega, by rw [IntKind.wrap_u32]; omega⟩
  obtain ⟨y0, hy0, hy1⟩ : ∃ x : Nat, IntKind.u32.wrap b = (x : Int) ∧ x < 4294967296 := ⟨(IntKind.u32.wrap b).toNat, by rw [IntKind.wrap_u32]; omega, by rw [IntKind.wrap_u32]; omega⟩
  refine CallWp.enter (args := [_, _, _]) Try.func3 rfl Try.ntmps3 rfl ?_
  refine Wp.seq (Wp.region ?_)
  refine OWp.evs 1 rfl ?_
  refine OWp.nil ?_
  refine Wp.seq ?_
  refine Wp.seq (Wp.region ?_)
  refine OWp.step rfl (Step.call rfl rfl rfl rfl rfl rfl (works ?_))
  refine OWp.evs 1 rfl ?_
  refine OWp.nil ?_
  refine Wp.cond rfl (fun c => nomatch c) (fun _ => ?_)
  refine Wp.skip ?_
  refine Wp.seq (Wp.region ?_)
  refine OWp.evs 6 rfl ?_
  refine OWp.nil ?_
  rw [hN]
  refine Wp.seq (Wp.region ?_)
  refine OWp.evs 6 rfl ?_
  refine OWp.nil ?_
  rw [hx0, hy0]
  refine Wp.seqS (α := Nat × Nat) (fun x => [(7, .int .u32 (x.1 : Int)), (8, .int .u32 (x.2 : Int)), (2, .int .i64 (N : Int))]) (fun _ => S) (fun x => x.1 ≤ x.2 ∧ x.2 < 4294967296) ?_ ?_
  · refine Wp.seq (Wp.region ?_)
    refine OWp.evs 3 rfl ?_
    refine OWp.nil ?_
    refine Wp.cond rfl (fun c2 => ?_) (fun c2 => ?_)
    · refine Wp.region ?_
      refine OWp.evs 4 rfl ?_
      refine OWp.nil ?_
      have := of_decide_eq_true c2
      exact ⟨(y0, x0), ⟨by simp only; omega, by simp only; omega⟩, .cons rfl (.cons rfl (.cons rfl (.nil _))), .refl _⟩
    · refine Wp.skip ?_
      have := of_decide_eq_false c2
      exact ⟨(x0, y0), ⟨by simp only; omega, by simp only; omega⟩, .cons rfl (.cons rfl (.cons rfl (.nil _))), .refl _⟩
  rintro ⟨x, y⟩ ⟨hxy, hy⟩
  simp only at hxy hy ⊢
  refine Wp.seq (Wp.region ?_)
  refine OWp.evs 1 rfl ?_
  refine OWp.step rfl (Step.call rfl rfl rfl rfl rfl rfl (lword ?_))
  refine OWp.evs 1 rfl ?_
  refine OWp.step rfl (Step.call rfl rfl rfl rfl rfl rfl (lword ?_))
  refine OWp.g rfl rfl (Gives.addStr rfl rfl rfl (Nat.le_of_ble_eq_true rfl)) ?_
  refine OWp.step rfl (Step.call rfl rfl rfl rfl rfl rfl (lword (x := 0) ?_))
  refine OWp.g rfl rfl (Gives.addStr rfl rfl rfl (Nat.le_of_ble_eq_true rfl)) ?_
  refine OWp.step rfl (Step.call rfl rfl rfl rfl rfl rfl (lword (x := 4294967295) ?_))
  refine OWp.g rfl rfl (Gives.addStr rfl rfl rfl (Nat.le_of_ble_eq_true rfl)) ?_
  refine OWp.step rfl (Step.call rfl rfl rfl rfl rfl rfl (tapeNew ?_))
  intro L hBL hL
  have hlen : (b4 x ++ b4 y ++ b4 0 ++ b4 4294967295).length = 16 := rfl
  obtain ⟨d4, d8, d12⟩ := drop4 (b4 x) (b4 y) (b4 0) (b4 4294967295) rfl rfl rfl
  have hw : ∀ i, i < 4 → belowR (b4 x ++ b4 y ++ b4 0 ++ b4 4294967295) (4 * i) (N : Int) = ((belowFour x y N).getD i 0, 0, 4 * (i + 1)) := by
    intro i hi
    unfold belowR
    rw [if_neg (by omega), if_pos (by rw [hlen]; omega)]
    have h0 : word (b4 x ++ b4 y ++ b4 0 ++ b4 4294967295) 0 = x := by
      rw [word, List.drop_zero, List.append_assoc, List.append_assoc, be4_b4 x _ (by omega)]
    have h1 : word (b4 x ++ b4 y ++ b4 0 ++ b4 4294967295) 4 = y := by rw [word, d4, be4_b4 y _ (by omega)]
    have h2 : word (b4 x ++ b4 y ++ b4 0 ++ b4 4294967295) 8 = 0 := by rw [word, d8, be4_b4 0 _ (by omega)]
    have h3 : word (b4 x ++ b4 y ++ b4 0 ++ b4 4294967295) 12 = 4294967295 := by
      rw [word, d12]; exact List.append_nil (b4 4294967295) ▸ be4_b4 4294967295 [] (by omega)
    rcases i with _ | _ | _ | _ | i
    · show (word _ 0 * N / 4294967296, 0, 4) = _; rw [h0]; rfl
    · show (word _ 4 * N / 4294967296, 0, 8) = _; rw [h1]; rfl
    · show (word _ 8 * N / 4294967296, 0, 12) = _; rw [h2]; rfl
    · show (word _ 12 * N / 4294967296, 0, 16) = _; rw [h3]; rfl
    · omega
  generalize htxt : b4 x ++ b4 y ++ b4 0 ++ b4 4294967295 = txt at hw hlen
  have hN3 : ∀ i < 4, (belowFour x y N).getD i 0 < N := by
    intro i hi
    have key : ∀ z : Nat, z < 4294967296 → z * N / 4294967296 < N := fun z hz => Nat.div_lt_of_lt_mul (Nat.mul_lt_mul_of_pos_right hz (by omega))
    rcases i with _ | _ | _ | _ | i
    · exact key x (by omega)
    · exact key y (by omega)
    · exact key 0 (by omega)
    · exact key 4294967295 (by omega)
    · omega
  refine OWp.evs 1 rfl ?_
  refine OWp.nil ?_
  refine Wp.seq ?_
  refine Wp.seq (Wp.region ?_)
  refine OWp.evs 2 rfl ?_
  refine OWp.nil ?_
  refine Wp.cond rfl (fun c => nomatch c) (fun _ => ?_)
  refine Wp.skip ?_
  refine Wp.seq (Wp.region ?_)
  refine OWp.evs 1 rfl ?_
  refine OWp.nil ?_
  refine Wp.seq ?_
  refine Wp.seq (Wp.region ?_)
  refine OWp.evs 1 rfl ?_
  refine OWp.nil ?_
  refine Wp.block ?_
  refine Wp.loopS (α := Nat × Value × Ents) (fun x => 4 - x.1) (fun x => [(41, .int .i64 (x.1 : Int)), (9, pt L), (2, .int .i64 (N : Int)), (10, x.2.1)]) (fun z => tp L txt (4 * z.1) :: (z.2.2 ++ S))
    (fun z => z.1 ≤ 4 ∧ Own B 3 1 z.2.1 z.1 (ints ((belowFour x y N).take z.1)) z.2.2) (0, .slice none 0 0, []) ?_ (.refl _) ⟨by simp, Own.nil B 3 1⟩ ?_
  · exact .cons rfl (.cons rfl (.cons rfl (.cons rfl (.nil _))))
  rintro ⟨i, v, es⟩ ⟨hi, hown⟩
  simp only at hi hown ⊢
  refine Wp.seq (Wp.region ?_)
  refine OWp.evs 1 rfl ?_
  refine OWp.nil ?_
  refine Wp.seq ?_
  refine Wp.cond rfl (fun c4 => ?_) (fun c4 => ?_)
  · have c4 := of_decide_eq_true c4
    refine Wp.skip ?_
    refine Wp.seq ?_
    refine Wp.block ?_
    refine Wp.seq (Wp.region ?_)
    refine OWp.evs 2 rfl ?_
    refine OWp.step rfl (Step.call rfl rfl rfl rfl rfl rfl (belowC hBL (by rw [hlen]; decide) (by rw [hlen]; omega) ?_))
    rw [hw i (by omega)]
    have h3 := hN3 i (by omega)
    generalize hg : (belowFour x y N).getD i 0 = g at h3
    refine OWp.evs 5 rfl ?_
    refine OWp.nil ?_
    refine Wp.seq ?_
    refine Wp.seq (Wp.region ?_)
    refine OWp.evs 3 rfl ?_
    refine OWp.part 51 rfl (fun c => absurd c (by simp)) (fun _ => ?_)
    refine OWp.evs 4 rfl ?_
    refine OWp.part 55 rfl (fun c => absurd (of_decide_eq_true c) (by omega)) (fun _ => ?_)
    refine OWp.evs 4 rfl ?_
    refine OWp.nil ?_
    refine Wp.cond rfl (fun c => absurd (of_decide_eq_true c) (by omega)) (fun _ => ?_)
    refine Wp.skip ?_
    refine Wp.region ?_
    refine OWp.evs 2 rfl ?_
    refine OWp.step rfl (Step.buildSlice rfl rfl rfl ?_); intro L2 hB2 hL2
    refine OWp.step rfl (Step.appendAt [(L2, cel [.int .i64 (g : Int)] 3), tp L txt (4 * (i + 1))] rfl rfl rfl rfl rfl rfl (by decide) rfl rfl hown (Reads.row (k := 1) (sz := 1) (.head _) (Nat.le_refl 1)) rfl ?_ ?_ ?_)
    · show (i + 1) * 8 ≤ _; omega
    · unfold maxLen; omega
    intro v3 es3 ho3 hn3
    refine OWp.dropAt 0 rfl ?_
    refine OWp.evs 1 rfl ?_
    refine OWp.nil ?_
    refine Wp.region ?_
    refine OWp.evs 2 rfl ?_
    refine OWp.nil ?_
    refine ⟨(i + 1, v3, es3), by simp only; omega, ⟨by simp only; omega, ?_⟩, ?_, .refl _⟩
    · have e : (belowFour x y N).take (i + 1) = (belowFour x y N).take i ++ [g] := by
        rw [List.take_add_one, ← hg]
        have : i < (belowFour x y N).length := by show i < 4; omega
        simp [this]
      have : ints ((belowFour x y N).take (i + 1)) = ints ((belowFour x y N).take i) ++ [.int .i64 (g : Int)] := by rw [e]; simp [ints]
      exact this ▸ ho3
    · exact .cons' rfl (int_eq (wrap_add1 i (by unfold lim; omega))) (.cons rfl (.cons rfl (.cons rfl (.nil _))))
  · have c4 := of_decide_eq_false c4
    obtain rfl : i = 4 := by omega
    obtain ⟨bb, cap, cur, rfl, rfl, hat⟩ := ints_at (l := belowFour x y N) (i := 0) hown (show 0 < 4 by decide)
    refine Wp.exit ?_
    refine Wp.seq (Wp.regionDraw [0, 1, 2, 3, 4, 5, 6, 7, 8, 9, 10, 11, 12, 13, 14, 15, 16, 17, 18, 19, 20, 21, 22, 23, 24, 25, 26, 27, 28] [25] rfl (by decide +kernel) ?_)
    refine DWp.evs 1 rfl ?_
    refine DWp.g rfl rfl rfl rfl (Gives.indexAddrSlice 0 rfl rfl rfl rfl rfl rfl (show 0 < 4 by decide)) ?_
    refine DWp.load (.tail _ (.head _)) rfl rfl rfl rfl rfl rfl (hat 0 (show 0 < 4 by decide)) ?_
    refine DWp.evs 1 rfl ?_
    refine DWp.g rfl rfl rfl rfl (Gives.indexAddrSlice 1 rfl rfl rfl rfl rfl rfl (show 1 < 4 by decide)) ?_
    refine DWp.load (.tail _ (.head _)) rfl rfl rfl rfl rfl rfl (hat 1 (show 1 < 4 by decide)) ?_
    refine DWp.evs 2 rfl ?_
    refine DWp.part 72 rfl (fun _ => ?_) (fun c => absurd (of_decide_eq_false c) ?_)
    · refine DWp.evs 1 rfl ?_
      refine DWp.g rfl rfl rfl rfl (Gives.indexAddrSlice 2 rfl rfl rfl rfl rfl rfl (show 2 < 4 by decide)) ?_
      refine DWp.load (.tail _ (.head _)) rfl rfl rfl rfl rfl rfl (hat 2 (show 2 < 4 by decide)) ?_
      refine DWp.evs 3 rfl ?_
      refine DWp.part 78 rfl (fun _ => ?_) (fun c => absurd (of_decide_eq_false c) ?_)
      · refine DWp.evs 1 rfl ?_
        refine DWp.g rfl rfl rfl rfl (Gives.indexAddrSlice 3 rfl rfl rfl rfl rfl rfl (show 3 < 4 by decide)) ?_
        refine DWp.load (.tail _ (.head _)) rfl rfl rfl rfl rfl rfl (hat 3 (show 3 < 4 by decide)) ?_
        refine DWp.evs 5 rfl ?_
        refine DWp.part 86 rfl (fun _ => ?_) (fun c => absurd (of_decide_eq_false c) ?_)
        · refine DWp.evs 3 rfl ?_
          refine DWp.stepAll rfl rfl rfl rfl (Step.call rfl rfl rfl rfl rfl rfl (left (.head _) (by rw [hlen]; decide) (by rw [hlen]; decide) ?_))
          rw [hlen]
          refine DWp.evs 3 rfl ?_
          refine DWp.nil ?_
          refine Wp.ret ⟨trivial, _, ⟨_, _, rfl, rfl, rfl⟩, ?_⟩
          rfl
        · rw [i64_id (by omega) (by omega)]
          show ¬ ¬ ((4294967295 * N / 4294967296 : Nat) : Int) = (N : Int) - 1
          omega
      · show ¬ ¬ ((0 * N / 4294967296 : Nat) : Int) = 0
        simp
    · show ¬ ¬ ((x * N / 4294967296 : Nat) : Int) ≤ ((y * N / 4294967296 : Nat) : Int)
      have := Nat.div_le_div_right (c := 4294967296) (Nat.mul_le_mul_right N hxy)
      omega
end
end Go.Proofs.C
