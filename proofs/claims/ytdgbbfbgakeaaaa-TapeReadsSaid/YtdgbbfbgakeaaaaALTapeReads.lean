/- What functions of the given program do, one after the other, told by that layer. -/
import Derived.Test.YtdgbbfbgakeaaaaATape6
import Derived.Test.YtdgbbfbgakeaaaaARd
namespace Go.Proofs.C
open Go.Lg
set_option maxRecDepth 100000

section
variable {B : Nat} {S : Ents}

set_option maxHeartbeats 1000000 in
theorem tapeReadsL {s : List UInt8} {a : Option Addr} {len cap : Nat} {zs : List Int} (hs : s.length ≤ lim)
    (hr : Reads S 1 (.slice a len cap) zs.length (zs.flatMap fun z => [.int .i64 z])) :
    CallWp Try.prog B 4 #[.string (str s), .slice a len cap] (fun v _ => v = .bool true) S := by
  obtain rfl := hr.len
  refine CallWp.enter (args := [_, _]) Try.func4 rfl Try.ntmps4 rfl ?_
  refine Wp.seq (Wp.region ?_)
  refine OWp.evs 1 rfl ?_
  refine OWp.nil ?_
  refine Wp.seq (Wp.region ?_)
  refine OWp.evs 1 rfl ?_
  refine OWp.step rfl (Step.call rfl rfl rfl rfl rfl rfl (tapeNew ?_))
  intro L hBL hL
  refine OWp.evs 1 rfl ?_
  refine OWp.nil ?_
  refine Wp.seq ?_
  refine Wp.seq (Wp.region ?_)
  refine OWp.evs 3 rfl ?_
  refine OWp.part 15 rfl (fun c => nomatch c) (fun _ => ?_)
  refine OWp.step rfl (Step.call rfl rfl rfl rfl rfl rfl (works ?_))
  refine OWp.evs 2 rfl ?_
  refine OWp.nil ?_
  refine Wp.cond rfl (fun c => nomatch c) (fun _ => ?_)
  refine Wp.skip ?_
  refine Wp.seq (Wp.region ?_)
  refine OWp.evs 1 rfl ?_
  refine OWp.nil ?_
  refine Wp.seq ?_
  refine Wp.seq (Wp.region ?_)
  refine OWp.evs 1 rfl ?_
  refine OWp.nil ?_
  have fin : ∀ {E : Env} {k : Nat}, k ≤ s.length → True := fun _ => trivial
  refine Wp.block ?_
  refine Wp.loopS (α := Nat × Nat) (fun x => 60 - x.1) (fun x => [(7, .int .i64 (x.1 : Int)), (6, .int .i64 (x.2 : Int)), (5, pt L), (0, .string (str s)), (1, .slice a zs.length cap)]) (fun x => tp L s x.2 :: S)
    (fun x => x.1 ≤ zs.length ∧ x.1 ≤ 60 ∧ x.2 ≤ s.length) (0, 0) ?_ (.refl _) ⟨by simp, by simp, by simp⟩ ?_
  · exact .cons rfl (.cons rfl (.cons rfl (.cons rfl (.cons rfl (.nil _)))))
  rintro ⟨i, k⟩ ⟨hi, hi60, hk⟩
  simp only at hi hi60 hk ⊢
  have e0 : IntKind.i64.wrap ((s.length : Int) - (k : Int)) = ((s.length - k : Nat) : Int) := by unfold lim at hs; rw [i64_id (by omega) (by omega)]; omega
  refine Wp.seq ?_
  refine Wp.seq (Wp.region ?_)
  refine OWp.evs 5 rfl ?_
  refine OWp.part 23 rfl (fun c3 => ?_) (fun c3 => ?_)
  · refine OWp.evs 3 rfl ?_
    refine OWp.nil ?_
    refine Wp.cond rfl (fun c4 => ?_) (fun c4 => ?_)
    · have c3 := of_decide_eq_true c3
      have c4 := of_decide_eq_true c4
      have hlt : i < zs.length := by omega
      obtain ⟨b, o, cap', l, e, fz, hv, hm, hat⟩ := hr.elem (by simp) (by omega)
      cases hv
      have hld : Lg.partAt Try.prog 3 l (o + i * 1) = some (.int .i64 zs[i]) := by
        have := partAt_in (P := Try.prog) (t := 3) (m := 0) (hat i hlt) rfl (by decide) (by decide)
        rw [Nat.add_zero] at this
        rw [this]
        rfl
      generalize zs[i] = z at hld
      refine Wp.skip ?_
      refine Wp.seq ?_
      refine Wp.block ?_
      refine Wp.seq (Wp.region ?_)
      refine OWp.evs 2 rfl ?_
      refine OWp.g rfl rfl (Gives.indexAddrSlice i rfl rfl rfl rfl rfl rfl hlt) ?_
      refine OWp.load (.tail _ hm) rfl rfl rfl rfl hld ?_
      refine OWp.step rfl (Step.call rfl rfl rfl rfl rfl rfl (among (m := 100) (by decide) (by decide) ?_))
      obtain ⟨n, hn, hn100⟩ : ∃ n : Nat, z % ((100 : Nat) : Int) = (n : Int) ∧ n < 100 := ⟨(z % 100).toNat, by omega, by omega⟩
      rw [hn]
      refine OWp.evs 1 rfl ?_
      refine OWp.nil ?_
      refine Wp.seq (Wp.region ?_)
      refine OWp.evs 2 rfl ?_
      refine OWp.step rfl (Step.call rfl rfl rfl rfl rfl rfl (bytesC hBL hs hk ?_))
      have hbr : bytesR s k (n : Int) = if s.length < k + n then ([], 120, k) else ((s.drop k).take n, 0, k + n) := by
        unfold bytesR
        rw [if_neg (by omega)]
        by_cases h : s.length < k + n
        · rw [if_pos h, if_pos (by omega)]
        · rw [if_neg h, if_neg (by omega)]; rfl
      rw [hbr]
      by_cases hm2 : s.length < k + n
      · rw [if_pos hm2]
        refine OWp.evs 5 rfl ?_
        refine OWp.nil ?_
        refine Wp.seq ?_
        refine Wp.seq (Wp.region ?_)
        refine OWp.evs 6 rfl ?_
        refine OWp.nil ?_
        refine Wp.cond rfl (fun c5 => ?_) (fun c5 => ?_)
        · refine Wp.seq ?_
          refine Wp.seq (Wp.region ?_)
          refine OWp.evs 3 rfl ?_
          refine OWp.part 48 rfl (fun c => absurd c (by simp)) (fun _ => ?_)
          refine OWp.evs 4 rfl ?_
          refine OWp.part 52 rfl (fun c => absurd c (by simp)) (fun _ => ?_)
          refine OWp.evs 3 rfl ?_
          refine OWp.step rfl (Step.call rfl rfl rfl rfl rfl rfl (left (.head _) hk hs ?_))
          refine OWp.evs 6 rfl ?_
          refine OWp.nil ?_
          refine Wp.cond rfl (fun c8 => ?_) (fun c8 => ?_)
          · rw [e0] at c8
            simp at c8
          · refine Wp.skip ?_
            refine Wp.exit ?_
            refine Wp.region ?_
            refine OWp.evs 3 rfl ?_
            refine OWp.nil ?_
            refine ⟨(i + 1, k), by simp only; omega, ⟨by simp only; omega, by simp only; omega, hk⟩, ?_, .refl _⟩
            exact .cons' rfl (int_eq (wrap_add1 i (by unfold lim; omega))) (.cons rfl (.cons rfl (.cons rfl (.cons rfl (.nil _)))))
        · rw [e0] at c5
          have := of_decide_eq_false c5
          omega
      · rw [if_neg hm2]
        have e1 : IntKind.i64.wrap ((k : Int) + (n : Int)) = ((k + n : Nat) : Int) := by unfold lim at hs; rw [i64_id (by omega) (by omega)]; omega
        refine OWp.evs 5 rfl ?_
        refine OWp.nil ?_
        refine Wp.seq ?_
        refine Wp.seq (Wp.region ?_)
        refine OWp.evs 6 rfl ?_
        refine OWp.nil ?_
        refine Wp.cond rfl (fun c5 => ?_) (fun c5 => ?_)
        · rw [e0] at c5
          have := of_decide_eq_true c5
          omega
        refine Wp.skip ?_
        refine Wp.seq ?_
        refine Wp.seq (Wp.region ?_)
        refine OWp.evs 3 rfl ?_
        refine OWp.part 65 rfl (fun c => absurd c (by simp)) (fun _ => ?_)
        refine OWp.evs 6 rfl ?_
        refine OWp.g rfl rfl (Gives.sliceStr (l := k) (h' := k + n) rfl rfl rfl ⟨_, _, rfl, rfl⟩ ⟨_, _, rfl, e1⟩ (by omega) (by omega)) ?_
        rw [Nat.add_sub_cancel_left]
        refine OWp.evs 2 rfl ?_
        refine OWp.nil ?_
        refine Wp.cond rfl (fun c10 => ?_) (fun c10 => ?_)
        · simp at c10
        refine Wp.skip ?_
        refine Wp.region ?_
        refine OWp.evs 4 rfl ?_
        refine OWp.nil ?_
        refine Wp.region ?_
        refine OWp.evs 3 rfl ?_
        refine OWp.nil ?_
        refine ⟨(i + 1, k + n), by simp only; omega, ⟨by simp only; omega, by simp only; omega, by simp only; omega⟩, ?_, .refl _⟩
        exact .cons' rfl (int_eq (wrap_add1 i (by unfold lim; omega))) (.cons' rfl (int_eq e1) (.cons rfl (.cons rfl (.cons rfl (.nil _)))))
    · refine Wp.exit ?_
      refine Wp.seq (Wp.region ?_)
      refine OWp.evs 3 rfl ?_
      refine OWp.step rfl (Step.call rfl rfl rfl rfl rfl rfl (left (.head _) hk hs ?_))
      refine OWp.evs 6 rfl ?_
      refine OWp.nil ?_
      refine Wp.ret ⟨trivial, _, ⟨_, _, rfl, rfl, rfl⟩, ?_⟩
      rw [e0]
      simp
      rfl
  · refine OWp.evs 3 rfl ?_
    refine OWp.nil ?_
    refine Wp.cond rfl (fun c => nomatch c) (fun _ => ?_)
    refine Wp.exit ?_
    refine Wp.seq (Wp.region ?_)
    refine OWp.evs 3 rfl ?_
    refine OWp.step rfl (Step.call rfl rfl rfl rfl rfl rfl (left (.head _) hk hs ?_))
    refine OWp.evs 6 rfl ?_
    refine OWp.nil ?_
    refine Wp.ret ⟨trivial, _, ⟨_, _, rfl, rfl, rfl⟩, ?_⟩
    rw [e0]
    simp
    rfl

theorem tapeReadsW {t : ByteArray} {a : Option Addr} {len cap : Nat} (h0 : Rd Try.prog S 9 [.string t]) (h1 : Rd Try.prog S 28 [.slice a len cap]) :
    CallWp Try.prog B 4 #[.string t, .slice a len cap] (fun v _ => v = .bool true) S := by
  obtain ⟨s, hs, hl⟩ := rdStr h0
  cases hs
  obtain ⟨zs, hz, _⟩ := rdInts h1
  exact tapeReadsL hl hz
end
end Go.Proofs.C
