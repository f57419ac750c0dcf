/- What functions of the given program do, one after the other, told by that layer. -/
import Derived.Test.YtnjgekonoladfaaWWheelB
namespace Go.Proofs.E
open Go.Lg Go.Whl
set_option maxRecDepth 100000

abbrev ordV : Value := .func (.func 34) #[] #[]
theorem timer_at {S : Ents} {v : Value} {l : List T} (h : Reads S 3 v l.length (tcs l)) (h0 : 0 < l.length) :
    ∃ b o cap L e fz, v = .slice (some ⟨b, o, none⟩) l.length cap ∧ (b, cel L e fz) ∈ S ∧ ∀ i (hi : i < l.length), Lg.partAt Try.prog 59 L (o + i * 3) = some (.agg (tc l[i]).toArray) := by
  obtain ⟨b, o, cap, L, e, fz, hv, hm, hat⟩ := Reads.elem (f := tc) (xs := l) h (fun _ _ => rfl) h0
  exact ⟨b, o, cap, L, e, fz, hv, hm, fun i hi => partAt_agg (n := 3) (hat i hi) rfl rfl rfl⟩
/-- Timers in order. -/
structure InOrder (l : List T) : Prop where
  ord : ∀ i j (hi : i < l.length) (hj : j < l.length), i < j → 0 < ordI l[j] l[i]
  small : ∀ t ∈ l, Small t
theorem InOrder.at {l : List T} (h : InOrder l) {i : Nat} (hi : i < l.length) : Small l[i] := h.small _ (List.getElem_mem hi)
def len8 (i : Nat) : UInt8 := UInt8.ofNat (if i = 0 then 0 else Nat.log2 i + 1)

section
variable {B : Nat} {S R : Ents} {Q : Value → Ents → Prop}

theorem order2C {l : List T} {va : Option Addr} {vc a b q : Nat} (hl : Reads S 3 (.slice va l.length vc) l.length (tcs l)) (ho : InOrder l) (hb : b < l.length) (hab : a < b) (H : Q (.tuple #[.int .i64 (a : Int), .int .i64 (b : Int)]) S) :
    CallWp Try.prog B 53 #[.slice va l.length vc, .int .i64 (a : Int), .int .i64 (b : Int), pt q, ordV] Q S := by
  obtain ⟨b1, o1, c1, L, e, fz, hv, hm, hat⟩ := timer_at hl (by omega)
  cases hv
  have ha : a < l.length := by omega
  have hpos := ho.ord a b ha hb hab
  refine CallWp.enter (args := [_, _, _, _, _]) Try.func53 rfl Try.ntmps53 rfl ?_
  refine Wp.seq (Wp.region ?_)
  refine OWp.evs 2 rfl ?_
  refine OWp.nil ?_
  refine Wp.seq ?_
  refine Wp.seq (Wp.regionDraw [0, 1, 2, 3, 4, 5, 6, 7, 8, 9, 10] [9] rfl (by decide +kernel) ?_)
  refine DWp.evs 3 rfl ?_
  refine DWp.g rfl rfl rfl rfl (Gives.indexAddrSlice (b) rfl rfl rfl rfl rfl rfl (by omega)) ?_
  refine DWp.load hm rfl rfl rfl rfl rfl rfl (hat b hb) ?_
  refine DWp.evs 2 rfl ?_
  refine DWp.g rfl rfl rfl rfl (Gives.indexAddrSlice (a) rfl rfl rfl rfl rfl rfl (by omega)) ?_
  refine DWp.load hm rfl rfl rfl rfl rfl rfl (hat a ha) ?_
  refine DWp.stepGrow rfl rfl rfl (Step.call rfl rfl rfl rfl rfl rfl ((orderC (ho.at hb) (ho.at ha) ?_)))
  refine ⟨fun _ hy => hy, ?_⟩
  refine DWp.evs 1 rfl ?_
  refine DWp.nil ?_
  refine Wp.cond rfl (fun cc1 => absurd (of_decide_eq_true cc1) (by omega)) (fun cc1 => ?_)
  have cc1 := of_decide_eq_false cc1
  refine Wp.skip ?_
  refine Wp.seq (Wp.region ?_)
  refine OWp.evs 4 rfl ?_
  refine OWp.nil ?_
  refine Wp.ret ⟨trivial, _, ⟨_, _, rfl, rfl, _, _, rfl, rfl, rfl⟩, ?_⟩
  exact H
theorem medianC {l : List T} {va : Option Addr} {vc a b c q : Nat} {za zc : Int} (hza : za = (a : Int)) (hzc : zc = (c : Int)) (hl : Reads S 3 (.slice va l.length vc) l.length (tcs l)) (ho : InOrder l) (hab : a < b) (hbc : b < c) (hc : c < l.length) (H : Q (.int .i64 (b : Int)) S) :
    CallWp Try.prog B 52 #[.slice va l.length vc, .int .i64 za, .int .i64 (b : Int), .int .i64 zc, pt q, ordV] Q S := by
  subst hza hzc
  refine CallWp.enter (args := [_, _, _, _, _, _]) Try.func52 rfl Try.ntmps52 rfl ?_
  refine Wp.seq (Wp.region ?_)
  refine OWp.evs 1 rfl ?_
  refine OWp.nil ?_
  refine Wp.seq (Wp.region ?_)
  refine OWp.evs 5 rfl ?_
  refine OWp.step rfl (Step.call rfl rfl rfl rfl rfl rfl ((order2C hl ho (by omega) hab ?_)))
  refine OWp.evs 5 rfl ?_
  refine OWp.nil ?_
  refine Wp.seq (Wp.region ?_)
  refine OWp.evs 5 rfl ?_
  refine OWp.step rfl (Step.call rfl rfl rfl rfl rfl rfl ((order2C hl ho hc hbc ?_)))
  refine OWp.evs 5 rfl ?_
  refine OWp.nil ?_
  refine Wp.seq (Wp.region ?_)
  refine OWp.evs 5 rfl ?_
  refine OWp.step rfl (Step.call rfl rfl rfl rfl rfl rfl ((order2C hl ho (by omega) hab ?_)))
  refine OWp.evs 5 rfl ?_
  refine OWp.nil ?_
  refine Wp.seq (Wp.region ?_)
  refine OWp.evs 2 rfl ?_
  refine OWp.nil ?_
  refine Wp.ret ⟨trivial, _, ⟨_, _, rfl, rfl, rfl⟩, ?_⟩
  exact H
theorem medianAdjC {l : List T} {va : Option Addr} {vc a q : Nat} (hl : Reads S 3 (.slice va l.length vc) l.length (tcs l)) (ho : InOrder l) (h0 : 0 < a) (ha : a + 1 < l.length) (hs : l.length ≤ 100000) (H : Q (.int .i64 (a : Int)) S) :
    CallWp Try.prog B 51 #[.slice va l.length vc, .int .i64 (a : Int), pt q, ordV] Q S := by
  refine CallWp.enter (args := [_, _, _, _]) Try.func51 rfl Try.ntmps51 rfl ?_
  refine Wp.seq (Wp.region ?_)
  refine OWp.evs 1 rfl ?_
  refine OWp.nil ?_
  refine Wp.seq (Wp.region ?_)
  refine OWp.evs 8 rfl ?_
  refine OWp.step rfl (Step.call rfl rfl rfl rfl rfl rfl ((medianC (a := a - 1) (c := a + 1) (by rw [i64_id] <;> omega) (i64_inc (by omega)) hl ho (by omega) (by omega) ha ?_)))
  refine OWp.evs 1 rfl ?_
  refine OWp.nil ?_
  refine Wp.ret ⟨trivial, _, ⟨_, _, rfl, rfl, rfl⟩, ?_⟩
  exact H
theorem quart_term {n : Nat} (hn : n ≤ 100000) (m : Nat) (hm : m ≤ 3) : IntKind.i64.wrap (0 + IntKind.i64.wrap (IntKind.i64.wrap ((n : Int).tdiv 4) * (m : Int))) = ((n / 4 * m : Nat) : Int) := by
  have e : (n : Int).tdiv 4 = ((n / 4 : Nat) : Int) := by rw [Int.tdiv_eq_ediv_of_nonneg (by omega)]; omega
  have h1 : n / 4 * m ≤ 100000 * 3 := Nat.mul_le_mul (by omega) hm
  have e2 : ((n / 4 : Nat) : Int) * (m : Int) = ((n / 4 * m : Nat) : Int) := by simp
  rw [e, i64_id (x := ((n / 4 : Nat) : Int)) (by omega) (by omega), e2, i64_id (x := ((n / 4 * m : Nat) : Int)) (by omega) (by omega), i64_id (by omega) (by omega)]
  omega

theorem pivotC {l : List T} {va : Option Addr} {vc : Nat} (hl : Reads S 3 (.slice va l.length vc) l.length (tcs l)) (ho : InOrder l) (h0 : 12 < l.length) (hs : l.length ≤ 100000) (H : ∀ k : Nat, Q (.tuple #[.int .i64 (k : Int), .int .i64 1]) S) :
    CallWp Try.prog B 41 #[.slice va l.length vc, .int .i64 0, .int .i64 (l.length : Int), ordV] Q S := by
  have q1 := quart_term hs 1 (by decide)
  have q2 := quart_term hs 2 (by decide)
  have q3 := quart_term hs 3 (by decide)
  have en : IntKind.i64.wrap ((l.length : Int) - 0) = (l.length : Int) := by rw [i64_id] <;> omega
  refine CallWp.dropRet ?_
  refine CallWp.enter (args := [_, _, _, _]) Try.func41 rfl Try.ntmps41 rfl ?_
  refine Wp.seq (Wp.region ?_)
  refine OWp.evs 2 rfl ?_
  refine OWp.nil ?_
  refine Wp.seq (Wp.region ?_)
  refine OWp.evs 4 rfl ?_
  refine OWp.nil ?_
  refine Wp.weaken (E' := [(10, .int .i64 (l.length : Int)), (0, .slice va l.length vc), (1, .int .i64 0), (2, .int .i64 (l.length : Int)), (3, ordV)]) (.cons' rfl (int_eq en) (.cons rfl (.cons rfl (.cons rfl (.cons rfl (.nil _)))))) (fun _ h => h) ?_
  refine Wp.seq (Wp.region ?_)
  refine OWp.step rfl (Step.alloc rfl rfl rfl ?_); intro L hBL hLL
  refine OWp.nil ?_
  refine Wp.seq (Wp.region ?_)
  refine OWp.evs 6 rfl ?_
  refine OWp.nil ?_
  refine Wp.seq (Wp.region ?_)
  refine OWp.evs 6 rfl ?_
  refine OWp.nil ?_
  refine Wp.seq (Wp.region ?_)
  refine OWp.evs 6 rfl ?_
  refine OWp.nil ?_
  refine Wp.weaken (E' := [(10, .int .i64 (l.length : Int)), (0, .slice va l.length vc), (1, .int .i64 0), (2, .int .i64 (l.length : Int)), (3, ordV), (11, pt L), (12, .int .i64 ((l.length / 4 * 1 : Nat) : Int)), (13, .int .i64 ((l.length / 4 * 2 : Nat) : Int)), (14, .int .i64 ((l.length / 4 * 3 : Nat) : Int))]) (.cons rfl (.cons rfl (.cons rfl (.cons rfl (.cons rfl (.cons rfl (.cons' rfl (int_eq q1) (.cons' rfl (int_eq q2) (.cons' rfl (int_eq q3) (.nil _)))))))))) (fun _ h => h) ?_
  have hl2 : Reads ((L, cel [.int .i64 0] 3) :: S) 3 (.slice va l.length vc) l.length (tcs l) := hl.mono fun _ h => .tail _ h
  refine Wp.seq ?_
  refine Wp.seq (Wp.region ?_)
  refine OWp.evs 2 rfl ?_
  refine OWp.nil ?_
  refine Wp.cond rfl (fun cc1 => ?_) (fun cc1 => absurd (of_decide_eq_false cc1) (by omega))
  have cc1 := of_decide_eq_true cc1
  refine Wp.seq ?_
  refine Wp.seq (Wp.region ?_)
  refine OWp.evs 2 rfl ?_
  refine OWp.nil ?_
  refine Wp.cond rfl (fun h5 => ?_) (fun h5 => ?_)
  · have h5 := of_decide_eq_true h5
    refine Wp.seq (Wp.region ?_)
    refine OWp.evs 3 rfl ?_
    refine OWp.step rfl (Step.call rfl rfl rfl rfl rfl rfl ((medianAdjC hl2 ho (by omega) (by omega) hs ?_)))
    refine OWp.evs 1 rfl ?_
    refine OWp.nil ?_
    refine Wp.seq (Wp.region ?_)
    refine OWp.evs 3 rfl ?_
    refine OWp.step rfl (Step.call rfl rfl rfl rfl rfl rfl ((medianAdjC hl2 ho (by omega) (by omega) hs ?_)))
    refine OWp.evs 1 rfl ?_
    refine OWp.nil ?_
    refine Wp.region ?_
    refine OWp.evs 3 rfl ?_
    refine OWp.step rfl (Step.call rfl rfl rfl rfl rfl rfl ((medianAdjC hl2 ho (by omega) (by omega) hs ?_)))
    refine OWp.evs 1 rfl ?_
    refine OWp.nil ?_
    refine Wp.region ?_
    refine OWp.evs 5 rfl ?_
    refine OWp.step rfl (Step.call rfl rfl rfl rfl rfl rfl ((medianC rfl rfl hl2 ho (by omega) (by omega) (by omega) ?_)))
    refine OWp.evs 1 rfl ?_
    refine OWp.nil ?_
    refine Wp.seq (Wp.region ?_)
    refine OWp.load (.head _) rfl rfl rfl rfl rfl ?_
    refine OWp.nil ?_
    refine Wp.block ?_
    refine Wp.seq (Wp.region ?_)
    refine OWp.evs 2 rfl ?_
    refine OWp.nil ?_
    refine Wp.cond rfl (fun cc2 => ?_) (fun cc2 => absurd (of_decide_eq_false cc2) (by decide))
    have cc2 := of_decide_eq_true cc2
    refine Wp.seq (Wp.region ?_)
    refine OWp.evs 3 rfl ?_
    refine OWp.nil ?_
    refine Wp.ret ⟨trivial, _, ⟨_, _, rfl, rfl, _, _, rfl, rfl, rfl⟩, ?_⟩
    exact ⟨S, (by repeat (first | exact List.Sublist.refl _ | exact List.sublist_append_right _ _ | apply List.Sublist.cons)), H _⟩
  have h5 := of_decide_eq_false h5
  refine Wp.skip ?_
  refine Wp.region ?_
  refine OWp.evs 5 rfl ?_
  refine OWp.step rfl (Step.call rfl rfl rfl rfl rfl rfl ((medianC rfl rfl hl2 ho (by omega) (by omega) (by omega) ?_)))
  refine OWp.evs 1 rfl ?_
  refine OWp.nil ?_
  refine Wp.seq (Wp.region ?_)
  refine OWp.load (.head _) rfl rfl rfl rfl rfl ?_
  refine OWp.nil ?_
  refine Wp.block ?_
  refine Wp.seq (Wp.region ?_)
  refine OWp.evs 2 rfl ?_
  refine OWp.nil ?_
  refine Wp.cond rfl (fun cc3 => ?_) (fun cc3 => absurd (of_decide_eq_false cc3) (by decide))
  have cc3 := of_decide_eq_true cc3
  refine Wp.seq (Wp.region ?_)
  refine OWp.evs 3 rfl ?_
  refine OWp.nil ?_
  refine Wp.ret ⟨trivial, _, ⟨_, _, rfl, rfl, _, _, rfl, rfl, rfl⟩, ?_⟩
  exact ⟨S, (by repeat (first | exact List.Sublist.refl _ | exact List.sublist_append_right _ _ | apply List.Sublist.cons)), H _⟩
theorem partialC {l : List T} {va : Option Addr} {vc : Nat} (hl : Reads S 3 (.slice va l.length vc) l.length (tcs l)) (ho : InOrder l) (h0 : 12 < l.length) (hs : l.length ≤ 100000) (H : Q (.bool true) S) :
    CallWp Try.prog B 43 #[.slice va l.length vc, .int .i64 0, .int .i64 (l.length : Int), ordV] Q S := by
  obtain ⟨b1, o1, c1, L, e, fz, hv, hm, hat⟩ := timer_at hl (by omega)
  cases hv
  refine CallWp.enter (args := [_, _, _, _]) Try.func43 rfl Try.ntmps43 rfl ?_
  refine Wp.seq (Wp.region ?_)
  refine OWp.evs 1 rfl ?_
  refine OWp.nil ?_
  refine Wp.seq (Wp.region ?_)
  refine OWp.evs 3 rfl ?_
  refine OWp.nil ?_
  refine Wp.seq ?_
  refine Wp.seq (Wp.region ?_)
  refine OWp.evs 1 rfl ?_
  refine OWp.nil ?_
  refine Wp.block ?_
  refine Wp.loopS (α := Unit) (fun _ => 0) (fun _ => [(0, .slice (some ⟨b1, o1, none⟩) l.length vc), (1, .int .i64 0), (2, .int .i64 (l.length : Int)), (3, ordV), (9, .int .i64 1), (10, .int .i64 0)]) (fun _ => S) (fun _ => True) () ?_ (.refl _) trivial ?_
  · exact .cons rfl (.cons rfl (.cons rfl (.cons rfl (.cons' rfl rfl (.cons rfl (.nil _))))))
  rintro ⟨⟩ -
  refine Wp.seq ?_
  refine Wp.seq (Wp.region ?_)
  refine OWp.evs 2 rfl ?_
  refine OWp.nil ?_
  refine Wp.cond rfl (fun cc1 => ?_) (fun cc1 => absurd (of_decide_eq_false cc1) (by decide))
  have cc1 := of_decide_eq_true cc1
  refine Wp.skip ?_
  refine Wp.seq ?_
  refine Wp.block ?_
  refine Wp.seq ?_
  refine Wp.block ?_
  refine Wp.loopS (α := Nat) (fun i => l.length - i) (fun i => [(0, .slice (some ⟨b1, o1, none⟩) l.length vc), (2, .int .i64 (l.length : Int)), (3, ordV), (9, .int .i64 (i : Int))]) (fun _ => S) (fun i => 1 ≤ i ∧ i ≤ l.length) 1 ?_ (.refl _) ⟨Nat.le_refl _, by omega⟩ ?_
  · exact .cons rfl (.cons rfl (.cons rfl (.cons rfl (.nil _))))
  rintro i ⟨hi1, hi⟩
  refine Wp.seq ?_
  refine Wp.seq (Wp.regionDraw [0, 1, 2, 3, 4, 5, 6, 7, 8, 9, 10, 11, 12, 13, 14, 15, 16, 17] [14] rfl (by decide +kernel) ?_)
  refine DWp.evs 4 rfl ?_
  refine DWp.part 22 rfl (fun h2 => ?_) (fun h2 => ?_)
  · have h2 := of_decide_eq_true h2
    have hi2 : i < l.length := by omega
    have e1 : IntKind.i64.wrap ((i : Int) - 1) = ((i - 1 : Nat) : Int) := by rw [i64_id] <;> omega
    have hpos := ho.ord (i - 1) i (by omega) hi2 (by omega)
    refine DWp.evs 3 rfl ?_
    refine DWp.g rfl rfl rfl rfl (Gives.indexAddrSlice (i) rfl rfl rfl rfl rfl rfl (by omega)) ?_
    refine DWp.load hm rfl rfl rfl rfl rfl rfl (hat i hi2) ?_
    refine DWp.evs 3 rfl ?_
    refine DWp.g rfl rfl rfl rfl (Gives.indexAddrSlice ((i - 1)) rfl rfl rfl rfl rfl e1 (by omega)) ?_
    refine DWp.load hm rfl rfl rfl rfl rfl rfl (hat (i - 1) (by omega)) ?_
    refine DWp.stepGrow rfl rfl rfl (Step.call rfl rfl rfl rfl rfl rfl ((orderC (ho.at hi2) (ho.at (by omega)) ?_)))
    refine ⟨fun _ hy => hy, ?_⟩
    refine DWp.evs 3 rfl ?_
    refine DWp.nil ?_
    refine Wp.cond rfl (fun cc2 => ?_) (fun cc2 => absurd (ndF cc2) (by omega))
    have cc2 := ndT cc2
    refine Wp.skip ?_
    refine Wp.block ?_
    refine Wp.region ?_
    refine OWp.evs 3 rfl ?_
    refine OWp.nil ?_
    exact ⟨i + 1, by omega, by omega, .cons rfl (.cons rfl (.cons rfl (.cons' rfl (int_eq (i64_inc (by omega))) (.nil _)))), .refl _⟩
  have h2 := of_decide_eq_false h2
  obtain rfl : i = l.length := by omega
  refine DWp.evs 10 rfl ?_
  refine DWp.stepSkip rfl rfl rfl rfl ?_
  refine DWp.evs 3 rfl ?_
  refine DWp.nil ?_
  refine Wp.cond rfl (fun c => nomatch c) (fun _ => ?_)
  refine Wp.exit ?_
  refine Wp.seq ?_
  refine Wp.seq (Wp.region ?_)
  refine OWp.evs 3 rfl ?_
  refine OWp.nil ?_
  refine Wp.cond rfl (fun cc3 => ?_) (fun cc3 => absurd (of_decide_eq_false cc3) (by omega))
  have cc3 := of_decide_eq_true cc3
  refine Wp.seq (Wp.region ?_)
  refine OWp.evs 1 rfl ?_
  refine OWp.nil ?_
  refine Wp.ret ⟨trivial, _, ⟨_, _, rfl, rfl, rfl⟩, ?_⟩
  exact H
theorem insertC {l : List T} {va : Option Addr} {vc : Nat} (hl : Reads S 3 (.slice va l.length vc) l.length (tcs l)) (ho : InOrder l) (hs : l.length ≤ 100000) (H : Q (.tuple #[]) S) :
    CallWp Try.prog B 38 #[.slice va l.length vc, .int .i64 0, .int .i64 (l.length : Int), ordV] Q S := by
  refine CallWp.enter (args := [_, _, _, _]) Try.func38 rfl Try.ntmps38 rfl ?_
  refine Wp.seq (Wp.region ?_)
  refine OWp.evs 3 rfl ?_
  refine OWp.nil ?_
  refine Wp.block ?_
  refine Wp.loopS (α := Nat) (fun i => l.length - i) (fun i => [(0, .slice va l.length vc), (1, .int .i64 0), (2, .int .i64 (l.length : Int)), (3, ordV), (8, .int .i64 (i : Int))]) (fun _ => S) (fun i => 1 ≤ i) 1 ?_ (.refl _) (Nat.le_refl _) ?_
  · exact .cons rfl (.cons rfl (.cons rfl (.cons rfl (.cons' rfl rfl (.nil _)))))
  rintro i hi1
  refine Wp.seq ?_
  refine Wp.seq (Wp.region ?_)
  refine OWp.evs 3 rfl ?_
  refine OWp.nil ?_
  refine Wp.cond rfl (fun h1 => ?_) (fun h1 => ?_)
  · have h1 := of_decide_eq_true h1
    have hi2 : i < l.length := by omega
    obtain ⟨b1, o1, c1, L, e, fz, hv, hm, hat⟩ := timer_at hl (by omega)
    cases hv
    have e1 : IntKind.i64.wrap ((i : Int) - 1) = ((i - 1 : Nat) : Int) := by rw [i64_id] <;> omega
    have hpos := ho.ord (i - 1) i (by omega) hi2 (by omega)
    refine Wp.skip ?_
    refine Wp.seq ?_
    refine Wp.block ?_
    refine Wp.seq (Wp.region ?_)
    refine OWp.evs 2 rfl ?_
    refine OWp.nil ?_
    refine Wp.block ?_
    refine Wp.loopS (α := Unit) (fun _ => 0) (fun _ => [(0, .slice (some ⟨b1, o1, none⟩) l.length vc), (1, .int .i64 0), (2, .int .i64 (l.length : Int)), (3, ordV), (8, .int .i64 (i : Int)), (9, .int .i64 (i : Int))]) (fun _ => S) (fun _ => True) () ?_ (.refl _) trivial ?_
    · exact .cons rfl (.cons rfl (.cons rfl (.cons rfl (.cons rfl (.cons rfl (.nil _))))))
    rintro ⟨⟩ -
    refine Wp.seq ?_
    refine Wp.seq (Wp.regionDraw [0, 1, 2, 3, 4, 5, 6, 7, 8, 9, 10, 11, 12, 13, 14, 15, 16] [14] rfl (by decide +kernel) ?_)
    refine DWp.evs 4 rfl ?_
    refine DWp.part 21 rfl (fun cc1 => ?_) (fun cc1 => absurd (of_decide_eq_false cc1) (by omega))
    have cc1 := of_decide_eq_true cc1
    refine DWp.evs 3 rfl ?_
    refine DWp.g rfl rfl rfl rfl (Gives.indexAddrSlice (i) rfl rfl rfl rfl rfl rfl (by omega)) ?_
    refine DWp.load hm rfl rfl rfl rfl rfl rfl (hat i hi2) ?_
    refine DWp.evs 3 rfl ?_
    refine DWp.g rfl rfl rfl rfl (Gives.indexAddrSlice ((i - 1)) rfl rfl rfl rfl rfl e1 (by omega)) ?_
    refine DWp.load hm rfl rfl rfl rfl rfl rfl (hat (i - 1) (by omega)) ?_
    refine DWp.stepGrow rfl rfl rfl (Step.call rfl rfl rfl rfl rfl rfl ((orderC (ho.at hi2) (ho.at (by omega)) ?_)))
    refine ⟨fun _ hy => hy, ?_⟩
    refine DWp.evs 2 rfl ?_
    refine DWp.nil ?_
    refine Wp.cond rfl (fun cc2 => absurd (of_decide_eq_true cc2) (by omega)) (fun cc2 => ?_)
    have cc2 := of_decide_eq_false cc2
    refine Wp.exit ?_
    refine Wp.region ?_
    refine OWp.evs 3 rfl ?_
    refine OWp.nil ?_
    exact ⟨i + 1, by omega, by omega, .cons rfl (.cons rfl (.cons rfl (.cons rfl (.cons' rfl (int_eq (i64_inc (by omega))) (.nil _))))), .refl _⟩
  have h1 := of_decide_eq_false h1
  refine Wp.exit ?_
  refine ⟨trivial, [], rfl, ?_⟩
  exact H
theorem pdqC {l : List T} {va : Option Addr} {vc : Nat} {lim : Int} (hlim : l.length = 0 ∨ lim ≠ 0) (hl : Reads S 3 (.slice va l.length vc) l.length (tcs l)) (ho : InOrder l) (hs : l.length ≤ 100000) (H : Q (.tuple #[]) S) :
    CallWp Try.prog B 36 #[.slice va l.length vc, .int .i64 0, .int .i64 (l.length : Int), .int .i64 lim, ordV] Q S := by
  have en : IntKind.i64.wrap ((l.length : Int) - 0) = (l.length : Int) := by rw [i64_id] <;> omega
  refine CallWp.enter (args := [_, _, _, _, _]) Try.func36 rfl Try.ntmps36 rfl ?_
  refine Wp.seq (Wp.region ?_)
  refine OWp.evs 1 rfl ?_
  refine OWp.nil ?_
  refine Wp.seq (Wp.region ?_)
  refine OWp.evs 1 rfl ?_
  refine OWp.nil ?_
  refine Wp.block ?_
  refine Wp.loopS (α := Unit) (fun _ => 0) (fun _ => [(0, .slice va l.length vc), (1, .int .i64 0), (2, .int .i64 (l.length : Int)), (3, .int .i64 lim), (4, ordV), (10, .bool true), (11, .bool true)]) (fun _ => S) (fun _ => True) () ?_ (.refl _) trivial ?_
  · exact .cons rfl (.cons rfl (.cons rfl (.cons rfl (.cons rfl (.cons rfl (.cons rfl (.nil _)))))))
  rintro ⟨⟩ -
  refine Wp.block ?_
  refine Wp.seq (Wp.region ?_)
  refine OWp.evs 4 rfl ?_
  refine OWp.nil ?_
  refine Wp.seq ?_
  refine Wp.seq (Wp.region ?_)
  refine OWp.evs 2 rfl ?_
  refine OWp.nil ?_
  refine Wp.cond rfl (fun h1 => ?_) (fun h1 => ?_)
  · have h1 := of_decide_eq_true h1
    refine Wp.seq (Wp.region ?_)
    refine OWp.evs 4 rfl ?_
    refine OWp.step rfl (Step.call rfl rfl rfl rfl rfl rfl ((insertC hl ho hs ?_)))
    refine OWp.nil ?_
    refine Wp.ret ⟨trivial, [], rfl, ?_⟩
    exact H
  have h1 := of_decide_eq_false h1
  rw [en] at h1
  refine Wp.skip ?_
  refine Wp.seq ?_
  refine Wp.seq (Wp.region ?_)
  refine OWp.evs 2 rfl ?_
  refine OWp.nil ?_
  refine Wp.cond rfl (fun cc1 => absurd (of_decide_eq_true cc1) (by omega)) (fun cc1 => ?_)
  have cc1 := of_decide_eq_false cc1
  refine Wp.skip ?_
  refine Wp.seq ?_
  refine Wp.seq (Wp.region ?_)
  refine OWp.evs 2 rfl ?_
  refine OWp.nil ?_
  refine Wp.cond rfl (fun c => nomatch c) (fun _ => ?_)
  refine Wp.skip ?_
  refine Wp.seq (Wp.region ?_)
  refine OWp.evs 4 rfl ?_
  refine OWp.step rfl (Step.call rfl rfl rfl rfl rfl rfl ((pivotC hl ho (by omega) hs ?_)))
  intro k
  refine OWp.evs 5 rfl ?_
  refine OWp.nil ?_
  refine Wp.seq ?_
  refine Wp.seq (Wp.region ?_)
  refine OWp.evs 2 rfl ?_
  refine OWp.nil ?_
  refine Wp.cond rfl (fun cc2 => absurd (of_decide_eq_true cc2) (by decide)) (fun cc2 => ?_)
  have cc2 := of_decide_eq_false cc2
  refine Wp.skip ?_
  refine Wp.seq ?_
  refine Wp.seq (Wp.region ?_)
  refine OWp.evs 2 rfl ?_
  refine OWp.evs 3 rfl ?_
  refine OWp.evs 3 rfl ?_
  refine OWp.nil ?_
  refine Wp.cond rfl (fun cc3 => ?_) (fun cc3 => absurd (of_decide_eq_false cc3) (by decide))
  have cc3 := of_decide_eq_true cc3
  refine Wp.seq (Wp.region ?_)
  refine OWp.evs 4 rfl ?_
  refine OWp.step rfl (Step.call rfl rfl rfl rfl rfl rfl ((partialC hl ho (by omega) hs ?_)))
  refine OWp.nil ?_
  refine Wp.cond rfl (fun _ => ?_) (fun c => nomatch c)
  refine Wp.ret ⟨trivial, [], rfl, ?_⟩
  exact H
end
end Go.Proofs.E
