/- What functions of the given program do, one after the other, told by that layer. -/
import Derived.Test.YtkbagleekpgdeaaGreatDoorZM1xa199
import Derived.Test.YtkbagleekpgdeaaGreatDoorZM6xf9cb
import Derived.Test.YtkbagleekpgdeaaGreatDoorENum2
namespace Go.Proofs.D
open Go.Lg Go.Cv Go.Nm
open Go.Proofs.C (zi zi_length zi_one zi_append)
set_option maxRecDepth 100000
attribute [local irreducible] dg
section
variable {B : Nat} {S R : Ents} {Q : Value → Ents → Prop}
end
end Go.Proofs.D

namespace Go.Proofs.D
open Go.Lg Go.Cv Go.Nm
open Go.Proofs.C (zi zi_length zi_one zi_append)
set_option maxRecDepth 100000
attribute [local irreducible] dg le32
section
variable {B : Nat} {S R : Ents} {Q : Value → Ents → Prop}
end
end Go.Proofs.D

namespace Go.Proofs.D
open Go.Lg Go.Cv Go.Nm
open Go.Proofs.C (zi zi_length zi_one zi_append)
set_option maxRecDepth 100000
attribute [local irreducible] dg le32
section
variable {B : Nat} {S R : Ents} {Q : Value → Ents → Prop}
end
end Go.Proofs.D

namespace Go.Proofs.D
open Go.Lg Go.Cv Go.Nm
open Go.Proofs.C (zi zi_length zi_one zi_append)
set_option maxRecDepth 100000
attribute [local irreducible] dg le32
section
variable {B : Nat} {S R : Ents} {Q : Value → Ents → Prop}
end
end Go.Proofs.D

namespace Go.Proofs.D
open Go.Lg Go.Cv Go.Nm
open Go.Proofs.C (zi zi_length zi_one zi_append)
set_option maxRecDepth 100000
/-- The cells of a pair of numbers. -/
def prC (x z : Nat) : List Value := zi (dg (x : Int)) ++ zi (dg (z : Int))
attribute [local irreducible] dg le32
section
variable {B : Nat} {S R : Ents} {Q : Value → Ents → Prop}
end
end Go.Proofs.D

namespace Go.Proofs.D
open Go.Lg Go.Cv
set_option maxRecDepth 100000
theorem strs_at {l : List (List UInt8)} {i : Nat} (h : i < l.length) : (strs l)[i]? = some (.string (str l[i])) := by
  unfold strs
  rw [List.getElem?_map, List.getElem?_eq_getElem h]
  rfl
section
variable {B : Nat} {S R : Ents} {Q : Value → Ents → Prop}
theorem timesCC {k u : List UInt8} (H : Q (.tuple #[.string (str (timesR k u).1), .int .i64 ((timesR k u).2 : Nat)]) S) : CallWp Tryz.prog B 47 #[.string (str k), .string (str u)] Q S := by
  unfold timesR at H
  refine CallWp.enter (args := [_, _]) Tryz.func47 rfl Tryz.ntmps47 rfl ?_
  refine Wp.seq (Wp.region ?_)
  refine OWp.evs 2 rfl ?_
  refine OWp.nil ?_
  refine Wp.seq ?_
  refine Wp.seq (Wp.region ?_)
  refine OWp.evs 4 rfl ?_
  refine OWp.part 9 rfl (fun h1 => ?_) (fun h1 => ?_)
  · have h1 := ndT h1
    rw [if_neg (fun h => h1 (by rw [h.1]; rfl))] at H
    refine OWp.evs 4 rfl ?_
    refine OWp.nil ?_
    refine Wp.cond rfl (fun _ => ?_) (fun c => nomatch c)
    refine Wp.seq (Wp.region ?_)
    refine OWp.evs 2 rfl ?_
    refine OWp.nil ?_
    refine Wp.ret ⟨trivial, _, ⟨_, _, rfl, rfl, _, _, rfl, rfl, rfl⟩, ?_⟩
    exact H
  have h1 := ndF h1
  refine OWp.evs 4 rfl ?_
  refine OWp.nil ?_
  refine Wp.cond rfl (fun h2 => ?_) (fun h2 => ?_)
  · have h2 := ndT h2
    rw [if_neg (fun h => h2 (by rw [h.2]; rfl))] at H
    refine Wp.seq (Wp.region ?_)
    refine OWp.evs 2 rfl ?_
    refine OWp.nil ?_
    refine Wp.ret ⟨trivial, _, ⟨_, _, rfl, rfl, _, _, rfl, rfl, rfl⟩, ?_⟩
    exact H
  have h2 := ndF h2
  have hk : k.length = 32 := by omega
  have hu : u.length = 32 := by omega
  rw [if_pos ⟨hk, hu⟩] at H
  refine Wp.skip ?_
  refine Wp.seq (Wp.region ?_)
  refine OWp.evs 2 rfl ?_
  refine OWp.step rfl (Step.call rfl rfl rfl rfl rfl rfl ((ctimesC hk hu ?_)))
  refine OWp.evs 2 rfl ?_
  refine OWp.nil ?_
  refine Wp.ret ⟨trivial, _, ⟨_, _, rfl, rfl, _, _, rfl, rfl, rfl⟩, ?_⟩
  exact H
theorem publicC {k : List UInt8} (H : Q (.tuple #[.string (str (publicR k).1), .int .i64 ((publicR k).2 : Nat)]) S) : CallWp Tryz.prog B 30 #[.string (str k)] Q S := by
  refine CallWp.enter (args := [_]) Tryz.func30 rfl Tryz.ntmps30 rfl ?_
  refine Wp.seq (Wp.region ?_)
  refine OWp.evs 2 rfl ?_
  refine OWp.nil ?_
  refine Wp.seq (Wp.region ?_)
  refine OWp.evs 1 rfl ?_
  refine OWp.step rfl (Step.call rfl rfl rfl rfl rfl rfl ((textNC (n := 9) (by decide) ?_)))
  refine OWp.step rfl (Step.call rfl rfl rfl rfl rfl rfl ((timesCC (u := base9) ?_)))
  refine OWp.evs 4 rfl ?_
  refine OWp.nil ?_
  refine Wp.ret ⟨trivial, _, ⟨_, _, rfl, rfl, _, _, rfl, rfl, rfl⟩, ?_⟩
  exact H
theorem sharedC {k u : List UInt8} (H : Q (.tuple #[.string (str (sharedR k u).1), .int .i64 ((sharedR k u).2 : Nat)]) S) : CallWp Tryz.prog B 43 #[.string (str k), .string (str u)] Q S := by
  unfold sharedR at H
  refine CallWp.enter (args := [_, _]) Tryz.func43 rfl Tryz.ntmps43 rfl ?_
  refine Wp.seq (Wp.region ?_)
  refine OWp.evs 2 rfl ?_
  refine OWp.nil ?_
  refine Wp.seq (Wp.region ?_)
  refine OWp.evs 2 rfl ?_
  refine OWp.step rfl (Step.call rfl rfl rfl rfl rfl rfl ((timesCC ?_)))
  refine OWp.evs 5 rfl ?_
  refine OWp.nil ?_
  refine Wp.seq ?_
  refine Wp.block ?_
  refine Wp.seq (Wp.region ?_)
  refine OWp.evs 3 rfl ?_
  refine OWp.nil ?_
  refine Wp.cond rfl (fun h1 => ?_) (fun h1 => ?_)
  · have h1 := ndT h1
    rw [if_pos (by omega)] at H
    refine Wp.seq (Wp.region ?_)
    refine OWp.evs 3 rfl ?_
    refine OWp.nil ?_
    refine Wp.ret ⟨trivial, _, ⟨_, _, rfl, rfl, _, _, rfl, rfl, rfl⟩, ?_⟩
    exact H
  have h1 := ndF h1
  rw [if_neg (by omega)] at H
  refine Wp.seq (Wp.region ?_)
  refine OWp.evs 1 rfl ?_
  refine OWp.step rfl (Step.call rfl rfl rfl rfl rfl rfl ((textNC (n := 0) (by decide) ?_)))
  refine OWp.evs 2 rfl ?_
  refine OWp.nil ?_
  refine Wp.cond rfl (fun h2 => ?_) (fun h2 => ?_)
  · have h2 := of_decide_eq_true h2
    rw [if_pos h2] at H
    refine Wp.seq (Wp.region ?_)
    refine OWp.evs 2 rfl ?_
    refine OWp.nil ?_
    refine Wp.ret ⟨trivial, _, ⟨_, _, rfl, rfl, _, _, rfl, rfl, rfl⟩, ?_⟩
    exact H
  have h2 := of_decide_eq_false h2
  rw [if_neg h2] at H
  have e : (timesR k u).2 = 0 := by omega
  rw [e] at H
  refine Wp.skip ?_
  refine Wp.seq (Wp.region ?_)
  refine OWp.evs 3 rfl ?_
  refine OWp.nil ?_
  refine Wp.ret ⟨trivial, _, ⟨_, _, rfl, rfl, _, _, rfl, rfl, rfl⟩, ?_⟩
  exact H
theorem chainGo_take {u : List UInt8} : ∀ (ks : List (List UInt8)) {i : Nat} (hi : i < ks.length) {v : List UInt8}, chainGo u ks = chainGo v (ks.drop i) → chainGo u ks = if (sharedR ks[i] v).2 ≠ 0 then ([], (sharedR ks[i] v).2) else chainGo (sharedR ks[i] v).1 (ks.drop (i + 1)) := by
  intro ks i hi v h
  rw [h, List.drop_eq_getElem_cons hi]
  rfl
set_option maxHeartbeats 2000000 in
theorem chainC {u : List UInt8} {ks : List (List UInt8)} {v : Value} (hr : Reads S 1 v ks.length (strs ks)) (hl : ks.length ≤ 1099511627776) (H : Q (.tuple #[.string (str (chainR u ks).1), .int .i64 ((chainR u ks).2 : Nat)]) S) : CallWp Tryz.prog B 66 #[.string (str u), v] Q S := by
  obtain ⟨va, vc, rfl⟩ := hr.form
  unfold chainR at H
  have hlc : (u :: ks).length = ks.length + 1 := rfl
  refine CallWp.dropRet ?_
  refine CallWp.enter (args := [_, _]) Tryz.func66 rfl Tryz.ntmps66 rfl ?_
  refine Wp.seq (Wp.region ?_)
  refine OWp.evs 2 rfl ?_
  refine OWp.nil ?_
  refine Wp.seq ?_
  refine Wp.seq (Wp.region ?_)
  refine OWp.evs 1 rfl ?_
  refine OWp.step rfl (Step.buildSlice rfl rfl rfl ?_); intro L hBL hLL
  refine OWp.evs 1 rfl ?_
  refine OWp.step rfl (Step.appendAt (es := [(L, cel [.string (str u)] 9)]) [] rfl rfl rfl rfl rfl rfl (by decide) rfl rfl (Own.row (k := 1) hBL rfl (by decide)) (hr.mono fun x hx => List.mem_append_right _ (.tail _ hx)) (strs_one ks) (by show (1 + _) * 16 ≤ _; omega) (by unfold maxLen; omega) ?_)
  intro v1 e1 ho1 _
  have hr1 : Reads e1 1 v1 (u :: ks).length (strs (u :: ks)) := by rw [List.length_cons, Nat.add_comm]; exact ho1.reads
  obtain ⟨wa, wc, rfl⟩ := hr1.form
  refine OWp.evs 2 rfl ?_
  refine OWp.nil ?_
  refine Wp.block ?_
  refine Wp.loopS (α := Nat) (fun i => (u :: ks).length - i) (fun i => [(0, .string (str u)), (1, .slice va ks.length vc), (15, .slice wa (u :: ks).length wc), (16, .int .i64 ((u :: ks).length : Int)), (17, .int .i64 (i : Int))]) (fun _ => e1 ++ S) (fun i => i ≤ (u :: ks).length ∧ ∀ s ∈ (u :: ks).take i, s.length = 32) 0 ?_ (.refl _) ⟨Nat.zero_le _, by simp⟩ ?_
  · exact .cons rfl (.cons rfl (.cons rfl (.cons rfl (.cons rfl (.nil _)))))
  rintro i ⟨hi, hall⟩
  refine Wp.seq (Wp.region ?_)
  refine OWp.evs 1 rfl ?_
  refine OWp.nil ?_
  refine Wp.seq ?_
  refine Wp.cond rfl (fun h1 => ?_) (fun h1 => ?_)
  · have h1 := of_decide_eq_true h1
    have hi1 : i < (u :: ks).length := by omega
    obtain ⟨b2, o2, c2, l2, t2, f2, hv2, hm2, _, hg2⟩ := hr1.get1 (by omega)
    cases hv2
    have hgi : l2[o2 + i * 1]? = some (.string (str (u :: ks)[i])) := by rw [hg2 i hi1]; exact strs_at hi1
    refine Wp.skip ?_
    refine Wp.seq ?_
    refine Wp.block ?_
    refine Wp.seq (Wp.region ?_)
    refine OWp.g rfl rfl (Gives.indexAddrSlice (i) rfl rfl rfl rfl rfl rfl (by omega)) ?_
    refine OWp.load (List.mem_append_left _ hm2) rfl rfl rfl rfl hgi ?_
    refine OWp.evs 1 rfl ?_
    refine OWp.nil ?_
    refine Wp.seq (Wp.region ?_)
    refine OWp.evs 3 rfl ?_
    refine OWp.nil ?_
    refine Wp.cond rfl (fun h2 => ?_) (fun h2 => ?_)
    · have h2 := ndT h2
      have hno : ¬ ∀ s ∈ u :: ks, s.length = 32 := fun h => h2 (by have := h _ (List.getElem_mem hi1); omega)
      rw [if_pos hno] at H
      refine Wp.seq (Wp.region ?_)
      refine OWp.evs 2 rfl ?_
      refine OWp.nil ?_
      refine Wp.ret ⟨trivial, _, ⟨_, _, rfl, rfl, _, _, rfl, rfl, rfl⟩, ?_⟩
      exact ⟨S, List.sublist_append_right _ _, H⟩
    have h2 := ndF h2
    refine Wp.skip ?_
    refine Wp.region ?_
    refine OWp.evs 2 rfl ?_
    refine OWp.nil ?_
    refine ⟨i + 1, by omega, ⟨by omega, ?_⟩, .cons rfl (.cons rfl (.cons rfl (.cons rfl (.cons' rfl (int_eq (by rw [i64_id] <;> omega)) (.nil _))))), .refl _⟩
    intro s hs
    rw [List.take_succ_eq_append_getElem hi1] at hs
    rcases List.mem_append.1 hs with hs | hs
    · exact hall s hs
    · rw [List.mem_singleton.1 hs]; omega
  have h1 := of_decide_eq_false h1
  obtain rfl : i = (u :: ks).length := by omega
  rw [List.take_length] at hall
  rw [if_neg (by simpa using hall)] at H
  refine Wp.exit ?_
  refine Wp.seq ?_
  refine Wp.seq (Wp.region ?_)
  refine OWp.evs 3 rfl ?_
  refine OWp.nil ?_
  refine Wp.cond rfl (fun h3 => ?_) (fun h3 => ?_)
  · have h3 := of_decide_eq_true h3
    rw [if_pos (by omega)] at H
    refine Wp.seq (Wp.region ?_)
    refine OWp.evs 2 rfl ?_
    refine OWp.nil ?_
    refine Wp.ret ⟨trivial, _, ⟨_, _, rfl, rfl, _, _, rfl, rfl, rfl⟩, ?_⟩
    exact ⟨S, List.sublist_append_right _ _, H⟩
  have h3 := of_decide_eq_false h3
  rw [if_neg (by omega)] at H
  refine Wp.skip ?_
  refine Wp.seq ?_
  refine Wp.seq (Wp.region ?_)
  refine OWp.evs 3 rfl ?_
  refine OWp.nil ?_
  refine Wp.block ?_
  refine Wp.loopS (α := Nat × List UInt8) (fun z => ks.length - z.1) (fun z => [(0, .string (str z.2)), (28, .slice va ks.length vc), (29, .int .i64 (ks.length : Int)), (30, .int .i64 (z.1 : Int))]) (fun _ => e1 ++ S) (fun z => z.1 ≤ ks.length ∧ chainGo u ks = chainGo z.2 (ks.drop z.1)) (0, u) ?_ (.refl _) ⟨Nat.zero_le _, rfl⟩ ?_
  · exact .cons rfl (.cons rfl (.cons rfl (.cons rfl (.nil _))))
  rintro ⟨i, x⟩ ⟨hi, hc⟩
  simp only at hi hc ⊢
  refine Wp.seq (Wp.region ?_)
  refine OWp.evs 1 rfl ?_
  refine OWp.nil ?_
  refine Wp.seq ?_
  refine Wp.cond rfl (fun h4 => ?_) (fun h4 => ?_)
  · have h4 := of_decide_eq_true h4
    have hi1 : i < ks.length := by omega
    have hcc := chainGo_take ks hi1 hc
    obtain ⟨b2, o2, c2, l2, t2, f2, hv2, hm2, _, hg2⟩ := hr.get1 (by omega)
    cases hv2
    have hgi : l2[o2 + i * 1]? = some (.string (str ks[i])) := by rw [hg2 i hi1]; exact strs_at hi1
    refine Wp.skip ?_
    refine Wp.seq ?_
    refine Wp.block ?_
    refine Wp.seq (Wp.region ?_)
    refine OWp.g rfl rfl (Gives.indexAddrSlice (i) rfl rfl rfl rfl rfl rfl (by omega)) ?_
    refine OWp.load (List.mem_append_right _ hm2) rfl rfl rfl rfl hgi ?_
    refine OWp.evs 1 rfl ?_
    refine OWp.nil ?_
    refine Wp.seq (Wp.region ?_)
    refine OWp.evs 2 rfl ?_
    refine OWp.step rfl (Step.call rfl rfl rfl rfl rfl rfl ((sharedC ?_)))
    refine OWp.evs 5 rfl ?_
    refine OWp.nil ?_
    refine Wp.seq ?_
    refine Wp.seq (Wp.region ?_)
    refine OWp.evs 2 rfl ?_
    refine OWp.nil ?_
    refine Wp.cond rfl (fun h5 => ?_) (fun h5 => ?_)
    · have h5 := ndT h5
      rw [if_pos (by omega)] at hcc
      rw [hcc] at H
      refine Wp.seq (Wp.region ?_)
      refine OWp.evs 3 rfl ?_
      refine OWp.nil ?_
      refine Wp.ret ⟨trivial, _, ⟨_, _, rfl, rfl, _, _, rfl, rfl, rfl⟩, ?_⟩
      exact ⟨S, List.sublist_append_right _ _, H⟩
    have h5 := ndF h5
    rw [if_neg (by omega)] at hcc
    refine Wp.skip ?_
    refine Wp.region ?_
    refine OWp.evs 2 rfl ?_
    refine OWp.nil ?_
    refine Wp.region ?_
    refine OWp.evs 2 rfl ?_
    refine OWp.nil ?_
    exact ⟨(i + 1, (sharedR ks[i] x).1), by simp only; omega, ⟨by simp only; omega, hcc⟩, .cons rfl (.cons rfl (.cons rfl (.cons' rfl (int_eq (by simp only; rw [i64_id] <;> omega)) (.nil _)))), .refl _⟩
  have h4 := of_decide_eq_false h4
  obtain rfl : i = ks.length := by omega
  rw [List.drop_length] at hc
  rw [hc] at H
  refine Wp.exit ?_
  refine Wp.seq (Wp.region ?_)
  refine OWp.evs 3 rfl ?_
  refine OWp.nil ?_
  refine Wp.ret ⟨trivial, _, ⟨_, _, rfl, rfl, _, _, rfl, rfl, rfl⟩, ?_⟩
  exact ⟨S, List.sublist_append_right _ _, H⟩
end
end Go.Proofs.D

namespace Go.Proofs.D
open Go.Lg Go.Cv Go.Nm
open Go.Proofs.C (zi zi_length zi_one zi_append)
set_option maxRecDepth 100000
def pairRow (L x z : Nat) : Nat × Obj := (L, cel (prC x z) 145)
attribute [local irreducible] dg le32
section
variable {B : Nat} {S R : Ents} {Q : Value → Ents → Prop}
end
end Go.Proofs.D
