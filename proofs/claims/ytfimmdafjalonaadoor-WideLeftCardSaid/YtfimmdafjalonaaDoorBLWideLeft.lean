/- What functions of the given program do, one after the other, told by that layer. -/
import Derived.Test.YtfimmdafjalonaaDoorBLaw0
namespace Go.Proofs.D
open Go.Lg Go.Sha
set_option maxRecDepth 100000
section
variable {B : Nat} {S : Ents}

theorem wideLeftL {key block : List UInt8} {at' : Int} (hk : KsIn S) (h1 : key.length + 1000 ≤ big) (h2 : block.length + 1000 ≤ big) :
    CallWp Tryd.prog B 8 #[.string (str key), .string (str block), .int .i64 at'] (fun v _ => v = .bool true) S := by
  have hb : big = 281474976710656 := rfl
  by_cases c1 : block.length < 64
  · skip
    refine CallWp.enter (args := [_, _, _]) Tryd.func8 rfl Tryd.ntmps8 rfl ?_
    refine Wp.seq (Wp.region ?_)
    refine OWp.evs 1 rfl ?_
    refine OWp.nil ?_
    refine Wp.seq ?_
    refine Wp.seq (Wp.region ?_)
    refine OWp.step rfl (Step.call rfl rfl rfl rfl rfl rfl ((wworksC hk ?_)))
    refine OWp.evs 1 rfl ?_
    refine OWp.nil ?_
    refine Wp.cond rfl (fun c => nomatch c) (fun _ => ?_)
    refine Wp.skip ?_
    refine Wp.seq ?_
    refine Wp.seq (Wp.region ?_)
    refine OWp.evs 4 rfl ?_
    refine OWp.part 17 rfl (fun cc1 => ?_) (fun cc1 => absurd (of_decide_eq_false cc1) (by omega))
    have cc1 := of_decide_eq_true cc1
    refine OWp.evs 4 rfl ?_
    refine OWp.nil ?_
    refine Wp.cond rfl (fun _ => ?_) (fun c => nomatch c)
    refine Wp.seq (Wp.region ?_)
    refine OWp.evs 1 rfl ?_
    refine OWp.nil ?_
    refine Wp.ret ⟨trivial, _, ⟨_, _, rfl, rfl, rfl⟩, ?_⟩
    rfl
  by_cases c2 : 8192 < block.length
  · skip
    refine CallWp.enter (args := [_, _, _]) Tryd.func8 rfl Tryd.ntmps8 rfl ?_
    refine Wp.seq (Wp.region ?_)
    refine OWp.evs 1 rfl ?_
    refine OWp.nil ?_
    refine Wp.seq ?_
    refine Wp.seq (Wp.region ?_)
    refine OWp.step rfl (Step.call rfl rfl rfl rfl rfl rfl ((wworksC hk ?_)))
    refine OWp.evs 1 rfl ?_
    refine OWp.nil ?_
    refine Wp.cond rfl (fun c => nomatch c) (fun _ => ?_)
    refine Wp.skip ?_
    refine Wp.seq ?_
    refine Wp.seq (Wp.region ?_)
    refine OWp.evs 4 rfl ?_
    refine OWp.part 17 rfl (fun cc1 => absurd (of_decide_eq_true cc1) (by omega)) (fun cc1 => ?_)
    have cc1 := of_decide_eq_false cc1
    refine OWp.evs 4 rfl ?_
    refine OWp.nil ?_
    refine Wp.cond rfl (fun cc2 => ?_) (fun cc2 => absurd (of_decide_eq_false cc2) (by omega))
    have cc2 := of_decide_eq_true cc2
    refine Wp.seq (Wp.region ?_)
    refine OWp.evs 1 rfl ?_
    refine OWp.nil ?_
    refine Wp.ret ⟨trivial, _, ⟨_, _, rfl, rfl, rfl⟩, ?_⟩
    rfl
  have eu : IntKind.u64.wrap (block.length : Int) = (block.length : Int) := by rw [IntKind.wrap_u64]; omega
  have hp := umod_lt at' (m := block.length) (by omega)
  have ep := umod_eq at' (m := block.length) (by omega) (by omega)
  obtain ⟨p, hp0⟩ : ∃ p, p = umod at' block.length := ⟨_, rfl⟩
  rw [← hp0] at hp ep
  obtain ⟨b2, hb2⟩ : ∃ b2, b2 = block.set p (block.getD p 0 ^^^ 1) := ⟨_, rfl⟩
  have hl2 : b2.length = block.length := by rw [hb2, List.length_set]
  have hne : block ≠ b2 := by
    intro e
    have e1 : block.getD p 0 = b2.getD p 0 := by rw [← e]
    rw [hb2, List.getD_eq_getElem?_getD, List.getD_eq_getElem?_getD, List.getElem?_set_self hp, List.getElem?_eq_getElem hp] at e1
    simp only [Option.getD_some] at e1
    have e2 : ∀ z : UInt8, z = z ^^^ 1 → False := fun z h => by
      have h2 : z ^^^ z = z ^^^ (z ^^^ 1) := by rw [← h]
      rw [← UInt8.xor_assoc, UInt8.xor_self, UInt8.zero_xor] at h2
      exact absurd h2 (by decide)
    exact e2 _ e1
  refine CallWp.enter (args := [_, _, _]) Tryd.func8 rfl Tryd.ntmps8 rfl ?_
  refine Wp.seq (Wp.region ?_)
  refine OWp.evs 1 rfl ?_
  refine OWp.nil ?_
  refine Wp.seq ?_
  refine Wp.seq (Wp.region ?_)
  refine OWp.step rfl (Step.call rfl rfl rfl rfl rfl rfl ((wworksC hk ?_)))
  refine OWp.evs 1 rfl ?_
  refine OWp.nil ?_
  refine Wp.cond rfl (fun c => nomatch c) (fun _ => ?_)
  refine Wp.skip ?_
  refine Wp.seq ?_
  refine Wp.seq (Wp.region ?_)
  refine OWp.evs 4 rfl ?_
  refine OWp.part 17 rfl (fun cc1 => absurd (of_decide_eq_true cc1) (by omega)) (fun cc1 => ?_)
  have cc1 := of_decide_eq_false cc1
  refine OWp.evs 4 rfl ?_
  refine OWp.nil ?_
  refine Wp.cond rfl (fun cc2 => absurd (of_decide_eq_true cc2) (by omega)) (fun cc2 => ?_)
  have cc2 := of_decide_eq_false cc2
  refine Wp.skip ?_
  refine Wp.seq (Wp.region ?_)
  refine OWp.evs 1 rfl ?_
  refine OWp.step rfl (Step.strToBytes rfl rfl rfl rfl rfl rfl ?_); intro L g cap hBL hLL hcL
  refine OWp.evs 1 rfl ?_
  refine OWp.nil ?_
  refine Wp.seq (Wp.region ?_)
  refine OWp.evs 6 rfl ?_
  refine OWp.g rfl rfl (Gives.rem rfl rfl rfl (by rw [eu]; omega)) ?_
  rw [eu]
  refine OWp.evs 1 rfl ?_
  refine OWp.g rfl rfl (Gives.indexAddrSlice (p) rfl rfl rfl rfl rfl ep (by omega)) ?_
  refine OWp.load (.head _) rfl rfl rfl rfl (by show (byteCells block ++ g)[0 + p * 1]? = some (.int .u8 ((block.getD p 0).toNat : Int)); rw [Nat.zero_add, Nat.mul_one, bc_get hp, List.getD_eq_getElem?_getD, List.getElem?_eq_getElem hp]; rfl) ?_
  refine OWp.evs 1 rfl ?_
  refine OWp.g rfl rfl (Gives.indexAddrSlice (p) rfl rfl rfl rfl rfl ep (by omega)) ?_
  refine OWp.step rfl (Step.storeAs 0 (byteCells b2 ++ g) rfl rfl rfl rfl rfl hBL rfl (.inr (by rw [← hcL]; exact Nat.le_refl _)) rfl (by rw [List.length_append, byteCells_length]; show 0 + p * 1 + 1 ≤ _; omega) (by rw [hb2]; exact bc_set hp (xor8 (block.getD p 0) 1) (by show 0 + p * 1 = p; omega)) rfl ?_)
  refine OWp.nil ?_
  refine Wp.seq (Wp.region ?_)
  refine OWp.evs 2 rfl ?_
  refine OWp.step rfl (Step.call rfl rfl rfl rfl rfl rfl ((wshutC hk.cons h1 ?_)))
  rw [blockR_ok (by omega) (by omega)]
  dsimp only
  refine OWp.evs 5 rfl ?_
  refine OWp.nil ?_
  refine Wp.seq (Wp.region ?_)
  refine OWp.evs 2 rfl ?_
  refine OWp.gives rfl rfl (Gives.bytesToStr (F := (L, cel (byteCells b2 ++ g) 5 (cap, cap + 1)) :: S) (l := b2) (k := block.length) rfl rfl rfl rfl rfl (by have := Reads.row (S := (L, cel (byteCells b2 ++ g) 5 (cap, cap + 1)) :: S) (sz := 1) (k := block.length) (cap := cap) (.head _) (by rw [List.length_append, byteCells_length]; omega); rw [Nat.mul_one, List.take_append_of_le_length (by rw [byteCells_length]; omega), List.take_of_length_le (by rw [byteCells_length]; omega)] at this; exact this)) (fun _ h => h) ?_
  refine OWp.step rfl (Step.call rfl rfl rfl rfl rfl rfl ((wshutC (block := b2) hk.cons h1 ?_)))
  rw [blockR_ok (by omega) (by omega)]
  dsimp only
  refine OWp.evs 5 rfl ?_
  refine OWp.nil ?_
  refine Wp.seq (Wp.region ?_)
  refine OWp.evs 3 rfl ?_
  refine OWp.part 51 rfl (fun cc3 => ?_) (fun cc3 => absurd (of_decide_eq_false cc3) (by decide))
  have cc3 := of_decide_eq_true cc3
  refine OWp.evs 4 rfl ?_
  refine OWp.part 55 rfl (fun cc4 => ?_) (fun cc4 => absurd (of_decide_eq_false cc4) (by decide))
  have cc4 := of_decide_eq_true cc4
  refine OWp.evs 5 rfl ?_
  refine OWp.nil ?_
  refine Wp.ret ⟨trivial, _, ⟨_, _, rfl, rfl, rfl⟩, ?_⟩
  have hd : decide (wshut key block = wshut key b2) = false := decide_eq_false fun h => hne (wshut_inj key (by omega) (by omega) h)
  exact congrArg Value.bool (by rw [hd]; rfl)
theorem wideLeftW {key block : ByteArray} {at' : Int} (hk : KsIn S) (h0 : Rd Tryd.prog S 9 [.string key]) (h1 : Rd Tryd.prog S 9 [.string block]) (_h2 : Rd Tryd.prog S 3 [.int .i64 at']) :
    CallWp Tryd.prog B 8 #[.string key, .string block, .int .i64 at'] (fun v _ => v = .bool true) S := by
  obtain ⟨s, rfl, hs⟩ := rdStrB h0
  obtain ⟨t, rfl, ht⟩ := rdStrB h1
  exact wideLeftL hk (by omega) (by omega)
end
end Go.Proofs.D
