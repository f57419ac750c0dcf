/- The statement MixPool of the given program, out of the walk of its code; and its card, tied to the program's text. -/
import Derived.Test.YtkjaehdfmmcgmaaGreatDoorRows
import Derived.Test.YtkjaehdfmmcgmaaGreatDoorCards
import Derived.Test.YtkjaehdfmmcgmaaGreatDoorTie
import Derived.Test.YtkjaehdfmmcgmaaGreatDoorMM13xe0a1
import Derived.Test.YtkjaehdfmmcgmaaGreatDoorLgM2x52c3
import Derived.Test.YtkjaehdfmmcgmaaGreatDoorMHead
import Derived.WalkKit
import Derived.ProofKit
import Derived.OpenShut
import Derived.ShutString
import Derived.ChangeOld
import Derived.Below
import Derived.SizedLaws
import Derived.SevenTiedAt
namespace Go.Proofs.YtkjaehdfmmcgmaaGreatDoor.MixPool
open Go.ChangeShapes Go.WideShapes Go.ChangeAt Go.RowKit
open Go.ChangeMaps (open_string shut_string)
theorem own : ownKnob Tryz.prog.godebug = none := by kernel_rfl
theorem laidOut : laidOutB Tryz.prog = true := by kernel_rfl
theorem bit {H : Type} {enc : TypeId × Value → H} {P : Program} {t : TypeId} (h : P.underlying t = some .bool) {W : World} {base : Nat} {sp : Nat → Bool} {held : Bool} (b : Bool) : DataW.Trod enc P W base sp held t (.bool b) (.lit (.bool b)) [] := ⟨1, by simp [DataW.trod, Value.cells, h]⟩
set_option maxRecDepth 100000 in
theorem lifted (os : Os) (started : os.Started) (H : Type) (enc : TypeId × Value → H) :
    ReturnsInHanded {} Tryz.checked os 4 .any (fun w args => (Rows.mixPoolSpec.pre enc Tryz.prog Tryz.f4 [] false w args ∧ laidMetH Tryz.prog D.Laid w) ∧ sizedMet enc Tryz.prog Tryz.f4 (OpenSpec.ofChange Rows.mixPoolSpec) false w args) (Rows.mixPoolSpec.post enc Tryz.prog Tryz.f4 false true false false) := by
  refine returnsInHanded_of_change_and (C := Tryz.checked) (X := fun w _ => laidMetH Tryz.prog D.Laid w) (fun _ _ _ hh h => h.of_heap hh) own started (by kernel_rfl) Tryz.func4
    (ChangeSpec.witness_shaped (enc := enc) (C := Tryz.checked) (os := os) (X := fun w _ => laidMetH Tryz.prog D.Laid w) false (D.laidWorld os) #[.int .i64 0, .int .i64 0] 8 rfl (D.laid_shaped os _) (by kernel_rfl) (by kernel_rfl) (by kernel_rfl) (D.laid_met os _)) ?_
  intro W base args ds gs before hval0 hW hcnd hsz0 hL _
  have hks := D.of_laid hL
  have hsz : (DataW.weightsEach Tryz.prog (Tryz.f4.params.toList ++ Rows.mixPoolSpec.plain.varTypes Tryz.prog) (ds ++ gs)).all (· ≤ reachBytes) = true := hsz0
  have hval : ∀ (j : Nat) t v, Tryz.f4.params[j]? = some t → args[j]? = some v → Value.okWide Tryz.prog W .any base t v := hval0
  have hW' := hW
  obtain ⟨p, q, hA0, hV, rfl, hfz, hnd⟩ := hW
  have hA : DataW.TrodAll enc Tryz.prog W 0 (fun _ => true) true Tryz.f4.params.toList args.toList ds p := hA0
  rw [Tryz.params4] at hA hval hsz
  obtain ⟨v0, vs0, d0, ds0, p0, q0, hargs, rfl, rfl, h0, r0⟩ := trodAll_cons hA
  obtain ⟨v1, vs1, d1, ds1, p1, q1, rfl, rfl, rfl, h1, r1⟩ := trodAll_cons r0
  obtain ⟨rfl, rfl, rfl⟩ := trodAll_nil r1
  obtain rfl : args = #[v0, v1] := by cases args; simp_all
  obtain ⟨rfl, rfl⟩ := trodVars_none hV
  have k0 := h0
  have lt0 : ∀ x ∈ p0, x.block < W.heap.size := by obtain ⟨m, hm⟩ := k0; exact DataW.trod_lt m _ _ _ hm
  have hv0 := hval 0 3 v0 rfl rfl
  have rd0 := Lg.Rd.of_arg (m := 8) (j := 0) (t := 3) (by kernel_rfl) h0 hsz rfl rfl
  obtain ⟨a0, rfl⟩ := okWide_int Tryz.underlying3 hv0
  have k1 := h1
  have lt1 : ∀ x ∈ p1, x.block < W.heap.size := by obtain ⟨m, hm⟩ := k1; exact DataW.trod_lt m _ _ _ hm
  have hv1 := hval 1 3 v1 rfl rfl
  have rd1 := Lg.Rd.of_arg (m := 8) (j := 1) (t := 3) (by kernel_rfl) h1 hsz rfl rfl
  obtain ⟨a1, rfl⟩ := okWide_int Tryz.underlying3 hv1
  clear hA0 hval0 hsz0 hsz
  refine ((D.mixPoolW hks rd0 rd1 : Lg.CallWp Tryz.prog W.heap.size 4 #[.int .i64 a0, .int .i64 a1] (fun v _ => v = .bool true) (Lg.All W)) W (Lg.All.sim W)).mono fun e W' ⟨v, S', he, bel, _, hv⟩ => ?_
  subst he hv
  exact ⟨_, rfl, _, _, _, [], _, [], hW', trodAll_mk1 (bit Tryz.underlying4 _), (trodAll_cons_mk (Below.trod laidOut (by kernel_rfl) (of_decide_eq_true (by kernel_rfl)) k0 bel lt0) (trodAll_mk1 (Below.trod laidOut (by kernel_rfl) (of_decide_eq_true (by kernel_rfl)) k1 bel lt1))), rfl, bel.frame _, fun h => by cases h⟩
theorem closed : joinedFacts Tryz.prog 4 Tryz.f4 Rows.mixPoolSpec Rows.mixPoolRow = true := by
  unfold joinedFacts
  exact Head.split7 (by kernel_rfl) Head.mayEnter (Head.lifted_of Head.liftsFinal rfl) (Head.make_is Head.make rfl) (by kernel_rfl) (by kernel_rfl) (by kernel_rfl) (by kernel_rfl)
theorem over : Rows.mixPoolRow.holds Tryz.pinned (OpenSpec.ofChange Rows.mixPoolSpec) :=
  OpenClaim.holds_of_wide 4 Tryz.f4 rfl rfl rfl rfl rfl rfl rfl ⟨rfl, rfl, rfl, rfl, rfl⟩ rfl rfl rfl rfl rfl (by kernel_rfl) Tryz.func4 closed
    (of_decide_eq_true (by kernel_rfl)) (by unfold Func.isWrapper; rw [if_neg (of_decide_eq_false (by kernel_rfl))]; exact ⟨rfl, rfl⟩)
    (fun os started H enc _ => lifted os started H enc)
theorem card : Claim7.holds Tryz.pinned (.plain (OpenSpec.ofChange Rows.mixPoolSpec)) Rows.mixPoolCard :=
  Claim7.holds_tied_plain_at .later [] [.data, .data, .pinned] true (true, "a2dd2352d290b527a9167307ec01d186b1982955b4d0ca4b4d8758b9de1c8160") false
    over (fun _ h => by cases h) (by kernel_rfl) (fun _ h => by cases h) mixPool_row_tie rfl ⟨rfl, rfl⟩ (by kernel_rfl) rfl
    (fun f fn hf hfn => by
      obtain rfl : f = 4 := Option.some.inj ((show Tryz.prog.funcNamed "dovecote/dovecotelaw19.MixPool" = some 4 by kernel_rfl).symm.trans hf) |>.symm
      obtain rfl : fn = Tryz.f4 := (Option.some.inj (Tryz.func4.symm.trans hfn)).symm
      exact ⟨by kernel_rfl, fun j t ht => by
        rw [Tryz.params4] at ht
        have hm : t ∈ [3, 3] := by simpa using Array.mem_of_getElem? ht
        have hall : ([3, 3].all fun u => !Tryz.prog.wantsStandIn u) = true := by kernel_rfl
        exact (show Tryz.prog.wantsStandIn t = false by simpa using List.all_eq_true.1 hall t hm)⟩)
    (by kernel_rfl)
theorem proved : Rows.MixPoolCardSaid := card
end Go.Proofs.YtkjaehdfmmcgmaaGreatDoor.MixPool
namespace Go.Proofs.YtkjaehdfmmcgmaaGreatDoor
theorem mixPool_holds : Rows.MixPoolCardSaid := MixPool.proved
#print axioms mixPool_holds
end Go.Proofs.YtkjaehdfmmcgmaaGreatDoor
