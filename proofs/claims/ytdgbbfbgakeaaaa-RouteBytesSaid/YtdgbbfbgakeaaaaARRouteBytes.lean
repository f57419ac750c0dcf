/- The statement RouteBytes of the given program, out of the walk of its code. -/
import Derived.Test.YtdgbbfbgakeaaaaRows
import Derived.Test.YtdgbbfbgakeaaaaALRouteBytes
import Derived.Test.YtdgbbfbgakeaaaaLgRow
import Derived.Test.YtdgbbfbgakeaaaaAHead
import Derived.WalkKit
import Derived.ProofKit
import Derived.OpenShut
import Derived.ShutString
import Derived.ChangeOld
import Derived.Below
import Derived.SizedLaws
namespace Go.Proofs.Ytdgbbfbgakeaaaa.RouteBytes
open Go.ChangeShapes Go.WideShapes Go.ChangeAt Go.RowKit
open Go.ChangeMaps (open_string shut_string)
theorem own : ownKnob Try.prog.godebug = none := by kernel_rfl
theorem laidOut : laidOutB Try.prog = true := by kernel_rfl
theorem bit {H : Type} {enc : TypeId × Value → H} {P : Program} {t : TypeId} (h : P.underlying t = some .bool) {W : World} {base : Nat} {sp : Nat → Bool} {held : Bool} (b : Bool) : DataW.Trod enc P W base sp held t (.bool b) (.lit (.bool b)) [] := ⟨1, by simp [DataW.trod, Value.cells, h]⟩
set_option maxRecDepth 100000 in
theorem lifted (os : Os) (started : os.Started) (H : Type) (enc : TypeId × Value → H) :
    ReturnsInHanded {} Try.checked os 11 .any (Rows.routeBytesSpec.pre6 enc Try.prog Try.f11 Rows.routeBytesRow.domain false) (Rows.routeBytesSpec.post enc Try.prog Try.f11 false true false false) := by
  refine returnsInHanded_of_change_sized (C := Try.checked) own started (by kernel_rfl) Try.func11
    (ChangeSpec.witness6 (enc := enc) (C := Try.checked) false ⟨#[], #[.agg #[.int .i64 0, .int .i64 0, .int .i64 0, .int .i64 0, .string ByteArray.empty]], []⟩ 8 (by kernel_rfl) (by kernel_rfl) (by kernel_rfl) (by kernel_rfl)) ?_
  intro W base args ds gs before hval0 hW hcnd hsz0 _
  have hsz : (DataW.weightsEach Try.prog (Try.f11.params.toList ++ Rows.routeBytesSpec.plain.varTypes Try.prog) (ds ++ gs)).all (· ≤ reachBytes) = true := hsz0
  have hval : ∀ (j : Nat) t v, Try.f11.params[j]? = some t → args[j]? = some v → Value.okWide Try.prog W .any base t v := hval0
  have hW' := hW
  obtain ⟨p, q, hA0, hV, rfl, hfz, hnd⟩ := hW
  have hA : DataW.TrodAll enc Try.prog W 0 (fun _ => true) true Try.f11.params.toList args.toList ds p := hA0
  rw [Try.params11] at hA hval hsz
  obtain ⟨v0, vs0, d0, ds0, p0, q0, hargs, rfl, rfl, h0, r0⟩ := trodAll_cons hA
  obtain ⟨rfl, rfl, rfl⟩ := trodAll_nil r0
  obtain rfl : args = #[v0] := by cases args; simp_all
  obtain ⟨rfl, rfl⟩ := trodVars_none hV
  have k0 := h0
  have lt0 : ∀ x ∈ p0, x.block < W.heap.size := by obtain ⟨m, hm⟩ := k0; exact DataW.trod_lt m _ _ _ hm
  have hv0 := hval 0 63 v0 rfl rfl
  have rd0 := Lg.Rd.of_arg (m := 8) (j := 0) (t := 63) (by kernel_rfl) h0 hsz rfl rfl
  obtain ⟨a0, rfl, len0⟩ := okWide_struct Try.underlying63 hv0
  clear hA0 hval0 hsz0 hsz
  refine ((C.routeBytesW rd0 : Lg.CallWp Try.prog W.heap.size 11 #[.agg a0] (fun v _ => v = .bool true) (Lg.All W)) W (Lg.All.sim W)).mono fun e W' ⟨v, S', he, bel, _, hv⟩ => ?_
  subst he hv
  exact ⟨_, rfl, _, _, _, [], _, [], hW', trodAll_mk1 (bit Try.underlying4 _), (trodAll_mk1 (Below.trod laidOut (by kernel_rfl) (of_decide_eq_true (by kernel_rfl)) k0 bel lt0)), rfl, bel.frame _, fun h => by cases h⟩
theorem closed : joinedFacts Try.prog 11 Try.f11 Rows.routeBytesSpec Rows.routeBytesRow = true := by
  unfold joinedFacts
  exact Head.split7 (by kernel_rfl) Head.mayEnter (Head.lifted_of Head.liftsFinal rfl) (Head.make_is Head.make rfl) (by kernel_rfl) (by kernel_rfl) (by kernel_rfl) (by kernel_rfl)
theorem over : Rows.routeBytesRow.holds Try.pinned (OpenSpec.ofChange Rows.routeBytesSpec) :=
  OpenClaim.holds_of_wide 11 Try.f11 rfl rfl rfl rfl rfl rfl rfl ⟨rfl, rfl, rfl, rfl, rfl⟩ rfl rfl rfl rfl rfl (by kernel_rfl) Try.func11 closed
    (of_decide_eq_true (by kernel_rfl)) (by unfold Func.isWrapper; rw [if_neg (of_decide_eq_false (by kernel_rfl))]; exact ⟨rfl, rfl⟩)
    (fun os started H enc _ => lifted os started H enc)
theorem proved : Rows.RouteBytesSaid := over
end Go.Proofs.Ytdgbbfbgakeaaaa.RouteBytes
namespace Go.Proofs.Ytdgbbfbgakeaaaa
theorem routeBytes_holds : Rows.RouteBytesSaid := RouteBytes.proved
#print axioms routeBytes_holds
end Go.Proofs.Ytdgbbfbgakeaaaa
