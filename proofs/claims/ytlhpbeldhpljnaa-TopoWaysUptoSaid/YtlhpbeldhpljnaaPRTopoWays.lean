/- The statement TopoWays of the given program, out of the walk of its code. -/
import Derived.Test.YtlhpbeldhpljnaaRows
import Derived.Test.YtlhpbeldhpljnaaPLTopoWays
import Derived.Test.YtlhpbeldhpljnaaLgM2x164e
import Derived.Test.YtlhpbeldhpljnaaLgM3x1d93
import Derived.Test.YtlhpbeldhpljnaaPHead
import Derived.WalkKit
import Derived.ProofKit
import Derived.OpenShut
import Derived.ShutString
import Derived.ChangeOld
import Derived.Below
import Derived.SizedLaws
import Derived.Deep.CondSized
import Derived.JoinedCond
namespace Go.Proofs.Ytlhpbeldhpljnaa.TopoWays
open Go.ChangeShapes Go.WideShapes Go.ChangeAt Go.RowKit
open Go.ChangeMaps (open_string shut_string)
theorem own : ownKnob Try.prog.godebug = none := by kernel_rfl
theorem laidOut : laidOutB Try.prog = true := by kernel_rfl
theorem bit {H : Type} {enc : TypeId × Value → H} {P : Program} {t : TypeId} (h : P.underlying t = some .bool) {W : World} {base : Nat} {sp : Nat → Bool} {held : Bool} (b : Bool) : DataW.Trod enc P W base sp held t (.bool b) (.lit (.bool b)) [] := ⟨1, by simp [DataW.trod, Value.cells, h]⟩
theorem bulk1 {H : Type} (d : DataW H) : 1 ≤ Rows.uptoBulk d := by
  cases d with
  | lit l => cases l <;> simp [Rows.uptoBulk]
  | nil => simp [Rows.uptoBulk]
  | ptr d => simp [Rows.uptoBulk]
  | slice elems spare => simp [Rows.uptoBulk]
  | agg parts => simp [Rows.uptoBulk]
  | iface t d => simp [Rows.uptoBulk]
  | map entries => simp [Rows.uptoBulk]
  | held h => simp [Rows.uptoBulk]
theorem bulkAll {H : Type} : ∀ l : List (DataW H), Rows.uptoBulkAll l = (l.map Rows.uptoBulk).sum
  | [] => by simp [Rows.uptoBulkAll]
  | d :: l => by simp [Rows.uptoBulkAll, bulkAll l]
theorem bulk2 {H : Type} (e s : List (DataW H)) : (e.map Rows.uptoBulk).sum + 1 ≤ Rows.uptoBulk (.slice e s) := by
  rw [← bulkAll]; simp only [Rows.uptoBulk]; omega
theorem bulkIn {H : Type} : ∀ (ps : List (DataW H)) (x : DataW H), x ∈ ps → Rows.uptoBulk x ≤ Rows.uptoBulkAll ps
  | p :: ps, x, h => by
    simp only [Rows.uptoBulkAll]
    rcases List.mem_cons.1 h with rfl | h
    · omega
    · have := bulkIn ps x h; omega
theorem bulk3 {H : Type} (ps : List (DataW H)) (x : DataW H) (h : x ∈ ps) : Rows.uptoBulk x ≤ Rows.uptoBulk (.agg ps) := by
  have := bulkIn ps x h
  simp only [Rows.uptoBulk]; omega
set_option maxRecDepth 100000 in
theorem lifted (os : Os) (started : os.Started) (H : Type) (enc : TypeId × Value → H) (F : Stop.Interp) :
    ReturnsInHanded {} Try.checked os 4 .any ((Rows.OpenSpec.upto Rows.topoWaysSpec).pre6 enc Try.prog Try.f4 Rows.topoWaysUptoRow.domain false) (((Rows.OpenSpec.upto Rows.topoWaysSpec).at F).post enc Try.prog Try.f4 false true false false) := by
  refine returnsInHanded_of_cond_sized (C := Try.checked) (s := Rows.OpenSpec.upto Rows.topoWaysSpec) (k := Rows.uptoSmall) rfl own started (by kernel_rfl) Try.func4
    (OpenSpec.witness (enc := enc) (C := Try.checked) (s := Rows.OpenSpec.upto Rows.topoWaysSpec) (k := Rows.uptoSmall) rfl false ⟨#[], #[.agg #[.slice none 0 0, .slice none 0 0, .slice none 0 0], .agg #[.int .i64 0, .int .i64 0, .int .i64 0], .agg #[.string ByteArray.empty, .string ByteArray.empty, .int .i64 0, .int .i64 0, .int .i64 0, .int .i64 0, .string ByteArray.empty, .int .i64 0, .int .i64 0]], []⟩ 8 (by kernel_rfl) (by kernel_rfl) (by kernel_rfl)
      (x := ([.agg [.nil, .nil, .nil], .agg [.lit (.int .i64 0), .lit (.int .i64 0), .lit (.int .i64 0)], .agg [.lit (.string []), .lit (.string []), .agg [.lit (.int .i64 0), .lit (.int .i64 0), .lit (.int .i64 0), .lit (.int .i64 0), .lit (.string [])], .agg [.lit (.int .i64 0), .lit (.int .i64 0)]]], [], [])) (by kernel_rfl) rfl (by kernel_rfl)) ?_
  intro W base args ds gs before hval0 hW _ hk hsz0 _
  have hsz : (DataW.weightsEach Try.prog (Try.f4.params.toList ++ Rows.topoWaysSpec.plain.varTypes Try.prog) (ds ++ gs)).all (· ≤ reachBytes) = true := hsz0
  have hval : ∀ (j : Nat) t v, Try.f4.params[j]? = some t → args[j]? = some v → Value.okWide Try.prog W .any base t v := hval0
  have hW' := hW
  obtain ⟨p, q, hA0, hV, rfl, hfz, hnd⟩ := hW
  have hA : DataW.TrodAll enc Try.prog W 0 (fun _ => true) true Try.f4.params.toList args.toList ds p := hA0
  rw [Try.params4] at hA hval hsz
  obtain ⟨v0, vs0, d0, ds0, p0, q0, hargs, rfl, rfl, h0, r0⟩ := trodAll_cons hA
  obtain ⟨v1, vs1, d1, ds1, p1, q1, rfl, rfl, rfl, h1, r1⟩ := trodAll_cons r0
  obtain ⟨v2, vs2, d2, ds2, p2, q2, rfl, rfl, rfl, h2, r2⟩ := trodAll_cons r1
  obtain ⟨rfl, rfl, rfl⟩ := trodAll_nil r2
  obtain rfl : args = #[v0, v1, v2] := by cases args; simp_all
  obtain ⟨rfl, rfl⟩ := trodVars_none hV
  have hb : Rows.uptoBulkAll ([d0, d1, d2] ++ []) ≤ 1048576 := of_decide_eq_true hk
  simp only [List.append_nil, Rows.uptoBulkAll] at hb
  have k0 := h0
  have lt0 : ∀ x ∈ p0, x.block < W.heap.size := by obtain ⟨m, hm⟩ := k0; exact DataW.trod_lt m _ _ _ hm
  have hv0 := hval 0 26 v0 rfl rfl
  have rd0 := Lg.RdB.of_arg (bk := Rows.uptoBulk) bulk1 bulk2 bulk3 (m := 8) (j := 0) (b := 1048576) (t := 26) (by kernel_rfl) h0 hsz rfl rfl (by omega)
  obtain ⟨a0, rfl, len0⟩ := okWide_struct Try.underlying26 hv0
  have k1 := h1
  have lt1 : ∀ x ∈ p1, x.block < W.heap.size := by obtain ⟨m, hm⟩ := k1; exact DataW.trod_lt m _ _ _ hm
  have hv1 := hval 1 28 v1 rfl rfl
  have rd1 := Lg.RdB.of_arg (bk := Rows.uptoBulk) bulk1 bulk2 bulk3 (m := 8) (j := 1) (b := 1048576) (t := 28) (by kernel_rfl) h1 hsz rfl rfl (by omega)
  obtain ⟨a1, rfl, len1⟩ := okWide_struct Try.underlying28 hv1
  have k2 := h2
  have lt2 : ∀ x ∈ p2, x.block < W.heap.size := by obtain ⟨m, hm⟩ := k2; exact DataW.trod_lt m _ _ _ hm
  have hv2 := hval 2 47 v2 rfl rfl
  have rd2 := Lg.RdB.of_arg (bk := Rows.uptoBulk) bulk1 bulk2 bulk3 (m := 8) (j := 2) (b := 1048576) (t := 47) (by kernel_rfl) h2 hsz rfl rfl (by omega)
  obtain ⟨a2, rfl, len2⟩ := okWide_struct Try.underlying47 hv2
  clear hA0 hval0 hsz0 hsz
  refine ((C.topoWaysW rd0 rd1 rd2 : Lg.CallWp Try.prog W.heap.size 4 #[.agg a0, .agg a1, .agg a2] (fun v _ => v = .bool true) (Lg.All W)) W (Lg.All.sim W)).mono fun e W' ⟨v, S', he, bel, _, hv⟩ => ?_
  subst he hv
  have key : ∃ v, Ending.returned (Value.bool true) = Ending.returned v ∧ Rows.topoWaysSpec.post enc Try.prog Try.f4 false true false false W #[.agg a0, .agg a1, .agg a2] v W' := ⟨_, rfl, _, _, _, [], _, [], hW', trodAll_mk1 (bit Try.underlying4 _), (trodAll_cons_mk (Below.trod laidOut (by kernel_rfl) (of_decide_eq_true (by kernel_rfl)) k0 bel lt0) (trodAll_cons_mk (Below.trod laidOut (by kernel_rfl) (of_decide_eq_true (by kernel_rfl)) k1 bel lt1) (trodAll_mk1 (Below.trod laidOut (by kernel_rfl) (of_decide_eq_true (by kernel_rfl)) k2 bel lt2)))), rfl, bel.frame _, fun h => by cases h⟩
  exact key
theorem closed : joinedFacts Try.prog 4 Try.f4 Rows.topoWaysSpec Rows.topoWaysUptoRow = true := by
  unfold joinedFacts
  exact Head.split7 (by kernel_rfl) Head.mayEnter (Head.lifted_of Head.liftsFinal rfl) (Head.make_is Head.make rfl) (by kernel_rfl) (by kernel_rfl) (by kernel_rfl) (by kernel_rfl)
set_option maxRecDepth 100000 in
theorem over : Rows.topoWaysUptoRow.holds Try.pinned (Rows.OpenSpec.upto Rows.topoWaysSpec) :=
  OpenClaim.holds_of_cond 4 Try.f4 rfl rfl rfl rfl rfl rfl rfl ⟨rfl, rfl, rfl, rfl, rfl⟩ rfl rfl rfl rfl rfl (by kernel_rfl) Try.func4 closed
    (of_decide_eq_true (by kernel_rfl)) (by unfold Func.isWrapper; rw [if_neg (of_decide_eq_false (by kernel_rfl))]; exact ⟨rfl, rfl⟩)
    (fun os started H enc _ F => lifted os started H enc F)
theorem proved : Rows.TopoWaysUptoSaid := over
end Go.Proofs.Ytlhpbeldhpljnaa.TopoWays
namespace Go.Proofs.Ytlhpbeldhpljnaa
theorem topoWays_holds : Rows.TopoWaysUptoSaid := TopoWays.proved
#print axioms topoWays_holds
end Go.Proofs.Ytlhpbeldhpljnaa
