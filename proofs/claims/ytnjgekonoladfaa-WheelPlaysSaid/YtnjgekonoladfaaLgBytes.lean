/- A layer over the weakest preconditions of the model: what is known of memory and of the slots, told by rules. -/
import Derived.Test.YtnjgekonoladfaaLgMore
import Derived.Lib.ConvBytes
namespace Go.Lg
open Go.RowKit (Below)

section
variable {P : Program} {B n : Nat} {E : Env} {S : Ents} {o : Oper} {K : Env → Ents → Prop}

theorem Sim.grow {w w' : World} {L : Nat} {ob : Obj} (h : Sim B S w) (hL : L = w.heap.size) (hn : w'.heap[L]? = some ob) (ho : ∀ k, k < w.heap.size → w'.heap[k]? = w.heap[k]?) (hs : w.heap.size ≤ w'.heap.size) : Sim B ((L, ob) :: S) w' := by
  subst hL
  refine ⟨?_, ?_, Nat.le_trans h.base hs⟩
  · intro x hx
    cases hx with
    | head => exact hn
    | tail _ hx => rw [ho x.1 (h.lt hx)]; exact h.holds x hx
  · refine List.pairwise_cons.2 ⟨fun x hx e => ?_, h.own⟩
    have := h.lt hx
    simp only at e
    omega

/-- []byte(s). -/
theorem Step.strToBytes {src dst e : TypeId} {x : Operand} {s : List UInt8} {u : TypeDesc} (hd : dstOk n o.dst = true) (ho : o.op = .convert src dst x)
    (hs : P.underlying src = some u) (hu : P.underlying dst = some (.slice e)) (he : P.underlying e = some (.int .u8)) (hx : opd E x = some (.string (str s)))
    (h : ∀ L g cap, B ≤ L → (∀ x ∈ S, x.1 < L) → (byteCells s ++ g).length = cap → K (putE E o.dst (.slice (some ⟨L, 0, none⟩) s.length cap)) ((L, cel (byteCells s ++ g) e (cap, cap + 1)) :: S)) : Step P B n o K E S := by
  intro a w hS hA
  unfold Oper.wp
  have hr : (execOp a.eval o).run P w = .ok (.value (.slice (some ⟨w.heap.size, 0, none⟩) (str s).size (grownCap w (str s).size 0 e))) (Lib.bytesWorld w e (str s)) := by
    simp only [execOp, ho, opd_sound hA hx, Sem.run_bind, Lib.run_convert_string_bytes (P := P) w src dst e (str s) hs hu he, Result.andThen_ok, Sem.run_pure]
  rw [hr]
  have hc : Lib.bytesCells w e (str s) = (byteCells s ++ List.replicate (grownCap w (str s).size 0 e - (str s).size) (Value.int .u8 0)).toArray := by
    apply Array.ext'
    simp [Lib.bytesCells, byteCells, str]
  have hcap : s.length ≤ grownCap w (str s).size 0 e := grownCap_ge w (str s).size 0 e
  refine ⟨⟨rfl, rfl, rfl, by rw [Lib.bytesWorld_size]; omega, fun k hk => Lib.bytesWorld_at_old w e _ k (Nat.lt_of_lt_of_le hk hS.base)⟩, _, _, ?_, hA.putE hd _, h w.heap.size (List.replicate (grownCap w (str s).size 0 e - (str s).size) (Value.int .u8 0)) (grownCap w (str s).size 0 e) hS.base (fun x hx => hS.lt hx) ?_⟩
  · refine hS.grow rfl ?_ (fun k hk => Lib.bytesWorld_at_old w e _ k hk) (by rw [Lib.bytesWorld_size]; omega)
    rw [Lib.bytesWorld_at_new, hc]
    simp only [List.size_toArray, List.length_append, byteCells_length, List.length_replicate]
    rw [show s.length + (grownCap w (str s).size 0 e - (str s).size) = grownCap w (str s).size 0 e by rw [str_size]; rw [str_size] at hcap; omega]
  · simp only [List.length_append, byteCells_length, List.length_replicate]
    rw [str_size]; rw [str_size] at hcap; omega

/-- copy(bytes, s). -/
theorem Step.copyStr {dT sT elem : TypeId} {x y : Operand} {b o' dLen dCap : Nat} (i : Nat) {s : List UInt8} {l : List Value} (l' : List Value) {e : TypeId} {fz : Nat × Nat} {S' : Ents} (hd : dstOk n o.dst = true)
    (ho : o.op = .call ⟨.builtin .copy, #[x, y], #[dT, sT]⟩) (hu : P.underlying dT = some (.slice elem)) (hs : sizeOfT P elem = some 1)
    (hx : opd E x = some (.slice (some ⟨b, o', none⟩) dLen dCap)) (hy : opd E y = some (.string (str s))) (he : entAt S i = some (b, cel l e fz)) (hB : B ≤ b) (hz : Unfz fz l.length)
    (hl : o' + min s.length dLen ≤ l.length) (hw : wr l o' (byteCells (s.take (min s.length dLen))) = l') (hS' : setEnt S i (b, cel l' e fz) = some S')
    (h : K (putE E o.dst (.int .i64 ((min s.length dLen : Nat) : Int))) S') : Step P B n o K E S := by
  subst hw
  intro a w hS hA
  unfold Oper.wp
  have hgb := hS.holds _ (entAt_mem he)
  have hlen : (byteCells (s.take (min s.length dLen))).length = min s.length dLen := by rw [byteCells_length, List.length_take]; omega
  have h1 := storeCells_run (P := P) b o' e fz (byteCells (s.take (min s.length dLen))) 0 l.toArray w hgb (by rw [hlen]; simpa using hl) (by simpa using hz) (fun x hx => List.all_eq_true.1 (byteCells_one _) x hx)
  have hr : (execOp a.eval o).run P w = .ok (.value (.int .i64 ((min s.length dLen : Nat) : Int))) (w.setRow b (wr l o' (byteCells (s.take (min s.length dLen)))).toArray) := by
    have hm : List.take (min s.length dLen) (List.map (fun b : UInt8 => Value.int IntKind.u8 (b.toNat : Int)) s) = byteCells (s.take (min s.length dLen)) := by
      simp [byteCells, List.map_take]
    have hcopy : (Builtin.copy_ #[dT, sT] o.type #[.slice (some ⟨b, o', none⟩) dLen dCap, .string (str s)]).run P w = .ok (.int .i64 ((min s.length dLen : Nat) : Int)) (w.setRow b (wr l o' (byteCells (s.take (min s.length dLen)))).toArray) := by
      simp only [Nat.add_zero] at h1
      have hmin : Nat.min (str s).size dLen = min s.length dLen := rfl
      simp only [Builtin.copy_]
      simp [run_underlying hu, Builtin.lenOf, Builtin.firstCells, sizeOfT_run hs, hmin]
      have e2 : (str s).data.toList = s := rfl
      simp only [e2]
      rw [hm, h1]
      simp [wr, Result.andThen, goInt]
    simp only [execOp, ho, resolve, invoke, builtin, List.map_toArray, List.map_cons, List.map_nil, opd_sound hA hx, opd_sound hA hy]
    simp [hcopy]
  rw [hr]
  refine ⟨below_setRow hB _, _, S', ?_, hA.putE hd _, h⟩
  exact hS.turn he hS' hB (setRow_heap w b _ _ e fz hgb) (fun k hk => setRow_other w b k _ hk) (by simp)
end
end Go.Lg
