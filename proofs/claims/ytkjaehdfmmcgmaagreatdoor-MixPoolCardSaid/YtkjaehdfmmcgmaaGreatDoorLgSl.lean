/- A layer over the weakest preconditions of the model: what is known of memory and of the slots, told by rules. -/
import Derived.Test.YtkjaehdfmmcgmaaGreatDoorLgM2x52c3
import Derived.Scope
namespace Go.Lg
open Go.RowKit (Below)
section
variable {P : Program} {B n : Nat} {E : Env} {S : Ents} {o : Oper} {K : Env → Ents → Prop}

def noGotoQ (Q : Exit → Env → Ents → Prop) : Exit → Env → Ents → Prop
  | .goto _, _, _ => False
  | e, E, S => Q e E S
/-- A scope that no jump leaves. -/
theorem Wp.scope {c : Code} {Q : Exit → Env → Ents → Prop} (h : Wp P B n c (noGotoQ Q) E S) : Wp P B n (.scope c) Q E S := by
  intro a w hS hA
  refine wp_scope_straight (wp_mono (h a w hS hA) ?_)
  intro e a' w' hp
  obtain ⟨hp, E', S', hb, hs, ha, q⟩ := hp
  cases e with
  | normal => exact ⟨hp, E', S', hb, hs, ha, q⟩
  | exit id => exact ⟨hp, E', S', hb, hs, ha, q⟩
  | goto l => exact q.elim
  | ret => exact ⟨hp, E', S', hb, hs, ha, q⟩
  | panic ch => exact ⟨hp, E', S', hb, hs, ha, q⟩
  | outgrown => exact ⟨hp, E', S', hb, hs, ha, q⟩
theorem Wp.label {l : Nat} {Q : Exit → Env → Ents → Prop} (h : Q .normal E S) : Wp P B n (.label l) Q E S :=
  fun _ w hS hA => wp_label ⟨trivial, E, S, Below.refl B w, hS, hA, h⟩

/-- clear(s) of a slice that is not empty. -/
theorem Step.clear {t e : TypeId} {x : Operand} {b o' k cap : Nat} (i : Nat) {z l : List Value} (l' : List Value) {t' : TypeId} {fz : Nat × Nat} {S' : Ents} (hd : dstOk n o.dst = true) (ho : o.op = .call ⟨.builtin .clear, #[x], #[t]⟩)
    (hu : P.underlying t = some (.slice e)) (hz : zeroOf P e = some z) (hz0 : 0 < z.length) (hone : z.all (·.oneCell') = true) (hx : opd E x = some (.slice (some ⟨b, o', none⟩) k cap)) (hk : 0 < k) (he : entAt S i = some (b, cel l t' fz)) (hB : B ≤ b) (hf : Unfz fz l.length)
    (hl : o' + k * z.length ≤ l.length) (hw : wr l o' (zeros z k) = l') (hS' : setEnt S i (b, cel l' t' fz) = some S') (h : K (putE E o.dst (.tuple #[])) S') : Step P B n o K E S := by
  intro a w hS hA
  unfold Oper.wp
  have hgb := hS.holds _ (entAt_mem he)
  obtain ⟨zv, hzr, hzc⟩ := zeroOf_run (P := P) hz w
  have hzl := zeros_length z k
  have hones : ∀ v ∈ zeros z k, v.oneCell' = true := by
    intro v hv
    have : ∀ k, ∀ v ∈ zeros z k, v.oneCell' = true := by
      intro k
      induction k with
      | zero => intro v hv; cases hv
      | succ k ih =>
        intro v hv
        rcases List.mem_append.1 hv with h | h
        · exact List.all_eq_true.1 hone v h
        · exact ih v h
    exact this k v hv
  have hc : Builtin.zeroCells zv.cells k = (zeros z k).toArray := by
    have := range_zeros z k hz0
    rw [hzc, ← this]
    simp [Builtin.zeroCells]
  have hst := storeCells_run (P := P) b o' t' fz (zeros z k) 0 l.toArray w hgb (by simp only [List.size_toArray]; omega) (by simpa using hf) hones
  have hr : (execOp a.eval o).run P w = .ok (.value (.tuple #[])) (w.setRow b l'.toArray) := by
    have hclear : (Builtin.clear_ #[t] o.type #[.slice (some ⟨b, o', none⟩) k cap]).run P w = .ok (.tuple #[]) (w.setRow b l'.toArray) := by
      obtain ⟨k, rfl⟩ : ∃ j, k = j + 1 := ⟨k - 1, by omega⟩
      rw [← hw]
      simp only [Nat.add_zero] at hst
      simp [Builtin.clear_, run_underlying hu, hzr, hc, hst, wr]
    simp [execOp, ho, resolve, invoke, builtin, opd_sound hA hx, hclear]
  rw [hr]
  refine ⟨below_setRow hB _, _, S', ?_, hA.putE hd _, h⟩
  exact hS.turn he hS' hB (setRow_heap w b _ _ t' fz hgb) (fun k hk => setRow_other w b k _ hk) (by simp)
end
end Go.Lg
namespace Go.Lg
open Go.RowKit (Below)
section
variable {P : Program} {B n : Nat} {E : Env} {S : Ents} {o : Oper} {K : Env → Ents → Prop}
end
end Go.Lg
