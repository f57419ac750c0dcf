/- A layer over the weakest preconditions of the model: what is known of memory and of the slots, told by rules. -/
import Derived.Test.YtnjgekonoladfaaLgMore
import Derived.Scope
namespace Go.Lg
open Go.RowKit (Below)
section
variable {P : Program} {B n : Nat} {E : Env} {S : Ents} {o : Oper} {K : Env → Ents → Prop}

def noGotoQ (Q : Exit → Env → Ents → Prop) : Exit → Env → Ents → Prop
  | .goto _, _, _ => False
  | e, E, S => Q e E S
/-- A scope that no jump leaves. -/
theorem Wp.scope {c : Code} {Q : Exit → Env → Ents → Prop} (h : Wp P B n c (noGotoQ Q) E S) : Wp P B n (.scope c) Q E S := by
  intro a w hS hA
  refine wp_scope_straight (wp_mono (h a w hS hA) ?_)
  intro e a' w' hp
  obtain ⟨hp, E', S', hb, hs, ha, q⟩ := hp
  cases e with
  | normal => exact ⟨hp, E', S', hb, hs, ha, q⟩
  | exit id => exact ⟨hp, E', S', hb, hs, ha, q⟩
  | goto l => exact q.elim
  | ret => exact ⟨hp, E', S', hb, hs, ha, q⟩
  | panic ch => exact ⟨hp, E', S', hb, hs, ha, q⟩
  | outgrown => exact ⟨hp, E', S', hb, hs, ha, q⟩
theorem Wp.label {l : Nat} {Q : Exit → Env → Ents → Prop} (h : Q .normal E S) : Wp P B n (.label l) Q E S :=
  fun _ w hS hA => wp_label ⟨trivial, E, S, Below.refl B w, hS, hA, h⟩

/-- s[lo:hi:max] of a slice. -/
theorem Gives.sliceMax {t e : TypeId} {x lo hi mx : Operand} {b o' len cap sz l h' m : Nat} (ho : o.op = .slice t x (some lo) (some hi) (some mx))
    (hu : P.underlying t = some (.slice e)) (hs : sizeOfT P e = some sz) (hx : opd E x = some (.slice (some ⟨b, o', none⟩) len cap)) (hlo : Bound E (some lo) 0 l) (hhi : Bound E (some hi) len h') (hmx : Bound E (some mx) cap m)
    (h1 : l ≤ h') (h2 : h' ≤ m) (h3 : m ≤ cap) : Gives P n [] E o (.slice (some ⟨b, if m = l then o' else o' + l * sz, none⟩) (h' - l) (m - l)) := by
  intro a w hS hA
  have e0 := hmx.run (P := P) hA w cap h3 .slice3Acap
  have e1 := hhi.run (P := P) hA w m h2 .slice3B
  have e2 := hlo.run (P := P) hA w h' h1 .slice3C
  simp only [Option.map_some] at e0 e1 e2
  have key : (Instr.sliceBounds true len cap (some (a.eval lo)) (some (a.eval hi)) (some (a.eval mx))).run P w = .ok (l, h', m) w := by
    simp [Instr.sliceBounds, e0, e1, e2]
  simp only [execOp, ho, opd_sound hA hx, Option.map_some, Instr.sliceAt, Sem.run_bind, run_underlying hu, Result.andThen_ok]
  simp only [Instr.slice, Sem.run_bind, run_underlying hu, Result.andThen_ok, key, sizeOfT_run hs, Sem.run_pure]
  split
  · rfl
  · simp [Addr.add_lit]

/-- clear(s) of a slice that is not empty. -/
theorem Step.clear {t e : TypeId} {x : Operand} {b o' k cap : Nat} (i : Nat) {z l : List Value} (l' : List Value) {t' : TypeId} {fz : Nat × Nat} {S' : Ents} (hd : dstOk n o.dst = true) (ho : o.op = .call ⟨.builtin .clear, #[x], #[t]⟩)
    (hu : P.underlying t = some (.slice e)) (hz : zeroOf P e = some z) (hz0 : 0 < z.length) (hone : z.all (·.oneCell') = true) (hx : opd E x = some (.slice (some ⟨b, o', none⟩) k cap)) (hk : 0 < k) (he : entAt S i = some (b, cel l t' fz)) (hB : B ≤ b) (hf : Unfz fz l.length)
    (hl : o' + k * z.length ≤ l.length) (hw : wr l o' (zeros z k) = l') (hS' : setEnt S i (b, cel l' t' fz) = some S') (h : K (putE E o.dst (.tuple #[])) S') : Step P B n o K E S := by
  intro a w hS hA
  unfold Oper.wp
  have hgb := hS.holds _ (entAt_mem he)
  obtain ⟨zv, hzr, hzc⟩ := zeroOf_run (P := P) hz w
  have hzl := zeros_length z k
  have hones : ∀ v ∈ zeros z k, v.oneCell' = true := by
    intro v hv
    have : ∀ k, ∀ v ∈ zeros z k, v.oneCell' = true := by
      intro k
      induction k with
      | zero => intro v hv; cases hv
      | succ k ih =>
        intro v hv
        rcases List.mem_append.1 hv with h | h
        · exact List.all_eq_true.1 hone v h
        · exact ih v h
    exact this k v hv
  have hc : Builtin.zeroCells zv.cells k = (zeros z k).toArray := by
    have := range_zeros z k hz0
    rw [hzc, ← this]
    simp [Builtin.zeroCells]
  have hst := storeCells_run (P := P) b o' t' fz (zeros z k) 0 l.toArray w hgb (by simp only [List.size_toArray]; omega) (by simpa using hf) hones
  have hr : (execOp a.eval o).run P w = .ok (.value (.tuple #[])) (w.setRow b l'.toArray) := by
    have hclear : (Builtin.clear_ #[t] o.type #[.slice (some ⟨b, o', none⟩) k cap]).run P w = .ok (.tuple #[]) (w.setRow b l'.toArray) := by
      obtain ⟨k, rfl⟩ : ∃ j, k = j + 1 := ⟨k - 1, by omega⟩
      rw [← hw]
      simp only [Nat.add_zero] at hst
      simp [Builtin.clear_, run_underlying hu, hzr, hc, hst, wr]
    simp [execOp, ho, resolve, invoke, builtin, opd_sound hA hx, hclear]
  rw [hr]
  refine ⟨below_setRow hB _, _, S', ?_, hA.putE hd _, h⟩
  exact hS.turn he hS' hB (setRow_heap w b _ _ t' fz hgb) (fun k hk => setRow_other w b k _ hk) (by simp)
end
end Go.Lg
namespace Go.Lg
open Go.RowKit (Below)
section
variable {P : Program} {B n : Nat} {E : Env} {S : Ents} {o : Oper} {K : Env → Ents → Prop}
/-- s[lo:hi] of a slice, at its very end too. -/
theorem Gives.sliceEnd {t e : TypeId} {x : Operand} {lo hi : Option Operand} {b o' len cap sz l h' : Nat} (ho : o.op = .slice t x lo hi none)
    (hu : P.underlying t = some (.slice e)) (hs : sizeOfT P e = some sz) (hx : opd E x = some (.slice (some ⟨b, o', none⟩) len cap)) (hlo : Bound E lo 0 l) (hhi : Bound E hi len h') (h1 : l ≤ h') (h2 : h' ≤ cap) :
    Gives P n [] E o (.slice (some ⟨b, if cap = l then o' else o' + l * sz, none⟩) (h' - l) (cap - l)) := by
  intro a w hS hA
  have e1 := hhi.run (P := P) hA w cap h2 .sliceAcap
  have e2 := hlo.run (P := P) hA w h' h1 .sliceB
  have key : (Instr.sliceBounds true len cap (lo.map a.eval) (hi.map a.eval) none).run P w = .ok (l, h', cap) w := by
    simp only [Instr.sliceBounds, Sem.run_bind, Sem.run_pure, Result.andThen_ok]
    cases hi with
    | none =>
      simp only [Bound] at hhi; subst hhi
      cases lo with
      | none => simp only [Bound] at hlo; subst hlo; simp
      | some y => simp only [Option.map_some] at e2 ⊢; simp [e2]
    | some z =>
      simp only [Option.map_some] at e1 ⊢
      cases lo with
      | none => simp only [Bound] at hlo; subst hlo; simp [e1]
      | some y => simp only [Option.map_some] at e2 ⊢; simp [e1, e2]
  simp only [execOp, ho, opd_sound hA hx, Option.map_none, Instr.sliceAt, Sem.run_bind, run_underlying hu, Result.andThen_ok]
  simp only [Instr.slice, Sem.run_bind, run_underlying hu, Result.andThen_ok, key, sizeOfT_run hs, Sem.run_pure]
  split
  · rfl
  · simp [Addr.add_lit]

/-- append within the row's room. -/
theorem Step.appendRoom {t e : TypeId} {i : TypeInfo} {x y : Operand} {g k gcap m : Nat} {u : Value} (idx : Nat) {cur news : List Value} {S' : Ents}
    (hd : dstOk n o.dst = true) (ho : o.op = .call ⟨.builtin .append, #[x, y], #[t, t]⟩) (ht : P.underlying t = some (.slice e)) (hi : P.info? e = some i)
    (hx : opd E x = some (.slice (some ⟨g, 0, none⟩) k gcap)) (hy : opd E y = some u) (he : entAt S idx = some (g, cel cur e)) (hB : B ≤ g) (hroom : k + m ≤ gcap) (hc : cur.length = gcap * i.size) (hr : Reads S i.size u m news)
    (h1 : news.all (·.oneCell') = true) (hS' : setEnt S idx (g, cel (cur.take (k * i.size) ++ news ++ cur.drop (k * i.size + news.length)) e) = some S')
    (h : K (putE E o.dst (.slice (some ⟨g, 0, none⟩) (k + m) gcap)) S') : Step P B n o K E S := by
  intro a w hS hA
  unfold Oper.wp
  have hgb : w.heap[g]? = some (.cells cur.toArray e (0, 0)) := hS.holds _ (entAt_mem he)
  have hone : ∀ u ∈ news, u.oneCell' = true := fun u hu => List.all_eq_true.1 h1 u hu
  obtain ⟨hnl, hxv⟩ := hr
  rcases hxv with ⟨⟨a', c', rfl⟩, rfl⟩ | ⟨b, o', cap, l, e', fz, rfl, hm, hle, hnews⟩
  · have hn : news = [] := List.eq_nil_of_length_eq_zero (by simpa using hnl)
    subst hn
    have hrun : (Builtin.append_ #[t, t] o.type #[.slice (some ⟨g, 0, none⟩) k gcap, .slice a' 0 c']).run P w = .ok (.slice (some ⟨g, 0, none⟩) k gcap) w := by
      cases a'
      · simp [Builtin.append_, run_underlying ht, sizeOf, typeInfo, hi, Builtin.lenOf, Builtin.firstCells, storeCells, show k ≤ gcap by omega]
      · simp [Builtin.append_, run_underlying ht, sizeOf, typeInfo, hi, Builtin.lenOf, Builtin.firstCells, storeCells, loadCells, loadCellsFrom, show k ≤ gcap by omega]
    have hr : (execOp a.eval o).run P w = .ok (.value (.slice (some ⟨g, 0, none⟩) k gcap)) w := by
      simp [execOp, ho, resolve, invoke, builtin, opd_sound hA hx, opd_sound hA hy, hrun]
    rw [hr]
    simp only [List.append_nil, List.length_nil, Nat.add_zero, List.take_append_drop] at hS' h
    have hSS : S' = S := by
      have : ∀ (S S' : Ents) (i : Nat) (z : Nat × Obj), entAt S i = some z → setEnt S i z = some S' → S' = S := by
        intro S
        induction S with
        | nil => intro S' i z h1 h2; simp [entAt] at h1
        | cons y ys ih =>
          intro S' i z h1 h2
          cases i with
          | zero => simp [entAt] at h1; simp [setEnt] at h2; rw [← h2, h1]
          | succ i =>
            simp only [entAt] at h1
            simp only [setEnt] at h2
            split at h2
            · rename_i r hr
              have := ih r i z h1 hr
              obtain rfl := Option.some.inj h2
              rw [this]
            · cases h2
      exact this _ _ _ _ he hS'
    exact ⟨Below.refl B w, _, S', hSS ▸ hS, hA.putE hd _, h⟩
  · have hcells := (show Reads S i.size (.slice (some ⟨b, o', none⟩) m cap) m news from ⟨hnl, .inr ⟨b, o', cap, l, e', fz, rfl, hm, hle, hnews⟩⟩).cells hS.holds
    have hfit : k * i.size + news.length ≤ cur.toArray.size := by
      have : (k + m) * i.size ≤ gcap * i.size := Nat.mul_le_mul_right _ hroom
      rw [hnl, List.size_toArray, hc, ← Nat.add_mul]; exact this
    have hrun := run_append_room (P := P) w t o.type e i ht hi g k gcap cur.toArray hgb ⟨b, o', none⟩ m cap news hnl hcells hone hroom hfit
    have hr : ∃ w', (execOp a.eval o).run P w = .ok (.value (.slice (some ⟨g, 0, none⟩) (k + m) gcap)) w' ∧ w' = w.setRow g (cur.take (k * i.size) ++ news ++ cur.drop (k * i.size + news.length)).toArray := by
      refine ⟨_, ?_, rfl⟩
      have hrun' := hrun
      simp only [] at hrun'
      simp [execOp, ho, resolve, invoke, builtin, opd_sound hA hx, opd_sound hA hy, hrun]
    obtain ⟨w', hr, rfl⟩ := hr
    rw [hr]
    refine ⟨below_setRow hB _, _, S', ?_, hA.putE hd _, h⟩
    exact hS.turn he hS' hB (by simpa using setRow_heap w g _ _ e (0, 0) hgb) (fun q hq => setRow_other w g q _ hq) (by simp)
end
end Go.Lg
