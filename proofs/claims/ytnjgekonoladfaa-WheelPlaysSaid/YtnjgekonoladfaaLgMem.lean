/- A layer over the weakest preconditions of the model: what is known of memory and of the slots, told by rules. -/
import Derived.Test.YtnjgekonoladfaaLgOps
import Derived.Laws.CopyRow
import Derived.Laws.AppendOwn
import Derived.Laws.MakeOwn
import Derived.Laws.OwnMore
namespace Go.Lg
open Go.RowKit (Below)

/-- A row of cells. -/
abbrev cel (l : List Value) (e : TypeId) (fz : Nat × Nat := (0, 0)) : Obj := .cells l.toArray e fz

def Unfz (fz : Nat × Nat) (k : Nat) : Prop := fz.2 ≤ fz.1 ∨ k ≤ fz.1
theorem Unfz.zero (k : Nat) : Unfz (0, 0) k := .inl (Nat.le_refl 0)

section
variable {P : Program} {B n : Nat} {S : Ents} {w : World}

theorem Sim.lt (h : Sim B S w) {x : Nat × Obj} (hx : x ∈ S) : x.1 < w.heap.size :=
  (Array.getElem?_eq_some_iff.1 (h.holds x hx)).1

theorem Sim.alloc (h : Sim B S w) (o : Obj) : Sim B ((w.heap.size, o) :: S) (w.alloc o) := by
  refine ⟨?_, ?_, by have := h.base; simp; omega⟩
  · intro x hx
    cases hx with
    | head => exact Go.heap_alloc_new w o
    | tail _ hx => rw [Below.heap_alloc w o x.1 (h.lt hx)]; exact h.holds x hx
  · refine List.pairwise_cons.2 ⟨fun x hx e => ?_, h.own⟩
    exact absurd (h.lt hx) (by simp only at e; omega)

theorem Sim.drew (h : Sim B S w) : Sim B S w.drew := ⟨h.holds, h.own, h.base⟩

theorem Sim.sublist {S' : Ents} (h : Sim B S w) (hs : S'.Sublist S) : Sim B S' w :=
  ⟨fun x hx => h.holds x (hs.subset hx), h.own.sublist hs, h.base⟩

theorem Sim.perm {S' : Ents} (h : Sim B S w) (hs : S.Perm S') : Sim B S' w :=
  ⟨fun x hx => h.holds x (hs.symm.subset hx), (hs.pairwise_iff (fun {x y} (hxy : x.1 = y.1 → x.1 < B) (e : y.1 = x.1) => by have := hxy e.symm; omega)).1 h.own, h.base⟩

def takeOut : Nat → Ents → Option ((Nat × Obj) × Ents)
  | _, [] => none
  | 0, x :: xs => some (x, xs)
  | i + 1, x :: xs => match takeOut i xs with
    | some (y, r) => some (y, x :: r)
    | none => none

theorem takeOut_perm : ∀ (i : Nat) (S : Ents) (x : Nat × Obj) (r : Ents), takeOut i S = some (x, r) → S.Perm (x :: r)
  | _, [], _, _, h => by simp [takeOut] at h
  | 0, x :: xs, _, _, h => by simp [takeOut] at h; obtain ⟨rfl, rfl⟩ := h; exact .refl _
  | i + 1, x :: xs, y, r, h => by
    simp only [takeOut] at h
    split at h
    · rename_i z q hq
      have := takeOut_perm i xs z q hq
      simp at h; obtain ⟨rfl, rfl⟩ := h
      exact (this.cons x).trans (.swap _ _ _)
    · cases h

def setEnt : Ents → Nat → Nat × Obj → Option Ents
  | _ :: xs, 0, z => some (z :: xs)
  | x :: xs, i + 1, z => match setEnt xs i z with
    | some r => some (x :: r)
    | none => none
  | [], _, _ => none

def entAt : Ents → Nat → Option (Nat × Obj)
  | x :: _, 0 => some x
  | _ :: xs, i + 1 => entAt xs i
  | [], _ => none

theorem entAt_mem : ∀ {S : Ents} {i : Nat} {x : Nat × Obj}, entAt S i = some x → x ∈ S
  | _ :: _, 0, _, h => by simp [entAt] at h; simp [h]
  | _ :: xs, i + 1, _, h => by simp only [entAt] at h; exact List.mem_cons_of_mem _ (entAt_mem h)
  | [], _, _, h => by simp [entAt] at h

/-- Block b of S turned, in a world where it has turned alone. -/
theorem Sim.turn {w' : World} : ∀ {S S' : Ents} {i b : Nat} {o o' : Obj}, Sim B S w → entAt S i = some (b, o) → setEnt S i (b, o') = some S' → B ≤ b →
    w'.heap[b]? = some o' → (∀ k, k ≠ b → w'.heap[k]? = w.heap[k]?) → w.heap.size ≤ w'.heap.size → Sim B S' w'
  | x :: xs, S', 0, b, o, o', h, he, hs, hB, hb, hk, hsz => by
    simp [entAt] at he; subst he
    simp [setEnt] at hs; subst hs
    have hp := List.pairwise_cons.1 h.own
    refine ⟨?_, ?_, Nat.le_trans h.base hsz⟩
    · intro y hy
      cases hy with
      | head => exact hb
      | tail _ hy =>
        rw [hk y.1 (fun e => by have := hp.1 y hy e.symm; simp only at this; omega)]
        exact h.holds y (List.mem_cons_of_mem _ hy)
    · exact List.pairwise_cons.2 ⟨hp.1, hp.2⟩
  | x :: xs, S', i + 1, b, o, o', h, he, hs, hB, hb, hk, hsz => by
    simp only [entAt] at he
    simp only [setEnt] at hs
    split at hs
    · rename_i r hr
      obtain rfl := Option.some.inj hs
      have hp := List.pairwise_cons.1 h.own
      have ih := Sim.turn (w' := w') (S := xs) ⟨fun y hy => h.holds y (by simp [hy]), hp.2, h.base⟩ he hr hB hb hk hsz
      have hne : x.1 ≠ b := fun e => by have := hp.1 (b, o) (entAt_mem he) e; omega
      refine ⟨?_, ?_, ih.base⟩
      · intro y hy
        cases hy with
        | head => rw [hk _ hne]; exact h.holds x (by simp)
        | tail _ hy => exact ih.holds y hy
      · refine List.pairwise_cons.2 ⟨fun y hy e => ?_, ih.own⟩
        -- the turned entry has b for its key, all others stood in xs
        rcases setEnt_mem hr hy with hy' | rfl
        · exact hp.1 y hy' e
        · exact (hne e).elim
    · cases hs
  | [], _, _, _, _, _, _, he, _, _, _, _, _ => by simp [entAt] at he
where
  setEnt_mem : ∀ {S : Ents} {i : Nat} {z : Nat × Obj} {r : Ents}, setEnt S i z = some r → ∀ {y}, y ∈ r → y ∈ S ∨ y = z
    | _ :: xs, 0, z, r, h, y, hy => by simp [setEnt] at h; subst h; simp at hy; rcases hy with hy | hy <;> simp [hy]
    | x :: xs, i + 1, z, r, h, y, hy => by
      simp only [setEnt] at h
      split at h
      · rename_i q hq
        obtain rfl := Option.some.inj h
        simp at hy
        rcases hy with rfl | hy
        · simp
        · rcases setEnt_mem hq hy with hy | hy <;> simp [hy]
      · cases h
    | [], _, _, _, h, _, _ => by simp [setEnt] at h

/-- Reading. -/
theorem loadCells_at {b o m : Nat} {l vs : List Value} {e : TypeId} {fz : Nat × Nat} (hb : w.heap[b]? = some (cel l e fz)) (hv : takeN m (l.drop o) = some vs) :
    (loadCells ⟨b, o, none⟩ m).run P w = .ok vs.toArray w := by
  obtain ⟨rfl, hm⟩ := takeN_eq _ _ _ hv
  have hl : ((l.drop o).take m).length = m := by rw [List.length_take]; omega
  have := run_loadCells_list (P := P) w ⟨b, o, none⟩ ((l.drop o).take m) (fun j v hj => by
    have hadd : (⟨b, o, none⟩ : Addr).add j = ⟨b, o + j, none⟩ := Addr.add_lit _ _ _
    rw [hadd]
    rw [List.getElem?_take] at hj
    split at hj
    · simp only [World.cell?, hb]
      simpa using hj
    · cases hj)
  rw [hl] at this
  exact this

theorem loadVar_at {b o : Nat} {t : TypeId} {l : List Value} {e : TypeId} {fz : Nat × Nat} {v : Value} (hb : w.heap[b]? = some (cel l e fz)) (hv : partAt P t l o = some v) :
    (loadVar t ⟨b, o, none⟩).run P w = .ok v w := by
  unfold partAt at hv
  split at hv
  · rename_i n ha hs
    split at hv
    · rename_i vs hvs
      obtain rfl := Option.some.inj hv
      simp only [loadVar, Sem.run_bind, isAggT_run ha, Result.andThen_ok, if_true, sizeOfT_run hs, loadCells_at hb hvs, Sem.run_pure]
    · cases hv
  · rename_i n ha hs
    have hc : w.cell? ⟨b, o, none⟩ = some v := by simp [World.cell?, hb, hv]
    simp [loadVar, isAggT_run ha, hc]
  · cases hv

/-- Cells written over. -/
def wr (l : List Value) (o : Nat) (vs : List Value) : List Value := l.take o ++ vs ++ l.drop (o + vs.length)

theorem setAt_eq : ∀ (l : List Value) (o : Nat) (vs r : List Value), setAt l o vs = some r → r = wr l o vs ∧ o + vs.length ≤ max o l.length ∧ (vs ≠ [] → o + vs.length ≤ l.length)
  | l, o, [], r, h => by
    have : r = l := by cases l <;> cases o <;> simp [setAt] at h <;> simp [h]
    subst this
    simp [wr]; omega
  | c :: cs, 0, v :: vs, r, h => by
    simp only [setAt] at h
    split at h
    · rename_i q hq
      obtain rfl := Option.some.inj h
      obtain ⟨rfl, h2, h3⟩ := setAt_eq cs 0 vs q hq
      refine ⟨by simp [wr], ?_, fun _ => ?_⟩
      · cases vs <;> simp at * <;> omega
      · cases vs <;> simp at * <;> omega
    · cases h
  | c :: cs, k + 1, v :: vs, r, h => by
    simp only [setAt] at h
    split at h
    · rename_i q hq
      obtain rfl := Option.some.inj h
      obtain ⟨rfl, h2, h3⟩ := setAt_eq cs k (v :: vs) q hq
      have := h3 (by simp)
      refine ⟨by simp [wr, show k + 1 + (vs.length + 1) = k + (vs.length + 1) + 1 by omega], ?_, fun _ => ?_⟩ <;> simp at * <;> omega
    · cases h
  | [], k, v :: vs, r, h => by cases k <;> simp [setAt] at h

theorem storeCells_run (g o : Nat) (t : TypeId) (fz : Nat × Nat) : ∀ (vs : List Value) (i : Nat) (cur : Array Value) (w : World), w.heap[g]? = some (.cells cur t fz) → o + i + vs.length ≤ cur.size → Unfz fz cur.size → (∀ v ∈ vs, v.oneCell' = true) →
    (storeCells ⟨g, o, none⟩ vs i).run P w = .ok () (w.setRow g (cur.toList.take (o + i) ++ vs ++ cur.toList.drop (o + i + vs.length)).toArray)
  | [], i, cur, w, hg, _, _, _ => by
    simp only [storeCells, List.append_nil, List.length_nil, Nat.add_zero, List.take_append_drop, Array.toArray_toList]
    rw [setRow_self w g cur t fz hg]
    rfl
  | v :: rest, i, cur, w, hg, hl, hz, h1 => by
    have hi : o + i < cur.size := by simp at hl; omega
    have hadd : (⟨g, o, none⟩ : Addr).add i = ⟨g, o + i, none⟩ := by unfold Addr.add; split <;> simp_all
    have hcell : w.cell? ⟨g, o + i, none⟩ = some cur[o + i] := by simp [World.cell?, hg, hi]
    have hfro : w.frozen? ⟨g, o + i, none⟩ = false := by
      simp only [World.frozen?, hg]
      unfold Unfz at hz
      simp only [Bool.and_eq_false_iff, decide_eq_false_iff_not]
      omega
    have hst : (store ((⟨g, o, none⟩ : Addr).add i) v).run P w = .ok () (w.setRow g (cur.setIfInBounds (o + i) v)) := by
      rw [hadd, run_store P w _ v _ (h1 v (by simp)), hcell]
      simp [hfro, setCell_eq_setRow w g (o + i) cur t fz v hg]
    have ih := storeCells_run g o t fz rest (i + 1) (cur.setIfInBounds (o + i) v) (w.setRow g (cur.setIfInBounds (o + i) v)) (setRow_heap w g cur _ t _ hg) (by simp at hl ⊢; omega) (by simpa using hz) (fun x hx => h1 x (by simp [hx]))
    simp only [storeCells, Sem.run_bind, hst, Result.andThen_ok, ih, setRow_setRow]
    congr 3
    have e := list_seg_step cur.toList (o + i) v rest (by simp at hl ⊢; omega)
    simpa [Array.toList_setIfInBounds, Nat.add_assoc] using e

theorem below_setRow {g : Nat} (hB : B ≤ g) (cs : Array Value) : Below B w (w.setRow g cs) :=
  ⟨rfl, rfl, rfl, by simp, fun k hk => setRow_other w g k cs (by omega)⟩

theorem storeVar_run {g o : Nat} {t ty : TypeId} {fz : Nat × Nat} {l : List Value} {v : Value} (hg : w.heap[g]? = some (cel l t fz)) (hs : sizeOfT P ty = some v.cells.size)
    (hl : o + v.cells.size ≤ l.length) (hz : Unfz fz l.length) (h1 : v.cells.toList.all (·.oneCell') = true) :
    (storeVar ty ⟨g, o, none⟩ v).run P w = .ok () (w.setRow g (wr l o v.cells.toList).toArray) := by
  have := storeCells_run (P := P) g o t fz v.cells.toList 0 l.toArray w hg (by simpa using hl) (by simpa using hz) (fun x hx => List.all_eq_true.1 h1 x hx)
  simp only [storeVar, Sem.run_bind, sizeOfT_run hs, Result.andThen_ok, ne_eq, not_true_eq_false, if_false]
  rw [this]
  simp [wr]
end
end Go.Lg
