/- A layer over the weakest preconditions of the model: what is known of memory and of the slots, told by rules. -/
import Derived.Test.YtkjaehdfmmcgmaaGreatDoorLgM2x52c3
import Derived.MapKept
/- Maps from whole numbers to true: a set of numbers. -/
namespace Go.Lg
open Go.RowKit (Below)
open Go.MapKept (run_findKey run_checkKey run_setObj_map heap_set IsKey)

def seenM : Nat → List Int → List MapEntry
  | _, [] => []
  | i, k :: L => { key := .int .i64 k, val := .bool true, born := i } :: seenM (i + 1) L
/-- The map that has these numbers. -/
def mapO (L : List Int) : Obj := .map (seenM 0 L).toArray L.length
theorem seenM_find (k : Int) : ∀ (L : List Int) (i j : Nat), ∃ r, Instr.findNow (.int .i64) (.int .i64 k) (seenM i L) j = some r ∧ (r = none ∧ k ∉ L ∨ ∃ m, r = some (m, .bool true) ∧ k ∈ L)
  | [], _, _ => ⟨none, rfl, .inl ⟨rfl, by simp⟩⟩
  | x :: L, i, j => by
    obtain ⟨r, h1, h2⟩ := seenM_find k L (i + 1) (j + 1)
    by_cases e : k = x
    · subst e
      exact ⟨some (j, .bool true), by simp [seenM, Instr.findNow, Instr.sameNow], .inr ⟨j, rfl, by simp⟩⟩
    · have e' : (k == x) = false := by simp [e]
      refine ⟨r, by simp [seenM, Instr.findNow, Instr.sameNow, e', h1], ?_⟩
      rcases h2 with ⟨h2, h3⟩ | ⟨m, h2, h3⟩
      · exact .inl ⟨h2, by simp [e, h3]⟩
      · exact .inr ⟨m, h2, by simp [h3]⟩

section
variable {P : Program} {B n : Nat} {E : Env} {S : Ents} {o : Oper} {K : Env → Ents → Prop}

theorem Step.makeMap {t : TypeId} (hd : dstOk n o.dst = true) (ho : o.op = .makeMap t none) (h : ∀ L, B ≤ L → (∀ x ∈ S, x.1 < L) → K (putE E o.dst (.map (some L))) ((L, mapO []) :: S)) : Step P B n o K E S := by
  refine Step.makes (v := fun L => .map (some L)) hd (fun a w hS hA => ?_) h
  simp [execOp, ho, Instr.makeMap, mapO, seenM]
theorem Gives.seen {t kt et : TypeId} {x y : Operand} {b : Nat} {k : Int} {L : List Int} (ho : o.op = .lookup t x y false) (hm : P.underlying t = some (.map kt et)) (hk : P.underlying kt = some (.int .i64)) {i : TypeInfo} (hi : P.info? et = some i) (hiz : i.zero = some (.bool false))
    (hx : opd E x = some (.map (some b))) (hy : opd E y = some (.int .i64 k)) : Gives P n [(b, mapO L)] E o (.bool (decide (k ∈ L))) := by
  intro a w hS hA
  have hb : w.heap[b]? = some (.map (seenM 0 L).toArray L.length) := hS (b, mapO L) (by simp)
  have hget : (getObj b).run P w = .ok (.map (seenM 0 L).toArray L.length) w := by simp [getObj, Sem.run, hb]
  obtain ⟨r, h1, h2⟩ := seenM_find k L 0 0
  have hf := run_findKey (P := P) (w := w) hk h1
  have hz : (zeroValue et).run P w = .ok (.bool false) w := by simp [zeroValue, typeInfo, hi, hiz]
  have hck : ∀ em, (Instr.checkKey em 10000 kt (.int .i64 k)).run P w = .ok () w := fun em => run_checkKey (n := 9999) hk (by simp [IsKey]) em
  simp only [execOp, ho, opd_sound hA hx, opd_sound hA hy, Instr.lookup, Sem.run_bind, run_underlying hm, Result.andThen_ok, hget, Sem.run_pure, hck, hf]
  rcases h2 with ⟨rfl, h3⟩ | ⟨m, rfl, h3⟩
  · simp [hz, h3]
  · simp [h3]
end
end Go.Lg

/- Calls of function values that bear arguments; maps from whole numbers to any values. -/
namespace Go.Lg
open Go.RowKit (Below)
open Go.MapKept (run_findKey run_checkKey run_setObj_map heap_set IsKey)
section
variable {P : Program} {B n : Nat} {E : Env} {S : Ents} {o : Oper} {K : Env → Ents → Prop}
theorem Step.callB {c : Call} {f : FuncId} {bnd cap : Array Value} {x : Operand} {vs : List Value} (hd : dstOk n o.dst = true)
    (ho : o.op = .call c) (hc : c.callee = .value x) (hx : opd E x = some (.func (.func f) bnd cap)) (hvs : opds E c.args.toList = some vs)
    (hbody : callable P f = true) (h : CallWp P B f (bnd.toList ++ vs ++ cap.toList).toArray (fun v S' => K (putE E o.dst v) S') S) : Step P B n o K E S := by
  intro a w hS hA
  unfold Oper.wp
  have hargs : c.args.map a.eval = vs.toArray := by
    apply Array.ext'
    simpa using opds_sound hA hvs
  have e : (execOp a.eval o).run P w = .ok (.enter f (bnd.toList ++ vs ++ cap.toList).toArray) w := by
    have hh : execOp a.eval o = callFunc f (bnd ++ vs.toArray ++ cap) := by
      simp [execOp, ho, resolve, hc, opd_sound hA hx, Deferred.ofValue, hargs, invoke]
    rw [hh, callable_run hbody]
    congr 2
    apply Array.ext'
    simp
  rw [e]
  simp only [Oper.upon]
  refine (h w hS).mono ?_
  rintro e w' ⟨v, S', rfl, hb, hs, q⟩
  exact ⟨hb, _, S', hs, hA.putE hd v, q⟩

/-! Maps: entries, each a key, what it holds, and its stamp. -/
abbrev MEnt := Int × Value × Nat
def mapE (L : List MEnt) : List MapEntry := L.map fun x => { key := .int .i64 x.1, val := x.2.1, born := x.2.2 }
def mapS (L : List MEnt) (c : Nat) : Obj := .map (mapE L).toArray c
def findL (k : Int) : List MEnt → Nat → Option (Nat × Value)
  | [], _ => none
  | x :: L, j => if k = x.1 then some (j, x.2.1) else findL k L (j + 1)
def delL (k : Int) : List MEnt → List MEnt
  | [] => []
  | x :: L => if k = x.1 then L else x :: delL k L
theorem findL_eq (k : Int) : ∀ (L : List MEnt) (j : Nat), Instr.findNow (.int .i64) (.int .i64 k) (mapE L) j = some (findL k L j)
  | [], _ => rfl
  | x :: L, j => by
    have ih := findL_eq k L (j + 1)
    by_cases e : k = x.1
    · simp [mapE, Instr.findNow, Instr.sameNow, e, findL]
    · have e' : (k == x.1) = false := by simp [e]
      simp only [mapE, List.map_cons, Instr.findNow, Instr.sameNow, if_true, e', findL, if_neg e] at ih ⊢
      exact ih
theorem findL_none {k : Int} : ∀ {L : List MEnt} {j : Nat}, findL k L j = none → delL k L = L
  | [], _, _ => rfl
  | x :: L, j, h => by
    unfold findL at h
    split at h
    · cases h
    · rename_i e
      rw [delL, if_neg e, findL_none h]
theorem findL_some {k : Int} : ∀ {L : List MEnt} {j i : Nat} {v : Value}, findL k L j = some (i, v) → j ≤ i ∧ i - j < L.length ∧ delL k L = L.eraseIdx (i - j)
  | [], _, _, _, h => by cases h
  | x :: L, j, i, v, h => by
    unfold findL at h
    split at h
    · rename_i e
      simp only [Option.some.injEq, Prod.mk.injEq] at h
      obtain ⟨rfl, rfl⟩ := h
      rw [delL, if_pos e]
      simp
    · rename_i e
      obtain ⟨h1, h2, h3⟩ := findL_some h
      obtain ⟨d, hd⟩ : ∃ d, i - j = d + 1 := ⟨i - j - 1, by omega⟩
      have hd2 : i - (j + 1) = d := by omega
      rw [hd2] at h2 h3
      refine ⟨by omega, by simp only [List.length_cons]; omega, ?_⟩
      rw [delL, if_neg e, h3, hd, List.eraseIdx_cons_succ]
theorem mapE_erase : ∀ (L : List MEnt) (j : Nat), (mapE L).eraseIdx j = mapE (L.eraseIdx j)
  | [], _ => rfl
  | _ :: _, 0 => rfl
  | x :: L, j + 1 => by
    have ih := mapE_erase L j
    simp only [mapE, List.map_cons, List.eraseIdx_cons_succ] at ih ⊢
    rw [ih]
theorem findL_fresh {k : Int} : ∀ {L : List MEnt} {j : Nat}, (∀ x ∈ L, x.1 ≠ k) → findL k L j = none
  | [], _, _ => rfl
  | x :: L, j, h => by
    rw [findL, if_neg (fun e => h x (.head _) e.symm)]
    exact findL_fresh fun y hy => h y (.tail _ hy)

theorem Step.makeMapS {t : TypeId} (hd : dstOk n o.dst = true) (ho : o.op = .makeMap t none) (h : ∀ L, B ≤ L → (∀ x ∈ S, x.1 < L) → K (putE E o.dst (.map (some L))) ((L, mapS [] 0) :: S)) : Step P B n o K E S := by
  refine Step.makes (v := fun L => .map (some L)) hd (fun a w hS hA => ?_) h
  simp [execOp, ho, Instr.makeMap, mapS, mapE]
theorem Gives.lookupS {t kt et : TypeId} {x y : Operand} {b c : Nat} {k : Int} {L : List MEnt} {i : TypeInfo} {z : Value} (ho : o.op = .lookup t x y false) (hm : P.underlying t = some (.map kt et)) (hk : P.underlying kt = some (.int .i64)) (hi : P.info? et = some i) (hiz : i.zero = some z)
    (hx : opd E x = some (.map (some b))) (hy : opd E y = some (.int .i64 k)) : Gives P n [(b, mapS L c)] E o (match findL k L 0 with | some r => r.2 | none => z) := by
  intro a w hS hA
  have hb : w.heap[b]? = some (.map (mapE L).toArray c) := hS (b, mapS L c) (by simp)
  have hget : (getObj b).run P w = .ok (.map (mapE L).toArray c) w := by simp [getObj, Sem.run, hb]
  have hf := run_findKey (P := P) (w := w) hk (findL_eq k L 0)
  have hz : (zeroValue et).run P w = .ok z w := by simp [zeroValue, typeInfo, hi, hiz]
  have hck : ∀ em, (Instr.checkKey em 10000 kt (.int .i64 k)).run P w = .ok () w := fun em => run_checkKey (n := 9999) hk (by simp [IsKey]) em
  simp only [execOp, ho, opd_sound hA hx, opd_sound hA hy, Instr.lookup, Sem.run_bind, run_underlying hm, Result.andThen_ok, hget, Sem.run_pure, hck, hf]
  cases findL k L 0 with
  | none => simp [hz]
  | some r => obtain ⟨i, v⟩ := r; simp
theorem Gives.lenMapS {t kt et : TypeId} {x : Operand} {b c : Nat} {L : List MEnt} (ho : o.op = .call ⟨.builtin .len, #[x], #[t]⟩) (hm : P.underlying t = some (.map kt et))
    (hx : opd E x = some (.map (some b))) : Gives P n [(b, mapS L c)] E o (.int .i64 L.length) := by
  intro a w hS hA
  have hb : w.heap[b]? = some (.map (mapE L).toArray c) := hS (b, mapS L c) (by simp)
  have hget : (getObj b).run P w = .ok (.map (mapE L).toArray c) w := by simp [getObj, Sem.run, hb]
  simp [execOp, ho, resolve, opd_sound hA hx, invoke, builtin, Builtin.len_, run_underlying hm, hget, goInt, mapE]
/-- A key that is not there yet. -/
theorem Step.mapPut {t kt et : TypeId} {x y z : Operand} {b c : Nat} {k : Int} {v : Value} {L : List MEnt} {S' : Ents} (i : Nat) (hd : dstOk n o.dst = true) (ho : o.op = .mapUpdate t x y z) (hm : P.underlying t = some (.map kt et)) (hk : P.underlying kt = some (.int .i64))
    (hx : opd E x = some (.map (some b))) (hy : opd E y = some (.int .i64 k)) (hz : opd E z = some v) (he : entAt S i = some (b, mapS L c)) (hB : B ≤ b) (hn : ∀ x ∈ L, x.1 ≠ k) (hS' : setEnt S i (b, mapS (L ++ [(k, v, c)]) (c + 1)) = some S')
    (h : K (putE E o.dst undef) S') : Step P B n o K E S := by
  intro a w hS hA
  unfold Oper.wp
  have hb : w.heap[b]? = some (.map (mapE L).toArray c) := hS.holds _ (entAt_mem he)
  have hget : (getObj b).run P w = .ok (.map (mapE L).toArray c) w := by simp [getObj, Sem.run, hb]
  have hf := run_findKey (P := P) (w := w) hk (findL_eq k L 0)
  rw [findL_fresh hn] at hf
  have hck : (Instr.checkKey false 10000 kt (.int .i64 k)).run P w = .ok () w := run_checkKey (n := 9999) hk (by simp [IsKey]) false
  have e : mapS (L ++ [(k, v, c)]) (c + 1) = .map ((mapE L).toArray.push { key := .int .i64 k, val := v, born := c }) (c + 1) := by
    unfold mapS mapE
    simp
  have hr : (execOp a.eval o).run P w = .ok .skip { w with heap := w.heap.setIfInBounds b (mapS (L ++ [(k, v, c)]) (c + 1)) } := by
    simp only [execOp, ho, opd_sound hA hx, opd_sound hA hy, opd_sound hA hz, Instr.mapUpdate, Sem.run_bind, run_underlying hm, Result.andThen_ok, hget, hck, hf, run_setObj_map _ hb, Sem.run_pure, e]
  rw [hr]
  have hset := heap_set (o' := mapS (L ++ [(k, v, c)]) (c + 1)) hb
  refine ⟨?_, _, S', ?_, hA.putE hd undef, h⟩
  · exact (Below.refl B w).grown (row := some b) ⟨rfl, rfl, rfl, by simp, fun k' _ hk' => hset.2 k' (fun e => hk' (by rw [e]))⟩ hS.base (fun k' e => by cases e; exact hB)
  · exact hS.turn he hS' hB hset.1 (fun k' hk' => hset.2 k' hk') (by simp)
/-- delete(m, k). -/
theorem Step.mapDel {t kt et kt2 : TypeId} {x y : Operand} {b c : Nat} {k : Int} {L : List MEnt} {S' : Ents} (i : Nat) (hd : dstOk n o.dst = true) (ho : o.op = .call ⟨.builtin .delete, #[x, y], #[t, kt2]⟩) (hm : P.underlying t = some (.map kt et)) (hk : P.underlying kt = some (.int .i64))
    (hx : opd E x = some (.map (some b))) (hy : opd E y = some (.int .i64 k)) (he : entAt S i = some (b, mapS L c)) (hB : B ≤ b) (hS' : setEnt S i (b, mapS (delL k L) c) = some S')
    (h : K (putE E o.dst (.tuple #[])) S') : Step P B n o K E S := by
  intro a w hS hA
  unfold Oper.wp
  have hb : w.heap[b]? = some (.map (mapE L).toArray c) := hS.holds _ (entAt_mem he)
  have hget : (getObj b).run P w = .ok (.map (mapE L).toArray c) w := by simp [getObj, Sem.run, hb]
  have hf := run_findKey (P := P) (w := w) hk (findL_eq k L 0)
  have hck : ∀ em, (Instr.checkKey em 10000 kt (.int .i64 k)).run P w = .ok () w := fun em => run_checkKey (n := 9999) hk (by simp [IsKey]) em
  have hr : (execOp a.eval o).run P w = .ok (.value (.tuple #[])) { w with heap := w.heap.setIfInBounds b (mapS (delL k L) c) } := by
    have h2 : (Builtin.delete_ #[t, kt2] o.type #[.map (some b), .int .i64 k]).run P w = .ok (.tuple #[]) { w with heap := w.heap.setIfInBounds b (mapS (delL k L) c) } := by
      cases hq : findL k L 0 with
      | none =>
        rw [hq] at hf
        simp [Builtin.delete_, run_underlying hm, hget, hck, hf, run_setObj_map _ hb, findL_none hq, mapS]
      | some r =>
        obtain ⟨j, v⟩ := r
        rw [hq] at hf
        obtain ⟨_, h3, h4⟩ := findL_some hq
        rw [Nat.sub_zero] at h3 h4
        simp [Builtin.delete_, run_underlying hm, hget, hck, hf, run_setObj_map _ hb, mapS]
        rw [mapE_erase, h4]
    simp [execOp, ho, resolve, invoke, builtin, opd_sound hA hx, opd_sound hA hy, h2]
  rw [hr]
  have hset := heap_set (o' := mapS (delL k L) c) hb
  refine ⟨?_, _, S', ?_, hA.putE hd _, h⟩
  · exact (Below.refl B w).grown (row := some b) ⟨rfl, rfl, rfl, by simp, fun k' _ hk' => hset.2 k' (fun e => hk' (by rw [e]))⟩ hS.base (fun k' e => by cases e; exact hB)
  · exact hS.turn he hS' hB hset.1 (fun k' hk' => hset.2 k' hk') (by simp)
end
end Go.Lg
