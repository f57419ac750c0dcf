/- A layer over the weakest preconditions of the model: what is known of memory and of the slots, told by rules. -/
import Derived.Test.YtnjgekonoladfaaLgMem
namespace Go.Lg
open Go.RowKit (Below)

section
variable {P : Program} {B n : Nat} {E : Env} {S : Ents} {o : Oper} {K : Env → Ents → Prop}

/-- The slots at a function's begin. -/
def args0 : List Value → Nat → Env
  | [], _ => []
  | v :: vs, i => (i, v) :: args0 vs (i + 1)

theorem args0_get : ∀ (vs : List Value) (i d : Nat) (v : Value), Env.get (args0 vs i) d = some v → i ≤ d ∧ vs[d - i]? = some v
  | [], _, _, _, h => by simp [args0, Env.get] at h
  | u :: vs, i, d, v, h => by
    simp only [args0] at h
    rw [Env.get_cons] at h
    split at h
    · rename_i e; subst e; simpa using h
    · rename_i e
      obtain ⟨h1, h2⟩ := args0_get vs (i + 1) d v h
      refine ⟨by omega, ?_⟩
      have : d - i = d - (i + 1) + 1 := by omega
      rw [this]; simpa using h2

/-- What a cell's place reads as. -/
def Loads (P : Program) (S : Ents) (b o : Nat) (t : TypeId) (v : Value) : Prop :=
  ∃ l e fz, (b, cel l e fz) ∈ S ∧ partAt P t l o = some v

theorem Loads.run {b o' : Nat} {t : TypeId} {v : Value} (h : Loads P S b o' t v) {w : World} (hS : Sim B S w) : (loadVar t ⟨b, o', none⟩).run P w = .ok v w := by
  obtain ⟨l, e, fz, hm, hp⟩ := h
  exact loadVar_at (hS.holds _ hm) hp

def ResV (P : Program) (E : Env) (S : Ents) : List ResultVar → List Value → Prop
  | [], vs => vs = []
  | .tmp t :: r, vs => ∃ v vs', vs = v :: vs' ∧ E.get t = some v ∧ ResV P E S r vs'
  | .cell a t :: r, vs => ∃ b o v vs', vs = v :: vs' ∧ E.get a = some (.pointer (some ⟨b, o, none⟩)) ∧ Loads P S b o t v ∧ ResV P E S r vs'

def tup : List Value → Value
  | [v] => v
  | vs => .tuple vs.toArray

def RetQ (P : Program) (rs : List ResultVar) (Q : Value → Ents → Prop) (e : Exit) (E : Env) (S : Ents) : Prop :=
  (match e with | .normal => True | .ret => True | _ => False) ∧ ∃ vs, ResV P E S rs vs ∧ Q (tup vs) S

def resM (t : Array Value) : ResultVar → Sem Value
  | .tmp k => Pure.pure (t.getD k undef)
  | .cell p ty => do loadVar ty (← asAddr (t.getD p undef))

theorem ResV.run {a : Act} {w : World} (hA : Agree E n a) (hS : Sim B S w) : ∀ (rs : List ResultVar) (vs : List Value), ResV P E S rs vs →
    (rs.mapM (resM a.tmps)).run P w = .ok vs w
  | [], vs, h => by simp only [ResV] at h; subst h; rfl
  | .tmp t :: r, vs, h => by
    obtain ⟨v, vs', rfl, he, hr⟩ := h
    have ih := ResV.run hA hS r vs' hr
    have hv := hA.reads t v he
    rw [List.mapM_cons]
    simp [ih, hv, resM]
  | .cell p t :: r, vs, h => by
    obtain ⟨b, o, v, vs', rfl, he, hl, hr⟩ := h
    have ih := ResV.run hA hS r vs' hr
    have hv := hA.reads p _ he
    rw [List.mapM_cons]
    simp [ih, hv, asAddr, hl.run hS, resM]

theorem results_eq (fn : Func) (t : Array Value) : results fn t = (do let vs ← fn.results.mapM (resM t); Pure.pure (if h : vs.size = 1 then vs[0] else .tuple vs)) := by
  unfold results
  congr 2

theorem results_run {fn : Func} {a : Act} {w : World} {vs : List Value} (hA : Agree E n a) (hS : Sim B S w) (h : ResV P E S fn.results.toList vs) :
    (results fn a.tmps).run P w = .ok (tup vs) w := by
  have h1 := ResV.run hA hS _ vs h
  have h2 : (fn.results.mapM (resM a.tmps)).run P w = .ok vs.toArray w := by
    rw [Array.mapM_eq_mapM_toList]
    simp only [Sem.run_map]
    rw [h1]
    rfl
  rw [results_eq]
  simp only [Sem.run_bind, h2, Result.andThen_ok, Sem.run_pure]
  congr 1
  match vs with
  | [] => rfl
  | [v] => rfl
  | u :: v :: r => simp [tup]

theorem CallWp.enter {f : FuncId} {fn : Func} {c : Code} {args : List Value} {Q : Value → Ents → Prop} (hf : P.funcs[f]? = some fn) (hb : fn.body = some c) (hn : fn.ntmps = n)
    (ha : Nat.ble args.length n = true) (h : Wp P B n c (RetQ P fn.results.toList Q) (args0 args 0) S) : CallWp P B f args.toArray Q S := by
  intro w hS
  refine calls_of_wp hf hb ?_
  have hlen : args.length ≤ n := by simpa [Nat.ble_eq] using ha
  have hA : Agree (args0 args 0) n { tmps := args.toArray ++ Array.replicate (fn.ntmps - args.toArray.size) undef, defers := [] } := by
    refine ⟨fun d v hd => ?_, by simp; omega, rfl⟩
    obtain ⟨_, h2⟩ := args0_get args 0 d v hd
    have hlt : d < args.length := (List.getElem?_eq_some_iff.1 h2).1
    simp only [Nat.sub_zero] at h2
    rw [Array.getElem?_append_left (by simpa using hlt)]
    simpa using h2
  refine wp_mono (h _ w hS hA) ?_
  rintro e a' w' ⟨_, E', S', hb, hs, ha, hr, vs, hres, q⟩
  have hrun := results_run (fn := fn) ha hs hres
  cases e with
  | normal => exact ⟨ha.defers, _, hrun, _, S', rfl, hb, hs, q⟩
  | ret => exact ⟨ha.defers, _, hrun, _, S', rfl, hb, hs, q⟩
  | exit _ => exact hr.elim
  | goto _ => exact hr.elim
  | panic _ => exact hr.elim
  | outgrown => exact hr.elim

/-- A read. -/
theorem Gives.load {t : TypeId} {x : Operand} {b o' : Nat} {v : Value} {l : List Value} {e : TypeId} {fz : Nat × Nat}
    (ho : o.op = .load t x) (hx : opd E x = some (.pointer (some ⟨b, o', none⟩))) (hp : partAt P t l o' = some v) :
    Gives P n [(b, cel l e fz)] E o v := by
  intro a w hS hA
  have := loadVar_at (P := P) (hS (b, cel l e fz) (by simp)) hp
  simp [execOp, ho, opd_sound hA hx, Instr.loadAt, Instr.sureAddr, this]

/-- An operation that makes one new row. -/
theorem Step.makes {v : Nat → Value} {ob : Obj} (hd : dstOk n o.dst = true)
    (hr : ∀ a w, Sim B S w → Agree E n a → (execOp a.eval o).run P w = .ok (.value (v w.heap.size)) (w.alloc ob))
    (h : ∀ L, B ≤ L → (∀ x ∈ S, x.1 < L) → K (putE E o.dst (v L)) ((L, ob) :: S)) : Step P B n o K E S := by
  intro a w hS hA
  unfold Oper.wp
  rw [hr a w hS hA]
  exact ⟨(Below.refl B w).alloc hS.base ob, _, _, hS.alloc ob, hA.putE hd _, h _ hS.base fun x hx => hS.lt hx⟩

def zeroOf (P : Program) (t : TypeId) : Option (List Value) :=
  match P.info? t with
  | some i => match i.zero with
    | some z => some (cellsOf z)
    | none => none
  | none => none

theorem cellsOf_eq (v : Value) : v.cells = (cellsOf v).toArray := by cases v <;> simp [Value.cells, cellsOf]

theorem zeroOf_run {t : TypeId} {z : List Value} (h : zeroOf P t = some z) (w : World) : ∃ v, (zeroValue t).run P w = .ok v w ∧ v.cells = z.toArray := by
  unfold zeroOf at h
  split at h
  · rename_i i hi
    split at h
    · rename_i v hv
      obtain rfl := Option.some.inj h
      exact ⟨v, by simp [zeroValue, typeInfo, hi, hv], cellsOf_eq v⟩
    · cases h
  · cases h

theorem Step.alloc {t : TypeId} {z : List Value} (hd : dstOk n o.dst = true) (ho : o.op = .alloc t) (hz : zeroOf P t = some z)
    (h : ∀ L, B ≤ L → (∀ x ∈ S, x.1 < L) → K (putE E o.dst (.pointer (some ⟨L, 0, none⟩))) ((L, cel z t) :: S)) : Step P B n o K E S := by
  refine Step.makes (v := fun L => .pointer (some ⟨L, 0, none⟩)) hd (fun a w hS hA => ?_) h
  obtain ⟨v, hv, hc⟩ := zeroOf_run (P := P) hz w
  simp [execOp, ho, Instr.alloc, hv, newVar, newRow, hc]

theorem Step.box {t : TypeId} {x : Operand} {v : Value} (hd : dstOk n o.dst = true) (ho : o.op = .box t x) (hx : opd E x = some v)
    (h : ∀ L, B ≤ L → (∀ x ∈ S, x.1 < L) → K (putE E o.dst (.pointer (some ⟨L, 0, none⟩))) ((L, cel (cellsOf v) t) :: S)) : Step P B n o K E S := by
  refine Step.makes (v := fun L => .pointer (some ⟨L, 0, none⟩)) hd (fun a w hS hA => ?_) h
  simp [execOp, ho, Instr.box, opd_sound hA hx, newVar, newRow, cellsOf_eq]

/-- A store into a row of the call's own: entry i. -/
theorem Step.store {t : TypeId} {x y : Operand} {b o' : Nat} {v : Value} (i : Nat) {l : List Value} {e : TypeId} {fz : Nat × Nat} {S' : Ents} (hd : dstOk n o.dst = true)
    (ho : o.op = .store t x y) (hx : opd E x = some (.pointer (some ⟨b, o', none⟩))) (hy : opd E y = some v) (he : entAt S i = some (b, cel l e fz)) (hB : B ≤ b)
    (hs : sizeOfT P t = some v.cells.size) (hl : o' + v.cells.size ≤ l.length) (hz : Unfz fz l.length) (h1 : v.cells.toList.all (·.oneCell') = true)
    (hS' : setEnt S i (b, cel (wr l o' v.cells.toList) e fz) = some S')
    (h : K (putE E o.dst undef) S') : Step P B n o K E S := by
  intro a w hS hA
  unfold Oper.wp
  have hgb := hS.holds _ (entAt_mem he)
  have hr : (execOp a.eval o).run P w = .ok .skip (w.setRow b (wr l o' v.cells.toList).toArray) := by
    simp only [execOp, ho, opd_sound hA hx, opd_sound hA hy, Instr.storeAt, Instr.sureAddr, Sem.run_bind, Sem.run_pure, Result.andThen_ok]
    rw [storeVar_run hgb hs hl hz h1]
    rfl
  rw [hr]
  refine ⟨below_setRow hB _, _, S', ?_, hA.putE hd undef, h⟩
  exact hS.turn he hS' hB (setRow_heap w b _ _ e fz hgb) (fun k hk => setRow_other w b k _ hk) (by simp)

/-- A literal's cells. -/
def fillL (place : Nat → Option (Nat × Nat)) : List (Nat × Value) → List Value → Option (List Value)
  | [], cs => some cs
  | (i, v) :: r, cs => match place i with
    | some (off, sz) => match Nat.beq (cellsOf v).length sz, Nat.ble off cs.length, setAt cs off (cellsOf v) with
      | true, true, some cs' => fillL place r cs'
      | _, _, _ => none
    | none => none

theorem foldl_set (vs : List Value) : ∀ (off k : Nat) (cs : Array Value), (vs.zipIdx k).foldl (fun cs (x : Value × Nat) => cs.setIfInBounds (off + x.2) x.1) cs =
    (vs.zipIdx 0).foldl (fun cs (x : Value × Nat) => cs.setIfInBounds (off + k + x.2) x.1) cs := by
  induction vs with
  | nil => intro _ _ _; rfl
  | cons v vs ih =>
    intro off k cs
    simp only [List.zipIdx_cons, List.foldl_cons, Nat.add_zero, Nat.zero_add]
    rw [ih off (k + 1), ih (off + k) 1]
    simp only [Nat.add_assoc]

theorem foldl_wr (vs : List Value) : ∀ (off : Nat) (cs : List Value), off + vs.length ≤ cs.length →
    (vs.zipIdx 0).foldl (fun (cs : Array Value) (x : Value × Nat) => cs.setIfInBounds (off + x.2) x.1) cs.toArray = (wr cs off vs).toArray := by
  induction vs with
  | nil => intro off cs _; simp [wr]
  | cons v vs ih =>
    intro off cs h
    simp only [List.zipIdx_cons, List.foldl_cons, Nat.add_zero, Nat.zero_add]
    rw [foldl_set vs off 1, List.setIfInBounds_toArray]
    rw [ih (off + 1) _ (by simp at h ⊢; omega)]
    congr 1
    have e := list_seg_step cs off v vs (by simp at h ⊢; omega)
    simpa [wr, Nat.add_assoc, Nat.add_comm, Nat.add_left_comm] using e

theorem fillL_eq (place : Nat → Option (Nat × Nat)) : ∀ (ps : List (Nat × Value)) (cs r : List Value),
    fillL place ps cs = some r → Instr.fill place cs.toArray ps = some r.toArray
  | [], cs, r, h => by simp [fillL] at h; simp [Instr.fill, h]
  | (i, v) :: ps, cs, r, h => by
    simp only [fillL] at h
    split at h
    · rename_i off sz hoff
      split at h
      · rename_i cs' hsz hle hcs
        have hle : off ≤ cs.length := by simpa [Nat.ble_eq] using hle
        have hsz : (cellsOf v).length = sz := by simpa using hsz
        obtain ⟨rfl, h2, h3⟩ := setAt_eq _ _ _ _ hcs
        have ih := fillL_eq place ps _ r h
        have hvs : v.cells.size = (cellsOf v).length := by rw [cellsOf_eq]; simp
        simp only [Instr.fill, hoff]
        by_cases he : cellsOf v = []
        · have hv0 : v.cells = #[] := by rw [cellsOf_eq, he]
          have hw : wr cs off (cellsOf v) = cs := by rw [he]; simp [wr]
          rw [hw] at ih
          have : sz = 0 := by rw [← hsz, he]; rfl
          rw [if_neg (by rw [hv0, this]; simp; exact hle), hv0]
          exact ih
        · have hl := h3 he
          rw [if_neg (by simp [hvs, hsz]; omega)]
          rw [show v.cells.zipIdx.foldl (fun cs (x : Value × Nat) => cs.setIfInBounds (off + x.2) x.1) cs.toArray = (wr cs off (cellsOf v)).toArray from ?_]
          · exact ih
          · rw [cellsOf_eq]
            have := foldl_wr (cellsOf v) off cs hl
            simpa using this
      · cases h
    · cases h

def placesOf (P : Program) : List Field → Option (List (Nat × Nat))
  | [] => some []
  | f :: fs => match sizeOfT P f.type, placesOf P fs with
    | some s, some r => some ((f.offset, s) :: r)
    | _, _ => none

theorem placesOf_run (w : World) : ∀ (fs : List Field) (r : List (Nat × Nat)), placesOf P fs = some r →
    (fs.mapM fun f => (do Pure.pure (f.offset, ← sizeOf f.type) : Sem (Nat × Nat))).run P w = .ok r w
  | [], r, h => by simp [placesOf] at h; subst h; rfl
  | f :: fs, r, h => by
    simp only [placesOf] at h
    split at h
    · rename_i s q hs hq
      obtain rfl := Option.some.inj h
      have ih := placesOf_run w fs q hq
      rw [List.mapM_cons]
      simp only [Sem.run_bind, sizeOfT_run hs, Result.andThen_ok, Sem.run_pure]
      rw [ih]
      rfl
    · cases h

def partsE (E : Env) : List (Nat × Operand) → Option (List (Nat × Value))
  | [] => some []
  | (i, x) :: r => match opd E x, partsE E r with
    | some v, some q => some ((i, v) :: q)
    | _, _ => none

theorem partsE_eq {a : Act} (hA : Agree E n a) : ∀ (ps : List (Nat × Operand)) (r : List (Nat × Value)), partsE E ps = some r → ps.map (fun (i, x) => (i, a.eval x)) = r
  | [], r, h => by simp [partsE] at h; simp [h]
  | (i, x) :: ps, r, h => by
    simp only [partsE] at h
    split at h
    · rename_i v q hv hq
      obtain rfl := Option.some.inj h
      simp [opd_sound hA hv, partsE_eq hA ps q hq]
    · cases h

def buildV (P : Program) (E : Env) (t : TypeId) (ps : List (Nat × Operand)) : Option Value :=
  match zeroOf P t, P.underlying t, partsE E ps with
  | some z, some (.struct fs), some q => match placesOf P fs.toList with
    | some pl => match fillL (fun i => pl[i]?) q z with
      | some cs => some (.agg cs.toArray)
      | none => none
    | none => none
  | some z, some (.array _ e), some q => match sizeOfT P e with
    | some s => match fillL (fun i => some (i * s, s)) q z with
      | some cs => some (.agg cs.toArray)
      | none => none
    | none => none
  | _, _, _ => none

theorem Gives.build {t : TypeId} {ps : Array (Nat × Operand)} {v : Value} (ho : o.op = .build t ps) (hv : buildV P E t ps.toList = some v) :
    Gives P n [] E o v := by
  intro a w hS hA
  unfold buildV at hv
  have hps : ∀ q, partsE E ps.toList = some q → ps.map (fun (i, x) => (i, a.eval x)) = q.toArray := by
    intro q hq
    apply Array.ext'
    simpa using partsE_eq hA _ _ hq
  split at hv
  · rename_i z fs q hz hu hq
    obtain ⟨zv, hzr, hzc⟩ := zeroOf_run (P := P) hz w
    split at hv
    · rename_i pl hpl
      split at hv
      · rename_i cs hcs
        obtain rfl := Option.some.inj hv
        have h1 := placesOf_run (P := P) w _ _ hpl
        have h2 : (fs.mapM fun f => (do Pure.pure (f.offset, ← sizeOf f.type) : Sem (Nat × Nat))).run P w = .ok pl.toArray w := by
          rw [Array.mapM_eq_mapM_toList]
          simp only [Sem.run_map]
          rw [h1]
          rfl
        have hf := fillL_eq _ _ _ _ hcs
        have hf' : Instr.fill (fun i => pl.toArray[i]?) z.toArray q = some cs.toArray := by simpa using hf
        simp only [execOp, ho, hps q hq, Instr.build, Sem.run_bind, hzr, Result.andThen_ok, run_underlying hu, hzc]
        rw [h2]
        simp only [Result.andThen_ok]
        simp only [hf']
        rfl
      · cases hv
    · cases hv
  · rename_i z k e q hz hu hq
    obtain ⟨zv, hzr, hzc⟩ := zeroOf_run (P := P) hz w
    split at hv
    · rename_i sz hsz
      split at hv
      · rename_i cs hcs
        obtain rfl := Option.some.inj hv
        have hf := fillL_eq _ _ _ _ hcs
        simp only [execOp, ho, hps q hq, Instr.build, Sem.run_bind, hzr, Result.andThen_ok, run_underlying hu, hzc, sizeOfT_run hsz]
        simp only [hf]
        rfl
      · cases hv
    · cases hv
  · cases hv

/-- So many zeros, laid one behind the other. -/
def zeros (z : List Value) : Nat → List Value
  | 0 => []
  | k + 1 => z ++ zeros z k

theorem zeros_length (z : List Value) (k : Nat) : (zeros z k).length = k * z.length := by
  induction k with
  | zero => simp [zeros]
  | succ k ih => simp [zeros, ih, Nat.succ_mul, Nat.add_comm]

theorem zeros_get (z : List Value) : ∀ (k i : Nat), i < k * z.length → (zeros z k)[i]? = z[i % z.length]?
  | 0, i, h => by simp at h
  | k + 1, i, h => by
    have hz : 0 < z.length := by
      rcases Nat.eq_zero_or_pos z.length with h0 | h0
      · rw [h0] at h; simp at h
      · exact h0
    simp only [zeros]
    by_cases hi : i < z.length
    · rw [List.getElem?_append_left hi, Nat.mod_eq_of_lt hi]
    · have hge : z.length ≤ i := by omega
      rw [List.getElem?_append_right hge, zeros_get z k (i - z.length) (by rw [Nat.succ_mul] at h; omega)]
      congr 1
      exact (Nat.mod_eq_sub_mod hge).symm

theorem range_zeros (z : List Value) (k : Nat) (hz : 0 < z.length) : (Array.range (k * z.length)).map (fun i => z.toArray[i % z.toArray.size]!) = (zeros z k).toArray := by
  apply Array.ext
  · simp [zeros_length]
  · intro i h1 h2
    simp only [Array.size_map, Array.size_range] at h1
    have hm : i % z.length < z.length := Nat.mod_lt _ hz
    have h3 := zeros_get z k i h1
    rw [List.getElem?_eq_getElem hm] at h3
    have h4 : (zeros z k)[i]? = some (zeros z k)[i] := List.getElem?_eq_getElem (by simpa using h2)
    rw [h4] at h3
    simp only [Array.getElem_map, Array.getElem_range, List.getElem_toArray, List.size_toArray]
    rw [Option.some.inj h3]
    simp [hm]

def buildSliceL (P : Program) (E : Env) (t : TypeId) (len : Nat) (ps : List (Nat × Operand)) : Option (TypeId × List Value) :=
  match P.underlying t, partsE E ps with
  | some (.slice e), some q => match sizeOfT P e, zeroOf P e with
    | some (s + 1), some z => match Nat.beq z.length (s + 1), Nat.ble (len * (s + 1)) 16777216, fillL (fun i => some (i * (s + 1), s + 1)) q (zeros z len) with
      | true, true, some cs => some (e, cs)
      | _, _, _ => none
    | _, _ => none
  | _, _ => none

theorem Step.buildSlice {t : TypeId} {len : Nat} {ps : Array (Nat × Operand)} {e : TypeId} {cs : List Value} (hd : dstOk n o.dst = true) (ho : o.op = .buildSlice t len ps)
    (hv : buildSliceL P E t len ps.toList = some (e, cs))
    (h : ∀ L, B ≤ L → (∀ x ∈ S, x.1 < L) → K (putE E o.dst (.slice (some ⟨L, 0, none⟩) len len)) ((L, cel cs e) :: S)) : Step P B n o K E S := by
  refine Step.makes (v := fun L => .slice (some ⟨L, 0, none⟩) len len) hd (fun a w hS hA => ?_) h
  unfold buildSliceL at hv
  split at hv
  · rename_i e' q hu hq
    split at hv
    · rename_i s z hs hz
      split at hv
      · rename_i cs' hzl hle hcs
        simp only [Option.some.injEq, Prod.mk.injEq] at hv
        obtain ⟨rfl, rfl⟩ := hv
        have hzl : z.length = s + 1 := by simpa using hzl
        have hle : len * (s + 1) ≤ 16777216 := by simpa [Nat.ble_eq] using hle
        obtain ⟨zv, hzr, hzc⟩ := zeroOf_run (P := P) hz w
        have hps : ps.map (fun (i, x) => (i, a.eval x)) = q.toArray := by
          apply Array.ext'
          simpa using partsE_eq hA _ _ hq
        have hf := fillL_eq _ _ _ _ hcs
        simp only [execOp, ho, hps, Instr.buildSlice, Sem.run_bind, run_underlying hu, Result.andThen_ok, sizeOfT_run hs]
        rw [if_neg (show ¬ len * (s + 1) > 2 ^ 24 from Nat.not_lt.2 hle)]
        by_cases h0 : len = 0
        · subst h0
          simp only [zeros] at hf
          simp [Array.range_zero', hf, newRow]
        · rw [if_neg (by intro h; rcases Nat.mul_eq_zero.1 h with h | h <;> omega)]
          simp only [Sem.run_bind, hzr, Result.andThen_ok, Sem.run_pure, hzc]
          have hr := range_zeros z len (by omega)
          rw [hzl] at hr
          rw [hr]
          simp only [hf]
          simp [newRow]
      · cases hv
    · cases hv
  · cases hv

end
end Go.Lg
