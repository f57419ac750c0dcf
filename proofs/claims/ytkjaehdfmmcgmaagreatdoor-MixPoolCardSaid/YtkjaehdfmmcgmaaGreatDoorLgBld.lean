/- A layer over the weakest preconditions of the model: what is known of memory and of the slots, told by rules. -/
import Derived.Test.YtkjaehdfmmcgmaaGreatDoorLgM3x86f8
import Derived.Lib.AppendStr
import Derived.Lib.FrozenHead
import Derived.Lib.UnsafeStr
import Derived.Lib.MakeNoZero
import Derived.Lib.Builder
namespace Go.Lg
open Go.RowKit (Below)

/-- A builder's bytes: nil, or a row of the call's own whose head strings may share. -/
def OwnF (B : Nat) (e : TypeId) (v : Value) (xs : List UInt8) (es : Ents) : Prop :=
  (v = .slice none 0 0 ∧ xs = [] ∧ es = []) ∨
  ∃ b cap g fz, v = .slice (some ⟨b, 0, none⟩) xs.length cap ∧ es = [(b, cel (byteCells xs ++ g) e fz)] ∧ B ≤ b ∧ fz.2 ≤ xs.length ∧ 0 < cap ∧ cap ≤ maxLen ∧ xs.length + g.length = cap

theorem OwnF.nil (B : Nat) (e : TypeId) : OwnF B e (.slice none 0 0) [] [] := .inl ⟨rfl, rfl, rfl⟩

theorem strCells_str (s : List UInt8) : Lib.strCells (str s) = byteCells s := by
  simp [Lib.strCells, byteCells, str]

theorem byteCells_append (a b : List UInt8) : byteCells (a ++ b) = byteCells a ++ byteCells b := by simp [byteCells]

theorem Own.toF {B : Nat} {e : TypeId} {v : Value} {xs : List UInt8} {es : Ents} (h : Own B e 1 v xs.length (byteCells xs) es) (hn : xs = [] → v = .slice none 0 0) : OwnF B e v xs es := by
  obtain ⟨_, ⟨h1, h2, h3⟩ | ⟨b, cap, cur, h1, h2, h3, h4, h5, h6, h7⟩⟩ := h
  · exact .inl ⟨h1, List.eq_nil_of_length_eq_zero h2, h3⟩
  · have hne : xs ≠ [] := fun e' => by have := hn e'; rw [h1] at this; cases this
    have hl : 0 < xs.length := List.length_pos_iff.2 hne
    refine .inr ⟨b, cap, cur.drop xs.length, (0, 0), h1, ?_, h3, Nat.zero_le _, by omega, h5, by rw [List.length_drop]; omega⟩
    rw [h2]
    rw [Nat.mul_one] at h7
    rw [← h7, List.take_append_drop]

theorem sub1 {x : Nat × Obj} {R : Ents} : ∀ y ∈ [x], y ∈ x :: R := fun y h => by rw [List.mem_singleton] at h; rw [h]; exact .head _

section
variable {P : Program} {B n : Nat} {E : Env} {S : Ents} {o : Oper} {K : Env → Ents → Prop}

theorem appendF_core {t u ty e : TypeId} {i : TypeInfo} (ht : P.underlying t = some (.slice e)) (hu : P.underlying u = some .string) (hi : P.info? e = some i) (hz : i.zero = some (.int .u8 0)) (hs : i.size = 1) (hb : i.bytes = 1)
    {v : Value} {xs s : List UInt8} {es R : Ents} {w : World} (hS : Sim B (es ++ R) w) (ho : OwnF B e v xs es) (hl : xs.length + s.length ≤ 140737488355328) :
    ∃ v' w' es', (Builtin.append_ #[t, u] ty #[v, .string (str s)]).run P w = .ok v' w' ∧ OwnF B e v' (xs ++ s) es' ∧ Sim B (es' ++ R) w' ∧ Below B w w' := by
  have hR : Sim B R w := hS.sublist (List.sublist_append_right es R)
  have hm : maxLen = 9223372036854775807 := rfl
  have hsz : (str s).size = s.length := rfl
  rcases ho with ⟨rfl, rfl, rfl⟩ | ⟨b, cap, g, fz, rfl, rfl, hB, hfz, h0, hcm, hcl⟩
  · obtain ⟨v', w', hrun, ho, hg, hn⟩ := Lib.run_append_own_string (P := P) w w.heap.size t u ty e i ht hu hi hz hs hb (.slice none 0 0) 0 [] (World.ownsRow_nil w _ e 1) (str s) (by rw [hsz, hm]; simp at hl; omega) (by rw [hsz]; simpa using hl) (Nat.le_refl _)
    obtain ⟨es', h1, h2⟩ := Own.of_new hR ho hg
    rw [hsz, strCells_str, Nat.zero_add, List.nil_append] at h1
    exact ⟨v', w', es', hrun, h1.toF (fun e' => hn.2 ⟨rfl, by rw [hsz, e']; rfl⟩), h2, below_grown hR.base hg⟩
  · have hgb : w.heap[b]? = some (.cells (byteCells xs ++ g).toArray e fz) := hS.holds (b, cel (byteCells xs ++ g) e fz) (by simp)
    by_cases hroom : xs.length + s.length ≤ cap
    · have hrun := Lib.run_append_room_stringF (P := P) w t u ty e i ht hu hi hs b xs.length cap (byteCells xs ++ g).toArray fz hgb hfz (str s) (by rw [hsz]; exact hroom) (by rw [hsz]; simp only [List.size_toArray, List.length_append, byteCells_length]; omega)
      have hlist : List.take xs.length (byteCells xs ++ g) ++ Lib.strCells (str s) ++ List.drop (xs.length + s.length) (byteCells xs ++ g) = byteCells (xs ++ s) ++ g.drop s.length := by
        have hx : (byteCells xs).length = xs.length := byteCells_length xs
        rw [strCells_str, byteCells_append, ← hx, List.take_left, List.drop_length_add_append]
      rw [hsz] at hrun
      simp only [] at hrun
      rw [hlist] at hrun
      refine ⟨_, _, [(b, cel (byteCells (xs ++ s) ++ g.drop s.length) e fz)], hrun, .inr ⟨b, cap, g.drop s.length, fz, by rw [List.length_append], rfl, hB, by rw [List.length_append]; omega, h0, hcm, by rw [List.length_append, List.length_drop]; omega⟩, ?_, ?_⟩
      · refine Sim.turn (i := 0) (b := b) hS rfl rfl hB ?_ (fun q hq => setRow_other w b q _ hq) (by simp)
        simpa [cel] using setRow_heap w b _ _ e fz hgb
      · exact below_setRow hB _
    · have holds : ∀ j u, (byteCells xs)[j]? = some u → w.cell? ((⟨b, 0, none⟩ : Addr).add j) = some u := by
        intro j u hj
        rw [Addr.add_lit]
        have hlt : j < (byteCells xs).length := (List.getElem?_eq_some_iff.1 hj).1
        simp only [World.cell?, hgb, Nat.zero_add]
        rw [List.getElem?_toArray, List.getElem?_append_left hlt, hj]; rfl
      have hrun := Lib.run_append_grow_string (P := P) w t u ty e i (.int .u8 0) ht hu hi hz ⟨b, 0, none⟩ xs.length cap (byteCells xs) (by rw [hs, byteCells_length, Nat.mul_one]) holds (str s) (by rw [hsz]; omega) (by rw [hsz]; omega) (by rw [hb, hsz]; exact growslice_fits (by omega) (by omega))
      rw [hsz] at hrun
      have hge := grownCap_ge w (xs.length + s.length) cap e
      have hcm2 : grownCap w (xs.length + s.length) cap e ≤ maxLen := grownCap_le_maxLen w (xs.length + s.length) cap e (by rw [hm]; omega)
      have hcells : (byteCells xs).toArray ++ (Lib.strCells (str s)).toArray ++ Builtin.zeroCells (Value.int .u8 0).cells (grownCap w (xs.length + s.length) cap e - (xs.length + s.length)) =
          (byteCells (xs ++ s) ++ (Builtin.zeroCells (Value.int .u8 0).cells (grownCap w (xs.length + s.length) cap e - (xs.length + s.length))).toList).toArray := by
        apply Array.ext'
        rw [strCells_str, byteCells_append]
        simp
      rw [hcells] at hrun
      have hg : w.grownBy (w.drew.alloc (.cells (byteCells (xs ++ s) ++ (Builtin.zeroCells (Value.int .u8 0).cells (grownCap w (xs.length + s.length) cap e - (xs.length + s.length))).toList).toArray e)) none :=
        ⟨rfl, rfl, rfl, by simp, fun k hk _ => heap_alloc_old w.drew _ hk⟩
      have hz1 : (Value.int IntKind.u8 0).cells.size = 1 := rfl
      refine ⟨_, _, [(w.heap.size, cel (byteCells (xs ++ s) ++ (Builtin.zeroCells (Value.int .u8 0).cells (grownCap w (xs.length + s.length) cap e - (xs.length + s.length))).toList) e)], hrun,
        .inr ⟨w.heap.size, _, _, (0, 0), by rw [List.length_append], rfl, hR.base, Nat.zero_le _, by omega, hcm2, ?_⟩, hR.grow rfl (heap_alloc_new w.drew _) (fun k hk => heap_alloc_old w.drew _ hk) (by simp), below_grown hR.base hg⟩
      simp only [List.length_append, Array.length_toList, size_zeroCells, hz1]
      omega

/-- append(bytes, s...). -/
theorem Step.appendF {t u e : TypeId} {i : TypeInfo} {x y : Operand} {v : Value} {xs s : List UInt8} {es R : Ents}
    (hd : dstOk n o.dst = true) (ho : o.op = .call ⟨.builtin .append, #[x, y], #[t, u]⟩)
    (ht : P.underlying t = some (.slice e)) (hu : P.underlying u = some .string) (hi : P.info? e = some i) (hz : i.zero = some (.int .u8 0)) (hs : i.size = 1) (hb : i.bytes = 1)
    (hx : opd E x = some v) (hy : opd E y = some (.string (str s))) (hSR : ∀ w, Sim B S w → Sim B (es ++ R) w) (hown : OwnF B e v xs es) (hl : xs.length + s.length ≤ 140737488355328)
    (h : ∀ v' es', OwnF B e v' (xs ++ s) es' → K (putE E o.dst v') (es' ++ R)) : Step P B n o K E S := by
  intro a w hS hA
  unfold Oper.wp
  obtain ⟨v', w', es', hrun, hown', hS', hb⟩ := appendF_core (P := P) (ty := o.type) ht hu hi hz hs hb (hSR w hS) hown hl
  have hr : (execOp a.eval o).run P w = .ok (.value v') w' := by
    simp [execOp, ho, resolve, invoke, builtin, opd_sound hA hx, opd_sound hA hy, hrun]
  rw [hr]
  exact ⟨hb, _, _, hS', hA.putE hd _, h v' es' hown'⟩

/-- unsafe.SliceData of a builder's bytes. -/
theorem Step.sliceData {ts : Array TypeId} {x : Operand} {v : Value} {a c : Nat} {q : Option Addr} (hd : dstOk n o.dst = true) (ho : o.op = .call ⟨.builtin .unsafeSliceData, #[x], ts⟩)
    (hx : opd E x = some v) (hv : v = .slice q a c) (hq : q = none ∨ 0 < c) (h : K (putE E o.dst (.pointer q)) S) : Step P B n o K E S := by
  subst hv
  intro a' w hS hA
  unfold Oper.wp
  have hr : (execOp a'.eval o).run P w = .ok (.value (.pointer q)) w := by
    have : (Builtin.unsafeSliceData_ ts o.type #[.slice q a c]).run P w = .ok (.pointer q) w := by
      cases q with
      | none => exact Lib.run_unsafeSliceData_nil (P := P) w ts o.type a c
      | some q => exact Lib.run_unsafeSliceData_row (P := P) w ts o.type q a c (by rcases hq with h | h; · cases h
                                                                                   · omega)
    simp [execOp, ho, resolve, invoke, builtin, opd_sound hA hx, this]
  rw [hr]
  exact ⟨Below.refl B w, _, _, hS, hA.putE hd _, h⟩

def fzHead (fz : Nat × Nat) (k : Nat) : Nat × Nat := if fz.1 == fz.2 then (0, k) else (min fz.1 0, max fz.2 k)

theorem freeze_heap {w : World} {b k : Nat} {l : List Value} {e : TypeId} {fz : Nat × Nat} (hg : w.heap[b]? = some (cel l e fz)) (hk : k ≠ 0) : (w.freeze ⟨b, 0, none⟩ k).heap[b]? = some (cel l e (fzHead fz k)) := by
  obtain ⟨f1, f2⟩ := fz
  simp only [World.freeze, if_neg hk, Array.getElem?_modify, hg, if_pos]
  simp [cel, fzHead]

/-- unsafe.String of a builder's bytes. -/
theorem Step.unsafeStr {pt it e : TypeId} {x y : Operand} {v : Value} {q : Option Addr} {cap : Nat} {xs : List UInt8} {es R : Ents}
    (hd : dstOk n o.dst = true) (ho : o.op = .call ⟨.builtin .unsafeString, #[x, y], #[pt, it]⟩) (hp : P.underlying pt = some (.pointer e)) (hc : P.cellsOf e = 1)
    (hx : opd E x = some (.pointer q)) (hy : opd E y = some (.int .i64 xs.length)) (hv : v = .slice q xs.length cap) (hSR : ∀ w, Sim B S w → Sim B (es ++ R) w) (hown : OwnF B e v xs es)
    (h : ∀ es', OwnF B e v xs es' → K (putE E o.dst (.string (str xs))) (es' ++ R)) : Step P B n o K E S := by
  intro a w hS hA
  unfold Oper.wp
  have hS := hSR w hS
  have hm : maxLen = 9223372036854775807 := rfl
  by_cases hx0 : xs = []
  · subst hx0
    have hr : (execOp a.eval o).run P w = .ok (.value (.string (str []))) w := by
      have : (Builtin.unsafeString_ #[pt, it] o.type #[.pointer q, .int .i64 0]).run P w = .ok (.string (str [])) w := Lib.run_unsafeString_none (P := P) w pt it o.type q
      simp [execOp, ho, resolve, invoke, builtin, opd_sound hA hx, opd_sound hA hy, this]
    rw [hr]
    exact ⟨Below.refl B w, _, _, hS, hA.putE hd _, h es hown⟩
  · have hown' := hown
    rcases hown with ⟨rfl, rfl, rfl⟩ | ⟨b, cap', g, fz, rfl, rfl, hB, hfz, h0, hcm, hcl⟩
    · exact absurd rfl hx0
    · cases hv
      have hgb : w.heap[b]? = some (cel (byteCells xs ++ g) e fz) := hS.holds (b, cel (byteCells xs ++ g) e fz) (by simp)
      have hk : xs.length ≠ 0 := fun e => hx0 (List.eq_nil_of_length_eq_zero e)
      have hcell : ∀ j x, xs[j]? = some x → w.cell? ((⟨b, 0, none⟩ : Addr).add j) = some (.int .u8 x.toNat) := by
        intro j x hj
        rw [Addr.add_lit]
        have hlt : j < xs.length := (List.getElem?_eq_some_iff.1 hj).1
        have e1 : (byteCells xs ++ g)[j]? = some (.int .u8 x.toNat) := by
          rw [List.getElem?_append_left (by rw [byteCells_length]; exact hlt)]
          simp [byteCells, hj]
        simp only [World.cell?, hgb, cel, Nat.zero_add]
        rw [List.getElem?_toArray, e1]; rfl
      have hrun := Lib.run_unsafeString_row (P := P) w pt it o.type e hp hc b (byteCells xs ++ g).length (by simp [World.shape?, hgb, cel]) xs hx0 (by rw [List.length_append, byteCells_length]; omega) (by rw [hm] at hcm; omega) hcell
      have hr : (execOp a.eval o).run P w = .ok (.value (.string (str xs))) (w.freeze ⟨b, 0, none⟩ xs.length) := by
        simp [execOp, ho, resolve, invoke, builtin, opd_sound hA hx, opd_sound hA hy, hrun, str]
      rw [hr]
      refine ⟨Lib.below_freeze (Below.refl B w) hB _, _, _, ?_, hA.putE hd _, h [(b, cel (byteCells xs ++ g) e (fzHead fz xs.length))] (.inr ⟨b, cap, g, _, rfl, rfl, hB, ?_, h0, hcm, hcl⟩)⟩
      · refine Sim.turn (i := 0) (b := b) hS rfl rfl hB (freeze_heap hgb hk) (fun q hq => ?_) (by unfold World.freeze; rw [if_neg hk]; simp)
        simp only [World.freeze, if_neg hk, Array.getElem?_modify]
        rw [if_neg (Ne.symm hq)]
      · unfold fzHead; split
        · exact Nat.le_refl _
        · simp only; omega

/-- A call of a function that the model itself has. -/
theorem Step.ext {c : Call} {f : FuncId} {fn : Func} {cap : Array Value} {x : Operand} {vs : List Value} {e : Array Value → Sem Value} (hd : dstOk n o.dst = true)
    (ho : o.op = .call c) (hc : c.callee = .value x) (hx : opd E x = some (.func (.func f) #[] cap)) (hvs : opds E c.args.toList = some vs)
    (hf : P.funcs[f]? = some fn) (hname : (fn.name == "runtime.NumGoroutine") = false) (hb : fn.body.isNone = true) (hn : Extern.findNext fn = none) (he : Extern.find fn = some e)
    (h : ∀ w, Sim B S w → ∃ v w' S', (e (vs ++ cap.toList).toArray).run P w = .ok v w' ∧ Below B w w' ∧ Sim B S' w' ∧ K (putE E o.dst v) S') : Step P B n o K E S := by
  intro a w hS hA
  unfold Oper.wp
  have hargs : c.args.map a.eval = vs.toArray := by
    apply Array.ext'
    simpa using opds_sound hA hvs
  obtain ⟨v, w', S', h1, h2, h3, h4⟩ := h w hS
  have e1 : (execOp a.eval o).run P w = .ok (.value v) w' := by
    have hh : execOp a.eval o = callFunc f (vs.toArray ++ cap) := by
      simp [execOp, ho, resolve, hc, opd_sound hA hx, Deferred.ofValue, hargs, invoke]
    have e2 : (vs.toArray ++ cap) = (vs ++ cap.toList).toArray := by
      apply Array.ext'
      simp
    rw [hh, e2, run_callFunc_extern hf hname hb hn he, h1]
    rfl
  rw [e1]
  exact ⟨h2, _, _, h3, hA.putE hd v, h4⟩

/-- abi.NoEscape. -/
theorem Step.noEscape {c : Call} {f : FuncId} {fn : Func} {x : Operand} {v : Value} (hd : dstOk n o.dst = true)
    (ho : o.op = .call c) (hc : c.callee = .value x) (hx : opd E x = some (.func (.func f) #[] #[])) (hvs : opds E c.args.toList = some [v])
    (hf : P.funcs[f]? = some fn) (hname : (fn.name == "runtime.NumGoroutine") = false) (hb : fn.body.isNone = true) (hn : Extern.findNext fn = none) (he : Extern.find fn = some Extern.AbiNoEscape.same)
    (h : K (putE E o.dst v) S) : Step P B n o K E S :=
  Step.ext hd ho hc hx hvs hf hname hb hn he fun w hS => ⟨v, w, S, Lib.run_noEscape (P := P) w v, Below.refl B w, hS, h⟩

/-- bytealg.MakeNoZero: a new row of bytes of which nothing is known. -/
theorem Step.makeNoZero {c : Call} {f : FuncId} {fn : Func} {x : Operand} {k : Nat} {ps : Array TypeId} {t e : TypeId} (hd : dstOk n o.dst = true)
    (ho : o.op = .call c) (hc : c.callee = .value x) (hx : opd E x = some (.func (.func f) #[] #[])) {m : Int} (hvs : opds E c.args.toList = some [.int .i64 m]) (hmk : m = (k : Int))
    (hf : P.funcs[f]? = some fn) (hname : (fn.name == "runtime.NumGoroutine") = false) (hb : fn.body.isNone = true) (hn : Extern.findNext fn = none) (he : Extern.find fn = some (Extern.BytealgMakeNoZero.makeNoZero ps #[t]))
    (ht : P.underlying t = some (.slice e)) (hk : k ≤ 281474976710656)
    (h : ∀ L cs, B ≤ L → (∀ x ∈ S, x.1 < L) → k ≤ cs.length → cs.length ≤ maxLen → K (putE E o.dst (.slice (some ⟨L, 0, none⟩) k cs.length)) ((L, cel cs e) :: S)) : Step P B n o K E S := by
  subst hmk
  refine Step.ext hd ho hc hx hvs hf hname hb hn he fun w hS => ?_
  obtain ⟨cs, hr, h1, h2⟩ := Lib.run_makeNoZero (P := P) w ps t e ht k hk
  have hm : maxLen = 9223372036854775807 := rfl
  refine ⟨_, _, _, hr, ⟨rfl, rfl, rfl, by simp, fun j hj => ?_⟩, ?_, h w.heap.size cs.toList hS.base (fun x hx => hS.lt hx) (by simpa using h1) (by simpa using h2 (by rw [hm]; omega))⟩
  · exact heap_alloc_old w.drew.drew _ (Nat.lt_of_lt_of_le hj hS.base)
  · exact hS.grow rfl (by simpa [cel] using heap_alloc_new w.drew.drew (.cells cs e)) (fun j hj => heap_alloc_old w.drew.drew _ hj) (by simp)

/-- A pointer as an unsafe.Pointer. -/
theorem Gives.toUnsafe {src dst t e : TypeId} {x : Operand} {j : TypeInfo} {b o' : Nat} {l : List Value} {fz : Nat × Nat} (ho : o.op = .convert src dst x) (hx : opd E x = some (.pointer (some ⟨b, o', none⟩)))
    (hs : P.underlying src = some (.pointer t)) (hd : P.underlying dst = some .unsafePointer) (ht : P.info? t = some j) (hj : j.size ≠ 0) (hoff : o' < l.length) :
    Gives P n [(b, cel l e fz)] E o (.pointer (some ⟨b, o', none⟩)) := by
  intro a w hF hA
  have hg := hF (b, cel l e fz) (by simp)
  have := Lib.run_to_unsafe (P := P) w (src := src) (dst := dst) (e := e) (cells := l.length) ⟨b, o', none⟩ hs hd ht hj (by simp [World.shape?, hg, cel]) hoff
  simp only [execOp, ho, opd_sound hA hx, Sem.run_bind, this, Result.andThen_ok, Sem.run_pure]

theorem Gives.ofUnsafe {src dst u e : TypeId} {x : Operand} {j : TypeInfo} {b o' : Nat} {l : List Value} {fz : Nat × Nat} (ho : o.op = .convert src dst x) (hx : opd E x = some (.pointer (some ⟨b, o', none⟩)))
    (hs : P.underlying src = some .unsafePointer) (hd : P.underlying dst = some (.pointer u)) (hu : P.info? u = some j) (hl : liesAt P P.depth e (l.length / P.cellsOf e) o' u 1 = true) :
    Gives P n [(b, cel l e fz)] E o (.pointer (some ⟨b, o', none⟩)) := by
  intro a w hF hA
  have hg := hF (b, cel l e fz) (by simp)
  have := Lib.run_from_unsafe (P := P) w (src := src) (dst := dst) (e := e) (cells := l.length) ⟨b, o', none⟩ hs hd hu (by simp [World.shape?, hg, cel]) hl
  simp only [execOp, ho, opd_sound hA hx, Sem.run_bind, this, Result.andThen_ok, Sem.run_pure]
/-- A pointer against itself. -/
theorem Gives.neqSame {tp te yt : TypeId} {x y : Operand} {j : TypeInfo} {q : Addr} (ho : o.op = .binOp .neq tp x y yt) (hx : opd E x = some (.pointer (some q))) (hy : opd E y = some (.pointer (some q)))
    (hp : P.underlying tp = some (.pointer te)) (hj : P.info? te = some j) : Gives P n [] E o (.bool false) := by
  intro a w _ hA
  have h := Lib.run_neq_ptr_same (P := P) w q hp hj
  unfold execOp
  rw [ho]
  simp only [opd_sound hA hx, opd_sound hA hy]
  rw [eqGuard_at_pointer]
  simp only [pure_bind, Sem.run_bind, h, Result.andThen_ok, Sem.run_pure]
/-- copy(bytes, nil). -/
theorem Step.copyNone {dT sT elem : TypeId} {x y : Operand} {q : Option Addr} {l c : Nat} {sz : Nat} (hd : dstOk n o.dst = true) (ho : o.op = .call ⟨.builtin .copy, #[x, y], #[dT, sT]⟩)
    (hu : P.underlying dT = some (.slice elem)) (hs : sizeOfT P elem = some sz) (hx : opd E x = some (.slice q l c)) (hy : opd E y = some (.slice none 0 0)) (h : K (putE E o.dst (.int .i64 0)) S) : Step P B n o K E S := by
  intro a w hS hA
  unfold Oper.wp
  have hr : (execOp a.eval o).run P w = .ok (.value (.int .i64 0)) w := by
    have hcopy : (Builtin.copy_ #[dT, sT] o.type #[.slice q l c, .slice none 0 0]).run P w = .ok (.int .i64 0) w := by
      have h1 := sizeOfT_run hs w
      cases q with
      | none => simp [Builtin.copy_, run_underlying hu, Builtin.lenOf, Builtin.firstCells, h1, goInt]
      | some q => simp [Builtin.copy_, run_underlying hu, Builtin.lenOf, Builtin.firstCells, h1, goInt, storeCells]
    simp [execOp, ho, resolve, invoke, builtin, opd_sound hA hx, opd_sound hA hy, hcopy]
  rw [hr]
  exact ⟨Below.refl B w, _, _, hS, hA.putE hd _, h⟩

theorem Gives.cap {x : Operand} {t elem : TypeId} {q : Option Addr} {l c : Nat} (ho : o.op = .call ⟨.builtin .cap, #[x], #[t]⟩) (hu : P.underlying t = some (.slice elem)) (hx : opd E x = some (.slice q l c)) :
    Gives P n [] E o (.int .i64 (c : Int)) := by
  intro a w _ hA
  simp [execOp, ho, resolve, invoke, builtin, opd_sound hA hx, Builtin.cap_, run_underlying hu, goInt]

theorem Gives.min3 {x y z : Operand} {ts : Array TypeId} {k k1 k2 : IntKind} {a b c r : Int} (ho : o.op = .call ⟨.builtin .min, #[x, y, z], ts⟩) (hx : opd E x = some (.int k a)) (hy : opd E y = some (.int k1 b)) (hz : opd E z = some (.int k2 c))
    (hr : (if c < (if b < a then b else a) then c else (if b < a then b else a)) = r) : Gives P n [] E o (.int k r) := by
  subst hr
  intro w _ _ hA
  simp [execOp, ho, resolve, invoke, builtin, opd_sound hA hx, opd_sound hA hy, opd_sound hA hz, Builtin.min_, Builtin.min2]
end
end Go.Lg
