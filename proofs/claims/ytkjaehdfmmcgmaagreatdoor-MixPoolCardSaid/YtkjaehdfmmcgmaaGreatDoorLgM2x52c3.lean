/- A layer over the weakest preconditions of the model: what is known of memory and of the slots, told by rules. -/
import Derived.Test.YtkjaehdfmmcgmaaGreatDoorLgM1xb7d3
import Derived.Lib.ConvBytes
import Derived.Laws.Concat
import Derived.Laws.BytesString
import Derived.Laws.IdiomStrings
import Derived.Orders
import Derived.Laws.Externs
import Derived.ChangeArms
import Derived.SizedLaws
import Derived.Laws.StructEq
namespace Go.Lg
open Go.RowKit (Below)

/-- A string of bytes. -/
def str (l : List UInt8) : ByteArray := ⟨⟨l⟩⟩
theorem str_size (l : List UInt8) : (str l).size = l.length := rfl

/-- The cells of bytes. -/
def byteCells (l : List UInt8) : List Value := l.map fun b => .int .u8 b.toNat
theorem byteCells_length (l : List UInt8) : (byteCells l).length = l.length := by simp [byteCells]
theorem byteCells_one (l : List UInt8) : (byteCells l).all (·.oneCell') = true := by
  rw [List.all_eq_true]; intro x hx; simp [byteCells] at hx; obtain ⟨_, _, rfl⟩ := hx; rfl

section
variable {P : Program} {B n : Nat} {E : Env} {S : Ents} {o : Oper} {K : Env → Ents → Prop}

/-- s[i] of a string. -/
theorem Gives.indexStr {t : TypeId} {x y : Operand} {l : List UInt8} {k : IntKind} {j : Int} {b : UInt8} (ho : o.op = .index t x y)
    (hu : P.underlying t = some .string) (hx : opd E x = some (.string (str l))) (hy : opd E y = some (.int k j)) (hj : 0 ≤ j) (hb : l[j.toNat]? = some b) :
    Gives P n [] E o (.int .u8 b.toNat) := by
  intro a w hS hA
  obtain ⟨hlt, hv⟩ := List.getElem?_eq_some_iff.1 hb
  have hlt' : j < ((str l).size : Int) := by rw [str_size]; omega
  have := run_index_string (P := P) w t (str l) k j hu
  rw [dif_pos ⟨hj, hlt'⟩] at this
  simp only [execOp, ho, opd_sound hA hx, opd_sound hA hy, Sem.run_bind, this, Result.andThen_ok, Sem.run_pure]
  rw [show (str l)[j.toNat]'(by rw [str_size]; exact hlt) = b from hv]

/-- &xs[i] of a slice. -/
theorem Gives.indexAddrSlice {t e : TypeId} {x y : Operand} {b o' len cap sz : Nat} {k : IntKind} {j : Int} (i : Nat) (ho : o.op = .indexAddr t x y)
    (hu : P.underlying t = some (.slice e)) (hs : sizeOfT P e = some sz) (hx : opd E x = some (.slice (some ⟨b, o', none⟩) len cap)) (hy : opd E y = some (.int k j)) (hj : j = (i : Int)) (hlt : i < len) :
    Gives P n [] E o (.pointer (some ⟨b, o' + i * sz, none⟩)) := by
  intro a w hS hA
  subst hj
  simp [execOp, ho, opd_sound hA hx, opd_sound hA hy, Instr.indexAt, asIntOf, run_underlying hu, hlt, sizeOfT_run hs, Addr.add_lit]

/-- &a[i] of an array in memory. -/
theorem Gives.indexAddrArr {t e : TypeId} {x y : Operand} {b o' len sz : Nat} {k : IntKind} {j : Int} (i : Nat) (ho : o.op = .indexAddr t x y)
    (hu : P.underlying t = some (.array len e)) (hs : sizeOfT P e = some sz) (hx : opd E x = some (.pointer (some ⟨b, o', none⟩))) (hy : opd E y = some (.int k j)) (hj : j = (i : Int)) (hlt : i < len) :
    Gives P n [] E o (.pointer (some ⟨b, o' + i * sz, none⟩)) := by
  intro a w hS hA
  subst hj
  simp [execOp, ho, opd_sound hA hx, opd_sound hA hy, Instr.indexAt, asIntOf, run_underlying hu, hlt, sizeOfT_run hs, Addr.add_lit, Instr.sureAddr]

/-- a[i] of an array value. -/
theorem Gives.indexArr {t e : TypeId} {x y : Operand} {cs : List Value} {len sz : Nat} {k : IntKind} {j : Int} {v : Value} (i : Nat) (ho : o.op = .index t x y)
    (hu : P.underlying t = some (.array len e)) (hs : sizeOfT P e = some sz) (hx : opd E x = some (.agg cs.toArray)) (hy : opd E y = some (.int k j)) (hj : j = (i : Int)) (hlt : i < len) (hv : partAt P e cs (i * sz) = some v) :
    Gives P n [] E o v := by
  intro a w hS hA
  subst hj
  have := partAt_run (P := P) (cs := cs.toArray) (by simpa using hv) w
  simp [execOp, ho, opd_sound hA hx, opd_sound hA hy, Instr.index, asIntOf, run_underlying hu, hlt, sizeOfT_run hs, this]

/-- A bound of a slice expression. -/
def Bound (E : Env) (x : Option Operand) (d l : Nat) : Prop :=
  match x with
  | none => l = d
  | some y => ∃ k i, opd E y = some (.int k i) ∧ i = (l : Int)

theorem Bound.run {x : Option Operand} {d l : Nat} {a : Act} (hA : Agree E n a) (h : Bound E x d l) (w : World) (y : Nat) (hy : l ≤ y) (code : BoundsCode) :
    (match x.map a.eval with
      | some v => Instr.sliceBound v y code
      | none => Pure.pure d : Sem Nat).run P w = .ok l w := by
  cases x with
  | none => simp [Bound] at h; subst h; rfl
  | some z =>
    obtain ⟨k, i, hz, rfl⟩ := h
    simp [opd_sound hA hz, Instr.sliceBound, asIntOf, hy]

/-- s[lo:hi] of a string. -/
theorem Gives.sliceStr {t : TypeId} {x : Operand} {lo hi : Option Operand} {s : List UInt8} {l h' : Nat} (ho : o.op = .slice t x lo hi none)
    (hu : P.underlying t = some .string) (hx : opd E x = some (.string (str s))) (hlo : Bound E lo 0 l) (hhi : Bound E hi s.length h') (h1 : l ≤ h') (h2 : h' ≤ s.length) :
    Gives P n [] E o (.string (str ((s.drop l).take (h' - l)))) := by
  intro a w hS hA
  have e1 := hhi.run (P := P) hA w s.length h2 .sliceAlen
  have e2 := hlo.run (P := P) hA w h' h1 .sliceB
  have ex : (str s).extract l h' = str ((s.drop l).take (h' - l)) := by
    apply ByteArray.ext
    apply Array.ext'
    simp [str, ByteArray.data_extract, List.extract_eq_take_drop]
  have key : (Instr.sliceBounds false (str s).size (str s).size (lo.map a.eval) (hi.map a.eval) none).run P w = .ok (l, h', (str s).size) w := by
    simp only [Instr.sliceBounds, Sem.run_bind, Sem.run_pure, Result.andThen_ok, str_size]
    cases hi with
    | none =>
      simp only [Bound] at hhi; subst hhi
      cases lo with
      | none => simp only [Bound] at hlo; subst hlo; simp
      | some y => simp only [Option.map_some] at e2 ⊢; simp [e2]
    | some z =>
      simp only [Option.map_some] at e1 ⊢
      cases lo with
      | none => simp only [Bound] at hlo; subst hlo; simp [e1]
      | some y => simp only [Option.map_some] at e2 ⊢; simp [e1, e2]
  simp only [execOp, ho, opd_sound hA hx, Option.map_none, Instr.sliceAt, Sem.run_bind, run_underlying hu, Result.andThen_ok]
  simp only [Instr.slice, Sem.run_bind, run_underlying hu, Result.andThen_ok]
  simp [key, ex]

/-- xs[lo:hi] of a slice in memory. -/
theorem Gives.sliceSlice {t e : TypeId} {x : Operand} {lo hi : Option Operand} {b o' len cap sz l h' : Nat} (ho : o.op = .slice t x lo hi none)
    (hu : P.underlying t = some (.slice e)) (hs : sizeOfT P e = some sz) (hx : opd E x = some (.slice (some ⟨b, o', none⟩) len cap)) (hlo : Bound E lo 0 l) (hhi : Bound E hi len h') (h1 : l ≤ h') (h2 : h' ≤ cap) (h3 : l < cap ∨ l = 0) :
    Gives P n [] E o (.slice (some ⟨b, o' + l * sz, none⟩) (h' - l) (cap - l)) := by
  intro a w hS hA
  have e1 := hhi.run (P := P) hA w cap h2 .sliceAcap
  have e2 := hlo.run (P := P) hA w h' h1 .sliceB
  have key : (Instr.sliceBounds true len cap (lo.map a.eval) (hi.map a.eval) none).run P w = .ok (l, h', cap) w := by
    simp only [Instr.sliceBounds, Sem.run_bind, Sem.run_pure, Result.andThen_ok]
    cases hi with
    | none =>
      simp only [Bound] at hhi; subst hhi
      cases lo with
      | none => simp only [Bound] at hlo; subst hlo; simp
      | some y => simp only [Option.map_some] at e2 ⊢; simp [e2]
    | some z =>
      simp only [Option.map_some] at e1 ⊢
      cases lo with
      | none => simp only [Bound] at hlo; subst hlo; simp [e1]
      | some y => simp only [Option.map_some] at e2 ⊢; simp [e1, e2]
  simp only [execOp, ho, opd_sound hA hx, Option.map_none, Instr.sliceAt, Sem.run_bind, run_underlying hu, Result.andThen_ok]
  simp only [Instr.slice, Sem.run_bind, run_underlying hu, Result.andThen_ok, key, sizeOfT_run hs, Sem.run_pure]
  rcases h3 with h3 | rfl
  · rw [if_neg (by omega)]; simp [Addr.add_lit]
  · simp [Addr.add_lit]

/-- a[lo:hi] of an array in memory. -/
theorem Gives.sliceArr {t e : TypeId} {x : Operand} {lo hi : Option Operand} {b o' len sz l h' : Nat} (ho : o.op = .slice t x lo hi none)
    (hu : P.underlying t = some (.array len e)) (hs : sizeOfT P e = some sz) (hx : opd E x = some (.pointer (some ⟨b, o', none⟩))) (hlo : Bound E lo 0 l) (hhi : Bound E hi len h') (h1 : l ≤ h') (h2 : h' ≤ len) (h3 : l < len ∨ l = 0) :
    Gives P n [] E o (.slice (some ⟨b, o' + l * sz, none⟩) (h' - l) (len - l)) := by
  intro a w hS hA
  have e1 := hhi.run (P := P) hA w len h2 .sliceAlen
  have e2 := hlo.run (P := P) hA w h' h1 .sliceB
  have key : (Instr.sliceBounds false len len (lo.map a.eval) (hi.map a.eval) none).run P w = .ok (l, h', len) w := by
    simp only [Instr.sliceBounds, Sem.run_bind, Sem.run_pure, Result.andThen_ok]
    cases hi with
    | none =>
      simp only [Bound] at hhi; subst hhi
      cases lo with
      | none => simp only [Bound] at hlo; subst hlo; simp
      | some y => simp only [Option.map_some] at e2 ⊢; simp [e2]
    | some z =>
      simp only [Option.map_some] at e1 ⊢
      cases lo with
      | none => simp only [Bound] at hlo; subst hlo; simp [e1]
      | some y => simp only [Option.map_some] at e2 ⊢; simp [e1, e2]
  simp only [execOp, ho, opd_sound hA hx, Option.map_none, Instr.sliceAt, Sem.run_bind, run_underlying hu, Result.andThen_ok, Instr.sureAddr, key, sizeOfT_run hs, Sem.run_pure]
  rcases h3 with h3 | rfl
  · rw [if_neg (by omega)]; simp [Addr.add_lit]
  · simp [Addr.add_lit]

/-- + of two strings. -/
theorem Gives.addStr {t yt : TypeId} {x y : Operand} {s u : List UInt8} (ho : o.op = .binOp .add t x y yt)
    (hx : opd E x = some (.string (str s))) (hy : opd E y = some (.string (str u))) (hl : s.length + u.length ≤ 9223372036854775807) :
    Gives P n [] E o (.string (str (s ++ u))) := by
  intro a w hS hA
  have e : str s ++ str u = str (s ++ u) := by
    apply ByteArray.ext
    simp [str]
  have := run_string_add_sum (P := P) w (str s) (str u) (by rw [str_size, str_size]; exact hl)
  simp only [execOp, ho, opd_sound hA hx, opd_sound hA hy, eqGuard_at_string, pure_bind]
  rw [Sem.run_bind, show (binOp .add t (.string (str s)) (.string (str u))) = Op.stringOp .add (str s) (str u) from rfl, this, e]
  rfl

/-- string(bytes). -/
theorem Gives.bytesToStr {F : Ents} {s d e : TypeId} {x : Operand} {v : Value} {k : Nat} {l : List UInt8} (ho : o.op = .convert s d x)
    (hs : P.underlying s = some (.slice e)) (he : P.underlying e = some (.int .u8)) (hdd : P.underlying d = some .string) (hx : opd E x = some v) (hr : Reads F 1 v k (byteCells l)) :
    Gives P n F E o (.string (str l)) := by
  intro a w hS hA
  have hr' := hr
  obtain ⟨hl, hv⟩ := hr'
  have hlen : l.length = k := by simpa [byteCells] using hl
  have key : (convert s d v).run P w = .ok (.string (str l)) w := by
    rcases hv with ⟨⟨a', c', rfl⟩, rfl⟩ | ⟨b, o', cap, l', e', fz, rfl, hm, hle, hc⟩
    · have : l = [] := List.eq_nil_of_length_eq_zero hlen
      subst this
      rw [run_convert_bytes_string w s d e a' 0 c' hs he hdd]
      cases a' with
      | none => rfl
      | some a' =>
        rw [run_bytesToString (P := P) w a' 0 c' [] (by simp [loadCells, loadCellsFrom])]
        rfl
    · rw [run_convert_bytes_string w s d e _ _ _ hs he hdd]
      have hc' := hr.cells hS
      have h1 := run_loadCells_list (P := P) w ⟨b, o', none⟩ (byteCells l) hc'
      rw [byteCells_length, hlen] at h1
      have h2 := run_bytesToString (P := P) w ⟨b, o', none⟩ k cap (l.map fun b => (b.toNat : Int)) (by
        rw [h1]; simp [byteCells])
      rw [h2, foldl_push_byteCells]
      simp [str, ByteArray.empty, ByteArray.emptyWithCapacity]
      rfl
  simp only [execOp, ho, opd_sound hA hx, Sem.run_bind, key, Result.andThen_ok, Sem.run_pure]

end
end Go.Lg

namespace Go.Lg
/-! A region that draws its order, taken in one order: what is taken first bears a promise on memory, which lasts till an operation comes up that waits for it. -/

section
variable {P : Program} {ops : Array Oper} {Q : Exit → Act → World → Prop} {md : Region.Mode}

/-- Operation d waits for operation i. -/
def waits (md : Region.Mode) (ops : Array Oper) (i : Nat) : Nat → Nat → Bool
  | 0, _ => false
  | k + 1, d => match ops[d]? with
    | some o => o.after.toList.any fun e => Region.binds md e && (e.on == i || waits md ops i k e.on)
    | none => false

def Closed (md : Region.Mode) (ops : Array Oper) (l : Array Bool) : Prop :=
  ∀ j o, ops[j]? = some o → l.getD j false = true → ∀ e ∈ o.after, Region.binds md e = true → l.getD e.on false = true

theorem Closed.start (k : Nat) : Closed md ops (Array.replicate k false) := by
  intro j o _ h
  exfalso
  rw [Array.getD_eq_getD_getElem?, Array.getElem?_replicate] at h
  split at h <;> simp at h

theorem Closed.set {l : Array Bool} {i : Nat} (h : Closed md ops l) (hi : i ∈ Region.ready md ops l) : Closed md ops (l.setIfInBounds i true) := by
  obtain ⟨_, oi, hoi, hall⟩ := mem_ready.1 hi
  intro j o ho hl e he hb
  by_cases hij : i = j
  · subst hij
    obtain rfl : o = oi := Option.some.inj (ho.symm.trans hoi)
    exact getD_set_true (hall e he hb)
  · rw [getD_set_ne false hij] at hl
    exact getD_set_true (h j o ho hl e he hb)

theorem waits_listed {l : Array Bool} {i : Nat} (hc : Closed md ops l) : ∀ (k d : Nat), waits md ops i k d = true → l.getD d false = true → l.getD i false = true
  | 0, _, h, _ => by simp [waits] at h
  | k + 1, d, h, hl => by
    unfold waits at h
    cases ho : ops[d]? with
    | none => rw [ho] at h; cases h
    | some o =>
      rw [ho] at h
      simp only [] at h
      rw [List.any_eq_true] at h
      obtain ⟨e, he, hb⟩ := h
      have he : e ∈ o.after := by simpa using he
      rw [Bool.and_eq_true, Bool.or_eq_true] at hb
      have h1 := hc d o ho hl e he hb.1
      rcases hb.2 with h2 | h2
      · rw [beq_iff_eq] at h2; rw [← h2]; exact h1
      · exact waits_listed hc k e.on h2 h1

theorem getD_false_true {l : Array Bool} {i : Nat} (h : l.getD i true = false) : l.getD i false = false := by
  rcases Nat.lt_or_ge i l.size with h' | h'
  · simp [h'] at h ⊢; exact h
  · simp [Array.getElem?_eq_none h'] at h

theorem waits_not_ready {l : Array Bool} {i d k : Nat} (hc : Closed md ops l) (hw : waits md ops i k d = true) (hun : l.getD i true = false) : d ∉ Region.ready md ops l := by
  intro hd
  obtain ⟨_, o, ho, hall⟩ := mem_ready.1 hd
  have h0 := getD_false_true hun
  cases k with
  | zero => simp [waits] at hw
  | succ k =>
    unfold waits at hw
    rw [ho] at hw
    simp only [] at hw
    rw [List.any_eq_true] at hw
    obtain ⟨e, he, hb⟩ := hw
    have he : e ∈ o.after := by simpa using he
    rw [Bool.and_eq_true, Bool.or_eq_true] at hb
    have h1 := hall e he hb.1
    rcases hb.2 with h2 | h2
    · rw [beq_iff_eq] at h2; rw [← h2, h1] at h0; cases h0
    · have := waits_listed hc k e.on h2 h1
      rw [this] at h0; cases h0

/-- A promise: what operation number .1 needs of memory. -/
abbrev Promise := Nat × (World → Prop)

def kept (md : Region.Mode) (ops : Array Oper) (i : Nat) (pr : List Promise) : List Promise := pr.filter fun x => !waits md ops x.1 ops.size i

def wpAnyP (P : Program) (md : Region.Mode) (ops : Array Oper) (Q : Exit → Act → World → Prop) : Nat → Array Bool → List Promise → Act → World → Prop
  | 0, l, _, a, w => Region.ready md ops l = [] ∧ Q .normal a w
  | k + 1, l, pr, a, w =>
    (Region.ready md ops l = [] → Q .normal a w) ∧
    ∀ i ∈ Region.ready md ops l, wpOp P ops Q i (fun a' w' => (∀ x ∈ kept md ops i pr, x.2 w') ∧ wpAnyP P md ops Q k (l.setIfInBounds i true) (kept md ops i pr) a' w') a w

theorem wpAny_of_P : ∀ (k : Nat) (l : Array Bool) (pr : List Promise) (a : Act) (w : World), wpAnyP P md ops Q k l pr a w → wpAny P md ops Q k l a w
  | 0, _, _, _, _, h => h
  | k + 1, _, _, _, _, h => ⟨h.1, fun i hi => wpOp_mono (fun a' w' h' => wpAny_of_P k _ _ a' w' h'.2) (h.2 i hi)⟩

/-- In state a, in every world that meets S, operation o leaves v and does nothing else. -/
def Leaves (P : Program) (ops : Array Oper) (S : World → Prop) (o : Oper) (v : Value) (a : Act) : Prop :=
  (Region.wanted o (yielded ops a.tmps) = true ∧ ∀ w, S w → (execOp a.eval o).run P w = .ok (.value v) w) ∨
  (Region.wanted o (yielded ops a.tmps) = false ∧ v = undef)

theorem Leaves.wpOp {S : World → Prop} {i : Nat} {o : Oper} {v : Value} {a : Act} (hi : ops[i]? = some o) (hy : Leaves P ops S o v a)
    {K : Act → World → Prop} {w : World} (hS : S w) (h : K (a.put o.dst v) w) : wpOp P ops Q i K a w := by
  unfold Go.wpOp
  simp only [hi]
  rcases hy with ⟨hw, hv⟩ | ⟨hw, rfl⟩
  · simp only [hw, if_true, Oper.wp, hv w hS, Oper.upon]; exact .inl h
  · simp only [hw, Bool.false_eq_true, if_false]; exact h

theorem Leaves.of_same {S : World → Prop} {o : Oper} {v : Value} {a a' : Act} (hy : Leaves P ops S o v a) (he : execOp a'.eval o = execOp a.eval o)
    (hw : Region.wanted o (yielded ops a'.tmps) = Region.wanted o (yielded ops a.tmps)) : Leaves P ops S o v a' := by
  unfold Leaves at *
  rw [he, hw]
  exact hy

theorem wpOp_put' {S : World → Prop} {j : Nat} {oi oj : Oper} {v : Value} (hj : ops[j]? = some oj) (hap : oi.apart ops oj = true)
    (hsi : ∀ cs b, oi.op ≠ .select cs b) (hsj : ∀ cs b, oj.op ≠ .select cs b) (hQ : ∀ c a w, Q (.panic c) (a.put oi.dst v) w → Q (.panic c) a w)
    {K : Act → World → Prop} {a : Act} {w : World} (hy : Leaves P ops S oi v a) (h : wpOp P ops Q j K (a.put oi.dst v) w) :
    wpOp P ops Q j (fun a' w' => Leaves P ops S oi v a' ∧ K (a'.put oi.dst v) w') a w := by
  obtain ⟨h1, h2, h3⟩ := Oper.apart_spec hap
  have keep : ∀ (a : Act), Leaves P ops S oi v a → ∀ u, Leaves P ops S oi v (a.put oj.dst u) := fun a hy u =>
    hy.of_same (execOp_put oi hsi a oj.dst u h3) (wanted_put oi a oj.dst u h3)
  have keepD : ∀ d, Leaves P ops S oi v { a with defers := d :: a.defers } := fun d => hy.of_same rfl rfl
  unfold Go.wpOp at *
  simp only [hj] at *
  rw [wanted_put oj a oi.dst v h1] at h
  split
  · rename_i hw
    simp only [hw, if_true] at h
    rcases h with h | ⟨hasks, hlets⟩
    case inr => exact .inr ⟨by unfold Oper.asks at *; rw [execOp_put oj hsj a oi.dst v h1] at hasks; exact hasks, hlets⟩
    refine .inl ?_
    unfold Oper.wp at *
    rw [execOp_put oj hsj a oi.dst v h1] at h
    generalize (execOp a.eval oj).run P w = r at *
    cases r with
    | ok n w' =>
      cases n <;> simp only [Oper.upon] at h ⊢
      case value u => exact ⟨keep a hy u, by rw [← Act.put_comm a v u h2]; exact h⟩
      case skip => exact ⟨keep a hy _, by rw [← Act.put_comm a v undef h2]; exact h⟩
      case defer d =>
        refine ⟨keep _ (keepD d) _, ?_⟩
        rw [← Act.put_comm _ v undef h2, ← Act.put_defers]
        exact h
      case enter f args =>
        refine Calls.mono h fun e w'' he => ?_
        cases e with
        | returned u => exact ⟨keep a hy u, by rw [← Act.put_comm a v u h2]; exact he⟩
        | panicked c => exact hQ _ _ _ he
        | outgrown => exact he
      case row row args => exact Rows.mono h fun u w'' he => ⟨keep a hy u, by rw [← Act.put_comm a v u h2]; exact he⟩
    | halt x w' =>
      cases x <;> simp only [Oper.upon] at h ⊢
      case panic u => exact hQ _ _ _ h
  · rename_i hw
    simp only [hw] at h
    exact ⟨keep a hy _, by rw [← Act.put_comm a v undef h2]; exact h⟩

theorem kept_cons_ne {i j : Nat} {S : World → Prop} {pr : List Promise} (h : waits md ops i ops.size j = false) : kept md ops j ((i, S) :: pr) = (i, S) :: kept md ops j pr := by
  simp [kept, h]

/-- What comes up now may be taken first. -/
theorem wpAnyP_first {i : Nat} {oi : Oper} {v : Value} {S : World → Prop} (hi : ops[i]? = some oi) (hsel : ∀ (j : Nat) (o : Oper) cs b, ops[j]? = some o → o.op ≠ .select cs b)
    (hQ : ∀ c a w, Q (.panic c) (a.put oi.dst v) w → Q (.panic c) a w) :
    ∀ (k : Nat) (l : Array Bool) (pr : List Promise) (a : Act) (w : World), Closed md ops l →
      (∀ j oj, ops[j]? = some oj → j ≠ i → l.getD j true = false → (∀ e ∈ oj.after, Region.binds md e = true → e.on ≠ i) → oi.apart ops oj = true) →
      i ∈ Region.ready md ops l → Leaves P ops S oi v a → S w → (∀ x ∈ kept md ops i pr, x.2 w) →
      wpAnyP P md ops Q k (l.setIfInBounds i true) ((i, S) :: pr) (a.put oi.dst v) w → wpAnyP P md ops Q (k + 1) l pr a w := by
  intro k
  induction k with
  | zero =>
    intro l pr a w _ _ hr hy hS hp H
    refine ⟨fun h => (by rw [h] at hr; cases hr), fun j hj => ?_⟩
    by_cases hji : j = i
    · subst hji; exact hy.wpOp hi hS ⟨hp, H⟩
    · have := ready_mono hj hji
      rw [H.1] at this
      cases this
  | succ k ih =>
    intro l pr a w hc hfree hr hy hS hp H
    refine ⟨fun h => (by rw [h] at hr; cases hr), fun j hj => ?_⟩
    by_cases hji : j = i
    · subst hji
      refine hy.wpOp hi hS ⟨hp, ?_⟩
      exact wpAnyP_drop k.succ _ _ _ _ _ (fun x hx => List.mem_cons_of_mem _ (List.mem_filter.1 hx).1) H
    · have h1 := H.2 j (ready_mono hj hji)
      obtain ⟨hjun, oj, hoj, hall⟩ := mem_ready.1 hj
      have hnot : ∀ e ∈ oj.after, Region.binds md e = true → e.on ≠ i := fun e he hb heq => by
        have h1 := hall e he hb
        have h0 := getD_false_true (mem_ready.1 hr).1
        rw [heq, h0] at h1
        cases h1
      have hnw : waits md ops i ops.size j = false := by
        cases hw : waits md ops i ops.size j with
        | false => rfl
        | true => exact absurd hj (waits_not_ready hc hw (mem_ready.1 hr).1)
      rw [kept_cons_ne hnw] at h1
      have h2 := wpOp_put' hoj (hfree j oj hoj hji hjun hnot) (fun cs b => hsel i oi cs b hi) (fun cs b => hsel j oj cs b hoj) hQ hy h1
      have hfree' : ∀ k ok, ops[k]? = some ok → k ≠ i → (l.setIfInBounds j true).getD k true = false →
          (∀ e ∈ ok.after, Region.binds md e = true → e.on ≠ i) → oi.apart ops ok = true := fun k ok hk hki hun hno => by
        refine hfree k ok hk hki ?_ hno
        by_cases hjk : j = k
        · subst hjk; exact hjun
        · rw [getD_set_ne true hjk] at hun; exact hun
      refine wpOp_mono (fun a' w' h3 => ?_) h2
      obtain ⟨hl, hpr, hrest⟩ := h3
      refine ⟨fun x hx => hpr x (List.mem_cons_of_mem _ hx), ?_⟩
      refine ih (l.setIfInBounds j true) _ a' w' (hc.set hj) hfree' (ready_mono hr (Ne.symm hji)) hl (hpr (i, S) (by simp)) ?_ ?_
      · intro x hx
        exact hpr x (List.mem_cons_of_mem _ (List.mem_filter.1 hx).1)
      · rw [Array.setIfInBounds_comm _ _ hji]
        exact hrest
where
  wpAnyP_drop : ∀ (k : Nat) (l : Array Bool) (pr pr' : List Promise) (a : Act) (w : World), (∀ x ∈ pr', x ∈ pr) → wpAnyP P md ops Q k l pr a w → wpAnyP P md ops Q k l pr' a w
    | 0, _, _, _, _, _, _, h => h
    | k + 1, l, pr, pr', a, w, hs, h => by
      refine ⟨h.1, fun i hi => wpOp_mono (fun a' w' h' => ?_) (h.2 i hi)⟩
      have hs' : ∀ x ∈ kept md ops i pr', x ∈ kept md ops i pr := fun x hx => by
        rw [kept, List.mem_filter] at hx ⊢
        exact ⟨hs x hx.1, hx.2⟩
      exact ⟨fun x hx => h'.1 x (hs' x hx), wpAnyP_drop k _ _ _ _ _ hs' h'.2⟩

end
end Go.Lg

namespace Go.Lg
open Go.RowKit (Below)

section
variable {P : Program} {B n : Nat} {ops : Array Oper} {Q : Exit → Env → Ents → Prop} {E : Env} {S : Ents}

theorem wpAnyP_monoQ {md : Region.Mode} {Q Q' : Exit → Act → World → Prop} (hq : ∀ e a w, Q e a w → Q' e a w) : ∀ (k : Nat) (l : Array Bool) (pr : List Promise) (a : Act) (w : World),
    wpAnyP P md ops Q k l pr a w → wpAnyP P md ops Q' k l pr a w
  | 0, _, _, _, _, h => ⟨h.1, hq _ _ _ h.2⟩
  | k + 1, l, pr, a, w, h => by
    refine ⟨fun e => hq _ _ _ (h.1 e), fun i hi => ?_⟩
    have h1 := h.2 i hi
    unfold wpOp at h1 ⊢
    split at h1
    · exact ⟨h1.1, wpAnyP_monoQ hq k _ _ _ _ h1.2⟩
    · split
      · rename_i hw
        rw [if_pos hw] at h1
        rcases h1 with h1 | ⟨h1, x, y, h2⟩
        · exact .inl (Oper.upon_monoQ (fun a' w' h' => ⟨h'.1, wpAnyP_monoQ hq k _ _ _ _ h'.2⟩) hq h1)
        · exact .inr ⟨h1, x, y, hq _ _ _ h2⟩
      · rename_i hw
        rw [if_neg hw] at h1
        exact ⟨h1.1, wpAnyP_monoQ hq k _ _ _ _ h1.2⟩

/-- May operation i be taken now? Those of muts turn memory: one of them comes up alone. -/
def okAt (ops : Array Oper) (muts : List Nat) (l : Array Bool) (i : Nat) : Bool :=
  match muts.contains i with
  | true => Region.ready .any ops l == [i]
  | false => (Region.ready .any ops l).contains i && Region.free .any ops l i

def okFrom (ops : Array Oper) (muts : List Nat) : Array Bool → List Nat → Bool
  | l, [] => Region.ready .any ops l == []
  | l, i :: r => Nat.beq i ops.size || (okAt ops muts l i && okFrom ops muts (l.setIfInBounds i true) r)

theorem okFrom_cons {muts : List Nat} {l : Array Bool} {i : Nat} {r : List Nat} {o : Oper} (ho : ops[i]? = some o) (h : okFrom ops muts l (i :: r) = true) :
    okAt ops muts l i = true ∧ okFrom ops muts (l.setIfInBounds i true) r = true := by
  have hi := (Array.getElem?_eq_some_iff.1 ho).1
  have hb : Nat.beq i ops.size = false := by
    cases e : Nat.beq i ops.size with
    | false => rfl
    | true => have := Nat.eq_of_beq_eq_true e; omega
  simpa [okFrom, hb] using h

/-- A region's rest, in one order. -/
structure DGo (ops : Array Oper) (muts : List Nat) (l : Array Bool) (rest : List Nat) (pr : List (Nat × Ents)) (S : Ents) : Prop where
  closed : Closed .any ops l
  ok : okFrom ops muts l rest = true
  sel : Region.noSelect ops = true
  proms : ∀ x ∈ pr, ∀ y ∈ x.2, y ∈ S

def holdsF (F : Ents) (w : World) : Prop := ∀ x ∈ F, w.heap[x.1]? = some x.2

def proms (pr : List (Nat × Ents)) : List Promise := pr.map fun x => (x.1, holdsF x.2)

def keptE (ops : Array Oper) (i : Nat) (pr : List (Nat × Ents)) : List (Nat × Ents) := pr.filter fun x => !waits .any ops x.1 ops.size i

theorem kept_proms (i : Nat) (pr : List (Nat × Ents)) : kept .any ops i (proms pr) = proms (keptE ops i pr) := by
  unfold kept proms keptE
  rw [List.filter_map]
  rfl

def DWp (P : Program) (B n : Nat) (ops : Array Oper) (muts : List Nat) (l : Array Bool) (rest : List Nat) (pr : List (Nat × Ents)) (Q : Exit → Env → Ents → Prop) (E : Env) (S : Ents) : Prop :=
  DGo ops muts l rest pr S → ∀ a w, Sim B S w → Agree E n a → wpAnyP P .any ops (Post B n Q w) rest.length l (proms pr) a w

theorem Wp.regionDraw {id : Nat} (ord muts : List Nat) (hm : P.follows .mixedOrders = true) (hst : ((okFrom ops muts (Array.replicate ops.size false) ord && Region.noSelect ops) && (ord.length == ops.size)) = true)
    (h : DWp P B n ops muts (Array.replicate ops.size false) ord [] Q E S) : Wp P B n (.region id ops true) Q E S := by
  intro a w hS hA
  rw [Bool.and_eq_true, Bool.and_eq_true, beq_iff_eq] at hst
  obtain ⟨⟨h1, h2⟩, h3⟩ := hst
  refine wp_region_any hm (wpAny_of_P _ _ [] _ _ ?_)
  have := h ⟨Closed.start _, h1, h2, by simp⟩ a w.drew hS.drew hA
  have h4 := h3
  rw [h4] at this
  exact wpAnyP_monoQ (fun _ _ _ => Post.later ((Below.refl B w).drew)) _ _ _ a w.drew this

theorem DWp.nil {muts : List Nat} {l : Array Bool} {pr : List (Nat × Ents)} (h : Q .normal E S) : DWp P B n ops muts l [] pr Q E S := by
  intro hg a w hS hA
  have := hg.ok
  simp only [okFrom, beq_iff_eq] at this
  exact ⟨this, trivial, E, S, Below.refl B w, hS, hA, h⟩

theorem DWp.take {muts : List Nat} {l : Array Bool} {i : Nat} {o : Oper} {rest : List Nat} {pr : List (Nat × Ents)} {v : Value} {F : Ents} (hmut : muts.contains i = false) (ho : ops[i]? = some o) (hd : dstOk n o.dst = true)
    (hl : ∀ a, Agree E n a → Leaves P ops (holdsF F) o v a) (hF : ∀ x ∈ F, x ∈ S)
    (h : DWp P B n ops muts (l.setIfInBounds i true) rest ((i, F) :: pr) Q (putE E o.dst v) S) : DWp P B n ops muts l (i :: rest) pr Q E S := by
  intro hg a w hS hA
  obtain ⟨hok, hok'⟩ := okFrom_cons ho hg.ok
  simp only [okAt, hmut, Bool.and_eq_true] at hok
  obtain ⟨hr, hf⟩ := hok
  have hready : i ∈ Region.ready .any ops l := by simpa using hr
  have hpr' : ∀ x ∈ (i, F) :: pr, ∀ y ∈ x.2, y ∈ S := by
    intro x hx
    rcases List.mem_cons.1 hx with rfl | hx
    · exact hF
    · exact hg.proms x hx
  have hrest := h ⟨hg.closed.set hready, hok', hg.sel, hpr'⟩ (a.put o.dst v) w hS (hA.putE hd v)
  refine wpAnyP_first (v := v) (S := holdsF F) ho (fun j o' cs b hj => Region.noSelect_spec hg.sel j o' cs b hj) (fun c a w h => h.1.elim) rest.length l _ a w hg.closed
    (fun j oj hj hne hun hno => Region.free_spec ho hf j oj hj hne hun hno) hready (hl a hA) (fun x hx => hS.holds x (hF x hx)) ?_ hrest
  intro x hx
  rw [kept_proms, proms, List.mem_map] at hx
  obtain ⟨y, hy, rfl⟩ := hx
  exact fun z hz => hS.holds z (hg.proms y (List.mem_filter.1 hy).1 z hz)

theorem DWp.gives {muts : List Nat} {l : Array Bool} {i : Nat} {o : Oper} {rest : List Nat} {pr : List (Nat × Ents)} {v : Value} {F : Ents} (hmut : muts.contains i = false) (ho : ops[i]? = some o)
    (hg : guardB ops.toList E o.guard = some true) (hd : dstOk n o.dst = true) (hv : Gives P n F E o v) (hF : ∀ x ∈ F, x ∈ S)
    (h : DWp P B n ops muts (l.setIfInBounds i true) rest ((i, F) :: pr) Q (putE E o.dst v) S) : DWp P B n ops muts l (i :: rest) pr Q E S :=
  DWp.take hmut ho hd (fun a hA => .inl ⟨guardB_sound hA hg, fun w hw => hv a w hw hA⟩) hF h

theorem DWp.skip {muts : List Nat} {l : Array Bool} {i : Nat} {o : Oper} {rest : List Nat} {pr : List (Nat × Ents)} (hmut : muts.contains i = false) (ho : ops[i]? = some o)
    (hg : guardB ops.toList E o.guard = some false) (hd : dstOk n o.dst = true)
    (h : DWp P B n ops muts (l.setIfInBounds i true) rest ((i, []) :: pr) Q (putE E o.dst undef) S) : DWp P B n ops muts l (i :: rest) pr Q E S :=
  DWp.take (F := []) hmut ho hd (fun _ hA => .inr ⟨guardB_sound hA hg, rfl⟩) (by simp) h

/-- An operation that turns memory: what was promised to those that need not have come up is to be shown behind it. -/
theorem DWp.step {muts : List Nat} {l : Array Bool} {i : Nat} {o : Oper} {rest : List Nat} {pr : List (Nat × Ents)} (hmut : muts.contains i = true) (ho : ops[i]? = some o)
    (hg : guardB ops.toList E o.guard = some true)
    (h : Step P B n o (fun E' S' => (∀ x ∈ keptE ops i pr, ∀ y ∈ x.2, y ∈ S') ∧ DWp P B n ops muts (l.setIfInBounds i true) rest (keptE ops i pr) Q E' S') E S) :
    DWp P B n ops muts l (i :: rest) pr Q E S := by
  intro hgo a w hS hA
  obtain ⟨hr, hok'⟩ := okFrom_cons ho hgo.ok
  simp only [okAt, hmut, beq_iff_eq] at hr
  refine ⟨fun e => (by rw [hr] at e; cases e), fun j hj => ?_⟩
  rw [hr, List.mem_singleton] at hj
  subst hj
  unfold wpOp
  simp only [ho]
  rw [if_pos (guardB_sound hA hg)]
  refine .inl (Oper.upon_monoQ ?_ ?_ (h a w hS hA))
  · rintro a' w' ⟨hb, E', S', hs, ha, hp, q⟩
    rw [kept_proms]
    refine ⟨fun x hx => ?_, wpAnyP_monoQ (fun _ _ _ => Post.later hb) _ _ _ _ _ (q ⟨hgo.closed.set (by rw [hr]; simp), hok', hgo.sel, hp⟩ a' w' hs ha)⟩
    rw [proms, List.mem_map] at hx
    obtain ⟨y, hy, rfl⟩ := hx
    exact fun z hz => hs.holds z (hp y hy z hz)
  · intro _ _ _ h; exact h.elim

/-- .. which all that was taken had to come up before. -/
theorem DWp.stepAll {muts : List Nat} {l : Array Bool} {i : Nat} {o : Oper} {rest : List Nat} {pr : List (Nat × Ents)} (hall : ((pr.map (·.1)).all fun k => waits .any ops k ops.size i) = true) (hmut : muts.contains i = true) (ho : ops[i]? = some o)
    (hg : guardB ops.toList E o.guard = some true)
    (h : Step P B n o (fun E' S' => DWp P B n ops muts (l.setIfInBounds i true) rest [] Q E' S') E S) : DWp P B n ops muts l (i :: rest) pr Q E S := by
  have hk : keptE ops i pr = [] := by
    unfold keptE
    rw [List.filter_eq_nil_iff]
    intro x hx
    have := List.all_eq_true.1 hall x.1 (List.mem_map.2 ⟨x, hx, rfl⟩)
    simp [this]
  refine DWp.step hmut ho hg ?_
  intro a w hS hA
  refine Oper.upon_monoQ ?_ (fun _ _ _ h => h) (h a w hS hA)
  rintro a' w' ⟨hb, E', S', hs, ha, q⟩
  refine ⟨hb, E', S', hs, ha, ?_⟩
  rw [hk]
  exact ⟨fun x hx => (nomatch hx), q⟩

/-- Two that make new rows may come up in either order. -/
theorem DWp.fork {muts : List Nat} {l : Array Bool} {m i j : Nat} {oi oj : Oper} {rest r1 r2 : List Nat} {pr : List (Nat × Ents)} (hr : Region.ready .any ops l = [i, j]) (hi : ops[i]? = some oi) (hj : ops[j]? = some oj)
    (hl1 : r1.length = rest.length) (hl2 : r2.length = rest.length) (hok1 : okFrom ops muts (l.setIfInBounds i true) r1 = true) (hok2 : okFrom ops muts (l.setIfInBounds j true) r2 = true)
    (hgi : guardB ops.toList E oi.guard = some true) (hgj : guardB ops.toList E oj.guard = some true)
    (h1 : Step P B n oi (fun E' S' => (∀ y ∈ S, y ∈ S') ∧ DWp P B n ops muts (l.setIfInBounds i true) r1 (keptE ops i pr) Q E' S') E S)
    (h2 : Step P B n oj (fun E' S' => (∀ y ∈ S, y ∈ S') ∧ DWp P B n ops muts (l.setIfInBounds j true) r2 (keptE ops j pr) Q E' S') E S) : DWp P B n ops muts l (m :: rest) pr Q E S := by
  intro hgo a w hS hA
  have one : ∀ (x : Nat) (o : Oper) (r : List Nat), x ∈ Region.ready .any ops l → ops[x]? = some o → r.length = rest.length → okFrom ops muts (l.setIfInBounds x true) r = true → guardB ops.toList E o.guard = some true →
      Step P B n o (fun E' S' => (∀ y ∈ S, y ∈ S') ∧ DWp P B n ops muts (l.setIfInBounds x true) r (keptE ops x pr) Q E' S') E S →
      wpOp P ops (Post B n Q w) x (fun a' w' => (∀ z ∈ kept .any ops x (proms pr), z.2 w') ∧ wpAnyP P .any ops (Post B n Q w) rest.length (l.setIfInBounds x true) (kept .any ops x (proms pr)) a' w') a w := by
    intro x o r hx ho hl hok hg h
    unfold wpOp
    simp only [ho]
    rw [if_pos (guardB_sound hA hg)]
    refine .inl (Oper.upon_monoQ ?_ ?_ (h a w hS hA))
    · rintro a' w' ⟨hb, E', S', hs, ha, hp, q⟩
      rw [kept_proms]
      have hp' : ∀ x' ∈ keptE ops x pr, ∀ y ∈ x'.2, y ∈ S' := fun x' hx' y hy => hp y (hgo.proms x' (List.mem_filter.1 hx').1 y hy)
      have := q ⟨hgo.closed.set hx, hok, hgo.sel, hp'⟩ a' w' hs ha
      rw [hl] at this
      refine ⟨fun x' hx' => ?_, wpAnyP_monoQ (fun _ _ _ => Post.later hb) _ _ _ _ _ this⟩
      rw [proms, List.mem_map] at hx'
      obtain ⟨y, hy, rfl⟩ := hx'
      exact fun z hz => hs.holds z (hp' y hy z hz)
    · intro _ _ _ h; exact h.elim
  refine ⟨fun e => (by rw [hr] at e; cases e), fun x hx => ?_⟩
  have hx' := hx
  rw [hr] at hx'
  rcases List.mem_cons.1 hx' with rfl | hx'
  · exact one _ oi r1 hx hi hl1 hok1 hgi h1
  · rw [List.mem_singleton] at hx'
    subst hx'
    exact one _ oj r2 hx hj hl2 hok2 hgj h2

/-- .. whose guard shuts it out. -/
theorem DWp.stepSkip {muts : List Nat} {l : Array Bool} {i : Nat} {o : Oper} {rest : List Nat} {pr : List (Nat × Ents)} (hmut : muts.contains i = true) (ho : ops[i]? = some o)
    (hg : guardB ops.toList E o.guard = some false) (hd : dstOk n o.dst = true)
    (h : DWp P B n ops muts (l.setIfInBounds i true) rest (keptE ops i pr) Q (putE E o.dst undef) S) : DWp P B n ops muts l (i :: rest) pr Q E S := by
  intro hgo a w hS hA
  obtain ⟨hr, hok'⟩ := okFrom_cons ho hgo.ok
  simp only [okAt, hmut, beq_iff_eq] at hr
  refine ⟨fun e => (by rw [hr] at e; cases e), fun j hj => ?_⟩
  rw [hr, List.mem_singleton] at hj
  subst hj
  unfold wpOp
  simp only [ho]
  rw [if_neg (by rw [guardB_sound hA hg]; simp)]
  have hp : ∀ x ∈ keptE ops j pr, ∀ y ∈ x.2, y ∈ S := fun x hx => hgo.proms x (List.mem_filter.1 hx).1
  rw [kept_proms]
  refine ⟨fun x hx => ?_, h ⟨hgo.closed.set (by rw [hr]; simp), hok', hgo.sel, hp⟩ _ w hS (hA.putE hd undef)⟩
  rw [proms, List.mem_map] at hx
  obtain ⟨y, hy, rfl⟩ := hx
  exact fun z hz => hS.holds z (hp y hy z hz)

theorem DWp.part {muts : List Nat} {l : Array Bool} {rest : List Nat} {pr : List (Nat × Ents)} (d : Nat) {b : Bool} (hd : E.get d = some (.bool b))
    (h1 : b = true → DWp P B n ops muts l rest pr Q ((d, .bool true) :: E) S) (h2 : b = false → DWp P B n ops muts l rest pr Q ((d, .bool false) :: E) S) : DWp P B n ops muts l rest pr Q E S := by
  intro hgo a w hS hA
  cases b with
  | true =>
    refine h1 rfl hgo a w hS ⟨fun k v hk => ?_, hA.size, hA.defers⟩
    rw [Env.get_cons] at hk
    split at hk
    · rename_i e; subst e; rw [← hk]; exact hA.reads _ _ hd
    · exact hA.reads k v hk
  | false =>
    refine h2 rfl hgo a w hS ⟨fun k v hk => ?_, hA.size, hA.defers⟩
    rw [Env.get_cons] at hk
    split at hk
    · rename_i e; subst e; rw [← hk]; exact hA.reads _ _ hd
    · exact hA.reads k v hk

theorem wpAnyP_addTrue {md : Region.Mode} {Q : Exit → Act → World → Prop} {S : World → Prop} (hS : ∀ w, S w) (i : Nat) : ∀ (k : Nat) (l : Array Bool) (pr : List Promise) (a : Act) (w : World),
    wpAnyP P md ops Q k l pr a w → wpAnyP P md ops Q k l ((i, S) :: pr) a w
  | 0, _, _, _, _, h => h
  | k + 1, l, pr, a, w, h => by
    refine ⟨h.1, fun j hj => wpOp_mono (fun a' w' h' => ?_) (h.2 j hj)⟩
    by_cases hw : waits md ops i ops.size j = true
    · have : kept md ops j ((i, S) :: pr) = kept md ops j pr := by simp [kept, hw]
      rw [this]; exact h'
    · rw [kept_cons_ne (by simpa using hw)]
      refine ⟨fun x hx => ?_, wpAnyP_addTrue hS i k _ _ _ _ h'.2⟩
      rcases List.mem_cons.1 hx with rfl | hx
      · exact hS w'
      · exact h'.1 x hx

theorem DWp.free {muts : List Nat} {l : Array Bool} {i : Nat} {o : Oper} {rest : List Nat} {pr : List (Nat × Ents)} {v : Value} (hmut : muts.contains i = false) (ho : ops[i]? = some o) (hd : dstOk n o.dst = true)
    (hl : ∀ a, Agree E n a → Leaves P ops (holdsF []) o v a)
    (h : DWp P B n ops muts (l.setIfInBounds i true) rest pr Q (putE E o.dst v) S) : DWp P B n ops muts l (i :: rest) pr Q E S := by
  refine DWp.take (F := []) hmut ho hd hl (by simp) ?_
  intro hg a w hS hA
  have := h ⟨hg.closed, hg.ok, hg.sel, fun x hx => hg.proms x (List.mem_cons_of_mem _ hx)⟩ a w hS hA
  exact wpAnyP_addTrue (fun w x hx => by cases hx) i _ _ _ _ _ this

/-- Operations without memory, as far as they go. -/
def devs (P : Program) (n : Nat) (ops : List Oper) (muts : List Nat) : Nat → Array Bool → List Nat → Env → Option (Array Bool × List Nat × Env)
  | 0, l, r, E => some (l, r, E)
  | k + 1, l, i :: r, E => match muts.contains i, ops[i]? with
    | false, some o => match guardB ops E o.guard, dstOk n o.dst with
      | some true, true => match ev P E o.op with
        | some v => devs P n ops muts k (l.setIfInBounds i true) r (putE E o.dst v)
        | none => none
      | some false, true => devs P n ops muts k (l.setIfInBounds i true) r (putE E o.dst undef)
      | _, _ => none
    | _, _ => none
  | _ + 1, _, [], _ => none

theorem DWp.evs {muts : List Nat} {pr : List (Nat × Ents)} (k : Nat) {l l' : Array Bool} {r r' : List Nat} {E' : Env} (hv : devs P n ops.toList muts k l r E = some (l', r', E'))
    (h : DWp P B n ops muts l' r' pr Q E' S) : DWp P B n ops muts l r pr Q E S := by
  induction k generalizing l r E with
  | zero => simp [devs] at hv; obtain ⟨rfl, rfl, rfl⟩ := hv; exact h
  | succ k ih =>
    cases r with
    | nil => simp [devs] at hv
    | cons i r =>
      simp only [devs] at hv
      split at hv
      · rename_i o hm ho
        have ho' : ops[i]? = some o := by simpa using ho
        split at hv
        · rename_i hg hd
          split at hv
          · rename_i v he
            exact DWp.free hm ho' hd (fun a hA => .inl ⟨guardB_sound hA hg, fun w _ => ev_sound hA he w⟩) (ih hv)
          · cases hv
        · rename_i hg hd
          exact DWp.free hm ho' hd (fun a hA => .inr ⟨guardB_sound hA hg, rfl⟩) (ih hv)
        · cases hv
      · cases hv

theorem DWp.g {muts : List Nat} {l : Array Bool} {i : Nat} {o : Oper} {rest : List Nat} {pr : List (Nat × Ents)} {v : Value} (hmut : muts.contains i = false) (ho : ops[i]? = some o)
    (hg : guardB ops.toList E o.guard = some true) (hd : dstOk n o.dst = true) (hv : Gives P n [] E o v)
    (h : DWp P B n ops muts (l.setIfInBounds i true) rest pr Q (putE E o.dst v) S) : DWp P B n ops muts l (i :: rest) pr Q E S :=
  DWp.free hmut ho hd (fun a hA => .inl ⟨guardB_sound hA hg, fun w hw => hv a w hw hA⟩) h
end
end Go.Lg

namespace Go.Lg
section
variable {P : Program} {B n : Nat} {ops : Array Oper} {Q : Exit → Env → Ents → Prop} {E : Env} {S : Ents} {o : Oper} {rest : List Oper}

theorem OWp.load {t : TypeId} {x : Operand} {b o' : Nat} {v : Value} {l : List Value} {e : TypeId} {fz : Nat × Nat} (hm : (b, cel l e fz) ∈ S) (hg : guardB ops.toList E o.guard = some true) (hd : dstOk n o.dst = true)
    (ho : o.op = .load t x) (hx : opd E x = some (.pointer (some ⟨b, o', none⟩))) (hp : partAt P t l o' = some v)
    (h : OWp P B n ops rest Q (putE E o.dst v) S) : OWp P B n ops (o :: rest) Q E S :=
  OWp.gives hg hd (Gives.load (l := l) (e := e) (fz := fz) ho hx hp) (by intro y hy; rw [List.mem_singleton] at hy; subst hy; exact hm) h

theorem OWp.g {v : Value} (hg : guardB ops.toList E o.guard = some true) (hd : dstOk n o.dst = true) (hv : Gives P n [] E o v)
    (h : OWp P B n ops rest Q (putE E o.dst v) S) : OWp P B n ops (o :: rest) Q E S := OWp.gives hg hd hv (by simp) h

theorem DWp.load {muts : List Nat} {lb : Array Bool} {i : Nat} {rest : List Nat} {pr : List (Nat × Ents)} {t : TypeId} {x : Operand} {b o' : Nat} {v : Value} {l : List Value} {e : TypeId} {fz : Nat × Nat} (hm : (b, cel l e fz) ∈ S) (hmut : muts.contains i = false) (hi : ops[i]? = some o)
    (hg : guardB ops.toList E o.guard = some true) (hd : dstOk n o.dst = true) (ho : o.op = .load t x) (hx : opd E x = some (.pointer (some ⟨b, o', none⟩))) (hp : partAt P t l o' = some v)
    (h : DWp P B n ops muts (lb.setIfInBounds i true) rest ((i, [(b, cel l e fz)]) :: pr) Q (putE E o.dst v) S) : DWp P B n ops muts lb (i :: rest) pr Q E S :=
  DWp.gives hmut hi hg hd (Gives.load (l := l) (e := e) (fz := fz) ho hx hp) (by intro y hy; rw [List.mem_singleton] at hy; subst hy; exact hm) h

end

theorem CallWp.focus {P : Program} {B : Nat} {f : FuncId} {args : Array Value} {Q : Value → Ents → Prop} {S R : Ents} {x : Nat × Obj} (i : Nat) (h : takeOut i S = some (x, R)) (hc : CallWp P B f args Q (x :: R)) : CallWp P B f args Q S :=
  fun w hS => hc w (hS.perm (takeOut_perm i S x R h))

theorem OWp.focus {P : Program} {B n : Nat} {ops : Array Oper} {l : List Oper} {Q : Exit → Env → Ents → Prop} {E : Env} {S R : Ents} {x : Nat × Obj} (i : Nat) (h : takeOut i S = some (x, R)) (hc : OWp P B n ops l Q E (x :: R)) : OWp P B n ops l Q E S :=
  fun a w hS hA => hc a w (hS.perm (takeOut_perm i S x R h)) hA

theorem Wp.focus {P : Program} {B n : Nat} {c : Code} {Q : Exit → Env → Ents → Prop} {E : Env} {S R : Ents} {x : Nat × Obj} (i : Nat) (h : takeOut i S = some (x, R)) (hc : Wp P B n c Q E (x :: R)) : Wp P B n c Q E S :=
  fun a w hS hA => hc a w (hS.perm (takeOut_perm i S x R h)) hA

theorem Env.Sub.cons' {E' E : Env} {d : Nat} {u v : Value} (h : Env.get E d = some u) (e : u = v) (hs : Env.Sub E' E) : Env.Sub ((d, v) :: E') E :=
  Env.Sub.cons (e ▸ h) hs

/-- A loop over states x: what its slots and its memory hold at each round's head. -/
theorem Wp.loopS {P : Program} {B n : Nat} {c : Code} {Q : Exit → Env → Ents → Prop} {E : Env} {S : Ents} {α : Type} (μ : α → Nat) (e : α → Env) (s : α → Ents) (R : α → Prop) (x0 : α) (h0 : Env.Sub (e x0) E) (hs : S.Perm (s x0)) (hR : R x0)
    (round : ∀ x, R x → Wp P B n c (thenQ (fun E' S' => ∃ x', μ x' < μ x ∧ R x' ∧ Env.Sub (e x') E' ∧ S'.Perm (s x')) Q) (e x) (s x)) : Wp P B n (.loop c) Q E S := by
  refine Wp.loop (fun m E S => ∃ x, R x ∧ μ x = m ∧ Env.Sub (e x) E ∧ S.Perm (s x)) (μ x0) ⟨x0, hR, rfl, h0, hs⟩ ?_
  rintro m E S ⟨x, hx, rfl, hsub, hsp⟩
  refine Wp.weaken hsub (fun _ h => h.perm hsp) (Wp.mono (round x hx) ?_)
  intro ex E' S' q
  cases ex with
  | normal =>
    obtain ⟨x', hlt, hR', hsub, hsp⟩ := q
    exact ⟨μ x', hlt, x', hR', rfl, hsub, hsp⟩
  | exit _ => exact q
  | goto _ => exact q
  | ret => exact q
  | panic _ => exact q
  | outgrown => exact q

/-- Two pieces of code, and what holds between them. -/
theorem Wp.seqS {P : Program} {B n : Nat} {x y : Code} {Q : Exit → Env → Ents → Prop} {E : Env} {S : Ents} {α : Type} (e : α → Env) (s : α → Ents) (R : α → Prop)
    (h1 : Wp P B n x (thenQ (fun E' S' => ∃ a, R a ∧ Env.Sub (e a) E' ∧ S'.Perm (s a)) Q) E S) (h2 : ∀ a, R a → Wp P B n y Q (e a) (s a)) : Wp P B n (.seq x y) Q E S := by
  refine Wp.seq (Wp.mono h1 ?_)
  intro ex E' S' q
  cases ex with
  | normal =>
    obtain ⟨a, hR, hsub, hsp⟩ := q
    exact Wp.weaken hsub (fun _ h => h.perm hsp) (h2 a hR)
  | exit _ => exact q
  | goto _ => exact q
  | ret => exact q
  | panic _ => exact q
  | outgrown => exact q

theorem Gives.rem {P : Program} {n : Nat} {E : Env} {o : Oper} {t yt : TypeId} {x y : Operand} {k : IntKind} {a b : Int} (ho : o.op = .binOp .rem t x y yt) (hx : opd E x = some (.int k a)) (hy : opd E y = some (.int k b)) (hb : b ≠ 0) :
    Gives P n [] E o (.int k (a.tmod b)) := by
  intro a' w _ hA
  simp [execOp, ho, opd_sound hA hx, opd_sound hA hy, eqGuard_rem, binOp_rem, Op.intDiv, hb]

theorem Gives.quo {P : Program} {n : Nat} {E : Env} {o : Oper} {t yt : TypeId} {x y : Operand} {k : IntKind} {a b : Int} (ho : o.op = .binOp .quo t x y yt) (hx : opd E x = some (.int k a)) (hy : opd E y = some (.int k b)) (hb : b ≠ 0) :
    Gives P n [] E o (.int k (k.wrap (a.tdiv b))) := by
  intro a' w _ hA
  simp [execOp, ho, opd_sound hA hx, opd_sound hA hy, eqGuard_quo, binOp_quo, Op.intDiv, hb]

theorem Wp.dropAt {P : Program} {B n : Nat} {c : Code} {Q : Exit → Env → Ents → Prop} {E : Env} {S R : Ents} {x : Nat × Obj} (i : Nat) (h : takeOut i S = some (x, R)) (hc : Wp P B n c Q E R) : Wp P B n c Q E S :=
  fun a w hS hA => hc a w ((hS.perm (takeOut_perm i S x R h)).sublist (List.sublist_cons_self _ _)) hA
theorem OWp.dropAt {P : Program} {B n : Nat} {ops : Array Oper} {l : List Oper} {Q : Exit → Env → Ents → Prop} {E : Env} {S R : Ents} {x : Nat × Obj} (i : Nat) (h : takeOut i S = some (x, R)) (hc : OWp P B n ops l Q E R) : OWp P B n ops l Q E S :=
  fun a w hS hA => hc a w ((hS.perm (takeOut_perm i S x R h)).sublist (List.sublist_cons_self _ _)) hA

/-- append to a row of the call's own, which stands behind the entries A. -/
theorem Step.appendAt {P : Program} {B n : Nat} {K : Env → Ents → Prop} {E : Env} {o : Oper} {t e : TypeId} {i : TypeInfo} {z : Value} {x y : Operand} {v u : Value} {k m : Nat} {xs news : List Value} {es R : Ents} (A : Ents)
    (hd : dstOk n o.dst = true) (ho : o.op = .call ⟨.builtin .append, #[x, y], #[t, t]⟩)
    (ht : P.underlying t = some (.slice e)) (hi : P.info? e = some i) (hz : i.zero = some z) (hzs : z.cells.size = i.size) (hsz : 0 < i.size)
    (hx : opd E x = some v) (hy : opd E y = some u) (hown : Own B e i.size v k xs es) (hr : Reads (A ++ (es ++ R)) i.size u m news)
    (h1 : news.all (·.oneCell') = true) (hbytes : (k + m) * i.bytes ≤ 140737488355328) (h63 : k + m ≤ maxLen)
    (h : ∀ v' es', Own B e i.size v' (k + m) (xs ++ news) es' → (v' = .slice none 0 0 ↔ v = .slice none 0 0 ∧ m = 0) → K (putE E o.dst v') (A ++ (es' ++ R))) : Step P B n o K E (A ++ (es ++ R)) := by
  intro a w hS hA
  refine Oper.upon_monoQ ?_ (fun _ _ _ h => h) ((Step.append (K := fun E' S' => ∃ es', S' = es' ++ (A ++ R) ∧ K E' (A ++ (es' ++ R))) hd ho ht hi hz hzs hsz hx hy (fun w h => h.perm (List.perm_append_comm_assoc A es R)) hown
    (hr.mono fun q hq => by simp only [List.mem_append] at hq ⊢; rcases hq with h | h | h <;> simp [h]) h1 hbytes h63 (fun v' es' ho' hn' => ⟨es', rfl, h v' es' ho' hn'⟩)) a w hS hA)
  rintro a' w' ⟨hb, E', S', hs, ha, es', rfl, hk⟩
  exact ⟨hb, E', _, hs.perm (List.perm_append_comm_assoc es' A R), ha, hk⟩

/-- What is no longer wanted. -/
theorem Wp.drop {P : Program} {B n : Nat} {c : Code} {Q : Exit → Env → Ents → Prop} {E : Env} {S S' : Ents} (h : S'.Sublist S) (hc : Wp P B n c Q E S') : Wp P B n c Q E S :=
  fun a w hS hA => hc a w (hS.sublist h) hA

theorem i64_id {x : Int} (h1 : -9223372036854775808 ≤ x) (h2 : x ≤ 9223372036854775807) : IntKind.i64.wrap x = x := by
  rw [IntKind.wrap_i64]; omega
theorem int_eq {k : IntKind} {a b : Int} (h : a = b) : Value.int k a = Value.int k b := by rw [h]
end Go.Lg

/- Functions without a body: sums of 64 bits with a carry. -/
namespace Go.Lg
section
variable {P : Program} {n : Nat} {E : Env} {o : Oper}
theorem Gives.add64 {c : Call} {f : FuncId} {fn : Func} {g : Operand} {x y k : Int} (ho : o.op = .call c) (hc : c.callee = .value g) (hg : opd E g = some (.func (.func f) #[] #[]))
    (hf : P.funcs[f]? = some fn) (hname : (fn.name == "runtime.NumGoroutine") = false) (hb : fn.body.isNone = true) (hn : Extern.findNext fn = none) (he : Extern.find fn = some add64Entry)
    (hvs : opds E c.args.toList = some [.int .u64 x, .int .u64 y, .int .u64 k]) (hx : 0 ≤ x) (hy : 0 ≤ y) (hk0 : 0 ≤ k) (hk : k ≤ 1) :
    Gives P n [] E o (.tuple #[.int .u64 ((x + y + k) % 18446744073709551616), .int .u64 ((x + y + k) / 18446744073709551616)]) := by
  intro a w _ hA
  have hargs : c.args.map a.eval = [Value.int .u64 x, .int .u64 y, .int .u64 k].toArray := by
    apply Array.ext'
    simpa using opds_sound hA hvs
  have hh : execOp a.eval o = callFunc f ([Value.int .u64 x, .int .u64 y, .int .u64 k].toArray ++ #[]) := by
    simp [execOp, ho, resolve, hc, opd_sound hA hg, Deferred.ofValue, hargs, invoke]
  rw [hh, run_callFunc_extern hf hname hb hn he]
  have := run_add64 (P := P) x y k hx hy hk0 hk w
  simp only [Array.append_empty]
  rw [this]
  rfl
end
end Go.Lg

namespace Go.Lg
open Go.RowKit (Below)

/-- All that memory holds. -/
def All (W : World) : Ents := (List.range W.heap.size).filterMap fun b => (W.heap[b]?).map fun o => (b, o)

theorem All.mem {W : World} {b : Nat} {o : Obj} (h : W.heap[b]? = some o) : (b, o) ∈ All W := by
  refine List.mem_filterMap.2 ⟨b, ?_, by simp [h]⟩
  obtain ⟨hb, _⟩ := Array.getElem?_eq_some_iff.1 h
  exact List.mem_range.2 hb

theorem All.of_mem {W : World} {x : Nat × Obj} (h : x ∈ All W) : W.heap[x.1]? = some x.2 := by
  obtain ⟨b, _, hx⟩ := List.mem_filterMap.1 h
  obtain ⟨o, ho, rfl⟩ := Option.map_eq_some_iff.1 hx
  exact ho

theorem All.lt {W : World} {x : Nat × Obj} (h : x ∈ All W) : x.1 < W.heap.size :=
  (Array.getElem?_eq_some_iff.1 (All.of_mem h)).1

theorem pairwise_of_all {α : Type} {R : α → α → Prop} : ∀ {l : List α}, (∀ x ∈ l, ∀ y, R x y) → l.Pairwise R
  | [], _ => .nil
  | x :: l, h => .cons (fun y _ => h x (by simp) y) (pairwise_of_all fun z hz => h z (by simp [hz]))

theorem All.sim (W : World) : Sim W.heap.size (All W) W :=
  ⟨fun _ => All.of_mem, pairwise_of_all fun _ hx _ _ => All.lt hx, Nat.le_refl _⟩

/-- What an argument of this type is, in memory. -/
inductive Rd (P : Program) (S : Ents) : TypeId → List Value → Prop
  | bool {t : TypeId} (h : P.underlying t = some .bool) (b : Bool) : Rd P S t [.bool b]
  | int {t : TypeId} {k : IntKind} (h : P.underlying t = some (.int k)) (n : Int) (w : (Lit.int k n).wf = true) : Rd P S t [.int k n]
  | str {t : TypeId} (h : P.underlying t = some .string) (l : List UInt8) (w : l.length ≤ reachBytes) : Rd P S t [.string ⟨⟨l⟩⟩]
  | slice {t e : TypeId} (h : P.underlying t = some (.slice e)) (v : Value) (rs : List (List Value)) (r : Reads S (P.cellsOf e) v rs.length rs.flatten)
      (w : rs.length * P.bytesOf e ≤ reachBytes) (hc : ∀ r ∈ rs, r.length = P.cellsOf e) (hr : ∀ r ∈ rs, Rd P S e r) (hcap : ∀ a n c, v = .slice a n c → n ≤ c) : Rd P S t [v]
  | struct {t : TypeId} {fs : Array Field} (h : P.underlying t = some (.struct fs)) (cs : List Value) (hl : cs.length = P.cellsOf t)
      (hr : ∀ f ∈ fs.toList, Rd P S f.type ((cs.drop f.offset).take (P.cellsOf f.type))) : Rd P S t cs

def plain (P : Program) : Nat → TypeId → Bool
  | 0, _ => false
  | m + 1, t => match P.underlying t with
    | some .bool => true
    | some (.int _) => true
    | some .string => true
    | some (.slice e) => Nat.ble 1 (P.cellsOf e) && plain P m e
    | some (.struct fs) => fs.toList.all fun f => plain P m f.type
    | _ => false

section
variable {P : Program} {S : Ents} {t : TypeId} {cs : List Value}

theorem Rd.open_slice {e : TypeId} (ht : P.underlying t = some (.slice e)) (h : Rd P S t cs) :
    ∃ (v : Value) (rs : List (List Value)), cs = [v] ∧ Reads S (P.cellsOf e) v rs.length rs.flatten ∧ rs.length * P.bytesOf e ≤ reachBytes ∧ (∀ r ∈ rs, r.length = P.cellsOf e) ∧ ∀ r ∈ rs, Rd P S e r := by
  cases h with
  | slice h v rs r w hc hr _ =>
    rw [ht] at h
    cases h
    exact ⟨v, rs, rfl, r, w, hc, hr⟩
  | _ => simp_all
end

theorem weightsAll_mem {H : Type} {P : Program} {e : TypeId} : ∀ {ds : List (DataW H)} {d : DataW H}, d ∈ ds → ∀ n ∈ d.weights P e, n ∈ DataW.weightsAll P e ds
  | d0 :: ds, d, hd, n, hn => by
    simp only [DataW.weightsAll, List.mem_append]
    rcases List.mem_cons.1 hd with rfl | hd
    · exact .inl hn
    · exact .inr (weightsAll_mem hd n hn)

section
variable {H : Type} {enc : TypeId × Value → H} {P : Program} {W : World}

theorem flatten_get {α : Type} (c : Nat) : ∀ (rs : List (List α)), (∀ r ∈ rs, r.length = c) → ∀ i j, j < c → rs.flatten[i * c + j]? = (rs[i]?).bind (·[j]?)
  | [], _, i, j, _ => by simp
  | r :: rs, h, 0, j, hj => by
    have := h r (by simp)
    simp [List.getElem?_append, this, hj]
  | r :: rs, h, i + 1, j, hj => by
    have h1 := h r (by simp)
    have e : (i + 1) * c + j = c + (i * c + j) := by rw [Nat.add_mul]; omega
    have := flatten_get c rs (fun x hx => h x (by simp [hx])) i j hj
    rw [e, List.flatten_cons, List.getElem?_append_right (by omega), h1, Nat.add_sub_cancel_left, this]
    simp

theorem flatten_len {α : Type} (c : Nat) : ∀ (rs : List (List α)), (∀ r ∈ rs, r.length = c) → rs.flatten.length = rs.length * c
  | [], _ => by simp
  | r :: rs, h => by
    have := flatten_len c rs (fun x hx => h x (by simp [hx]))
    simp only [List.flatten_cons, List.length_append, h r (by simp), this, List.length_cons, Nat.add_mul]
    omega

/-- Cells that can be read lie in one block, in a row. -/
theorem rows_block {a : Addr} {c k : Nat} {rs : List (List Value)} (hc : 0 < c) (hk : 0 < k) (hl : rs.length = k)
    (h : ∀ i, i < k → ∃ r, rs[i]? = some r ∧ W.cells? 0 (a.add (i * c)) c = some r) :
    ∃ b o l e fz, a = ⟨b, o, none⟩ ∧ (b, cel l e fz) ∈ All W ∧ o + k * c ≤ l.length ∧ (l.drop o).take (k * c) = rs.flatten := by
  have cell : ∀ i, i < k → ∀ j, j < c → ∃ v, (rs[i]?).bind (·[j]?) = some v ∧ W.cell? ((a.add (i * c)).add j) = some v := by
    intro i hi j hj
    obtain ⟨r, hr, hw⟩ := h i hi
    obtain ⟨_, hlen, hg⟩ := World.cells?_some hw
    refine ⟨r[j], ?_, ?_⟩
    · simp [hr, hlen, hj]
    · rw [hg j hj]; simp [hlen, hj]
  obtain ⟨v0, _, h0⟩ := cell 0 hk 0 hc
  have hs := World.cell?_spot h0
  obtain ⟨b, o, sp⟩ := a
  simp [Addr.add] at hs h0
  subst hs
  have : ∃ l e fz, W.heap[b]? = some (.cells l e fz) := by
    unfold World.cell? at h0
    split at h0
    · rename_i c0 e0 f0 hb; exact ⟨c0, e0, f0, hb⟩
    · simp at h0
  obtain ⟨l, e, fz, hb⟩ := this
  have at_ : ∀ i, i < k → ∀ j, j < c → ∃ v, (rs[i]?).bind (·[j]?) = some v ∧ l[o + (i * c + j)]? = some v := by
    intro i hi j hj
    obtain ⟨v, hv, hw⟩ := cell i hi j hj
    refine ⟨v, hv, ?_⟩
    have e1 : ((⟨b, o, none⟩ : Addr).add (i * c)).add j = ⟨b, o + (i * c + j), none⟩ := by
      unfold Addr.add
      split <;> split <;> simp_all
      omega
    rw [e1] at hw
    simpa [World.cell?, hb] using hw
  have rl : ∀ r ∈ rs, r.length = c := by
    intro r hr
    obtain ⟨i, hi, rfl⟩ := List.mem_iff_getElem.1 hr
    obtain ⟨r', hr', hw⟩ := h i (by omega)
    obtain ⟨_, hlen, _⟩ := World.cells?_some hw
    have : rs[i]? = some rs[i] := by simp [hi]
    rw [this] at hr'
    cases hr'
    exact hlen
  have all : ∀ x, x < k * c → ∃ v, rs.flatten[x]? = some v ∧ l[o + x]? = some v := by
    intro x hx
    have hd : x / c < k := (Nat.div_lt_iff_lt_mul hc).2 hx
    have hm : x % c < c := Nat.mod_lt _ hc
    have e1 : x / c * c + x % c = x := by rw [Nat.mul_comm]; exact Nat.div_add_mod x c
    obtain ⟨v, h1, h2⟩ := at_ _ hd _ hm
    refine ⟨v, ?_, ?_⟩
    · rw [← e1, flatten_get c rs rl _ _ hm]; exact h1
    · rw [e1] at h2; exact h2
  have hlen : o + k * c ≤ l.toList.length := by
    obtain ⟨v, _, hv⟩ := all (k * c - 1) (by have : 0 < k * c := Nat.mul_pos hk hc; omega)
    have := (Array.getElem?_eq_some_iff.1 hv).1
    have : 0 < k * c := Nat.mul_pos hk hc
    simp; omega
  refine ⟨b, o, l.toList, e, fz, rfl, All.mem hb, hlen, ?_⟩
  apply List.ext_getElem?
  intro x
  by_cases hx : x < k * c
  · obtain ⟨v, h1, h2⟩ := all x hx
    rw [h1, List.getElem?_take, if_pos hx, List.getElem?_drop]
    simpa using h2
  · have f1 : rs.flatten.length = k * c := by
      rw [flatten_len c rs rl, hl]
    rw [List.getElem?_eq_none (by rw [List.length_take]; omega), List.getElem?_eq_none (by omega)]

theorem reads_rows {e : TypeId} {n : Nat} {a : Addr} {len cap : Nat} {elems : List (DataW H × List MemPlace)} (hc : 0 < P.cellsOf e) (hl : elems.length = len)
    (h : ∀ i, i < len → (W.cells? 0 (a.add (i * P.cellsOf e)) (P.cellsOf e)).bind (DataW.trod enc P W 0 (fun _ => true) true n e) = elems[i]?) :
    ∃ rs : List (List Value), rs.length = len ∧ Reads (All W) (P.cellsOf e) (.slice (some a) len cap) len rs.flatten ∧ (∀ r ∈ rs, r.length = P.cellsOf e) ∧
      ∀ r ∈ rs, ∃ x ∈ elems, DataW.trod enc P W 0 (fun _ => true) true n e r = some x := by
  have rowAt : ∀ i, i < len → ∃ r, W.cells? 0 (a.add (i * P.cellsOf e)) (P.cellsOf e) = some r ∧ ∃ x ∈ elems, DataW.trod enc P W 0 (fun _ => true) true n e r = some x := by
    intro i hi
    have := h i hi
    have hx : elems[i]? = some elems[i] := by simp
    rw [hx] at this
    obtain ⟨r, hr, ht⟩ := Option.bind_eq_some_iff.1 this
    exact ⟨r, hr, elems[i], by simp, ht⟩
  let rs : List (List Value) := (List.range len).map fun i => (W.cells? 0 (a.add (i * P.cellsOf e)) (P.cellsOf e)).getD []
  have rsl : rs.length = len := by simp [rs]
  have rsat : ∀ i, i < len → ∃ r, rs[i]? = some r ∧ W.cells? 0 (a.add (i * P.cellsOf e)) (P.cellsOf e) = some r := by
    intro i hi
    obtain ⟨r, hr, _⟩ := rowAt i hi
    exact ⟨r, by simp [rs, hi, hr], hr⟩
  have rin : ∀ r ∈ rs, ∃ i, i < len ∧ W.cells? 0 (a.add (i * P.cellsOf e)) (P.cellsOf e) = some r := by
    intro r hr
    obtain ⟨i, hi, rfl⟩ := List.mem_iff_getElem.1 hr
    obtain ⟨r', h1, h2⟩ := rsat i (by omega)
    have : rs[i]? = some rs[i] := by simp [hi]
    rw [this] at h1
    cases h1
    exact ⟨i, by omega, h2⟩
  have rl : ∀ r ∈ rs, r.length = P.cellsOf e := by
    intro r hr
    obtain ⟨i, _, hw⟩ := rin r hr
    exact (World.cells?_some hw).2.1
  refine ⟨rs, rsl, ⟨by rw [flatten_len _ rs rl, rsl], ?_⟩, rl, ?_⟩
  · by_cases h0 : len = 0
    · subst h0
      exact .inl ⟨⟨_, _, rfl⟩, rfl⟩
    · obtain ⟨b, o, l, e', fz, rfl, hm, h1, h2⟩ := rows_block hc (Nat.pos_of_ne_zero h0) rsl rsat
      exact .inr ⟨b, o, cap, l, e', fz, rfl, hm, h1, h2⟩
  · intro r hr
    obtain ⟨i, hi, hw⟩ := rin r hr
    obtain ⟨r', h1, h2⟩ := rowAt i hi
    rw [hw] at h1
    cases h1
    exact h2

theorem Rd.of_trod : ∀ {m n : Nat} {t : TypeId} {cs : List Value} {x : DataW H × List MemPlace}, plain P m t = true →
    DataW.trod enc P W 0 (fun _ => true) true n t cs = some x → (∀ k ∈ x.1.weights P t, k ≤ reachBytes) → Rd P (All W) t cs
  | m + 1, n, t, cs, x, hp, h, hw => by
    unfold plain at hp
    split at hp
    · rename_i hu
      obtain ⟨b, rfl, _⟩ := DataW.trod_bool hu h
      exact .bool hu b
    · rename_i hu
      obtain ⟨k, rfl, _, w⟩ := DataW.trod_int hu h
      exact .int hu k w
    · rename_i hu
      obtain ⟨s, rfl, rfl, w⟩ := DataW.trod_string hu h
      exact .str hu s.data.toList (hw _ (by simp [DataW.weights]))
    · rename_i e hu
      simp only [Bool.and_eq_true] at hp
      obtain ⟨hc, hp⟩ := hp
      rcases DataW.trod_slice hu h with ⟨rfl, rfl⟩ | ⟨a, len, cap, elems, rest, k, rfl, rfl, rfl, _, hlc, _, hl, he, _, _⟩
      · exact .slice hu _ [] ⟨by simp, .inl ⟨⟨_, _, rfl⟩, rfl⟩⟩ (by simp) (by simp) (by simp) (by intro a n c h; cases h; exact Nat.le_refl _)
      · obtain ⟨rs, rl, hr, hcell, hrow⟩ := reads_rows (cap := cap) (Nat.le_of_ble_eq_true hc) hl he
        have hw' : ∀ k ∈ ((elems.map (·.1)).length + (rest.map (·.1)).length) * P.bytesOf e :: (DataW.weightsAll P e (elems.map (·.1)) ++ DataW.weightsAll P e (rest.map (·.1))), k ≤ reachBytes := by
          simpa [DataW.weights, hu] using hw
        subst rl
        refine .slice hu _ rs hr ?_ hcell (fun r hr => ?_) (by intro a n c h; cases h; exact hlc)
        · have := hw' _ (List.mem_cons_self)
          refine Nat.le_trans (Nat.mul_le_mul_right _ ?_) this
          simp [hl]
        · obtain ⟨y, hy, ht⟩ := hrow r hr
          exact Rd.of_trod hp ht fun k hk => hw' k (by
            refine List.mem_cons_of_mem _ (List.mem_append_left _ (weightsAll_mem (List.mem_map.2 ⟨y, hy, rfl⟩) k hk)))
    · rename_i fs hu
      obtain ⟨xs, k, rfl, rfl, hl, hxl, hf⟩ := DataW.trod_struct hu h
      refine .struct hu cs hl fun f hfm => ?_
      obtain ⟨i, hi, rfl⟩ := List.mem_iff_getElem.1 hfm
      have hi' : i < fs.size := by simpa using hi
      have hx : i < xs.length := by omega
      have := hf i fs.toList[i] (by simp [hi'])
      rw [List.getElem?_eq_getElem hx] at this
      refine Rd.of_trod (List.all_eq_true.1 hp _ (List.getElem_mem hi)) this fun k hk => hw k ?_
      have e1 : (DataW.agg (xs.map (·.1))).weights P t = DataW.weightsEach P (fs.toList.map (·.type)) (xs.map (·.1)) := by simp [DataW.weights, hu]
      show k ∈ DataW.weights P t (.agg (xs.map (·.1)))
      rw [e1]
      exact DataW.weights_mem_each (j := i) (by simp [hi']) (by simp [hx]) k hk
    · simp at hp

/-- An argument, read. -/
theorem Rd.of_arg {m j : Nat} {ts : List TypeId} {ds : List (DataW H)} {t : TypeId} {v : Value} {d : DataW H} {ps : List MemPlace} (hp : plain P m t = true)
    (h : DataW.Trod enc P W 0 (fun _ => true) true t v d ps) (hw : (DataW.weightsEach P ts ds).all (· ≤ reachBytes) = true) (ht : ts[j]? = some t) (hd : ds[j]? = some d) : Rd P (All W) t v.cells.toList := by
  obtain ⟨n, hn⟩ := h
  exact Rd.of_trod hp hn fun k hk => by
    have := List.all_eq_true.1 hw k (DataW.weights_mem_each ht hd k hk)
    simpa using this
end
end Go.Lg

namespace Go.Lg

theorem takeN_take : ∀ (n : Nat) (l : List Value), takeN n (l.take n) = takeN n l
  | 0, l => by simp [takeN]
  | n + 1, [] => by simp
  | n + 1, x :: l => by simp [takeN, takeN_take n l]

theorem partAt_congr {P : Program} {t : TypeId} {n o o' : Nat} {l l' : List Value} (hs : sizeOfT P t = some n) (hn : 0 < n)
    (h : (l.drop o).take n = (l'.drop o').take n) : partAt P t l o = partAt P t l' o' := by
  have h0 : l[o]? = l'[o']? := by
    have := congrArg (·[0]?) h
    simpa [List.getElem?_take, hn] using this
  unfold partAt
  rw [hs]
  cases isAggT P t with
  | none => rfl
  | some b =>
    cases b with
    | true =>
      simp only
      rw [← takeN_take n (l.drop o), ← takeN_take n (l'.drop o'), h]
    | false => simpa using h0

/-- A part of a part. -/
theorem partAt_in {P : Program} {t : TypeId} {n a sz m : Nat} {l r : List Value} (hr : (l.drop a).take sz = r) (hs : sizeOfT P t = some n) (hn : 0 < n) (hm : m + n ≤ sz) :
    partAt P t l (a + m) = partAt P t r m := by
  refine partAt_congr hs hn ?_
  subst hr
  rw [List.drop_take, List.take_take, Nat.min_eq_left (by omega), List.drop_drop]

section
variable {α : Type} {f : α → List Value} {sz : Nat}

theorem flatMap_at : ∀ (xs : List α), (∀ x ∈ xs, (f x).length = sz) → ∀ i (h : i < xs.length), ((xs.flatMap f).drop (i * sz)).take sz = f xs[i]
  | x :: xs, hf, 0, _ => by
    have := hf x (by simp)
    simp only [List.flatMap_cons, Nat.zero_mul, List.drop_zero, List.getElem_cons_zero]
    rw [List.take_append_of_le_length (by omega), List.take_of_length_le (by omega)]
  | x :: xs, hf, i + 1, h => by
    have h1 := hf x (by simp)
    have := flatMap_at xs (fun y hy => hf y (by simp [hy])) i (by simpa using h)
    have e : (i + 1) * sz = (f x).length + i * sz := by rw [Nat.add_mul]; omega
    rw [e, List.flatMap_cons, List.drop_append, List.getElem_cons_succ]
    have e2 : (f x).drop ((f x).length + i * sz) = [] := List.drop_of_length_le (by omega)
    rw [e2, List.nil_append, Nat.add_sub_cancel_left]
    exact this

theorem Reads.elem {S : Ents} {v : Value} {xs : List α} (h : Reads S sz v xs.length (xs.flatMap f)) (hf : ∀ x ∈ xs, (f x).length = sz) (h0 : 0 < xs.length) :
    ∃ b o cap l e fz, v = .slice (some ⟨b, o, none⟩) xs.length cap ∧ (b, cel l e fz) ∈ S ∧ ∀ i (h : i < xs.length), (l.drop (o + i * sz)).take sz = f xs[i] := by
  obtain ⟨hl, h | ⟨b, o, cap, l, e, fz, hv, hm, hle, hx⟩⟩ := h
  · exact absurd h.2 (by omega)
  · refine ⟨b, o, cap, l, e, fz, hv, hm, fun i hi => ?_⟩
    have := flatMap_at xs hf i hi
    rw [← this, ← hx]
    rw [List.drop_take, List.take_take, List.drop_drop, Nat.min_eq_left]
    have : (i + 1) * sz ≤ xs.length * sz := Nat.mul_le_mul_right _ hi
    rw [Nat.add_mul] at this
    omega

theorem list_open {p : α → Prop} : ∀ (rs : List (List Value)), (∀ r ∈ rs, ∃ x, r = f x ∧ p x) → ∃ xs : List α, rs = xs.map f ∧ ∀ x ∈ xs, p x
  | [], _ => ⟨[], rfl, by simp⟩
  | r :: rs, h => by
    obtain ⟨x, rfl, hx⟩ := h r (by simp)
    obtain ⟨xs, rfl, hxs⟩ := list_open rs fun y hy => h y (by simp [hy])
    exact ⟨x :: xs, rfl, by simpa using ⟨hx, hxs⟩⟩

theorem Rd.rows {P : Program} {S : Ents} {t e : TypeId} {v : Value} {p : α → Prop} (ht : P.underlying t = some (.slice e)) (hs : P.cellsOf e = sz) (h : Rd P S t [v])
    (hf : ∀ r, Rd P S e r → ∃ x, r = f x ∧ p x) : ∃ xs : List α, Reads S sz v xs.length (xs.flatMap f) ∧ xs.length * P.bytesOf e ≤ reachBytes ∧ (∀ x ∈ xs, (f x).length = sz) ∧ ∀ x ∈ xs, p x := by
  obtain ⟨v', rs, hv, hr, hw, hc, hrd⟩ := h.open_slice ht
  cases hv
  obtain ⟨xs, rfl, hp⟩ := list_open rs fun r hrm => hf r (hrd r hrm)
  rw [hs, List.length_map] at hr
  rw [List.length_map] at hw
  refine ⟨xs, ?_, hw, fun x hx => ?_, hp⟩
  · rwa [← List.flatMap_def] at hr
  · rw [← hs]; exact hc _ (List.mem_map.2 ⟨x, hx, rfl⟩)
end

theorem Reads.len {S : Ents} {sz k len : Nat} {a : Option Addr} {cap : Nat} {xs : List Value} (h : Reads S sz (.slice a len cap) k xs) : len = k := by
  obtain ⟨_, ⟨⟨a', c', h⟩, rfl⟩ | ⟨b, o, cap', l, e, fz, hv, _⟩⟩ := h
  · cases h; rfl
  · cases hv; rfl
end Go.Lg

namespace Go.Lg
open Go.RowKit (Below)

theorem ndT {p : Prop} [Decidable p] (h : (!decide p) = true) : ¬p := by simpa using h
theorem ndF {p : Prop} [Decidable p] (h : (!decide p) = false) : p := by simpa using h

/-! Structs side by side. -/
mutual
def eqIn (P : Program) : Nat → TypeId → Value → Value → Option Bool
  | 0, _, _, _ => none
  | _ + 1, t, .int k a, .int k' b => match P.underlying t, decide (k = k') with
    | some (.int _), true => some (decide (a = b))
    | _, _ => none
  | _ + 1, t, .bool a, .bool b => match P.underlying t with
    | some .bool => some (a == b)
    | _ => none
  | _ + 1, t, .string ⟨⟨a⟩⟩, .string ⟨⟨b⟩⟩ => match P.underlying t with
    | some .string => some (decide (a = b))
    | _ => none
  | d + 1, t, .agg xs, .agg ys => match P.underlying t, P.stoodInHeld t with
    | some (.struct fs), false => eqFs P d xs.toList ys.toList fs.toList
    | _, _ => none
  | _, _, _, _ => none
def eqFs (P : Program) : Nat → List Value → List Value → List Field → Option Bool
  | 0, _, _, _ => none
  | _ + 1, _, _, [] => some true
  | d + 1, xs, ys, f :: fs => match f.name == "_", partAt P f.type xs f.offset, partAt P f.type ys f.offset with
    | false, some a, some b => match eqIn P d f.type a b, eqFs P d xs ys fs with
      | some r, some s => some (r && s)
      | _, _ => none
    | _, _, _ => none
end

theorem eq_sound (P : Program) (w : World) : ∀ d, (∀ t a b r, eqIn P d t a b = some r → ∀ m, d ≤ m → (Op.equalIn m t a b).run P w = .ok r w) ∧
    (∀ xs ys fs r, eqFs P d xs ys fs = some r → ∀ m, d ≤ m → (Op.eqFields m xs.toArray ys.toArray fs).run P w = .ok r w) := by
  intro d
  induction d with
  | zero => exact ⟨fun _ _ _ _ h => by simp [eqIn] at h, fun _ _ _ _ h => by simp [eqFs] at h⟩
  | succ d ih =>
    obtain ⟨ih1, ih2⟩ := ih
    constructor
    · intro t a b r h m hm
      obtain ⟨m, rfl⟩ : ∃ k, m = k + 1 := ⟨m - 1, by omega⟩
      unfold eqIn at h
      split at h
      · contradiction
      · split at h
        · rename_i hu hk
          obtain rfl := Option.some.inj h
          have hk := of_decide_eq_true hk
          simp [Op.equalIn, run_underlying hu, hk]
          rfl
        · cases h
      · split at h
        · rename_i hu
          obtain rfl := Option.some.inj h
          rw [run_equalIn_bool' w m _ _ _ hu]
        · cases h
      · split at h
        · rename_i hu
          obtain rfl := Option.some.inj h
          rw [run_equalIn_string w m _ _ _ hu, toList_beq]
        · cases h
      · split at h
        · rename_i d0 xs ys he x1 x2 fs hu hst
          have hf : ∀ t', P.underlying t' = some (.struct fs) → P.fieldsOf t' = fs := fun t' h => by simp [Program.fieldsOf, h]
          rw [run_equalIn_struct (P := P) w m _ xs ys (by rw [hf _ hu]; exact hu) hst, hf _ hu]
          obtain rfl : d = d0 := by omega
          have := ih2 _ _ _ _ h m (by omega)
          simpa using this
        · cases h
      · cases h
    · intro xs ys fs r h m hm
      cases fs with
      | nil =>
        simp only [eqFs] at h
        obtain rfl := Option.some.inj h
        simp [Op.eqFields]
      | cons f fs =>
        simp only [eqFs] at h
        split at h
        · rename_i a b hn ha hb
          split at h
          · rename_i r1 r2 h1 h2
            obtain rfl := Option.some.inj h
            have hn' : f.name ≠ "_" := by simpa using hn
            have e1 := ih1 _ _ _ _ h1 m (by omega)
            have e2 := ih2 _ _ _ _ h2 m (by omega)
            have pa := partAt_run (P := P) (cs := xs.toArray) (by simpa using ha) w
            have pb := partAt_run (P := P) (cs := ys.toArray) (by simpa using hb) w
            rw [Op.eqFields]
            simp only [if_pos hn', Sem.run_bind, pa, pb, e1, Result.andThen_ok]
            cases r1
            · simp
            · simpa using e2
          · cases h
        · cases h

section
variable {P : Program} {B n : Nat} {E : Env} {S : Ents} {o : Oper}

theorem Gives.eqStruct {t yt : TypeId} {x y : Operand} {xs ys : Array Value} {r : Bool} (d : Nat) (hd : Nat.ble d 10000 = true) (ho : o.op = .binOp .eql t x y yt)
    (hx : opd E x = some (.agg xs)) (hy : opd E y = some (.agg ys)) (hg : P.eqGuardType P.depth t = false) (he : eqIn P d t (.agg xs) (.agg ys) = some r) :
    Gives P n [] E o (.bool r) := by
  intro a w _ hA
  have h1 := (eq_sound P w d).1 _ _ _ _ he 10000 (Nat.le_of_ble_eq_true hd)
  simp only [execOp, ho, opd_sound hA hx, opd_sound hA hy, Sem.run_bind, run_eqGuard_agg w .eql t x y xs ys hg, Result.andThen_ok, run_eql_struct, h1, Sem.run_pure]

theorem Gives.neqStruct {t yt : TypeId} {x y : Operand} {xs ys : Array Value} {r : Bool} (d : Nat) (hd : Nat.ble d 10000 = true) (ho : o.op = .binOp .neq t x y yt)
    (hx : opd E x = some (.agg xs)) (hy : opd E y = some (.agg ys)) (hg : P.eqGuardType P.depth t = false) (he : eqIn P d t (.agg xs) (.agg ys) = some r) :
    Gives P n [] E o (.bool (!r)) := by
  intro a w _ hA
  have h1 := (eq_sound P w d).1 _ _ _ _ he 10000 (Nat.le_of_ble_eq_true hd)
  simp only [execOp, ho, opd_sound hA hx, opd_sound hA hy, Sem.run_bind, run_eqGuard_agg w .neq t x y xs ys hg, Result.andThen_ok, run_neq_struct, h1, Sem.run_pure]
end

theorem takeN_some : ∀ (n : Nat) (l : List Value), n ≤ l.length → takeN n l = some (l.take n)
  | 0, l, _ => by simp [takeN]
  | n + 1, [], h => by simp at h
  | n + 1, x :: l, h => by
    have := takeN_some n l (by simpa using h)
    simp [takeN, this]

/-- A struct that stands somewhere in a row. -/
theorem partAt_agg {P : Program} {t : TypeId} {n o : Nat} {l r : List Value} (hr : (l.drop o).take n = r) (ha : isAggT P t = some true) (hs : sizeOfT P t = some n) (hn : r.length = n) :
    partAt P t l o = some (.agg r.toArray) := by
  unfold partAt
  rw [ha, hs]
  have hl : n ≤ (l.drop o).length := by
    rw [← hr, List.length_take] at hn; omega
  simp only [takeN_some n _ hl, hr]

section
variable {P : Program} {B n : Nat} {ops : Array Oper} {Q : Exit → Env → Ents → Prop} {E : Env} {S : Ents}
/-- A step that leaves what stood there. -/
theorem DWp.stepGrow {muts : List Nat} {l : Array Bool} {i : Nat} {o : Oper} {rest : List Nat} {pr : List (Nat × Ents)} (hmut : muts.contains i = true) (ho : ops[i]? = some o)
    (hg : guardB ops.toList E o.guard = some true)
    (h : Step P B n o (fun E' S' => (∀ y ∈ S, y ∈ S') ∧ DWp P B n ops muts (l.setIfInBounds i true) rest (keptE ops i pr) Q E' S') E S) :
    DWp P B n ops muts l (i :: rest) pr Q E S := by
  intro hgo
  refine DWp.step hmut ho hg ?_ hgo
  intro a w hS hA
  refine Oper.upon_monoQ ?_ (fun _ _ _ h => h) (h a w hS hA)
  rintro a' w' ⟨hb, E', S', hs, ha, hsub, q⟩
  exact ⟨hb, E', S', hs, ha, fun x hx y hy => hsub y (hgo.proms x (List.mem_filter.1 hx).1 y hy), q⟩
end

section
variable {P : Program} {B n : Nat} {E : Env} {S : Ents} {o : Oper} {K : Env → Ents → Prop}
/-- A store, and what the row is behind it. -/
theorem Step.storeAs {t : TypeId} {x y : Operand} {b o' : Nat} {v : Value} (i : Nat) {l : List Value} (l' : List Value) {e : TypeId} {fz : Nat × Nat} {S' : Ents} (hd : dstOk n o.dst = true)
    (ho : o.op = .store t x y) (hx : opd E x = some (.pointer (some ⟨b, o', none⟩))) (hy : opd E y = some v) (he : entAt S i = some (b, cel l e fz)) (hB : B ≤ b)
    (hs : sizeOfT P t = some v.cells.size) (hz : Unfz fz l.length) (h1 : v.cells.toList.all (·.oneCell') = true) (hl : o' + v.cells.size ≤ l.length) (hw : wr l o' v.cells.toList = l')
    (hS' : setEnt S i (b, cel l' e fz) = some S')
    (h : K (putE E o.dst undef) S') : Step P B n o K E S := by
  subst hw
  exact Step.store i hd ho hx hy he hB hs hl hz h1 hS' h
end

theorem Wp.permS {P : Program} {B n : Nat} {c : Code} {Q : Exit → Env → Ents → Prop} {E : Env} {S S' : Ents} (h : S.Perm S') (hc : Wp P B n c Q E S') : Wp P B n c Q E S :=
  fun a w hS hA => hc a w (hS.perm h) hA
theorem OWp.permS {P : Program} {B n : Nat} {ops : Array Oper} {l : List Oper} {Q : Exit → Env → Ents → Prop} {E : Env} {S S' : Ents} (h : S.Perm S') (hc : OWp P B n ops l Q E S') : OWp P B n ops l Q E S :=
  fun a w hS hA => hc a w (hS.perm h) hA
theorem OWp.drop {P : Program} {B n : Nat} {ops : Array Oper} {l : List Oper} {Q : Exit → Env → Ents → Prop} {E : Env} {S S' : Ents} (h : S'.Sublist S) (hc : OWp P B n ops l Q E S') : OWp P B n ops l Q E S :=
  fun a w hS hA => hc a w (hS.sublist h) hA
theorem CallWp.permS {P : Program} {B : Nat} {f : FuncId} {args : Array Value} {Q : Value → Ents → Prop} {S S' : Ents} (h : S.Perm S') (hc : CallWp P B f args Q S') : CallWp P B f args Q S :=
  fun w hS => hc w (hS.perm h)

theorem pr_nil {S' : Ents} : ∀ x ∈ ([] : List (Nat × Ents)), ∀ y ∈ x.2, y ∈ S' := fun _ h => nomatch h
theorem pr_free {S' : Ents} {i : Nat} {pr : List (Nat × Ents)} (r : ∀ x ∈ pr, ∀ y ∈ x.2, y ∈ S') : ∀ x ∈ (i, []) :: pr, ∀ y ∈ x.2, y ∈ S' := by
  intro x hx
  rcases List.mem_cons.1 hx with rfl | hx
  · intro y hy; cases hy
  · exact r x hx
theorem pr_cons {S' : Ents} {i : Nat} {e : Nat × Obj} {es : Ents} {pr : List (Nat × Ents)} (h : e ∈ S') (r : ∀ x ∈ (i, es) :: pr, ∀ y ∈ x.2, y ∈ S') : ∀ x ∈ (i, e :: es) :: pr, ∀ y ∈ x.2, y ∈ S' := by
  intro x hx
  rcases List.mem_cons.1 hx with rfl | hx
  · intro y hy
    rcases List.mem_cons.1 hy with rfl | hy
    · exact h
    · exact r (i, es) (by simp) y hy
  · exact r x (by simp [hx])
theorem pr_kept {S' : Ents} {ops : Array Oper} {i : Nat} {pr : List (Nat × Ents)} (r : ∀ x ∈ pr, ∀ y ∈ x.2, y ∈ S') : ∀ x ∈ keptE ops i pr, ∀ y ∈ x.2, y ∈ S' :=
  fun x hx => r x (List.mem_filter.1 hx).1

theorem CallWp.dropRet {P : Program} {B : Nat} {f : FuncId} {args : Array Value} {Q : Value → Ents → Prop} {S : Ents} (h : CallWp P B f args (fun v S' => ∃ S'' : Ents, S''.Sublist S' ∧ Q v S'') S) : CallWp P B f args Q S :=
  fun w hS => (h w hS).mono fun _ _ ⟨v, _, e, hb, hs, S'', hsub, q⟩ => ⟨v, S'', e, hb, hs.sublist hsub, q⟩
/-- Three ends of proof that come again and again. -/
theorem mems {p : Prop} (hp : p := by repeat (first | exact List.Mem.head _ | assumption | exact List.mem_append_left _ (by assumption) | apply List.mem_cons_of_mem | apply List.mem_append_right)) : p := hp
theorem subl {p : Prop} (hp : p := by repeat (first | exact List.Sublist.refl _ | exact List.sublist_append_right _ _ | apply List.Sublist.cons)) : p := hp
theorem prs {p r : Prop} (hr : r) (hp : p := by first | ((repeat (first | refine pr_kept ?_ | refine pr_free ?_ | (refine pr_cons ?_ ?_; (first | exact List.Mem.head _ | assumption | (repeat (first | exact List.Mem.head _ | assumption | apply List.mem_cons_of_mem | apply List.mem_append_right)))) | exact pr_nil)); done) | (repeat (first | exact pr_nil | refine pr_kept ?_ | refine pr_free ?_ | refine pr_cons (by repeat (first | exact List.Mem.head _ | assumption | exact List.mem_append_left _ (by assumption) | apply List.mem_cons_of_mem | apply List.mem_append_right)) ?_))) : p ∧ r := ⟨hp, hr⟩

section
variable {P : Program} {B n : Nat} {E : Env} {S : Ents} {Q : Exit → Env → Ents → Prop} {ops : Array Oper} {rest : List Oper} {o : Oper}
/-- A region, a number of its operations reckoned, ahead of what follows; and the same where nothing is left of it. -/
theorem Yg {id : Nat} {y : Code} (k : Nat) {l' : List Oper} {E' : Env} (hv : evs P n ops.toList k ops.toList E = some (l', E')) (h : OWp P B n ops l' (thenQ (Wp P B n y Q) Q) E' S) : Wp P B n (.seq (.region id ops false) y) Q E S := Wp.seq (Wp.region (OWp.evs k hv h))
theorem Yn {id : Nat} {y : Code} (k : Nat) {E' : Env} (hv : evs P n ops.toList k ops.toList E = some ([], E')) (h : thenQ (Wp P B n y Q) Q .normal E' S) : Wp P B n (.seq (.region id ops false) y) Q E S := Wp.seq (Wp.region (OWp.evs k hv (OWp.nil h)))
theorem Yq {id : Nat} {y : Code} (h : OWp P B n ops ops.toList (thenQ (Wp P B n y Q) Q) E S) : Wp P B n (.seq (.region id ops false) y) Q E S := Wp.seq (Wp.region h)
theorem Yz (k : Nat) {l : List Oper} {E' : Env} (hv : evs P n ops.toList k l E = some ([], E')) (h : Q .normal E' S) : OWp P B n ops l Q E S := OWp.evs k hv (OWp.nil h)
theorem Ye (k : Nat) {l l' : List Oper} {E' : Env} (hv : evs P n ops.toList k l E = some (l', E')) (h : OWp P B n ops l' Q E' S) : OWp P B n ops l Q E S := OWp.evs k hv h
theorem Yl {t : TypeId} {x : Operand} {b o' : Nat} {v : Value} {l : List Value} {e : TypeId} {fz : Nat × Nat} (hm : (b, cel l e fz) ∈ S) (h : OWp P B n ops rest Q (putE E o.dst v) S) (hg : guardB ops.toList E o.guard = some true := by exact rfl) (hd : dstOk n o.dst = true := by exact rfl)
    (ho : o.op = .load t x := by exact rfl) (hx : opd E x = some (.pointer (some ⟨b, o', none⟩)) := by exact rfl) (hp : partAt P t l o' = some v := by exact rfl) : OWp P B n ops (o :: rest) Q E S := OWp.load hm hg hd ho hx hp h
theorem Yd {muts : List Nat} {lb : Array Bool} {i : Nat} {rest : List Nat} {pr : List (Nat × Ents)} {t : TypeId} {x : Operand} {b o' : Nat} {v : Value} {l : List Value} {e : TypeId} {fz : Nat × Nat} (hm : (b, cel l e fz) ∈ S) (h : DWp P B n ops muts (lb.setIfInBounds i true) rest ((i, [(b, cel l e fz)]) :: pr) Q (putE E o.dst v) S) (hmut : muts.contains i = false := by exact rfl) (hi : ops[i]? = some o := by exact rfl)
    (hg : guardB ops.toList E o.guard = some true := by exact rfl) (hd : dstOk n o.dst = true := by exact rfl) (ho : o.op = .load t x := by exact rfl) (hx : opd E x = some (.pointer (some ⟨b, o', none⟩)) := by exact rfl) (hp : partAt P t l o' = some v := by exact rfl) : DWp P B n ops muts lb (i :: rest) pr Q E S := DWp.load hm hmut hi hg hd ho hx hp h
theorem Yx {f : FuncId} {fn : Func} {c : Code} {args : List Value} {Q : Value → Ents → Prop} (hf : P.funcs[f]? = some fn) (hn : fn.ntmps = n) (h : Wp P B n c (RetQ P fn.results.toList Q) (args0 args 0) S) (hb : fn.body = some c := by exact rfl) (ha : Nat.ble args.length n = true := by exact rfl) : CallWp P B f args.toArray Q S := CallWp.enter hf hb hn ha h
/-- What a call's callee and arguments are; a call of a function of the program. -/
def cOf (E : Env) : Op → Option (Value × List Operand)
  | .call ⟨.value x, args, _⟩ => (opd E x).map fun v => (v, args.toList)
  | _ => none
theorem cOf_sound {p : Op} {v : Value} {az : List Operand} (h : cOf E p = some (v, az)) : ∃ c x, p = .call c ∧ c.callee = .value x ∧ opd E x = some v ∧ c.args.toList = az := by
  unfold cOf at h
  split at h
  · rename_i x args ty
    cases hx : opd E x with
    | none => simp [hx] at h
    | some w => simp [hx] at h; exact ⟨⟨.value x, args, ty⟩, x, rfl, rfl, by rw [hx, h.1], h.2⟩
  · cases h
theorem Yc {f : FuncId} {cap : Array Value} {az : List Operand} {vs : List Value} (ho : cOf E o.op = some (.func (.func f) #[] cap, az)) (hvs : opds E az = some vs) (h : CallWp P B f (vs ++ cap.toList).toArray (fun v S' => OWp P B n ops rest Q (putE E o.dst v) S') S)
    (hg : guardB ops.toList E o.guard = some true := by exact rfl) (hd : dstOk n o.dst = true := by exact rfl) (hb : callable P f = true := by exact rfl) : OWp P B n ops (o :: rest) Q E S := by
  obtain ⟨c, x, h1, h2, h3, h4⟩ := cOf_sound ho
  exact OWp.step hg (Step.call hd h1 h2 h3 (by rw [h4]; exact hvs) hb h)
/-- A condition whose answer is known. -/
theorem Cn {c : Operand} {x y : Code} (hc : (match c with | .tmp d => Env.get E d | .const v => some v | _ => none) = some (.bool false)) (h : Wp P B n y Q E S) : Wp P B n (.cond c x y) Q E S := Wp.cond hc (fun c => nomatch c) fun _ => h
theorem Cy {c : Operand} {x y : Code} (hc : (match c with | .tmp d => Env.get E d | .const v => some v | _ => none) = some (.bool true)) (h : Wp P B n x Q E S) : Wp P B n (.cond c x y) Q E S := Wp.cond hc (fun _ => h) fun c => nomatch c
theorem Ct {c : Operand} {x y : Code} {p : Prop} {_ : Decidable p} (hc : (match c with | .tmp d => Env.get E d | .const v => some v | _ => none) = some (.bool (decide p))) (hn : ¬p) (h : ¬p → Wp P B n y Q E S) : Wp P B n (.cond c x y) Q E S := Wp.cond hc (fun e => absurd (of_decide_eq_true e) hn) fun e => h (of_decide_eq_false e)
theorem Cu {c : Operand} {x y : Code} {p : Prop} {_ : Decidable p} (hc : (match c with | .tmp d => Env.get E d | .const v => some v | _ => none) = some (.bool (!decide p))) (hn : ¬¬p) (h : p → Wp P B n y Q E S) : Wp P B n (.cond c x y) Q E S := Wp.cond hc (fun e => absurd (ndT e) hn) fun e => h (ndF e)
theorem Cv {c : Operand} {x y : Code} {p : Prop} {_ : Decidable p} (hc : (match c with | .tmp d => Env.get E d | .const v => some v | _ => none) = some (.bool (decide p))) (hn : ¬¬p) (h : p → Wp P B n x Q E S) : Wp P B n (.cond c x y) Q E S := Wp.cond hc (fun e => h (of_decide_eq_true e)) fun e => absurd (of_decide_eq_false e) hn
theorem Cw {c : Operand} {x y : Code} {p : Prop} {_ : Decidable p} (hc : (match c with | .tmp d => Env.get E d | .const v => some v | _ => none) = some (.bool (!decide p))) (hn : ¬p) (h : ¬p → Wp P B n x Q E S) : Wp P B n (.cond c x y) Q E S := Wp.cond hc (fun e => h (ndT e)) fun e => absurd (ndF e) hn
theorem Dt (d : Nat) {p : Prop} {_ : Decidable p} (hc : E.get d = some (.bool (decide p))) (hn : ¬p) (h : ¬p → OWp P B n ops rest Q ((d, .bool false) :: E) S) : OWp P B n ops rest Q E S := OWp.part d hc (fun e => absurd (of_decide_eq_true e) hn) fun e => h (of_decide_eq_false e)
theorem Du (d : Nat) {p : Prop} {_ : Decidable p} (hc : E.get d = some (.bool (!decide p))) (hn : ¬¬p) (h : p → OWp P B n ops rest Q ((d, .bool false) :: E) S) : OWp P B n ops rest Q E S := OWp.part d hc (fun e => absurd (ndT e) hn) fun e => h (ndF e)
theorem Dv (d : Nat) {p : Prop} {_ : Decidable p} (hc : E.get d = some (.bool (decide p))) (hn : ¬¬p) (h : p → OWp P B n ops rest Q ((d, .bool true) :: E) S) : OWp P B n ops rest Q E S := OWp.part d hc (fun e => h (of_decide_eq_true e)) fun e => absurd (of_decide_eq_false e) hn
theorem Dw (d : Nat) {p : Prop} {_ : Decidable p} (hc : E.get d = some (.bool (!decide p))) (hn : ¬p) (h : ¬p → OWp P B n ops rest Q ((d, .bool true) :: E) S) : OWp P B n ops rest Q E S := OWp.part d hc (fun e => h (ndT e)) fun e => absurd (ndF e) hn
theorem Ya {t : TypeId} {z : List Value} (hg : guardB ops.toList E o.guard = some true) (hd : dstOk n o.dst = true) (ho : o.op = .alloc t) (hz : zeroOf P t = some z)
    (h : ∀ L, B ≤ L → (∀ x ∈ S, x.1 < L) → OWp P B n ops rest Q (putE E o.dst (.pointer (some ⟨L, 0, none⟩))) ((L, cel z t) :: S)) : OWp P B n ops (o :: rest) Q E S := OWp.step hg (Step.alloc hd ho hz h)
theorem Yb {t : TypeId} {x : Operand} {v : Value} (hg : guardB ops.toList E o.guard = some true) (hd : dstOk n o.dst = true) (ho : o.op = .box t x) (hx : opd E x = some v)
    (h : ∀ L, B ≤ L → (∀ x ∈ S, x.1 < L) → OWp P B n ops rest Q (putE E o.dst (.pointer (some ⟨L, 0, none⟩))) ((L, cel (cellsOf v) t) :: S)) : OWp P B n ops (o :: rest) Q E S := OWp.step hg (Step.box hd ho hx h)
end
section
variable {α : Type} {a b c d x : α} {l t t' e g : List α}
theorem m0 : a ∈ a :: l := .head _
theorem m1 : a ∈ b :: a :: l := .tail _ m0
theorem m2 : a ∈ c :: b :: a :: l := .tail _ m1
theorem m3 : a ∈ d :: c :: b :: a :: l := .tail _ m2
theorem m4 : a ∈ x :: d :: c :: b :: a :: l := .tail _ m3
/-- An entry (a list of entries) is brought to the front. -/
theorem Pc (h : t.Perm (x :: t')) : (a :: t).Perm (x :: a :: t') := (h.cons a).trans (.swap ..)
theorem Pd (h : t.Perm (x :: t')) : (e ++ t).Perm (x :: (e ++ t')) := (h.append_left e).trans List.perm_middle
theorem Pe (h : t.Perm (e ++ t')) : (a :: t).Perm (e ++ (a :: t')) := (h.cons a).trans List.perm_middle.symm
theorem Pf (h : t.Perm (e ++ t')) : (g ++ t).Perm (e ++ (g ++ t')) := (h.append_left g).trans (List.perm_append_comm_assoc g e t')
theorem Pa (h : t.Perm t') : (e ++ t).Perm (e ++ t') := h.append_left e
end
end Go.Lg
