/- A layer over the weakest preconditions of the model: what is known of memory and of the slots, told by rules. -/
import Derived.Test.YtnjgekonoladfaaLgRules2
import Derived.Lib.ConvBytes
import Derived.Laws.Concat
import Derived.Laws.BytesString
import Derived.Laws.IdiomStrings
namespace Go.Lg
open Go.RowKit (Below)

/-- A string of bytes. -/
def str (l : List UInt8) : ByteArray := ⟨⟨l⟩⟩
theorem str_data (s : ByteArray) : str s.data.toList = s := rfl
theorem str_inj {a b : List UInt8} : str a = str b ↔ a = b := by simp [str]
theorem str_size (l : List UInt8) : (str l).size = l.length := rfl

/-- The cells of bytes. -/
def byteCells (l : List UInt8) : List Value := l.map fun b => .int .u8 b.toNat
theorem byteCells_length (l : List UInt8) : (byteCells l).length = l.length := by simp [byteCells]
theorem byteCells_one (l : List UInt8) : (byteCells l).all (·.oneCell') = true := by
  rw [List.all_eq_true]; intro x hx; simp [byteCells] at hx; obtain ⟨_, _, rfl⟩ := hx; rfl

section
variable {P : Program} {B n : Nat} {E : Env} {S : Ents} {o : Oper} {K : Env → Ents → Prop}

/-- s[i] of a string. -/
theorem Gives.indexStr {t : TypeId} {x y : Operand} {l : List UInt8} {k : IntKind} {j : Int} {b : UInt8} (ho : o.op = .index t x y)
    (hu : P.underlying t = some .string) (hx : opd E x = some (.string (str l))) (hy : opd E y = some (.int k j)) (hj : 0 ≤ j) (hb : l[j.toNat]? = some b) :
    Gives P n [] E o (.int .u8 b.toNat) := by
  intro a w hS hA
  obtain ⟨hlt, hv⟩ := List.getElem?_eq_some_iff.1 hb
  have hlt' : j < ((str l).size : Int) := by rw [str_size]; omega
  have := run_index_string (P := P) w t (str l) k j hu
  rw [dif_pos ⟨hj, hlt'⟩] at this
  simp only [execOp, ho, opd_sound hA hx, opd_sound hA hy, Sem.run_bind, this, Result.andThen_ok, Sem.run_pure]
  rw [show (str l)[j.toNat]'(by rw [str_size]; exact hlt) = b from hv]

/-- &xs[i] of a slice. -/
theorem Gives.indexAddrSlice {t e : TypeId} {x y : Operand} {b o' len cap sz : Nat} {k : IntKind} {j : Int} (i : Nat) (ho : o.op = .indexAddr t x y)
    (hu : P.underlying t = some (.slice e)) (hs : sizeOfT P e = some sz) (hx : opd E x = some (.slice (some ⟨b, o', none⟩) len cap)) (hy : opd E y = some (.int k j)) (hj : j = (i : Int)) (hlt : i < len) :
    Gives P n [] E o (.pointer (some ⟨b, o' + i * sz, none⟩)) := by
  intro a w hS hA
  subst hj
  simp [execOp, ho, opd_sound hA hx, opd_sound hA hy, Instr.indexAt, asIntOf, run_underlying hu, hlt, sizeOfT_run hs, Addr.add_lit]

/-- &a[i] of an array in memory. -/
theorem Gives.indexAddrArr {t e : TypeId} {x y : Operand} {b o' len sz : Nat} {k : IntKind} {j : Int} (i : Nat) (ho : o.op = .indexAddr t x y)
    (hu : P.underlying t = some (.array len e)) (hs : sizeOfT P e = some sz) (hx : opd E x = some (.pointer (some ⟨b, o', none⟩))) (hy : opd E y = some (.int k j)) (hj : j = (i : Int)) (hlt : i < len) :
    Gives P n [] E o (.pointer (some ⟨b, o' + i * sz, none⟩)) := by
  intro a w hS hA
  subst hj
  simp [execOp, ho, opd_sound hA hx, opd_sound hA hy, Instr.indexAt, asIntOf, run_underlying hu, hlt, sizeOfT_run hs, Addr.add_lit, Instr.sureAddr]

/-- a[i] of an array value. -/
theorem Gives.indexArr {t e : TypeId} {x y : Operand} {cs : List Value} {len sz : Nat} {k : IntKind} {j : Int} {v : Value} (i : Nat) (ho : o.op = .index t x y)
    (hu : P.underlying t = some (.array len e)) (hs : sizeOfT P e = some sz) (hx : opd E x = some (.agg cs.toArray)) (hy : opd E y = some (.int k j)) (hj : j = (i : Int)) (hlt : i < len) (hv : partAt P e cs (i * sz) = some v) :
    Gives P n [] E o v := by
  intro a w hS hA
  subst hj
  have := partAt_run (P := P) (cs := cs.toArray) (by simpa using hv) w
  simp [execOp, ho, opd_sound hA hx, opd_sound hA hy, Instr.index, asIntOf, run_underlying hu, hlt, sizeOfT_run hs, this]

/-- A bound of a slice expression. -/
def Bound (E : Env) (x : Option Operand) (d l : Nat) : Prop :=
  match x with
  | none => l = d
  | some y => ∃ k i, opd E y = some (.int k i) ∧ i = (l : Int)

theorem Bound.run {x : Option Operand} {d l : Nat} {a : Act} (hA : Agree E n a) (h : Bound E x d l) (w : World) (y : Nat) (hy : l ≤ y) (code : BoundsCode) :
    (match x.map a.eval with
      | some v => Instr.sliceBound v y code
      | none => Pure.pure d : Sem Nat).run P w = .ok l w := by
  cases x with
  | none => simp [Bound] at h; subst h; rfl
  | some z =>
    obtain ⟨k, i, hz, rfl⟩ := h
    simp [opd_sound hA hz, Instr.sliceBound, asIntOf, hy]

/-- s[lo:hi] of a string. -/
theorem Gives.sliceStr {t : TypeId} {x : Operand} {lo hi : Option Operand} {s : List UInt8} {l h' : Nat} (ho : o.op = .slice t x lo hi none)
    (hu : P.underlying t = some .string) (hx : opd E x = some (.string (str s))) (hlo : Bound E lo 0 l) (hhi : Bound E hi s.length h') (h1 : l ≤ h') (h2 : h' ≤ s.length) :
    Gives P n [] E o (.string (str ((s.drop l).take (h' - l)))) := by
  intro a w hS hA
  have e1 := hhi.run (P := P) hA w s.length h2 .sliceAlen
  have e2 := hlo.run (P := P) hA w h' h1 .sliceB
  have ex : (str s).extract l h' = str ((s.drop l).take (h' - l)) := by
    apply ByteArray.ext
    apply Array.ext'
    simp [str, ByteArray.data_extract, List.extract_eq_take_drop]
  have key : (Instr.sliceBounds false (str s).size (str s).size (lo.map a.eval) (hi.map a.eval) none).run P w = .ok (l, h', (str s).size) w := by
    simp only [Instr.sliceBounds, Sem.run_bind, Sem.run_pure, Result.andThen_ok, str_size]
    cases hi with
    | none =>
      simp only [Bound] at hhi; subst hhi
      cases lo with
      | none => simp only [Bound] at hlo; subst hlo; simp
      | some y => simp only [Option.map_some] at e2 ⊢; simp [e2]
    | some z =>
      simp only [Option.map_some] at e1 ⊢
      cases lo with
      | none => simp only [Bound] at hlo; subst hlo; simp [e1]
      | some y => simp only [Option.map_some] at e2 ⊢; simp [e1, e2]
  simp only [execOp, ho, opd_sound hA hx, Option.map_none, Instr.sliceAt, Sem.run_bind, run_underlying hu, Result.andThen_ok]
  simp only [Instr.slice, Sem.run_bind, run_underlying hu, Result.andThen_ok]
  simp [key, ex]

/-- xs[lo:hi] of a slice in memory. -/
theorem Gives.sliceSlice {t e : TypeId} {x : Operand} {lo hi : Option Operand} {b o' len cap sz l h' : Nat} (ho : o.op = .slice t x lo hi none)
    (hu : P.underlying t = some (.slice e)) (hs : sizeOfT P e = some sz) (hx : opd E x = some (.slice (some ⟨b, o', none⟩) len cap)) (hlo : Bound E lo 0 l) (hhi : Bound E hi len h') (h1 : l ≤ h') (h2 : h' ≤ cap) (h3 : l < cap ∨ l = 0) :
    Gives P n [] E o (.slice (some ⟨b, o' + l * sz, none⟩) (h' - l) (cap - l)) := by
  intro a w hS hA
  have e1 := hhi.run (P := P) hA w cap h2 .sliceAcap
  have e2 := hlo.run (P := P) hA w h' h1 .sliceB
  have key : (Instr.sliceBounds true len cap (lo.map a.eval) (hi.map a.eval) none).run P w = .ok (l, h', cap) w := by
    simp only [Instr.sliceBounds, Sem.run_bind, Sem.run_pure, Result.andThen_ok]
    cases hi with
    | none =>
      simp only [Bound] at hhi; subst hhi
      cases lo with
      | none => simp only [Bound] at hlo; subst hlo; simp
      | some y => simp only [Option.map_some] at e2 ⊢; simp [e2]
    | some z =>
      simp only [Option.map_some] at e1 ⊢
      cases lo with
      | none => simp only [Bound] at hlo; subst hlo; simp [e1]
      | some y => simp only [Option.map_some] at e2 ⊢; simp [e1, e2]
  simp only [execOp, ho, opd_sound hA hx, Option.map_none, Instr.sliceAt, Sem.run_bind, run_underlying hu, Result.andThen_ok]
  simp only [Instr.slice, Sem.run_bind, run_underlying hu, Result.andThen_ok, key, sizeOfT_run hs, Sem.run_pure]
  rcases h3 with h3 | rfl
  · rw [if_neg (by omega)]; simp [Addr.add_lit]
  · simp [Addr.add_lit]

/-- a[lo:hi] of an array in memory. -/
theorem Gives.sliceArr {t e : TypeId} {x : Operand} {lo hi : Option Operand} {b o' len sz l h' : Nat} (ho : o.op = .slice t x lo hi none)
    (hu : P.underlying t = some (.array len e)) (hs : sizeOfT P e = some sz) (hx : opd E x = some (.pointer (some ⟨b, o', none⟩))) (hlo : Bound E lo 0 l) (hhi : Bound E hi len h') (h1 : l ≤ h') (h2 : h' ≤ len) (h3 : l < len ∨ l = 0) :
    Gives P n [] E o (.slice (some ⟨b, o' + l * sz, none⟩) (h' - l) (len - l)) := by
  intro a w hS hA
  have e1 := hhi.run (P := P) hA w len h2 .sliceAlen
  have e2 := hlo.run (P := P) hA w h' h1 .sliceB
  have key : (Instr.sliceBounds false len len (lo.map a.eval) (hi.map a.eval) none).run P w = .ok (l, h', len) w := by
    simp only [Instr.sliceBounds, Sem.run_bind, Sem.run_pure, Result.andThen_ok]
    cases hi with
    | none =>
      simp only [Bound] at hhi; subst hhi
      cases lo with
      | none => simp only [Bound] at hlo; subst hlo; simp
      | some y => simp only [Option.map_some] at e2 ⊢; simp [e2]
    | some z =>
      simp only [Option.map_some] at e1 ⊢
      cases lo with
      | none => simp only [Bound] at hlo; subst hlo; simp [e1]
      | some y => simp only [Option.map_some] at e2 ⊢; simp [e1, e2]
  simp only [execOp, ho, opd_sound hA hx, Option.map_none, Instr.sliceAt, Sem.run_bind, run_underlying hu, Result.andThen_ok, Instr.sureAddr, key, sizeOfT_run hs, Sem.run_pure]
  rcases h3 with h3 | rfl
  · rw [if_neg (by omega)]; simp [Addr.add_lit]
  · simp [Addr.add_lit]

/-- + of two strings. -/
theorem Gives.addStr {t yt : TypeId} {x y : Operand} {s u : List UInt8} (ho : o.op = .binOp .add t x y yt)
    (hx : opd E x = some (.string (str s))) (hy : opd E y = some (.string (str u))) (hl : s.length + u.length ≤ 9223372036854775807) :
    Gives P n [] E o (.string (str (s ++ u))) := by
  intro a w hS hA
  have e : str s ++ str u = str (s ++ u) := by
    apply ByteArray.ext
    simp [str]
  have := run_string_add_sum (P := P) w (str s) (str u) (by rw [str_size, str_size]; exact hl)
  simp only [execOp, ho, opd_sound hA hx, opd_sound hA hy, eqGuard_at_string, pure_bind]
  rw [Sem.run_bind, show (binOp .add t (.string (str s)) (.string (str u))) = Op.stringOp .add (str s) (str u) from rfl, this, e]
  rfl

/-- string(bytes). -/
theorem Gives.bytesToStr {F : Ents} {s d e : TypeId} {x : Operand} {v : Value} {k : Nat} {l : List UInt8} (ho : o.op = .convert s d x)
    (hs : P.underlying s = some (.slice e)) (he : P.underlying e = some (.int .u8)) (hdd : P.underlying d = some .string) (hx : opd E x = some v) (hr : Reads F 1 v k (byteCells l)) :
    Gives P n F E o (.string (str l)) := by
  intro a w hS hA
  have hr' := hr
  obtain ⟨hl, hv⟩ := hr'
  have hlen : l.length = k := by simpa [byteCells] using hl
  have key : (convert s d v).run P w = .ok (.string (str l)) w := by
    rcases hv with ⟨⟨a', c', rfl⟩, rfl⟩ | ⟨b, o', cap, l', e', fz, rfl, hm, hle, hc⟩
    · have : l = [] := List.eq_nil_of_length_eq_zero hlen
      subst this
      rw [run_convert_bytes_string w s d e a' 0 c' hs he hdd]
      cases a' with
      | none => rfl
      | some a' =>
        rw [run_bytesToString (P := P) w a' 0 c' [] (by simp [loadCells, loadCellsFrom])]
        rfl
    · rw [run_convert_bytes_string w s d e _ _ _ hs he hdd]
      have hc' := hr.cells hS
      have h1 := run_loadCells_list (P := P) w ⟨b, o', none⟩ (byteCells l) hc'
      rw [byteCells_length, hlen] at h1
      have h2 := run_bytesToString (P := P) w ⟨b, o', none⟩ k cap (l.map fun b => (b.toNat : Int)) (by
        rw [h1]; simp [byteCells])
      rw [h2, foldl_push_byteCells]
      simp [str, ByteArray.empty, ByteArray.emptyWithCapacity]
      rfl
  simp only [execOp, ho, opd_sound hA hx, Sem.run_bind, key, Result.andThen_ok, Sem.run_pure]

end
end Go.Lg
