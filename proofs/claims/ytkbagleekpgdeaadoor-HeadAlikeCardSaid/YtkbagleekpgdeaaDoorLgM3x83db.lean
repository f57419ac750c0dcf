/- A layer over the weakest preconditions of the model: what is known of memory and of the slots, told by rules. -/
import Derived.Test.YtkbagleekpgdeaaDoorLgM2x164e
import Derived.Laws.BitsLemmas
import Derived.Lib.AppendStr
import Derived.Lib.FrozenHead
import Derived.Lib.UnsafeStr
import Derived.Lib.MakeNoZero
import Derived.Lib.Builder
import Derived.Scope
import Derived.RangeFuncRecord
import Derived.RangeFuncLeaves
import Derived.RangeFuncIn
import Derived.RangeFuncOwn
import Derived.TacticsIn
import Derived.MapKept
import Derived.Laws.Externs
namespace Go.Lg

theorem bits_xor_nat (k : IntKind) (j : Nat) (hj : j ≤ k.bits) (hk : ∀ n : Int, 0 ≤ n → n < 2 ^ j → k.wrap n = n) (a b : Nat) (ha : a < 2 ^ j) (hb : b < 2 ^ j) :
    bits .xor k a b = ((a ^^^ b : Nat) : Int) := by
  have hp : 2 ^ j ≤ 2 ^ k.bits := Nat.pow_le_pow_right (by decide) hj
  have ha' : a % 2 ^ k.bits = a := Nat.mod_eq_of_lt (Nat.lt_of_lt_of_le ha hp)
  have hb' : b % 2 ^ k.bits = b := Nat.mod_eq_of_lt (Nat.lt_of_lt_of_le hb hp)
  have cast : ∀ n : Nat, n < 2 ^ j → ((n : Nat) : Int) < 2 ^ j := fun n h => by exact_mod_cast h
  simp only [bits, BitVec.ofInt_natCast, BitVec.toNat_xor, BitVec.toNat_ofNat, ha', hb']
  exact hk _ (Int.natCast_nonneg _) (cast _ (Nat.xor_lt_two_pow ha hb))

theorem wraps_u32 (n : Int) (h₀ : 0 ≤ n) (h₁ : n < 2 ^ 32) : IntKind.u32.wrap n = n := by rw [IntKind.wrap_u32]; omega
theorem wraps_u64 (n : Int) (h₀ : 0 ≤ n) (h₁ : n < 2 ^ 64) : IntKind.u64.wrap n = n := by rw [IntKind.wrap_u64]; omega
theorem wraps_i63 (n : Int) (h₀ : 0 ≤ n) (h₁ : n < 2 ^ 63) : IntKind.i64.wrap n = n := by rw [IntKind.wrap_i64]; omega

section
variable {a b : Nat}
theorem u32_xor (ha : a < 4294967296) (hb : b < 4294967296) : bits .xor .u32 a b = ((a ^^^ b : Nat) : Int) := bits_xor_nat .u32 32 (by decide) wraps_u32 a b ha hb
theorem u32_and (ha : a < 4294967296) (hb : b < 4294967296) : bits .and .u32 a b = ((a &&& b : Nat) : Int) := (bits_nat .u32 32 (by decide) wraps_u32 a b ha hb).1
theorem u32_or (ha : a < 4294967296) (hb : b < 4294967296) : bits .or .u32 a b = ((a ||| b : Nat) : Int) := (bits_nat .u32 32 (by decide) wraps_u32 a b ha hb).2
theorem u8_xor (ha : a < 256) (hb : b < 256) : bits .xor .u8 a b = ((a ^^^ b : Nat) : Int) := bits_xor_nat .u8 8 (by decide) wraps_u8 a b ha hb
theorem u64_and (ha : a < 18446744073709551616) (hb : b < 18446744073709551616) : bits .and .u64 a b = ((a &&& b : Nat) : Int) := (bits_nat .u64 64 (by decide) wraps_u64 a b ha hb).1
theorem u64_or (ha : a < 18446744073709551616) (hb : b < 18446744073709551616) : bits .or .u64 a b = ((a ||| b : Nat) : Int) := (bits_nat .u64 64 (by decide) wraps_u64 a b ha hb).2
theorem i63_xor (ha : a < 9223372036854775808) (hb : b < 9223372036854775808) : bits .xor .i64 a b = ((a ^^^ b : Nat) : Int) := bits_xor_nat .i64 63 (by decide) wraps_i63 a b ha hb
theorem i63_or (ha : a < 9223372036854775808) (hb : b < 9223372036854775808) : bits .or .i64 a b = ((a ||| b : Nat) : Int) := (bits_nat .i64 63 (by decide) wraps_i63 a b ha hb).2
theorem i63_and (ha : a < 9223372036854775808) (hb : b < 9223372036854775808) : bits .and .i64 a b = ((a &&& b : Nat) : Int) := (bits_nat .i64 63 (by decide) wraps_i63 a b ha hb).1
theorem xor_lt32 (ha : a < 4294967296) (hb : b < 4294967296) : a ^^^ b < 4294967296 := Nat.xor_lt_two_pow (n := 32) ha hb
theorem or_lt32 (ha : a < 4294967296) (hb : b < 4294967296) : a ||| b < 4294967296 := Nat.or_lt_two_pow (n := 32) ha hb
theorem and_lt32 (hb : b < 4294967296) : a &&& b < 4294967296 := Nat.and_lt_two_pow (n := 32) a hb
end

/-- A word turned: what is pushed out comes in at the other end. -/
theorem u32_turn {x n m : Nat} (hx : x < 4294967296) (hn : n ≤ 32) (hm : n + m = 32) :
    bits .or .u32 (IntKind.u32.wrap ((x : Int) * 2 ^ (min n IntKind.u32.bits))) ((x : Int).fdiv (2 ^ (min m IntKind.u32.bits))) = ((x * 2 ^ n % 4294967296 + x / 2 ^ m : Nat) : Int) := by
  have hb : IntKind.u32.bits = 32 := rfl
  have e1 : min n 32 = n := by omega
  have e2 : min m 32 = m := by omega
  rw [hb, e1, e2, IntKind.wrap_u32]
  have p1 : (x : Int) * 2 ^ n % 4294967296 = ((x * 2 ^ n % 4294967296 : Nat) : Int) := by simp
  have p2 : (x : Int).fdiv (2 ^ m) = ((x / 2 ^ m : Nat) : Int) := by
    rw [Int.fdiv_eq_ediv_of_nonneg _ (by exact Int.le_of_lt (Int.pow_pos (by decide)))]
    simp
  rw [p1, p2]
  have hlt : x / 2 ^ m < 2 ^ n := by
    rw [Nat.div_lt_iff_lt_mul (Nat.two_pow_pos m), ← Nat.pow_add, hm]; exact hx
  have hle : x / 2 ^ m < 4294967296 := Nat.lt_of_le_of_lt (Nat.div_le_self _ _) hx
  have hmod : x * 2 ^ n % 4294967296 % 2 ^ n = 0 := by
    have : (4294967296 : Nat) = 2 ^ n * 2 ^ m := by rw [← Nat.pow_add, hm]
    rw [this, Nat.mod_mul_right_mod, Nat.mul_mod_left]
  have hz := Nat.mod_lt (x * 2 ^ n) (show 4294967296 > 0 by decide)
  generalize x * 2 ^ n % 4294967296 = z at *
  generalize x / 2 ^ m = y at *
  rw [bits_join .u32 32 (by decide) wraps_u32 n _ _ (by omega) (by exact_mod_cast hmod) (by omega) (by omega) (by exact_mod_cast hlt) (by omega)]
  omega

theorem Gives.shl {P : Program} {n : Nat} {E : Env} {o : Oper} {t yt : TypeId} {x y : Operand} {k k' : IntKind} {a j : Int} {m : Nat} (ho : o.op = .binOp .shl t x y yt) (hx : opd E x = some (.int k a)) (hy : opd E y = some (.int k' j)) (hj : j = (m : Int)) :
    Gives P n [] E o (.int k (k.wrap (a * 2 ^ (min m k.bits)))) := by
  subst hj
  intro a' w _ hA
  have := bin_sound (P := P) (op := .shl) (t := t) (u := .int k a) (v := .int k' (m : Int)) (r := .int k (k.wrap (a * 2 ^ (min m k.bits)))) x y rfl w
  simp only [execOp, ho, opd_sound hA hx, opd_sound hA hy]
  rw [Sem.run_bind] at this ⊢
  simp only [Sem.run_bind] at this ⊢
  generalize hg : (eqGuard BinOp.shl t x y (Value.int k a) (Value.int k' ↑m)).run P w = r at this ⊢
  cases r with
  | ok u w' =>
    simp only [Result.andThen_ok] at this ⊢
    rw [this]; rfl
  | halt h w' => simp [Result.andThen] at this
theorem Gives.shr {P : Program} {n : Nat} {E : Env} {o : Oper} {t yt : TypeId} {x y : Operand} {k k' : IntKind} {a j : Int} {m : Nat} (ho : o.op = .binOp .shr t x y yt) (hx : opd E x = some (.int k a)) (hy : opd E y = some (.int k' j)) (hj : j = (m : Int)) :
    Gives P n [] E o (.int k (a.fdiv (2 ^ (min m k.bits)))) := by
  subst hj
  intro a' w _ hA
  have := bin_sound (P := P) (op := .shr) (t := t) (u := .int k a) (v := .int k' (m : Int)) (r := .int k (a.fdiv (2 ^ (min m k.bits)))) x y rfl w
  simp only [execOp, ho, opd_sound hA hx, opd_sound hA hy]
  simp only [Sem.run_bind] at this ⊢
  generalize hg : (eqGuard BinOp.shr t x y (Value.int k a) (Value.int k' ↑m)).run P w = r at this ⊢
  cases r with
  | ok u w' =>
    simp only [Result.andThen_ok] at this ⊢
    rw [this]; rfl
  | halt h w' => simp [Result.andThen] at this
theorem Reads.form {S : Ents} {sz k : Nat} {v : Value} {xs : List Value} (h : Reads S sz v k xs) : ∃ a c, v = .slice a k c := by
  obtain ⟨_, ⟨⟨a, c, h⟩, rfl⟩ | ⟨b, o, cap, l, e, fz, hv, _⟩⟩ := h
  · exact ⟨a, c, h⟩
  · exact ⟨_, _, hv⟩

theorem Reads.get1 {S : Ents} {v : Value} {xs : List Value} {k : Nat} (h : Reads S 1 v k xs) (h0 : 0 < k) :
    ∃ b o cap l e fz, v = .slice (some ⟨b, o, none⟩) k cap ∧ (b, cel l e fz) ∈ S ∧ o + k ≤ l.length ∧ ∀ i, i < k → l[o + i * 1]? = xs[i]? := by
  obtain ⟨hl, ⟨_, hk⟩ | ⟨b, o, cap, l, e, fz, hv, hm, hle, hx⟩⟩ := h
  · omega
  · refine ⟨b, o, cap, l, e, fz, hv, hm, by omega, fun i hi => ?_⟩
    rw [← hx, List.getElem?_take, if_pos (by omega), List.getElem?_drop, Nat.mul_one]
end Go.Lg

namespace Go.Lg
open Go.RowKit (Below)

/-- A builder's bytes: nil, or a row of the call's own whose head strings may share. -/
def OwnF (B : Nat) (e : TypeId) (v : Value) (xs : List UInt8) (es : Ents) : Prop :=
  (v = .slice none 0 0 ∧ xs = [] ∧ es = []) ∨
  ∃ b cap g fz, v = .slice (some ⟨b, 0, none⟩) xs.length cap ∧ es = [(b, cel (byteCells xs ++ g) e fz)] ∧ B ≤ b ∧ fz.2 ≤ xs.length ∧ 0 < cap ∧ cap ≤ maxLen ∧ xs.length + g.length = cap

theorem OwnF.nil (B : Nat) (e : TypeId) : OwnF B e (.slice none 0 0) [] [] := .inl ⟨rfl, rfl, rfl⟩

theorem strCells_str (s : List UInt8) : Lib.strCells (str s) = byteCells s := by
  simp [Lib.strCells, byteCells, str]

theorem byteCells_append (a b : List UInt8) : byteCells (a ++ b) = byteCells a ++ byteCells b := by simp [byteCells]

theorem Own.toF {B : Nat} {e : TypeId} {v : Value} {xs : List UInt8} {es : Ents} (h : Own B e 1 v xs.length (byteCells xs) es) (hn : xs = [] → v = .slice none 0 0) : OwnF B e v xs es := by
  obtain ⟨_, ⟨h1, h2, h3⟩ | ⟨b, cap, cur, h1, h2, h3, h4, h5, h6, h7⟩⟩ := h
  · exact .inl ⟨h1, List.eq_nil_of_length_eq_zero h2, h3⟩
  · have hne : xs ≠ [] := fun e' => by have := hn e'; rw [h1] at this; cases this
    have hl : 0 < xs.length := List.length_pos_iff.2 hne
    refine .inr ⟨b, cap, cur.drop xs.length, (0, 0), h1, ?_, h3, Nat.zero_le _, by omega, h5, by rw [List.length_drop]; omega⟩
    rw [h2]
    rw [Nat.mul_one] at h7
    rw [← h7, List.take_append_drop]

theorem sub1 {x : Nat × Obj} {R : Ents} : ∀ y ∈ [x], y ∈ x :: R := fun y h => by rw [List.mem_singleton] at h; rw [h]; exact .head _

section
variable {P : Program} {B n : Nat} {E : Env} {S : Ents} {o : Oper} {K : Env → Ents → Prop}

theorem appendF_core {t u ty e : TypeId} {i : TypeInfo} (ht : P.underlying t = some (.slice e)) (hu : P.underlying u = some .string) (hi : P.info? e = some i) (hz : i.zero = some (.int .u8 0)) (hs : i.size = 1) (hb : i.bytes = 1)
    {v : Value} {xs s : List UInt8} {es R : Ents} {w : World} (hS : Sim B (es ++ R) w) (ho : OwnF B e v xs es) (hl : xs.length + s.length ≤ 140737488355328) :
    ∃ v' w' es', (Builtin.append_ #[t, u] ty #[v, .string (str s)]).run P w = .ok v' w' ∧ OwnF B e v' (xs ++ s) es' ∧ Sim B (es' ++ R) w' ∧ Below B w w' := by
  have hR : Sim B R w := hS.sublist (List.sublist_append_right es R)
  have hm : maxLen = 9223372036854775807 := rfl
  have hsz : (str s).size = s.length := rfl
  rcases ho with ⟨rfl, rfl, rfl⟩ | ⟨b, cap, g, fz, rfl, rfl, hB, hfz, h0, hcm, hcl⟩
  · obtain ⟨v', w', hrun, ho, hg, hn⟩ := Lib.run_append_own_string (P := P) w w.heap.size t u ty e i ht hu hi hz hs hb (.slice none 0 0) 0 [] (World.ownsRow_nil w _ e 1) (str s) (by rw [hsz, hm]; simp at hl; omega) (by rw [hsz]; simpa using hl) (Nat.le_refl _)
    obtain ⟨es', h1, h2⟩ := Own.of_new hR ho hg
    rw [hsz, strCells_str, Nat.zero_add, List.nil_append] at h1
    exact ⟨v', w', es', hrun, h1.toF (fun e' => hn.2 ⟨rfl, by rw [hsz, e']; rfl⟩), h2, below_grown hR.base hg⟩
  · have hgb : w.heap[b]? = some (.cells (byteCells xs ++ g).toArray e fz) := hS.holds (b, cel (byteCells xs ++ g) e fz) (by simp)
    by_cases hroom : xs.length + s.length ≤ cap
    · have hrun := Lib.run_append_room_stringF (P := P) w t u ty e i ht hu hi hs b xs.length cap (byteCells xs ++ g).toArray fz hgb hfz (str s) (by rw [hsz]; exact hroom) (by rw [hsz]; simp only [List.size_toArray, List.length_append, byteCells_length]; omega)
      have hlist : List.take xs.length (byteCells xs ++ g) ++ Lib.strCells (str s) ++ List.drop (xs.length + s.length) (byteCells xs ++ g) = byteCells (xs ++ s) ++ g.drop s.length := by
        have hx : (byteCells xs).length = xs.length := byteCells_length xs
        rw [strCells_str, byteCells_append, ← hx, List.take_left, List.drop_length_add_append]
      rw [hsz] at hrun
      simp only [] at hrun
      rw [hlist] at hrun
      refine ⟨_, _, [(b, cel (byteCells (xs ++ s) ++ g.drop s.length) e fz)], hrun, .inr ⟨b, cap, g.drop s.length, fz, by rw [List.length_append], rfl, hB, by rw [List.length_append]; omega, h0, hcm, by rw [List.length_append, List.length_drop]; omega⟩, ?_, ?_⟩
      · refine Sim.turn (i := 0) (b := b) hS rfl rfl hB ?_ (fun q hq => setRow_other w b q _ hq) (by simp)
        simpa [cel] using setRow_heap w b _ _ e fz hgb
      · exact below_setRow hB _
    · have holds : ∀ j u, (byteCells xs)[j]? = some u → w.cell? ((⟨b, 0, none⟩ : Addr).add j) = some u := by
        intro j u hj
        rw [Addr.add_lit]
        have hlt : j < (byteCells xs).length := (List.getElem?_eq_some_iff.1 hj).1
        simp only [World.cell?, hgb, Nat.zero_add]
        rw [List.getElem?_toArray, List.getElem?_append_left hlt, hj]; rfl
      have hrun := Lib.run_append_grow_string (P := P) w t u ty e i (.int .u8 0) ht hu hi hz ⟨b, 0, none⟩ xs.length cap (byteCells xs) (by rw [hs, byteCells_length, Nat.mul_one]) holds (str s) (by rw [hsz]; omega) (by rw [hsz]; omega) (by rw [hb, hsz]; exact growslice_fits (by omega) (by omega))
      rw [hsz] at hrun
      have hge := grownCap_ge w (xs.length + s.length) cap e
      have hcm2 : grownCap w (xs.length + s.length) cap e ≤ maxLen := grownCap_le_maxLen w (xs.length + s.length) cap e (by rw [hm]; omega)
      have hcells : (byteCells xs).toArray ++ (Lib.strCells (str s)).toArray ++ Builtin.zeroCells (Value.int .u8 0).cells (grownCap w (xs.length + s.length) cap e - (xs.length + s.length)) =
          (byteCells (xs ++ s) ++ (Builtin.zeroCells (Value.int .u8 0).cells (grownCap w (xs.length + s.length) cap e - (xs.length + s.length))).toList).toArray := by
        apply Array.ext'
        rw [strCells_str, byteCells_append]
        simp
      rw [hcells] at hrun
      have hg : w.grownBy (w.drew.alloc (.cells (byteCells (xs ++ s) ++ (Builtin.zeroCells (Value.int .u8 0).cells (grownCap w (xs.length + s.length) cap e - (xs.length + s.length))).toList).toArray e)) none :=
        ⟨rfl, rfl, rfl, by simp, fun k hk _ => heap_alloc_old w.drew _ hk⟩
      have hz1 : (Value.int IntKind.u8 0).cells.size = 1 := rfl
      refine ⟨_, _, [(w.heap.size, cel (byteCells (xs ++ s) ++ (Builtin.zeroCells (Value.int .u8 0).cells (grownCap w (xs.length + s.length) cap e - (xs.length + s.length))).toList) e)], hrun,
        .inr ⟨w.heap.size, _, _, (0, 0), by rw [List.length_append], rfl, hR.base, Nat.zero_le _, by omega, hcm2, ?_⟩, hR.grow rfl (heap_alloc_new w.drew _) (fun k hk => heap_alloc_old w.drew _ hk) (by simp), below_grown hR.base hg⟩
      simp only [List.length_append, Array.length_toList, size_zeroCells, hz1]
      omega

/-- append(bytes, s...). -/
theorem Step.appendF {t u e : TypeId} {i : TypeInfo} {x y : Operand} {v : Value} {xs s : List UInt8} {es R : Ents}
    (hd : dstOk n o.dst = true) (ho : o.op = .call ⟨.builtin .append, #[x, y], #[t, u]⟩)
    (ht : P.underlying t = some (.slice e)) (hu : P.underlying u = some .string) (hi : P.info? e = some i) (hz : i.zero = some (.int .u8 0)) (hs : i.size = 1) (hb : i.bytes = 1)
    (hx : opd E x = some v) (hy : opd E y = some (.string (str s))) (hSR : ∀ w, Sim B S w → Sim B (es ++ R) w) (hown : OwnF B e v xs es) (hl : xs.length + s.length ≤ 140737488355328)
    (h : ∀ v' es', OwnF B e v' (xs ++ s) es' → K (putE E o.dst v') (es' ++ R)) : Step P B n o K E S := by
  intro a w hS hA
  unfold Oper.wp
  obtain ⟨v', w', es', hrun, hown', hS', hb⟩ := appendF_core (P := P) (ty := o.type) ht hu hi hz hs hb (hSR w hS) hown hl
  have hr : (execOp a.eval o).run P w = .ok (.value v') w' := by
    simp [execOp, ho, resolve, invoke, builtin, opd_sound hA hx, opd_sound hA hy, hrun]
  rw [hr]
  exact ⟨hb, _, _, hS', hA.putE hd _, h v' es' hown'⟩

/-- unsafe.SliceData of a builder's bytes. -/
theorem Step.sliceData {ts : Array TypeId} {x : Operand} {v : Value} {a c : Nat} {q : Option Addr} (hd : dstOk n o.dst = true) (ho : o.op = .call ⟨.builtin .unsafeSliceData, #[x], ts⟩)
    (hx : opd E x = some v) (hv : v = .slice q a c) (hq : q = none ∨ 0 < c) (h : K (putE E o.dst (.pointer q)) S) : Step P B n o K E S := by
  subst hv
  intro a' w hS hA
  unfold Oper.wp
  have hr : (execOp a'.eval o).run P w = .ok (.value (.pointer q)) w := by
    have : (Builtin.unsafeSliceData_ ts o.type #[.slice q a c]).run P w = .ok (.pointer q) w := by
      cases q with
      | none => exact Lib.run_unsafeSliceData_nil (P := P) w ts o.type a c
      | some q => exact Lib.run_unsafeSliceData_row (P := P) w ts o.type q a c (by rcases hq with h | h; · cases h
                                                                                   · omega)
    simp [execOp, ho, resolve, invoke, builtin, opd_sound hA hx, this]
  rw [hr]
  exact ⟨Below.refl B w, _, _, hS, hA.putE hd _, h⟩

def fzHead (fz : Nat × Nat) (k : Nat) : Nat × Nat := if fz.1 == fz.2 then (0, k) else (min fz.1 0, max fz.2 k)

theorem freeze_heap {w : World} {b k : Nat} {l : List Value} {e : TypeId} {fz : Nat × Nat} (hg : w.heap[b]? = some (cel l e fz)) (hk : k ≠ 0) : (w.freeze ⟨b, 0, none⟩ k).heap[b]? = some (cel l e (fzHead fz k)) := by
  obtain ⟨f1, f2⟩ := fz
  simp only [World.freeze, if_neg hk, Array.getElem?_modify, hg, if_pos]
  simp [cel, fzHead]

/-- unsafe.String of a builder's bytes. -/
theorem Step.unsafeStr {pt it e : TypeId} {x y : Operand} {v : Value} {q : Option Addr} {cap : Nat} {xs : List UInt8} {es R : Ents}
    (hd : dstOk n o.dst = true) (ho : o.op = .call ⟨.builtin .unsafeString, #[x, y], #[pt, it]⟩) (hp : P.underlying pt = some (.pointer e)) (hc : P.cellsOf e = 1)
    (hx : opd E x = some (.pointer q)) (hy : opd E y = some (.int .i64 xs.length)) (hv : v = .slice q xs.length cap) (hSR : ∀ w, Sim B S w → Sim B (es ++ R) w) (hown : OwnF B e v xs es)
    (h : ∀ es', OwnF B e v xs es' → K (putE E o.dst (.string (str xs))) (es' ++ R)) : Step P B n o K E S := by
  intro a w hS hA
  unfold Oper.wp
  have hS := hSR w hS
  have hm : maxLen = 9223372036854775807 := rfl
  by_cases hx0 : xs = []
  · subst hx0
    have hr : (execOp a.eval o).run P w = .ok (.value (.string (str []))) w := by
      have : (Builtin.unsafeString_ #[pt, it] o.type #[.pointer q, .int .i64 0]).run P w = .ok (.string (str [])) w := Lib.run_unsafeString_none (P := P) w pt it o.type q
      simp [execOp, ho, resolve, invoke, builtin, opd_sound hA hx, opd_sound hA hy, this]
    rw [hr]
    exact ⟨Below.refl B w, _, _, hS, hA.putE hd _, h es hown⟩
  · have hown' := hown
    rcases hown with ⟨rfl, rfl, rfl⟩ | ⟨b, cap', g, fz, rfl, rfl, hB, hfz, h0, hcm, hcl⟩
    · exact absurd rfl hx0
    · cases hv
      have hgb : w.heap[b]? = some (cel (byteCells xs ++ g) e fz) := hS.holds (b, cel (byteCells xs ++ g) e fz) (by simp)
      have hk : xs.length ≠ 0 := fun e => hx0 (List.eq_nil_of_length_eq_zero e)
      have hcell : ∀ j x, xs[j]? = some x → w.cell? ((⟨b, 0, none⟩ : Addr).add j) = some (.int .u8 x.toNat) := by
        intro j x hj
        rw [Addr.add_lit]
        have hlt : j < xs.length := (List.getElem?_eq_some_iff.1 hj).1
        have e1 : (byteCells xs ++ g)[j]? = some (.int .u8 x.toNat) := by
          rw [List.getElem?_append_left (by rw [byteCells_length]; exact hlt)]
          simp [byteCells, hj]
        simp only [World.cell?, hgb, cel, Nat.zero_add]
        rw [List.getElem?_toArray, e1]; rfl
      have hrun := Lib.run_unsafeString_row (P := P) w pt it o.type e hp hc b (byteCells xs ++ g).length (by simp [World.shape?, hgb, cel]) xs hx0 (by rw [List.length_append, byteCells_length]; omega) (by rw [hm] at hcm; omega) hcell
      have hr : (execOp a.eval o).run P w = .ok (.value (.string (str xs))) (w.freeze ⟨b, 0, none⟩ xs.length) := by
        simp [execOp, ho, resolve, invoke, builtin, opd_sound hA hx, opd_sound hA hy, hrun, str]
      rw [hr]
      refine ⟨Lib.below_freeze (Below.refl B w) hB _, _, _, ?_, hA.putE hd _, h [(b, cel (byteCells xs ++ g) e (fzHead fz xs.length))] (.inr ⟨b, cap, g, _, rfl, rfl, hB, ?_, h0, hcm, hcl⟩)⟩
      · refine Sim.turn (i := 0) (b := b) hS rfl rfl hB (freeze_heap hgb hk) (fun q hq => ?_) (by unfold World.freeze; rw [if_neg hk]; simp)
        simp only [World.freeze, if_neg hk, Array.getElem?_modify]
        rw [if_neg (Ne.symm hq)]
      · unfold fzHead; split
        · exact Nat.le_refl _
        · simp only; omega

/-- A call of a function that the model itself has. -/
theorem Step.ext {c : Call} {f : FuncId} {fn : Func} {cap : Array Value} {x : Operand} {vs : List Value} {e : Array Value → Sem Value} (hd : dstOk n o.dst = true)
    (ho : o.op = .call c) (hc : c.callee = .value x) (hx : opd E x = some (.func (.func f) #[] cap)) (hvs : opds E c.args.toList = some vs)
    (hf : P.funcs[f]? = some fn) (hname : (fn.name == "runtime.NumGoroutine") = false) (hb : fn.body.isNone = true) (hn : Extern.findNext fn = none) (he : Extern.find fn = some e)
    (h : ∀ w, Sim B S w → ∃ v w' S', (e (vs ++ cap.toList).toArray).run P w = .ok v w' ∧ Below B w w' ∧ Sim B S' w' ∧ K (putE E o.dst v) S') : Step P B n o K E S := by
  intro a w hS hA
  unfold Oper.wp
  have hargs : c.args.map a.eval = vs.toArray := by
    apply Array.ext'
    simpa using opds_sound hA hvs
  obtain ⟨v, w', S', h1, h2, h3, h4⟩ := h w hS
  have e1 : (execOp a.eval o).run P w = .ok (.value v) w' := by
    have hh : execOp a.eval o = callFunc f (vs.toArray ++ cap) := by
      simp [execOp, ho, resolve, hc, opd_sound hA hx, Deferred.ofValue, hargs, invoke]
    have e2 : (vs.toArray ++ cap) = (vs ++ cap.toList).toArray := by
      apply Array.ext'
      simp
    rw [hh, e2, run_callFunc_extern hf hname hb hn he, h1]
    rfl
  rw [e1]
  exact ⟨h2, _, _, h3, hA.putE hd v, h4⟩

/-- abi.NoEscape. -/
theorem Step.noEscape {c : Call} {f : FuncId} {fn : Func} {x : Operand} {v : Value} (hd : dstOk n o.dst = true)
    (ho : o.op = .call c) (hc : c.callee = .value x) (hx : opd E x = some (.func (.func f) #[] #[])) (hvs : opds E c.args.toList = some [v])
    (hf : P.funcs[f]? = some fn) (hname : (fn.name == "runtime.NumGoroutine") = false) (hb : fn.body.isNone = true) (hn : Extern.findNext fn = none) (he : Extern.find fn = some Extern.AbiNoEscape.same)
    (h : K (putE E o.dst v) S) : Step P B n o K E S :=
  Step.ext hd ho hc hx hvs hf hname hb hn he fun w hS => ⟨v, w, S, Lib.run_noEscape (P := P) w v, Below.refl B w, hS, h⟩

/-- bytealg.MakeNoZero: a new row of bytes of which nothing is known. -/
theorem Step.makeNoZero {c : Call} {f : FuncId} {fn : Func} {x : Operand} {k : Nat} {ps : Array TypeId} {t e : TypeId} (hd : dstOk n o.dst = true)
    (ho : o.op = .call c) (hc : c.callee = .value x) (hx : opd E x = some (.func (.func f) #[] #[])) {m : Int} (hvs : opds E c.args.toList = some [.int .i64 m]) (hmk : m = (k : Int))
    (hf : P.funcs[f]? = some fn) (hname : (fn.name == "runtime.NumGoroutine") = false) (hb : fn.body.isNone = true) (hn : Extern.findNext fn = none) (he : Extern.find fn = some (Extern.BytealgMakeNoZero.makeNoZero ps #[t]))
    (ht : P.underlying t = some (.slice e)) (hk : k ≤ 281474976710656)
    (h : ∀ L cs, B ≤ L → (∀ x ∈ S, x.1 < L) → k ≤ cs.length → cs.length ≤ maxLen → K (putE E o.dst (.slice (some ⟨L, 0, none⟩) k cs.length)) ((L, cel cs e) :: S)) : Step P B n o K E S := by
  subst hmk
  refine Step.ext hd ho hc hx hvs hf hname hb hn he fun w hS => ?_
  obtain ⟨cs, hr, h1, h2⟩ := Lib.run_makeNoZero (P := P) w ps t e ht k hk
  have hm : maxLen = 9223372036854775807 := rfl
  refine ⟨_, _, _, hr, ⟨rfl, rfl, rfl, by simp, fun j hj => ?_⟩, ?_, h w.heap.size cs.toList hS.base (fun x hx => hS.lt hx) (by simpa using h1) (by simpa using h2 (by rw [hm]; omega))⟩
  · exact heap_alloc_old w.drew.drew _ (Nat.lt_of_lt_of_le hj hS.base)
  · exact hS.grow rfl (by simpa [cel] using heap_alloc_new w.drew.drew (.cells cs e)) (fun j hj => heap_alloc_old w.drew.drew _ hj) (by simp)

/-- A pointer as an unsafe.Pointer. -/
theorem Gives.toUnsafe {src dst t e : TypeId} {x : Operand} {j : TypeInfo} {b o' : Nat} {l : List Value} {fz : Nat × Nat} (ho : o.op = .convert src dst x) (hx : opd E x = some (.pointer (some ⟨b, o', none⟩)))
    (hs : P.underlying src = some (.pointer t)) (hd : P.underlying dst = some .unsafePointer) (ht : P.info? t = some j) (hj : j.size ≠ 0) (hoff : o' < l.length) :
    Gives P n [(b, cel l e fz)] E o (.pointer (some ⟨b, o', none⟩)) := by
  intro a w hF hA
  have hg := hF (b, cel l e fz) (by simp)
  have := Lib.run_to_unsafe (P := P) w (src := src) (dst := dst) (e := e) (cells := l.length) ⟨b, o', none⟩ hs hd ht hj (by simp [World.shape?, hg, cel]) hoff
  simp only [execOp, ho, opd_sound hA hx, Sem.run_bind, this, Result.andThen_ok, Sem.run_pure]

theorem Gives.ofUnsafe {src dst u e : TypeId} {x : Operand} {j : TypeInfo} {b o' : Nat} {l : List Value} {fz : Nat × Nat} (ho : o.op = .convert src dst x) (hx : opd E x = some (.pointer (some ⟨b, o', none⟩)))
    (hs : P.underlying src = some .unsafePointer) (hd : P.underlying dst = some (.pointer u)) (hu : P.info? u = some j) (hl : liesAt P P.depth e (l.length / P.cellsOf e) o' u 1 = true) :
    Gives P n [(b, cel l e fz)] E o (.pointer (some ⟨b, o', none⟩)) := by
  intro a w hF hA
  have hg := hF (b, cel l e fz) (by simp)
  have := Lib.run_from_unsafe (P := P) w (src := src) (dst := dst) (e := e) (cells := l.length) ⟨b, o', none⟩ hs hd hu (by simp [World.shape?, hg, cel]) hl
  simp only [execOp, ho, opd_sound hA hx, Sem.run_bind, this, Result.andThen_ok, Sem.run_pure]
/-- A pointer against itself. -/
theorem Gives.neqSame {tp te yt : TypeId} {x y : Operand} {j : TypeInfo} {q : Addr} (ho : o.op = .binOp .neq tp x y yt) (hx : opd E x = some (.pointer (some q))) (hy : opd E y = some (.pointer (some q)))
    (hp : P.underlying tp = some (.pointer te)) (hj : P.info? te = some j) : Gives P n [] E o (.bool false) := by
  intro a w _ hA
  have h := Lib.run_neq_ptr_same (P := P) w q hp hj
  unfold execOp
  rw [ho]
  simp only [opd_sound hA hx, opd_sound hA hy]
  rw [eqGuard_at_pointer]
  simp only [pure_bind, Sem.run_bind, h, Result.andThen_ok, Sem.run_pure]
/-- copy(bytes, nil). -/
theorem Step.copyNone {dT sT elem : TypeId} {x y : Operand} {q : Option Addr} {l c : Nat} {sz : Nat} (hd : dstOk n o.dst = true) (ho : o.op = .call ⟨.builtin .copy, #[x, y], #[dT, sT]⟩)
    (hu : P.underlying dT = some (.slice elem)) (hs : sizeOfT P elem = some sz) (hx : opd E x = some (.slice q l c)) (hy : opd E y = some (.slice none 0 0)) (h : K (putE E o.dst (.int .i64 0)) S) : Step P B n o K E S := by
  intro a w hS hA
  unfold Oper.wp
  have hr : (execOp a.eval o).run P w = .ok (.value (.int .i64 0)) w := by
    have hcopy : (Builtin.copy_ #[dT, sT] o.type #[.slice q l c, .slice none 0 0]).run P w = .ok (.int .i64 0) w := by
      have h1 := sizeOfT_run hs w
      cases q with
      | none => simp [Builtin.copy_, run_underlying hu, Builtin.lenOf, Builtin.firstCells, h1, goInt]
      | some q => simp [Builtin.copy_, run_underlying hu, Builtin.lenOf, Builtin.firstCells, h1, goInt, storeCells]
    simp [execOp, ho, resolve, invoke, builtin, opd_sound hA hx, opd_sound hA hy, hcopy]
  rw [hr]
  exact ⟨Below.refl B w, _, _, hS, hA.putE hd _, h⟩

theorem Gives.cap {x : Operand} {t elem : TypeId} {q : Option Addr} {l c : Nat} (ho : o.op = .call ⟨.builtin .cap, #[x], #[t]⟩) (hu : P.underlying t = some (.slice elem)) (hx : opd E x = some (.slice q l c)) :
    Gives P n [] E o (.int .i64 (c : Int)) := by
  intro a w _ hA
  simp [execOp, ho, resolve, invoke, builtin, opd_sound hA hx, Builtin.cap_, run_underlying hu, goInt]

theorem Gives.min3 {x y z : Operand} {ts : Array TypeId} {k k1 k2 : IntKind} {a b c r : Int} (ho : o.op = .call ⟨.builtin .min, #[x, y, z], ts⟩) (hx : opd E x = some (.int k a)) (hy : opd E y = some (.int k1 b)) (hz : opd E z = some (.int k2 c))
    (hr : (if c < (if b < a then b else a) then c else (if b < a then b else a)) = r) : Gives P n [] E o (.int k r) := by
  subst hr
  intro w _ _ hA
  simp [execOp, ho, resolve, invoke, builtin, opd_sound hA hx, opd_sound hA hy, opd_sound hA hz, Builtin.min_, Builtin.min2]
end
end Go.Lg

namespace Go.Lg
open Go.RowKit (Below)
section
variable {P : Program} {B n : Nat} {E : Env} {S : Ents} {o : Oper} {K : Env → Ents → Prop}

def noGotoQ (Q : Exit → Env → Ents → Prop) : Exit → Env → Ents → Prop
  | .goto _, _, _ => False
  | e, E, S => Q e E S
/-- A scope that no jump leaves. -/
theorem Wp.scope {c : Code} {Q : Exit → Env → Ents → Prop} (h : Wp P B n c (noGotoQ Q) E S) : Wp P B n (.scope c) Q E S := by
  intro a w hS hA
  refine wp_scope_straight (wp_mono (h a w hS hA) ?_)
  intro e a' w' hp
  obtain ⟨hp, E', S', hb, hs, ha, q⟩ := hp
  cases e with
  | normal => exact ⟨hp, E', S', hb, hs, ha, q⟩
  | exit id => exact ⟨hp, E', S', hb, hs, ha, q⟩
  | goto l => exact q.elim
  | ret => exact ⟨hp, E', S', hb, hs, ha, q⟩
  | panic ch => exact ⟨hp, E', S', hb, hs, ha, q⟩
  | outgrown => exact ⟨hp, E', S', hb, hs, ha, q⟩
theorem Wp.label {l : Nat} {Q : Exit → Env → Ents → Prop} (h : Q .normal E S) : Wp P B n (.label l) Q E S :=
  fun _ w hS hA => wp_label ⟨trivial, E, S, Below.refl B w, hS, hA, h⟩

/-- s[lo:hi:max] of a slice. -/
theorem Gives.sliceMax {t e : TypeId} {x lo hi mx : Operand} {b o' len cap sz l h' m : Nat} (ho : o.op = .slice t x (some lo) (some hi) (some mx))
    (hu : P.underlying t = some (.slice e)) (hs : sizeOfT P e = some sz) (hx : opd E x = some (.slice (some ⟨b, o', none⟩) len cap)) (hlo : Bound E (some lo) 0 l) (hhi : Bound E (some hi) len h') (hmx : Bound E (some mx) cap m)
    (h1 : l ≤ h') (h2 : h' ≤ m) (h3 : m ≤ cap) : Gives P n [] E o (.slice (some ⟨b, if m = l then o' else o' + l * sz, none⟩) (h' - l) (m - l)) := by
  intro a w hS hA
  have e0 := hmx.run (P := P) hA w cap h3 .slice3Acap
  have e1 := hhi.run (P := P) hA w m h2 .slice3B
  have e2 := hlo.run (P := P) hA w h' h1 .slice3C
  simp only [Option.map_some] at e0 e1 e2
  have key : (Instr.sliceBounds true len cap (some (a.eval lo)) (some (a.eval hi)) (some (a.eval mx))).run P w = .ok (l, h', m) w := by
    simp [Instr.sliceBounds, e0, e1, e2]
  simp only [execOp, ho, opd_sound hA hx, Option.map_some, Instr.sliceAt, Sem.run_bind, run_underlying hu, Result.andThen_ok]
  simp only [Instr.slice, Sem.run_bind, run_underlying hu, Result.andThen_ok, key, sizeOfT_run hs, Sem.run_pure]
  split
  · rfl
  · simp [Addr.add_lit]

/-- clear(s) of a slice that is not empty. -/
theorem Step.clear {t e : TypeId} {x : Operand} {b o' k cap : Nat} (i : Nat) {z l : List Value} (l' : List Value) {t' : TypeId} {fz : Nat × Nat} {S' : Ents} (hd : dstOk n o.dst = true) (ho : o.op = .call ⟨.builtin .clear, #[x], #[t]⟩)
    (hu : P.underlying t = some (.slice e)) (hz : zeroOf P e = some z) (hz0 : 0 < z.length) (hone : z.all (·.oneCell') = true) (hx : opd E x = some (.slice (some ⟨b, o', none⟩) k cap)) (hk : 0 < k) (he : entAt S i = some (b, cel l t' fz)) (hB : B ≤ b) (hf : Unfz fz l.length)
    (hl : o' + k * z.length ≤ l.length) (hw : wr l o' (zeros z k) = l') (hS' : setEnt S i (b, cel l' t' fz) = some S') (h : K (putE E o.dst (.tuple #[])) S') : Step P B n o K E S := by
  intro a w hS hA
  unfold Oper.wp
  have hgb := hS.holds _ (entAt_mem he)
  obtain ⟨zv, hzr, hzc⟩ := zeroOf_run (P := P) hz w
  have hzl := zeros_length z k
  have hones : ∀ v ∈ zeros z k, v.oneCell' = true := by
    intro v hv
    have : ∀ k, ∀ v ∈ zeros z k, v.oneCell' = true := by
      intro k
      induction k with
      | zero => intro v hv; cases hv
      | succ k ih =>
        intro v hv
        rcases List.mem_append.1 hv with h | h
        · exact List.all_eq_true.1 hone v h
        · exact ih v h
    exact this k v hv
  have hc : Builtin.zeroCells zv.cells k = (zeros z k).toArray := by
    have := range_zeros z k hz0
    rw [hzc, ← this]
    simp [Builtin.zeroCells]
  have hst := storeCells_run (P := P) b o' t' fz (zeros z k) 0 l.toArray w hgb (by simp only [List.size_toArray]; omega) (by simpa using hf) hones
  have hr : (execOp a.eval o).run P w = .ok (.value (.tuple #[])) (w.setRow b l'.toArray) := by
    have hclear : (Builtin.clear_ #[t] o.type #[.slice (some ⟨b, o', none⟩) k cap]).run P w = .ok (.tuple #[]) (w.setRow b l'.toArray) := by
      obtain ⟨k, rfl⟩ : ∃ j, k = j + 1 := ⟨k - 1, by omega⟩
      rw [← hw]
      simp only [Nat.add_zero] at hst
      simp [Builtin.clear_, run_underlying hu, hzr, hc, hst, wr]
    simp [execOp, ho, resolve, invoke, builtin, opd_sound hA hx, hclear]
  rw [hr]
  refine ⟨below_setRow hB _, _, S', ?_, hA.putE hd _, h⟩
  exact hS.turn he hS' hB (setRow_heap w b _ _ t' fz hgb) (fun k hk => setRow_other w b k _ hk) (by simp)
end
end Go.Lg
namespace Go.Lg
open Go.RowKit (Below)
section
variable {P : Program} {B n : Nat} {E : Env} {S : Ents} {o : Oper} {K : Env → Ents → Prop}
/-- s[lo:hi] of a slice, at its very end too. -/
theorem Gives.sliceEnd {t e : TypeId} {x : Operand} {lo hi : Option Operand} {b o' len cap sz l h' : Nat} (ho : o.op = .slice t x lo hi none)
    (hu : P.underlying t = some (.slice e)) (hs : sizeOfT P e = some sz) (hx : opd E x = some (.slice (some ⟨b, o', none⟩) len cap)) (hlo : Bound E lo 0 l) (hhi : Bound E hi len h') (h1 : l ≤ h') (h2 : h' ≤ cap) :
    Gives P n [] E o (.slice (some ⟨b, if cap = l then o' else o' + l * sz, none⟩) (h' - l) (cap - l)) := by
  intro a w hS hA
  have e1 := hhi.run (P := P) hA w cap h2 .sliceAcap
  have e2 := hlo.run (P := P) hA w h' h1 .sliceB
  have key : (Instr.sliceBounds true len cap (lo.map a.eval) (hi.map a.eval) none).run P w = .ok (l, h', cap) w := by
    simp only [Instr.sliceBounds, Sem.run_bind, Sem.run_pure, Result.andThen_ok]
    cases hi with
    | none =>
      simp only [Bound] at hhi; subst hhi
      cases lo with
      | none => simp only [Bound] at hlo; subst hlo; simp
      | some y => simp only [Option.map_some] at e2 ⊢; simp [e2]
    | some z =>
      simp only [Option.map_some] at e1 ⊢
      cases lo with
      | none => simp only [Bound] at hlo; subst hlo; simp [e1]
      | some y => simp only [Option.map_some] at e2 ⊢; simp [e1, e2]
  simp only [execOp, ho, opd_sound hA hx, Option.map_none, Instr.sliceAt, Sem.run_bind, run_underlying hu, Result.andThen_ok]
  simp only [Instr.slice, Sem.run_bind, run_underlying hu, Result.andThen_ok, key, sizeOfT_run hs, Sem.run_pure]
  split
  · rfl
  · simp [Addr.add_lit]

/-- append within the row's room. -/
theorem Step.appendRoom {t e : TypeId} {i : TypeInfo} {x y : Operand} {g k gcap m : Nat} {u : Value} (idx : Nat) {cur news : List Value} {S' : Ents}
    (hd : dstOk n o.dst = true) (ho : o.op = .call ⟨.builtin .append, #[x, y], #[t, t]⟩) (ht : P.underlying t = some (.slice e)) (hi : P.info? e = some i)
    (hx : opd E x = some (.slice (some ⟨g, 0, none⟩) k gcap)) (hy : opd E y = some u) (he : entAt S idx = some (g, cel cur e)) (hB : B ≤ g) (hroom : k + m ≤ gcap) (hc : cur.length = gcap * i.size) (hr : Reads S i.size u m news)
    (h1 : news.all (·.oneCell') = true) (hS' : setEnt S idx (g, cel (cur.take (k * i.size) ++ news ++ cur.drop (k * i.size + news.length)) e) = some S')
    (h : K (putE E o.dst (.slice (some ⟨g, 0, none⟩) (k + m) gcap)) S') : Step P B n o K E S := by
  intro a w hS hA
  unfold Oper.wp
  have hgb : w.heap[g]? = some (.cells cur.toArray e (0, 0)) := hS.holds _ (entAt_mem he)
  have hone : ∀ u ∈ news, u.oneCell' = true := fun u hu => List.all_eq_true.1 h1 u hu
  obtain ⟨hnl, hxv⟩ := hr
  rcases hxv with ⟨⟨a', c', rfl⟩, rfl⟩ | ⟨b, o', cap, l, e', fz, rfl, hm, hle, hnews⟩
  · have hn : news = [] := List.eq_nil_of_length_eq_zero (by simpa using hnl)
    subst hn
    have hrun : (Builtin.append_ #[t, t] o.type #[.slice (some ⟨g, 0, none⟩) k gcap, .slice a' 0 c']).run P w = .ok (.slice (some ⟨g, 0, none⟩) k gcap) w := by
      cases a'
      · simp [Builtin.append_, run_underlying ht, sizeOf, typeInfo, hi, Builtin.lenOf, Builtin.firstCells, storeCells, show k ≤ gcap by omega]
      · simp [Builtin.append_, run_underlying ht, sizeOf, typeInfo, hi, Builtin.lenOf, Builtin.firstCells, storeCells, loadCells, loadCellsFrom, show k ≤ gcap by omega]
    have hr : (execOp a.eval o).run P w = .ok (.value (.slice (some ⟨g, 0, none⟩) k gcap)) w := by
      simp [execOp, ho, resolve, invoke, builtin, opd_sound hA hx, opd_sound hA hy, hrun]
    rw [hr]
    simp only [List.append_nil, List.length_nil, Nat.add_zero, List.take_append_drop] at hS' h
    have hSS : S' = S := by
      have : ∀ (S S' : Ents) (i : Nat) (z : Nat × Obj), entAt S i = some z → setEnt S i z = some S' → S' = S := by
        intro S
        induction S with
        | nil => intro S' i z h1 h2; simp [entAt] at h1
        | cons y ys ih =>
          intro S' i z h1 h2
          cases i with
          | zero => simp [entAt] at h1; simp [setEnt] at h2; rw [← h2, h1]
          | succ i =>
            simp only [entAt] at h1
            simp only [setEnt] at h2
            split at h2
            · rename_i r hr
              have := ih r i z h1 hr
              obtain rfl := Option.some.inj h2
              rw [this]
            · cases h2
      exact this _ _ _ _ he hS'
    exact ⟨Below.refl B w, _, S', hSS ▸ hS, hA.putE hd _, h⟩
  · have hcells := (show Reads S i.size (.slice (some ⟨b, o', none⟩) m cap) m news from ⟨hnl, .inr ⟨b, o', cap, l, e', fz, rfl, hm, hle, hnews⟩⟩).cells hS.holds
    have hfit : k * i.size + news.length ≤ cur.toArray.size := by
      have : (k + m) * i.size ≤ gcap * i.size := Nat.mul_le_mul_right _ hroom
      rw [hnl, List.size_toArray, hc, ← Nat.add_mul]; exact this
    have hrun := run_append_room (P := P) w t o.type e i ht hi g k gcap cur.toArray hgb ⟨b, o', none⟩ m cap news hnl hcells hone hroom hfit
    have hr : ∃ w', (execOp a.eval o).run P w = .ok (.value (.slice (some ⟨g, 0, none⟩) (k + m) gcap)) w' ∧ w' = w.setRow g (cur.take (k * i.size) ++ news ++ cur.drop (k * i.size + news.length)).toArray := by
      refine ⟨_, ?_, rfl⟩
      have hrun' := hrun
      simp only [] at hrun'
      simp [execOp, ho, resolve, invoke, builtin, opd_sound hA hx, opd_sound hA hy, hrun]
    obtain ⟨w', hr, rfl⟩ := hr
    rw [hr]
    refine ⟨below_setRow hB _, _, S', ?_, hA.putE hd _, h⟩
    exact hS.turn he hS' hB (by simpa using setRow_heap w g _ _ e (0, 0) hgb) (fun q hq => setRow_other w g q _ hq) (by simp)
end
end Go.Lg

/- A range over a function: the walk of a round's body, the call of yield, and the statement. -/
namespace Go.Lg
open Go.RowKit (Below)

structure AgreeM (mk : List Deferred) (E : Env) (n : Nat) (a : Act) : Prop where
  reads : ∀ d v, Env.get E d = some v → a.tmps[d]? = some v
  size : a.tmps.size = n
  defers : a.defers = mk
theorem AgreeM.strip {mk : List Deferred} {E : Env} {n : Nat} {a : Act} (h : AgreeM mk E n a) : Agree E n { a with defers := [] } := ⟨h.reads, h.size, rfl⟩
theorem AgreeM.sub {mk : List Deferred} {E E' : Env} {n : Nat} {a : Act} (h : AgreeM mk E n a) (hs : Env.Sub E' E) : AgreeM mk E' n a := ⟨fun d v hd => h.reads d v (hs d v hd), h.size, h.defers⟩

abbrev GQ := List Deferred → Exit → Env → Ents → Prop
def fin (ro : Option Nat) : Fence := { Fence.wide with round := ro }
def PostG (B n : Nat) (Q : GQ) (w : World) : Exit → Act → World → Prop := fun e a w' =>
  (match e with | .panic _ => False | .outgrown => False | _ => True) ∧ ∃ mk E S, Below B w w' ∧ Sim B S w' ∧ AgreeM mk E n a ∧ Q mk e E S
/-- Code, in a round's frame or not, behind marks or not. -/
def WpG (ro : Option Nat) (mk : List Deferred) (P : Program) (B n : Nat) (c : Code) (Q : GQ) (E : Env) (S : Ents) : Prop :=
  ∀ d a w, Sim B S w → AgreeM mk E n a → c.wpIn (fin ro) d P (PostG B n Q w) a w
def OWpG (ro : Option Nat) (mk : List Deferred) (P : Program) (B n : Nat) (ops : Array Oper) (l : List Oper) (Q : GQ) (E : Env) (S : Ents) : Prop :=
  ∀ d a w, Sim B S w → AgreeM mk E n a → wpListIn (fin ro) d P ops (PostG B n Q w) l a w

section
variable {ro : Option Nat} {mk : List Deferred} {P : Program} {B n : Nat} {Q : GQ} {E : Env} {S : Ents} {ops : Array Oper}

theorem PostG.later {w w' : World} (hb : Below B w w') {e : Exit} {a : Act} {w'' : World} (h : PostG B n Q w' e a w'') : PostG B n Q w e a w'' := by
  obtain ⟨hp, mk', E, S, hb', hs, ha, q⟩ := h
  exact ⟨hp, mk', E, S, hb.trans hb', hs, ha, q⟩
theorem WpG.skip (h : Q mk .normal E S) : WpG ro mk P B n .skip Q E S :=
  fun _ _ w hS hA => wpIn_skip ⟨trivial, mk, E, S, Below.refl B w, hS, hA, h⟩
theorem WpG.ret (h : Q mk .ret E S) : WpG ro mk P B n .ret Q E S :=
  fun _ _ w hS hA => wpIn_ret ⟨trivial, mk, E, S, Below.refl B w, hS, hA, h⟩
theorem WpG.exit {id : Nat} (h : Q mk (.exit id) E S) : WpG ro mk P B n (.exit id) Q E S :=
  fun _ _ w hS hA => wpIn_exit ⟨trivial, mk, E, S, Below.refl B w, hS, hA, h⟩
def thenG (K : List Deferred → Env → Ents → Prop) (Q : GQ) : GQ
  | mk, .normal, E, S => K mk E S
  | mk, e, E, S => Q mk e E S
theorem WpG.seq {x y : Code} (h : WpG ro mk P B n x (thenG (fun mk' => WpG ro mk' P B n y Q) Q) E S) : WpG ro mk P B n (.seq x y) Q E S := by
  intro d a w hS hA
  refine wpIn_seq (wpIn_mono (h d a w hS hA) ?_)
  intro e a' w' hp
  obtain ⟨hp, mk', E', S', hb, hs, ha, q⟩ := hp
  cases e with
  | normal => exact wpIn_mono (q d a' w' hs ha) fun _ _ _ => PostG.later hb
  | exit id => exact ⟨hp, mk', E', S', hb, hs, ha, q⟩
  | goto l => exact ⟨hp, mk', E', S', hb, hs, ha, q⟩
  | ret => exact ⟨hp, mk', E', S', hb, hs, ha, q⟩
  | panic ch => exact ⟨hp, mk', E', S', hb, hs, ha, q⟩
  | outgrown => exact ⟨hp, mk', E', S', hb, hs, ha, q⟩
theorem WpG.cond {c : Operand} {x y : Code} {t : Bool} (hc : opd E c = some (.bool t))
    (h1 : t = true → WpG ro mk P B n x Q E S) (h2 : t = false → WpG ro mk P B n y Q E S) : WpG ro mk P B n (.cond c x y) Q E S := by
  intro d a w hS hA
  have he : a.eval c = .bool t := by
    have h := opd_sound hA.strip hc
    cases c <;> exact h
  refine wpIn_cond he ?_
  cases t with
  | true => exact h1 rfl d a w hS hA
  | false => exact h2 rfl d a w hS hA
def blockG (id : Nat) (Q : GQ) : GQ
  | mk, .exit k, E, S => if k = id then Q mk .normal E S else Q mk (.exit k) E S
  | mk, e, E, S => Q mk e E S
theorem WpG.block {id : Nat} {c : Code} (h : WpG ro mk P B n c (blockG id Q) E S) : WpG ro mk P B n (.block id c) Q E S := by
  intro d a w hS hA
  refine wpIn_block (wpIn_mono (h d a w hS hA) ?_)
  intro e a' w' hp
  obtain ⟨hp, mk', E', S', hb, hs, ha, q⟩ := hp
  cases e with
  | exit k =>
    simp only [blockG] at q
    simp only [Exit.inBlock]
    split
    · rename_i e; rw [if_pos e] at q; exact ⟨trivial, mk', E', S', hb, hs, ha, q⟩
    · rename_i e; rw [if_neg e] at q; exact ⟨trivial, mk', E', S', hb, hs, ha, q⟩
  | normal => exact ⟨hp, mk', E', S', hb, hs, ha, q⟩
  | goto l => exact ⟨hp, mk', E', S', hb, hs, ha, q⟩
  | ret => exact ⟨hp, mk', E', S', hb, hs, ha, q⟩
  | panic ch => exact ⟨hp, mk', E', S', hb, hs, ha, q⟩
  | outgrown => exact ⟨hp, mk', E', S', hb, hs, ha, q⟩
theorem WpG.weaken {c : Code} {E' : Env} {S' : Ents} (hE : Env.Sub E' E) (hS : ∀ w, Sim B S w → Sim B S' w) (h : WpG ro mk P B n c Q E' S') : WpG ro mk P B n c Q E S :=
  fun d a w hs hA => h d a w (hS w hs) (hA.sub hE)

theorem WpG.mono {c : Code} {Q' : GQ} (h : WpG ro mk P B n c Q E S) (hq : ∀ mk e E S, Q mk e E S → Q' mk e E S) : WpG ro mk P B n c Q' E S :=
  fun d a w hS hA => wpIn_mono (h d a w hS hA) fun _ _ _ ⟨hp, mk', E', S', hb, hs, ha, q⟩ => ⟨hp, mk', E', S', hb, hs, ha, hq _ _ _ _ q⟩
theorem WpG.seqS {x y : Code} {α : Type} (e : α → Env) (s : α → Ents) (R : α → Prop)
    (h1 : WpG ro mk P B n x (thenG (fun mk' E' S' => ∃ a, R a ∧ Env.Sub (e a) E' ∧ S'.Perm (s a) ∧ mk' = mk) Q) E S) (h2 : ∀ a, R a → WpG ro mk P B n y Q (e a) (s a)) : WpG ro mk P B n (.seq x y) Q E S := by
  refine WpG.seq (WpG.mono h1 ?_)
  intro mk' ex E' S' q
  cases ex with
  | normal =>
    obtain ⟨a, hR, hsub, hsp, rfl⟩ := q
    exact WpG.weaken hsub (fun _ h => h.perm hsp) (h2 a hR)
  | exit _ => exact q
  | goto _ => exact q
  | ret => exact q
  | panic _ => exact q
  | outgrown => exact q
/-- The plain walk is a walk outside of rounds. -/
def noOut (Q : Exit → Env → Ents → Prop) : Exit → Env → Ents → Prop
  | .outgrown, _, _ => False
  | e, E, S => Q e E S
theorem WpG.ofWp {c : Code} (h : Wp P B n c (noOut (Q [])) E S) : WpG none [] P B n c Q E S := by
  intro d a w hS hA
  refine wpIn_mono (wpIn_wide.2 (h a w hS ⟨hA.reads, hA.size, hA.defers⟩)) ?_
  rintro e a' w' ⟨hp, E', S', hb, hs, ha, q⟩
  refine ⟨?_, [], E', S', hb, hs, ⟨ha.reads, ha.size, ha.defers⟩, ?_⟩
  · cases e <;> first | exact hp | exact q
  · cases e <;> first | exact q | exact q.elim

theorem Wp.ofG {c : Code} {Q : Exit → Env → Ents → Prop} (h : WpG none [] P B n c (fun mk e E S => mk = [] ∧ Q e E S) E S) : Wp P B n c Q E S := by
  intro a w hS hA
  refine (wpIn_wide (n := 0)).1 (wpIn_mono (h 0 a w hS ⟨hA.reads, hA.size, hA.defers⟩) ?_)
  rintro e a' w' ⟨hp, mk, E', S', hb, hs, ha, rfl, q⟩
  refine ⟨?_, E', S', hb, hs, ⟨ha.reads, ha.size, ha.defers⟩, q⟩
  cases e with
  | panic _ => exact hp
  | _ => trivial
theorem rows_wide {d : Nat} {row : String} {args : Array Value} {w : World} {R : Value → World → Prop} (h : Rows P row args w R) : RowsIn (fin ro) d P row args w R :=
  fun c cs _ => let ⟨v, w', r, s⟩ := h c cs; ⟨v, w', r, (stepsIn_wide (P := P)).2 s⟩
theorem calls_in {d : Nat} {f : FuncId} {args : Array Value} {w : World} {R : Ending → World → Prop} (h : Calls P f args w R) : CallsIn (fin ro) d P f args w R :=
  (callsIn_wide (n := d)).2 h
def noDefer (o : Oper) : Bool := match o.op with | .defer _ => false | _ => true
theorem eval_defers (a : Act) (ds : List Deferred) : ({ a with defers := ds } : Act).eval = a.eval := funext fun x => by cases x <;> rfl
theorem put_defers (a : Act) (ds : List Deferred) (dst : Option Tmp) (v : Value) : ({ a with defers := ds } : Act).put dst v = { (a.put dst v) with defers := ds } := by cases dst <;> rfl
theorem put_defers' (a : Act) (dst : Option Tmp) (v : Value) : (a.put dst v).defers = a.defers := by cases dst <;> rfl
theorem uponIn_mono {F : Fence} {d : Nat} {o : Oper} {a : Act} {K K' : Act → World → Prop} {Q0 Q1 : Exit → Act → World → Prop} (hk : ∀ a w, K a w → K' a w) (hq : ∀ e a w, Q0 e a w → Q1 e a w)
    {r : Result Next} (h : o.uponIn F d P a K Q0 r) : o.uponIn F d P a K' Q1 r := by
  cases r with
  | ok x w' =>
    cases x <;> simp only [Oper.uponIn] at h ⊢ <;>
      first
        | exact hk _ _ h
        | exact h
        | exact ⟨h.1, CallsIn.mono h.2 (fun e w'' he => by
            cases e with
            | returned v => exact hk _ _ he
            | panicked c => exact hq _ _ _ he
            | outgrown => obtain ⟨x, y, z⟩ := he; exact ⟨x, y, hq _ _ _ z⟩)⟩
        | exact ⟨h.1, RoundIn.mono h.2 (fun e w'' he => by
            cases e with
            | returned v => exact hk _ _ he
            | panicked c => exact hq _ _ _ he
            | outgrown => obtain ⟨x, y, z⟩ := he; exact ⟨x, y, hq _ _ _ z⟩)⟩
        | exact ⟨h.1, RowsIn.mono h.2 (fun _ _ he => hk _ _ he)⟩
  | halt x w' => cases x <;> simp only [Oper.uponIn] at h ⊢ <;> first | exact hq _ _ _ h | exact h
theorem wpListIn_mono' {F : Fence} {d : Nat} {Q0 Q1 : Exit → Act → World → Prop} (hq : ∀ e a w, Q0 e a w → Q1 e a w) : ∀ (l : List Oper) (a : Act) (w : World), wpListIn F d P ops Q0 l a w → wpListIn F d P ops Q1 l a w := by
  intro l
  induction l with
  | nil => intro a w h; exact hq _ _ _ h
  | cons o l ih =>
    intro a w h
    unfold wpListIn at h ⊢
    split
    · rename_i hw
      rw [if_pos hw] at h
      exact ⟨h.1, uponIn_mono ih hq h.2⟩
    · rename_i hw
      rw [if_neg hw] at h
      exact ⟨h.1, ih _ _ h.2⟩
theorem OWp.monoQ {l : List Oper} {Q Q' : Exit → Env → Ents → Prop} (h : OWp P B n ops l Q E S) (hq : ∀ e E S, Q e E S → Q' e E S) : OWp P B n ops l Q' E S :=
  fun a w hS hA => wpList_monoQ (fun _ _ _ => Post.mono hq) _ _ _ (h a w hS hA)
/-- A list of plain operations, walked outside, is walked in a round and behind marks too. -/
theorem list_in {Q0 : Exit → Act → World → Prop} {Q1 : Exit → Act → World → Prop} {d : Nat} {post : List Oper} (hQ : ¬ LetsOut Q0)
    (hn : ∀ a w, Q0 .normal a w → wpListIn (fin ro) d P ops Q1 post { a with defers := a.defers ++ mk } w)
    (hp : ∀ ch a w, Q0 (.panic ch) a w → Q1 (.panic ch) { a with defers := a.defers ++ mk } w) :
    ∀ (l : List Oper), l.all noDefer = true → ∀ a w, wpList P ops Q0 l a w → wpListIn (fin ro) d P ops Q1 (l ++ post) { a with defers := a.defers ++ mk } w := by
  intro l
  induction l with
  | nil => intro _ a w h; exact hn a w h
  | cons o l ih =>
    intro hc a w h
    rw [List.all_cons, Bool.and_eq_true] at hc
    have ih := ih hc.2
    have hsem : ∀ c, o.op ≠ .defer c := fun c e => by have := hc.1; unfold noDefer at this; rw [e] at this; cases this
    rw [List.cons_append]
    unfold wpList at h
    unfold wpListIn
    simp only
    split
    · rename_i hw
      rw [if_pos hw] at h
      rcases h with h | ⟨_, h⟩
      · refine ⟨fun _ _ => trivial, ?_⟩
        rw [eval_defers, Oper.semAt_eq _ _ _ hsem]
        unfold Oper.wp at h
        have next : ∀ (v : Value) (w' : World), wpList P ops Q0 l (a.put o.dst v) w' → wpListIn (fin ro) d P ops Q1 (l ++ post) (({ a with defers := a.defers ++ mk } : Act).put o.dst v) w' := by
          intro v w' h
          have := ih _ _ h
          rw [put_defers'] at this
          rw [put_defers]
          exact this
        generalize (execOp a.eval o).run P w = r at h ⊢
        cases r with
        | ok x w' =>
          cases x with
          | value v => exact next v w' h
          | skip => exact next undef w' h
          | defer dd =>
            have := ih _ _ h
            rw [put_defers', put_defers] at this
            show wpListIn (fin ro) d P ops Q1 (l ++ post) (({ a with defers := dd :: (a.defers ++ mk) } : Act).put o.dst undef) w'
            rw [put_defers]
            exact this
          | enter f args =>
            refine ⟨fun h => by simp [fin, Fence.wide] at h, calls_in (Calls.mono h ?_)⟩
            intro e w'' he
            cases e with
            | returned v => exact next v w'' he
            | panicked c => exact hp _ _ _ he
            | outgrown => exact absurd he hQ
          | row row args => exact ⟨fun h => by simp [fin, Fence.wide] at h, rows_wide (Rows.mono h fun v w'' hv => next v w'' hv)⟩
          | round => exact h.elim
          | _ => exact h.elim
        | halt x w' => cases x <;> first | exact hp _ _ _ h | exact h.elim
      · exact absurd h hQ
    · rename_i hw
      rw [if_neg hw] at h
      refine ⟨fun _ _ => trivial, ?_⟩
      have := ih _ _ h
      rw [put_defers'] at this
      rw [put_defers]
      exact this
theorem agreeM_of {ds : List Deferred} {n : Nat} {E : Env} {a : Act} (h : Agree E n a) : AgreeM (ds) E n { a with defers := a.defers ++ ds } :=
  ⟨h.reads, h.size, by rw [h.defers]; rfl⟩
/-- What is left to do behind some plain operations. -/
def cutQ (ro : Option Nat) (mk : List Deferred) (P : Program) (B n : Nat) (ops : Array Oper) (post : List Oper) (Q : GQ) : Exit → Env → Ents → Prop
  | .normal, E, S => OWpG ro mk P B n ops post Q E S
  | .outgrown, _, _ => False
  | e, E, S => Q mk e E S
theorem OWpG.plain {l post : List Oper} (hc : l.all noDefer = true) (h : OWp P B n ops l (cutQ ro mk P B n ops post Q) E S) : OWpG ro mk P B n ops (l ++ post) Q E S := by
  intro d a w hS hA
  have e : a = { ({ a with defers := [] } : Act) with defers := ({ a with defers := [] } : Act).defers ++ mk } := by
    obtain ⟨t, ds⟩ := a
    have := hA.defers
    simp only at this
    subst this
    rfl
  have key := list_in (ro := ro) (mk := mk) (ops := ops) (d := d) (post := post) (Q0 := Post B n (cutQ ro mk P B n ops post Q) w) (Q1 := PostG B n Q w) ?_ ?_ ?_ l hc { a with defers := [] } w (h _ w hS hA.strip)
  · rw [e]; exact key
  · rintro ⟨_, _, _, _, _, _, _, _, q⟩; exact q
  · rintro a' w' ⟨_, E', S', hb, hs, ha, q⟩
    have := q d _ w' hs (agreeM_of (ds := mk) ha)
    exact wpListIn_mono' (fun _ _ _ => PostG.later hb) _ _ _ this
  · rintro ch a' w' ⟨hp, _⟩; exact hp.elim
theorem OWpG.cut (k : Nat) {l : List Oper} (hc : (l.take k).all noDefer = true) (h : OWp P B n ops (l.take k) (cutQ ro mk P B n ops (l.drop k) Q) E S) : OWpG ro mk P B n ops l Q E S := by
  have := OWpG.plain hc h
  rwa [List.take_append_drop] at this
theorem OWpG.nil (h : Q mk .normal E S) : OWpG ro mk P B n ops [] Q E S := fun _ _ w hS hA => ⟨trivial, mk, E, S, Below.refl B w, hS, hA, h⟩
theorem WpG.regionG {id : Nat} (h : OWpG ro mk P B n ops ops.toList Q E S) : WpG ro mk P B n (.region id ops false) Q E S :=
  fun d a w hS hA => wpIn_region_list (h d a w hS hA)
theorem WpG.region {id : Nat} (hc : ops.toList.all noDefer = true) (h : OWp P B n ops ops.toList (noOut (Q mk)) E S) : WpG ro mk P B n (.region id ops false) Q E S := by
  refine WpG.regionG ?_
  have := OWpG.plain (ro := ro) (mk := mk) (Q := Q) (post := []) hc (h.monoQ fun e E S q => ?_)
  · rwa [List.append_nil] at this
  · cases e <;> first | exact OWpG.nil q | exact q

/-- A call of a loop's yield: whether to go on, and the memory behind it. -/
def YieldWp (P : Program) (B l : Nat) (args : Array Value) (Q : Bool → Ents → Prop) (S : Ents) : Prop :=
  ∀ d w, Sim B S w → YieldAt Fence.wide d P l args w fun e W' => ∃ b S', e = .returned (.bool b) ∧ Below B w W' ∧ Sim B S' W' ∧ Q b S'
theorem YieldWp.mono {l : Nat} {args : Array Value} {Q Q' : Bool → Ents → Prop} (h : YieldWp P B l args Q S) (hq : ∀ b S, Q b S → Q' b S) : YieldWp P B l args Q' S := by
  intro d w hS
  obtain ⟨fn, tmps, assign, body, hy, hr⟩ := h d w hS
  exact ⟨fn, tmps, assign, body, hy, hr.mono fun _ _ ⟨b, S', e, hb, hs, q⟩ => ⟨b, S', e, hb, hs, hq _ _ q⟩⟩
theorem YieldWp.permS {l : Nat} {args : Array Value} {Q : Bool → Ents → Prop} {S' : Ents} (hp : S.Perm S') (h : YieldWp P B l args Q S') : YieldWp P B l args Q S := fun d w hS => h d w (hS.perm hp)
theorem agreeM_put {E : Env} {n : Nat} {a : Act} {mk : List Deferred} (hA : AgreeM mk E n a) {d : Option Tmp} (hd : dstOk n d = true) (v : Value) : AgreeM mk (putE E d v) n (a.put d v) := by
  have h := hA.strip.putE hd v
  refine ⟨fun k u hk => ?_, ?_, by rw [put_defers']; exact hA.defers⟩
  · have := h.reads k u hk
    rw [put_defers] at this
    exact this
  · have := h.size
    rw [put_defers] at this
    exact this
theorem OWpG.yield {o : Oper} {rest : List Oper} {l : Nat} {c : Call} {x : Operand} {vs : List Value} (hg : o.guard = none) (hd : dstOk n o.dst = true) (ho : o.op = .call c) (hc : c.callee = .value x) (hx : opd E x = some (.func (.yield l) #[] #[]))
    (hvs : opds E c.args.toList = some vs) (h : YieldWp P B l vs.toArray (fun b S' => OWpG none mk P B n ops rest Q (putE E o.dst (.bool b)) S') S) : OWpG none mk P B n ops (o :: rest) Q E S := by
  intro d a w hS hA
  unfold wpListIn
  have hw : Region.wanted o (yielded ops a.tmps) = true := by simp [Region.wanted, hg]
  rw [if_pos hw]
  refine ⟨fun _ _ => trivial, ?_⟩
  have hev := eval_defers a []
  have hargs : c.args.map a.eval = vs.toArray := by
    apply Array.ext'
    have := opds_sound hA.strip hvs
    rw [hev] at this
    simpa using this
  have hxe : a.eval x = .func (.yield l) #[] #[] := by rw [← hev]; exact opd_sound hA.strip hx
  obtain ⟨fn, tmps, assign, body, hy, hr⟩ := h (d - 1) w hS
  have e : ((o.semAt (fin none).round a.eval)).run P w = .ok (.round l fn tmps assign body) w := by
    rw [Oper.semAt_eq _ _ _ (fun c e => by rw [ho] at e; cases e)]
    simp [execOp, ho, resolve, hc, hxe, Deferred.ofValue, hargs, invoke, hy]
  rw [e]
  refine ⟨fun h => by simp [fin, Fence.wide] at h, hr.mono ?_⟩
  rintro e w' ⟨b, S', rfl, hb, hs, q⟩
  exact wpListIn_mono' (fun _ _ _ => PostG.later hb) _ _ _ (q d _ w' hs (agreeM_put hA hd _))
end

/-- What is known of a record's slots. -/
structure TmpsOk (E : Env) (n : Nat) (t : Array Value) : Prop where
  reads : ∀ d v, Env.get E d = some v → t[d]? = some v
  size : t.size = n
theorem TmpsOk.put {E : Env} {n : Nat} {t : Array Value} (h : TmpsOk E n t) (d : Nat) (v : Value) (hd : Nat.blt d n = true) : TmpsOk ((d, v) :: E) n (t.setIfInBounds d v) := by
  have hd : d < n := by simpa [Nat.blt_eq] using hd
  have := (show Agree E n { tmps := t, defers := [] } from ⟨h.reads, h.size, rfl⟩).put d v hd
  exact ⟨this.reads, this.size⟩
def jumpOf : Exit → Option (Option Code)
  | .normal => some none
  | .ret => some (some .ret)
  | .exit id => some (some (.exit id))
  | _ => none
section
variable {P : Program} {B n : Nat} {S : Ents}
theorem sim_put {w : World} {l : Nat} {o o' : Obj} (h : Sim B ((l, o) :: S) w) (hB : B ≤ l) : Sim B ((l, o') :: S) (w.putObj l o') := by
  have hl : l < w.heap.size := h.lt (x := (l, o)) (.head _)
  exact h.turn (i := 0) rfl rfl hB (World.putObj_heap_same hl) (fun k hk => World.putObj_heap_other hk) (by simp [World.putObj])
theorem below_put {w : World} {l : Nat} {o' : Obj} (hB : B ≤ l) (h : B ≤ w.heap.size) : Below B w (w.putObj l o') :=
  (Below.refl B w).grown (grownBy_putObj' w l o') h (fun k e => by cases e; exact hB)
/-- One round, out of its body's walk. -/
theorem YieldWp.round {l : Nat} {r : Loop} {args : Array Value} {t : Array Value} {E : Env} {Q : Bool → Ents → Prop} (hB : B ≤ l) (hr : r.state = .ready) (hs : args.size = r.params.size)
    (ht : (r.params.zip args).foldl (fun tmps (t, a) => tmps.setIfInBounds t a) r.tmps = t) (hT : TmpsOk E n t) {assign body : Code} (has : r.assign = assign) (hbd : r.body = body)
    (h : WpG (some l) [] P B n assign (fun mk e E' S' => e = .normal ∧ mk = [] ∧ ∃ S1, S'.Perm ((l, .loop r) :: S1) ∧
      WpG (some l) [] P B n body (fun _ e' _ S'' => ∃ S2 j S3, ((l, .loop { r with state := .busy }) :: S2).Sublist S3 ∧ S''.Perm S3 ∧ jumpOf e' = some j ∧
        Q j.isNone ((l, .loop { r with state := if j.isNone then .ready else .done, pending := j }) :: S2)) E' ((l, .loop { r with state := .busy }) :: S1)) E ((l, .loop r) :: S)) :
    YieldWp P B l args Q ((l, .loop r) :: S) := by
  subst has hbd
  intro d w hS
  have hl : w.heap[l]? = some (.loop r) := hS.holds (l, .loop r) (.head _)
  refine ⟨r.fn, t, r.assign, r.body, by rw [run_yield hl hs, ht], roundIn_of_wpIn trivial ?_⟩
  refine wpIn_mono (h d { tmps := t, defers := [] } w hS ⟨hT.reads, hT.size, rfl⟩) ?_
  rintro e a1 w1 ⟨_, mk', E1, S1', hb1, hs1, ha1, rfl, rfl, S1, hperm, hbody⟩
  have hs1' := hs1.perm hperm
  have hl1 : w1.heap[l]? = some (.loop r) := hs1'.holds (l, .loop r) (.head _)
  refine ⟨_, run_beginRound hl1 hr, ?_⟩
  refine wpIn_mono (hbody d a1 _ (sim_put hs1' hB) ha1) ?_
  rintro e2 a2 w2 ⟨hnp, mk2, E2, S2', hb2, hs2, ha2, S2, j, S3, hsub2, hperm2, hj, q⟩
  have hs2' := (hs2.perm hperm2).sublist hsub2
  have hl2 : w2.heap[l]? = some (.loop { r with state := .busy }) := hs2'.holds (l, .loop { r with state := .busy }) (.head _)
  have hfin : ∃ v w', (Instr.endRound l j).run P w2 = .ok v w' ∧ ∃ b S', (Ending.returned v) = .returned (.bool b) ∧ Below B w w' ∧ Sim B S' w' ∧ Q b S' :=
    ⟨_, _, run_endRound j hl2, _, _, rfl, ((hb1.trans (below_put hB hs1.base)).trans hb2).trans (below_put hB hs2.base), sim_put hs2' hB, q⟩
  cases e2 with
  | normal => cases hj; exact hfin
  | ret => cases hj; exact hfin
  | exit id => cases hj; exact hfin
  | goto t => cases hj
  | panic c => exact hnp
  | outgrown => exact hnp

/-- The statement, outside of rounds. -/
theorem WpG.rangeFunc {g : Operand} {ps : Array Tmp} {assign body : Code} {Q : GQ} {E : Env} {gf : FuncId} {lb : List Value} (hg : opd E g = some (.func (.func gf) #[] lb.toArray)) (hgf : callable P gf = true)
    (H : ∀ D l r, B ≤ D → B ≤ l → (∀ x ∈ S, x.1 < D) → D < l → TmpsOk E n r.tmps → r.params = ps → r.assign = assign → r.body = body → r.state = .ready → r.pending = none →
      CallWp P B gf (.func (.yield l) #[] #[] :: lb).toArray (fun _ S' => ∃ r' S1, S'.Perm ((l, .loop r') :: (D, .deferred (some [])) :: S1) ∧ r'.state ≠ .busy ∧
        (match r'.pending with
          | none => Q [{ target := .collected D, args := #[] }] .normal E ((D, .deferred (some [])) :: S1)
          | some c => WpG none [{ target := .collected D, args := #[] }] P B n c Q E ((D, .deferred (some [])) :: S1))) ((l, .loop r) :: (D, .deferred (some [])) :: S)) :
    WpG none [] P B n (.rangeFunc g ps assign body) Q E S := by
  intro d a w hS hA
  refine wpIn_rangeFunc fun fn _ => ?_
  obtain ⟨rec, hrec⟩ : ∃ rec : Loop, rec = { state := .ready, pending := none, fn, tmps := a.tmps, params := ps, assign, body, defers := w.heap.size } := ⟨_, rfl⟩
  obtain ⟨W1, hW1⟩ : ∃ W1, W1 = (w.alloc (.deferred (some []))).alloc (.loop rec) := ⟨_, rfl⟩
  have hev : a.eval g = .func (.func gf) #[] lb.toArray := by
    rw [← eval_defers a []]; exact opd_sound hA.strip hg
  have hS1 : Sim B ((w.heap.size + 1, .loop rec) :: (w.heap.size, .deferred (some [])) :: S) W1 := by
    have := (hS.alloc (.deferred (some []))).alloc (.loop rec)
    rw [World.size_alloc] at this
    rw [hW1]; exact this
  have hb1 : Below B w W1 := by rw [hW1]; exact ((Below.refl B w).alloc hS.base _).alloc (by have := hS.base; simp; omega) _
  refine ⟨w.heap.size + 1, [{ target := .collected w.heap.size, args := #[] }], W1, { target := .fn (.func gf) lb.toArray, args := #[.func (.yield (w.heap.size + 1)) #[] #[]] }, W1, gf, (.func (.yield (w.heap.size + 1)) #[] #[] :: lb).toArray, W1, ?_, ?_, fun _ _ => trivial, ?_, fun h => by simp [fin, Fence.wide] at h, ?_⟩
  · rw [hW1, hrec]; exact run_enterLoop_outer _ _ _ _ _
  · simp only [resolve, hev]
    simp [go_sem]
  · have := callable_run hgf (#[.func (.yield (w.heap.size + 1)) #[] #[]] ++ lb.toArray) W1
    simp only [invoke]
    rw [this]
    congr 2
    apply Array.ext'
    simp
  · refine calls_in (Calls.mono (H w.heap.size (w.heap.size + 1) rec hS.base (by have := hS.base; omega) (fun x hx => hS.lt hx) (by omega) (by rw [hrec]; exact ⟨hA.reads, hA.size⟩) (by rw [hrec]) (by rw [hrec]) (by rw [hrec]) (by rw [hrec]) (by rw [hrec]) W1 hS1) ?_)
    rintro e w3 ⟨v, S', rfl, hb3, hs3, r', S1, hperm, hnb, hq⟩
    have hs3' := hs3.perm hperm
    have hl3 : w3.heap[w.heap.size + 1]? = some (.loop r') := hs3'.holds (_, _) (.head _)
    have hB : B ≤ w.heap.size + 1 := by have := hS.base; omega
    obtain ⟨W4, hW4⟩ : ∃ W4, w3.putObj (w.heap.size + 1) (.loop { r' with state := .exhausted }) = W4 := ⟨_, rfl⟩
    refine ⟨r'.pending, W4, by rw [← hW4]; exact run_endLoop hl3 hnb, ?_⟩
    have hs4 := (sim_put (o' := .loop { r' with state := .exhausted }) hs3' hB).sublist (List.sublist_cons_self _ _)
    have hb4 := (hb1.trans hb3).trans (below_put (o' := .loop { r' with state := .exhausted }) hB hs3.base)
    have hA4 : AgreeM [{ target := .collected w.heap.size, args := #[] }] E n { a with defers := [{ target := .collected w.heap.size, args := #[] }] ++ a.defers } :=
      ⟨hA.reads, hA.size, by rw [hA.defers]; rfl⟩
    rw [hW4] at hs4 hb4
    cases hp : r'.pending with
    | none =>
      rw [hp] at hq
      exact ⟨trivial, _, E, _, hb4, hs4, hA4, hq⟩
    | some c =>
      rw [hp] at hq
      exact wpIn_mono (hq d _ _ hs4 hA4) fun _ _ _ => PostG.later hb4

/-- What stands where a function with a mark is left. -/
def RetG (P : Program) (B : Nat) (rs : List ResultVar) (Q : Value → Ents → Prop) : GQ := fun mk e E S =>
  (match e with | .normal => True | .ret => True | _ => False) ∧
  ((mk = [] ∧ ∃ vs, ResV P E S rs vs ∧ Q (tup vs) S) ∨ ∃ D S0, B ≤ D ∧ mk = [{ target := .collected D, args := #[] }] ∧ S.Perm ((D, .deferred (some [])) :: S0) ∧ ∃ vs, ResV P E S0 rs vs ∧ Q (tup vs) S0)
theorem CallWp.enterG {f : FuncId} {fn : Func} {c : Code} {args : List Value} {Q : Value → Ents → Prop} (hf : P.funcs[f]? = some fn) (hb : fn.body = some c) (hn : fn.ntmps = n)
    (ha : Nat.ble args.length n = true) (h : WpG none [] P B n c (RetG P B fn.results.toList Q) (args0 args 0) S) : CallWp P B f args.toArray Q S := by
  intro w hS
  refine (callsIn_wide (n := 0)).1 (callsIn_of_wp_marks hf hb trivial ?_ rfl)
  have hlen : args.length ≤ n := by simpa [Nat.ble_eq] using ha
  have hA : AgreeM [] (args0 args 0) n { tmps := args.toArray ++ Array.replicate (fn.ntmps - args.toArray.size) undef, defers := [] } := by
    refine ⟨fun d v hd => ?_, by simp; omega, rfl⟩
    obtain ⟨_, h2⟩ := args0_get args 0 d v hd
    have hlt : d < args.length := (List.getElem?_eq_some_iff.1 h2).1
    simp only [Nat.sub_zero] at h2
    rw [Array.getElem?_append_left (by simpa using hlt)]
    simpa using h2
  refine wpIn_mono (h 0 _ w hS hA) ?_
  rintro e a' w' ⟨_, mk', E', S', hb, hs, ha, hr, hq⟩
  have key : LeavesInM Fence.wide 0 P fn a'.tmps (fun e w' => ∃ v S', e = .returned v ∧ Below B w w' ∧ Sim B S' w' ∧ Q v S') a'.defers .returning w' := by
    rw [ha.defers]
    rcases hq with ⟨rfl, vs, hres, q⟩ | ⟨D, S0, hD, rfl, hperm, vs, hres, q⟩
    · exact ⟨_, results_run (a := { a' with defers := [] }) ha.strip hs hres, _, S', rfl, hb, hs, q⟩
    · have hs' := hs.perm hperm
      have hd : w'.heap[D]? = some (.deferred (some [])) := hs'.holds (_, _) (.head _)
      have hs2 := (sim_put (o' := .deferred none) hs' hD).sublist (List.sublist_cons_self _ _)
      refine ⟨by simp, .inl ⟨D, _, rfl, run_takeDeferred hd, ?_⟩⟩
      exact ⟨_, results_run (a := { a' with defers := [] }) ha.strip hs2 hres, _, S0, rfl, hb.trans (below_put hD hs.base), hs2, q⟩
  cases e with
  | normal => exact key
  | ret => exact key
  | exit _ => exact hr.elim
  | goto _ => exact hr.elim
  | panic _ => exact hr.elim
  | outgrown => exact hr.elim
end
end Go.Lg

/- Maps from whole numbers to true: a set of numbers. -/
namespace Go.Lg
open Go.RowKit (Below)
open Go.MapKept (run_findKey run_checkKey run_setObj_map heap_set IsKey)

def seenM : Nat → List Int → List MapEntry
  | _, [] => []
  | i, k :: L => { key := .int .i64 k, val := .bool true, born := i } :: seenM (i + 1) L
/-- The map that has these numbers. -/
def mapO (L : List Int) : Obj := .map (seenM 0 L).toArray L.length
theorem seenM_snoc (k : Int) : ∀ (L : List Int) (i : Nat), seenM i (L ++ [k]) = seenM i L ++ [{ key := .int .i64 k, val := .bool true, born := i + L.length }]
  | [], i => by simp [seenM]
  | x :: L, i => by
    rw [List.cons_append, seenM, seenM, seenM_snoc k L (i + 1), List.cons_append]
    simp only [List.length_cons]
    congr 4
    omega
theorem seenM_find (k : Int) : ∀ (L : List Int) (i j : Nat), ∃ r, Instr.findNow (.int .i64) (.int .i64 k) (seenM i L) j = some r ∧ (r = none ∧ k ∉ L ∨ ∃ m, r = some (m, .bool true) ∧ k ∈ L)
  | [], _, _ => ⟨none, rfl, .inl ⟨rfl, by simp⟩⟩
  | x :: L, i, j => by
    obtain ⟨r, h1, h2⟩ := seenM_find k L (i + 1) (j + 1)
    by_cases e : k = x
    · subst e
      exact ⟨some (j, .bool true), by simp [seenM, Instr.findNow, Instr.sameNow], .inr ⟨j, rfl, by simp⟩⟩
    · have e' : (k == x) = false := by simp [e]
      refine ⟨r, by simp [seenM, Instr.findNow, Instr.sameNow, e', h1], ?_⟩
      rcases h2 with ⟨h2, h3⟩ | ⟨m, h2, h3⟩
      · exact .inl ⟨h2, by simp [e, h3]⟩
      · exact .inr ⟨m, h2, by simp [h3]⟩

section
variable {P : Program} {B n : Nat} {E : Env} {S : Ents} {o : Oper} {K : Env → Ents → Prop}

theorem Step.makeMap {t : TypeId} (hd : dstOk n o.dst = true) (ho : o.op = .makeMap t none) (h : ∀ L, B ≤ L → (∀ x ∈ S, x.1 < L) → K (putE E o.dst (.map (some L))) ((L, mapO []) :: S)) : Step P B n o K E S := by
  refine Step.makes (v := fun L => .map (some L)) hd (fun a w hS hA => ?_) h
  simp [execOp, ho, Instr.makeMap, mapO, seenM]
theorem Gives.seen {t kt et : TypeId} {x y : Operand} {b : Nat} {k : Int} {L : List Int} (ho : o.op = .lookup t x y false) (hm : P.underlying t = some (.map kt et)) (hk : P.underlying kt = some (.int .i64)) {i : TypeInfo} (hi : P.info? et = some i) (hiz : i.zero = some (.bool false))
    (hx : opd E x = some (.map (some b))) (hy : opd E y = some (.int .i64 k)) : Gives P n [(b, mapO L)] E o (.bool (decide (k ∈ L))) := by
  intro a w hS hA
  have hb : w.heap[b]? = some (.map (seenM 0 L).toArray L.length) := hS (b, mapO L) (by simp)
  have hget : (getObj b).run P w = .ok (.map (seenM 0 L).toArray L.length) w := by simp [getObj, Sem.run, hb]
  obtain ⟨r, h1, h2⟩ := seenM_find k L 0 0
  have hf := run_findKey (P := P) (w := w) hk h1
  have hz : (zeroValue et).run P w = .ok (.bool false) w := by simp [zeroValue, typeInfo, hi, hiz]
  have hck : ∀ em, (Instr.checkKey em 10000 kt (.int .i64 k)).run P w = .ok () w := fun em => run_checkKey (n := 9999) hk (by simp [IsKey]) em
  simp only [execOp, ho, opd_sound hA hx, opd_sound hA hy, Instr.lookup, Sem.run_bind, run_underlying hm, Result.andThen_ok, hget, Sem.run_pure, hck, hf]
  rcases h2 with ⟨rfl, h3⟩ | ⟨m, rfl, h3⟩
  · simp [hz, h3]
  · simp [h3]
theorem Step.mapAdd {t kt et : TypeId} {x y z : Operand} {b : Nat} {k : Int} {L : List Int} {S' : Ents} (i : Nat) (hd : dstOk n o.dst = true) (ho : o.op = .mapUpdate t x y z) (hm : P.underlying t = some (.map kt et)) (hk : P.underlying kt = some (.int .i64))
    (hx : opd E x = some (.map (some b))) (hy : opd E y = some (.int .i64 k)) (hz : opd E z = some (.bool true)) (he : entAt S i = some (b, mapO L)) (hB : B ≤ b) (hn : k ∉ L) (hS' : setEnt S i (b, mapO (L ++ [k])) = some S')
    (h : K (putE E o.dst undef) S') : Step P B n o K E S := by
  intro a w hS hA
  unfold Oper.wp
  have hb : w.heap[b]? = some (.map (seenM 0 L).toArray L.length) := hS.holds _ (entAt_mem he)
  have hget : (getObj b).run P w = .ok (.map (seenM 0 L).toArray L.length) w := by simp [getObj, Sem.run, hb]
  obtain ⟨r, h1, h2⟩ := seenM_find k L 0 0
  have hf := run_findKey (P := P) (w := w) hk h1
  have hck : (Instr.checkKey false 10000 kt (.int .i64 k)).run P w = .ok () w := run_checkKey (n := 9999) hk (by simp [IsKey]) false
  rcases h2 with ⟨rfl, _⟩ | ⟨m, rfl, h3⟩
  · have e : mapO (L ++ [k]) = .map ((seenM 0 L).toArray.push { key := .int .i64 k, val := .bool true, born := L.length }) (L.length + 1) := by
      unfold mapO
      rw [seenM_snoc]
      simp
    have hr : (execOp a.eval o).run P w = .ok .skip { w with heap := w.heap.setIfInBounds b (mapO (L ++ [k])) } := by
      simp only [execOp, ho, opd_sound hA hx, opd_sound hA hy, opd_sound hA hz, Instr.mapUpdate, Sem.run_bind, run_underlying hm, Result.andThen_ok, hget, hck, hf, run_setObj_map _ hb, Sem.run_pure, e]
    rw [hr]
    have hset := heap_set (o' := mapO (L ++ [k])) hb
    have hlt : b < w.heap.size := (Array.getElem?_eq_some_iff.1 hb).1
    refine ⟨?_, _, S', ?_, hA.putE hd undef, h⟩
    · exact (Below.refl B w).grown (row := some b) ⟨rfl, rfl, rfl, by simp, fun k' _ hk' => hset.2 k' (fun e => hk' (by rw [e]))⟩ hS.base (fun k' e => by cases e; exact hB)
    · exact hS.turn he hS' hB hset.1 (fun k' hk' => hset.2 k' hk') (by simp)
  · exact absurd h3 hn
end
end Go.Lg

/- Three growing operations of a drawn region, ready in any order. -/
namespace Go.Lg
open Go.RowKit (Below)
section
variable {P : Program} {B n : Nat} {ops : Array Oper} {Q : Exit → Env → Ents → Prop} {E : Env} {S : Ents}
/-- What is asked of one of them. -/
def ForkAt (P : Program) (B n : Nat) (ops : Array Oper) (Q : Exit → Env → Ents → Prop) (muts : List Nat) (l : Array Bool) (len : Nat) (pr : List (Nat × Ents)) (E : Env) (S : Ents) (x : Nat) : Prop :=
  ∃ o r, ops[x]? = some o ∧ r.length = len ∧ okFrom ops muts (l.setIfInBounds x true) r = true ∧ guardB ops.toList E o.guard = some true ∧
    Step P B n o (fun E' S' => (∀ y ∈ S, y ∈ S') ∧ DWp P B n ops muts (l.setIfInBounds x true) r (keptE ops x pr) Q E' S') E S
theorem DWp.forkN {muts : List Nat} {l : Array Bool} {m : Nat} {is : List Nat} {rest : List Nat} {pr : List (Nat × Ents)} (hr : Region.ready .any ops l = is) (hne : is ≠ [])
    (h : ∀ x ∈ is, ForkAt P B n ops Q muts l rest.length pr E S x) : DWp P B n ops muts l (m :: rest) pr Q E S := by
  intro hgo a w hS hA
  refine ⟨fun e => absurd (hr.symm.trans e) hne, fun x hx => ?_⟩
  obtain ⟨o, r, ho, hl, hok, hg, h⟩ := h x (by rw [← hr]; exact hx)
  unfold wpOp
  simp only [ho]
  rw [if_pos (guardB_sound hA hg)]
  refine .inl (Oper.upon_monoQ ?_ ?_ (h a w hS hA))
  · rintro a' w' ⟨hb, E', S', hs, ha, hp, q⟩
    rw [kept_proms]
    have hp' : ∀ x' ∈ keptE ops x pr, ∀ y ∈ x'.2, y ∈ S' := fun x' hx' y hy => hp y (hgo.proms x' (List.mem_filter.1 hx').1 y hy)
    have := q ⟨hgo.closed.set hx, hok, hgo.sel, hp'⟩ a' w' hs ha
    rw [hl] at this
    refine ⟨fun x' hx' => ?_, wpAnyP_monoQ (fun _ _ _ => Post.later hb) _ _ _ _ _ this⟩
    rw [proms, List.mem_map] at hx'
    obtain ⟨y, hy, rfl⟩ := hx'
    exact fun z hz => hs.holds z (hp' y hy z hz)
  · intro _ _ _ h; exact h.elim
theorem DWp.fork3 {muts : List Nat} {l : Array Bool} {m i j k : Nat} {oi oj ok : Oper} {rest r1 r2 r3 : List Nat} {pr : List (Nat × Ents)} (hr : Region.ready .any ops l = [i, j, k]) (hi : ops[i]? = some oi) (hj : ops[j]? = some oj) (hk : ops[k]? = some ok)
    (hl1 : r1.length = rest.length) (hl2 : r2.length = rest.length) (hl3 : r3.length = rest.length) (hok1 : okFrom ops muts (l.setIfInBounds i true) r1 = true) (hok2 : okFrom ops muts (l.setIfInBounds j true) r2 = true) (hok3 : okFrom ops muts (l.setIfInBounds k true) r3 = true)
    (hgi : guardB ops.toList E oi.guard = some true) (hgj : guardB ops.toList E oj.guard = some true) (hgk : guardB ops.toList E ok.guard = some true)
    (h1 : Step P B n oi (fun E' S' => (∀ y ∈ S, y ∈ S') ∧ DWp P B n ops muts (l.setIfInBounds i true) r1 (keptE ops i pr) Q E' S') E S)
    (h2 : Step P B n oj (fun E' S' => (∀ y ∈ S, y ∈ S') ∧ DWp P B n ops muts (l.setIfInBounds j true) r2 (keptE ops j pr) Q E' S') E S)
    (h3 : Step P B n ok (fun E' S' => (∀ y ∈ S, y ∈ S') ∧ DWp P B n ops muts (l.setIfInBounds k true) r3 (keptE ops k pr) Q E' S') E S) : DWp P B n ops muts l (m :: rest) pr Q E S := by
  refine DWp.forkN hr (by simp) ?_
  intro x hx
  simp only [List.mem_cons, List.mem_nil_iff, or_false] at hx
  rcases hx with rfl | rfl | rfl
  · exact ⟨oi, r1, hi, hl1, hok1, hgi, h1⟩
  · exact ⟨oj, r2, hj, hl2, hok2, hgj, h2⟩
  · exact ⟨ok, r3, hk, hl3, hok3, hgk, h3⟩
theorem DWp.permS {muts : List Nat} {l : Array Bool} {rest : List Nat} {pr : List (Nat × Ents)} {S' : Ents} (h : S.Perm S') (hc : DWp P B n ops muts l rest pr Q E S') : DWp P B n ops muts l rest pr Q E S :=
  fun hgo a w hS hA => hc ⟨hgo.closed, hgo.ok, hgo.sel, fun x hx y hy => h.mem_iff.1 (hgo.proms x hx y hy)⟩ a w (hS.perm h) hA
theorem Step.permS {o : Oper} {K : Env → Ents → Prop} {S' : Ents} (h : S.Perm S') (hs : Step P B n o K E S') : Step P B n o K E S :=
  fun a w hS hA => hs a w (hS.perm h) hA
end
end Go.Lg
namespace Go.Lg
/-- Segments of memory, laid in another order. -/
theorem permFold {α : Type} {l m : List (List α)} (h : l.Perm m) (R : List α) : (l.foldr (· ++ ·) R).Perm (m.foldr (· ++ ·) R) := by
  induction h with
  | nil => exact .refl _
  | cons x _ ih => exact ih.append_left x
  | swap x y l =>
    simp only [List.foldr_cons]
    exact List.perm_append_comm_assoc y x _
  | trans _ _ h1 h2 => exact h1.trans h2
theorem permBy (segs : List Ents) (R : Ents) (p q : List Nat) (h : p.Perm q) : ((p.map (fun i => segs.getD i [])).foldr (· ++ ·) R).Perm ((q.map (fun i => segs.getD i [])).foldr (· ++ ·) R) := permFold (h.map _) R

section
variable {P : Program} {B n : Nat} {ops : Array Oper} {Q : Exit → Env → Ents → Prop} {E : Env} {S : Ents}
def ForkTo (P : Program) (B n : Nat) (ops : Array Oper) (Q : Exit → Env → Ents → Prop) (muts : List Nat) (l : Array Bool) (len : Nat) (pr : List (Nat × Ents)) (E : Env) (S : Ents) (x : Nat) : Prop :=
  ∃ o r, ops[x]? = some o ∧ r.length = len ∧ okFrom ops muts (l.setIfInBounds x true) r = true ∧ guardB ops.toList E o.guard = some true ∧
    Step P B n o (fun E' S' => (∀ y ∈ keptE ops x pr, ∀ z ∈ y.2, z ∈ S') ∧ DWp P B n ops muts (l.setIfInBounds x true) r (keptE ops x pr) Q E' S') E S
theorem DWp.forkTo {muts : List Nat} {l : Array Bool} {m : Nat} (is : List Nat) {rest : List Nat} {pr : List (Nat × Ents)} (hr : Region.ready .any ops l = is) (hne : is ≠ [])
    (h : ∀ x ∈ is, ForkTo P B n ops Q muts l rest.length pr E S x) : DWp P B n ops muts l (m :: rest) pr Q E S := by
  intro hgo a w hS hA
  refine ⟨fun e => absurd (hr.symm.trans e) hne, fun x hx => ?_⟩
  obtain ⟨o, r, ho, hl, hok, hg, h⟩ := h x (by rw [← hr]; exact hx)
  unfold wpOp
  simp only [ho]
  rw [if_pos (guardB_sound hA hg)]
  refine .inl (Oper.upon_monoQ ?_ ?_ (h a w hS hA))
  · rintro a' w' ⟨hb, E', S', hs, ha, hp', q⟩
    rw [kept_proms]
    have := q ⟨hgo.closed.set hx, hok, hgo.sel, hp'⟩ a' w' hs ha
    rw [hl] at this
    refine ⟨fun x' hx' => ?_, wpAnyP_monoQ (fun _ _ _ => Post.later hb) _ _ _ _ _ this⟩
    rw [proms, List.mem_map] at hx'
    obtain ⟨y, hy, rfl⟩ := hx'
    exact fun z hz => hs.holds z (hp' y hy z hz)
  · intro _ _ _ h; exact h.elim
end
end Go.Lg

/- Arguments with their bulk: how many values a reading holds. -/
namespace Go.Lg

inductive RdB (P : Program) (S : Ents) : TypeId → List Value → Nat → Prop
  | leaf {t : TypeId} {cs : List Value} {m : Nat} (h : Rd P S t cs) (hs : ∀ e, P.underlying t ≠ some (.slice e)) (ht : ∀ fs, P.underlying t ≠ some (.struct fs)) (hm : 1 ≤ m) : RdB P S t cs m
  | slice {t e : TypeId} {m : Nat} (h : P.underlying t = some (.slice e)) (v : Value) (rs : List (List Value)) (ns : List Nat) (r : Reads S (P.cellsOf e) v rs.length rs.flatten)
      (w : rs.length * P.bytesOf e ≤ reachBytes) (hc : ∀ r ∈ rs, r.length = P.cellsOf e) (hcap : ∀ a n c, v = .slice a n c → n ≤ c) (hl : ns.length = rs.length)
      (hr : ∀ (i : Nat) (r : List Value) (n : Nat), rs[i]? = some r → ns[i]? = some n → RdB P S e r n) (hm : ns.sum + 1 ≤ m) : RdB P S t [v] m
  | struct {t : TypeId} {fs : Array Field} {m : Nat} (h : P.underlying t = some (.struct fs)) (cs : List Value) (hl : cs.length = P.cellsOf t)
      (hr : ∀ f ∈ fs.toList, RdB P S f.type ((cs.drop f.offset).take (P.cellsOf f.type)) m) (hm : 1 ≤ m) : RdB P S t cs m

section
variable {P : Program} {S : Ents} {t : TypeId} {cs : List Value} {m : Nat}
theorem RdB.pos (h : RdB P S t cs m) : 1 ≤ m := by
  cases h with
  | leaf _ _ _ hm => exact hm
  | slice h v rs ns r w hc hcap hl hr hm => omega
  | struct h cs hl hr hm => exact hm
theorem RdB.mono (h : RdB P S t cs m) : ∀ {m' : Nat}, m ≤ m' → RdB P S t cs m' := by
  induction h with
  | leaf h hs ht hm => intro m' hle; exact .leaf h hs ht (by omega)
  | slice h v rs ns r w hc hcap hl hr hm ih => intro m' hle; exact .slice h v rs ns r w hc hcap hl hr (by omega)
  | struct h cs hl hr hm ih => intro m' hle; exact .struct h cs hl (fun f hf => ih f hf hle) (by omega)
theorem RdB.toRd (h : RdB P S t cs m) : Rd P S t cs := by
  induction h with
  | leaf h _ _ _ => exact h
  | slice h v rs ns r w hc hcap hl hr hm ih =>
    refine .slice h v rs r w hc (fun x hx => ?_) hcap
    obtain ⟨i, hi, rfl⟩ := List.mem_iff_getElem.1 hx
    exact ih i rs[i] (ns[i]'(by omega)) (by simp) (by simp)
  | struct h cs hl hr hm ih => exact .struct h cs hl ih
theorem RdB.open_slice {e : TypeId} (ht : P.underlying t = some (.slice e)) (h : RdB P S t cs m) :
    ∃ (v : Value) (rs : List (List Value)) (ns : List Nat), cs = [v] ∧ Reads S (P.cellsOf e) v rs.length rs.flatten ∧ rs.length * P.bytesOf e ≤ reachBytes ∧ ns.length = rs.length ∧ (∀ (i : Nat) (r : List Value) (n : Nat), rs[i]? = some r → ns[i]? = some n → RdB P S e r n) ∧ ns.sum + 1 ≤ m := by
  cases h with
  | leaf _ hs _ _ => exact absurd ht (hs e)
  | slice h v rs ns r w hc hcap hl hr hm =>
    rw [ht] at h
    cases h
    exact ⟨v, rs, ns, rfl, r, w, hl, hr, hm⟩
  | struct h => rw [ht] at h; cases h
theorem RdB.open_struct {fs : Array Field} (ht : P.underlying t = some (.struct fs)) (h : RdB P S t cs m) :
    cs.length = P.cellsOf t ∧ ∀ f ∈ fs.toList, RdB P S f.type ((cs.drop f.offset).take (P.cellsOf f.type)) m := by
  cases h with
  | leaf _ _ hs _ => exact absurd ht (hs fs)
  | slice h => rw [ht] at h; cases h
  | struct h cs hl hr hm =>
    rw [ht] at h
    cases h
    exact ⟨hl, hr⟩
theorem sum_len : ∀ (ns : List Nat), (∀ n ∈ ns, 1 ≤ n) → ns.length ≤ ns.sum
  | [], _ => by simp
  | n :: ns, h => by
    have := sum_len ns fun x hx => h x (by simp [hx])
    have := h n (by simp)
    simp only [List.length_cons, List.sum_cons]; omega
/-- A slice's length by its bulk. -/
theorem RdB.len {e : TypeId} (ht : P.underlying t = some (.slice e)) (h : RdB P S t cs m) : ∃ (v : Value) (rs : List (List Value)), cs = [v] ∧ Reads S (P.cellsOf e) v rs.length rs.flatten ∧ rs.length + 1 ≤ m := by
  obtain ⟨v, rs, ns, h1, h2, _, h4, h5, h6⟩ := h.open_slice ht
  refine ⟨v, rs, h1, h2, ?_⟩
  have := sum_len ns fun n hn => by
    obtain ⟨i, hi, rfl⟩ := List.mem_iff_getElem.1 hn
    exact (h5 i (rs[i]'(by omega)) ns[i] (by simp) (by simp)).pos
  omega
end

section
variable {H : Type} {enc : TypeId × Value → H} {P : Program} {W : World}
theorem reads_rowsI {e : TypeId} {n : Nat} {a : Addr} {len cap : Nat} {elems : List (DataW H × List MemPlace)} (hc : 0 < P.cellsOf e) (hl : elems.length = len)
    (h : ∀ i, i < len → (W.cells? 0 (a.add (i * P.cellsOf e)) (P.cellsOf e)).bind (DataW.trod enc P W 0 (fun _ => true) true n e) = elems[i]?) :
    ∃ rs : List (List Value), rs.length = len ∧ Reads (All W) (P.cellsOf e) (.slice (some a) len cap) len rs.flatten ∧ (∀ r ∈ rs, r.length = P.cellsOf e) ∧
      ∀ (i : Nat) (r : List Value), rs[i]? = some r → ∃ x, elems[i]? = some x ∧ DataW.trod enc P W 0 (fun _ => true) true n e r = some x := by
  have rowAt : ∀ i, i < len → ∃ r, W.cells? 0 (a.add (i * P.cellsOf e)) (P.cellsOf e) = some r ∧ ∃ x, elems[i]? = some x ∧ DataW.trod enc P W 0 (fun _ => true) true n e r = some x := by
    intro i hi
    have := h i hi
    have hx : elems[i]? = some elems[i] := by simp
    rw [hx] at this
    obtain ⟨r, hr, ht⟩ := Option.bind_eq_some_iff.1 this
    exact ⟨r, hr, elems[i], hx, ht⟩
  let rs : List (List Value) := (List.range len).map fun i => (W.cells? 0 (a.add (i * P.cellsOf e)) (P.cellsOf e)).getD []
  have rsl : rs.length = len := by simp [rs]
  have rsat : ∀ i, i < len → ∃ r, rs[i]? = some r ∧ W.cells? 0 (a.add (i * P.cellsOf e)) (P.cellsOf e) = some r := by
    intro i hi
    obtain ⟨r, hr, _⟩ := rowAt i hi
    exact ⟨r, by simp [rs, hi, hr], hr⟩
  have rin : ∀ r ∈ rs, ∃ i, i < len ∧ W.cells? 0 (a.add (i * P.cellsOf e)) (P.cellsOf e) = some r := by
    intro r hr
    obtain ⟨i, hi, rfl⟩ := List.mem_iff_getElem.1 hr
    obtain ⟨r', h1, h2⟩ := rsat i (by omega)
    have : rs[i]? = some rs[i] := by simp [hi]
    rw [this] at h1
    cases h1
    exact ⟨i, by omega, h2⟩
  have rl : ∀ r ∈ rs, r.length = P.cellsOf e := by
    intro r hr
    obtain ⟨i, _, hw⟩ := rin r hr
    exact (World.cells?_some hw).2.1
  refine ⟨rs, rsl, ⟨by rw [flatten_len _ rs rl, rsl], ?_⟩, rl, ?_⟩
  · by_cases h0 : len = 0
    · subst h0
      exact .inl ⟨⟨_, _, rfl⟩, rfl⟩
    · obtain ⟨b, o, l, e', fz, rfl, hm, h1, h2⟩ := rows_block hc (Nat.pos_of_ne_zero h0) rsl rsat
      exact .inr ⟨b, o, cap, l, e', fz, rfl, hm, h1, h2⟩
  · intro i r hr
    have hi : i < len := by have := (List.getElem?_eq_some_iff.1 hr).1; omega
    obtain ⟨r', h1, h2⟩ := rowAt i hi
    obtain ⟨r2, h3, h4⟩ := rsat i hi
    rw [hr] at h3
    cases h3
    rw [h4] at h1
    cases h1
    exact h2


theorem RdB.of_trod {bk : DataW H → Nat} (hb1 : ∀ d, 1 ≤ bk d) (hb2 : ∀ e s, (e.map bk).sum + 1 ≤ bk (.slice e s)) (hb3 : ∀ ps x, x ∈ ps → bk x ≤ bk (.agg ps)) : ∀ {m n : Nat} {t : TypeId} {cs : List Value} {x : DataW H × List MemPlace}, plain P m t = true →
    DataW.trod enc P W 0 (fun _ => true) true n t cs = some x → (∀ k ∈ x.1.weights P t, k ≤ reachBytes) → RdB P (All W) t cs (bk x.1)
  | m + 1, n, t, cs, x, hp, h, hw => by
    have hp0 := hp
    have h0 := h
    unfold plain at hp
    split at hp
    · rename_i hu; exact .leaf (Rd.of_trod hp0 h0 hw) (fun _ e => by rw [hu] at e; cases e) (fun _ e => by rw [hu] at e; cases e) (hb1 _)
    · rename_i hu; exact .leaf (Rd.of_trod hp0 h0 hw) (fun _ e => by rw [hu] at e; cases e) (fun _ e => by rw [hu] at e; cases e) (hb1 _)
    · rename_i hu; exact .leaf (Rd.of_trod hp0 h0 hw) (fun _ e => by rw [hu] at e; cases e) (fun _ e => by rw [hu] at e; cases e) (hb1 _)
    · rename_i e hu
      simp only [Bool.and_eq_true] at hp
      obtain ⟨hc, hp⟩ := hp
      rcases DataW.trod_slice hu h with ⟨rfl, rfl⟩ | ⟨a, len, cap, elems, rest, k, rfl, rfl, rfl, _, hlc, _, hl, he, _, _⟩
      · exact .slice hu _ [] [] ⟨by simp, .inl ⟨⟨_, _, rfl⟩, rfl⟩⟩ (by simp) (by simp) (by intro a n c h; cases h; exact Nat.le_refl _) rfl (by simp) (hb1 _)
      · obtain ⟨rs, rl, hr, hcell, hrow⟩ := reads_rowsI (cap := cap) (Nat.le_of_ble_eq_true hc) hl he
        have hw' : ∀ k ∈ ((elems.map (·.1)).length + (rest.map (·.1)).length) * P.bytesOf e :: (DataW.weightsAll P e (elems.map (·.1)) ++ DataW.weightsAll P e (rest.map (·.1))), k ≤ reachBytes := by
          simpa [DataW.weights, hu] using hw
        subst rl
        refine .slice hu _ rs ((elems.map (·.1)).map bk) hr ?_ hcell (by intro a n c h; cases h; exact hlc) (by simp [hl]) (fun i r n hr hn => ?_) (hb2 _ _)
        · have := hw' _ (List.mem_cons_self)
          refine Nat.le_trans (Nat.mul_le_mul_right _ ?_) this
          simp [hl]
        · obtain ⟨y, hy, ht⟩ := hrow i r hr
          have hy2 : n = bk y.1 := by
            rw [List.getElem?_map, List.getElem?_map, hy] at hn
            simpa using hn.symm
          subst hy2
          exact RdB.of_trod hb1 hb2 hb3 hp ht fun k hk => hw' k (by
            refine List.mem_cons_of_mem _ (List.mem_append_left _ (weightsAll_mem (List.mem_map.2 ⟨y, List.mem_of_getElem? hy, rfl⟩) k hk)))
    · rename_i fs hu
      obtain ⟨xs, k, rfl, rfl, hl, hxl, hf⟩ := DataW.trod_struct hu h
      refine .struct hu cs hl (fun f hfm => ?_) (hb1 _)
      obtain ⟨i, hi, rfl⟩ := List.mem_iff_getElem.1 hfm
      have hi' : i < fs.size := by simpa using hi
      have hx : i < xs.length := by omega
      have := hf i fs.toList[i] (by simp [hi'])
      rw [List.getElem?_eq_getElem hx] at this
      refine (RdB.of_trod hb1 hb2 hb3 (List.all_eq_true.1 hp _ (List.getElem_mem hi)) this fun k hk => hw k ?_).mono (hb3 _ _ (List.mem_map.2 ⟨xs[i], List.getElem_mem hx, rfl⟩))
      have e1 : (DataW.agg (xs.map (·.1))).weights P t = DataW.weightsEach P (fs.toList.map (·.type)) (xs.map (·.1)) := by simp [DataW.weights, hu]
      show k ∈ DataW.weights P t (.agg (xs.map (·.1)))
      rw [e1]
      exact DataW.weights_mem_each (j := i) (by simp [hi']) (by simp [hx]) k hk
    · simp at hp

theorem RdB.of_arg {bk : DataW H → Nat} (hb1 : ∀ d, 1 ≤ bk d) (hb2 : ∀ e s, (e.map bk).sum + 1 ≤ bk (.slice e s)) (hb3 : ∀ ps x, x ∈ ps → bk x ≤ bk (.agg ps)) {m j b : Nat} {ts : List TypeId} {ds : List (DataW H)} {t : TypeId} {v : Value} {d : DataW H} {ps : List MemPlace} (hp : plain P m t = true)
    (h : DataW.Trod enc P W 0 (fun _ => true) true t v d ps) (hw : (DataW.weightsEach P ts ds).all (· ≤ reachBytes) = true) (ht : ts[j]? = some t) (hd : ds[j]? = some d) (hle : bk d ≤ b) : RdB P (All W) t v.cells.toList b := by
  obtain ⟨n, hn⟩ := h
  exact (RdB.of_trod hb1 hb2 hb3 hp hn fun k hk => by
    have := List.all_eq_true.1 hw k (DataW.weights_mem_each ht hd k hk)
    simpa using this).mono hle
end
end Go.Lg

/- Functions without a body: sums of 64 bits with a carry. -/
namespace Go.Lg
section
variable {P : Program} {n : Nat} {E : Env} {o : Oper}
theorem Gives.add64 {c : Call} {f : FuncId} {fn : Func} {g : Operand} {x y k : Int} (ho : o.op = .call c) (hc : c.callee = .value g) (hg : opd E g = some (.func (.func f) #[] #[]))
    (hf : P.funcs[f]? = some fn) (hname : (fn.name == "runtime.NumGoroutine") = false) (hb : fn.body.isNone = true) (hn : Extern.findNext fn = none) (he : Extern.find fn = some add64Entry)
    (hvs : opds E c.args.toList = some [.int .u64 x, .int .u64 y, .int .u64 k]) (hx : 0 ≤ x) (hy : 0 ≤ y) (hk0 : 0 ≤ k) (hk : k ≤ 1) :
    Gives P n [] E o (.tuple #[.int .u64 ((x + y + k) % 18446744073709551616), .int .u64 ((x + y + k) / 18446744073709551616)]) := by
  intro a w _ hA
  have hargs : c.args.map a.eval = [Value.int .u64 x, .int .u64 y, .int .u64 k].toArray := by
    apply Array.ext'
    simpa using opds_sound hA hvs
  have hh : execOp a.eval o = callFunc f ([Value.int .u64 x, .int .u64 y, .int .u64 k].toArray ++ #[]) := by
    simp [execOp, ho, resolve, hc, opd_sound hA hg, Deferred.ofValue, hargs, invoke]
  rw [hh, run_callFunc_extern hf hname hb hn he]
  have := run_add64 (P := P) x y k hx hy hk0 hk w
  simp only [Array.append_empty]
  rw [this]
  rfl
end
end Go.Lg
