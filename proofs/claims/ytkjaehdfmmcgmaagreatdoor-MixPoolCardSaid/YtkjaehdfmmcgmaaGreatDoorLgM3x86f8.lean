/- A layer over the weakest preconditions of the model: what is known of memory and of the slots, told by rules. -/
import Derived.Test.YtkjaehdfmmcgmaaGreatDoorLgM2x52c3
import Derived.Lib.ConvBytes
import Derived.Laws.BitsLemmas
namespace Go.Lg
open Go.RowKit (Below)

section
variable {P : Program} {B n : Nat} {E : Env} {S : Ents} {o : Oper} {K : Env → Ents → Prop}

theorem Sim.grow {w w' : World} {L : Nat} {ob : Obj} (h : Sim B S w) (hL : L = w.heap.size) (hn : w'.heap[L]? = some ob) (ho : ∀ k, k < w.heap.size → w'.heap[k]? = w.heap[k]?) (hs : w.heap.size ≤ w'.heap.size) : Sim B ((L, ob) :: S) w' := by
  subst hL
  refine ⟨?_, ?_, Nat.le_trans h.base hs⟩
  · intro x hx
    cases hx with
    | head => exact hn
    | tail _ hx => rw [ho x.1 (h.lt hx)]; exact h.holds x hx
  · refine List.pairwise_cons.2 ⟨fun x hx e => ?_, h.own⟩
    have := h.lt hx
    simp only at e
    omega

/-- []byte(s). -/
theorem Step.strToBytes {src dst e : TypeId} {x : Operand} {s : List UInt8} {u : TypeDesc} (hd : dstOk n o.dst = true) (ho : o.op = .convert src dst x)
    (hs : P.underlying src = some u) (hu : P.underlying dst = some (.slice e)) (he : P.underlying e = some (.int .u8)) (hx : opd E x = some (.string (str s)))
    (h : ∀ L g cap, B ≤ L → (∀ x ∈ S, x.1 < L) → (byteCells s ++ g).length = cap → K (putE E o.dst (.slice (some ⟨L, 0, none⟩) s.length cap)) ((L, cel (byteCells s ++ g) e (cap, cap + 1)) :: S)) : Step P B n o K E S := by
  intro a w hS hA
  unfold Oper.wp
  have hr : (execOp a.eval o).run P w = .ok (.value (.slice (some ⟨w.heap.size, 0, none⟩) (str s).size (grownCap w (str s).size 0 e))) (Lib.bytesWorld w e (str s)) := by
    simp only [execOp, ho, opd_sound hA hx, Sem.run_bind, Lib.run_convert_string_bytes (P := P) w src dst e (str s) hs hu he, Result.andThen_ok, Sem.run_pure]
  rw [hr]
  have hc : Lib.bytesCells w e (str s) = (byteCells s ++ List.replicate (grownCap w (str s).size 0 e - (str s).size) (Value.int .u8 0)).toArray := by
    apply Array.ext'
    simp [Lib.bytesCells, byteCells, str]
  have hcap : s.length ≤ grownCap w (str s).size 0 e := grownCap_ge w (str s).size 0 e
  refine ⟨⟨rfl, rfl, rfl, by rw [Lib.bytesWorld_size]; omega, fun k hk => Lib.bytesWorld_at_old w e _ k (Nat.lt_of_lt_of_le hk hS.base)⟩, _, _, ?_, hA.putE hd _, h w.heap.size (List.replicate (grownCap w (str s).size 0 e - (str s).size) (Value.int .u8 0)) (grownCap w (str s).size 0 e) hS.base (fun x hx => hS.lt hx) ?_⟩
  · refine hS.grow rfl ?_ (fun k hk => Lib.bytesWorld_at_old w e _ k hk) (by rw [Lib.bytesWorld_size]; omega)
    rw [Lib.bytesWorld_at_new, hc]
    simp only [List.size_toArray, List.length_append, byteCells_length, List.length_replicate]
    rw [show s.length + (grownCap w (str s).size 0 e - (str s).size) = grownCap w (str s).size 0 e by rw [str_size]; rw [str_size] at hcap; omega]
  · simp only [List.length_append, byteCells_length, List.length_replicate]
    rw [str_size]; rw [str_size] at hcap; omega

/-- copy(bytes, s). -/
theorem Step.copyStr {dT sT elem : TypeId} {x y : Operand} {b o' dLen dCap : Nat} (i : Nat) {s : List UInt8} {l : List Value} (l' : List Value) {e : TypeId} {fz : Nat × Nat} {S' : Ents} (hd : dstOk n o.dst = true)
    (ho : o.op = .call ⟨.builtin .copy, #[x, y], #[dT, sT]⟩) (hu : P.underlying dT = some (.slice elem)) (hs : sizeOfT P elem = some 1)
    (hx : opd E x = some (.slice (some ⟨b, o', none⟩) dLen dCap)) (hy : opd E y = some (.string (str s))) (he : entAt S i = some (b, cel l e fz)) (hB : B ≤ b) (hz : Unfz fz l.length)
    (hl : o' + min s.length dLen ≤ l.length) (hw : wr l o' (byteCells (s.take (min s.length dLen))) = l') (hS' : setEnt S i (b, cel l' e fz) = some S')
    (h : K (putE E o.dst (.int .i64 ((min s.length dLen : Nat) : Int))) S') : Step P B n o K E S := by
  subst hw
  intro a w hS hA
  unfold Oper.wp
  have hgb := hS.holds _ (entAt_mem he)
  have hlen : (byteCells (s.take (min s.length dLen))).length = min s.length dLen := by rw [byteCells_length, List.length_take]; omega
  have h1 := storeCells_run (P := P) b o' e fz (byteCells (s.take (min s.length dLen))) 0 l.toArray w hgb (by rw [hlen]; simpa using hl) (by simpa using hz) (fun x hx => List.all_eq_true.1 (byteCells_one _) x hx)
  have hr : (execOp a.eval o).run P w = .ok (.value (.int .i64 ((min s.length dLen : Nat) : Int))) (w.setRow b (wr l o' (byteCells (s.take (min s.length dLen)))).toArray) := by
    have hm : List.take (min s.length dLen) (List.map (fun b : UInt8 => Value.int IntKind.u8 (b.toNat : Int)) s) = byteCells (s.take (min s.length dLen)) := by
      simp [byteCells, List.map_take]
    have hcopy : (Builtin.copy_ #[dT, sT] o.type #[.slice (some ⟨b, o', none⟩) dLen dCap, .string (str s)]).run P w = .ok (.int .i64 ((min s.length dLen : Nat) : Int)) (w.setRow b (wr l o' (byteCells (s.take (min s.length dLen)))).toArray) := by
      simp only [Nat.add_zero] at h1
      have hmin : Nat.min (str s).size dLen = min s.length dLen := rfl
      simp only [Builtin.copy_]
      simp [run_underlying hu, Builtin.lenOf, Builtin.firstCells, sizeOfT_run hs, hmin]
      have e2 : (str s).data.toList = s := rfl
      simp only [e2]
      rw [hm, h1]
      simp [wr, Result.andThen, goInt]
    simp only [execOp, ho, resolve, invoke, builtin, List.map_toArray, List.map_cons, List.map_nil, opd_sound hA hx, opd_sound hA hy]
    simp [hcopy]
  rw [hr]
  refine ⟨below_setRow hB _, _, S', ?_, hA.putE hd _, h⟩
  exact hS.turn he hS' hB (setRow_heap w b _ _ e fz hgb) (fun k hk => setRow_other w b k _ hk) (by simp)
end
end Go.Lg

namespace Go.Lg

theorem bits_xor_nat (k : IntKind) (j : Nat) (hj : j ≤ k.bits) (hk : ∀ n : Int, 0 ≤ n → n < 2 ^ j → k.wrap n = n) (a b : Nat) (ha : a < 2 ^ j) (hb : b < 2 ^ j) :
    bits .xor k a b = ((a ^^^ b : Nat) : Int) := by
  have hp : 2 ^ j ≤ 2 ^ k.bits := Nat.pow_le_pow_right (by decide) hj
  have ha' : a % 2 ^ k.bits = a := Nat.mod_eq_of_lt (Nat.lt_of_lt_of_le ha hp)
  have hb' : b % 2 ^ k.bits = b := Nat.mod_eq_of_lt (Nat.lt_of_lt_of_le hb hp)
  have cast : ∀ n : Nat, n < 2 ^ j → ((n : Nat) : Int) < 2 ^ j := fun n h => by exact_mod_cast h
  simp only [bits, BitVec.ofInt_natCast, BitVec.toNat_xor, BitVec.toNat_ofNat, ha', hb']
  exact hk _ (Int.natCast_nonneg _) (cast _ (Nat.xor_lt_two_pow ha hb))

theorem wraps_u32 (n : Int) (h₀ : 0 ≤ n) (h₁ : n < 2 ^ 32) : IntKind.u32.wrap n = n := by rw [IntKind.wrap_u32]; omega
theorem wraps_u64 (n : Int) (h₀ : 0 ≤ n) (h₁ : n < 2 ^ 64) : IntKind.u64.wrap n = n := by rw [IntKind.wrap_u64]; omega
theorem wraps_i63 (n : Int) (h₀ : 0 ≤ n) (h₁ : n < 2 ^ 63) : IntKind.i64.wrap n = n := by rw [IntKind.wrap_i64]; omega

section
variable {a b : Nat}
theorem u32_xor (ha : a < 4294967296) (hb : b < 4294967296) : bits .xor .u32 a b = ((a ^^^ b : Nat) : Int) := bits_xor_nat .u32 32 (by decide) wraps_u32 a b ha hb
theorem u32_and (ha : a < 4294967296) (hb : b < 4294967296) : bits .and .u32 a b = ((a &&& b : Nat) : Int) := (bits_nat .u32 32 (by decide) wraps_u32 a b ha hb).1
theorem u32_or (ha : a < 4294967296) (hb : b < 4294967296) : bits .or .u32 a b = ((a ||| b : Nat) : Int) := (bits_nat .u32 32 (by decide) wraps_u32 a b ha hb).2
theorem u8_xor (ha : a < 256) (hb : b < 256) : bits .xor .u8 a b = ((a ^^^ b : Nat) : Int) := bits_xor_nat .u8 8 (by decide) wraps_u8 a b ha hb
theorem u64_and (ha : a < 18446744073709551616) (hb : b < 18446744073709551616) : bits .and .u64 a b = ((a &&& b : Nat) : Int) := (bits_nat .u64 64 (by decide) wraps_u64 a b ha hb).1
theorem u64_or (ha : a < 18446744073709551616) (hb : b < 18446744073709551616) : bits .or .u64 a b = ((a ||| b : Nat) : Int) := (bits_nat .u64 64 (by decide) wraps_u64 a b ha hb).2
theorem i63_xor (ha : a < 9223372036854775808) (hb : b < 9223372036854775808) : bits .xor .i64 a b = ((a ^^^ b : Nat) : Int) := bits_xor_nat .i64 63 (by decide) wraps_i63 a b ha hb
theorem i63_or (ha : a < 9223372036854775808) (hb : b < 9223372036854775808) : bits .or .i64 a b = ((a ||| b : Nat) : Int) := (bits_nat .i64 63 (by decide) wraps_i63 a b ha hb).2
theorem i63_and (ha : a < 9223372036854775808) (hb : b < 9223372036854775808) : bits .and .i64 a b = ((a &&& b : Nat) : Int) := (bits_nat .i64 63 (by decide) wraps_i63 a b ha hb).1
theorem xor_lt32 (ha : a < 4294967296) (hb : b < 4294967296) : a ^^^ b < 4294967296 := Nat.xor_lt_two_pow (n := 32) ha hb
theorem or_lt32 (ha : a < 4294967296) (hb : b < 4294967296) : a ||| b < 4294967296 := Nat.or_lt_two_pow (n := 32) ha hb
theorem and_lt32 (hb : b < 4294967296) : a &&& b < 4294967296 := Nat.and_lt_two_pow (n := 32) a hb
end

/-- A word turned: what is pushed out comes in at the other end. -/
theorem u32_turn {x n m : Nat} (hx : x < 4294967296) (hn : n ≤ 32) (hm : n + m = 32) :
    bits .or .u32 (IntKind.u32.wrap ((x : Int) * 2 ^ (min n IntKind.u32.bits))) ((x : Int).fdiv (2 ^ (min m IntKind.u32.bits))) = ((x * 2 ^ n % 4294967296 + x / 2 ^ m : Nat) : Int) := by
  have hb : IntKind.u32.bits = 32 := rfl
  have e1 : min n 32 = n := by omega
  have e2 : min m 32 = m := by omega
  rw [hb, e1, e2, IntKind.wrap_u32]
  have p1 : (x : Int) * 2 ^ n % 4294967296 = ((x * 2 ^ n % 4294967296 : Nat) : Int) := by simp
  have p2 : (x : Int).fdiv (2 ^ m) = ((x / 2 ^ m : Nat) : Int) := by
    rw [Int.fdiv_eq_ediv_of_nonneg _ (by exact Int.le_of_lt (Int.pow_pos (by decide)))]
    simp
  rw [p1, p2]
  have hlt : x / 2 ^ m < 2 ^ n := by
    rw [Nat.div_lt_iff_lt_mul (Nat.two_pow_pos m), ← Nat.pow_add, hm]; exact hx
  have hle : x / 2 ^ m < 4294967296 := Nat.lt_of_le_of_lt (Nat.div_le_self _ _) hx
  have hmod : x * 2 ^ n % 4294967296 % 2 ^ n = 0 := by
    have : (4294967296 : Nat) = 2 ^ n * 2 ^ m := by rw [← Nat.pow_add, hm]
    rw [this, Nat.mod_mul_right_mod, Nat.mul_mod_left]
  have hz := Nat.mod_lt (x * 2 ^ n) (show 4294967296 > 0 by decide)
  generalize x * 2 ^ n % 4294967296 = z at *
  generalize x / 2 ^ m = y at *
  rw [bits_join .u32 32 (by decide) wraps_u32 n _ _ (by omega) (by exact_mod_cast hmod) (by omega) (by omega) (by exact_mod_cast hlt) (by omega)]
  omega

theorem Gives.shl {P : Program} {n : Nat} {E : Env} {o : Oper} {t yt : TypeId} {x y : Operand} {k k' : IntKind} {a j : Int} {m : Nat} (ho : o.op = .binOp .shl t x y yt) (hx : opd E x = some (.int k a)) (hy : opd E y = some (.int k' j)) (hj : j = (m : Int)) :
    Gives P n [] E o (.int k (k.wrap (a * 2 ^ (min m k.bits)))) := by
  subst hj
  intro a' w _ hA
  have := bin_sound (P := P) (op := .shl) (t := t) (u := .int k a) (v := .int k' (m : Int)) (r := .int k (k.wrap (a * 2 ^ (min m k.bits)))) x y rfl w
  simp only [execOp, ho, opd_sound hA hx, opd_sound hA hy]
  rw [Sem.run_bind] at this ⊢
  simp only [Sem.run_bind] at this ⊢
  generalize hg : (eqGuard BinOp.shl t x y (Value.int k a) (Value.int k' ↑m)).run P w = r at this ⊢
  cases r with
  | ok u w' =>
    simp only [Result.andThen_ok] at this ⊢
    rw [this]; rfl
  | halt h w' => simp [Result.andThen] at this
theorem Gives.shr {P : Program} {n : Nat} {E : Env} {o : Oper} {t yt : TypeId} {x y : Operand} {k k' : IntKind} {a j : Int} {m : Nat} (ho : o.op = .binOp .shr t x y yt) (hx : opd E x = some (.int k a)) (hy : opd E y = some (.int k' j)) (hj : j = (m : Int)) :
    Gives P n [] E o (.int k (a.fdiv (2 ^ (min m k.bits)))) := by
  subst hj
  intro a' w _ hA
  have := bin_sound (P := P) (op := .shr) (t := t) (u := .int k a) (v := .int k' (m : Int)) (r := .int k (a.fdiv (2 ^ (min m k.bits)))) x y rfl w
  simp only [execOp, ho, opd_sound hA hx, opd_sound hA hy]
  simp only [Sem.run_bind] at this ⊢
  generalize hg : (eqGuard BinOp.shr t x y (Value.int k a) (Value.int k' ↑m)).run P w = r at this ⊢
  cases r with
  | ok u w' =>
    simp only [Result.andThen_ok] at this ⊢
    rw [this]; rfl
  | halt h w' => simp [Result.andThen] at this
theorem Reads.form {S : Ents} {sz k : Nat} {v : Value} {xs : List Value} (h : Reads S sz v k xs) : ∃ a c, v = .slice a k c := by
  obtain ⟨_, ⟨⟨a, c, h⟩, rfl⟩ | ⟨b, o, cap, l, e, fz, hv, _⟩⟩ := h
  · exact ⟨a, c, h⟩
  · exact ⟨_, _, hv⟩

theorem Reads.get1 {S : Ents} {v : Value} {xs : List Value} {k : Nat} (h : Reads S 1 v k xs) (h0 : 0 < k) :
    ∃ b o cap l e fz, v = .slice (some ⟨b, o, none⟩) k cap ∧ (b, cel l e fz) ∈ S ∧ o + k ≤ l.length ∧ ∀ i, i < k → l[o + i * 1]? = xs[i]? := by
  obtain ⟨hl, ⟨_, hk⟩ | ⟨b, o, cap, l, e, fz, hv, hm, hle, hx⟩⟩ := h
  · omega
  · refine ⟨b, o, cap, l, e, fz, hv, hm, by omega, fun i hi => ?_⟩
    rw [← hx, List.getElem?_take, if_pos (by omega), List.getElem?_drop, Nat.mul_one]
end Go.Lg

/- Three growing operations of a drawn region, ready in any order. -/
namespace Go.Lg
open Go.RowKit (Below)
section
variable {P : Program} {B n : Nat} {ops : Array Oper} {Q : Exit → Env → Ents → Prop} {E : Env} {S : Ents}
/-- What is asked of one of them. -/
def ForkAt (P : Program) (B n : Nat) (ops : Array Oper) (Q : Exit → Env → Ents → Prop) (muts : List Nat) (l : Array Bool) (len : Nat) (pr : List (Nat × Ents)) (E : Env) (S : Ents) (x : Nat) : Prop :=
  ∃ o r, ops[x]? = some o ∧ r.length = len ∧ okFrom ops muts (l.setIfInBounds x true) r = true ∧ guardB ops.toList E o.guard = some true ∧
    Step P B n o (fun E' S' => (∀ y ∈ S, y ∈ S') ∧ DWp P B n ops muts (l.setIfInBounds x true) r (keptE ops x pr) Q E' S') E S
theorem DWp.permS {muts : List Nat} {l : Array Bool} {rest : List Nat} {pr : List (Nat × Ents)} {S' : Ents} (h : S.Perm S') (hc : DWp P B n ops muts l rest pr Q E S') : DWp P B n ops muts l rest pr Q E S :=
  fun hgo a w hS hA => hc ⟨hgo.closed, hgo.ok, hgo.sel, fun x hx y hy => h.mem_iff.1 (hgo.proms x hx y hy)⟩ a w (hS.perm h) hA
theorem Step.permS {o : Oper} {K : Env → Ents → Prop} {S' : Ents} (h : S.Perm S') (hs : Step P B n o K E S') : Step P B n o K E S :=
  fun a w hS hA => hs a w (hS.perm h) hA
end
end Go.Lg
namespace Go.Lg
/-- Segments of memory, laid in another order. -/
theorem permFold {α : Type} {l m : List (List α)} (h : l.Perm m) (R : List α) : (l.foldr (· ++ ·) R).Perm (m.foldr (· ++ ·) R) := by
  induction h with
  | nil => exact .refl _
  | cons x _ ih => exact ih.append_left x
  | swap x y l =>
    simp only [List.foldr_cons]
    exact List.perm_append_comm_assoc y x _
  | trans _ _ h1 h2 => exact h1.trans h2
theorem permBy (segs : List Ents) (R : Ents) (p q : List Nat) (h : p.Perm q) : ((p.map (fun i => segs.getD i [])).foldr (· ++ ·) R).Perm ((q.map (fun i => segs.getD i [])).foldr (· ++ ·) R) := permFold (h.map _) R

section
variable {P : Program} {B n : Nat} {ops : Array Oper} {Q : Exit → Env → Ents → Prop} {E : Env} {S : Ents}
def ForkTo (P : Program) (B n : Nat) (ops : Array Oper) (Q : Exit → Env → Ents → Prop) (muts : List Nat) (l : Array Bool) (len : Nat) (pr : List (Nat × Ents)) (E : Env) (S : Ents) (x : Nat) : Prop :=
  ∃ o r, ops[x]? = some o ∧ r.length = len ∧ okFrom ops muts (l.setIfInBounds x true) r = true ∧ guardB ops.toList E o.guard = some true ∧
    Step P B n o (fun E' S' => (∀ y ∈ keptE ops x pr, ∀ z ∈ y.2, z ∈ S') ∧ DWp P B n ops muts (l.setIfInBounds x true) r (keptE ops x pr) Q E' S') E S
theorem DWp.forkTo {muts : List Nat} {l : Array Bool} {m : Nat} (is : List Nat) {rest : List Nat} {pr : List (Nat × Ents)} (hr : Region.ready .any ops l = is) (hne : is ≠ [])
    (h : ∀ x ∈ is, ForkTo P B n ops Q muts l rest.length pr E S x) : DWp P B n ops muts l (m :: rest) pr Q E S := by
  intro hgo a w hS hA
  refine ⟨fun e => absurd (hr.symm.trans e) hne, fun x hx => ?_⟩
  obtain ⟨o, r, ho, hl, hok, hg, h⟩ := h x (by rw [← hr]; exact hx)
  unfold wpOp
  simp only [ho]
  rw [if_pos (guardB_sound hA hg)]
  refine .inl (Oper.upon_monoQ ?_ ?_ (h a w hS hA))
  · rintro a' w' ⟨hb, E', S', hs, ha, hp', q⟩
    rw [kept_proms]
    have := q ⟨hgo.closed.set hx, hok, hgo.sel, hp'⟩ a' w' hs ha
    rw [hl] at this
    refine ⟨fun x' hx' => ?_, wpAnyP_monoQ (fun _ _ _ => Post.later hb) _ _ _ _ _ this⟩
    rw [proms, List.mem_map] at hx'
    obtain ⟨y, hy, rfl⟩ := hx'
    exact fun z hz => hs.holds z (hp' y hy z hz)
  · intro _ _ _ h; exact h.elim
end
end Go.Lg
