/- What functions of the given program do, one after the other, told by that layer. -/
import Derived.Test.YtkjaehdfmmcgmaaGreatDoorLgM2x52c3
import Derived.Test.YtkjaehdfmmcgmaaGreatDoorLgM3x86f8
import Derived.Test.YtkjaehdfmmcgmaaGreatDoorEM1x8434
import Derived.Test.YtkjaehdfmmcgmaaGreatDoorProg
import Derived.ProofKit
namespace Go.Proofs.D
open Go.Lg Go.Cv
set_option maxRecDepth 100000

/-! Words of 64 bits as numbers. -/
theorem w64_add {a b : Nat} (h : a + b < 18446744073709551616) : IntKind.u64.wrap ((a : Int) + (b : Int)) = ((a + b : Nat) : Int) := by rw [IntKind.wrap_u64]; omega
theorem w64_mul {a b : Nat} (h : a * b < 18446744073709551616) : IntKind.u64.wrap ((a : Int) * (b : Int)) = ((a * b : Nat) : Int) := by
 rw [IntKind.wrap_u64, ← Int.natCast_mul]; omega
theorem w64_mulm {a b : Nat} : IntKind.u64.wrap ((a : Int) * (b : Int)) = ((a * b % 18446744073709551616 : Nat) : Int) := by
 rw [IntKind.wrap_u64, ← Int.natCast_mul]; omega
theorem w64_shr {a : Nat} (n : Nat) (h : n ≤ 64) : ((a : Int)).fdiv (2 ^ (min n IntKind.u64.bits)) = ((a / 2 ^ n : Nat) : Int) := by
 have e : min n IntKind.u64.bits = n := Nat.min_eq_left h
 rw [e, Int.fdiv_eq_ediv_of_nonneg _ (by exact Int.le_of_lt (Int.pow_pos (by decide)))]
 simp
theorem w64_and32 {a : Nat} (h : a < 18446744073709551616) : bits .and .u64 (a : Int) 4294967295 = ((a % 4294967296 : Nat) : Int) := by
 have := Lg.u64_and h (b := 4294967295) (by decide)
 rw [show ((4294967295 : Nat) : Int) = 4294967295 from rfl] at this
 rw [this, show a &&& 4294967295 = a % 4294967296 from Nat.and_two_pow_sub_one_eq_mod a 32]
theorem w64_and51 {a : Nat} (h : a < 18446744073709551616) : bits .and .u64 (a : Int) 2251799813685247 = ((a % 2251799813685248 : Nat) : Int) := by
 have := Lg.u64_and h (b := 2251799813685247) (by decide)
 rw [show ((2251799813685247 : Nat) : Int) = 2251799813685247 from rfl] at this
 rw [this, show a &&& 2251799813685247 = a % 2251799813685248 from Nat.and_two_pow_sub_one_eq_mod a 51]
theorem val2 {Q : Value → Ents → Prop} {S : Ents} {k l : IntKind} {a b a' b' : Int} (ha : a = a') (hb : b = b') (h : Q (.tuple #[.int k a', .int l b']) S) : Q (.tuple #[.int k a, .int l b]) S := by rw [ha, hb]; exact h
theorem val1 {Q : Value → Ents → Prop} {S : Ents} {k : IntKind} {a a' : Int} (ha : a = a') (h : Q (.int k a') S) : Q (.int k a) S := by rw [ha]; exact h
theorem mul64_eq (x y : Nat) :
  (x / 4294967296) * (y / 4294967296) + ((x / 4294967296) * (y % 4294967296) + (x % 4294967296) * (y % 4294967296) / 4294967296) / 4294967296 + (((x / 4294967296) * (y % 4294967296) + (x % 4294967296) * (y % 4294967296) / 4294967296) % 4294967296 + (x % 4294967296) * (y / 4294967296)) / 4294967296 = x * y / 18446744073709551616 := by
 have hx1 := Nat.div_add_mod x 4294967296
 have hy1 := Nat.div_add_mod y 4294967296
 generalize x / 4294967296 = x1 at *
 generalize x % 4294967296 = x0 at *
 generalize y / 4294967296 = y1 at *
 generalize y % 4294967296 = y0 at *
 have e : x * y = 18446744073709551616 * (x1 * y1) + 4294967296 * (x1 * y0) + 4294967296 * (x0 * y1) + x0 * y0 := by
  rw [← hx1, ← hy1]; grind
 rw [e]
 generalize x1 * y1 = a at *
 generalize x1 * y0 = b at *
 generalize x0 * y1 = c at *
 generalize x0 * y0 = d at *
 omega

section
variable {B : Nat} {S : Ents} {Q : Value → Ents → Prop}
theorem mul64C {x y : Nat} (hx : x < 18446744073709551616) (hy : y < 18446744073709551616) (H : Q (.tuple #[.int .u64 (x * y / 18446744073709551616 : Nat), .int .u64 (x * y % 18446744073709551616 : Nat)]) S) :
  CallWp Tryz.prog B 181 #[.int .u64 (x : Int), .int .u64 (y : Int)] Q S := by
 have b0 : x % 4294967296 < 4294967296 := Nat.mod_lt _ (by decide)
 have b1 : x / 4294967296 < 4294967296 := by omega
 have b2 : y % 4294967296 < 4294967296 := Nat.mod_lt _ (by decide)
 have b3 : y / 4294967296 < 4294967296 := by omega
 have m : ∀ {a b : Nat}, a < 4294967296 → b < 4294967296 → a * b ≤ 18446744065119617025 := fun {a b} ha hb => Nat.mul_le_mul (show a ≤ 4294967295 by omega) (show b ≤ 4294967295 by omega)
 have m00 := m b0 b2
 have m10 := m b1 b2
 have m01 := m b0 b3
 have m11 := m b1 b3
 have heq := mul64_eq x y
 have hlt : x * y / 18446744073709551616 < 18446744073709551616 := by
  rw [Nat.div_lt_iff_lt_mul (by decide)]
  exact Nat.mul_lt_mul_of_lt_of_lt hx hy
 refine Yx (args := [_, _]) Tryz.func181 Tryz.ntmps181 ?_
 refine Yn 2 rfl ?_
 refine Yn 3 rfl ?_
 refine Yn 3 rfl ?_
 refine Yn 3 rfl ?_
 refine Yn 3 rfl ?_
 refine Yn 4 rfl ?_
 refine Yn 7 rfl ?_
 refine Yn 3 rfl ?_
 refine Yn 3 rfl ?_
 refine Yn 6 rfl ?_
 refine Yn 9 rfl ?_
 refine Yn 4 rfl ?_
 refine Wp.ret ⟨trivial, _, ⟨_, _, rfl, rfl, _, _, rfl, rfl, rfl⟩, ?_⟩
 refine val2 ?_ w64_mulm H
 rw [← heq] at hlt ⊢
 simp only [w64_and32 hx, w64_and32 hy, w64_shr 32 (by decide : 32 ≤ 64), show (2 : Nat) ^ 32 = 4294967296 from rfl]
 rw [w64_mul (by omega), w64_mul (by omega), w64_mul (by omega), w64_mul (by omega)]
 simp only [w64_shr 32 (by decide : 32 ≤ 64), show (2 : Nat) ^ 32 = 4294967296 from rfl]
 rw [w64_add (by omega), w64_and32 (by omega)]
 simp only [w64_shr 32 (by decide : 32 ≤ 64), show (2 : Nat) ^ 32 = 4294967296 from rfl]
 rw [w64_add (by omega), w64_add (by omega)]
 simp only [w64_shr 32 (by decide : 32 ≤ 64), show (2 : Nat) ^ 32 = 4294967296 from rfl]
 rw [w64_add (by omega)]
end
end Go.Proofs.D

namespace Go.Proofs.D
open Go.Lg Go.Cv
set_option maxRecDepth 100000

theorem addG {n : Nat} {E : Env} {o : Oper} {c : Call} {g : Operand} {x y k : Int} (ho : o.op = .call c) (hc : c.callee = .value g) (hg : opd E g = some (.func (.func 235) #[] #[]))
  (hvs : opds E c.args.toList = some [.int .u64 x, .int .u64 y, .int .u64 k]) (hx : 0 ≤ x) (hy : 0 ≤ y) (hk0 : 0 ≤ k) (hk : k ≤ 1) :
  Gives Tryz.prog n [] E o (.tuple #[.int .u64 ((x + y + k) % 18446744073709551616), .int .u64 ((x + y + k) / 18446744073709551616)]) :=
 Gives.add64 ho hc hg Tryz.func235 (by kernel_rfl) (by kernel_rfl) (by kernel_rfl) (by kernel_rfl) hvs hx hy hk0 hk

/-- A number of 128 bits. -/
def wid (W : Nat) : Value := .agg #[.int .u64 ((W / 18446744073709551616 : Nat) : Int), .int .u64 ((W % 18446744073709551616 : Nat) : Int)]
theorem wid_hi {W : Nat} (h : W < 41538374868278621028243970633760768) : bits .or .u64 (IntKind.u64.wrap (((W / 18446744073709551616 : Nat) : Int) * 2 ^ (min 13 IntKind.u64.bits))) (((W % 18446744073709551616 : Nat) : Int).fdiv (2 ^ (min 51 IntKind.u64.bits))) = ((W / 2251799813685248 : Nat) : Int) := by
 have h1 : W / 18446744073709551616 < 2251799813685248 := by omega
 have e1 : (2 : Int) ^ (min 13 IntKind.u64.bits) = 8192 := by decide
 rw [e1, w64_shr 51 (by decide), show (8192 : Int) = ((8192 : Nat) : Int) from rfl, w64_mul (by omega)]
 have h2 : W % 18446744073709551616 / 2 ^ 51 < 8192 := by
  have := Nat.mod_lt W (show 18446744073709551616 > 0 by decide)
  omega
 rw [Lg.u64_or (by omega) (by omega)]
 have e2 : W / 18446744073709551616 * 8192 ||| W % 18446744073709551616 / 2 ^ 51 = W / 18446744073709551616 * 8192 + W % 18446744073709551616 / 2 ^ 51 := by
  have := Nat.two_pow_add_eq_or_of_lt (i := 13) h2 (W / 18446744073709551616)
  rw [show (2 : Nat) ^ 13 = 8192 from rfl, Nat.mul_comm] at this
  exact this.symm
 rw [e2]
 omega
theorem cells2 {a b a' b' : Int} (ha : a = a') (hb : b = b') : [Value.int .u64 a, Value.int .u64 b] = [.int .u64 a', .int .u64 b'] := by rw [ha, hb]
section
variable {B : Nat} {S : Ents} {Q : Value → Ents → Prop}
theorem waddC {W x y : Nat} {X : Value} (hX : X = wid W) (hx : x < 18446744073709551616) (hy : y < 18446744073709551616) (hW : W + x * y < 340282366920938463463374607431768211456) (H : Q (wid (W + x * y)) S) :
  CallWp Tryz.prog B 227 #[X, .int .u64 (x : Int), .int .u64 (y : Int)] Q S := by
 subst hX
 unfold wid at H ⊢
 generalize hp : x * y = p at *
 have hl := Nat.mod_lt W (show 18446744073709551616 > 0 by decide)
 have hpl := Nat.mod_lt p (show 18446744073709551616 > 0 by decide)
 refine CallWp.dropRet ?_
 refine Yx (args := [_, _, _]) Tryz.func227 Tryz.ntmps227 ?_
 refine Yq ?_
 refine Yb rfl rfl rfl rfl fun L3 hBL3 hLL3 => ?_
 refine Ya rfl rfl rfl rfl fun L6 hBL6 hLL6 => ?_
 refine OWp.nil ?_
 refine Yg 2 rfl ?_
 refine Yc rfl rfl (mul64C hx hy ?_)
 rw [hp]
 refine Yz 5 rfl ?_
 refine Yg 2 rfl ?_
 refine Yl m1 ?_
 refine OWp.g rfl rfl (addG rfl rfl rfl rfl (by omega) (by omega) (by omega) (by omega)) ?_
 refine Yz 5 rfl ?_
 refine Yg 2 rfl ?_
 refine Yl m1 ?_
 refine Ye 1 rfl ?_
 refine OWp.g rfl rfl (addG rfl rfl rfl rfl (by omega) (by omega) (by omega) (by omega)) ?_
 refine Yz 4 rfl ?_
 refine Yg 2 rfl ?_
 refine OWp.g rfl rfl (Gives.build rfl rfl) ?_
 refine OWp.step rfl (Step.storeAs 0 ([.int .u64 (((W + p) / 18446744073709551616 : Nat) : Int), .int .u64 (((W + p) % 18446744073709551616 : Nat) : Int)]) rfl rfl rfl rfl rfl (by assumption) rfl (Unfz.zero _) rfl (Nat.le_of_ble_eq_true rfl) (cells2 (by omega) (by omega)) rfl ?_)
 refine OWp.nil ?_
 refine Wp.ret ⟨trivial, _, ⟨_, _, _, _, rfl, rfl, ⟨_, _, _, mems, (by first | assumption | rfl)⟩, rfl⟩, ?_⟩
 exact ⟨S, subl, H⟩
theorem whighC {W : Nat} {X : Value} (hX : X = wid W) (hW : W < 41538374868278621028243970633760768) (H : Q (.int .u64 ((W / 2251799813685248 : Nat) : Int)) S) :
  CallWp Tryz.prog B 228 #[X] Q S := by
 subst hX
 refine CallWp.dropRet ?_
 refine Yx (args := [_]) Tryz.func228 Tryz.ntmps228 ?_
 refine Yq ?_
 refine Yb rfl rfl rfl rfl fun L1 hBL1 hLL1 => ?_
 refine Yz 1 rfl ?_
 refine Yg 1 rfl ?_
 refine Yl m0 ?_
 refine Ye 2 rfl ?_
 refine Yl m0 ?_
 refine Yz 3 rfl ?_
 refine Wp.ret ⟨trivial, _, ⟨_, _, rfl, rfl, rfl⟩, ?_⟩
 refine ⟨S, subl, ?_⟩
 exact val1 (wid_hi hW) H
end
end Go.Proofs.D

namespace Go.Proofs.D
open Go.Lg Go.Cv
set_option maxRecDepth 100000

theorem w64_fold {a : Nat} (h : 19 * a < 18446744073709551616) : IntKind.u64.wrap (19 * (a : Int)) = ((19 * a : Nat) : Int) := w64_mul (a := 19) h
theorem w64_foldr {a : Nat} (h : a * 19 < 18446744073709551616) : IntKind.u64.wrap ((a : Int) * 19) = ((a * 19 : Nat) : Int) := w64_mul (b := 19) h
/-- Five limbs. -/
structure El where
 a : Nat
 b : Nat
 c : Nat
 d : Nat
 e : Nat
def El.cells (x : El) : List Value := [.int .u64 (x.a : Int), .int .u64 (x.b : Int), .int .u64 (x.c : Int), .int .u64 (x.d : Int), .int .u64 (x.e : Int)]
def El.val (x : El) : Nat := limb x.a x.b x.c x.d x.e
/-- Limbs below 2^52. -/
def El.ok (x : El) : Prop := x.a < 4503599627370496 ∧ x.b < 4503599627370496 ∧ x.c < 4503599627370496 ∧ x.d < 4503599627370496 ∧ x.e < 4503599627370496
/-- Limbs below 2^62. -/
def El.wide (x : El) : Prop := x.a < 4611686018427387904 ∧ x.b < 4611686018427387904 ∧ x.c < 4611686018427387904 ∧ x.d < 4611686018427387904 ∧ x.e < 4611686018427387904
/-- A row with an element at some place. -/
def elc (p : List Value) (x : El) (s : List Value) : List Value := p ++ (x.cells ++ s)
abbrev M51 : Nat := 2251799813685248
def carried (x : El) : El :=
 let b := x.b + x.a / 2251799813685248
 let c := x.c + b / 2251799813685248
 let d := x.d + c / 2251799813685248
 let e := x.e + d / 2251799813685248
 ⟨x.a % 2251799813685248 + 19 * (e / 2251799813685248), b % 2251799813685248, c % 2251799813685248, d % 2251799813685248, e % 2251799813685248⟩
theorem carried_val (x : El) : (carried x).val % q = x.val % q := by
 have := limb_carry (a := x.a) (b := x.b) (c := x.c) (d := x.d) (e := x.e) rfl rfl rfl rfl
 unfold El.val carried
 simp only
 rw [← this, Nat.add_mul_mod_self_left]
theorem carried_ok {x : El} (h : x.wide) : (carried x).ok := by
 obtain ⟨h1, h2, h3, h4, h5⟩ := h
 unfold El.ok carried
 simp only
 omega
theorem elc_get (p s : List Value) (x : El) {i o : Nat} (hi : i < 5) (ho : o = p.length + i) : (elc p x s)[o]? = x.cells[i]? := by
 subst ho
 unfold elc
 rw [List.getElem?_append_right (by omega), Nat.add_sub_cancel_left, List.getElem?_append_left (by exact hi)]
theorem elc_set (p s : List Value) (x y : El) {i o : Nat} {v : Value} (hi : i < 5) (ho : o = p.length + i) (hv : v.cells.toList = [v]) (hy : y.cells = x.cells.set i v) : wr (elc p x s) o v.cells.toList = elc p y s := by
 subst ho
 rw [hv]
 unfold elc
 have hl : x.cells.length = 5 := rfl
 have e : ∀ l : List Value, ∀ j, j < l.length → wr l j [v] = l.set j v := fun l j h => by
  unfold wr
  rw [List.set_eq_take_append_cons_drop, if_pos h]
  simp
 rw [e _ _ (by simp [hl]; omega), List.set_append_right _ _ (by omega), Nat.add_sub_cancel_left, List.set_append_left _ _ (by exact hi), hy]
theorem elc_len (p s : List Value) (x : El) : (elc p x s).length = p.length + 5 + s.length := by simp [elc, El.cells]; omega
/-- What a pointer to an element points to. -/
def PEl (S : Ents) (v : Value) (x : El) : Prop := ∃ b o L t fz, v = .pointer (some ⟨b, o, none⟩) ∧ (b, cel L t fz) ∈ S ∧ ∀ i, i < 5 → L[o + i]? = x.cells[i]?
theorem PEl.mono {S S' : Ents} {v : Value} {x : El} (h : PEl S v x) (hs : ∀ y ∈ S, y ∈ S') : PEl S' v x := by
 obtain ⟨b, o, L, t, fz, h1, h2, h3⟩ := h
 exact ⟨b, o, L, t, fz, h1, hs _ h2, h3⟩
theorem PEl.of {S : Ents} {b : Nat} {p s : List Value} {x : El} {t : TypeId} (h : (b, cel (elc p x s) t) ∈ S) : PEl S (.pointer (some ⟨b, p.length, none⟩)) x :=
 ⟨b, p.length, _, t, _, rfl, h, fun _ hi => elc_get p s x hi rfl⟩

section
variable {B b : Nat} {S R : Ents} {Q : Value → Ents → Prop} {p s : List Value} {x y z : El} {t : TypeId}
set_option maxHeartbeats 2000000 in
theorem carryC (hB : B ≤ b) (hw : x.wide) (H : Q (.tuple #[]) ((b, cel (elc p (carried x) s) t) :: R)) :
  CallWp Tryz.prog B 216 #[.pointer (some ⟨b, p.length, none⟩)] Q ((b, cel (elc p x s) t) :: R) := by
 obtain ⟨h1, h2, h3, h4, h5⟩ := hw
 have hlen : ∀ y : El, ∀ i, i < 5 → p.length + i * 1 + 1 ≤ (elc p y s).length := fun y i hi => by rw [elc_len]; omega
 obtain ⟨b', hb'⟩ : ∃ n, n = x.b + x.a / 2251799813685248 := ⟨_, rfl⟩
 obtain ⟨c', hc'⟩ : ∃ n, n = x.c + b' / 2251799813685248 := ⟨_, rfl⟩
 obtain ⟨d', hd'⟩ : ∃ n, n = x.d + c' / 2251799813685248 := ⟨_, rfl⟩
 obtain ⟨e', he'⟩ : ∃ n, n = x.e + d' / 2251799813685248 := ⟨_, rfl⟩
 have hcar : carried x = ⟨x.a % 2251799813685248 + 19 * (e' / 2251799813685248), b' % 2251799813685248, c' % 2251799813685248, d' % 2251799813685248, e' % 2251799813685248⟩ := by
  unfold carried; simp only; rw [he', hd', hc', hb']
 rw [hcar] at H
 refine Yx (args := [_]) Tryz.func216 Tryz.ntmps216 ?_
 refine Wp.seq (Wp.regionDraw [0, 1, 2, 3, 4, 5, 6, 7, 8, 9, 10, 11, 12] [12] rfl (by decide +kernel) ?_)
 refine DWp.evs 2 rfl ?_
 refine DWp.g rfl rfl rfl rfl (Gives.indexAddrArr (1) rfl rfl rfl rfl rfl rfl (by omega)) ?_
 refine DWp.load (.head _) rfl rfl rfl rfl rfl rfl ((elc_get p s x (i := 1) (by decide) rfl).trans (rfl : _ = some (Value.int .u64 ((x.b : Nat) : Int)))) ?_
 refine DWp.evs 2 rfl ?_
 refine DWp.g rfl rfl rfl rfl (Gives.indexAddrArr (0) rfl rfl rfl rfl rfl rfl (by omega)) ?_
 refine DWp.load (.head _) rfl rfl rfl rfl rfl rfl ((elc_get p s x (i := 0) (by decide) rfl).trans (rfl : _ = some (Value.int .u64 ((x.a : Nat) : Int)))) ?_
 refine DWp.evs 3 rfl ?_
 refine DWp.g rfl rfl rfl rfl (Gives.indexAddrArr (1) rfl rfl rfl rfl rfl rfl (by omega)) ?_
 rw [w64_shr 51 (by decide), w64_add (by omega), show x.b + x.a / 2 ^ 51 = b' by rw [hb']]
 refine DWp.stepAll rfl rfl rfl rfl (Step.storeAs 0 (elc p ⟨x.a, b', x.c, x.d, x.e⟩ s) rfl rfl rfl rfl rfl (by assumption) rfl (Unfz.zero _) rfl (hlen _ 1 (by decide)) (elc_set p s _ _ (i := 1) (by decide) rfl rfl rfl) rfl ?_)
 refine DWp.nil ?_
 refine Wp.seq (Wp.regionDraw [0, 1, 2, 3, 4, 5, 6, 7, 8, 9, 10, 11, 12] [12] rfl (by decide +kernel) ?_)
 refine DWp.evs 2 rfl ?_
 refine DWp.g rfl rfl rfl rfl (Gives.indexAddrArr (2) rfl rfl rfl rfl rfl rfl (by omega)) ?_
 refine DWp.load (.head _) rfl rfl rfl rfl rfl rfl ((elc_get p s (⟨x.a, b', x.c, x.d, x.e⟩ : El) (i := 2) (by decide) rfl).trans (rfl : _ = some (Value.int .u64 ((x.c : Nat) : Int)))) ?_
 refine DWp.evs 2 rfl ?_
 refine DWp.g rfl rfl rfl rfl (Gives.indexAddrArr (1) rfl rfl rfl rfl rfl rfl (by omega)) ?_
 refine DWp.load (.head _) rfl rfl rfl rfl rfl rfl ((elc_get p s (⟨x.a, b', x.c, x.d, x.e⟩ : El) (i := 1) (by decide) rfl).trans (rfl : _ = some (Value.int .u64 ((b' : Nat) : Int)))) ?_
 refine DWp.evs 3 rfl ?_
 refine DWp.g rfl rfl rfl rfl (Gives.indexAddrArr (2) rfl rfl rfl rfl rfl rfl (by omega)) ?_
 rw [w64_shr 51 (by decide), w64_add (by omega), show x.c + b' / 2 ^ 51 = c' by rw [hc']]
 refine DWp.stepAll rfl rfl rfl rfl (Step.storeAs 0 (elc p ⟨x.a, b', c', x.d, x.e⟩ s) rfl rfl rfl rfl rfl (by assumption) rfl (Unfz.zero _) rfl (hlen _ 2 (by decide)) (elc_set p s _ _ (i := 2) (by decide) rfl rfl rfl) rfl ?_)
 refine DWp.nil ?_
 refine Wp.seq (Wp.regionDraw [0, 1, 2, 3, 4, 5, 6, 7, 8, 9, 10, 11, 12] [12] rfl (by decide +kernel) ?_)
 refine DWp.evs 2 rfl ?_
 refine DWp.g rfl rfl rfl rfl (Gives.indexAddrArr (3) rfl rfl rfl rfl rfl rfl (by omega)) ?_
 refine DWp.load (.head _) rfl rfl rfl rfl rfl rfl ((elc_get p s (⟨x.a, b', c', x.d, x.e⟩ : El) (i := 3) (by decide) rfl).trans (rfl : _ = some (Value.int .u64 ((x.d : Nat) : Int)))) ?_
 refine DWp.evs 2 rfl ?_
 refine DWp.g rfl rfl rfl rfl (Gives.indexAddrArr (2) rfl rfl rfl rfl rfl rfl (by omega)) ?_
 refine DWp.load (.head _) rfl rfl rfl rfl rfl rfl ((elc_get p s (⟨x.a, b', c', x.d, x.e⟩ : El) (i := 2) (by decide) rfl).trans (rfl : _ = some (Value.int .u64 ((c' : Nat) : Int)))) ?_
 refine DWp.evs 3 rfl ?_
 refine DWp.g rfl rfl rfl rfl (Gives.indexAddrArr (3) rfl rfl rfl rfl rfl rfl (by omega)) ?_
 rw [w64_shr 51 (by decide), w64_add (by omega), show x.d + c' / 2 ^ 51 = d' by rw [hd']]
 refine DWp.stepAll rfl rfl rfl rfl (Step.storeAs 0 (elc p ⟨x.a, b', c', d', x.e⟩ s) rfl rfl rfl rfl rfl (by assumption) rfl (Unfz.zero _) rfl (hlen _ 3 (by decide)) (elc_set p s _ _ (i := 3) (by decide) rfl rfl rfl) rfl ?_)
 refine DWp.nil ?_
 refine Wp.seq (Wp.regionDraw [0, 1, 2, 3, 4, 5, 6, 7, 8, 9, 10, 11, 12] [12] rfl (by decide +kernel) ?_)
 refine DWp.evs 2 rfl ?_
 refine DWp.g rfl rfl rfl rfl (Gives.indexAddrArr (4) rfl rfl rfl rfl rfl rfl (by omega)) ?_
 refine DWp.load (.head _) rfl rfl rfl rfl rfl rfl ((elc_get p s (⟨x.a, b', c', d', x.e⟩ : El) (i := 4) (by decide) rfl).trans (rfl : _ = some (Value.int .u64 ((x.e : Nat) : Int)))) ?_
 refine DWp.evs 2 rfl ?_
 refine DWp.g rfl rfl rfl rfl (Gives.indexAddrArr (3) rfl rfl rfl rfl rfl rfl (by omega)) ?_
 refine DWp.load (.head _) rfl rfl rfl rfl rfl rfl ((elc_get p s (⟨x.a, b', c', d', x.e⟩ : El) (i := 3) (by decide) rfl).trans (rfl : _ = some (Value.int .u64 ((d' : Nat) : Int)))) ?_
 refine DWp.evs 3 rfl ?_
 refine DWp.g rfl rfl rfl rfl (Gives.indexAddrArr (4) rfl rfl rfl rfl rfl rfl (by omega)) ?_
 rw [w64_shr 51 (by decide), w64_add (by omega), show x.e + d' / 2 ^ 51 = e' by rw [he']]
 refine DWp.stepAll rfl rfl rfl rfl (Step.storeAs 0 (elc p ⟨x.a, b', c', d', e'⟩ s) rfl rfl rfl rfl rfl (by assumption) rfl (Unfz.zero _) rfl (hlen _ 4 (by decide)) (elc_set p s _ _ (i := 4) (by decide) rfl rfl rfl) rfl ?_)
 refine DWp.nil ?_
 refine Wp.seq (Wp.regionDraw [0, 1, 2, 3, 4, 5, 6, 7, 8, 9, 10, 11, 12, 13, 14, 15] [15] rfl (by decide +kernel) ?_)
 refine DWp.evs 3 rfl ?_
 refine DWp.g rfl rfl rfl rfl (Gives.indexAddrArr (0) rfl rfl rfl rfl rfl rfl (by omega)) ?_
 refine DWp.load (.head _) rfl rfl rfl rfl rfl rfl ((elc_get p s (⟨x.a, b', c', d', e'⟩ : El) (i := 0) (by decide) rfl).trans (rfl : _ = some (Value.int .u64 ((x.a : Nat) : Int)))) ?_
 refine DWp.evs 3 rfl ?_
 refine DWp.g rfl rfl rfl rfl (Gives.indexAddrArr (4) rfl rfl rfl rfl rfl rfl (by omega)) ?_
 refine DWp.load (.head _) rfl rfl rfl rfl rfl rfl ((elc_get p s (⟨x.a, b', c', d', e'⟩ : El) (i := 4) (by decide) rfl).trans (rfl : _ = some (Value.int .u64 ((e' : Nat) : Int)))) ?_
 refine DWp.evs 4 rfl ?_
 refine DWp.g rfl rfl rfl rfl (Gives.indexAddrArr (0) rfl rfl rfl rfl rfl rfl (by omega)) ?_
 rw [w64_and51 (by omega), w64_shr 51 (by decide), w64_fold (by omega), w64_add (by omega), show e' / 2 ^ 51 = e' / 2251799813685248 from rfl]
 refine DWp.stepAll rfl rfl rfl rfl (Step.storeAs 0 (elc p ⟨x.a % 2251799813685248 + 19 * (e' / 2251799813685248), b', c', d', e'⟩ s) rfl rfl rfl rfl rfl (by assumption) rfl (Unfz.zero _) rfl (hlen _ 0 (by decide)) (elc_set p s _ _ (i := 0) (by decide) rfl rfl rfl) rfl ?_)
 refine DWp.nil ?_
 refine Wp.seq (Wp.regionDraw [0, 1, 2, 3, 4, 5, 6, 7] [7] rfl (by decide +kernel) ?_)
 refine DWp.evs 2 rfl ?_
 refine DWp.g rfl rfl rfl rfl (Gives.indexAddrArr (1) rfl rfl rfl rfl rfl rfl (by omega)) ?_
 refine DWp.load (.head _) rfl rfl rfl rfl rfl rfl ((elc_get p s (⟨x.a % 2251799813685248 + 19 * (e' / 2251799813685248), b', c', d', e'⟩ : El) (i := 1) (by decide) rfl).trans (rfl : _ = some (Value.int .u64 ((b' : Nat) : Int)))) ?_
 refine DWp.evs 2 rfl ?_
 refine DWp.g rfl rfl rfl rfl (Gives.indexAddrArr (1) rfl rfl rfl rfl rfl rfl (by omega)) ?_
 rw [w64_and51 (by omega)]
 refine DWp.stepAll rfl rfl rfl rfl (Step.storeAs 0 (elc p ⟨x.a % 2251799813685248 + 19 * (e' / 2251799813685248), b' % 2251799813685248, c', d', e'⟩ s) rfl rfl rfl rfl rfl (by assumption) rfl (Unfz.zero _) rfl (hlen _ 1 (by decide)) (elc_set p s _ _ (i := 1) (by decide) rfl rfl rfl) rfl ?_)
 refine DWp.nil ?_
 refine Wp.seq (Wp.regionDraw [0, 1, 2, 3, 4, 5, 6, 7] [7] rfl (by decide +kernel) ?_)
 refine DWp.evs 2 rfl ?_
 refine DWp.g rfl rfl rfl rfl (Gives.indexAddrArr (2) rfl rfl rfl rfl rfl rfl (by omega)) ?_
 refine DWp.load (.head _) rfl rfl rfl rfl rfl rfl ((elc_get p s (⟨x.a % 2251799813685248 + 19 * (e' / 2251799813685248), b' % 2251799813685248, c', d', e'⟩ : El) (i := 2) (by decide) rfl).trans (rfl : _ = some (Value.int .u64 ((c' : Nat) : Int)))) ?_
 refine DWp.evs 2 rfl ?_
 refine DWp.g rfl rfl rfl rfl (Gives.indexAddrArr (2) rfl rfl rfl rfl rfl rfl (by omega)) ?_
 rw [w64_and51 (by omega)]
 refine DWp.stepAll rfl rfl rfl rfl (Step.storeAs 0 (elc p ⟨x.a % 2251799813685248 + 19 * (e' / 2251799813685248), b' % 2251799813685248, c' % 2251799813685248, d', e'⟩ s) rfl rfl rfl rfl rfl (by assumption) rfl (Unfz.zero _) rfl (hlen _ 2 (by decide)) (elc_set p s _ _ (i := 2) (by decide) rfl rfl rfl) rfl ?_)
 refine DWp.nil ?_
 refine Wp.seq (Wp.regionDraw [0, 1, 2, 3, 4, 5, 6, 7] [7] rfl (by decide +kernel) ?_)
 refine DWp.evs 2 rfl ?_
 refine DWp.g rfl rfl rfl rfl (Gives.indexAddrArr (3) rfl rfl rfl rfl rfl rfl (by omega)) ?_
 refine DWp.load (.head _) rfl rfl rfl rfl rfl rfl ((elc_get p s (⟨x.a % 2251799813685248 + 19 * (e' / 2251799813685248), b' % 2251799813685248, c' % 2251799813685248, d', e'⟩ : El) (i := 3) (by decide) rfl).trans (rfl : _ = some (Value.int .u64 ((d' : Nat) : Int)))) ?_
 refine DWp.evs 2 rfl ?_
 refine DWp.g rfl rfl rfl rfl (Gives.indexAddrArr (3) rfl rfl rfl rfl rfl rfl (by omega)) ?_
 rw [w64_and51 (by omega)]
 refine DWp.stepAll rfl rfl rfl rfl (Step.storeAs 0 (elc p ⟨x.a % 2251799813685248 + 19 * (e' / 2251799813685248), b' % 2251799813685248, c' % 2251799813685248, d' % 2251799813685248, e'⟩ s) rfl rfl rfl rfl rfl (by assumption) rfl (Unfz.zero _) rfl (hlen _ 3 (by decide)) (elc_set p s _ _ (i := 3) (by decide) rfl rfl rfl) rfl ?_)
 refine DWp.nil ?_
 refine Wp.regionDraw [0, 1, 2, 3, 4, 5, 6, 7] [7] rfl (by decide +kernel) ?_
 refine DWp.evs 2 rfl ?_
 refine DWp.g rfl rfl rfl rfl (Gives.indexAddrArr (4) rfl rfl rfl rfl rfl rfl (by omega)) ?_
 refine DWp.load (.head _) rfl rfl rfl rfl rfl rfl ((elc_get p s (⟨x.a % 2251799813685248 + 19 * (e' / 2251799813685248), b' % 2251799813685248, c' % 2251799813685248, d' % 2251799813685248, e'⟩ : El) (i := 4) (by decide) rfl).trans (rfl : _ = some (Value.int .u64 ((e' : Nat) : Int)))) ?_
 refine DWp.evs 2 rfl ?_
 refine DWp.g rfl rfl rfl rfl (Gives.indexAddrArr (4) rfl rfl rfl rfl rfl rfl (by omega)) ?_
 rw [w64_and51 (by omega)]
 refine DWp.stepAll rfl rfl rfl rfl (Step.storeAs 0 (elc p ⟨x.a % 2251799813685248 + 19 * (e' / 2251799813685248), b' % 2251799813685248, c' % 2251799813685248, d' % 2251799813685248, e' % 2251799813685248⟩ s) rfl rfl rfl rfl rfl (by assumption) rfl (Unfz.zero _) rfl (hlen _ 4 (by decide)) (elc_set p s _ _ (i := 4) (by decide) rfl rfl rfl) rfl ?_)
 refine DWp.nil ?_
 refine ⟨trivial, [], rfl, ?_⟩
 exact H
end
end Go.Proofs.D

namespace Go.Proofs.D
open Go.Lg Go.Cv
set_option maxRecDepth 100000

theorem w64_sub {a b : Nat} (h : b ≤ a) (ha : a < 18446744073709551616) : IntKind.u64.wrap ((a : Int) - (b : Int)) = ((a - b : Nat) : Int) := by rw [IntKind.wrap_u64]; omega
theorem w64_lo {a : Nat} (h : a + 9007199254740916 < 18446744073709551616) : IntKind.u64.wrap ((a : Int) + 9007199254740916) = ((a + 9007199254740916 : Nat) : Int) := w64_add (b := 9007199254740916) h
theorem w64_hi {a : Nat} (h : a + 9007199254740988 < 18446744073709551616) : IntKind.u64.wrap ((a : Int) + 9007199254740988) = ((a + 9007199254740988 : Nat) : Int) := w64_add (b := 9007199254740988) h
def plusE (x y : El) : El := carried ⟨x.a + y.a, x.b + y.b, x.c + y.c, x.d + y.d, x.e + y.e⟩
theorem plusE_ok {x y : El} (hx : x.ok) (hy : y.ok) : (plusE x y).ok := by
 unfold plusE
 refine carried_ok ?_
 unfold El.ok at hx hy
 unfold El.wide
 simp only
 omega
theorem plusE_val (x y : El) : (plusE x y).val % q = addq x.val y.val := by
 unfold plusE addq
 rw [carried_val]
 congr 1
 simp only [El.val, limb]
 omega
def minusE (x y : El) : El := carried ⟨x.a + 9007199254740916 - y.a, x.b + 9007199254740988 - y.b, x.c + 9007199254740988 - y.c, x.d + 9007199254740988 - y.d, x.e + 9007199254740988 - y.e⟩
theorem minusE_ok {x y : El} (hx : x.ok) (hy : y.ok) : (minusE x y).ok := by
 unfold minusE
 refine carried_ok ?_
 unfold El.ok at hx hy
 unfold El.wide
 simp only
 omega
theorem minusE_val {x y : El} (hx : x.ok) (hy : y.ok) : (minusE x y).val % q = subq x.val y.val := by
 unfold minusE
 rw [carried_val]
 unfold El.ok at hx hy
 have h : y.val ≤ x.val + 4 * q := by simp only [El.val, limb, q]; omega
 rw [← subq_add h]
 congr 1
 simp only [El.val, limb, q]
 omega
section
variable {B b : Nat} {S R : Ents} {Q : Value → Ents → Prop} {p s : List Value} {x y z : El} {t : TypeId} {pa pb : Value}
set_option maxHeartbeats 4000000 in
theorem plusC (hB : B ≤ b) (hx : PEl ((b, cel (elc p z s) t) :: R) pa x) (hy : PEl ((b, cel (elc p z s) t) :: R) pb y) (hxo : x.ok) (hyo : y.ok) (H : Q (.tuple #[]) ((b, cel (elc p (plusE x y) s) t) :: R)) :
  CallWp Tryz.prog B 208 #[.pointer (some ⟨b, p.length, none⟩), pa, pb] Q ((b, cel (elc p z s) t) :: R) := by
 obtain ⟨ba, oa, La, ta, fa, rfl, hma, hga⟩ := hx
 obtain ⟨bb, ob, Lb, tb, fb, rfl, hmb, hgb⟩ := hy
 have hlen : ∀ y : El, ∀ i, i < 5 → p.length + i * 1 + 1 ≤ (elc p y s).length := fun y i hi => by rw [elc_len]; omega
 have hxo2 := hxo
 have hyo2 := hyo
 unfold El.ok at hxo2 hyo2
 unfold plusE at H
 refine Yx (args := [_, _, _]) Tryz.func208 Tryz.ntmps208 ?_
 refine Wp.seq (Wp.regionDraw [0, 1, 2, 3, 4, 5, 6, 7, 8, 9, 10, 11, 12, 13, 14, 15, 16, 17, 18, 19, 20, 21, 22, 23, 24, 25, 26, 27, 28, 29, 30, 31, 32, 33, 34, 35, 36, 37, 38, 39, 40, 41, 42, 43, 44, 45, 46, 47, 48, 49, 50, 51, 53, 56, 59, 62, 52, 54, 55, 57, 58, 60, 61, 63, 64] [52, 55, 58, 61, 64] rfl (by decide +kernel) ?_)
 refine DWp.evs 7 rfl ?_
 refine DWp.g rfl rfl rfl rfl (Gives.indexAddrArr (0) rfl rfl rfl rfl rfl rfl (by omega)) ?_
 refine DWp.load hma rfl rfl rfl rfl rfl rfl ((hga 0 (by decide)).trans (rfl : _ = some (Value.int .u64 ((x.a : Nat) : Int)))) ?_
 refine DWp.evs 2 rfl ?_
 refine DWp.g rfl rfl rfl rfl (Gives.indexAddrArr (0) rfl rfl rfl rfl rfl rfl (by omega)) ?_
 refine DWp.load hmb rfl rfl rfl rfl rfl rfl ((hgb 0 (by decide)).trans (rfl : _ = some (Value.int .u64 ((y.a : Nat) : Int)))) ?_
 refine DWp.evs 3 rfl ?_
 refine DWp.g rfl rfl rfl rfl (Gives.indexAddrArr (1) rfl rfl rfl rfl rfl rfl (by omega)) ?_
 refine DWp.load hma rfl rfl rfl rfl rfl rfl ((hga 1 (by decide)).trans (rfl : _ = some (Value.int .u64 ((x.b : Nat) : Int)))) ?_
 refine DWp.evs 2 rfl ?_
 refine DWp.g rfl rfl rfl rfl (Gives.indexAddrArr (1) rfl rfl rfl rfl rfl rfl (by omega)) ?_
 refine DWp.load hmb rfl rfl rfl rfl rfl rfl ((hgb 1 (by decide)).trans (rfl : _ = some (Value.int .u64 ((y.b : Nat) : Int)))) ?_
 refine DWp.evs 3 rfl ?_
 refine DWp.g rfl rfl rfl rfl (Gives.indexAddrArr (2) rfl rfl rfl rfl rfl rfl (by omega)) ?_
 refine DWp.load hma rfl rfl rfl rfl rfl rfl ((hga 2 (by decide)).trans (rfl : _ = some (Value.int .u64 ((x.c : Nat) : Int)))) ?_
 refine DWp.evs 2 rfl ?_
 refine DWp.g rfl rfl rfl rfl (Gives.indexAddrArr (2) rfl rfl rfl rfl rfl rfl (by omega)) ?_
 refine DWp.load hmb rfl rfl rfl rfl rfl rfl ((hgb 2 (by decide)).trans (rfl : _ = some (Value.int .u64 ((y.c : Nat) : Int)))) ?_
 refine DWp.evs 3 rfl ?_
 refine DWp.g rfl rfl rfl rfl (Gives.indexAddrArr (3) rfl rfl rfl rfl rfl rfl (by omega)) ?_
 refine DWp.load hma rfl rfl rfl rfl rfl rfl ((hga 3 (by decide)).trans (rfl : _ = some (Value.int .u64 ((x.d : Nat) : Int)))) ?_
 refine DWp.evs 2 rfl ?_
 refine DWp.g rfl rfl rfl rfl (Gives.indexAddrArr (3) rfl rfl rfl rfl rfl rfl (by omega)) ?_
 refine DWp.load hmb rfl rfl rfl rfl rfl rfl ((hgb 3 (by decide)).trans (rfl : _ = some (Value.int .u64 ((y.d : Nat) : Int)))) ?_
 refine DWp.evs 3 rfl ?_
 refine DWp.g rfl rfl rfl rfl (Gives.indexAddrArr (4) rfl rfl rfl rfl rfl rfl (by omega)) ?_
 refine DWp.load hma rfl rfl rfl rfl rfl rfl ((hga 4 (by decide)).trans (rfl : _ = some (Value.int .u64 ((x.e : Nat) : Int)))) ?_
 refine DWp.evs 2 rfl ?_
 refine DWp.g rfl rfl rfl rfl (Gives.indexAddrArr (4) rfl rfl rfl rfl rfl rfl (by omega)) ?_
 refine DWp.load hmb rfl rfl rfl rfl rfl rfl ((hgb 4 (by decide)).trans (rfl : _ = some (Value.int .u64 ((y.e : Nat) : Int)))) ?_
 refine DWp.evs 2 rfl ?_
 refine DWp.g rfl rfl rfl rfl (Gives.indexAddrArr (0) rfl rfl rfl rfl rfl rfl (by omega)) ?_
 rw [w64_add (by omega), w64_add (by omega), w64_add (by omega), w64_add (by omega), w64_add (by omega)]
 refine DWp.evs 4 rfl ?_
 refine DWp.stepAll rfl rfl rfl rfl (Step.storeAs 0 (elc p ⟨x.a + y.a, z.b, z.c, z.d, z.e⟩ s) rfl rfl rfl rfl rfl (by assumption) rfl (Unfz.zero _) rfl (hlen _ 0 (by decide)) (elc_set p s _ _ (i := 0) (by decide) rfl rfl rfl) rfl ?_)
 refine DWp.g rfl rfl rfl rfl (Gives.indexAddrArr (1) rfl rfl rfl rfl rfl rfl (by omega)) ?_
 refine DWp.stepAll rfl rfl rfl rfl (Step.storeAs 0 (elc p ⟨x.a + y.a, x.b + y.b, z.c, z.d, z.e⟩ s) rfl rfl rfl rfl rfl (by assumption) rfl (Unfz.zero _) rfl (hlen _ 1 (by decide)) (elc_set p s _ _ (i := 1) (by decide) rfl rfl rfl) rfl ?_)
 refine DWp.g rfl rfl rfl rfl (Gives.indexAddrArr (2) rfl rfl rfl rfl rfl rfl (by omega)) ?_
 refine DWp.stepAll rfl rfl rfl rfl (Step.storeAs 0 (elc p ⟨x.a + y.a, x.b + y.b, x.c + y.c, z.d, z.e⟩ s) rfl rfl rfl rfl rfl (by assumption) rfl (Unfz.zero _) rfl (hlen _ 2 (by decide)) (elc_set p s _ _ (i := 2) (by decide) rfl rfl rfl) rfl ?_)
 refine DWp.g rfl rfl rfl rfl (Gives.indexAddrArr (3) rfl rfl rfl rfl rfl rfl (by omega)) ?_
 refine DWp.stepAll rfl rfl rfl rfl (Step.storeAs 0 (elc p ⟨x.a + y.a, x.b + y.b, x.c + y.c, x.d + y.d, z.e⟩ s) rfl rfl rfl rfl rfl (by assumption) rfl (Unfz.zero _) rfl (hlen _ 3 (by decide)) (elc_set p s _ _ (i := 3) (by decide) rfl rfl rfl) rfl ?_)
 refine DWp.g rfl rfl rfl rfl (Gives.indexAddrArr (4) rfl rfl rfl rfl rfl rfl (by omega)) ?_
 refine DWp.stepAll rfl rfl rfl rfl (Step.storeAs 0 (elc p ⟨x.a + y.a, x.b + y.b, x.c + y.c, x.d + y.d, x.e + y.e⟩ s) rfl rfl rfl rfl rfl (by assumption) rfl (Unfz.zero _) rfl (hlen _ 4 (by decide)) (elc_set p s _ _ (i := 4) (by decide) rfl rfl rfl) rfl ?_)
 refine DWp.nil ?_
 refine Wp.region ?_
 refine Ye 1 rfl ?_
 refine Yc rfl rfl (carryC hB (by unfold El.wide; simp only; omega) ?_)
 refine OWp.nil ?_
 refine ⟨trivial, [], rfl, ?_⟩
 exact H
set_option maxHeartbeats 4000000 in
theorem minusC (hB : B ≤ b) (hx : PEl ((b, cel (elc p z s) t) :: R) pa x) (hy : PEl ((b, cel (elc p z s) t) :: R) pb y) (hxo : x.ok) (hyo : y.ok) (H : Q (.tuple #[]) ((b, cel (elc p (minusE x y) s) t) :: R)) :
  CallWp Tryz.prog B 207 #[.pointer (some ⟨b, p.length, none⟩), pa, pb] Q ((b, cel (elc p z s) t) :: R) := by
 obtain ⟨ba, oa, La, ta, fa, rfl, hma, hga⟩ := hx
 obtain ⟨bb, ob, Lb, tb, fb, rfl, hmb, hgb⟩ := hy
 have hlen : ∀ y : El, ∀ i, i < 5 → p.length + i * 1 + 1 ≤ (elc p y s).length := fun y i hi => by rw [elc_len]; omega
 have hxo2 := hxo
 have hyo2 := hyo
 unfold El.ok at hxo2 hyo2
 unfold minusE at H
 refine Yx (args := [_, _, _]) Tryz.func207 Tryz.ntmps207 ?_
 refine Wp.seq (Wp.regionDraw [0, 1, 2, 3, 4, 5, 6, 7, 8, 9, 10, 11, 12, 13, 14, 15, 16, 17, 18, 19, 20, 21, 22, 23, 24, 25, 26, 27, 28, 29, 30, 31, 32, 33, 34, 35, 36, 37, 38, 39, 40, 41, 42, 43, 44, 45, 46, 47, 48, 49, 50, 51, 52, 53, 54, 55, 56, 58, 61, 64, 67, 57, 59, 60, 62, 63, 65, 66, 68, 69] [57, 60, 63, 66, 69] rfl (by decide +kernel) ?_)
 refine DWp.evs 7 rfl ?_
 refine DWp.g rfl rfl rfl rfl (Gives.indexAddrArr (0) rfl rfl rfl rfl rfl rfl (by omega)) ?_
 refine DWp.load hma rfl rfl rfl rfl rfl rfl ((hga 0 (by decide)).trans (rfl : _ = some (Value.int .u64 ((x.a : Nat) : Int)))) ?_
 refine DWp.evs 3 rfl ?_
 refine DWp.g rfl rfl rfl rfl (Gives.indexAddrArr (0) rfl rfl rfl rfl rfl rfl (by omega)) ?_
 refine DWp.load hmb rfl rfl rfl rfl rfl rfl ((hgb 0 (by decide)).trans (rfl : _ = some (Value.int .u64 ((y.a : Nat) : Int)))) ?_
 refine DWp.evs 3 rfl ?_
 refine DWp.g rfl rfl rfl rfl (Gives.indexAddrArr (1) rfl rfl rfl rfl rfl rfl (by omega)) ?_
 refine DWp.load hma rfl rfl rfl rfl rfl rfl ((hga 1 (by decide)).trans (rfl : _ = some (Value.int .u64 ((x.b : Nat) : Int)))) ?_
 refine DWp.evs 3 rfl ?_
 refine DWp.g rfl rfl rfl rfl (Gives.indexAddrArr (1) rfl rfl rfl rfl rfl rfl (by omega)) ?_
 refine DWp.load hmb rfl rfl rfl rfl rfl rfl ((hgb 1 (by decide)).trans (rfl : _ = some (Value.int .u64 ((y.b : Nat) : Int)))) ?_
 refine DWp.evs 3 rfl ?_
 refine DWp.g rfl rfl rfl rfl (Gives.indexAddrArr (2) rfl rfl rfl rfl rfl rfl (by omega)) ?_
 refine DWp.load hma rfl rfl rfl rfl rfl rfl ((hga 2 (by decide)).trans (rfl : _ = some (Value.int .u64 ((x.c : Nat) : Int)))) ?_
 refine DWp.evs 3 rfl ?_
 refine DWp.g rfl rfl rfl rfl (Gives.indexAddrArr (2) rfl rfl rfl rfl rfl rfl (by omega)) ?_
 refine DWp.load hmb rfl rfl rfl rfl rfl rfl ((hgb 2 (by decide)).trans (rfl : _ = some (Value.int .u64 ((y.c : Nat) : Int)))) ?_
 refine DWp.evs 3 rfl ?_
 refine DWp.g rfl rfl rfl rfl (Gives.indexAddrArr (3) rfl rfl rfl rfl rfl rfl (by omega)) ?_
 refine DWp.load hma rfl rfl rfl rfl rfl rfl ((hga 3 (by decide)).trans (rfl : _ = some (Value.int .u64 ((x.d : Nat) : Int)))) ?_
 refine DWp.evs 3 rfl ?_
 refine DWp.g rfl rfl rfl rfl (Gives.indexAddrArr (3) rfl rfl rfl rfl rfl rfl (by omega)) ?_
 refine DWp.load hmb rfl rfl rfl rfl rfl rfl ((hgb 3 (by decide)).trans (rfl : _ = some (Value.int .u64 ((y.d : Nat) : Int)))) ?_
 refine DWp.evs 3 rfl ?_
 refine DWp.g rfl rfl rfl rfl (Gives.indexAddrArr (4) rfl rfl rfl rfl rfl rfl (by omega)) ?_
 refine DWp.load hma rfl rfl rfl rfl rfl rfl ((hga 4 (by decide)).trans (rfl : _ = some (Value.int .u64 ((x.e : Nat) : Int)))) ?_
 refine DWp.evs 3 rfl ?_
 refine DWp.g rfl rfl rfl rfl (Gives.indexAddrArr (4) rfl rfl rfl rfl rfl rfl (by omega)) ?_
 refine DWp.load hmb rfl rfl rfl rfl rfl rfl ((hgb 4 (by decide)).trans (rfl : _ = some (Value.int .u64 ((y.e : Nat) : Int)))) ?_
 refine DWp.evs 2 rfl ?_
 refine DWp.g rfl rfl rfl rfl (Gives.indexAddrArr (0) rfl rfl rfl rfl rfl rfl (by omega)) ?_
 rw [w64_lo (by omega), w64_sub (by omega) (by omega), w64_hi (by omega), w64_sub (by omega) (by omega), w64_hi (by omega), w64_sub (by omega) (by omega), w64_hi (by omega), w64_sub (by omega) (by omega), w64_hi (by omega), w64_sub (by omega) (by omega)]
 refine DWp.evs 4 rfl ?_
 refine DWp.stepAll rfl rfl rfl rfl (Step.storeAs 0 (elc p ⟨x.a + 9007199254740916 - y.a, z.b, z.c, z.d, z.e⟩ s) rfl rfl rfl rfl rfl (by assumption) rfl (Unfz.zero _) rfl (hlen _ 0 (by decide)) (elc_set p s _ _ (i := 0) (by decide) rfl rfl rfl) rfl ?_)
 refine DWp.g rfl rfl rfl rfl (Gives.indexAddrArr (1) rfl rfl rfl rfl rfl rfl (by omega)) ?_
 refine DWp.stepAll rfl rfl rfl rfl (Step.storeAs 0 (elc p ⟨x.a + 9007199254740916 - y.a, x.b + 9007199254740988 - y.b, z.c, z.d, z.e⟩ s) rfl rfl rfl rfl rfl (by assumption) rfl (Unfz.zero _) rfl (hlen _ 1 (by decide)) (elc_set p s _ _ (i := 1) (by decide) rfl rfl rfl) rfl ?_)
 refine DWp.g rfl rfl rfl rfl (Gives.indexAddrArr (2) rfl rfl rfl rfl rfl rfl (by omega)) ?_
 refine DWp.stepAll rfl rfl rfl rfl (Step.storeAs 0 (elc p ⟨x.a + 9007199254740916 - y.a, x.b + 9007199254740988 - y.b, x.c + 9007199254740988 - y.c, z.d, z.e⟩ s) rfl rfl rfl rfl rfl (by assumption) rfl (Unfz.zero _) rfl (hlen _ 2 (by decide)) (elc_set p s _ _ (i := 2) (by decide) rfl rfl rfl) rfl ?_)
 refine DWp.g rfl rfl rfl rfl (Gives.indexAddrArr (3) rfl rfl rfl rfl rfl rfl (by omega)) ?_
 refine DWp.stepAll rfl rfl rfl rfl (Step.storeAs 0 (elc p ⟨x.a + 9007199254740916 - y.a, x.b + 9007199254740988 - y.b, x.c + 9007199254740988 - y.c, x.d + 9007199254740988 - y.d, z.e⟩ s) rfl rfl rfl rfl rfl (by assumption) rfl (Unfz.zero _) rfl (hlen _ 3 (by decide)) (elc_set p s _ _ (i := 3) (by decide) rfl rfl rfl) rfl ?_)
 refine DWp.g rfl rfl rfl rfl (Gives.indexAddrArr (4) rfl rfl rfl rfl rfl rfl (by omega)) ?_
 refine DWp.stepAll rfl rfl rfl rfl (Step.storeAs 0 (elc p ⟨x.a + 9007199254740916 - y.a, x.b + 9007199254740988 - y.b, x.c + 9007199254740988 - y.c, x.d + 9007199254740988 - y.d, x.e + 9007199254740988 - y.e⟩ s) rfl rfl rfl rfl rfl (by assumption) rfl (Unfz.zero _) rfl (hlen _ 4 (by decide)) (elc_set p s _ _ (i := 4) (by decide) rfl rfl rfl) rfl ?_)
 refine DWp.nil ?_
 refine Wp.region ?_
 refine Ye 1 rfl ?_
 refine Yc rfl rfl (carryC hB (by unfold El.wide; simp only; omega) ?_)
 refine OWp.nil ?_
 refine ⟨trivial, [], rfl, ?_⟩
 exact H
end
end Go.Proofs.D

namespace Go.Proofs.D
open Go.Lg Go.Cv
set_option maxRecDepth 100000

def rows0 (x y : El) : Nat := x.a * y.a + x.b * (y.e * 19) + x.c * (y.d * 19) + x.d * (y.c * 19) + x.e * (y.b * 19)
def rows1 (x y : El) : Nat := x.a * y.b + x.b * y.a + x.c * (y.e * 19) + x.d * (y.d * 19) + x.e * (y.c * 19)
def rows2 (x y : El) : Nat := x.a * y.c + x.b * y.b + x.c * y.a + x.d * (y.e * 19) + x.e * (y.d * 19)
def rows3 (x y : El) : Nat := x.a * y.d + x.b * y.c + x.c * y.b + x.d * y.a + x.e * (y.e * 19)
def rows4 (x y : El) : Nat := x.a * y.e + x.b * y.d + x.c * y.c + x.d * y.b + x.e * y.a
def wideE (r0 r1 r2 r3 r4 : Nat) : El := ⟨r0 % 2251799813685248 + 19 * (r4 / 2251799813685248), r1 % 2251799813685248 + r0 / 2251799813685248, r2 % 2251799813685248 + r1 / 2251799813685248, r3 % 2251799813685248 + r2 / 2251799813685248, r4 % 2251799813685248 + r3 / 2251799813685248⟩
def timesE (x y : El) : El := carried (wideE (rows0 x y) (rows1 x y) (rows2 x y) (rows3 x y) (rows4 x y))
theorem timesE_val (x y : El) : (timesE x y).val % q = mulq x.val y.val := by
 unfold timesE mulq
 rw [carried_val]
 have h1 := limb_wide (a := rows0 x y) (b := rows1 x y) (c := rows2 x y) (d := rows3 x y) (e := rows4 x y)
 have h2 := limb_mul x.a x.b x.c x.d x.e y.a y.b y.c y.d y.e
 unfold El.val wideE
 simp only
 have e : (limb x.a x.b x.c x.d x.e * limb y.a y.b y.c y.d y.e) % q = limb (rows0 x y) (rows1 x y) (rows2 x y) (rows3 x y) (rows4 x y) % q := by
  rw [← h2, Nat.add_mul_mod_self_left]; rfl
 rw [e, ← h1, Nat.add_mul_mod_self_left]
theorem prod_le {a b m n : Nat} (ha : a < m) (hb : b < n) : a * b ≤ m * n := Nat.mul_le_mul (Nat.le_of_lt ha) (Nat.le_of_lt hb)
theorem rows_le {x y : El} (hx : x.ok) (hy : y.ok) : rows0 x y ≤ 1770887431076116955136 * 1000000000000 ∧ rows1 x y ≤ 1770887431076116955136 * 1000000000000 ∧ rows2 x y ≤ 1770887431076116955136 * 1000000000000 ∧ rows3 x y ≤ 1770887431076116955136 * 1000000000000 ∧ rows4 x y ≤ 101412048018258352119736256430080 := by
 obtain ⟨h1, h2, h3, h4, h5⟩ := hx
 obtain ⟨g1, g2, g3, g4, g5⟩ := hy
 have p00 := prod_le h1 g1
 have p01 := prod_le h1 g2
 have p02 := prod_le h1 g3
 have p03 := prod_le h1 g4
 have p04 := prod_le h1 g5
 have p10 := prod_le h2 g1
 have p11 := prod_le h2 g2
 have p12 := prod_le h2 g3
 have p13 := prod_le h2 g4
 have p14 := prod_le h2 g5
 have p20 := prod_le h3 g1
 have p21 := prod_le h3 g2
 have p22 := prod_le h3 g3
 have p23 := prod_le h3 g4
 have p24 := prod_le h3 g5
 have p30 := prod_le h4 g1
 have p31 := prod_le h4 g2
 have p32 := prod_le h4 g3
 have p33 := prod_le h4 g4
 have p34 := prod_le h4 g5
 have p40 := prod_le h5 g1
 have p41 := prod_le h5 g2
 have p42 := prod_le h5 g3
 have p43 := prod_le h5 g4
 have p44 := prod_le h5 g5
 unfold rows0 rows1 rows2 rows3 rows4
 simp only [← Nat.mul_assoc]
 omega
theorem wideE_wide {x y : El} (hx : x.ok) (hy : y.ok) : (wideE (rows0 x y) (rows1 x y) (rows2 x y) (rows3 x y) (rows4 x y)).wide := by
 obtain ⟨h0, h1, h2, h3, h4⟩ := rows_le hx hy
 generalize rows0 x y = r0 at *
 generalize rows1 x y = r1 at *
 generalize rows2 x y = r2 at *
 generalize rows3 x y = r3 at *
 generalize rows4 x y = r4 at *
 unfold wideE El.wide
 simp only
 omega
theorem timesE_ok {x y : El} (hx : x.ok) (hy : y.ok) : (timesE x y).ok := carried_ok (wideE_wide hx hy)
section
variable {B b : Nat} {S R : Ents} {Q : Value → Ents → Prop} {p s : List Value} {x y z : El} {t : TypeId} {pa pb : Value}
set_option maxHeartbeats 8000000 in
theorem timesC (hB : B ≤ b) (hx : PEl ((b, cel (elc p z s) t) :: R) pa x) (hy : PEl ((b, cel (elc p z s) t) :: R) pb y) (hxo : x.ok) (hyo : y.ok) (H : Q (.tuple #[]) ((b, cel (elc p (timesE x y) s) t) :: R)) :
  CallWp Tryz.prog B 211 #[.pointer (some ⟨b, p.length, none⟩), pa, pb] Q ((b, cel (elc p z s) t) :: R) := by
 obtain ⟨ba, oa, La, ta, fa, rfl, hma, hga⟩ := hx
 obtain ⟨bb, ob, Lb, tb, fb, rfl, hmb, hgb⟩ := hy
 have hlen : ∀ y : El, ∀ i, i < 5 → p.length + i * 1 + 1 ≤ (elc p y s).length := fun y i hi => by rw [elc_len]; omega
 have hwide := wideE_wide hxo hyo
 obtain ⟨l0, l1, l2, l3, l4⟩ := rows_le hxo hyo
 obtain ⟨r0, hr0⟩ : ∃ n, n = rows0 x y := ⟨_, rfl⟩
 obtain ⟨r1, hr1⟩ : ∃ n, n = rows1 x y := ⟨_, rfl⟩
 obtain ⟨r2, hr2⟩ : ∃ n, n = rows2 x y := ⟨_, rfl⟩
 obtain ⟨r3, hr3⟩ : ∃ n, n = rows3 x y := ⟨_, rfl⟩
 obtain ⟨r4, hr4⟩ : ∃ n, n = rows4 x y := ⟨_, rfl⟩
 unfold timesE at H
 rw [← hr0, ← hr1, ← hr2, ← hr3, ← hr4] at H hwide
 rw [← hr0] at l0
 rw [← hr1] at l1
 rw [← hr2] at l2
 rw [← hr3] at l3
 rw [← hr4] at l4
 obtain ⟨h1, h2, h3, h4, h5⟩ := hxo
 obtain ⟨g1, g2, g3, g4, g5⟩ := hyo
 unfold rows0 at hr0
 unfold rows1 at hr1
 unfold rows2 at hr2
 unfold rows3 at hr3
 unfold rows4 at hr4
 refine CallWp.dropRet ?_
 refine Yx (args := [_, _, _]) Tryz.func211 Tryz.ntmps211 ?_
 refine Wp.seq (Wp.regionDraw [0, 1, 2, 3, 4, 5, 6, 7, 8, 9, 10, 11, 12, 13, 14, 15, 16, 17, 18, 19, 20, 21, 22, 23, 24] [] rfl (by decide +kernel) ?_)
 refine DWp.evs 2 rfl ?_
 refine DWp.g rfl rfl rfl rfl (Gives.indexAddrArr (0) rfl rfl rfl rfl rfl rfl (by omega)) ?_
 refine DWp.load hma rfl rfl rfl rfl rfl rfl ((hga 0 (by decide)).trans (rfl : _ = some (Value.int .u64 ((x.a : Nat) : Int)))) ?_
 refine DWp.evs 2 rfl ?_
 refine DWp.g rfl rfl rfl rfl (Gives.indexAddrArr (1) rfl rfl rfl rfl rfl rfl (by omega)) ?_
 refine DWp.load hma rfl rfl rfl rfl rfl rfl ((hga 1 (by decide)).trans (rfl : _ = some (Value.int .u64 ((x.b : Nat) : Int)))) ?_
 refine DWp.evs 2 rfl ?_
 refine DWp.g rfl rfl rfl rfl (Gives.indexAddrArr (2) rfl rfl rfl rfl rfl rfl (by omega)) ?_
 refine DWp.load hma rfl rfl rfl rfl rfl rfl ((hga 2 (by decide)).trans (rfl : _ = some (Value.int .u64 ((x.c : Nat) : Int)))) ?_
 refine DWp.evs 2 rfl ?_
 refine DWp.g rfl rfl rfl rfl (Gives.indexAddrArr (3) rfl rfl rfl rfl rfl rfl (by omega)) ?_
 refine DWp.load hma rfl rfl rfl rfl rfl rfl ((hga 3 (by decide)).trans (rfl : _ = some (Value.int .u64 ((x.d : Nat) : Int)))) ?_
 refine DWp.evs 2 rfl ?_
 refine DWp.g rfl rfl rfl rfl (Gives.indexAddrArr (4) rfl rfl rfl rfl rfl rfl (by omega)) ?_
 refine DWp.load hma rfl rfl rfl rfl rfl rfl ((hga 4 (by decide)).trans (rfl : _ = some (Value.int .u64 ((x.e : Nat) : Int)))) ?_
 refine DWp.evs 5 rfl ?_
 refine DWp.nil ?_
 refine Wp.seq (Wp.regionDraw [0, 1, 2, 3, 4, 5, 6, 7, 8, 9, 10, 11, 12, 13, 14, 15, 16, 17, 18, 19, 20, 21, 22, 23, 24] [] rfl (by decide +kernel) ?_)
 refine DWp.evs 2 rfl ?_
 refine DWp.g rfl rfl rfl rfl (Gives.indexAddrArr (0) rfl rfl rfl rfl rfl rfl (by omega)) ?_
 refine DWp.load hmb rfl rfl rfl rfl rfl rfl ((hgb 0 (by decide)).trans (rfl : _ = some (Value.int .u64 ((y.a : Nat) : Int)))) ?_
 refine DWp.evs 2 rfl ?_
 refine DWp.g rfl rfl rfl rfl (Gives.indexAddrArr (1) rfl rfl rfl rfl rfl rfl (by omega)) ?_
 refine DWp.load hmb rfl rfl rfl rfl rfl rfl ((hgb 1 (by decide)).trans (rfl : _ = some (Value.int .u64 ((y.b : Nat) : Int)))) ?_
 refine DWp.evs 2 rfl ?_
 refine DWp.g rfl rfl rfl rfl (Gives.indexAddrArr (2) rfl rfl rfl rfl rfl rfl (by omega)) ?_
 refine DWp.load hmb rfl rfl rfl rfl rfl rfl ((hgb 2 (by decide)).trans (rfl : _ = some (Value.int .u64 ((y.c : Nat) : Int)))) ?_
 refine DWp.evs 2 rfl ?_
 refine DWp.g rfl rfl rfl rfl (Gives.indexAddrArr (3) rfl rfl rfl rfl rfl rfl (by omega)) ?_
 refine DWp.load hmb rfl rfl rfl rfl rfl rfl ((hgb 3 (by decide)).trans (rfl : _ = some (Value.int .u64 ((y.d : Nat) : Int)))) ?_
 refine DWp.evs 2 rfl ?_
 refine DWp.g rfl rfl rfl rfl (Gives.indexAddrArr (4) rfl rfl rfl rfl rfl rfl (by omega)) ?_
 refine DWp.load hmb rfl rfl rfl rfl rfl rfl ((hgb 4 (by decide)).trans (rfl : _ = some (Value.int .u64 ((y.e : Nat) : Int)))) ?_
 refine DWp.evs 5 rfl ?_
 refine DWp.nil ?_
 refine Yn 12 rfl ?_
 show Wp _ _ _ _ _ _ _
 refine Wp.weaken (E' := [(0, .pointer (some ⟨b, p.length, none⟩)), (6, .int .u64 (x.a : Int)), (7, .int .u64 (x.b : Int)), (8, .int .u64 (x.c : Int)), (9, .int .u64 (x.d : Int)), (10, .int .u64 (x.e : Int)), (11, .int .u64 (y.a : Int)), (12, .int .u64 (y.b : Int)), (13, .int .u64 (y.c : Int)), (14, .int .u64 (y.d : Int)), (15, .int .u64 (y.e : Int)), (16, .int .u64 ((y.b * 19 : Nat) : Int)), (17, .int .u64 ((y.c * 19 : Nat) : Int)), (18, .int .u64 ((y.d * 19 : Nat) : Int)), (19, .int .u64 ((y.e * 19 : Nat) : Int))]) (.cons rfl (.cons rfl (.cons rfl (.cons rfl (.cons rfl (.cons rfl (.cons rfl (.cons rfl (.cons rfl (.cons rfl (.cons rfl (.cons' rfl (int_eq (w64_foldr (by omega))) (.cons' rfl (int_eq (w64_foldr (by omega))) (.cons' rfl (int_eq (w64_foldr (by omega))) (.cons' rfl (int_eq (w64_foldr (by omega))) (.nil _)))))))))))))))) (fun _ h => h) ?_
 refine Yq ?_
 refine OWp.g rfl rfl (Gives.build rfl rfl) ?_
 refine Ye 2 rfl ?_
 refine Yc rfl rfl (waddC (W := 0) (x := x.a) (y := y.a) rfl (by omega) (by omega) (by have := prod_le h1 (show y.a < 85568392920039424 by omega); omega) ?_)
 refine Ye 2 rfl ?_
 refine Yc rfl rfl (waddC (W := 0 + x.a * y.a) (x := x.b) (y := (y.e * 19)) rfl (by omega) (by omega) (by have := prod_le h2 (show (y.e * 19) < 85568392920039424 by omega); omega) ?_)
 refine Ye 2 rfl ?_
 refine Yc rfl rfl (waddC (W := 0 + x.a * y.a + x.b * (y.e * 19)) (x := x.c) (y := (y.d * 19)) rfl (by omega) (by omega) (by have := prod_le h3 (show (y.d * 19) < 85568392920039424 by omega); omega) ?_)
 refine Ye 2 rfl ?_
 refine Yc rfl rfl (waddC (W := 0 + x.a * y.a + x.b * (y.e * 19) + x.c * (y.d * 19)) (x := x.d) (y := (y.c * 19)) rfl (by omega) (by omega) (by have := prod_le h4 (show (y.c * 19) < 85568392920039424 by omega); omega) ?_)
 refine Ye 2 rfl ?_
 refine Yc rfl rfl (waddC (W := 0 + x.a * y.a + x.b * (y.e * 19) + x.c * (y.d * 19) + x.d * (y.c * 19)) (x := x.e) (y := (y.b * 19)) rfl (by omega) (by omega) (by have := prod_le h5 (show (y.b * 19) < 85568392920039424 by omega); omega) ?_)
 rw [show 0 + x.a * y.a + x.b * (y.e * 19) + x.c * (y.d * 19) + x.d * (y.c * 19) + x.e * (y.b * 19) = r0 by rw [hr0, Nat.zero_add]]
 refine Ya rfl rfl rfl rfl fun L20 hBL20 hLL20 => ?_
 refine OWp.step rfl (Step.storeAs 0 ([.int .u64 ((r0 / 18446744073709551616 : Nat) : Int), .int .u64 ((r0 % 18446744073709551616 : Nat) : Int)]) rfl rfl rfl rfl rfl (by assumption) rfl (Unfz.zero _) rfl (Nat.le_of_ble_eq_true rfl) rfl rfl ?_)
 refine OWp.nil ?_
 refine Yq ?_
 refine OWp.g rfl rfl (Gives.build rfl rfl) ?_
 refine Ye 2 rfl ?_
 refine Yc rfl rfl (waddC (W := 0) (x := x.a) (y := y.b) rfl (by omega) (by omega) (by have := prod_le h1 (show y.b < 85568392920039424 by omega); omega) ?_)
 refine Ye 2 rfl ?_
 refine Yc rfl rfl (waddC (W := 0 + x.a * y.b) (x := x.b) (y := y.a) rfl (by omega) (by omega) (by have := prod_le h2 (show y.a < 85568392920039424 by omega); omega) ?_)
 refine Ye 2 rfl ?_
 refine Yc rfl rfl (waddC (W := 0 + x.a * y.b + x.b * y.a) (x := x.c) (y := (y.e * 19)) rfl (by omega) (by omega) (by have := prod_le h3 (show (y.e * 19) < 85568392920039424 by omega); omega) ?_)
 refine Ye 2 rfl ?_
 refine Yc rfl rfl (waddC (W := 0 + x.a * y.b + x.b * y.a + x.c * (y.e * 19)) (x := x.d) (y := (y.d * 19)) rfl (by omega) (by omega) (by have := prod_le h4 (show (y.d * 19) < 85568392920039424 by omega); omega) ?_)
 refine Ye 2 rfl ?_
 refine Yc rfl rfl (waddC (W := 0 + x.a * y.b + x.b * y.a + x.c * (y.e * 19) + x.d * (y.d * 19)) (x := x.e) (y := (y.c * 19)) rfl (by omega) (by omega) (by have := prod_le h5 (show (y.c * 19) < 85568392920039424 by omega); omega) ?_)
 rw [show 0 + x.a * y.b + x.b * y.a + x.c * (y.e * 19) + x.d * (y.d * 19) + x.e * (y.c * 19) = r1 by rw [hr1, Nat.zero_add]]
 refine Ya rfl rfl rfl rfl fun L21 hBL21 hLL21 => ?_
 refine OWp.step rfl (Step.storeAs 0 ([.int .u64 ((r1 / 18446744073709551616 : Nat) : Int), .int .u64 ((r1 % 18446744073709551616 : Nat) : Int)]) rfl rfl rfl rfl rfl (by assumption) rfl (Unfz.zero _) rfl (Nat.le_of_ble_eq_true rfl) rfl rfl ?_)
 refine OWp.nil ?_
 refine Yq ?_
 refine OWp.g rfl rfl (Gives.build rfl rfl) ?_
 refine Ye 2 rfl ?_
 refine Yc rfl rfl (waddC (W := 0) (x := x.a) (y := y.c) rfl (by omega) (by omega) (by have := prod_le h1 (show y.c < 85568392920039424 by omega); omega) ?_)
 refine Ye 2 rfl ?_
 refine Yc rfl rfl (waddC (W := 0 + x.a * y.c) (x := x.b) (y := y.b) rfl (by omega) (by omega) (by have := prod_le h2 (show y.b < 85568392920039424 by omega); omega) ?_)
 refine Ye 2 rfl ?_
 refine Yc rfl rfl (waddC (W := 0 + x.a * y.c + x.b * y.b) (x := x.c) (y := y.a) rfl (by omega) (by omega) (by have := prod_le h3 (show y.a < 85568392920039424 by omega); omega) ?_)
 refine Ye 2 rfl ?_
 refine Yc rfl rfl (waddC (W := 0 + x.a * y.c + x.b * y.b + x.c * y.a) (x := x.d) (y := (y.e * 19)) rfl (by omega) (by omega) (by have := prod_le h4 (show (y.e * 19) < 85568392920039424 by omega); omega) ?_)
 refine Ye 2 rfl ?_
 refine Yc rfl rfl (waddC (W := 0 + x.a * y.c + x.b * y.b + x.c * y.a + x.d * (y.e * 19)) (x := x.e) (y := (y.d * 19)) rfl (by omega) (by omega) (by have := prod_le h5 (show (y.d * 19) < 85568392920039424 by omega); omega) ?_)
 rw [show 0 + x.a * y.c + x.b * y.b + x.c * y.a + x.d * (y.e * 19) + x.e * (y.d * 19) = r2 by rw [hr2, Nat.zero_add]]
 refine Ya rfl rfl rfl rfl fun L22 hBL22 hLL22 => ?_
 refine OWp.step rfl (Step.storeAs 0 ([.int .u64 ((r2 / 18446744073709551616 : Nat) : Int), .int .u64 ((r2 % 18446744073709551616 : Nat) : Int)]) rfl rfl rfl rfl rfl (by assumption) rfl (Unfz.zero _) rfl (Nat.le_of_ble_eq_true rfl) rfl rfl ?_)
 refine OWp.nil ?_
 refine Yq ?_
 refine OWp.g rfl rfl (Gives.build rfl rfl) ?_
 refine Ye 2 rfl ?_
 refine Yc rfl rfl (waddC (W := 0) (x := x.a) (y := y.d) rfl (by omega) (by omega) (by have := prod_le h1 (show y.d < 85568392920039424 by omega); omega) ?_)
 refine Ye 2 rfl ?_
 refine Yc rfl rfl (waddC (W := 0 + x.a * y.d) (x := x.b) (y := y.c) rfl (by omega) (by omega) (by have := prod_le h2 (show y.c < 85568392920039424 by omega); omega) ?_)
 refine Ye 2 rfl ?_
 refine Yc rfl rfl (waddC (W := 0 + x.a * y.d + x.b * y.c) (x := x.c) (y := y.b) rfl (by omega) (by omega) (by have := prod_le h3 (show y.b < 85568392920039424 by omega); omega) ?_)
 refine Ye 2 rfl ?_
 refine Yc rfl rfl (waddC (W := 0 + x.a * y.d + x.b * y.c + x.c * y.b) (x := x.d) (y := y.a) rfl (by omega) (by omega) (by have := prod_le h4 (show y.a < 85568392920039424 by omega); omega) ?_)
 refine Ye 2 rfl ?_
 refine Yc rfl rfl (waddC (W := 0 + x.a * y.d + x.b * y.c + x.c * y.b + x.d * y.a) (x := x.e) (y := (y.e * 19)) rfl (by omega) (by omega) (by have := prod_le h5 (show (y.e * 19) < 85568392920039424 by omega); omega) ?_)
 rw [show 0 + x.a * y.d + x.b * y.c + x.c * y.b + x.d * y.a + x.e * (y.e * 19) = r3 by rw [hr3, Nat.zero_add]]
 refine Ya rfl rfl rfl rfl fun L23 hBL23 hLL23 => ?_
 refine OWp.step rfl (Step.storeAs 0 ([.int .u64 ((r3 / 18446744073709551616 : Nat) : Int), .int .u64 ((r3 % 18446744073709551616 : Nat) : Int)]) rfl rfl rfl rfl rfl (by assumption) rfl (Unfz.zero _) rfl (Nat.le_of_ble_eq_true rfl) rfl rfl ?_)
 refine OWp.nil ?_
 refine Yq ?_
 refine OWp.g rfl rfl (Gives.build rfl rfl) ?_
 refine Ye 2 rfl ?_
 refine Yc rfl rfl (waddC (W := 0) (x := x.a) (y := y.e) rfl (by omega) (by omega) (by have := prod_le h1 (show y.e < 85568392920039424 by omega); omega) ?_)
 refine Ye 2 rfl ?_
 refine Yc rfl rfl (waddC (W := 0 + x.a * y.e) (x := x.b) (y := y.d) rfl (by omega) (by omega) (by have := prod_le h2 (show y.d < 85568392920039424 by omega); omega) ?_)
 refine Ye 2 rfl ?_
 refine Yc rfl rfl (waddC (W := 0 + x.a * y.e + x.b * y.d) (x := x.c) (y := y.c) rfl (by omega) (by omega) (by have := prod_le h3 (show y.c < 85568392920039424 by omega); omega) ?_)
 refine Ye 2 rfl ?_
 refine Yc rfl rfl (waddC (W := 0 + x.a * y.e + x.b * y.d + x.c * y.c) (x := x.d) (y := y.b) rfl (by omega) (by omega) (by have := prod_le h4 (show y.b < 85568392920039424 by omega); omega) ?_)
 refine Ye 2 rfl ?_
 refine Yc rfl rfl (waddC (W := 0 + x.a * y.e + x.b * y.d + x.c * y.c + x.d * y.b) (x := x.e) (y := y.a) rfl (by omega) (by omega) (by have := prod_le h5 (show y.a < 85568392920039424 by omega); omega) ?_)
 rw [show 0 + x.a * y.e + x.b * y.d + x.c * y.c + x.d * y.b + x.e * y.a = r4 by rw [hr4, Nat.zero_add]]
 refine Ya rfl rfl rfl rfl fun L24 hBL24 hLL24 => ?_
 refine OWp.step rfl (Step.storeAs 0 ([.int .u64 ((r4 / 18446744073709551616 : Nat) : Int), .int .u64 ((r4 % 18446744073709551616 : Nat) : Int)]) rfl rfl rfl rfl rfl (by assumption) rfl (Unfz.zero _) rfl (Nat.le_of_ble_eq_true rfl) rfl rfl ?_)
 refine OWp.nil ?_
 refine Wp.seq (Wp.regionDraw [0, 1, 2, 3, 4, 8, 5, 6, 7, 9, 10] [5, 10] rfl (by decide +kernel) ?_)
 refine DWp.evs 2 rfl ?_
 refine Yd m4 ?_
 refine DWp.evs 1 rfl ?_
 refine Yd m0 ?_
 refine DWp.evs 1 rfl ?_
 refine DWp.stepGrow rfl rfl rfl (Step.call rfl rfl rfl rfl rfl rfl ((whighC (W := r4) rfl (by omega) ?_)))
 refine ⟨fun _ hy => hy, ?_⟩
 refine DWp.evs 2 rfl ?_
 refine DWp.g rfl rfl rfl rfl (Gives.indexAddrArr (0) rfl rfl rfl rfl rfl rfl (by omega)) ?_
 rw [w64_and51 (by omega), w64_fold (by omega), show r0 % 18446744073709551616 % 2251799813685248 = r0 % 2251799813685248 by omega, w64_add (by omega)]
 refine DWp.stepAll rfl rfl rfl rfl (Step.storeAs 5 (elc p ⟨r0 % 2251799813685248 + 19 * (r4 / 2251799813685248), z.b, z.c, z.d, z.e⟩ s) rfl rfl rfl rfl rfl (by assumption) rfl (Unfz.zero _) rfl (hlen _ 0 (by decide)) (elc_set p s _ _ (i := 0) (by decide) rfl rfl rfl) rfl ?_)
 refine DWp.nil ?_
 refine Wp.seq (Wp.regionDraw [0, 1, 2, 3, 4, 7, 5, 6, 8, 9] [5, 9] rfl (by decide +kernel) ?_)
 refine DWp.evs 2 rfl ?_
 refine Yd m3 ?_
 refine DWp.evs 1 rfl ?_
 refine Yd m4 ?_
 refine DWp.evs 1 rfl ?_
 refine DWp.stepGrow rfl rfl rfl (Step.call rfl rfl rfl rfl rfl rfl ((whighC (W := r0) rfl (by omega) ?_)))
 refine ⟨fun _ hy => hy, ?_⟩
 refine DWp.evs 1 rfl ?_
 refine DWp.g rfl rfl rfl rfl (Gives.indexAddrArr (1) rfl rfl rfl rfl rfl rfl (by omega)) ?_
 rw [w64_and51 (by omega), show r1 % 18446744073709551616 % 2251799813685248 = r1 % 2251799813685248 by omega, w64_add (by omega)]
 refine DWp.stepAll rfl rfl rfl rfl (Step.storeAs 5 (elc p ⟨r0 % 2251799813685248 + 19 * (r4 / 2251799813685248), r1 % 2251799813685248 + r0 / 2251799813685248, z.c, z.d, z.e⟩ s) rfl rfl rfl rfl rfl (by assumption) rfl (Unfz.zero _) rfl (hlen _ 1 (by decide)) (elc_set p s _ _ (i := 1) (by decide) rfl rfl rfl) rfl ?_)
 refine DWp.nil ?_
 refine Wp.seq (Wp.regionDraw [0, 1, 2, 3, 4, 7, 5, 6, 8, 9] [5, 9] rfl (by decide +kernel) ?_)
 refine DWp.evs 2 rfl ?_
 refine Yd m2 ?_
 refine DWp.evs 1 rfl ?_
 refine Yd m3 ?_
 refine DWp.evs 1 rfl ?_
 refine DWp.stepGrow rfl rfl rfl (Step.call rfl rfl rfl rfl rfl rfl ((whighC (W := r1) rfl (by omega) ?_)))
 refine ⟨fun _ hy => hy, ?_⟩
 refine DWp.evs 1 rfl ?_
 refine DWp.g rfl rfl rfl rfl (Gives.indexAddrArr (2) rfl rfl rfl rfl rfl rfl (by omega)) ?_
 rw [w64_and51 (by omega), show r2 % 18446744073709551616 % 2251799813685248 = r2 % 2251799813685248 by omega, w64_add (by omega)]
 refine DWp.stepAll rfl rfl rfl rfl (Step.storeAs 5 (elc p ⟨r0 % 2251799813685248 + 19 * (r4 / 2251799813685248), r1 % 2251799813685248 + r0 / 2251799813685248, r2 % 2251799813685248 + r1 / 2251799813685248, z.d, z.e⟩ s) rfl rfl rfl rfl rfl (by assumption) rfl (Unfz.zero _) rfl (hlen _ 2 (by decide)) (elc_set p s _ _ (i := 2) (by decide) rfl rfl rfl) rfl ?_)
 refine DWp.nil ?_
 refine Wp.seq (Wp.regionDraw [0, 1, 2, 3, 4, 7, 5, 6, 8, 9] [5, 9] rfl (by decide +kernel) ?_)
 refine DWp.evs 2 rfl ?_
 refine Yd m1 ?_
 refine DWp.evs 1 rfl ?_
 refine Yd m2 ?_
 refine DWp.evs 1 rfl ?_
 refine DWp.stepGrow rfl rfl rfl (Step.call rfl rfl rfl rfl rfl rfl ((whighC (W := r2) rfl (by omega) ?_)))
 refine ⟨fun _ hy => hy, ?_⟩
 refine DWp.evs 1 rfl ?_
 refine DWp.g rfl rfl rfl rfl (Gives.indexAddrArr (3) rfl rfl rfl rfl rfl rfl (by omega)) ?_
 rw [w64_and51 (by omega), show r3 % 18446744073709551616 % 2251799813685248 = r3 % 2251799813685248 by omega, w64_add (by omega)]
 refine DWp.stepAll rfl rfl rfl rfl (Step.storeAs 5 (elc p ⟨r0 % 2251799813685248 + 19 * (r4 / 2251799813685248), r1 % 2251799813685248 + r0 / 2251799813685248, r2 % 2251799813685248 + r1 / 2251799813685248, r3 % 2251799813685248 + r2 / 2251799813685248, z.e⟩ s) rfl rfl rfl rfl rfl (by assumption) rfl (Unfz.zero _) rfl (hlen _ 3 (by decide)) (elc_set p s _ _ (i := 3) (by decide) rfl rfl rfl) rfl ?_)
 refine DWp.nil ?_
 refine Wp.seq (Wp.regionDraw [0, 1, 2, 3, 4, 7, 5, 6, 8, 9] [5, 9] rfl (by decide +kernel) ?_)
 refine DWp.evs 2 rfl ?_
 refine Yd m0 ?_
 refine DWp.evs 1 rfl ?_
 refine Yd m1 ?_
 refine DWp.evs 1 rfl ?_
 refine DWp.stepGrow rfl rfl rfl (Step.call rfl rfl rfl rfl rfl rfl ((whighC (W := r3) rfl (by omega) ?_)))
 refine ⟨fun _ hy => hy, ?_⟩
 refine DWp.evs 1 rfl ?_
 refine DWp.g rfl rfl rfl rfl (Gives.indexAddrArr (4) rfl rfl rfl rfl rfl rfl (by omega)) ?_
 rw [w64_and51 (by omega), show r4 % 18446744073709551616 % 2251799813685248 = r4 % 2251799813685248 by omega, w64_add (by omega)]
 refine DWp.stepAll rfl rfl rfl rfl (Step.storeAs 5 (elc p ⟨r0 % 2251799813685248 + 19 * (r4 / 2251799813685248), r1 % 2251799813685248 + r0 / 2251799813685248, r2 % 2251799813685248 + r1 / 2251799813685248, r3 % 2251799813685248 + r2 / 2251799813685248, r4 % 2251799813685248 + r3 / 2251799813685248⟩ s) rfl rfl rfl rfl rfl (by assumption) rfl (Unfz.zero _) rfl (hlen _ 4 (by decide)) (elc_set p s _ _ (i := 4) (by decide) rfl rfl rfl) rfl ?_)
 refine DWp.nil ?_
 refine Wp.region ?_
 refine Ye 1 rfl ?_
 refine Yc rfl rfl (CallWp.focus 5 rfl ((carryC hB hwide ?_)))
 refine OWp.nil ?_
 refine ⟨trivial, [], rfl, ?_⟩
 exact ⟨_, .cons_cons _ subl, H⟩
end
end Go.Proofs.D
