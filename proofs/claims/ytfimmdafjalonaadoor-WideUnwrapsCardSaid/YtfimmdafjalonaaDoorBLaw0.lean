/- What functions of the given program do, one after the other, told by that layer. -/
import Derived.Test.YtfimmdafjalonaaDoorBWid3
import Derived.Test.YtfimmdafjalonaaDoorLgArgs
namespace Go.Proofs.D
open Go.Lg Go.Sha
set_option maxRecDepth 100000

theorem rdStrB {S : Ents} {t : ByteArray} (h : Rd Tryd.prog S 9 [.string t]) : ∃ s : List UInt8, t = str s ∧ s.length + 5000 ≤ big := by
  obtain ⟨l, hl, hw⟩ := h.open_str Tryd.underlying9
  cases hl
  exact ⟨l, rfl, by unfold reachBytes at hw; unfold big; omega⟩
theorem rdIntB {S : Ents} {n : Int} (h : Rd Tryd.prog S 3 [.int .i64 n]) : -9223372036854775808 ≤ n ∧ n ≤ 9223372036854775807 := by
  obtain ⟨m, hm, hw⟩ := h.open_int Tryd.underlying3
  cases hm
  have h2 : IntKind.i64.min ≤ n ∧ n ≤ 9223372036854775807 := by simpa [Lit.wf] using hw
  have e : IntKind.i64.min = -9223372036854775808 := by decide
  omega
/-- uint64(x) % m as an int. -/
def umod (x : Int) (m : Nat) : Nat := (x % 18446744073709551616 % (m : Int)).toNat
theorem umod_lt (x : Int) {m : Nat} (h : 0 < m) : umod x m < m := by
  unfold umod
  have := Int.emod_lt_of_pos (x % 18446744073709551616) (show (0 : Int) < m by omega)
  have := Int.emod_nonneg (x % 18446744073709551616) (show (m : Int) ≠ 0 by omega)
  omega
theorem umod_eq (x : Int) {m : Nat} (h : 0 < m) (hm : m ≤ 9223372036854775807) : IntKind.i64.wrap ((IntKind.u64.wrap x).tmod (m : Int)) = (umod x m : Int) := by
  have h1 := umod_lt x h
  have h2 := Int.emod_nonneg (x % 18446744073709551616) (show (m : Int) ≠ 0 by omega)
  have h3 := Int.emod_nonneg x (show (18446744073709551616 : Int) ≠ 0 by decide)
  rw [IntKind.wrap_u64, Int.tmod_eq_emod_of_nonneg h3, i64_id (by omega) (by unfold umod at h1; omega)]
  unfold umod
  omega
theorem max_eq {a : Int} {n : Nat} (h : a = (n : Int)) : (if a > 64 then a else 64) = ((max 64 n : Nat) : Int) := by
  subst h; split <;> omega
end Go.Proofs.D
