/- What functions of the given program do, one after the other, told by that layer. -/
import Derived.Test.YtdgbbfbgakeaaaaLgArgs
import Derived.Test.YtdgbbfbgakeaaaaATape1
namespace Go.Proofs.C
open Go.Lg
set_option maxRecDepth 100000

theorem rdStr {S : Ents} {t : ByteArray} (h : Rd Try.prog S 9 [.string t]) : ∃ s : List UInt8, t = str s ∧ s.length ≤ lim := by
  obtain ⟨l, hl, hw⟩ := h.open_str Try.underlying9
  cases hl
  exact ⟨l, rfl, by unfold reachBytes at hw; unfold lim; omega⟩

theorem rdInts {S : Ents} {v : Value} (h : Rd Try.prog S 28 [v]) : ∃ zs : List Int, Reads S 1 v zs.length (zs.flatMap fun z => [.int .i64 z]) ∧ zs.length ≤ lim ∧ ∀ z ∈ zs, (Lit.int .i64 z).wf = true := by
  obtain ⟨zs, hr, hw, _, hp⟩ := h.rows (f := fun z : Int => [.int .i64 z]) (p := fun z => (Lit.int .i64 z).wf = true) Try.underlying28 (sz := 1) rfl (fun r hr => by
    obtain ⟨n, rfl, hn⟩ := hr.open_int Try.underlying3
    exact ⟨n, rfl, hn⟩)
  refine ⟨zs, hr, ?_, hp⟩
  have : zs.length * 8 ≤ reachBytes := hw
  unfold reachBytes at this; unfold lim; omega
end Go.Proofs.C
