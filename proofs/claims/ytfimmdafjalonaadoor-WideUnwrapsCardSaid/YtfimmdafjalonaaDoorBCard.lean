/- What functions of the given program do, one after the other, told by that layer. -/
import Derived.Test.YtfimmdafjalonaaDoorBLaw0
import Derived.Test.YtfimmdafjalonaaDoorBHead
import Derived.Test.YtfimmdafjalonaaDoorRows
import Derived.LaidMore
import Derived.LaidHandle
import Derived.Lib.LaidTab
import Derived.Stop.LaidErr
import Derived.MakeChecks
import Derived.Test.YtfimmdafjalonaaDoorLgRow
/- The tables that the rows list: what they give to a walk, and a world in which they lie. -/
namespace Go.Proofs.D
open Go.Lg Go.Sha
set_option maxRecDepth 100000

def Laid : List (String × DataW Unit) := [("unicode/utf8.acceptRanges", YtfimmdafjalonaaDoor.Rows.laid_unicode_utf8_acceptRanges), ("dovecote/hash.ks", YtfimmdafjalonaaDoor.Rows.laid_dovecote_hash_ks), ("unicode/utf8.first", YtfimmdafjalonaaDoor.Rows.laid_unicode_utf8_first)]
def ksZ : List Int := ks.map fun (n : Nat) => (n : Int)
theorem ks_is : (YtfimmdafjalonaaDoor.Rows.laid_dovecote_hash_ks : DataW Unit) = Lib.tabData .u32 ksZ := by rfl
theorem ksZ_get (i : Nat) (h : i < 64) : ksZ.getD i 0 = ((ks.getD i 0 : Nat) : Int) := by
  have hl : i < ks.length := h
  unfold ksZ
  rw [List.getD_eq_getElem?_getD, List.getElem?_map, List.getD_eq_getElem?_getD, List.getElem?_eq_getElem hl]
  rfl
theorem ks_at {W : World} {r : List (String × DataW Unit)} (h : laidMet Tryd.prog (("dovecote/hash.ks", YtfimmdafjalonaaDoor.Rows.laid_dovecote_hash_ks) :: r) W) : KsIn (All W) := by
  rw [ks_is] at h
  have ht := Lib.tabIs_of_head (g := 0) (n := 64) (by kernel_rfl) (t := 166) (by kernel_rfl) Tryd.underlying166 Tryd.underlying120 (by kernel_rfl) (by kernel_rfl) h
  have hc : ∀ i, i < 64 → W.cell? ⟨0, i, none⟩ = some (.int .u32 (ks.getD i 0 : Nat)) := by
    intro i hi
    have := ht.cell (g := 0) (by kernel_rfl) i (by rw [show ksZ.length = 64 from rfl]; exact hi)
    rw [ksZ_get i hi] at this
    exact this
  have h0 := hc 0 (by decide)
  have : ∃ l e fz, W.heap[0]? = some (.cells l e fz) := by
    unfold World.cell? at h0
    split at h0
    · rename_i c0 e0 f0 hb; exact ⟨c0, e0, f0, hb⟩
    · simp at h0
  obtain ⟨l, e, fz, hl⟩ := this
  refine ⟨l.toList, e, fz, All.mem hl, fun i hi => ?_⟩
  have := hc i hi
  unfold World.cell? at this
  simp only [hl] at this
  simpa using this
theorem of_laid {W : World} (h : laidMetH Tryd.prog Laid W) : KsIn (All W) := by
  rw [MakeChecks.laidMetH_plain _ _ _ (by kernel_rfl)] at h
  exact ks_at h.tail
noncomputable def laidWorld (os : Os) : World :=
  let w0 := World.doorLaid Tryd.prog 24 os
  { w0 with heap := w0.heap.modify 2 fun
      | .cells _ t frozen => .cells (Go.Pinned.utf8FirstZ.map fun (n : Nat) => Value.int .u8 (n : Int)).toArray t frozen
      | o => o }
theorem laid_met (os : Os) (args : Array Value) : laidMetH Tryd.prog Laid ((laidWorld os).forCall (fun _ _ => 0) ⟨#[], args, []⟩).memory :=
  laidMetH_of_parts3 (fuel := 8) (laidMet_of_run' 8 (by kernel_rfl) (by kernel_rfl)) (by kernel_rfl) (by kernel_rfl)
theorem laid_shaped (os : Os) (args : Array Value) : ((laidWorld os).forCall (fun _ _ => 0) ⟨#[], args, []⟩).Shaped Tryd.prog :=
  World.shaped_of_RefB (by kernel_rfl) (by kernel_rfl)
end Go.Proofs.D
