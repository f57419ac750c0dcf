/- What functions of the given program do, one after the other, told by that layer. -/
import Derived.Test.YtkjaehdfmmcgmaaGreatDoorEHead
import Derived.Test.YtkjaehdfmmcgmaaGreatDoorEHeadW
namespace Go.Mx
open Go.Cv Go.Sha Go.Hd
/-- The seed of a packet of a number, the private keys of the hops, and the tag that the first hop finds. -/
def seedM (n : Nat) : List UInt8 := derive [115, 101, 101, 100] [UInt8.ofNat n, UInt8.ofNat (n / 256)] 32
def privM (i : Nat) : List UInt8 := privR [104, 111, 112, 115] i
def tagM (n : Nat) : List UInt8 := (keysOf (x25519 (seedM n) (x25519 (privM 0) base9))).tag
def tagsM : List (List UInt8) := [[218, 78, 175, 143, 5, 155, 229, 178, 163, 58, 110, 135, 121, 152, 195, 21], [67, 81, 206, 124, 157, 44, 129, 221, 121, 36, 207, 33, 150, 176, 140, 18], [232, 226, 4, 10, 225, 103, 174, 179, 91, 115, 123, 252, 212, 33, 85, 71], [95, 158, 173, 68, 150, 101, 156, 246, 30, 185, 55, 46, 7, 190, 122, 135], [141, 85, 4, 57, 89, 155, 163, 60, 165, 173, 75, 212, 147, 121, 135, 191], [96, 2, 119, 168, 248, 82, 5, 144, 249, 137, 13, 93, 47, 41, 136, 247], [161, 209, 34, 199, 240, 122, 228, 65, 79, 91, 115, 84, 210, 245, 179, 210], [212, 118, 25, 204, 128, 251, 145, 232, 98, 239, 252, 114, 226, 120, 217, 6], [4, 135, 170, 35, 253, 230, 23, 230, 72, 177, 9, 131, 161, 178, 206, 37], [4, 255, 189, 224, 82, 142, 165, 8, 70, 79, 76, 139, 89, 136, 83, 66]]
set_option maxRecDepth 1000000
theorem tags_are : (List.range 10).map tagM = tagsM := by decide +kernel
theorem tags_nodup : tagsM.Nodup := by decide +kernel
theorem tagM_len (n : Nat) : (tagM n).length = 16 := derive_len _ _ _
theorem seedM_len (n : Nat) : (seedM n).length = 32 := derive_len _ _ _
theorem privM_len (i : Nat) : (privM i).length = 32 := derive_len _ _ _
/-- Unlike packets have unlike tags. -/
theorem tagM_inj {i j : Nat} (hi : i < 10) (hj : j < 10) (h : tagM i = tagM j) : i = j := by
  have hn : ((List.range 10).map tagM).Nodup := by rw [tags_are]; exact tags_nodup
  have e : ∀ k, k < 10 → ((List.range 10).map tagM)[k]? = some (tagM k) := fun k hk => by
    rw [List.getElem?_map, List.getElem?_range hk]; rfl
  have hl : ((List.range 10).map tagM).length = 10 := by simp
  have hii : i < ((List.range 10).map tagM).length := by omega
  have hjj : j < ((List.range 10).map tagM).length := by omega
  have ei := e i hi
  have ej := e j hj
  rw [List.getElem?_eq_getElem hii] at ei
  rw [List.getElem?_eq_getElem hjj] at ej
  have he : ((List.range 10).map tagM)[i] = ((List.range 10).map tagM)[j] := (Option.some.inj ei).trans (h.trans (Option.some.inj ej).symm)
  have hp := List.pairwise_iff_getElem.1 hn
  rcases Nat.lt_trichotomy i j with h1 | h1 | h1
  · exact absurd he (hp i j hii hjj h1)
  · exact h1
  · exact absurd he.symm (hp j i hjj hii h1)
end Go.Mx
