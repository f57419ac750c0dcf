/- A header that is made, peeled hop by hop: plain lists, no program. -/
import Derived.Test.YtkbagleekpgdeaaGreatDoorEHead
import Derived.Test.YtkbagleekpgdeaaGreatDoorEM2xe31d
namespace Go.Hd
open Go.Sha Go.Cv
/-- The bytes of a hop's flow. -/
def fl (k : HK) : List UInt8 := stream k.flow zeros12 0 240
theorem fl_len (k : HK) : (fl k).length = 240 := stream_len _ _ _ _
theorem flowX_eq (k : HK) (t : List UInt8) (a : Nat) : flowX k t a = xors t ((fl k).drop a) := rfl
theorem take_drop_app {a b c : List UInt8} (ha : a.length = 24) (hb : b.length = 16) (_hc : c.length = 200) : (a ++ b ++ c).take 200 = a ++ b ++ c.take 160 := by
  rw [List.take_append, List.take_of_length_le (by simp [ha, hb])]
  congr 2
  simp [ha, hb]
/-- The secrets of hops whose points lie on the curve. -/
def secs : List (List UInt8) → List (List UInt8) → List (List UInt8)
  | _, [] => []
  | by_, p :: ps => xs p by_ :: secs (by_ ++ [(keysOf (xs p by_)).blind]) ps
/-- A header, of the scalars so far and the hops that are left. -/
def stg (pad fill : List UInt8) (by_ : List (List UInt8)) (r : List (List UInt8 × HK)) : List UInt8 := xs base9 by_ ++ (listR pad fill r).1 ++ (listR pad fill r).2
end Go.Hd
