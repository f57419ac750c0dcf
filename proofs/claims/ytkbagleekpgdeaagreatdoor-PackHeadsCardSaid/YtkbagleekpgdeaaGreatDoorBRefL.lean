/- What the references reckon, in the words of the plain laws. -/
import Derived.Test.YtkbagleekpgdeaaGreatDoorBShaR
import Derived.Test.YtkbagleekpgdeaaGreatDoorBCha
namespace Go.Sha
open Go.Lg

/-- A block's words as the reference grows them: the first m. -/
def wpre (W : Nat → Nat) (m : Nat) : List Nat := (List.range m).map W
/-- A word out of the bytes so far. -/
def beAt (b : List UInt8) (i k : Nat) : Nat := be ((b.drop i).take k)
/-- The end that is laid behind a text, its bytes of length from behind. -/
def endAt (m z i : Nat) : List UInt8 := 128 :: (List.replicate (z + 8 - i) 0 ++ (tail8 m).drop (8 - i))
theorem tail8_len (m : Nat) : (tail8 m).length = 8 := by simp [tail8]
/-- Keys, padded. -/
def padB (k : List UInt8) (y : UInt8) (i : Nat) : UInt8 := k.getD i 0 ^^^ y
/-- A half of a quarter round. -/
def hq (s : List Nat) (a b c d n m : Nat) : List Nat :=
  let s1 := s.set a (add (s.getD a 0) (s.getD b 0))
  let s2 := s1.set d (rl (s1.getD d 0 ^^^ s1.getD a 0) n)
  let s3 := s2.set c (add (s2.getD c 0) (s2.getD d 0))
  s3.set b (rl (s3.getD b 0 ^^^ s3.getD c 0) m)
theorem getD_set_ne {s : List Nat} {i j x : Nat} (h : i ≠ j) : (s.set i x).getD j 0 = s.getD j 0 := by
  rw [List.getD_eq_getElem?_getD, List.getElem?_set_ne h, List.getD_eq_getElem?_getD]
structure Apart (n a b c d : Nat) : Prop where
  ab : a ≠ b
  ac : a ≠ c
  ad : a ≠ d
  bc : b ≠ c
  bd : b ≠ d
  cd : c ≠ d
  la : a < n
  lb : b < n
  lc : c < n
  ld : d < n
end Go.Sha
