/- What the head of the program's dump says, once for all rows: so that a row's closed facts need little memory. -/
import Derived.Test.YtkjaehdfmmcgmaaGreatDoorRows
import Derived.ProofKit
namespace Go.Proofs.YtkjaehdfmmcgmaaGreatDoor.Head
set_option maxRecDepth 100000
def w1 : List Nat := [104, 97, 114, 110, 101, 115, 115]
def w2 : List Nat := [97, 50, 100, 100, 50, 51, 53, 50, 100, 50, 57, 48, 98, 53, 50, 55, 97, 57, 49, 54, 55, 51, 48, 55, 101, 99, 48, 49, 100, 49, 56, 54, 98, 49, 57, 56, 50, 57, 53, 53, 98, 52, 100, 48, 99, 97, 52, 98, 52, 100, 56, 55, 53, 56, 98, 57, 100, 101, 49, 99, 56, 49, 54, 48]
def w3 : List Nat := [99, 117, 116]
def w4 : List Nat := [97, 116, 32, 100, 111, 118, 101, 99, 111, 116, 101, 47, 100, 111, 118, 101, 99, 111, 116, 101, 108, 97, 119, 49, 57, 46, 77, 105, 120, 82, 101, 102, 117, 115, 101, 115, 32, 100, 111, 118, 101, 99, 111, 116, 101, 47, 100, 111, 118, 101, 99, 111, 116, 101, 108, 97, 119, 49, 57, 46, 77, 105, 120, 80, 111, 111, 108, 32, 100, 111, 118, 101, 99, 111, 116, 101, 47, 100, 111, 118, 101, 99, 111, 116, 101, 108, 97, 119, 49, 57, 46, 77, 105, 120, 79, 110, 99, 101]
def ch (l : List Nat) : List Char := l.map Char.ofNat
theorem order : Tryz.prog.initOrder = String.ofList (ch w1 ++ Char.ofNat 32 :: (ch w2 ++ Char.ofNat 32 :: (ch w3 ++ Char.ofNat 32 :: ch w4))) := by kernel_rfl
theorem cut1 : ∀ (l r : List Char), (∀ c ∈ l, c ≠ Char.ofNat 32) → wordsSigns (l ++ Char.ofNat 32 :: r) = l :: wordsSigns r
  | [], r, _ => rfl
  | c :: l, r, h => by
    have ih := cut1 l r fun x hx => h x (by simp [hx])
    have hc := h c (by simp)
    rw [List.cons_append, wordsSigns, ih]
    exact fun e => absurd e hc
theorem words : wordsSigns Tryz.prog.initOrder.toList = ch w1 :: ch w2 :: ch w3 :: wordsSigns (ch w4) := by
  rw [order, String.toList_ofList, cut1 _ _ (by decide +kernel), cut1 _ _ (by decide +kernel), cut1 _ _ (by decide +kernel)]
theorem mayEnter_of {P : Program} {a b c : List Char} {r : List (List Char)} (h : wordsSigns P.initOrder.toList = a :: b :: c :: r)
    (ha : ((a == "harness".toList || a == "ownmain".toList) && isSumSigns b) = true) (hc : (stripLifts liftWords (c :: r)) = ([], c :: r)) (hcut : (c == "cut".toList) = true) (hg : (c == "gc".toList) = false) (hs : (c == "spec".toList) = false) (hd : (c == "carried".toList) = false)
    (hl : P.laysLater = false) (hb : P.bearsReflect = false) (hf : P.doorFits [] = true) : P.mayEnter = true := by
  unfold Program.mayEnter
  rw [h]
  simp only [behindMainWord, ha, if_true, hc, hl, hb, hf, List.head?_cons, hg, hs, hd]
  have : c = "cut".toList := by simpa using hcut
  simp [this]
theorem mayEnter : Tryz.prog.mayEnter = true := mayEnter_of words (by kernel_rfl) (by kernel_rfl) (by kernel_rfl) (by kernel_rfl) (by kernel_rfl) (by kernel_rfl) (by kernel_rfl) (by kernel_rfl) (by kernel_rfl)
theorem headLifts : Tryz.prog.headLifts = [] := by
  unfold Program.headLifts
  rw [words]
  generalize wordsSigns (ch w4) = r
  kernel_rfl
theorem liftsFinal : Tryz.prog.liftsFinal = false := by
  unfold Program.liftsFinal
  rw [words, headLifts]
  generalize wordsSigns (ch w4) = r
  kernel_rfl
theorem make_of {P : Program} {a b c : List Char} {r : List (List Char)} (h : wordsSigns P.initOrder.toList = a :: b :: c :: r)
    (ha : ((a == "harness".toList || a == "ownmain".toList) && isSumSigns b) = true) (hcut : (c == "cut".toList) = true) (hg : (c == "gc".toList) = false) (hs : (c == "spec".toList) = false) : P.make = some .cut := by
  unfold Program.make
  rw [h]
  simp only [behindMainWord, ha, if_true, hg, hs, hcut]
  simp
theorem make : Tryz.prog.make = some .cut := make_of words (by kernel_rfl) (by kernel_rfl) (by kernel_rfl) (by kernel_rfl)
theorem split7 {a b c d e f g h : Bool} (ha : a = true) (hb : b = true) (hc : c = true) (hd : d = true) (he : e = true) (hf : f = true) (hg : g = true) (hh : h = true) :
    (a && b && c && d && e && f && g && h) = true := by subst ha hb hc hd he hf hg hh; rfl
theorem lifted_of {P : Program} {c : OpenClaim} (h : P.liftsFinal = false) (hc : c.lifted = false) : (c.lifted == P.liftsFinal) = true := by rw [h, hc]; rfl
theorem make_is {P : Program} {c : OpenClaim} (h : P.make = some .cut) (hc : c.make = .cut) : (P.make == some c.make) = true := by rw [h, hc]; decide
end Go.Proofs.YtkjaehdfmmcgmaaGreatDoor.Head
