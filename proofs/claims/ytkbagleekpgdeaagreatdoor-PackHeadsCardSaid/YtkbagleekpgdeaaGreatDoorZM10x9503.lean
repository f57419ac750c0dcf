/- What functions of the given program do, one after the other, told by that layer. -/
import Derived.Test.YtkbagleekpgdeaaGreatDoorZCur3
import Derived.Test.YtkbagleekpgdeaaGreatDoorZM8xc267
import Derived.Test.YtkbagleekpgdeaaGreatDoorZM9xe059
import Derived.Test.YtkbagleekpgdeaaGreatDoorEHeadL
import Derived.Test.YtkbagleekpgdeaaGreatDoorZM6xf9cb
namespace Go.Proofs.D
open Go.Lg Go.Sha Go.Hd Go.Cv
open Go.Proofs.C (Hop hopP hopB parse pathE encB)
set_option maxRecDepth 100000
attribute [local irreducible] derive hmac stream chainR
section
variable {B : Nat} {S R : Ents} {Q : Value → Ents → Prop}
theorem keys_elem {S : Ents} {ks : List HK} {v : Value} (hr : Reads S 5 v ks.length (keysV ks)) (h0 : 0 < ks.length) : ∃ hb ho hcap hll ht hfz, v = .slice (some ⟨hb, ho, none⟩) ks.length hcap ∧ (hb, cel hll ht hfz) ∈ S ∧ ∀ i (h : i < ks.length), (hll.drop (ho + i * 5)).take 5 = (ks[i]).cells := by
  obtain ⟨hb, ho, hcap, hll, ht, hfz, hzv, hhm, hat⟩ := Reads.elem (sz := 5) (f := HK.cells) (xs := ks) hr (fun _ _ => rfl) h0
  exact ⟨hb, ho, hcap, hll, ht, hfz, hzv, hhm, hat⟩
end
end Go.Proofs.D

namespace Go.Proofs.D
open Go.Lg Go.Sha Go.Hd Go.Cv
open Go.Proofs.C (Hop hopP hopB parse pathE encB)
set_option maxRecDepth 100000
attribute [local irreducible] derive hmac stream chainR
section
variable {B : Nat} {S R : Ents} {Q : Value → Ents → Prop}
end
end Go.Proofs.D

namespace Go.Proofs.D
open Go.Lg Go.Sha Go.Hd Go.Cv
open Go.Proofs.C (Hop hopP hopB parse pathE encB)
set_option maxRecDepth 100000
attribute [local irreducible] derive hmac stream chainR sharedR timesR
section
variable {B : Nat} {S R : Ents} {Q : Value → Ents → Prop}
end
end Go.Proofs.D

/- Laws of wide blocks: the works, what is laid open, what is turned. -/
namespace Go.Sha

def wstep (key : List UInt8) (x : List UInt8 × List UInt8) (i : Nat) : List UInt8 × List UInt8 := if i % 2 = 0 then wflow key i x else wpress key i x
/-- A block's answer, and why there is none. -/
def blockR (f : List UInt8 → List UInt8) (b : List UInt8) : List UInt8 × Nat :=
  if b.length < 64 then ([], 3) else if 8192 < b.length then ([], 2) else (f b, 0)
def wrapR (key text : List UInt8) (n : Int) : List UInt8 × Nat :=
  if n < 64 then ([], 3) else if 8192 < n ∨ n - 34 < (text.length : Int) then ([], 2) else (wshut key (wplain text n.toNat), 0)
def unwrapT : Option (List UInt8) → List UInt8 × Nat
  | some t => (t, 0)
  | none => ([], 90)
def unwrapR (key b : List UInt8) : List UInt8 × Nat :=
  if b.length < 64 then ([], 3) else if 8192 < b.length then ([], 2) else unwrapT (wtext (wopen key b))

theorem wshut_inj (key : List UInt8) {a b : List UInt8} (ha : 32 ≤ a.length) (hb : 32 ≤ b.length) (h : wshut key a = wshut key b) : a = b := by
  rw [← wopen_shut key ha, ← wopen_shut key hb, h]

theorem all_zero {l : List UInt8} (h : l.all (· == 0) = true) : l = List.replicate l.length 0 := by
  apply List.eq_replicate_of_mem
  intro b hb
  have := List.all_eq_true.1 h b hb
  simpa using this

/-- The bytes of a block as they are laid, text byte by text byte. -/
def plainAt (text : List UInt8) (n i : Nat) : List UInt8 :=
  List.replicate 32 0 ++ (UInt8.ofNat (text.length / 256) :: UInt8.ofNat text.length :: (text.take i ++ List.replicate (n - 34 - i) 0))
end Go.Sha

namespace Go.Proofs.D
open Go.Sha
theorem dropZ_nil {l : List UInt8} : l.dropWhile (· == 0) = [] ↔ l.all (· == 0) = true := by
  induction l with
  | nil => simp
  | cons a l ih =>
    rw [List.dropWhile_cons, List.all_cons]
    split
    · rename_i h; simp only [h, Bool.true_and]; exact ih
    · rename_i h; simp [h]
theorem trim_nil {l : List UInt8} : trim l = [] ↔ l.all (· == 0) = true := by
  unfold trim
  rw [dropZ_nil]
  constructor
  · intro h
    rw [List.all_reverse] at h
    have h2 : l.reverse.dropWhile (· == 0) = [] := by
      by_cases h3 : l.reverse.dropWhile (· == 0) = []
      · exact h3
      · have := List.head_dropWhile_not (p := (· == (0 : UInt8))) (w := h3)
        have h4 := List.all_eq_true.1 h _ (List.head_mem h3)
        simp_all
    have := dropZ_nil.1 h2
    rwa [List.all_reverse] at this
  · intro h
    have : l.reverse.dropWhile (· == 0) = [] := dropZ_nil.2 (by rw [List.all_reverse]; exact h)
    rw [this]; rfl
theorem trim_all {l : List UInt8} (h : l.all (· == 0) = true) : trim l = [] := trim_nil.2 h
end Go.Proofs.D
