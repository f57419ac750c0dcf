/- What functions of the given program do, one after the other, told by that layer. -/
import Derived.Test.YtfimmdafjalonaaDoorBWid1
/- Laws of wide blocks: the works, what is laid open, what is turned. -/
namespace Go.Sha

def wstep (key : List UInt8) (x : List UInt8 × List UInt8) (i : Nat) : List UInt8 × List UInt8 := if i % 2 = 0 then wflow key i x else wpress key i x
theorem wshut_fold (key b : List UInt8) : wshut key b = whole ([0, 1, 2, 3].foldl (wstep key) (halves b)) := rfl
theorem wopen_fold (key b : List UInt8) : wopen key b = whole ([3, 2, 1, 0].foldl (wstep key) (halves b)) := rfl
theorem wstep_halved {m : Nat} {key : List UInt8} {i : Nat} {x : List UInt8 × List UInt8} (h : Halved m x) : Halved m (wstep key x i) := by
  unfold wstep
  split
  · exact wflow_halved h
  · exact wpress_halved h
theorem wfold_halved {m : Nat} {key : List UInt8} : ∀ (l : List Nat) {x : List UInt8 × List UInt8}, Halved m x → Halved m (l.foldl (wstep key) x)
  | [], _, h => h
  | i :: l, _, h => wfold_halved l (wstep_halved (i := i) h)
theorem xors_comm : ∀ a b : List UInt8, xors a b = xors b a
  | [], b => by cases b <;> rfl
  | x :: a, [] => rfl
  | x :: a, y :: b => by
    show (x ^^^ y) :: xors a b = (y ^^^ x) :: xors b a
    rw [xors_comm a b, UInt8.xor_comm]

/-- A block's answer, and why there is none. -/
def blockR (f : List UInt8 → List UInt8) (b : List UInt8) : List UInt8 × Nat :=
  if b.length < 64 then ([], 3) else if 8192 < b.length then ([], 2) else (f b, 0)
def wrapR (key text : List UInt8) (n : Int) : List UInt8 × Nat :=
  if n < 64 then ([], 3) else if 8192 < n ∨ n - 34 < (text.length : Int) then ([], 2) else (wshut key (wplain text n.toNat), 0)
def unwrapT : Option (List UInt8) → List UInt8 × Nat
  | some t => (t, 0)
  | none => ([], 90)
def unwrapR (key b : List UInt8) : List UInt8 × Nat :=
  if b.length < 64 then ([], 3) else if 8192 < b.length then ([], 2) else unwrapT (wtext (wopen key b))

theorem wshut_inj (key : List UInt8) {a b : List UInt8} (ha : 32 ≤ a.length) (hb : 32 ≤ b.length) (h : wshut key a = wshut key b) : a = b := by
  rw [← wopen_shut key ha, ← wopen_shut key hb, h]

theorem all_zero {l : List UInt8} (h : l.all (· == 0) = true) : l = List.replicate l.length 0 := by
  apply List.eq_replicate_of_mem
  intro b hb
  have := List.all_eq_true.1 h b hb
  simpa using this

/-- The bytes of a block as they are laid, text byte by text byte. -/
def plainAt (text : List UInt8) (n i : Nat) : List UInt8 :=
  List.replicate 32 0 ++ (UInt8.ofNat (text.length / 256) :: UInt8.ofNat text.length :: (text.take i ++ List.replicate (n - 34 - i) 0))
theorem plainAt_all (text : List UInt8) (n : Nat) : plainAt text n text.length = wplain text n := by simp [plainAt, wplain]
theorem plainAt_len {text : List UInt8} {n i : Nat} (hi : i ≤ text.length) (h : text.length + 34 ≤ n) : (plainAt text n i).length = n := by
  unfold plainAt
  simp only [List.length_append, List.length_cons, List.length_replicate, List.length_take]
  omega
theorem plainAt_set {text : List UInt8} {n i : Nat} (hi : i < text.length) (h : text.length + 34 ≤ n) : (plainAt text n i).set (34 + i) (text.getD i 0) = plainAt text n (i + 1) := by
  unfold plainAt
  rw [List.set_append_right _ _ (by rw [List.length_replicate]; omega), List.length_replicate, show 34 + i - 32 = i + 1 + 1 by omega, List.set_cons_succ, List.set_cons_succ]
  have e1 : (text.take i).length = i := by rw [List.length_take]; omega
  rw [List.set_append_right _ _ (by omega), e1, Nat.sub_self, show n - 34 - i = (n - 34 - (i + 1)) + 1 by omega, List.replicate_succ (n := n - 34 - (i + 1)), List.set_cons_zero]
  rw [List.take_add_one, List.append_assoc]
  congr 4
  rw [List.getElem?_eq_getElem hi, List.getD_eq_getElem?_getD, List.getElem?_eq_getElem hi]
  rfl
theorem plainAt_first (text : List UInt8) {n : Nat} (h : 34 ≤ n) :
    ((List.replicate n (0 : UInt8)).set 32 (UInt8.ofNat (text.length / 256))).set 33 (UInt8.ofNat text.length) = plainAt text n 0 := by
  have : n = 32 + (n - 34 + 1 + 1) := by omega
  obtain ⟨m, hm⟩ : ∃ m, m = n - 34 := ⟨_, rfl⟩
  have e : List.replicate n (0 : UInt8) = List.replicate 32 0 ++ (0 :: 0 :: List.replicate m 0) := by
    rw [this, ← hm, ← List.replicate_append_replicate]; rfl
  rw [e, List.set_append_right _ _ (by rw [List.length_replicate]; omega), List.length_replicate, List.set_append_right _ _ (by rw [List.length_replicate]; omega), List.length_replicate]
  unfold plainAt
  rw [List.take_zero, List.nil_append, Nat.sub_zero, ← hm]
  rfl
end Go.Sha

namespace Go.Proofs.D
open Go.Sha
theorem dropZ_nil {l : List UInt8} : l.dropWhile (· == 0) = [] ↔ l.all (· == 0) = true := by
  induction l with
  | nil => simp
  | cons a l ih =>
    rw [List.dropWhile_cons, List.all_cons]
    split
    · rename_i h; simp only [h, Bool.true_and]; exact ih
    · rename_i h; simp [h]
theorem trim_nil {l : List UInt8} : trim l = [] ↔ l.all (· == 0) = true := by
  unfold trim
  rw [dropZ_nil]
  constructor
  · intro h
    rw [List.all_reverse] at h
    have h2 : l.reverse.dropWhile (· == 0) = [] := by
      by_cases h3 : l.reverse.dropWhile (· == 0) = []
      · exact h3
      · have := List.head_dropWhile_not (p := (· == (0 : UInt8))) (w := h3)
        have h4 := List.all_eq_true.1 h _ (List.head_mem h3)
        simp_all
    have := dropZ_nil.1 h2
    rwa [List.all_reverse] at this
  · intro h
    have : l.reverse.dropWhile (· == 0) = [] := dropZ_nil.2 (by rw [List.all_reverse]; exact h)
    rw [this]; rfl
theorem trim_all {l : List UInt8} (h : l.all (· == 0) = true) : trim l = [] := trim_nil.2 h
end Go.Proofs.D
