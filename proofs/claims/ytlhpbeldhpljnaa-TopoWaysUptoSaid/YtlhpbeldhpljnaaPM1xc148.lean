/- What functions of the given program do, one after the other, told by that layer. -/
import Derived.Test.YtlhpbeldhpljnaaLgM2x164e
import Derived.Test.YtlhpbeldhpljnaaProg
namespace Go.Proofs.C
open Go.Lg
set_option maxRecDepth 100000

/-- A tape's block. -/
abbrev tp (b : Nat) (s : List UInt8) (k : Nat) : Nat × Obj := (b, cel [.string (str s), .int .i64 k] 65)
abbrev pt (b : Nat) : Value := .pointer (some ⟨b, 0, none⟩)
def lim : Nat := 140737488355328

section
variable {B : Nat} {S : Ents} {Q : Value → Ents → Prop} {s : List UInt8} {k p : Nat}

theorem tapeNew (h : ∀ L, B ≤ L → (∀ x ∈ S, x.1 < L) → Q (pt L) (tp L s 0 :: S)) : CallWp Try.prog B 18 #[.string (str s)] Q S := by
  refine CallWp.enter (args := [_]) Try.func18 rfl Try.ntmps18 rfl ?_
  refine Wp.seq (Wp.region ?_)
  refine OWp.evs 1 rfl ?_
  refine OWp.nil ?_
  refine Wp.seq (Wp.region ?_)
  refine OWp.evs 1 rfl ?_
  refine OWp.g rfl rfl (Gives.build rfl rfl) ?_
  refine OWp.g rfl rfl (Gives.build rfl rfl) ?_
  refine OWp.step rfl (Step.box rfl rfl rfl ?_); intro L hB hL
  refine OWp.evs 1 rfl ?_
  refine OWp.nil ?_
  refine Wp.ret ⟨trivial, _, ⟨_, _, rfl, rfl, rfl⟩, ?_⟩
  exact h L hB hL

theorem left (hm : tp p s k ∈ S) (hk : k ≤ s.length) (hs : s.length ≤ lim) (h : Q (.int .i64 ((s.length - k : Nat) : Int)) S) :
    CallWp Try.prog B 22 #[pt p] Q S := by
  unfold lim at hs
  refine CallWp.enter (args := [_]) Try.func22 rfl Try.ntmps22 rfl ?_
  refine Wp.seq (Wp.region ?_)
  refine OWp.evs 1 rfl ?_
  refine OWp.nil ?_
  refine Wp.seq (Wp.regionDraw [0, 1, 2, 3, 4, 5, 6, 7, 8, 9, 10] [] rfl (by decide +kernel) ?_)
  refine DWp.evs 3 rfl ?_
  refine DWp.load (hm) rfl rfl rfl rfl rfl rfl rfl ?_
  refine DWp.evs 4 rfl ?_
  refine DWp.load (hm) rfl rfl rfl rfl rfl rfl rfl ?_
  refine DWp.evs 2 rfl ?_
  refine DWp.nil ?_
  refine Wp.ret ⟨trivial, _, ⟨_, _, rfl, rfl, rfl⟩, ?_⟩
  rw [i64_id (by omega) (by omega), show (s.length : Int) - (k : Int) = ((s.length - k : Nat) : Int) by omega]
  exact h
end
end Go.Proofs.C

namespace Go.Proofs.C
open Go.Lg
set_option maxRecDepth 100000

section
variable {B : Nat} {S R : Ents} {Q : Value → Ents → Prop} {s : List UInt8} {k p : Nat}

theorem read_yes {n : Nat} (hB : B ≤ p) (hs : s.length ≤ lim) (hn : k + n ≤ s.length) (h : Q (.tuple #[.string (str ((s.drop k).take n)), .bool true]) (tp p s (k + n) :: R)) :
    CallWp Try.prog B 55 #[pt p, .int .i64 (n : Int)] Q (tp p s k :: R) := by
  unfold lim at hs
  have e1 : IntKind.i64.wrap ((k : Int) + (n : Int)) = ((k + n : Nat) : Int) := by rw [i64_id (by omega) (by omega)]; omega
  have e2 : IntKind.i64.wrap (((k + n : Nat) : Int) - (n : Int)) = (k : Int) := by rw [i64_id (by omega) (by omega)]; omega
  refine CallWp.enter (args := [_, _]) Try.func55 rfl Try.ntmps55 rfl ?_
  refine Wp.seq (Wp.region ?_)
  refine OWp.evs 2 rfl ?_
  refine OWp.nil ?_
  refine Wp.seq ?_
  refine Wp.seq (Wp.region ?_)
  refine OWp.evs 2 rfl ?_
  refine OWp.step rfl (Step.call rfl rfl rfl rfl rfl rfl (left (.head _) (by omega) hs ?_))
  refine OWp.evs 1 rfl ?_
  refine OWp.nil ?_
  refine Wp.cond rfl (fun c1 => ?_) (fun c1 => ?_)
  · exact absurd (of_decide_eq_true c1) (by omega)
  refine Wp.skip ?_
  refine Wp.seq (Wp.region ?_)
  refine OWp.evs 3 rfl ?_
  first | refine OWp.load (List.Mem.head _) rfl rfl rfl rfl rfl ?_ | refine OWp.load (List.Mem.tail _ (List.Mem.head _)) rfl rfl rfl rfl rfl ?_ | refine OWp.load (List.Mem.tail _ (List.Mem.tail _ (List.Mem.head _))) rfl rfl rfl rfl rfl ?_ | refine OWp.load (List.Mem.tail _ (List.Mem.tail _ (List.Mem.tail _ (List.Mem.head _)))) rfl rfl rfl rfl rfl ?_ | refine OWp.load (List.Mem.tail _ (List.Mem.tail _ (List.Mem.tail _ (List.Mem.tail _ (List.Mem.head _))))) rfl rfl rfl rfl rfl ?_ | refine OWp.load (List.Mem.tail _ (List.Mem.tail _ (List.Mem.tail _ (List.Mem.tail _ (List.Mem.tail _ (List.Mem.head _)))))) rfl rfl rfl rfl rfl ?_
  refine OWp.evs 4 rfl ?_
  refine OWp.step rfl (Step.store 0 rfl rfl rfl rfl rfl hB rfl (Nat.le_of_ble_eq_true rfl) (Unfz.zero _) rfl rfl ?_)
  refine OWp.nil ?_
  rw [e1]
  refine Wp.seq (Wp.regionDraw [0, 1, 2, 3, 4, 5, 6, 7, 8, 9, 10, 11, 12, 13, 14, 15, 16] [] rfl (by decide +kernel) ?_)
  refine DWp.evs 3 rfl ?_
  first | refine DWp.load (List.Mem.head _) rfl rfl rfl rfl rfl rfl rfl ?_ | refine DWp.load (List.Mem.tail _ (List.Mem.head _)) rfl rfl rfl rfl rfl rfl rfl ?_ | refine DWp.load (List.Mem.tail _ (List.Mem.tail _ (List.Mem.head _))) rfl rfl rfl rfl rfl rfl rfl ?_ | refine DWp.load (List.Mem.tail _ (List.Mem.tail _ (List.Mem.tail _ (List.Mem.head _)))) rfl rfl rfl rfl rfl rfl rfl ?_ | refine DWp.load (List.Mem.tail _ (List.Mem.tail _ (List.Mem.tail _ (List.Mem.tail _ (List.Mem.head _))))) rfl rfl rfl rfl rfl rfl rfl ?_ | refine DWp.load (List.Mem.tail _ (List.Mem.tail _ (List.Mem.tail _ (List.Mem.tail _ (List.Mem.tail _ (List.Mem.head _)))))) rfl rfl rfl rfl rfl rfl rfl ?_
  refine DWp.evs 3 rfl ?_
  first | refine DWp.load (List.Mem.head _) rfl rfl rfl rfl rfl rfl rfl ?_ | refine DWp.load (List.Mem.tail _ (List.Mem.head _)) rfl rfl rfl rfl rfl rfl rfl ?_ | refine DWp.load (List.Mem.tail _ (List.Mem.tail _ (List.Mem.head _))) rfl rfl rfl rfl rfl rfl rfl ?_ | refine DWp.load (List.Mem.tail _ (List.Mem.tail _ (List.Mem.tail _ (List.Mem.head _)))) rfl rfl rfl rfl rfl rfl rfl ?_ | refine DWp.load (List.Mem.tail _ (List.Mem.tail _ (List.Mem.tail _ (List.Mem.tail _ (List.Mem.head _))))) rfl rfl rfl rfl rfl rfl rfl ?_ | refine DWp.load (List.Mem.tail _ (List.Mem.tail _ (List.Mem.tail _ (List.Mem.tail _ (List.Mem.tail _ (List.Mem.head _)))))) rfl rfl rfl rfl rfl rfl rfl ?_
  refine DWp.evs 5 rfl ?_
  first | refine DWp.load (List.Mem.head _) rfl rfl rfl rfl rfl rfl rfl ?_ | refine DWp.load (List.Mem.tail _ (List.Mem.head _)) rfl rfl rfl rfl rfl rfl rfl ?_ | refine DWp.load (List.Mem.tail _ (List.Mem.tail _ (List.Mem.head _))) rfl rfl rfl rfl rfl rfl rfl ?_ | refine DWp.load (List.Mem.tail _ (List.Mem.tail _ (List.Mem.tail _ (List.Mem.head _)))) rfl rfl rfl rfl rfl rfl rfl ?_ | refine DWp.load (List.Mem.tail _ (List.Mem.tail _ (List.Mem.tail _ (List.Mem.tail _ (List.Mem.head _))))) rfl rfl rfl rfl rfl rfl rfl ?_ | refine DWp.load (List.Mem.tail _ (List.Mem.tail _ (List.Mem.tail _ (List.Mem.tail _ (List.Mem.tail _ (List.Mem.head _)))))) rfl rfl rfl rfl rfl rfl rfl ?_
  refine DWp.g rfl rfl rfl rfl (Gives.sliceStr (l := k) (h' := k + n) rfl rfl rfl ⟨_, _, rfl, e2⟩ ⟨_, _, rfl, rfl⟩ (by omega) hn) ?_
  refine DWp.evs 2 rfl ?_
  refine DWp.nil ?_
  refine Wp.ret ⟨trivial, _, ⟨_, _, rfl, rfl, _, _, rfl, rfl, rfl⟩, ?_⟩
  rw [Nat.add_sub_cancel_left]
  exact h

theorem read_no {n : Nat} (hs : s.length ≤ lim) (hk : k ≤ s.length) (hn : s.length < k + n) (h : Q (.tuple #[.string (str []), .bool false]) (tp p s k :: R)) :
    CallWp Try.prog B 55 #[pt p, .int .i64 (n : Int)] Q (tp p s k :: R) := by
  unfold lim at hs
  refine CallWp.enter (args := [_, _]) Try.func55 rfl Try.ntmps55 rfl ?_
  refine Wp.seq (Wp.region ?_)
  refine OWp.evs 2 rfl ?_
  refine OWp.nil ?_
  refine Wp.seq ?_
  refine Wp.seq (Wp.region ?_)
  refine OWp.evs 2 rfl ?_
  refine OWp.step rfl (Step.call rfl rfl rfl rfl rfl rfl (left (.head _) hk hs ?_))
  refine OWp.evs 1 rfl ?_
  refine OWp.nil ?_
  refine Wp.cond rfl (fun c1 => ?_) (fun c1 => ?_)
  · refine Wp.seq (Wp.region ?_)
    refine OWp.evs 2 rfl ?_
    refine OWp.nil ?_
    refine Wp.ret ⟨trivial, _, ⟨_, _, rfl, rfl, _, _, rfl, rfl, rfl⟩, ?_⟩
    exact h
  · exact absurd (of_decide_eq_false c1) (by omega)
end
end Go.Proofs.C

namespace Go.Proofs.C
open Go.Lg
set_option maxRecDepth 100000

def be4 : List UInt8 → Nat
  | a :: b :: c :: d :: _ => a.toNat * 16777216 + b.toNat * 65536 + c.toNat * 256 + d.toNat
  | _ => 0
def word (s : List UInt8) (k : Nat) : Nat := be4 (s.drop k)

theorem be4_lt (l : List UInt8) : be4 l < 4294967296 := by
  unfold be4
  split
  · rename_i a b c d r
    have := a.toNat_lt; have := b.toNat_lt; have := c.toNat_lt; have := d.toNat_lt
    omega
  · omega

theorem wraps_i64 (n : Int) (h0 : 0 ≤ n) (h1 : n < 2 ^ 63) : IntKind.i64.wrap n = n := by rw [IntKind.wrap_i64]; omega

theorem or4 (a b c d : UInt8) : bits .or .i64 (bits .or .i64 (bits .or .i64 (IntKind.i64.wrap (IntKind.i64.wrap (a.toNat : Int) * 2 ^ (min 24 IntKind.i64.bits))) (IntKind.i64.wrap (IntKind.i64.wrap (b.toNat : Int) * 2 ^ (min 16 IntKind.i64.bits)))) (IntKind.i64.wrap (IntKind.i64.wrap (c.toNat : Int) * 2 ^ (min 8 IntKind.i64.bits)))) (IntKind.i64.wrap (d.toNat : Int))
    = ((a.toNat * 16777216 + b.toNat * 65536 + c.toNat * 256 + d.toNat : Nat) : Int) := by
  have := a.toNat_lt; have := b.toNat_lt; have := c.toNat_lt; have := d.toNat_lt
  have e1 : (2 : Int) ^ (min 24 IntKind.i64.bits) = 16777216 := by decide
  have e2 : (2 : Int) ^ (min 16 IntKind.i64.bits) = 65536 := by decide
  have e3 : (2 : Int) ^ (min 8 IntKind.i64.bits) = 256 := by decide
  rw [e1, e2, e3]
  rw [wraps_i64 (a.toNat : Int) (by omega) (by omega), wraps_i64 (b.toNat : Int) (by omega) (by omega), wraps_i64 (c.toNat : Int) (by omega) (by omega), wraps_i64 (d.toNat : Int) (by omega) (by omega)]
  rw [wraps_i64 _ (by omega) (by omega), wraps_i64 _ (by omega) (by omega), wraps_i64 _ (by omega) (by omega)]
  rw [bits_join .i64 63 (by decide) wraps_i64 24 (a.toNat * 16777216 : Int) (b.toNat * 65536) (by omega) (by omega) (by omega) (by omega) (by omega) (by omega)]
  rw [bits_join .i64 63 (by decide) wraps_i64 16 (a.toNat * 16777216 + b.toNat * 65536 : Int) (c.toNat * 256) (by omega) (by omega) (by omega) (by omega) (by omega) (by omega)]
  rw [bits_join .i64 63 (by decide) wraps_i64 8 (a.toNat * 16777216 + b.toNat * 65536 + c.toNat * 256 : Int) d.toNat (by omega) (by omega) (by omega) (by omega) (by omega) (by omega)]
  omega

theorem four (l : List UInt8) (h : 4 ≤ l.length) : ∃ a b c d r, l = a :: b :: c :: d :: r := by
  match l, h with
  | a :: b :: c :: d :: r, _ => exact ⟨a, b, c, d, r, rfl⟩

section
variable {B : Nat} {S R : Ents} {Q : Value → Ents → Prop} {s : List UInt8} {k p : Nat}

theorem word_yes (hB : B ≤ p) (hs : s.length ≤ lim) (hn : k + 4 ≤ s.length) (h : Q (.tuple #[.int .i64 (word s k : Nat), .int .i64 0]) (tp p s (k + 4) :: R)) :
    CallWp Try.prog B 50 #[pt p] Q (tp p s k :: R) := by
  obtain ⟨a, b, c, d, r, e⟩ := four (s.drop k) (by rw [List.length_drop]; omega)
  have hw : word s k = a.toNat * 16777216 + b.toNat * 65536 + c.toNat * 256 + d.toNat := by rw [word, e]; rfl
  have et : (s.drop k).take 4 = [a, b, c, d] := by rw [e]; rfl
  refine CallWp.enter (args := [_]) Try.func50 rfl Try.ntmps50 rfl ?_
  refine Wp.seq (Wp.region ?_)
  refine OWp.evs 2 rfl ?_
  refine OWp.nil ?_
  refine Wp.seq (Wp.region ?_)
  refine OWp.evs 3 rfl ?_
  refine OWp.step rfl (Step.call rfl rfl rfl rfl rfl rfl (read_yes (n := 4) hB hs hn ?_))
  rw [et]
  refine OWp.evs 5 rfl ?_
  refine OWp.nil ?_
  refine Wp.seq ?_
  refine Wp.seq (Wp.region ?_)
  refine OWp.evs 2 rfl ?_
  refine OWp.nil ?_
  refine Wp.cond rfl (fun c => nomatch c) (fun _ => ?_)
  refine Wp.skip ?_
  refine Wp.seq (Wp.regionDraw [0, 1, 2, 3, 4, 5, 6, 7, 8, 9, 10, 11, 12, 13, 14, 15, 16, 17, 18, 19] [] rfl (by decide +kernel) ?_)
  refine DWp.evs 1 rfl ?_
  refine DWp.g rfl rfl rfl rfl (Gives.indexStr rfl rfl rfl rfl (by decide) rfl) ?_
  refine DWp.evs 3 rfl ?_
  refine DWp.g rfl rfl rfl rfl (Gives.indexStr rfl rfl rfl rfl (by decide) rfl) ?_
  refine DWp.evs 4 rfl ?_
  refine DWp.g rfl rfl rfl rfl (Gives.indexStr rfl rfl rfl rfl (by decide) rfl) ?_
  refine DWp.evs 4 rfl ?_
  refine DWp.g rfl rfl rfl rfl (Gives.indexStr rfl rfl rfl rfl (by decide) rfl) ?_
  refine DWp.evs 4 rfl ?_
  refine DWp.nil ?_
  refine Wp.ret ⟨trivial, _, ⟨_, _, rfl, rfl, _, _, rfl, rfl, rfl⟩, ?_⟩
  rw [hw] at h
  exact (congrArg (fun z => Q (.tuple #[.int .i64 z, .int .i64 0]) (tp p s (k + 4) :: R)) (or4 a b c d)).mpr h

theorem word_no (hs : s.length ≤ lim) (hk : k ≤ s.length) (hn : s.length < k + 4) (h : Q (.tuple #[.int .i64 0, .int .i64 120]) (tp p s k :: R)) :
    CallWp Try.prog B 50 #[pt p] Q (tp p s k :: R) := by
  refine CallWp.enter (args := [_]) Try.func50 rfl Try.ntmps50 rfl ?_
  refine Wp.seq (Wp.region ?_)
  refine OWp.evs 2 rfl ?_
  refine OWp.nil ?_
  refine Wp.seq (Wp.region ?_)
  refine OWp.evs 3 rfl ?_
  refine OWp.step rfl (Step.call rfl rfl rfl rfl rfl rfl (read_no (n := 4) hs hk hn ?_))
  refine OWp.evs 5 rfl ?_
  refine OWp.nil ?_
  refine Wp.seq ?_
  refine Wp.seq (Wp.region ?_)
  refine OWp.evs 2 rfl ?_
  refine OWp.nil ?_
  refine Wp.cond rfl (fun _ => ?_) (fun c => nomatch c)
  refine Wp.seq (Wp.region ?_)
  refine OWp.evs 2 rfl ?_
  refine OWp.nil ?_
  refine Wp.ret ⟨trivial, _, ⟨_, _, rfl, rfl, _, _, rfl, rfl, rfl⟩, ?_⟩
  exact h

/-- What a word reads: the number, the error, where the tape stands behind it. -/
def wordR (s : List UInt8) (k : Nat) : Nat × Nat × Nat := if k + 4 ≤ s.length then (word s k, 0, k + 4) else (0, 120, k)

theorem wordC (hB : B ≤ p) (hs : s.length ≤ lim) (hk : k ≤ s.length) (h : Q (.tuple #[.int .i64 ((wordR s k).1 : Nat), .int .i64 ((wordR s k).2.1 : Nat)]) (tp p s (wordR s k).2.2 :: R)) :
    CallWp Try.prog B 50 #[pt p] Q (tp p s k :: R) := by
  unfold wordR at h
  split at h
  · rename_i c; exact word_yes hB hs c h
  · rename_i c; exact word_no hs hk (by omega) h

def belowR (s : List UInt8) (k : Nat) (n : Int) : Nat × Nat × Nat :=
  if n < 1 ∨ 2147483647 < n then (0, 1, k) else if k + 4 ≤ s.length then (word s k * n.toNat / 4294967296, 0, k + 4) else (0, 120, k)

theorem below_shr {d n : Nat} (hd : d < 4294967296) (hn : n ≤ 2147483647) : (IntKind.i64.wrap ((d : Int) * (n : Int))).fdiv (2 ^ (min 32 IntKind.i64.bits)) = ((d * n / 4294967296 : Nat) : Int) := by
  have e : (2 : Int) ^ (min 32 IntKind.i64.bits) = 4294967296 := by decide
  have hm : d * n ≤ 4294967295 * 2147483647 := Nat.mul_le_mul (by omega) hn
  rw [e, wraps_i64 _ (by exact Int.mul_nonneg (by omega) (by omega)) (by
    have : (d : Int) * (n : Int) = ((d * n : Nat) : Int) := by simp
    rw [this]; omega)]
  rw [Int.fdiv_eq_ediv_of_nonneg _ (by omega)]
  have : (d : Int) * (n : Int) = ((d * n : Nat) : Int) := by simp
  rw [this]; omega

theorem belowC {n : Int} (hB : B ≤ p) (hs : s.length ≤ lim) (hk : k ≤ s.length) (h : Q (.tuple #[.int .i64 ((belowR s k n).1 : Nat), .int .i64 ((belowR s k n).2.1 : Nat)]) (tp p s (belowR s k n).2.2 :: R)) :
    CallWp Try.prog B 44 #[pt p, .int .i64 n] Q (tp p s k :: R) := by
  unfold belowR at h
  refine CallWp.enter (args := [_, _]) Try.func44 rfl Try.ntmps44 rfl ?_
  refine Wp.seq (Wp.region ?_)
  refine OWp.evs 2 rfl ?_
  refine OWp.nil ?_
  refine Wp.seq ?_
  refine Wp.seq (Wp.region ?_)
  refine OWp.evs 3 rfl ?_
  refine OWp.part 10 rfl (fun c1 => ?_) (fun c1 => ?_)
  · refine OWp.evs 3 rfl ?_
    refine OWp.nil ?_
    refine Wp.cond rfl (fun _ => ?_) (fun c => nomatch c)
    refine Wp.seq (Wp.region ?_)
    refine OWp.evs 2 rfl ?_
    refine OWp.nil ?_
    refine Wp.ret ⟨trivial, _, ⟨_, _, rfl, rfl, _, _, rfl, rfl, rfl⟩, ?_⟩
    rw [if_pos (.inl (of_decide_eq_true c1))] at h
    exact h
  · refine OWp.evs 3 rfl ?_
    refine OWp.nil ?_
    refine Wp.cond rfl (fun c2 => ?_) (fun c2 => ?_)
    · refine Wp.seq (Wp.region ?_)
      refine OWp.evs 2 rfl ?_
      refine OWp.nil ?_
      refine Wp.ret ⟨trivial, _, ⟨_, _, rfl, rfl, _, _, rfl, rfl, rfl⟩, ?_⟩
      rw [if_pos (.inr (of_decide_eq_true c2))] at h
      exact h
    · have c1 := of_decide_eq_false c1
      have c2 := of_decide_eq_false c2
      rw [if_neg (by omega)] at h
      obtain ⟨m, rfl⟩ : ∃ m : Nat, n = (m : Int) := ⟨n.toNat, by omega⟩
      refine Wp.skip ?_
      refine Wp.seq (Wp.region ?_)
      refine OWp.evs 1 rfl ?_
      refine OWp.step rfl (Step.call rfl rfl rfl rfl rfl rfl (wordC hB hs hk ?_))
      refine OWp.evs 5 rfl ?_
      refine OWp.nil ?_
      refine Wp.seq (Wp.region ?_)
      refine OWp.evs 7 rfl ?_
      refine OWp.nil ?_
      refine Wp.ret ⟨trivial, _, ⟨_, _, rfl, rfl, _, _, rfl, rfl, rfl⟩, ?_⟩
      unfold wordR
      split at h
      · rename_i c
        rw [if_pos c]
        have := below_shr (d := word s k) (n := m) (be4_lt _) (by omega)
        exact (congrArg (fun z => Q (.tuple #[.int .i64 z, .int .i64 0]) (tp p s (k + 4) :: R)) this).mpr h
      · rename_i c
        rw [if_neg c]
        have := below_shr (d := 0) (n := m) (by omega) (by omega)
        rw [Nat.zero_mul, Nat.zero_div] at this
        exact (congrArg (fun z => Q (.tuple #[.int .i64 z, .int .i64 120]) (tp p s k :: R)) this).mpr h
end
end Go.Proofs.C

namespace Go.Proofs.C
open Go.Lg
set_option maxRecDepth 100000

def ints (l : List Nat) : List Value := l.map fun (x : Nat) => .int .i64 (x : Int)
theorem ints_length (l : List Nat) : (ints l).length = l.length := by simp [ints]
theorem ints_set (l : List Nat) (i x : Nat) (h : i < l.length) : wr (ints l) i [.int .i64 (x : Int)] = ints (l.set i x) := by
  unfold wr ints
  rw [List.set_eq_take_append_cons_drop, if_pos h]
  simp [List.map_take, List.map_drop]
theorem ints_set' (l : List Nat) (o i x : Nat) (h : i < l.length) (ho : o = i) : wr (ints l) o (Value.int .i64 (x : Int)).cells.toList = ints (l.set i x) := by
  subst ho; exact ints_set l o x h
theorem ints_part (l : List Nat) (i : Nat) (h : i < l.length) : Lg.partAt Try.prog 3 (ints l) (0 + i * 1) = some (.int .i64 (l.getD i 0 : Nat)) := by
  show (ints l)[0 + i * 1]? = _
  rw [Nat.zero_add, Nat.mul_one]
  simp [ints, h]
theorem ints_one (l : List Nat) : (ints l).all (·.oneCell') = true := by
  rw [List.all_eq_true]; intro x hx; simp [ints] at hx; obtain ⟨_, _, rfl⟩ := hx; rfl
theorem zeros_ints (n : Nat) : zeros [.int .i64 0] n = ints (List.replicate n 0) := by
  induction n with
  | zero => rfl
  | succ n ih => simp [zeros, ih, ints, List.replicate_succ]

theorem wrap_sub1 (n : Nat) (h : n ≤ lim) : IntKind.i64.wrap ((n : Int) - 1) = (n : Int) - 1 := by unfold lim at h; rw [i64_id] <;> omega
theorem wrap_add1 (n : Nat) (h : n ≤ lim) : IntKind.i64.wrap ((n : Int) + 1) = ((n + 1 : Nat) : Int) := by unfold lim at h; rw [i64_id] <;> omega

def swp (l : List Nat) (i j : Nat) : List Nat := (l.set i (l.getD j 0)).set j (l.getD i 0)
theorem swp_length (l : List Nat) (i j : Nat) : (swp l i j).length = l.length := by simp [swp]

/-- The order that is drawn. -/
def shuf (s : List UInt8) : Nat → Nat → List Nat → List Nat
  | i + 2, k, l => shuf s (i + 1) (k + 4) (swp l (i + 1) (word s k * (i + 2) / 4294967296))
  | _, _, l => l

theorem range_step (i n : Nat) (h : i < n) : (List.range i ++ List.replicate (n - i) 0).set i i = List.range (i + 1) ++ List.replicate (n - (i + 1)) 0 := by
  obtain ⟨m, rfl⟩ : ∃ m, n = i + (m + 1) := ⟨n - i - 1, by omega⟩
  rw [List.set_append_right _ _ (by simp)]
  simp only [List.length_range, Nat.sub_self, Nat.add_sub_cancel_left, List.replicate_succ, List.set_cons_zero, List.range_succ, List.append_assoc]
  rw [show i + (m + 1) - (i + 1) = m by omega]
  rfl

section
variable {B : Nat} {S R : Ents} {Q : Value → Ents → Prop} {s : List UInt8} {k p : Nat}

end
end Go.Proofs.C

namespace Go.Proofs.C
open Go.Lg
set_option maxRecDepth 100000

/-- A number as four bytes. -/
def b4 (x : Nat) : List UInt8 := [UInt8.ofNat (x / 16777216), UInt8.ofNat (x / 65536), UInt8.ofNat (x / 256), UInt8.ofNat x]
theorem be4_b4 (x : Nat) (r : List UInt8) (h : x < 4294967296) : be4 (b4 x ++ r) = x := by
  show (UInt8.ofNat (x / 16777216)).toNat * 16777216 + (UInt8.ofNat (x / 65536)).toNat * 65536 + (UInt8.ofNat (x / 256)).toNat * 256 + (UInt8.ofNat x).toNat = x
  simp only [UInt8.toNat_ofNat']
  omega

theorem u8_cell (x d e : Nat) (he : (2 : Int) ^ (min e IntKind.u32.bits) = (d : Int)) (hd : 0 < d) : IntKind.u8.wrap (((x : Nat) : Int).fdiv (2 ^ (min e IntKind.u32.bits))) = ((UInt8.ofNat (x / d)).toNat : Int) := by
  rw [he, Int.fdiv_eq_ediv_of_nonneg _ (by omega), IntKind.wrap_u8, UInt8.toNat_ofNat']
  omega

section
variable {B : Nat} {S R : Ents} {Q : Value → Ents → Prop} {s : List UInt8} {k p : Nat}

end
end Go.Proofs.C

namespace Go.Proofs.C
open Go.Lg
set_option maxRecDepth 100000

/-- What Bytes tells: the bytes, why not, and how much of the text is read behind it. -/
def bytesR (s : List UInt8) (k : Nat) (n : Int) : List UInt8 × Nat × Nat :=
  if n < 0 ∨ 4096 < n then ([], 1, k) else if (s.length : Int) < k + n then ([], 120, k) else ((s.drop k).take n.toNat, 0, k + n.toNat)

theorem bytesR_le {s : List UInt8} {k : Nat} {n : Int} (hk : k ≤ s.length) : (bytesR s k n).2.2 ≤ s.length := by
  unfold bytesR
  split
  · exact hk
  split
  · exact hk
  · simp only; omega

section
variable {B : Nat} {S R : Ents} {Q : Value → Ents → Prop} {s : List UInt8} {k p : Nat}

end
end Go.Proofs.C

namespace Go.Proofs.C
open Go.Lg
set_option maxRecDepth 100000

/-- The document's tape. -/
abbrev rtp (b : Nat) (s : List UInt8) (k : Nat) : Nat × Obj := (b, cel [.string (str (s.drop k))] 52)

def fold8 (l : List UInt8) : Nat := l.foldl (fun d b => d * 256 + b.toNat) 0
theorem fold8_lt : ∀ (l : List UInt8) (d m : Nat), d < m → l.foldl (fun d b => d * 256 + b.toNat) d < m * 256 ^ l.length
  | [], d, m, h => by simpa using h
  | b :: l, d, m, h => by
    have hb := b.toNat_lt
    have := fold8_lt l (d * 256 + b.toNat) (m * 256) (by omega)
    simp only [List.foldl_cons, List.length_cons, Nat.pow_succ]
    calc _ < m * 256 * 256 ^ l.length := this
      _ = m * (256 ^ l.length * 256) := by rw [Nat.mul_assoc, Nat.mul_comm 256]
theorem fold8_take {l : List UInt8} {i : Nat} {b : UInt8} (h : l[i]? = some b) : fold8 (l.take (i + 1)) = fold8 (l.take i) * 256 + b.toNat := by
  rw [List.take_add_one, h]
  simp [fold8]
theorem fold8_four {l : List UInt8} (h : 4 ≤ l.length) : fold8 (l.take 4) = be4 l := by
  match l, h with
  | a :: b :: c :: d :: r, _ =>
    show (((0 * 256 + a.toNat) * 256 + b.toNat) * 256 + c.toNat) * 256 + d.toNat = a.toNat * 16777216 + b.toNat * 65536 + c.toNat * 256 + d.toNat
    omega

section
variable {B : Nat} {S R : Ents} {Q : Value → Ents → Prop} {s : List UInt8} {k p : Nat}

theorem rwordC (hB : B ≤ p) (_hs : s.length ≤ lim) (hk : k ≤ s.length) (h : Q (.tuple #[.int .i64 ((wordR s k).1 : Nat), .int .i64 ((wordR s k).2.1 : Nat)]) (rtp p s (wordR s k).2.2 :: R)) :
    CallWp Try.prog B 53 #[pt p] Q (rtp p s k :: R) := by
  have hlen : (s.drop k).length = s.length - k := List.length_drop
  refine CallWp.enter (args := [_]) Try.func53 rfl Try.ntmps53 rfl ?_
  refine Wp.seq (Wp.region ?_)
  refine OWp.evs 2 rfl ?_
  refine OWp.nil ?_
  refine Wp.seq ?_
  refine Wp.seq (Wp.region ?_)
  refine OWp.evs 3 rfl ?_
  first | refine OWp.load (List.Mem.head _) rfl rfl rfl rfl rfl ?_ | refine OWp.load (List.Mem.tail _ (List.Mem.head _)) rfl rfl rfl rfl rfl ?_ | refine OWp.load (List.Mem.tail _ (List.Mem.tail _ (List.Mem.head _))) rfl rfl rfl rfl rfl ?_ | refine OWp.load (List.Mem.tail _ (List.Mem.tail _ (List.Mem.tail _ (List.Mem.head _)))) rfl rfl rfl rfl rfl ?_ | refine OWp.load (List.Mem.tail _ (List.Mem.tail _ (List.Mem.tail _ (List.Mem.tail _ (List.Mem.head _))))) rfl rfl rfl rfl rfl ?_ | refine OWp.load (List.Mem.tail _ (List.Mem.tail _ (List.Mem.tail _ (List.Mem.tail _ (List.Mem.tail _ (List.Mem.head _)))))) rfl rfl rfl rfl rfl ?_
  refine OWp.evs 2 rfl ?_
  refine OWp.nil ?_
  rw [hlen]
  refine Wp.cond rfl (fun c1 => ?_) (fun c1 => ?_)
  · have c1 := of_decide_eq_true c1
    rw [wordR, if_neg (by omega)] at h
    refine Wp.seq (Wp.region ?_)
    refine OWp.evs 2 rfl ?_
    refine OWp.nil ?_
    refine Wp.ret ⟨trivial, _, ⟨_, _, rfl, rfl, _, _, rfl, rfl, rfl⟩, ?_⟩
    exact h
  · have c1 := of_decide_eq_false c1
    rw [wordR, if_pos (by omega)] at h
    refine Wp.skip ?_
    refine Wp.seq (Wp.region ?_)
    refine OWp.evs 1 rfl ?_
    refine OWp.nil ?_
    refine Wp.seq ?_
    refine Wp.seq (Wp.region ?_)
    refine OWp.evs 1 rfl ?_
    refine OWp.nil ?_
    refine Wp.block ?_
    refine Wp.loopS (α := Nat) (fun i => 4 - i) (fun i => [(5, .int .i64 (i : Int)), (4, .int .i64 (fold8 ((s.drop k).take i) : Nat)), (0, pt p)]) (fun _ => rtp p s k :: R) (fun i => i ≤ 4) 0 ?_ (.refl _) (by decide) ?_
    · exact .cons rfl (.cons rfl (.cons rfl (.nil _)))
    intro i hi
    refine Wp.seq ?_
    refine Wp.seq (Wp.region ?_)
    refine OWp.evs 2 rfl ?_
    refine OWp.nil ?_
    refine Wp.cond rfl (fun c2 => ?_) (fun c2 => ?_)
    · have c2 := of_decide_eq_true c2
      have hil : i < (s.drop k).length := by omega
      refine Wp.skip ?_
      refine Wp.seq ?_
      refine Wp.block ?_
      refine Wp.region ?_
      refine OWp.evs 5 rfl ?_
      first | refine OWp.load (List.Mem.head _) rfl rfl rfl rfl rfl ?_ | refine OWp.load (List.Mem.tail _ (List.Mem.head _)) rfl rfl rfl rfl rfl ?_ | refine OWp.load (List.Mem.tail _ (List.Mem.tail _ (List.Mem.head _))) rfl rfl rfl rfl rfl ?_ | refine OWp.load (List.Mem.tail _ (List.Mem.tail _ (List.Mem.tail _ (List.Mem.head _)))) rfl rfl rfl rfl rfl ?_ | refine OWp.load (List.Mem.tail _ (List.Mem.tail _ (List.Mem.tail _ (List.Mem.tail _ (List.Mem.head _))))) rfl rfl rfl rfl rfl ?_ | refine OWp.load (List.Mem.tail _ (List.Mem.tail _ (List.Mem.tail _ (List.Mem.tail _ (List.Mem.tail _ (List.Mem.head _)))))) rfl rfl rfl rfl rfl ?_
      refine OWp.evs 1 rfl ?_
      refine OWp.g rfl rfl (Gives.indexStr (b := (s.drop k)[i]) rfl rfl rfl rfl (by omega) (by simp only [Int.toNat_natCast]; exact List.getElem?_eq_getElem hil)) ?_
      refine OWp.evs 3 rfl ?_
      refine OWp.nil ?_
      refine Wp.region ?_
      refine OWp.evs 3 rfl ?_
      refine OWp.nil ?_
      have hb := fold8_take (List.getElem?_eq_getElem hil)
      have hlt := fold8_lt ((s.drop k).take i) 0 1 (by decide)
      have hlt' : fold8 ((s.drop k).take i) < 256 ^ 4 := by
        refine Nat.lt_of_lt_of_le hlt ?_
        rw [Nat.one_mul]
        exact Nat.pow_le_pow_right (by decide) (by rw [List.length_take]; omega)
      have h8 := (s.drop k)[i].toNat_lt
      refine ⟨i + 1, by omega, by omega, ?_, .refl _⟩
      refine .cons' rfl (int_eq (wrap_add1 i (by unfold lim; omega))) (.cons' rfl (int_eq ?_) (.cons rfl (.nil _)))
      rw [hb]
      rw [i64_id (x := (fold8 ((s.drop k).take i) : Int) * 256) (by omega) (by omega)]
      rw [i64_id (x := (((s.drop k)[i].toNat : Nat) : Int)) (by omega) (by omega)]
      rw [i64_id (by omega) (by omega)]
      omega
    · have c2 := of_decide_eq_false c2
      obtain rfl : i = 4 := by omega
      rw [fold8_four (by omega)]
      refine Wp.exit ?_
      refine Wp.seq (Wp.region ?_)
      refine OWp.evs 4 rfl ?_
      first | refine OWp.load (List.Mem.head _) rfl rfl rfl rfl rfl ?_ | refine OWp.load (List.Mem.tail _ (List.Mem.head _)) rfl rfl rfl rfl rfl ?_ | refine OWp.load (List.Mem.tail _ (List.Mem.tail _ (List.Mem.head _))) rfl rfl rfl rfl rfl ?_ | refine OWp.load (List.Mem.tail _ (List.Mem.tail _ (List.Mem.tail _ (List.Mem.head _)))) rfl rfl rfl rfl rfl ?_ | refine OWp.load (List.Mem.tail _ (List.Mem.tail _ (List.Mem.tail _ (List.Mem.tail _ (List.Mem.head _))))) rfl rfl rfl rfl rfl ?_ | refine OWp.load (List.Mem.tail _ (List.Mem.tail _ (List.Mem.tail _ (List.Mem.tail _ (List.Mem.tail _ (List.Mem.head _)))))) rfl rfl rfl rfl rfl ?_
      refine OWp.g rfl rfl (Gives.sliceStr (l := 4) (h' := (s.drop k).length) rfl rfl rfl ⟨_, _, rfl, rfl⟩ rfl (by omega) (by omega)) ?_
      refine OWp.evs 2 rfl ?_
      refine OWp.step rfl (Step.store 0 rfl rfl rfl rfl rfl hB rfl (Nat.le_of_ble_eq_true rfl) (Unfz.zero _) rfl rfl ?_)
      refine OWp.nil ?_
      refine Wp.seq (Wp.region ?_)
      refine OWp.evs 3 rfl ?_
      refine OWp.nil ?_
      refine Wp.ret ⟨trivial, _, ⟨_, _, rfl, rfl, _, _, rfl, rfl, rfl⟩, ?_⟩
      have e : ((s.drop k).drop 4).take ((s.drop k).length - 4) = s.drop (k + 4) := by
        rw [List.drop_drop, List.take_of_length_le]
        simp only [List.length_drop]; omega
      rw [e]
      exact h
end
end Go.Proofs.C

namespace Go.Proofs.C
open Go.Lg
set_option maxRecDepth 100000

/-- The cells of whole numbers. -/
def zi (l : List Int) : List Value := l.map fun x => .int .i64 x
theorem zi_length (l : List Int) : (zi l).length = l.length := by simp [zi]
theorem ints_zi (l : List Nat) : ints l = zi (l.map fun (x : Nat) => (x : Int)) := by simp [zi, ints, List.map_map]
theorem zi_one (l : List Int) : (zi l).all (·.oneCell') = true := by
  rw [List.all_eq_true]; intro x hx; simp [zi] at hx; obtain ⟨_, _, rfl⟩ := hx; rfl
theorem zi_append (l k : List Int) : zi (l ++ k) = zi l ++ zi k := by simp [zi]
theorem zi_flat (l : List Int) : (l.flatMap fun z => [Value.int .i64 z]) = zi l := by
  induction l with
  | nil => rfl
  | cons x l ih => simp [zi] at ih ⊢; exact ih
theorem nat_inj {l k : List Nat} : (l.map fun (x : Nat) => (x : Int)) = (k.map fun (x : Nat) => (x : Int)) ↔ l = k := by
  constructor
  · intro h
    induction l generalizing k with
    | nil => cases k <;> simp_all
    | cons x l ih =>
      cases k with
      | nil => simp at h
      | cons y k =>
        simp only [List.map_cons, List.cons.injEq] at h
        rw [ih h.2, Int.ofNat_inj.1 h.1]
  · intro h; rw [h]

theorem _root_.Go.Lg.Reads.form {S : Ents} {sz k : Nat} {v : Value} {xs : List Value} (h : Reads S sz v k xs) : ∃ a c, v = .slice a k c := by
  obtain ⟨_, ⟨⟨a, c, h⟩, rfl⟩ | ⟨b, o, cap, l, e, fz, hv, _⟩⟩ := h
  · exact ⟨a, c, h⟩
  · exact ⟨_, _, hv⟩

/-- A slice of one cell an element: where its elements stand. -/
theorem _root_.Go.Lg.Reads.get1 {S : Ents} {v : Value} {xs : List Value} {k : Nat} (h : Reads S 1 v k xs) (h0 : 0 < k) :
    ∃ b o cap l e fz, v = .slice (some ⟨b, o, none⟩) k cap ∧ (b, cel l e fz) ∈ S ∧ o + k ≤ l.length ∧ ∀ i, i < k → l[o + i * 1]? = xs[i]? := by
  obtain ⟨hl, ⟨_, hk⟩ | ⟨b, o, cap, l, e, fz, hv, hm, hle, hx⟩⟩ := h
  · omega
  · refine ⟨b, o, cap, l, e, fz, hv, hm, by omega, fun i hi => ?_⟩
    rw [← hx, List.getElem?_take, if_pos (by omega), List.getElem?_drop, Nat.mul_one]

theorem zi_get {l : List Int} {i : Nat} {x : Int} (h : l[i]? = some x) : (zi l)[i]? = some (.int .i64 x) := by simp [zi, h]
theorem int_part {l : List Value} {n : Nat} : Lg.partAt Try.prog 3 l n = l[n]? := rfl

section
variable {B : Nat} {S : Ents} {Q : Value → Ents → Prop}

end
end Go.Proofs.C

namespace Go.Proofs.C
open Go.Lg
set_option maxRecDepth 100000

/-- A command. -/
@[ext] structure Hop where
  kind : Int
  node : Int
  user : Int
  delay : Int
  id : List UInt8

def Hop.cells (x : Hop) : List Value := [.int .i64 x.kind, .int .i64 x.node, .int .i64 x.user, .int .i64 x.delay, .string (str x.id)]
theorem Hop.len (x : Hop) : x.cells.length = 5 := rfl
/-- Which commands may be. -/
def hopP (x : Hop) : Prop :=
  (x.kind = 1 ∧ 0 ≤ x.node ∧ x.node ≤ 31 ∧ 0 ≤ x.delay ∧ x.delay ≤ 4096 ∧ x.user = 0 ∧ x.id.length = 0) ∨
  (x.kind = 2 ∧ 0 ≤ x.user ∧ x.user ≤ 63 ∧ 0 ≤ x.delay ∧ x.delay ≤ 4096 ∧ x.node = 0 ∧ x.id.length = 16) ∨
  (x.kind = 3 ∧ x.id.length = 16 ∧ x.node = 0 ∧ x.user = 0 ∧ x.delay = 0) ∨
  (x.kind = 4 ∧ x.node = 0 ∧ x.user = 0 ∧ x.delay = 0 ∧ x.id.length = 0)
instance (x : Hop) : Decidable (hopP x) := by unfold hopP; infer_instance

def hopE (x : Hop) : Int := if hopP x then 0 else 70
theorem hopE_yes {x : Hop} (h : hopP x) : hopE x = 0 := if_pos h
theorem hopE_no {x : Hop} (h : ¬ hopP x) : hopE x = 70 := if_neg h

def eqHop (x y : Hop) : Bool := decide (x.kind = y.kind) && (decide (x.node = y.node) && (decide (x.user = y.user) && (decide (x.delay = y.delay) && (decide (x.id = y.id) && true))))
theorem eqHop_iff {x y : Hop} : eqHop x y = true ↔ x = y := by
  unfold eqHop
  obtain ⟨a, b, c, d, e⟩ := x
  obtain ⟨a', b', c', d', e'⟩ := y
  simp

theorem hopG : Try.prog.eqGuardType Try.prog.depth 43 = false := by decide +kernel
theorem nil_len {l : List UInt8} : l = [] ↔ l.length = 0 := by cases l <;> simp

section
variable {B : Nat} {S R : Ents} {Q : Value → Ents → Prop}

theorem withinC {n most : Int} (h : Q (.bool (decide (0 ≤ n ∧ n ≤ most))) S) : CallWp Try.prog B 42 #[.int .i64 n, .int .i64 most] Q S := by
  refine CallWp.enter (args := [_, _]) Try.func42 rfl Try.ntmps42 rfl ?_
  refine Wp.seq (Wp.region ?_)
  refine OWp.evs 1 rfl ?_
  refine OWp.nil ?_
  refine Wp.seq (Wp.region ?_)
  refine OWp.evs 3 rfl ?_
  refine OWp.part 7 rfl (fun h1 => ?_) (fun h1 => ?_)
  · have h1 := of_decide_eq_true h1
    refine OWp.evs 5 rfl ?_
    refine OWp.nil ?_
    refine Wp.ret ⟨trivial, _, ⟨_, _, rfl, rfl, rfl⟩, ?_⟩
    rw [decide_eq_decide.2 (show 0 ≤ n ∧ n ≤ most ↔ n ≤ most by omega)] at h; exact h
  have h1 := of_decide_eq_false h1
  refine OWp.evs 5 rfl ?_
  refine OWp.nil ?_
  refine Wp.ret ⟨trivial, _, ⟨_, _, rfl, rfl, rfl⟩, ?_⟩
  rw [decide_eq_false (by omega)] at h; exact h
theorem checkC {x : Hop} (h : Q (.int .i64 (hopE x)) S) : CallWp Try.prog B 32 #[.agg x.cells.toArray] Q S := by
  have hno : ¬ hopP x → Q (.int .i64 70) S := fun e => by rw [hopE_no e] at h; exact h
  have hyes : hopP x → Q (.int .i64 0) S := fun e => by rw [hopE_yes e] at h; exact h
  clear h
  unfold hopP at hno hyes
  refine CallWp.enter (args := [_]) Try.func32 rfl Try.ntmps32 rfl ?_
  refine Wp.seq (Wp.region ?_)
  refine OWp.step rfl (Step.box rfl rfl rfl ?_); intro L1 hBL1 hLL1
  refine OWp.evs 1 rfl ?_
  refine OWp.nil ?_
  refine Wp.seq (Wp.region ?_)
  refine OWp.step rfl (Step.alloc rfl rfl rfl ?_); intro L3 hBL3 hLL3
  refine OWp.nil ?_
  refine Wp.seq (Wp.region ?_)
  refine OWp.evs 1 rfl ?_
  first | refine OWp.load (List.Mem.head _) rfl rfl rfl rfl rfl ?_ | refine OWp.load (List.Mem.tail _ (List.Mem.head _)) rfl rfl rfl rfl rfl ?_ | refine OWp.load (List.Mem.tail _ (List.Mem.tail _ (List.Mem.head _))) rfl rfl rfl rfl rfl ?_ | refine OWp.load (List.Mem.tail _ (List.Mem.tail _ (List.Mem.tail _ (List.Mem.head _)))) rfl rfl rfl rfl rfl ?_ | refine OWp.load (List.Mem.tail _ (List.Mem.tail _ (List.Mem.tail _ (List.Mem.tail _ (List.Mem.head _))))) rfl rfl rfl rfl rfl ?_ | refine OWp.load (List.Mem.tail _ (List.Mem.tail _ (List.Mem.tail _ (List.Mem.tail _ (List.Mem.tail _ (List.Mem.head _)))))) rfl rfl rfl rfl rfl ?_
  refine OWp.step rfl (Step.call rfl rfl rfl rfl rfl rfl ((withinC ?_)))
  refine OWp.evs 1 rfl ?_
  refine OWp.nil ?_
  refine Wp.seq ?_
  refine Wp.seq (Wp.region ?_)
  refine OWp.evs 1 rfl ?_
  first | refine OWp.load (List.Mem.head _) rfl rfl rfl rfl rfl ?_ | refine OWp.load (List.Mem.tail _ (List.Mem.head _)) rfl rfl rfl rfl rfl ?_ | refine OWp.load (List.Mem.tail _ (List.Mem.tail _ (List.Mem.head _))) rfl rfl rfl rfl rfl ?_ | refine OWp.load (List.Mem.tail _ (List.Mem.tail _ (List.Mem.tail _ (List.Mem.head _)))) rfl rfl rfl rfl rfl ?_ | refine OWp.load (List.Mem.tail _ (List.Mem.tail _ (List.Mem.tail _ (List.Mem.tail _ (List.Mem.head _))))) rfl rfl rfl rfl rfl ?_ | refine OWp.load (List.Mem.tail _ (List.Mem.tail _ (List.Mem.tail _ (List.Mem.tail _ (List.Mem.tail _ (List.Mem.head _)))))) rfl rfl rfl rfl rfl ?_
  refine OWp.nil ?_
  refine Wp.block ?_
  refine Wp.seq (Wp.region ?_)
  refine OWp.evs 2 rfl ?_
  refine OWp.nil ?_
  refine Wp.cond rfl (fun h1 => ?_) (fun h1 => ?_)
  · have h1 := of_decide_eq_true h1
    refine Wp.seq (Wp.region ?_)
    refine OWp.evs 1 rfl ?_
    first | refine OWp.load (List.Mem.head _) rfl rfl rfl rfl rfl ?_ | refine OWp.load (List.Mem.tail _ (List.Mem.head _)) rfl rfl rfl rfl rfl ?_ | refine OWp.load (List.Mem.tail _ (List.Mem.tail _ (List.Mem.head _))) rfl rfl rfl rfl rfl ?_ | refine OWp.load (List.Mem.tail _ (List.Mem.tail _ (List.Mem.tail _ (List.Mem.head _)))) rfl rfl rfl rfl rfl ?_ | refine OWp.load (List.Mem.tail _ (List.Mem.tail _ (List.Mem.tail _ (List.Mem.tail _ (List.Mem.head _))))) rfl rfl rfl rfl rfl ?_ | refine OWp.load (List.Mem.tail _ (List.Mem.tail _ (List.Mem.tail _ (List.Mem.tail _ (List.Mem.tail _ (List.Mem.head _)))))) rfl rfl rfl rfl rfl ?_
    refine OWp.evs 1 rfl ?_
    first | refine OWp.load (List.Mem.head _) rfl rfl rfl rfl rfl ?_ | refine OWp.load (List.Mem.tail _ (List.Mem.head _)) rfl rfl rfl rfl rfl ?_ | refine OWp.load (List.Mem.tail _ (List.Mem.tail _ (List.Mem.head _))) rfl rfl rfl rfl rfl ?_ | refine OWp.load (List.Mem.tail _ (List.Mem.tail _ (List.Mem.tail _ (List.Mem.head _)))) rfl rfl rfl rfl rfl ?_ | refine OWp.load (List.Mem.tail _ (List.Mem.tail _ (List.Mem.tail _ (List.Mem.tail _ (List.Mem.head _))))) rfl rfl rfl rfl rfl ?_ | refine OWp.load (List.Mem.tail _ (List.Mem.tail _ (List.Mem.tail _ (List.Mem.tail _ (List.Mem.tail _ (List.Mem.head _)))))) rfl rfl rfl rfl rfl ?_
    refine OWp.g rfl rfl (Gives.build rfl rfl) ?_
    refine OWp.step rfl (Step.store 0 rfl rfl rfl rfl rfl (by assumption) rfl (Nat.le_of_ble_eq_true rfl) (Unfz.zero _) rfl rfl ?_)
    refine OWp.nil ?_
    refine Wp.region ?_
    refine OWp.evs 2 rfl ?_
    refine OWp.part 18 rfl (fun h2 => ?_) (fun h2 => ?_)
    · have h2 := of_decide_eq_true h2
      refine OWp.evs 1 rfl ?_
      first | refine OWp.load (List.Mem.head _) rfl rfl rfl rfl rfl ?_ | refine OWp.load (List.Mem.tail _ (List.Mem.head _)) rfl rfl rfl rfl rfl ?_ | refine OWp.load (List.Mem.tail _ (List.Mem.tail _ (List.Mem.head _))) rfl rfl rfl rfl rfl ?_ | refine OWp.load (List.Mem.tail _ (List.Mem.tail _ (List.Mem.tail _ (List.Mem.head _)))) rfl rfl rfl rfl rfl ?_ | refine OWp.load (List.Mem.tail _ (List.Mem.tail _ (List.Mem.tail _ (List.Mem.tail _ (List.Mem.head _))))) rfl rfl rfl rfl rfl ?_ | refine OWp.load (List.Mem.tail _ (List.Mem.tail _ (List.Mem.tail _ (List.Mem.tail _ (List.Mem.tail _ (List.Mem.head _)))))) rfl rfl rfl rfl rfl ?_
      refine OWp.step rfl (Step.call rfl rfl rfl rfl rfl rfl ((withinC ?_)))
      refine OWp.evs 2 rfl ?_
      refine OWp.nil ?_
      refine Wp.seq (Wp.region ?_)
      refine OWp.evs 1 rfl ?_
      first | refine OWp.load (List.Mem.head _) rfl rfl rfl rfl rfl ?_ | refine OWp.load (List.Mem.tail _ (List.Mem.head _)) rfl rfl rfl rfl rfl ?_ | refine OWp.load (List.Mem.tail _ (List.Mem.tail _ (List.Mem.head _))) rfl rfl rfl rfl rfl ?_ | refine OWp.load (List.Mem.tail _ (List.Mem.tail _ (List.Mem.tail _ (List.Mem.head _)))) rfl rfl rfl rfl rfl ?_ | refine OWp.load (List.Mem.tail _ (List.Mem.tail _ (List.Mem.tail _ (List.Mem.tail _ (List.Mem.head _))))) rfl rfl rfl rfl rfl ?_ | refine OWp.load (List.Mem.tail _ (List.Mem.tail _ (List.Mem.tail _ (List.Mem.tail _ (List.Mem.tail _ (List.Mem.head _)))))) rfl rfl rfl rfl rfl ?_
      refine OWp.evs 1 rfl ?_
      refine OWp.step rfl (Step.store 0 rfl rfl rfl rfl rfl (by assumption) rfl (Nat.le_of_ble_eq_true rfl) (Unfz.zero _) rfl rfl ?_)
      refine OWp.nil ?_
      refine Wp.seq ?_
      refine Wp.seq (Wp.region ?_)
      refine OWp.evs 3 rfl ?_
      refine OWp.part 63 rfl (fun h3 => ?_) (fun h3 => ?_)
      · have h3 := ndT h3
        refine OWp.evs 4 rfl ?_
        refine OWp.nil ?_
        refine Wp.cond rfl (fun _ => ?_) (fun c => nomatch c)
        refine Wp.drop (S' := S) (by repeat (first | exact List.Sublist.refl _ | exact List.sublist_append_right _ _ | apply List.Sublist.cons)) ?_
        refine Wp.seq (Wp.region ?_)
        refine OWp.evs 1 rfl ?_
        refine OWp.nil ?_
        refine Wp.ret ⟨trivial, _, ⟨_, _, rfl, rfl, rfl⟩, ?_⟩
        exact hno (by omega)
      have h3 := ndF h3
      first | refine OWp.load (List.Mem.head _) rfl rfl rfl rfl rfl ?_ | refine OWp.load (List.Mem.tail _ (List.Mem.head _)) rfl rfl rfl rfl rfl ?_ | refine OWp.load (List.Mem.tail _ (List.Mem.tail _ (List.Mem.head _))) rfl rfl rfl rfl rfl ?_ | refine OWp.load (List.Mem.tail _ (List.Mem.tail _ (List.Mem.tail _ (List.Mem.head _)))) rfl rfl rfl rfl rfl ?_ | refine OWp.load (List.Mem.tail _ (List.Mem.tail _ (List.Mem.tail _ (List.Mem.tail _ (List.Mem.head _))))) rfl rfl rfl rfl rfl ?_ | refine OWp.load (List.Mem.tail _ (List.Mem.tail _ (List.Mem.tail _ (List.Mem.tail _ (List.Mem.tail _ (List.Mem.head _)))))) rfl rfl rfl rfl rfl ?_
      first | refine OWp.load (List.Mem.head _) rfl rfl rfl rfl rfl ?_ | refine OWp.load (List.Mem.tail _ (List.Mem.head _)) rfl rfl rfl rfl rfl ?_ | refine OWp.load (List.Mem.tail _ (List.Mem.tail _ (List.Mem.head _))) rfl rfl rfl rfl rfl ?_ | refine OWp.load (List.Mem.tail _ (List.Mem.tail _ (List.Mem.tail _ (List.Mem.head _)))) rfl rfl rfl rfl rfl ?_ | refine OWp.load (List.Mem.tail _ (List.Mem.tail _ (List.Mem.tail _ (List.Mem.tail _ (List.Mem.head _))))) rfl rfl rfl rfl rfl ?_ | refine OWp.load (List.Mem.tail _ (List.Mem.tail _ (List.Mem.tail _ (List.Mem.tail _ (List.Mem.tail _ (List.Mem.head _)))))) rfl rfl rfl rfl rfl ?_
      refine OWp.g rfl rfl (Gives.neqStruct (r := eqHop x ⟨x.kind, x.node, 0, x.delay, []⟩) 10 rfl rfl rfl rfl hopG (by rfl)) ?_
      refine OWp.evs 1 rfl ?_
      refine OWp.nil ?_
      refine Wp.cond rfl (fun h4 => ?_) (fun h4 => ?_)
      · skip
        refine Wp.drop (S' := S) (by repeat (first | exact List.Sublist.refl _ | exact List.sublist_append_right _ _ | apply List.Sublist.cons)) ?_
        refine Wp.seq (Wp.region ?_)
        refine OWp.evs 1 rfl ?_
        refine OWp.nil ?_
        refine Wp.ret ⟨trivial, _, ⟨_, _, rfl, rfl, rfl⟩, ?_⟩
        refine hno fun hp => ?_
        have : eqHop x ⟨x.kind, x.node, 0, x.delay, []⟩ = true := eqHop_iff.2 (Hop.ext rfl rfl (by show x.user = 0; omega) rfl (nil_len.2 (by omega)))
        rw [this] at h4
        cases h4
      refine Wp.skip ?_
      refine Wp.drop (S' := S) (by repeat (first | exact List.Sublist.refl _ | exact List.sublist_append_right _ _ | apply List.Sublist.cons)) ?_
      refine Wp.seq (Wp.region ?_)
      refine OWp.evs 1 rfl ?_
      refine OWp.nil ?_
      refine Wp.ret ⟨trivial, _, ⟨_, _, rfl, rfl, rfl⟩, ?_⟩
      have : eqHop x ⟨x.kind, x.node, 0, x.delay, []⟩ = true := by simpa using h4
      have := eqHop_iff.1 this
      have e3 := congrArg Hop.user this
      have e5 := nil_len.1 (congrArg Hop.id this)
      simp only at e3
      exact hyes (by omega)
    have h2 := of_decide_eq_false h2
    refine OWp.evs 5 rfl ?_
    refine OWp.nil ?_
    refine Wp.seq (Wp.region ?_)
    refine OWp.evs 1 rfl ?_
    first | refine OWp.load (List.Mem.head _) rfl rfl rfl rfl rfl ?_ | refine OWp.load (List.Mem.tail _ (List.Mem.head _)) rfl rfl rfl rfl rfl ?_ | refine OWp.load (List.Mem.tail _ (List.Mem.tail _ (List.Mem.head _))) rfl rfl rfl rfl rfl ?_ | refine OWp.load (List.Mem.tail _ (List.Mem.tail _ (List.Mem.tail _ (List.Mem.head _)))) rfl rfl rfl rfl rfl ?_ | refine OWp.load (List.Mem.tail _ (List.Mem.tail _ (List.Mem.tail _ (List.Mem.tail _ (List.Mem.head _))))) rfl rfl rfl rfl rfl ?_ | refine OWp.load (List.Mem.tail _ (List.Mem.tail _ (List.Mem.tail _ (List.Mem.tail _ (List.Mem.tail _ (List.Mem.head _)))))) rfl rfl rfl rfl rfl ?_
    refine OWp.evs 1 rfl ?_
    refine OWp.step rfl (Step.store 0 rfl rfl rfl rfl rfl (by assumption) rfl (Nat.le_of_ble_eq_true rfl) (Unfz.zero _) rfl rfl ?_)
    refine OWp.nil ?_
    refine Wp.seq ?_
    refine Wp.drop (S' := S) (by repeat (first | exact List.Sublist.refl _ | exact List.sublist_append_right _ _ | apply List.Sublist.cons)) ?_
    refine Wp.seq (Wp.region ?_)
    refine OWp.evs 7 rfl ?_
    refine OWp.nil ?_
    refine Wp.cond rfl (fun _ => ?_) (fun c => nomatch c)
    refine Wp.seq (Wp.region ?_)
    refine OWp.evs 1 rfl ?_
    refine OWp.nil ?_
    refine Wp.ret ⟨trivial, _, ⟨_, _, rfl, rfl, rfl⟩, ?_⟩
    exact hno (by omega)
  have h1 := of_decide_eq_false h1
  refine Wp.seq (Wp.region ?_)
  refine OWp.evs 2 rfl ?_
  refine OWp.nil ?_
  refine Wp.cond rfl (fun h1b => ?_) (fun h1b => ?_)
  · have h1b := of_decide_eq_true h1b
    refine Wp.seq (Wp.region ?_)
    refine OWp.evs 1 rfl ?_
    first | refine OWp.load (List.Mem.head _) rfl rfl rfl rfl rfl ?_ | refine OWp.load (List.Mem.tail _ (List.Mem.head _)) rfl rfl rfl rfl rfl ?_ | refine OWp.load (List.Mem.tail _ (List.Mem.tail _ (List.Mem.head _))) rfl rfl rfl rfl rfl ?_ | refine OWp.load (List.Mem.tail _ (List.Mem.tail _ (List.Mem.tail _ (List.Mem.head _)))) rfl rfl rfl rfl rfl ?_ | refine OWp.load (List.Mem.tail _ (List.Mem.tail _ (List.Mem.tail _ (List.Mem.tail _ (List.Mem.head _))))) rfl rfl rfl rfl rfl ?_ | refine OWp.load (List.Mem.tail _ (List.Mem.tail _ (List.Mem.tail _ (List.Mem.tail _ (List.Mem.tail _ (List.Mem.head _)))))) rfl rfl rfl rfl rfl ?_
    refine OWp.evs 1 rfl ?_
    first | refine OWp.load (List.Mem.head _) rfl rfl rfl rfl rfl ?_ | refine OWp.load (List.Mem.tail _ (List.Mem.head _)) rfl rfl rfl rfl rfl ?_ | refine OWp.load (List.Mem.tail _ (List.Mem.tail _ (List.Mem.head _))) rfl rfl rfl rfl rfl ?_ | refine OWp.load (List.Mem.tail _ (List.Mem.tail _ (List.Mem.tail _ (List.Mem.head _)))) rfl rfl rfl rfl rfl ?_ | refine OWp.load (List.Mem.tail _ (List.Mem.tail _ (List.Mem.tail _ (List.Mem.tail _ (List.Mem.head _))))) rfl rfl rfl rfl rfl ?_ | refine OWp.load (List.Mem.tail _ (List.Mem.tail _ (List.Mem.tail _ (List.Mem.tail _ (List.Mem.tail _ (List.Mem.head _)))))) rfl rfl rfl rfl rfl ?_
    refine OWp.evs 1 rfl ?_
    first | refine OWp.load (List.Mem.head _) rfl rfl rfl rfl rfl ?_ | refine OWp.load (List.Mem.tail _ (List.Mem.head _)) rfl rfl rfl rfl rfl ?_ | refine OWp.load (List.Mem.tail _ (List.Mem.tail _ (List.Mem.head _))) rfl rfl rfl rfl rfl ?_ | refine OWp.load (List.Mem.tail _ (List.Mem.tail _ (List.Mem.tail _ (List.Mem.head _)))) rfl rfl rfl rfl rfl ?_ | refine OWp.load (List.Mem.tail _ (List.Mem.tail _ (List.Mem.tail _ (List.Mem.tail _ (List.Mem.head _))))) rfl rfl rfl rfl rfl ?_ | refine OWp.load (List.Mem.tail _ (List.Mem.tail _ (List.Mem.tail _ (List.Mem.tail _ (List.Mem.tail _ (List.Mem.head _)))))) rfl rfl rfl rfl rfl ?_
    refine OWp.g rfl rfl (Gives.build rfl rfl) ?_
    refine OWp.step rfl (Step.store 0 rfl rfl rfl rfl rfl (by assumption) rfl (Nat.le_of_ble_eq_true rfl) (Unfz.zero _) rfl rfl ?_)
    refine OWp.nil ?_
    refine Wp.region ?_
    refine OWp.evs 2 rfl ?_
    refine OWp.part 33 rfl (fun h2 => ?_) (fun h2 => ?_)
    · have h2 := of_decide_eq_true h2
      refine OWp.evs 1 rfl ?_
      first | refine OWp.load (List.Mem.head _) rfl rfl rfl rfl rfl ?_ | refine OWp.load (List.Mem.tail _ (List.Mem.head _)) rfl rfl rfl rfl rfl ?_ | refine OWp.load (List.Mem.tail _ (List.Mem.tail _ (List.Mem.head _))) rfl rfl rfl rfl rfl ?_ | refine OWp.load (List.Mem.tail _ (List.Mem.tail _ (List.Mem.tail _ (List.Mem.head _)))) rfl rfl rfl rfl rfl ?_ | refine OWp.load (List.Mem.tail _ (List.Mem.tail _ (List.Mem.tail _ (List.Mem.tail _ (List.Mem.head _))))) rfl rfl rfl rfl rfl ?_ | refine OWp.load (List.Mem.tail _ (List.Mem.tail _ (List.Mem.tail _ (List.Mem.tail _ (List.Mem.tail _ (List.Mem.head _)))))) rfl rfl rfl rfl rfl ?_
      refine OWp.step rfl (Step.call rfl rfl rfl rfl rfl rfl ((withinC ?_)))
      refine OWp.evs 2 rfl ?_
      refine OWp.part 38 rfl (fun h3 => ?_) (fun h3 => ?_)
      · have h3 := of_decide_eq_true h3
        refine OWp.evs 1 rfl ?_
        first | refine OWp.load (List.Mem.head _) rfl rfl rfl rfl rfl ?_ | refine OWp.load (List.Mem.tail _ (List.Mem.head _)) rfl rfl rfl rfl rfl ?_ | refine OWp.load (List.Mem.tail _ (List.Mem.tail _ (List.Mem.head _))) rfl rfl rfl rfl rfl ?_ | refine OWp.load (List.Mem.tail _ (List.Mem.tail _ (List.Mem.tail _ (List.Mem.head _)))) rfl rfl rfl rfl rfl ?_ | refine OWp.load (List.Mem.tail _ (List.Mem.tail _ (List.Mem.tail _ (List.Mem.tail _ (List.Mem.head _))))) rfl rfl rfl rfl rfl ?_ | refine OWp.load (List.Mem.tail _ (List.Mem.tail _ (List.Mem.tail _ (List.Mem.tail _ (List.Mem.tail _ (List.Mem.head _)))))) rfl rfl rfl rfl rfl ?_
        refine OWp.evs 4 rfl ?_
        refine OWp.nil ?_
        refine Wp.seq (Wp.region ?_)
        refine OWp.evs 1 rfl ?_
        first | refine OWp.load (List.Mem.head _) rfl rfl rfl rfl rfl ?_ | refine OWp.load (List.Mem.tail _ (List.Mem.head _)) rfl rfl rfl rfl rfl ?_ | refine OWp.load (List.Mem.tail _ (List.Mem.tail _ (List.Mem.head _))) rfl rfl rfl rfl rfl ?_ | refine OWp.load (List.Mem.tail _ (List.Mem.tail _ (List.Mem.tail _ (List.Mem.head _)))) rfl rfl rfl rfl rfl ?_ | refine OWp.load (List.Mem.tail _ (List.Mem.tail _ (List.Mem.tail _ (List.Mem.tail _ (List.Mem.head _))))) rfl rfl rfl rfl rfl ?_ | refine OWp.load (List.Mem.tail _ (List.Mem.tail _ (List.Mem.tail _ (List.Mem.tail _ (List.Mem.tail _ (List.Mem.head _)))))) rfl rfl rfl rfl rfl ?_
        refine OWp.evs 1 rfl ?_
        refine OWp.step rfl (Step.store 0 rfl rfl rfl rfl rfl (by assumption) rfl (Nat.le_of_ble_eq_true rfl) (Unfz.zero _) rfl rfl ?_)
        refine OWp.nil ?_
        refine Wp.seq ?_
        refine Wp.seq (Wp.region ?_)
        refine OWp.evs 3 rfl ?_
        refine OWp.part 63 rfl (fun h4 => ?_) (fun h4 => ?_)
        · have h4 := ndT h4
          refine OWp.evs 4 rfl ?_
          refine OWp.nil ?_
          refine Wp.cond rfl (fun _ => ?_) (fun c => nomatch c)
          refine Wp.drop (S' := S) (by repeat (first | exact List.Sublist.refl _ | exact List.sublist_append_right _ _ | apply List.Sublist.cons)) ?_
          refine Wp.seq (Wp.region ?_)
          refine OWp.evs 1 rfl ?_
          refine OWp.nil ?_
          refine Wp.ret ⟨trivial, _, ⟨_, _, rfl, rfl, rfl⟩, ?_⟩
          exact hno (by omega)
        have h4 := ndF h4
        first | refine OWp.load (List.Mem.head _) rfl rfl rfl rfl rfl ?_ | refine OWp.load (List.Mem.tail _ (List.Mem.head _)) rfl rfl rfl rfl rfl ?_ | refine OWp.load (List.Mem.tail _ (List.Mem.tail _ (List.Mem.head _))) rfl rfl rfl rfl rfl ?_ | refine OWp.load (List.Mem.tail _ (List.Mem.tail _ (List.Mem.tail _ (List.Mem.head _)))) rfl rfl rfl rfl rfl ?_ | refine OWp.load (List.Mem.tail _ (List.Mem.tail _ (List.Mem.tail _ (List.Mem.tail _ (List.Mem.head _))))) rfl rfl rfl rfl rfl ?_ | refine OWp.load (List.Mem.tail _ (List.Mem.tail _ (List.Mem.tail _ (List.Mem.tail _ (List.Mem.tail _ (List.Mem.head _)))))) rfl rfl rfl rfl rfl ?_
        first | refine OWp.load (List.Mem.head _) rfl rfl rfl rfl rfl ?_ | refine OWp.load (List.Mem.tail _ (List.Mem.head _)) rfl rfl rfl rfl rfl ?_ | refine OWp.load (List.Mem.tail _ (List.Mem.tail _ (List.Mem.head _))) rfl rfl rfl rfl rfl ?_ | refine OWp.load (List.Mem.tail _ (List.Mem.tail _ (List.Mem.tail _ (List.Mem.head _)))) rfl rfl rfl rfl rfl ?_ | refine OWp.load (List.Mem.tail _ (List.Mem.tail _ (List.Mem.tail _ (List.Mem.tail _ (List.Mem.head _))))) rfl rfl rfl rfl rfl ?_ | refine OWp.load (List.Mem.tail _ (List.Mem.tail _ (List.Mem.tail _ (List.Mem.tail _ (List.Mem.tail _ (List.Mem.head _)))))) rfl rfl rfl rfl rfl ?_
        refine OWp.g rfl rfl (Gives.neqStruct (r := eqHop x ⟨x.kind, 0, x.user, x.delay, x.id⟩) 10 rfl rfl rfl rfl hopG (by rfl)) ?_
        refine OWp.evs 1 rfl ?_
        refine OWp.nil ?_
        refine Wp.cond rfl (fun h5 => ?_) (fun h5 => ?_)
        · skip
          refine Wp.drop (S' := S) (by repeat (first | exact List.Sublist.refl _ | exact List.sublist_append_right _ _ | apply List.Sublist.cons)) ?_
          refine Wp.seq (Wp.region ?_)
          refine OWp.evs 1 rfl ?_
          refine OWp.nil ?_
          refine Wp.ret ⟨trivial, _, ⟨_, _, rfl, rfl, rfl⟩, ?_⟩
          refine hno fun hp => ?_
          have : eqHop x ⟨x.kind, 0, x.user, x.delay, x.id⟩ = true := eqHop_iff.2 (Hop.ext rfl (by show x.node = 0; omega) rfl rfl rfl)
          rw [this] at h5
          cases h5
        refine Wp.skip ?_
        refine Wp.drop (S' := S) (by repeat (first | exact List.Sublist.refl _ | exact List.sublist_append_right _ _ | apply List.Sublist.cons)) ?_
        refine Wp.seq (Wp.region ?_)
        refine OWp.evs 1 rfl ?_
        refine OWp.nil ?_
        refine Wp.ret ⟨trivial, _, ⟨_, _, rfl, rfl, rfl⟩, ?_⟩
        have : eqHop x ⟨x.kind, 0, x.user, x.delay, x.id⟩ = true := by simpa using h5
        have := eqHop_iff.1 this
        have e3 := congrArg Hop.node this
        simp only at e3
        exact hyes (by omega)
      have h3 := of_decide_eq_false h3
      refine OWp.evs 6 rfl ?_
      refine OWp.nil ?_
      refine Wp.seq (Wp.region ?_)
      refine OWp.evs 1 rfl ?_
      first | refine OWp.load (List.Mem.head _) rfl rfl rfl rfl rfl ?_ | refine OWp.load (List.Mem.tail _ (List.Mem.head _)) rfl rfl rfl rfl rfl ?_ | refine OWp.load (List.Mem.tail _ (List.Mem.tail _ (List.Mem.head _))) rfl rfl rfl rfl rfl ?_ | refine OWp.load (List.Mem.tail _ (List.Mem.tail _ (List.Mem.tail _ (List.Mem.head _)))) rfl rfl rfl rfl rfl ?_ | refine OWp.load (List.Mem.tail _ (List.Mem.tail _ (List.Mem.tail _ (List.Mem.tail _ (List.Mem.head _))))) rfl rfl rfl rfl rfl ?_ | refine OWp.load (List.Mem.tail _ (List.Mem.tail _ (List.Mem.tail _ (List.Mem.tail _ (List.Mem.tail _ (List.Mem.head _)))))) rfl rfl rfl rfl rfl ?_
      refine OWp.evs 1 rfl ?_
      refine OWp.step rfl (Step.store 0 rfl rfl rfl rfl rfl (by assumption) rfl (Nat.le_of_ble_eq_true rfl) (Unfz.zero _) rfl rfl ?_)
      refine OWp.nil ?_
      refine Wp.seq ?_
      refine Wp.drop (S' := S) (by repeat (first | exact List.Sublist.refl _ | exact List.sublist_append_right _ _ | apply List.Sublist.cons)) ?_
      refine Wp.seq (Wp.region ?_)
      refine OWp.evs 7 rfl ?_
      refine OWp.nil ?_
      refine Wp.cond rfl (fun _ => ?_) (fun c => nomatch c)
      refine Wp.seq (Wp.region ?_)
      refine OWp.evs 1 rfl ?_
      refine OWp.nil ?_
      refine Wp.ret ⟨trivial, _, ⟨_, _, rfl, rfl, rfl⟩, ?_⟩
      exact hno (by omega)
    have h2 := of_decide_eq_false h2
    refine OWp.evs 11 rfl ?_
    refine OWp.nil ?_
    refine Wp.seq (Wp.region ?_)
    refine OWp.evs 1 rfl ?_
    first | refine OWp.load (List.Mem.head _) rfl rfl rfl rfl rfl ?_ | refine OWp.load (List.Mem.tail _ (List.Mem.head _)) rfl rfl rfl rfl rfl ?_ | refine OWp.load (List.Mem.tail _ (List.Mem.tail _ (List.Mem.head _))) rfl rfl rfl rfl rfl ?_ | refine OWp.load (List.Mem.tail _ (List.Mem.tail _ (List.Mem.tail _ (List.Mem.head _)))) rfl rfl rfl rfl rfl ?_ | refine OWp.load (List.Mem.tail _ (List.Mem.tail _ (List.Mem.tail _ (List.Mem.tail _ (List.Mem.head _))))) rfl rfl rfl rfl rfl ?_ | refine OWp.load (List.Mem.tail _ (List.Mem.tail _ (List.Mem.tail _ (List.Mem.tail _ (List.Mem.tail _ (List.Mem.head _)))))) rfl rfl rfl rfl rfl ?_
    refine OWp.evs 1 rfl ?_
    refine OWp.step rfl (Step.store 0 rfl rfl rfl rfl rfl (by assumption) rfl (Nat.le_of_ble_eq_true rfl) (Unfz.zero _) rfl rfl ?_)
    refine OWp.nil ?_
    refine Wp.seq ?_
    refine Wp.drop (S' := S) (by repeat (first | exact List.Sublist.refl _ | exact List.sublist_append_right _ _ | apply List.Sublist.cons)) ?_
    refine Wp.seq (Wp.region ?_)
    refine OWp.evs 7 rfl ?_
    refine OWp.nil ?_
    refine Wp.cond rfl (fun _ => ?_) (fun c => nomatch c)
    refine Wp.seq (Wp.region ?_)
    refine OWp.evs 1 rfl ?_
    refine OWp.nil ?_
    refine Wp.ret ⟨trivial, _, ⟨_, _, rfl, rfl, rfl⟩, ?_⟩
    exact hno (by omega)
  have h1b := of_decide_eq_false h1b
  refine Wp.seq (Wp.region ?_)
  refine OWp.evs 2 rfl ?_
  refine OWp.nil ?_
  refine Wp.cond rfl (fun h1c => ?_) (fun h1c => ?_)
  · have h1c := of_decide_eq_true h1c
    refine Wp.seq (Wp.region ?_)
    refine OWp.evs 1 rfl ?_
    first | refine OWp.load (List.Mem.head _) rfl rfl rfl rfl rfl ?_ | refine OWp.load (List.Mem.tail _ (List.Mem.head _)) rfl rfl rfl rfl rfl ?_ | refine OWp.load (List.Mem.tail _ (List.Mem.tail _ (List.Mem.head _))) rfl rfl rfl rfl rfl ?_ | refine OWp.load (List.Mem.tail _ (List.Mem.tail _ (List.Mem.tail _ (List.Mem.head _)))) rfl rfl rfl rfl rfl ?_ | refine OWp.load (List.Mem.tail _ (List.Mem.tail _ (List.Mem.tail _ (List.Mem.tail _ (List.Mem.head _))))) rfl rfl rfl rfl rfl ?_ | refine OWp.load (List.Mem.tail _ (List.Mem.tail _ (List.Mem.tail _ (List.Mem.tail _ (List.Mem.tail _ (List.Mem.head _)))))) rfl rfl rfl rfl rfl ?_
    refine OWp.g rfl rfl (Gives.build rfl rfl) ?_
    refine OWp.step rfl (Step.store 0 rfl rfl rfl rfl rfl (by assumption) rfl (Nat.le_of_ble_eq_true rfl) (Unfz.zero _) rfl rfl ?_)
    refine OWp.nil ?_
    refine Wp.region ?_
    refine OWp.evs 2 rfl ?_
    refine OWp.part 50 rfl (fun h2 => ?_) (fun h2 => ?_)
    · have h2 := of_decide_eq_true h2
      refine OWp.evs 1 rfl ?_
      first | refine OWp.load (List.Mem.head _) rfl rfl rfl rfl rfl ?_ | refine OWp.load (List.Mem.tail _ (List.Mem.head _)) rfl rfl rfl rfl rfl ?_ | refine OWp.load (List.Mem.tail _ (List.Mem.tail _ (List.Mem.head _))) rfl rfl rfl rfl rfl ?_ | refine OWp.load (List.Mem.tail _ (List.Mem.tail _ (List.Mem.tail _ (List.Mem.head _)))) rfl rfl rfl rfl rfl ?_ | refine OWp.load (List.Mem.tail _ (List.Mem.tail _ (List.Mem.tail _ (List.Mem.tail _ (List.Mem.head _))))) rfl rfl rfl rfl rfl ?_ | refine OWp.load (List.Mem.tail _ (List.Mem.tail _ (List.Mem.tail _ (List.Mem.tail _ (List.Mem.tail _ (List.Mem.head _)))))) rfl rfl rfl rfl rfl ?_
      refine OWp.evs 4 rfl ?_
      refine OWp.nil ?_
      refine Wp.seq (Wp.region ?_)
      refine OWp.evs 1 rfl ?_
      first | refine OWp.load (List.Mem.head _) rfl rfl rfl rfl rfl ?_ | refine OWp.load (List.Mem.tail _ (List.Mem.head _)) rfl rfl rfl rfl rfl ?_ | refine OWp.load (List.Mem.tail _ (List.Mem.tail _ (List.Mem.head _))) rfl rfl rfl rfl rfl ?_ | refine OWp.load (List.Mem.tail _ (List.Mem.tail _ (List.Mem.tail _ (List.Mem.head _)))) rfl rfl rfl rfl rfl ?_ | refine OWp.load (List.Mem.tail _ (List.Mem.tail _ (List.Mem.tail _ (List.Mem.tail _ (List.Mem.head _))))) rfl rfl rfl rfl rfl ?_ | refine OWp.load (List.Mem.tail _ (List.Mem.tail _ (List.Mem.tail _ (List.Mem.tail _ (List.Mem.tail _ (List.Mem.head _)))))) rfl rfl rfl rfl rfl ?_
      refine OWp.evs 1 rfl ?_
      refine OWp.step rfl (Step.store 0 rfl rfl rfl rfl rfl (by assumption) rfl (Nat.le_of_ble_eq_true rfl) (Unfz.zero _) rfl rfl ?_)
      refine OWp.nil ?_
      refine Wp.seq ?_
      refine Wp.seq (Wp.region ?_)
      refine OWp.evs 3 rfl ?_
      refine OWp.part 63 rfl (fun h4 => ?_) (fun h4 => ?_)
      · have h4 := ndT h4
        refine OWp.evs 4 rfl ?_
        refine OWp.nil ?_
        refine Wp.cond rfl (fun _ => ?_) (fun c => nomatch c)
        refine Wp.drop (S' := S) (by repeat (first | exact List.Sublist.refl _ | exact List.sublist_append_right _ _ | apply List.Sublist.cons)) ?_
        refine Wp.seq (Wp.region ?_)
        refine OWp.evs 1 rfl ?_
        refine OWp.nil ?_
        refine Wp.ret ⟨trivial, _, ⟨_, _, rfl, rfl, rfl⟩, ?_⟩
        exact hno (by omega)
      have h4 := ndF h4
      first | refine OWp.load (List.Mem.head _) rfl rfl rfl rfl rfl ?_ | refine OWp.load (List.Mem.tail _ (List.Mem.head _)) rfl rfl rfl rfl rfl ?_ | refine OWp.load (List.Mem.tail _ (List.Mem.tail _ (List.Mem.head _))) rfl rfl rfl rfl rfl ?_ | refine OWp.load (List.Mem.tail _ (List.Mem.tail _ (List.Mem.tail _ (List.Mem.head _)))) rfl rfl rfl rfl rfl ?_ | refine OWp.load (List.Mem.tail _ (List.Mem.tail _ (List.Mem.tail _ (List.Mem.tail _ (List.Mem.head _))))) rfl rfl rfl rfl rfl ?_ | refine OWp.load (List.Mem.tail _ (List.Mem.tail _ (List.Mem.tail _ (List.Mem.tail _ (List.Mem.tail _ (List.Mem.head _)))))) rfl rfl rfl rfl rfl ?_
      first | refine OWp.load (List.Mem.head _) rfl rfl rfl rfl rfl ?_ | refine OWp.load (List.Mem.tail _ (List.Mem.head _)) rfl rfl rfl rfl rfl ?_ | refine OWp.load (List.Mem.tail _ (List.Mem.tail _ (List.Mem.head _))) rfl rfl rfl rfl rfl ?_ | refine OWp.load (List.Mem.tail _ (List.Mem.tail _ (List.Mem.tail _ (List.Mem.head _)))) rfl rfl rfl rfl rfl ?_ | refine OWp.load (List.Mem.tail _ (List.Mem.tail _ (List.Mem.tail _ (List.Mem.tail _ (List.Mem.head _))))) rfl rfl rfl rfl rfl ?_ | refine OWp.load (List.Mem.tail _ (List.Mem.tail _ (List.Mem.tail _ (List.Mem.tail _ (List.Mem.tail _ (List.Mem.head _)))))) rfl rfl rfl rfl rfl ?_
      refine OWp.g rfl rfl (Gives.neqStruct (r := eqHop x ⟨x.kind, 0, 0, 0, x.id⟩) 10 rfl rfl rfl rfl hopG (by rfl)) ?_
      refine OWp.evs 1 rfl ?_
      refine OWp.nil ?_
      refine Wp.cond rfl (fun h5 => ?_) (fun h5 => ?_)
      · skip
        refine Wp.drop (S' := S) (by repeat (first | exact List.Sublist.refl _ | exact List.sublist_append_right _ _ | apply List.Sublist.cons)) ?_
        refine Wp.seq (Wp.region ?_)
        refine OWp.evs 1 rfl ?_
        refine OWp.nil ?_
        refine Wp.ret ⟨trivial, _, ⟨_, _, rfl, rfl, rfl⟩, ?_⟩
        refine hno fun hp => ?_
        have : eqHop x ⟨x.kind, 0, 0, 0, x.id⟩ = true := eqHop_iff.2 (Hop.ext rfl (by show x.node = 0; omega) (by show x.user = 0; omega) (by show x.delay = 0; omega) rfl)
        rw [this] at h5
        cases h5
      refine Wp.skip ?_
      refine Wp.drop (S' := S) (by repeat (first | exact List.Sublist.refl _ | exact List.sublist_append_right _ _ | apply List.Sublist.cons)) ?_
      refine Wp.seq (Wp.region ?_)
      refine OWp.evs 1 rfl ?_
      refine OWp.nil ?_
      refine Wp.ret ⟨trivial, _, ⟨_, _, rfl, rfl, rfl⟩, ?_⟩
      have : eqHop x ⟨x.kind, 0, 0, 0, x.id⟩ = true := by simpa using h5
      have := eqHop_iff.1 this
      have e3 := congrArg Hop.node this
      have e4 := congrArg Hop.user this
      have e5 := congrArg Hop.delay this
      simp only at e3 e4 e5
      exact hyes (by omega)
    have h2 := of_decide_eq_false h2
    refine OWp.evs 6 rfl ?_
    refine OWp.nil ?_
    refine Wp.seq (Wp.region ?_)
    refine OWp.evs 1 rfl ?_
    first | refine OWp.load (List.Mem.head _) rfl rfl rfl rfl rfl ?_ | refine OWp.load (List.Mem.tail _ (List.Mem.head _)) rfl rfl rfl rfl rfl ?_ | refine OWp.load (List.Mem.tail _ (List.Mem.tail _ (List.Mem.head _))) rfl rfl rfl rfl rfl ?_ | refine OWp.load (List.Mem.tail _ (List.Mem.tail _ (List.Mem.tail _ (List.Mem.head _)))) rfl rfl rfl rfl rfl ?_ | refine OWp.load (List.Mem.tail _ (List.Mem.tail _ (List.Mem.tail _ (List.Mem.tail _ (List.Mem.head _))))) rfl rfl rfl rfl rfl ?_ | refine OWp.load (List.Mem.tail _ (List.Mem.tail _ (List.Mem.tail _ (List.Mem.tail _ (List.Mem.tail _ (List.Mem.head _)))))) rfl rfl rfl rfl rfl ?_
    refine OWp.evs 1 rfl ?_
    refine OWp.step rfl (Step.store 0 rfl rfl rfl rfl rfl (by assumption) rfl (Nat.le_of_ble_eq_true rfl) (Unfz.zero _) rfl rfl ?_)
    refine OWp.nil ?_
    refine Wp.seq ?_
    refine Wp.drop (S' := S) (by repeat (first | exact List.Sublist.refl _ | exact List.sublist_append_right _ _ | apply List.Sublist.cons)) ?_
    refine Wp.seq (Wp.region ?_)
    refine OWp.evs 7 rfl ?_
    refine OWp.nil ?_
    refine Wp.cond rfl (fun _ => ?_) (fun c => nomatch c)
    refine Wp.seq (Wp.region ?_)
    refine OWp.evs 1 rfl ?_
    refine OWp.nil ?_
    refine Wp.ret ⟨trivial, _, ⟨_, _, rfl, rfl, rfl⟩, ?_⟩
    exact hno (by omega)
  have h1c := of_decide_eq_false h1c
  refine Wp.seq (Wp.region ?_)
  refine OWp.evs 2 rfl ?_
  refine OWp.nil ?_
  refine Wp.cond rfl (fun h1d => ?_) (fun h1d => ?_)
  · have h1d := of_decide_eq_true h1d
    refine Wp.skip ?_
    refine Wp.seq (Wp.region ?_)
    refine OWp.evs 1 rfl ?_
    first | refine OWp.load (List.Mem.head _) rfl rfl rfl rfl rfl ?_ | refine OWp.load (List.Mem.tail _ (List.Mem.head _)) rfl rfl rfl rfl rfl ?_ | refine OWp.load (List.Mem.tail _ (List.Mem.tail _ (List.Mem.head _))) rfl rfl rfl rfl rfl ?_ | refine OWp.load (List.Mem.tail _ (List.Mem.tail _ (List.Mem.tail _ (List.Mem.head _)))) rfl rfl rfl rfl rfl ?_ | refine OWp.load (List.Mem.tail _ (List.Mem.tail _ (List.Mem.tail _ (List.Mem.tail _ (List.Mem.head _))))) rfl rfl rfl rfl rfl ?_ | refine OWp.load (List.Mem.tail _ (List.Mem.tail _ (List.Mem.tail _ (List.Mem.tail _ (List.Mem.tail _ (List.Mem.head _)))))) rfl rfl rfl rfl rfl ?_
    refine OWp.evs 1 rfl ?_
    refine OWp.step rfl (Step.store 0 rfl rfl rfl rfl rfl (by assumption) rfl (Nat.le_of_ble_eq_true rfl) (Unfz.zero _) rfl rfl ?_)
    refine OWp.nil ?_
    refine Wp.seq ?_
    refine Wp.seq (Wp.region ?_)
    refine OWp.evs 3 rfl ?_
    refine OWp.part 63 rfl (fun h2 => ?_) (fun h2 => ?_)
    · have h2 := ndT h2
      refine OWp.evs 4 rfl ?_
      refine OWp.nil ?_
      refine Wp.cond rfl (fun _ => ?_) (fun c => nomatch c)
      refine Wp.drop (S' := S) (by repeat (first | exact List.Sublist.refl _ | exact List.sublist_append_right _ _ | apply List.Sublist.cons)) ?_
      refine Wp.seq (Wp.region ?_)
      refine OWp.evs 1 rfl ?_
      refine OWp.nil ?_
      refine Wp.ret ⟨trivial, _, ⟨_, _, rfl, rfl, rfl⟩, ?_⟩
      exact hno (by omega)
    have h2 := ndF h2
    first | refine OWp.load (List.Mem.head _) rfl rfl rfl rfl rfl ?_ | refine OWp.load (List.Mem.tail _ (List.Mem.head _)) rfl rfl rfl rfl rfl ?_ | refine OWp.load (List.Mem.tail _ (List.Mem.tail _ (List.Mem.head _))) rfl rfl rfl rfl rfl ?_ | refine OWp.load (List.Mem.tail _ (List.Mem.tail _ (List.Mem.tail _ (List.Mem.head _)))) rfl rfl rfl rfl rfl ?_ | refine OWp.load (List.Mem.tail _ (List.Mem.tail _ (List.Mem.tail _ (List.Mem.tail _ (List.Mem.head _))))) rfl rfl rfl rfl rfl ?_ | refine OWp.load (List.Mem.tail _ (List.Mem.tail _ (List.Mem.tail _ (List.Mem.tail _ (List.Mem.tail _ (List.Mem.head _)))))) rfl rfl rfl rfl rfl ?_
    first | refine OWp.load (List.Mem.head _) rfl rfl rfl rfl rfl ?_ | refine OWp.load (List.Mem.tail _ (List.Mem.head _)) rfl rfl rfl rfl rfl ?_ | refine OWp.load (List.Mem.tail _ (List.Mem.tail _ (List.Mem.head _))) rfl rfl rfl rfl rfl ?_ | refine OWp.load (List.Mem.tail _ (List.Mem.tail _ (List.Mem.tail _ (List.Mem.head _)))) rfl rfl rfl rfl rfl ?_ | refine OWp.load (List.Mem.tail _ (List.Mem.tail _ (List.Mem.tail _ (List.Mem.tail _ (List.Mem.head _))))) rfl rfl rfl rfl rfl ?_ | refine OWp.load (List.Mem.tail _ (List.Mem.tail _ (List.Mem.tail _ (List.Mem.tail _ (List.Mem.tail _ (List.Mem.head _)))))) rfl rfl rfl rfl rfl ?_
    refine OWp.g rfl rfl (Gives.neqStruct (r := eqHop x ⟨x.kind, 0, 0, 0, []⟩) 10 rfl rfl rfl rfl hopG (by rfl)) ?_
    refine OWp.evs 1 rfl ?_
    refine OWp.nil ?_
    refine Wp.cond rfl (fun h5 => ?_) (fun h5 => ?_)
    · skip
      refine Wp.drop (S' := S) (by repeat (first | exact List.Sublist.refl _ | exact List.sublist_append_right _ _ | apply List.Sublist.cons)) ?_
      refine Wp.seq (Wp.region ?_)
      refine OWp.evs 1 rfl ?_
      refine OWp.nil ?_
      refine Wp.ret ⟨trivial, _, ⟨_, _, rfl, rfl, rfl⟩, ?_⟩
      refine hno fun hp => ?_
      have : eqHop x ⟨x.kind, 0, 0, 0, []⟩ = true := eqHop_iff.2 (Hop.ext rfl (by show x.node = 0; omega) (by show x.user = 0; omega) (by show x.delay = 0; omega) (nil_len.2 (by omega)))
      rw [this] at h5
      cases h5
    refine Wp.skip ?_
    refine Wp.drop (S' := S) (by repeat (first | exact List.Sublist.refl _ | exact List.sublist_append_right _ _ | apply List.Sublist.cons)) ?_
    refine Wp.seq (Wp.region ?_)
    refine OWp.evs 1 rfl ?_
    refine OWp.nil ?_
    refine Wp.ret ⟨trivial, _, ⟨_, _, rfl, rfl, rfl⟩, ?_⟩
    have : eqHop x ⟨x.kind, 0, 0, 0, []⟩ = true := by simpa using h5
    have := eqHop_iff.1 this
    have e3 := congrArg Hop.node this
    have e4 := congrArg Hop.user this
    have e5 := congrArg Hop.delay this
    have e6 := nil_len.1 (congrArg Hop.id this)
    simp only at e3 e4 e5
    exact hyes (by omega)
  have h1d := of_decide_eq_false h1d
  refine Wp.drop (S' := S) (by repeat (first | exact List.Sublist.refl _ | exact List.sublist_append_right _ _ | apply List.Sublist.cons)) ?_
  refine Wp.seq (Wp.region ?_)
  refine OWp.evs 1 rfl ?_
  refine OWp.nil ?_
  refine Wp.ret ⟨trivial, _, ⟨_, _, rfl, rfl, rfl⟩, ?_⟩
  exact hno (by omega)
end
end Go.Proofs.C

namespace Go.Proofs.C
open Go.Lg
set_option maxRecDepth 100000

def u8 (z : Int) : UInt8 := UInt8.ofNat (z % 256).toNat
theorem u8_wrap (z : Int) : IntKind.u8.wrap z = ((u8 z).toNat : Int) := by
  unfold u8
  rw [IntKind.wrap_u8, UInt8.toNat_ofNat']
  omega
theorem u8_nat {z : Int} (h0 : 0 ≤ z) (h1 : z < 256) : ((u8 z).toNat : Int) = z := by
  rw [← u8_wrap, IntKind.wrap_u8]; omega
theorem u8_mod (z : Int) : u8 (z % 256) = u8 z := by unfold u8; rw [Int.emod_emod_of_dvd _ (Int.dvd_refl 256)]
theorem u8_cell_eq {a b : Int} (h : IntKind.u8.wrap a = IntKind.u8.wrap b) : Value.int .u8 (IntKind.u8.wrap a) = .int .u8 ((u8 b).toNat : Int) := by rw [h, u8_wrap]

/-- A command's bytes. -/
def hopB (x : Hop) : List UInt8 := u8 x.kind :: u8 (x.node + x.user) :: u8 (x.delay / 256) :: u8 x.delay :: (x.id ++ List.replicate (20 - x.id.length) 0)
theorem hopB_len {x : Hop} (h : hopP x) : (hopB x).length = 24 := by
  unfold hopP at h
  simp only [hopB, List.length_cons, List.length_append, List.length_replicate]
  omega

theorem byteCells_append (a b : List UInt8) : byteCells (a ++ b) = byteCells a ++ byteCells b := by simp [byteCells]
theorem byteCells_rep (n : Nat) : byteCells (List.replicate n 0) = List.replicate n (.int .u8 0) := by simp [byteCells]

theorem id_put {a b c d : UInt8} {id : List UInt8} : wr (byteCells (a :: b :: c :: d :: List.replicate 20 0)) 4 (byteCells id) = byteCells (a :: b :: c :: d :: (id ++ List.replicate (20 - id.length) 0)) := by
  have e : (List.replicate 20 (0 : UInt8)).drop id.length = List.replicate (20 - id.length) 0 := by rw [List.drop_replicate]
  unfold wr
  rw [byteCells_length]
  simp only [byteCells, ← List.map_take, ← List.map_drop, ← List.map_append]
  congr 1
  rw [show 4 + id.length = id.length + 4 by omega]
  show [a, b, c, d] ++ id ++ (List.replicate 20 (0 : UInt8)).drop id.length = _
  rw [e]
  simp

section
variable {B : Nat} {S R : Ents} {Q : Value → Ents → Prop}

end
end Go.Proofs.C
