/- What functions of the given program do, one after the other, told by that layer. -/
import Derived.Test.YtdgbbfbgakeaaaaATape2
namespace Go.Proofs.C
open Go.Lg
set_option maxRecDepth 100000

def be4 : List UInt8 → Nat
  | a :: b :: c :: d :: _ => a.toNat * 16777216 + b.toNat * 65536 + c.toNat * 256 + d.toNat
  | _ => 0
def word (s : List UInt8) (k : Nat) : Nat := be4 (s.drop k)

theorem be4_lt (l : List UInt8) : be4 l < 4294967296 := by
  unfold be4
  split
  · rename_i a b c d r
    have := a.toNat_lt; have := b.toNat_lt; have := c.toNat_lt; have := d.toNat_lt
    omega
  · omega

theorem wraps_i64 (n : Int) (h0 : 0 ≤ n) (h1 : n < 2 ^ 63) : IntKind.i64.wrap n = n := by rw [IntKind.wrap_i64]; omega

theorem or4 (a b c d : UInt8) : bits .or .i64 (bits .or .i64 (bits .or .i64 (IntKind.i64.wrap (IntKind.i64.wrap (a.toNat : Int) * 2 ^ (min 24 IntKind.i64.bits))) (IntKind.i64.wrap (IntKind.i64.wrap (b.toNat : Int) * 2 ^ (min 16 IntKind.i64.bits)))) (IntKind.i64.wrap (IntKind.i64.wrap (c.toNat : Int) * 2 ^ (min 8 IntKind.i64.bits)))) (IntKind.i64.wrap (d.toNat : Int))
    = ((a.toNat * 16777216 + b.toNat * 65536 + c.toNat * 256 + d.toNat : Nat) : Int) := by
  have := a.toNat_lt; have := b.toNat_lt; have := c.toNat_lt; have := d.toNat_lt
  have e1 : (2 : Int) ^ (min 24 IntKind.i64.bits) = 16777216 := by decide
  have e2 : (2 : Int) ^ (min 16 IntKind.i64.bits) = 65536 := by decide
  have e3 : (2 : Int) ^ (min 8 IntKind.i64.bits) = 256 := by decide
  rw [e1, e2, e3]
  rw [wraps_i64 (a.toNat : Int) (by omega) (by omega), wraps_i64 (b.toNat : Int) (by omega) (by omega), wraps_i64 (c.toNat : Int) (by omega) (by omega), wraps_i64 (d.toNat : Int) (by omega) (by omega)]
  rw [wraps_i64 _ (by omega) (by omega), wraps_i64 _ (by omega) (by omega), wraps_i64 _ (by omega) (by omega)]
  rw [bits_join .i64 63 (by decide) wraps_i64 24 (a.toNat * 16777216 : Int) (b.toNat * 65536) (by omega) (by omega) (by omega) (by omega) (by omega) (by omega)]
  rw [bits_join .i64 63 (by decide) wraps_i64 16 (a.toNat * 16777216 + b.toNat * 65536 : Int) (c.toNat * 256) (by omega) (by omega) (by omega) (by omega) (by omega) (by omega)]
  rw [bits_join .i64 63 (by decide) wraps_i64 8 (a.toNat * 16777216 + b.toNat * 65536 + c.toNat * 256 : Int) d.toNat (by omega) (by omega) (by omega) (by omega) (by omega) (by omega)]
  omega

theorem four (l : List UInt8) (h : 4 ≤ l.length) : ∃ a b c d r, l = a :: b :: c :: d :: r := by
  match l, h with
  | a :: b :: c :: d :: r, _ => exact ⟨a, b, c, d, r, rfl⟩

section
variable {B : Nat} {S R : Ents} {Q : Value → Ents → Prop} {s : List UInt8} {k p : Nat}

theorem word_yes (hB : B ≤ p) (hs : s.length ≤ lim) (hn : k + 4 ≤ s.length) (h : Q (.tuple #[.int .i64 (word s k : Nat), .int .i64 0]) (tp p s (k + 4) :: R)) :
    CallWp Try.prog B 31 #[pt p] Q (tp p s k :: R) := by
  obtain ⟨a, b, c, d, r, e⟩ := four (s.drop k) (by rw [List.length_drop]; omega)
  have hw : word s k = a.toNat * 16777216 + b.toNat * 65536 + c.toNat * 256 + d.toNat := by rw [word, e]; rfl
  have et : (s.drop k).take 4 = [a, b, c, d] := by rw [e]; rfl
  refine CallWp.enter (args := [_]) Try.func31 rfl Try.ntmps31 rfl ?_
  refine Wp.seq (Wp.region ?_)
  refine OWp.evs 2 rfl ?_
  refine OWp.nil ?_
  refine Wp.seq (Wp.region ?_)
  refine OWp.evs 3 rfl ?_
  refine OWp.step rfl (Step.call rfl rfl rfl rfl rfl rfl (read_yes (n := 4) hB hs hn ?_))
  rw [et]
  refine OWp.evs 5 rfl ?_
  refine OWp.nil ?_
  refine Wp.seq ?_
  refine Wp.seq (Wp.region ?_)
  refine OWp.evs 2 rfl ?_
  refine OWp.nil ?_
  refine Wp.cond rfl (fun c => nomatch c) (fun _ => ?_)
  refine Wp.skip ?_
  refine Wp.seq (Wp.regionDraw [0, 1, 2, 3, 4, 5, 6, 7, 8, 9, 10, 11, 12, 13, 14, 15, 16, 17, 18, 19] [] rfl (by decide +kernel) ?_)
  refine DWp.evs 1 rfl ?_
  refine DWp.g rfl rfl rfl rfl (Gives.indexStr rfl rfl rfl rfl (by decide) rfl) ?_
  refine DWp.evs 3 rfl ?_
  refine DWp.g rfl rfl rfl rfl (Gives.indexStr rfl rfl rfl rfl (by decide) rfl) ?_
  refine DWp.evs 4 rfl ?_
  refine DWp.g rfl rfl rfl rfl (Gives.indexStr rfl rfl rfl rfl (by decide) rfl) ?_
  refine DWp.evs 4 rfl ?_
  refine DWp.g rfl rfl rfl rfl (Gives.indexStr rfl rfl rfl rfl (by decide) rfl) ?_
  refine DWp.evs 4 rfl ?_
  refine DWp.nil ?_
  refine Wp.ret ⟨trivial, _, ⟨_, _, rfl, rfl, _, _, rfl, rfl, rfl⟩, ?_⟩
  rw [hw] at h
  exact (congrArg (fun z => Q (.tuple #[.int .i64 z, .int .i64 0]) (tp p s (k + 4) :: R)) (or4 a b c d)).mpr h

theorem word_no (hs : s.length ≤ lim) (hk : k ≤ s.length) (hn : s.length < k + 4) (h : Q (.tuple #[.int .i64 0, .int .i64 120]) (tp p s k :: R)) :
    CallWp Try.prog B 31 #[pt p] Q (tp p s k :: R) := by
  refine CallWp.enter (args := [_]) Try.func31 rfl Try.ntmps31 rfl ?_
  refine Wp.seq (Wp.region ?_)
  refine OWp.evs 2 rfl ?_
  refine OWp.nil ?_
  refine Wp.seq (Wp.region ?_)
  refine OWp.evs 3 rfl ?_
  refine OWp.step rfl (Step.call rfl rfl rfl rfl rfl rfl (read_no (n := 4) hs hk hn ?_))
  refine OWp.evs 5 rfl ?_
  refine OWp.nil ?_
  refine Wp.seq ?_
  refine Wp.seq (Wp.region ?_)
  refine OWp.evs 2 rfl ?_
  refine OWp.nil ?_
  refine Wp.cond rfl (fun _ => ?_) (fun c => nomatch c)
  refine Wp.seq (Wp.region ?_)
  refine OWp.evs 2 rfl ?_
  refine OWp.nil ?_
  refine Wp.ret ⟨trivial, _, ⟨_, _, rfl, rfl, _, _, rfl, rfl, rfl⟩, ?_⟩
  exact h

/-- What a word reads: the number, the error, where the tape stands behind it. -/
def wordR (s : List UInt8) (k : Nat) : Nat × Nat × Nat := if k + 4 ≤ s.length then (word s k, 0, k + 4) else (0, 120, k)

theorem wordC (hB : B ≤ p) (hs : s.length ≤ lim) (hk : k ≤ s.length) (h : Q (.tuple #[.int .i64 ((wordR s k).1 : Nat), .int .i64 ((wordR s k).2.1 : Nat)]) (tp p s (wordR s k).2.2 :: R)) :
    CallWp Try.prog B 31 #[pt p] Q (tp p s k :: R) := by
  unfold wordR at h
  split at h
  · rename_i c; exact word_yes hB hs c h
  · rename_i c; exact word_no hs hk (by omega) h

def belowR (s : List UInt8) (k : Nat) (n : Int) : Nat × Nat × Nat :=
  if n < 1 ∨ 2147483647 < n then (0, 1, k) else if k + 4 ≤ s.length then (word s k * n.toNat / 4294967296, 0, k + 4) else (0, 120, k)

theorem below_shr {d n : Nat} (hd : d < 4294967296) (hn : n ≤ 2147483647) : (IntKind.i64.wrap ((d : Int) * (n : Int))).fdiv (2 ^ (min 32 IntKind.i64.bits)) = ((d * n / 4294967296 : Nat) : Int) := by
  have e : (2 : Int) ^ (min 32 IntKind.i64.bits) = 4294967296 := by decide
  have hm : d * n ≤ 4294967295 * 2147483647 := Nat.mul_le_mul (by omega) hn
  rw [e, wraps_i64 _ (by exact Int.mul_nonneg (by omega) (by omega)) (by
    have : (d : Int) * (n : Int) = ((d * n : Nat) : Int) := by simp
    rw [this]; omega)]
  rw [Int.fdiv_eq_ediv_of_nonneg _ (by omega)]
  have : (d : Int) * (n : Int) = ((d * n : Nat) : Int) := by simp
  rw [this]; omega

theorem belowC {n : Int} (hB : B ≤ p) (hs : s.length ≤ lim) (hk : k ≤ s.length) (h : Q (.tuple #[.int .i64 ((belowR s k n).1 : Nat), .int .i64 ((belowR s k n).2.1 : Nat)]) (tp p s (belowR s k n).2.2 :: R)) :
    CallWp Try.prog B 26 #[pt p, .int .i64 n] Q (tp p s k :: R) := by
  unfold belowR at h
  refine CallWp.enter (args := [_, _]) Try.func26 rfl Try.ntmps26 rfl ?_
  refine Wp.seq (Wp.region ?_)
  refine OWp.evs 2 rfl ?_
  refine OWp.nil ?_
  refine Wp.seq ?_
  refine Wp.seq (Wp.region ?_)
  refine OWp.evs 3 rfl ?_
  refine OWp.part 10 rfl (fun c1 => ?_) (fun c1 => ?_)
  · refine OWp.evs 3 rfl ?_
    refine OWp.nil ?_
    refine Wp.cond rfl (fun _ => ?_) (fun c => nomatch c)
    refine Wp.seq (Wp.region ?_)
    refine OWp.evs 2 rfl ?_
    refine OWp.nil ?_
    refine Wp.ret ⟨trivial, _, ⟨_, _, rfl, rfl, _, _, rfl, rfl, rfl⟩, ?_⟩
    rw [if_pos (.inl (of_decide_eq_true c1))] at h
    exact h
  · refine OWp.evs 3 rfl ?_
    refine OWp.nil ?_
    refine Wp.cond rfl (fun c2 => ?_) (fun c2 => ?_)
    · refine Wp.seq (Wp.region ?_)
      refine OWp.evs 2 rfl ?_
      refine OWp.nil ?_
      refine Wp.ret ⟨trivial, _, ⟨_, _, rfl, rfl, _, _, rfl, rfl, rfl⟩, ?_⟩
      rw [if_pos (.inr (of_decide_eq_true c2))] at h
      exact h
    · have c1 := of_decide_eq_false c1
      have c2 := of_decide_eq_false c2
      rw [if_neg (by omega)] at h
      obtain ⟨m, rfl⟩ : ∃ m : Nat, n = (m : Int) := ⟨n.toNat, by omega⟩
      refine Wp.skip ?_
      refine Wp.seq (Wp.region ?_)
      refine OWp.evs 1 rfl ?_
      refine OWp.step rfl (Step.call rfl rfl rfl rfl rfl rfl (wordC hB hs hk ?_))
      refine OWp.evs 5 rfl ?_
      refine OWp.nil ?_
      refine Wp.seq (Wp.region ?_)
      refine OWp.evs 7 rfl ?_
      refine OWp.nil ?_
      refine Wp.ret ⟨trivial, _, ⟨_, _, rfl, rfl, _, _, rfl, rfl, rfl⟩, ?_⟩
      unfold wordR
      split at h
      · rename_i c
        rw [if_pos c]
        have := below_shr (d := word s k) (n := m) (be4_lt _) (by omega)
        exact (congrArg (fun z => Q (.tuple #[.int .i64 z, .int .i64 0]) (tp p s (k + 4) :: R)) this).mpr h
      · rename_i c
        rw [if_neg c]
        have := below_shr (d := 0) (n := m) (by omega) (by omega)
        rw [Nat.zero_mul, Nat.zero_div] at this
        exact (congrArg (fun z => Q (.tuple #[.int .i64 z, .int .i64 120]) (tp p s k :: R)) this).mpr h
end
end Go.Proofs.C
