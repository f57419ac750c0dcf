/- What functions of the given program do, one after the other, told by that layer. -/
import Derived.Test.YtdgbbfbgakeaaaaATape6
namespace Go.Proofs.C
open Go.Lg
set_option maxRecDepth 100000

/-- The document's tape. -/
abbrev rtp (b : Nat) (s : List UInt8) (k : Nat) : Nat × Obj := (b, cel [.string (str (s.drop k))] 60)

def fold8 (l : List UInt8) : Nat := l.foldl (fun d b => d * 256 + b.toNat) 0
theorem fold8_lt : ∀ (l : List UInt8) (d m : Nat), d < m → l.foldl (fun d b => d * 256 + b.toNat) d < m * 256 ^ l.length
  | [], d, m, h => by simpa using h
  | b :: l, d, m, h => by
    have hb := b.toNat_lt
    have := fold8_lt l (d * 256 + b.toNat) (m * 256) (by omega)
    simp only [List.foldl_cons, List.length_cons, Nat.pow_succ]
    calc _ < m * 256 * 256 ^ l.length := this
      _ = m * (256 ^ l.length * 256) := by rw [Nat.mul_assoc, Nat.mul_comm 256]
theorem fold8_take {l : List UInt8} {i : Nat} {b : UInt8} (h : l[i]? = some b) : fold8 (l.take (i + 1)) = fold8 (l.take i) * 256 + b.toNat := by
  rw [List.take_add_one, h]
  simp [fold8]
theorem fold8_four {l : List UInt8} (h : 4 ≤ l.length) : fold8 (l.take 4) = be4 l := by
  match l, h with
  | a :: b :: c :: d :: r, _ =>
    show (((0 * 256 + a.toNat) * 256 + b.toNat) * 256 + c.toNat) * 256 + d.toNat = a.toNat * 16777216 + b.toNat * 65536 + c.toNat * 256 + d.toNat
    omega

section
variable {B : Nat} {S R : Ents} {Q : Value → Ents → Prop} {s : List UInt8} {k p : Nat}

theorem rwordC (hB : B ≤ p) (_hs : s.length ≤ lim) (hk : k ≤ s.length) (h : Q (.tuple #[.int .i64 ((wordR s k).1 : Nat), .int .i64 ((wordR s k).2.1 : Nat)]) (rtp p s (wordR s k).2.2 :: R)) :
    CallWp Try.prog B 77 #[pt p] Q (rtp p s k :: R) := by
  have hlen : (s.drop k).length = s.length - k := List.length_drop
  refine CallWp.enter (args := [_]) Try.func77 rfl Try.ntmps77 rfl ?_
  refine Wp.seq (Wp.region ?_)
  refine OWp.evs 2 rfl ?_
  refine OWp.nil ?_
  refine Wp.seq ?_
  refine Wp.seq (Wp.region ?_)
  refine OWp.evs 3 rfl ?_
  first | refine OWp.load (List.Mem.head _) rfl rfl rfl rfl rfl ?_ | refine OWp.load (List.Mem.tail _ (List.Mem.head _)) rfl rfl rfl rfl rfl ?_ | refine OWp.load (List.Mem.tail _ (List.Mem.tail _ (List.Mem.head _))) rfl rfl rfl rfl rfl ?_ | refine OWp.load (List.Mem.tail _ (List.Mem.tail _ (List.Mem.tail _ (List.Mem.head _)))) rfl rfl rfl rfl rfl ?_ | refine OWp.load (List.Mem.tail _ (List.Mem.tail _ (List.Mem.tail _ (List.Mem.tail _ (List.Mem.head _))))) rfl rfl rfl rfl rfl ?_ | refine OWp.load (List.Mem.tail _ (List.Mem.tail _ (List.Mem.tail _ (List.Mem.tail _ (List.Mem.tail _ (List.Mem.head _)))))) rfl rfl rfl rfl rfl ?_
  refine OWp.evs 2 rfl ?_
  refine OWp.nil ?_
  rw [hlen]
  refine Wp.cond rfl (fun c1 => ?_) (fun c1 => ?_)
  · have c1 := of_decide_eq_true c1
    rw [wordR, if_neg (by omega)] at h
    refine Wp.seq (Wp.region ?_)
    refine OWp.evs 2 rfl ?_
    refine OWp.nil ?_
    refine Wp.ret ⟨trivial, _, ⟨_, _, rfl, rfl, _, _, rfl, rfl, rfl⟩, ?_⟩
    exact h
  · have c1 := of_decide_eq_false c1
    rw [wordR, if_pos (by omega)] at h
    refine Wp.skip ?_
    refine Wp.seq (Wp.region ?_)
    refine OWp.evs 1 rfl ?_
    refine OWp.nil ?_
    refine Wp.seq ?_
    refine Wp.seq (Wp.region ?_)
    refine OWp.evs 1 rfl ?_
    refine OWp.nil ?_
    refine Wp.block ?_
    refine Wp.loopS (α := Nat) (fun i => 4 - i) (fun i => [(5, .int .i64 (i : Int)), (4, .int .i64 (fold8 ((s.drop k).take i) : Nat)), (0, pt p)]) (fun _ => rtp p s k :: R) (fun i => i ≤ 4) 0 ?_ (.refl _) (by decide) ?_
    · exact .cons rfl (.cons rfl (.cons rfl (.nil _)))
    intro i hi
    refine Wp.seq ?_
    refine Wp.seq (Wp.region ?_)
    refine OWp.evs 2 rfl ?_
    refine OWp.nil ?_
    refine Wp.cond rfl (fun c2 => ?_) (fun c2 => ?_)
    · have c2 := of_decide_eq_true c2
      have hil : i < (s.drop k).length := by omega
      refine Wp.skip ?_
      refine Wp.seq ?_
      refine Wp.block ?_
      refine Wp.region ?_
      refine OWp.evs 5 rfl ?_
      first | refine OWp.load (List.Mem.head _) rfl rfl rfl rfl rfl ?_ | refine OWp.load (List.Mem.tail _ (List.Mem.head _)) rfl rfl rfl rfl rfl ?_ | refine OWp.load (List.Mem.tail _ (List.Mem.tail _ (List.Mem.head _))) rfl rfl rfl rfl rfl ?_ | refine OWp.load (List.Mem.tail _ (List.Mem.tail _ (List.Mem.tail _ (List.Mem.head _)))) rfl rfl rfl rfl rfl ?_ | refine OWp.load (List.Mem.tail _ (List.Mem.tail _ (List.Mem.tail _ (List.Mem.tail _ (List.Mem.head _))))) rfl rfl rfl rfl rfl ?_ | refine OWp.load (List.Mem.tail _ (List.Mem.tail _ (List.Mem.tail _ (List.Mem.tail _ (List.Mem.tail _ (List.Mem.head _)))))) rfl rfl rfl rfl rfl ?_
      refine OWp.evs 1 rfl ?_
      refine OWp.g rfl rfl (Gives.indexStr (b := (s.drop k)[i]) rfl rfl rfl rfl (by omega) (by simp only [Int.toNat_natCast]; exact List.getElem?_eq_getElem hil)) ?_
      refine OWp.evs 3 rfl ?_
      refine OWp.nil ?_
      refine Wp.region ?_
      refine OWp.evs 3 rfl ?_
      refine OWp.nil ?_
      have hb := fold8_take (List.getElem?_eq_getElem hil)
      have hlt := fold8_lt ((s.drop k).take i) 0 1 (by decide)
      have hlt' : fold8 ((s.drop k).take i) < 256 ^ 4 := by
        refine Nat.lt_of_lt_of_le hlt ?_
        rw [Nat.one_mul]
        exact Nat.pow_le_pow_right (by decide) (by rw [List.length_take]; omega)
      have h8 := (s.drop k)[i].toNat_lt
      refine ⟨i + 1, by omega, by omega, ?_, .refl _⟩
      refine .cons' rfl (int_eq (wrap_add1 i (by unfold lim; omega))) (.cons' rfl (int_eq ?_) (.cons rfl (.nil _)))
      rw [hb]
      rw [i64_id (x := (fold8 ((s.drop k).take i) : Int) * 256) (by omega) (by omega)]
      rw [i64_id (x := (((s.drop k)[i].toNat : Nat) : Int)) (by omega) (by omega)]
      rw [i64_id (by omega) (by omega)]
      omega
    · have c2 := of_decide_eq_false c2
      obtain rfl : i = 4 := by omega
      rw [fold8_four (by omega)]
      refine Wp.exit ?_
      refine Wp.seq (Wp.region ?_)
      refine OWp.evs 4 rfl ?_
      first | refine OWp.load (List.Mem.head _) rfl rfl rfl rfl rfl ?_ | refine OWp.load (List.Mem.tail _ (List.Mem.head _)) rfl rfl rfl rfl rfl ?_ | refine OWp.load (List.Mem.tail _ (List.Mem.tail _ (List.Mem.head _))) rfl rfl rfl rfl rfl ?_ | refine OWp.load (List.Mem.tail _ (List.Mem.tail _ (List.Mem.tail _ (List.Mem.head _)))) rfl rfl rfl rfl rfl ?_ | refine OWp.load (List.Mem.tail _ (List.Mem.tail _ (List.Mem.tail _ (List.Mem.tail _ (List.Mem.head _))))) rfl rfl rfl rfl rfl ?_ | refine OWp.load (List.Mem.tail _ (List.Mem.tail _ (List.Mem.tail _ (List.Mem.tail _ (List.Mem.tail _ (List.Mem.head _)))))) rfl rfl rfl rfl rfl ?_
      refine OWp.g rfl rfl (Gives.sliceStr (l := 4) (h' := (s.drop k).length) rfl rfl rfl ⟨_, _, rfl, rfl⟩ rfl (by omega) (by omega)) ?_
      refine OWp.evs 2 rfl ?_
      refine OWp.step rfl (Step.store 0 rfl rfl rfl rfl rfl hB rfl (Nat.le_of_ble_eq_true rfl) (Unfz.zero _) rfl rfl ?_)
      refine OWp.nil ?_
      refine Wp.seq (Wp.region ?_)
      refine OWp.evs 3 rfl ?_
      refine OWp.nil ?_
      refine Wp.ret ⟨trivial, _, ⟨_, _, rfl, rfl, _, _, rfl, rfl, rfl⟩, ?_⟩
      have e : ((s.drop k).drop 4).take ((s.drop k).length - 4) = s.drop (k + 4) := by
        rw [List.drop_drop, List.take_of_length_le]
        simp only [List.length_drop]; omega
      rw [e]
      exact h
end
end Go.Proofs.C
