/- What functions of the given program do, one after the other, told by that layer. -/
import Derived.Test.YtfimmdafjalonaaDoorBStm5
namespace Go.Proofs.D
open Go.Lg Go.Sha
set_option maxRecDepth 100000

/-- A row of which the first i bytes are turned. -/
def rowAt (f : Nat → UInt8) (x : List UInt8) (i : Nat) : List UInt8 := (List.range i).map f ++ x.drop i
theorem rowAt_len (f : Nat → UInt8) (x : List UInt8) {i : Nat} (h : i ≤ x.length) : (rowAt f x i).length = x.length := by simp [rowAt]; omega
theorem rowAt_zero (f : Nat → UInt8) (x : List UInt8) : rowAt f x 0 = x := by simp [rowAt]
theorem rowAt_get (f : Nat → UInt8) {x : List UInt8} {g : List Value} {i o : Nat} (h : i < x.length) (ho : o = i) : (byteCells (rowAt f x i) ++ g)[o]? = some (.int .u8 ((x.getD i 0).toNat : Int)) := by
  subst ho
  have hl := rowAt_len f x (Nat.le_of_lt h)
  rw [bc_get (by rw [hl]; exact h)]
  have e : (rowAt f x o)[o]'(by rw [hl]; exact h) = x.getD o 0 := by
    simp only [rowAt]
    rw [List.getElem_append_right (by simp)]
    simp [List.getD_eq_getElem?_getD, h]
  rw [e]
theorem rowAt_set (f : Nat → UInt8) {x : List UInt8} {g : List Value} {i o : Nat} {z : Int} (h : i < x.length) (hz : z = ((f i).toNat : Int)) (ho : o = i) :
    wr (byteCells (rowAt f x i) ++ g) o (Value.int .u8 z).cells.toList = byteCells (rowAt f x (i + 1)) ++ g := by
  rw [bc_set (c := f i) (by rw [rowAt_len f x (Nat.le_of_lt h)]; exact h) hz ho]
  congr 2
  simp only [rowAt]
  rw [List.set_append_right _ _ (by simp)]
  simp only [List.length_map, List.length_range, Nat.sub_self]
  rw [List.drop_eq_getElem_cons h, List.set_cons_zero]
  simp [List.range_succ]
def mixB (x s : List UInt8) (i : Nat) : UInt8 := x.getD i 0 ^^^ s.getD i 0
theorem rowAt_mix {x s : List UInt8} (h : x.length ≤ s.length) : rowAt (mixB x s) x x.length = xors x s := by
  apply List.ext_getElem?
  intro i
  by_cases hi : i < x.length
  · have h2 : i < s.length := by omega
    simp [rowAt, xors, mixB, hi, h2, List.getElem?_zipWith]
  · rw [List.getElem?_eq_none (by rw [rowAt_len _ _ (Nat.le_refl _)]; omega), List.getElem?_eq_none (by simp [xors]; omega)]
theorem xors_zeros : ∀ s : List UInt8, xors (List.replicate s.length 0) s = s
  | [] => rfl
  | a :: s => by
    rw [List.length_cons, List.replicate_succ]
    show (0 ^^^ a) :: xors (List.replicate s.length 0) s = _
    rw [xors_zeros s]
    simp

section
variable {B : Nat} {S R : Ents} {Q : Value → Ents → Prop}

/-- A row of bytes that the call has made of a string. -/
abbrev brow (L : Nat) (x : List UInt8) (g : List Value) : Nat × Obj := (L, cel (byteCells x ++ g) 5 (x.length + g.length, x.length + g.length + 1))

theorem wmixC {L : Nat} {x s : List UInt8} {g : List Value} {cap : Nat} (hB : B ≤ L) (hx : x.length ≤ big) (hl : x.length ≤ s.length) (H : Q (.tuple #[]) (brow L (xors x s) g :: R)) :
    CallWp Tryd.prog B 60 #[.slice (some ⟨L, 0, none⟩) x.length cap, .string (str s)] Q (brow L x g :: R) := by
  have hb : big = 281474976710656 := rfl
  have hxs : (xors x s).length = x.length := xors_len hl
  refine CallWp.enter (args := [_, _]) Tryd.func60 rfl Tryd.ntmps60 rfl ?_
  refine Wp.seq (Wp.region ?_)
  refine OWp.evs 3 rfl ?_
  refine OWp.nil ?_
  refine Wp.block ?_
  refine Wp.loopS (α := Nat) (fun i => x.length - i) (fun i => [(0, .slice (some ⟨L, 0, none⟩) x.length cap), (1, .string (str s)), (6, .int .i64 (x.length : Int)), (7, .int .i64 (i : Int))]) (fun i => (L, cel (byteCells (rowAt (mixB x s) x i) ++ g) 5 (x.length + g.length, x.length + g.length + 1)) :: R) (fun i => i ≤ x.length) 0 ?_ (by rw [rowAt_zero]) (Nat.zero_le _) ?_
  · exact .cons rfl (.cons rfl (.cons rfl (.cons rfl (.nil _))))
  intro i hi
  refine Wp.seq (Wp.region ?_)
  refine OWp.evs 1 rfl ?_
  refine OWp.nil ?_
  refine Wp.seq ?_
  refine Wp.cond rfl (fun h1 => ?_) (fun h1 => ?_)
  · have h1 := of_decide_eq_true h1
    have hi2 : i < x.length := by omega
    have hrl := rowAt_len (mixB x s) x hi
    refine Wp.skip ?_
    refine Wp.seq ?_
    refine Wp.block ?_
    refine Wp.seq (Wp.region ?_)
    refine OWp.evs 2 rfl ?_
    refine OWp.nil ?_
    refine Wp.regionDraw [0, 1, 2, 3, 4, 5, 6, 7, 8, 9] [9] rfl (by decide +kernel) ?_
    refine DWp.evs 2 rfl ?_
    refine DWp.g rfl rfl rfl rfl (Gives.indexAddrSlice (i) rfl rfl rfl rfl rfl rfl (by omega)) ?_
    refine DWp.load (.head _) rfl rfl rfl rfl rfl rfl (rowAt_get _ hi2 (by show 0 + i * 1 = i; omega)) ?_
    refine DWp.evs 2 rfl ?_
    refine DWp.g rfl rfl rfl rfl (Gives.indexStr (b := (s.getD i 0)) rfl rfl rfl rfl (by omega) (by show s[i]? = _; rw [List.getElem?_eq_getElem (by omega)]; simp [List.getD_eq_getElem?_getD, show i < s.length by omega])) ?_
    refine DWp.evs 1 rfl ?_
    refine DWp.g rfl rfl rfl rfl (Gives.indexAddrSlice (i) rfl rfl rfl rfl rfl rfl (by omega)) ?_
    refine DWp.stepAll rfl rfl rfl rfl (Step.storeAs 0 (byteCells (rowAt (mixB x s) x (i + 1)) ++ g) rfl rfl rfl rfl rfl hB rfl (.inr (by rw [List.length_append, byteCells_length, hrl]; exact Nat.le_refl _)) rfl (by rw [List.length_append, byteCells_length, hrl]; show 0 + i * 1 + 1 ≤ _; omega) (rowAt_set _ hi2 (xor8 _ _) (by show 0 + i * 1 = i; omega)) rfl ?_)
    refine DWp.nil ?_
    refine Wp.region ?_
    refine OWp.evs 2 rfl ?_
    refine OWp.nil ?_
    exact ⟨i + 1, by omega, by omega, .cons rfl (.cons rfl (.cons rfl (.cons' rfl (int_eq (i64_inc (by omega))) (.nil _)))), .refl _⟩
  have h1 := of_decide_eq_false h1
  obtain rfl : i = x.length := by omega
  rw [rowAt_mix hl]
  refine Wp.exit ?_
  refine ⟨trivial, [], rfl, ?_⟩
  rw [← hxs] at *; exact H
theorem sbytesnC {key nonce : List UInt8} {n : Nat} (hk : key.length = 32) (hn : nonce.length = 12) (hl : n ≤ 65536) (H : Q (.tuple #[.string (str (stream key nonce 0 n)), .int .i64 0]) S) :
    CallWp Tryd.prog B 61 #[.string (str key), .string (str nonce), .int .i64 (n : Int)] Q S := by
  refine CallWp.enter (args := [_, _, _]) Tryd.func61 rfl Tryd.ntmps61 rfl ?_
  refine Wp.seq (Wp.region ?_)
  refine OWp.evs 2 rfl ?_
  refine OWp.nil ?_
  refine Wp.seq ?_
  refine Wp.seq (Wp.region ?_)
  refine OWp.evs 2 rfl ?_
  refine OWp.step rfl (Step.call rfl rfl rfl rfl rfl rfl ((wrongC (c := 0) hk hn (by decide) ?_)))
  refine OWp.evs 1 rfl ?_
  refine OWp.nil ?_
  refine Wp.seq (Wp.region ?_)
  refine OWp.evs 2 rfl ?_
  refine OWp.nil ?_
  refine Wp.cond rfl (fun cc1 => absurd (ndT cc1) (by omega)) (fun cc1 => ?_)
  have cc1 := ndF cc1
  refine Wp.skip ?_
  refine Wp.seq ?_
  refine Wp.seq (Wp.region ?_)
  refine OWp.evs 3 rfl ?_
  refine OWp.part 17 rfl (fun cc2 => absurd (of_decide_eq_true cc2) (by omega)) (fun cc2 => ?_)
  have cc2 := of_decide_eq_false cc2
  refine OWp.evs 3 rfl ?_
  refine OWp.nil ?_
  refine Wp.cond rfl (fun cc3 => absurd (of_decide_eq_true cc3) (by omega)) (fun cc3 => ?_)
  have cc3 := of_decide_eq_false cc3
  refine Wp.skip ?_
  refine Wp.seq (Wp.region ?_)
  refine OWp.evs 3 rfl ?_
  refine OWp.step rfl (Step.call rfl rfl rfl rfl rfl rfl ((zerosC (n := n) (by omega) ?_)))
  refine OWp.step rfl (Step.call rfl rfl rfl rfl rfl rfl ((xorC (c := 0) hk hn (by decide) (by rw [List.length_replicate]; exact hl) ?_)))
  refine OWp.evs 4 rfl ?_
  refine OWp.nil ?_
  refine Wp.ret ⟨trivial, _, ⟨_, _, rfl, rfl, _, _, rfl, rfl, rfl⟩, ?_⟩
  show Q (.tuple #[.string _, _]) S
  rw [List.length_replicate]
  have := xors_zeros (stream key nonce 0 n)
  rw [stream_len] at this
  rw [this]; exact H
theorem keyC {dk : List UInt8} {i : Nat} (hd : dk.length = 128) (hi : i < 4) (H : Q (.string (str ((dk.drop (32 * i)).take 32))) S) :
    CallWp Tryd.prog B 59 #[.agg #[.string (str dk)], .int .i64 (i : Int)] Q S := by
  refine CallWp.enter (args := [_, _]) Tryd.func59 rfl Tryd.ntmps59 rfl ?_
  refine Wp.seq (Wp.region ?_)
  refine OWp.step rfl (Step.box rfl rfl rfl ?_); intro L hBL hLL
  refine OWp.evs 1 rfl ?_
  refine OWp.nil ?_
  refine Wp.seq (Wp.region ?_)
  refine OWp.evs 1 rfl ?_
  refine OWp.load (.head _) rfl rfl rfl rfl rfl ?_
  refine OWp.evs 5 rfl ?_
  refine OWp.g rfl rfl (Gives.sliceStr (l := (32 * i)) (h' := (32 * i + 32)) rfl rfl rfl ⟨_, _, rfl, i64_mul (c := 32) (by omega)⟩ ⟨_, _, rfl, by rw [show IntKind.i64.wrap (32 * (i : Int)) = ((32 * i : Nat) : Int) from i64_mul (c := 32) (by omega), i64_id (by omega) (by omega)]; rfl⟩ (by omega) (by omega)) ?_
  refine OWp.evs 1 rfl ?_
  refine OWp.nil ?_
  refine Wp.dropAt 0 rfl ?_
  refine Wp.ret ⟨trivial, _, ⟨_, _, rfl, rfl, rfl⟩, ?_⟩
  rw [Nat.add_sub_cancel_left]; exact H
end
end Go.Proofs.D
