/- What functions of the given program do, one after the other, told by that layer. -/
import Derived.Test.YtfimmdafjalonaaDoorBStr2
namespace Go.Proofs.D
open Go.Lg Go.Sha
set_option maxRecDepth 100000

theorem bc_get {l : List UInt8} {g : List Value} {i : Nat} (h : i < l.length) : (byteCells l ++ g)[i]? = some (.int .u8 (l[i].toNat)) := by
  rw [List.getElem?_append_left (by rw [byteCells_length]; exact h)]
  simp [byteCells, h]
theorem bc_set {l : List UInt8} {g : List Value} {o i : Nat} {x : Int} {c : UInt8} (h : i < l.length) (hx : x = c.toNat) (ho : o = i) :
    wr (byteCells l ++ g) o (Value.int .u8 x).cells.toList = byteCells (l.set i c) ++ g := by
  subst hx ho
  unfold wr byteCells
  rw [List.set_eq_take_append_cons_drop, if_pos h]
  show List.take o _ ++ [Value.int .u8 (c.toNat : Int)] ++ List.drop (o + 1) _ = _
  rw [List.take_append_of_le_length (by simp; omega), List.drop_append_of_le_length (by simp; omega)]
  simp [List.map_take, List.map_drop]

def padAt (k : List UInt8) (y : UInt8) (i : Nat) : List UInt8 := (k.take i).map (· ^^^ y) ++ k.drop i
theorem padAt_len (k : List UInt8) (y : UInt8) (i : Nat) : (padAt k y i).length = k.length := by simp [padAt]; omega
theorem padAt_zero (k : List UInt8) (y : UInt8) : padAt k y 0 = k := by simp [padAt]
theorem padAt_all (k : List UInt8) (y : UInt8) : padAt k y k.length = k.map (· ^^^ y) := by simp [padAt]
theorem padAt_get (k : List UInt8) (y : UInt8) {i : Nat} (h : i < k.length) : (padAt k y i)[i]'(by rw [padAt_len]; exact h) = k[i] := by
  simp only [padAt]
  rw [List.getElem_append_right (by simp; omega)]
  simp [Nat.min_eq_left (Nat.le_of_lt h)]
theorem padAt_set (k : List UInt8) (y : UInt8) {i : Nat} (h : i < k.length) : (padAt k y i).set i (k[i] ^^^ y) = padAt k y (i + 1) := by
  simp only [padAt]
  rw [List.set_append_right _ _ (by simp; omega)]
  have hm : ((k.take i).map (· ^^^ y)).length = i := by simp; omega
  rw [hm, Nat.sub_self, List.drop_eq_getElem_cons h, List.set_cons_zero, List.take_succ_eq_append_getElem h, List.map_append, List.append_assoc]
  rfl
theorem xor8 (a b : UInt8) : bits .xor .u8 (a.toNat : Int) (b.toNat : Int) = ((a ^^^ b).toNat : Int) := by
  rw [Go.Lg.u8_xor a.toNat_lt b.toNat_lt, UInt8.toNat_xor]

section
variable {B : Nat} {S R : Ents} {Q : Value → Ents → Prop}

theorem zerosEqC {n : Nat} {m : Int} (hm : m = (n : Int)) (hn : n ≤ 2147483648) (H : Q (.string (str (List.replicate n 0))) S) :
    CallWp Tryd.prog B 39 #[.string (str [0]), .int .i64 m] Q S := by
  subst hm; exact zerosC hn H

theorem paddedC {k : List UInt8} {y : UInt8} (hk : KsIn S) (hl : k.length + 100 ≤ big) (H : Q (.string (str (keyPad k y))) S) :
    CallWp Tryd.prog B 58 #[.string (str k), .int .u8 y.toNat] Q S := by
  have hb : big = 281474976710656 := rfl
  rw [hb] at hl
  refine CallWp.enter (args := [_, _]) Tryd.func58 rfl Tryd.ntmps58 rfl ?_
  refine Wp.seq (Wp.region ?_)
  refine OWp.evs 1 rfl ?_
  refine OWp.nil ?_
  refine Wp.seqS (α := List UInt8) (fun x => [(0, .string (str x)), (1, .int .u8 y.toNat)]) (fun _ => S) (fun x => x = (if 64 < k.length then sha k else k)) ?_ ?_
  · skip
    refine Wp.seq (Wp.region ?_)
    refine OWp.evs 3 rfl ?_
    refine OWp.nil ?_
    refine Wp.cond rfl (fun h1 => ?_) (fun h1 => ?_)
    · have h1 := of_decide_eq_true h1
      refine Wp.region ?_
      refine OWp.evs 1 rfl ?_
      refine OWp.step rfl (Step.buildSlice rfl rfl rfl ?_); intro L hBL hLL
      refine OWp.step rfl (Step.call rfl rfl rfl rfl rfl rfl ((sumC (l := [k]) (Reads.row (k := 1) (sz := 1) (.head _) (Nat.le_of_ble_eq_true rfl)) (by decide) hk.cons (by rw [hb]; simpa using hl) ?_)))
      refine OWp.drop (List.sublist_cons_self _ _) ?_
      refine OWp.evs 1 rfl ?_
      refine OWp.nil ?_
      exact ⟨_, rfl, .cons' rfl (by rw [if_pos (by omega)]; simp) (.cons rfl (.nil _)), .refl _⟩
    have h1 := of_decide_eq_false h1
    refine Wp.skip ?_
    exact ⟨_, rfl, .cons' rfl (by rw [if_neg (by omega)]) (.cons rfl (.nil _)), .refl _⟩
  rintro x hx
  have hx64 : x.length ≤ 64 := by subst hx; split <;> first | omega | (rw [sha_len]; omega)
  refine Wp.seq (Wp.region ?_)
  refine OWp.evs 4 rfl ?_
  refine OWp.step rfl (Step.call rfl rfl rfl rfl rfl rfl ((zerosEqC (n := 64 - x.length) (by rw [i64_id] <;> omega) (by omega) ?_)))
  refine OWp.g rfl rfl (Gives.addStr rfl rfl rfl (by rw [List.length_replicate]; omega)) ?_
  refine OWp.step rfl (Step.strToBytes rfl rfl rfl rfl rfl rfl ?_); intro L g cap hBL hLL hcL
  generalize hkk : x ++ List.replicate (64 - x.length) 0 = kk at *
  have hkl : kk.length = 64 := by rw [← hkk, List.length_append, List.length_replicate]; omega
  refine OWp.evs 1 rfl ?_
  refine OWp.nil ?_
  refine Wp.seq ?_
  refine Wp.seq (Wp.region ?_)
  refine OWp.evs 3 rfl ?_
  refine OWp.nil ?_
  refine Wp.block ?_
  refine Wp.loopS (α := Nat) (fun i => 64 - i) (fun i => [(1, .int .u8 y.toNat), (5, .slice (some ⟨L, 0, none⟩) 64 cap), (21, .int .i64 64), (22, .int .i64 (i : Int))]) (fun i => (L, cel (byteCells (padAt kk y i) ++ g) 5 (cap, cap + 1)) :: S) (fun i => i ≤ 64) 0 ?_ (by simp only [padAt_zero]; exact .refl _) (by omega) ?_
  · exact .cons rfl (.cons' rfl (by rw [hkl]) (.cons' rfl (by rw [hkl]; rfl) (.cons rfl (.nil _))))
  intro i hi
  have hpl : (padAt kk y i).length = 64 := by rw [padAt_len, hkl]
  refine Wp.seq (Wp.region ?_)
  refine OWp.evs 1 rfl ?_
  refine OWp.nil ?_
  refine Wp.seq ?_
  refine Wp.cond rfl (fun h1 => ?_) (fun h1 => ?_)
  · have h1 := of_decide_eq_true h1
    have hlt : i < 64 := by omega
    refine Wp.skip ?_
    refine Wp.seq ?_
    refine Wp.block ?_
    refine Wp.seq (Wp.region ?_)
    refine OWp.evs 2 rfl ?_
    refine OWp.nil ?_
    refine Wp.region ?_
    refine OWp.evs 2 rfl ?_
    refine OWp.g rfl rfl (Gives.indexAddrSlice (i) rfl rfl rfl rfl rfl rfl (by omega)) ?_
    refine OWp.load (.head _) rfl rfl rfl rfl (by show (byteCells (padAt kk y i) ++ g)[0 + i * 1]? = some (.int .u8 (kk[i].toNat)); rw [Nat.zero_add, Nat.mul_one, bc_get (by omega), padAt_get kk y (by omega)]) ?_
    refine OWp.evs 2 rfl ?_
    refine OWp.g rfl rfl (Gives.indexAddrSlice (i) rfl rfl rfl rfl rfl rfl (by omega)) ?_
    refine OWp.step rfl (Step.storeAs 0 (byteCells (padAt kk y (i + 1)) ++ g) rfl rfl rfl rfl rfl hBL rfl (.inr (by rw [← hcL, List.length_append, List.length_append, byteCells_length, byteCells_length, hpl, hkl]; exact Nat.le_refl _)) rfl (by rw [List.length_append, byteCells_length, hpl]; show 0 + i * 1 + 1 ≤ _; omega) (by rw [xor8, ← padAt_set kk y (by omega)]; exact bc_set (by omega) rfl (by show 0 + i * 1 = i; omega)) rfl ?_)
    refine OWp.nil ?_
    refine Wp.region ?_
    refine OWp.evs 2 rfl ?_
    refine OWp.nil ?_
    exact ⟨i + 1, by omega, by omega, .cons rfl (.cons rfl (.cons rfl (.cons' rfl (int_eq (i64_inc (by omega))) (.nil _)))), .refl _⟩
  have h1 := of_decide_eq_false h1
  obtain rfl : i = 64 := by omega
  have hfin : padAt kk y 64 = keyPad k y := by
    rw [← hkl, padAt_all, ← hkk, hx]; rfl
  refine Wp.exit ?_
  refine Wp.seq (Wp.region ?_)
  refine OWp.evs 1 rfl ?_
  refine OWp.gives rfl rfl (Gives.bytesToStr (F := (L, cel (byteCells (padAt kk y 64) ++ g) 5 (cap, cap + 1)) :: S) (l := padAt kk y 64) (k := 64) rfl rfl rfl rfl rfl (by have := Reads.row (S := (L, cel (byteCells (padAt kk y 64) ++ g) 5 (cap, cap + 1)) :: S) (sz := 1) (k := 64) (cap := cap) (.head _) (by rw [List.length_append, byteCells_length, hpl]; omega); rw [Nat.mul_one, List.take_append_of_le_length (by rw [byteCells_length, hpl]; omega), List.take_of_length_le (by rw [byteCells_length, hpl]; omega)] at this; exact this)) (fun _ h => h) ?_
  refine OWp.evs 1 rfl ?_
  refine OWp.nil ?_
  refine Wp.dropAt 0 rfl ?_
  refine Wp.ret ⟨trivial, _, ⟨_, _, rfl, rfl, rfl⟩, ?_⟩
  rw [hfin]; exact H
end
end Go.Proofs.D
