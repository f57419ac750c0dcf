/- What functions of the given program do, one after the other, told by that layer. -/
import Derived.Test.YtkjaehdfmmcgmaaGreatDoorMM7xc154
import Derived.Test.YtkjaehdfmmcgmaaGreatDoorMM5x7e77
import Derived.Test.YtkjaehdfmmcgmaaGreatDoorMM4x9f86
import Derived.Test.YtkjaehdfmmcgmaaGreatDoorLgM2x52c3
import Derived.Test.YtkjaehdfmmcgmaaGreatDoorProg
import Derived.Test.YtkjaehdfmmcgmaaGreatDoorLgM3x86f8
namespace Go.Proofs.D
open Go.Lg Go.Sha
set_option maxRecDepth 100000

theorem blocks_get (key nonce : List UInt8) : ∀ (m c i : Nat), i < 64 * m → (blocks key nonce m c)[i]? = (cblock key nonce ((c + i / 64) % 4294967296))[i % 64]?
 | 0, _, i, h => by omega
 | m + 1, c, i, h => by
  have hl := cblock_len key nonce (c % 4294967296)
  rw [blocks]
  by_cases hi : i < 64
  ·rw [List.getElem?_append_left (by rw [hl]; exact hi), Nat.div_eq_of_lt hi, Nat.mod_eq_of_lt hi, Nat.add_zero]
  ·obtain ⟨j, rfl⟩ : ∃ j, i = j + 64 := ⟨i - 64, by omega⟩
   rw [List.getElem?_append_right (by rw [hl]; omega), hl, Nat.add_sub_cancel, blocks_get key nonce m (c + 1) j (by omega), Nat.add_div_right _ (by decide), Nat.add_mod_right, Nat.add_assoc, Nat.add_comm 1]
def xb (key nonce : List UInt8) (c : Nat) (text : List UInt8) (i : Nat) : UInt8 := text.getD i 0 ^^^ (cblock key nonce ((c + i / 64) % 4294967296)).getD (i % 64) 0
theorem xors_range (key nonce : List UInt8) (c : Nat) (text : List UInt8) : xors text (stream key nonce c text.length) = (List.range text.length).map (xb key nonce c text) := by
 apply List.ext_getElem?
 intro i
 have hl := stream_len key nonce c text.length
 by_cases hi : i < text.length
 ·have hs : (stream key nonce c text.length)[i]? = (cblock key nonce ((c + i / 64) % 4294967296))[i % 64]? := by
   unfold stream
   rw [List.getElem?_take_of_lt hi, blocks_get key nonce _ c i (by omega)]
  have hc : i % 64 < (cblock key nonce ((c + i / 64) % 4294967296)).length := by rw [cblock_len]; omega
  rw [List.getElem?_eq_getElem hc] at hs
  unfold xors
  rw [List.getElem?_zipWith, hs, List.getElem?_eq_getElem hi]
  simp [xb, hi, hc]
 ·rw [List.getElem?_eq_none (by simp [xors, hl]; omega), List.getElem?_eq_none (by simp; omega)]

theorem zeros_bytes : ∀ n : Nat, zeros [Value.int .u8 0] n = byteCells (List.replicate n 0)
 | 0 => rfl
 | n + 1 => by
  rw [zeros, zeros_bytes n, List.replicate_succ]; rfl
theorem start_count (key nonce : List UInt8) (c : Nat) : (Go.Sha.start key nonce c).getD 12 0 = c := by
 have h : (c4 ++ lewords 8 key).length = 12 := by simp [c4, lewords_len]
 have e : Go.Sha.start key nonce c = (c4 ++ lewords 8 key) ++ c :: lewords 3 nonce := by simp [Go.Sha.start, c4]
 rw [e, List.getD_eq_getElem?_getD, List.getElem?_append_right (by rw [h]; decide), h]
 rfl
theorem start_turn (key nonce : List UInt8) (c d : Nat) : (Go.Sha.start key nonce c).set 12 d = Go.Sha.start key nonce d := by
 have h : (c4 ++ lewords 8 key).length = 12 := by simp [c4, lewords_len]
 have e : ∀ c, Go.Sha.start key nonce c = (c4 ++ lewords 8 key) ++ c :: lewords 3 nonce := fun c => by simp [Go.Sha.start, c4]
 rw [e c, e d, set_mid h.symm]

theorem sblock_start (key nonce : List UInt8) (c : Nat) : sblock (Go.Sha.start key nonce c) = cblock key nonce c := rfl
theorem blk_get {b : List UInt8} {i o : Nat} (hb : b.length = 64) (hi : i < 64) (ho : o = i) : (byteCells b)[o]? = some (Value.int .u8 ((b.getD i 0).toNat : Int)) := by
 subst ho
 simp [byteCells, hb, hi]
attribute [local irreducible] Go.Sha.start cblock
section
variable {B : Nat} {S R : Ents} {Q : Value → Ents → Prop}

theorem wrongC {key nonce : List UInt8} {c : Nat} (hk : key.length = 32) (hn : nonce.length = 12) (hc : c < 4294967296) (H : Q (.int .i64 0) S) :
  CallWp Tryz.prog B 164 #[.string (str key), .string (str nonce), .int .i64 (c : Int)] Q S := by
 refine Yx (args := [_, _, _]) Tryz.func164 Tryz.ntmps164 ?_
 refine Yn 1 rfl ?_
 refine Wp.seq ?_
 refine Wp.block ?_
 refine Yg 4 rfl ?_
 refine Du 11 rfl (by omega) fun cc1 => ?_
 refine Yz 5 rfl ?_
 refine Cu rfl (by omega) fun cc2 => ?_
 refine Yg 3 rfl ?_
 refine Dt 19 rfl (by omega) fun cc3 => ?_
 refine Yz 4 rfl ?_
 refine Ct rfl (by omega) fun cc4 => ?_
 refine Wp.skip ?_
 refine Yn 1 rfl ?_
 refine Wp.ret ⟨trivial, _, ⟨_, _, rfl, rfl, rfl⟩, ?_⟩
 exact H
theorem sbeginEqC {key nonce : List UInt8} {c : Nat} {z : Int} (hz : z = (c : Int)) (hk : key.length = 32) (hn : nonce.length = 12) (hc : c < 4294967296) (H : Q (.agg (u32s (Go.Sha.start key nonce c)).toArray) S) :
  CallWp Tryz.prog B 203 #[.string (str key), .string (str nonce), .int .u32 z] Q S := by
 subst hz; exact sbeginC hk hn hc H

theorem u32_one (a : Nat) : IntKind.u32.wrap ((a : Int) + 1) = (((a + 1) % 4294967296 : Nat) : Int) := by rw [IntKind.wrap_u32]; omega

set_option maxHeartbeats 1000000 in
theorem xorC {key nonce text : List UInt8} {c : Nat} (hk : key.length = 32) (hn : nonce.length = 12) (hc : c < 4294967296) (ht : text.length ≤ 65536) (H : Q (.tuple #[.string (str (xors text (stream key nonce c text.length))), .int .i64 0]) S) :
  CallWp Tryz.prog B 165 #[.string (str key), .string (str nonce), .int .i64 (c : Int), .string (str text)] Q S := by
 obtain ⟨n, hn2⟩ : ∃ n, n = text.length := ⟨_, rfl⟩
 rw [xors_range] at H
 rw [← hn2] at ht H
 refine CallWp.dropRet ?_
 refine Yx (args := [_, _, _, _]) Tryz.func165 Tryz.ntmps165 ?_
 refine Yn 2 rfl ?_
 refine Wp.seq ?_
 refine Yg 3 rfl ?_
 refine Yc rfl rfl (wrongC hk hn hc ?_)
 refine Yz 1 rfl ?_
 refine Yn 2 rfl ?_
 refine Cu rfl (by omega) fun cc1 => ?_
 refine Wp.skip ?_
 refine Wp.seq ?_
 refine Yn 3 rfl ?_
 refine Ct rfl (by omega) fun cc2 => ?_
 refine Wp.skip ?_
 refine Yg 4 rfl ?_
 refine Yc rfl rfl (sbeginEqC (c := c) (by rw [IntKind.wrap_u32]; omega) hk hn hc ?_)
 refine Ya rfl rfl rfl rfl fun L1 hBL1 hLL1 => ?_
 refine OWp.step rfl (Step.storeAs 0 (u32s (Go.Sha.start key nonce c)) rfl rfl rfl rfl rfl hBL1 (by show some 16 = some (u32s _).length; rw [u32s_length, start_len]) (Unfz.zero _) (u32s_one _) (by show 0 + (u32s (Go.Sha.start key nonce c)).length ≤ 16; rw [u32s_length, start_len]; decide) (wr_all (X := u32s (Go.Sha.start key nonce c)) (by rw [u32s_length, start_len]; rfl)) rfl ?_)
 refine OWp.nil ?_
 refine Yq ?_
 refine Ya rfl rfl rfl rfl fun L2 hBL2 hLL2 => ?_
 refine OWp.nil ?_
 refine Yg 2 rfl ?_
 refine OWp.step rfl (Step.makeSlice (len := n) (cap := n) rfl rfl rfl rfl rfl rfl (by decide) (by rw [hn2]; rfl) (by rw [hn2]; rfl) (Nat.le_refl _) (by show 1 * n ≤ _; omega) (by omega) ?_)
 intro L3 hBL3 hLL3
 rw [show zeros (cellsOf (Value.int .u8 0)) n = byteCells (List.replicate n 0) from zeros_bytes n]
 refine Yz 1 rfl ?_
 refine Wp.seq ?_
 refine Yn 3 rfl ?_
 refine Wp.block ?_
 refine Wp.loopS (α := Nat) (fun i => n - i) (fun i => [(3, .string (str text)), (11, pt L1), (12, pt L2), (13, .slice (some ⟨L3, 0, none⟩) n n), (35, .int .i64 (n : Int)), (36, .int .i64 (i : Int))]) (fun i => (L3, cel (byteCells ((List.range i).map (xb key nonce c text) ++ List.replicate (n - i) 0)) 5) :: (L2, cel (byteCells (if i = 0 then List.replicate 64 0 else cblock key nonce ((c + (i - 1) / 64) % 4294967296))) 106) :: (L1, cel (u32s (Go.Sha.start key nonce ((c + (i + 63) / 64) % 4294967296))) 298) :: S) (fun i => i ≤ n) 0 ?_ (by rw [if_pos rfl, show (c + (0 + 63) / 64) % 4294967296 = c by omega]; exact .refl _) (Nat.zero_le _) ?_
 ·exact .cons rfl (.cons rfl (.cons rfl (.cons rfl (.cons rfl (.cons rfl (.nil _))))))
 intro i hi
 refine Yn 1 rfl ?_
 refine Wp.seq ?_
 refine Wp.cond rfl (fun h1 => ?_) (fun h1 => ?_)
 ·have h1 := of_decide_eq_true h1
  have hi2 : i < n := by omega
  obtain ⟨ct, hct⟩ : ∃ ct, ct = (c + i / 64) % 4294967296 := ⟨_, rfl⟩
  refine Wp.skip ?_
  refine Wp.seq ?_
  refine Wp.block ?_
  refine Yn 2 rfl ?_
  refine Yn 3 rfl ?_
  refine Wp.seqS (α := Unit) (fun _ => [(3, .string (str text)), (11, pt L1), (12, pt L2), (13, .slice (some ⟨L3, 0, none⟩) n n), (35, .int .i64 (n : Int)), (36, .int .i64 (i : Int)), (14, .int .i64 (i : Int)), (15, .int .i64 ((i % 64 : Nat) : Int))]) (fun _ => (L3, cel (byteCells ((List.range i).map (xb key nonce c text) ++ List.replicate (n - i) 0)) 5) :: (L2, cel (byteCells (cblock key nonce ct)) 106) :: (L1, cel (u32s (Go.Sha.start key nonce ((c + i / 64 + 1) % 4294967296))) 298) :: S) (fun _ => True) ?_ ?_
  ·skip
   refine Yn 2 rfl ?_
   refine Wp.cond rfl (fun k1 => ?_) (fun k1 => ?_)
   ·have k1 := of_decide_eq_true k1
    have k2 : i % 64 = 0 := by
     have k3 : ((i % 64 : Nat) : Int) = 0 := k1
     omega
    have hcount : (c + (i + 63) / 64) % 4294967296 = ct := by rw [hct, show (i + 63) / 64 = i / 64 by omega]
    have hcl : ct < 4294967296 := hct ▸ Nat.mod_lt _ (by decide)
    have hbl : (if i = 0 then List.replicate 64 0 else cblock key nonce ((c + (i - 1) / 64) % 4294967296)).length = 64 := by split <;> simp [cblock_len]
    rw [hcount]
    generalize (if i = 0 then List.replicate 64 0 else cblock key nonce ((c + (i - 1) / 64) % 4294967296)) = ob at *
    refine Yq ?_
    refine OWp.load (.tail _ (.tail _ (.head _))) rfl rfl rfl rfl (u32s_agg (start_len _ _ _)) ?_
    refine Yc rfl rfl (sbytesC (start_good key nonce hcl) ?_)
    rw [sblock_start]
    refine OWp.step rfl (Step.storeAs 1 (byteCells (cblock key nonce ct)) rfl rfl rfl rfl rfl hBL2 (by show some 64 = some (byteCells _).length; rw [byteCells_length, cblock_len]) (Unfz.zero _) (byteCells_one _) (by show 0 + (byteCells (cblock key nonce ct)).length ≤ _; rw [byteCells_length, byteCells_length, cblock_len, hbl]; decide) (wr_all (X := byteCells (cblock key nonce ct)) (by rw [byteCells_length, byteCells_length, cblock_len, hbl])) rfl ?_)
    refine OWp.nil ?_
    refine Wp.region ?_
    refine OWp.g rfl rfl (Gives.indexAddrArr (12) rfl rfl rfl rfl rfl rfl (by omega)) ?_
    refine OWp.load (.tail _ (.tail _ (.head _))) rfl rfl rfl rfl (u32s_part (by rw [start_len]; decide)) ?_
    refine Ye 1 rfl ?_
    refine OWp.g rfl rfl (Gives.indexAddrArr (12) rfl rfl rfl rfl rfl rfl (by omega)) ?_
    refine OWp.step rfl (Step.storeAs 2 (u32s (Go.Sha.start key nonce ((c + i / 64 + 1) % 4294967296))) rfl rfl rfl rfl rfl hBL1 rfl (Unfz.zero _) rfl (by rw [u32s_length, start_len]; show 0 + 12 * 1 + 1 ≤ 16; decide) (by rw [start_count, u32_one]; exact (u32s_set (i := 12) (by rw [start_len]; decide) rfl).trans (by rw [start_turn, show (c + i / 64 + 1) % 4294967296 = (ct + 1) % 4294967296 by omega])) rfl ?_)
    refine OWp.nil ?_
    exact ⟨(), trivial, .cons rfl (.cons rfl (.cons rfl (.cons rfl (.cons rfl (.cons rfl (.cons rfl (.cons' rfl rfl (.nil _)))))))), .refl _⟩
   have k1 := of_decide_eq_false k1
   have k2 : ¬ i % 64 = 0 := fun k3 => k1 (show ((i % 64 : Nat) : Int) = 0 by omega)
   refine Wp.skip ?_
   refine ⟨(), trivial, .cons rfl (.cons rfl (.cons rfl (.cons rfl (.cons rfl (.cons rfl (.cons rfl (.cons' rfl rfl (.nil _)))))))), ?_⟩
   rw [if_neg (by omega), show (i - 1) / 64 = i / 64 by omega, show (c + (i + 63) / 64) = c + i / 64 + 1 by omega, ← hct]
  rintro ⟨⟩ -
  refine Wp.regionDraw [0, 1, 2, 3, 4, 5, 6, 7, 8, 9, 10] [10] rfl (by decide +kernel) ?_
  refine DWp.evs 4 rfl ?_
  refine DWp.g rfl rfl rfl rfl (Gives.indexStr (b := (text.getD i 0)) rfl rfl rfl rfl (by omega) (by show text[i]? = _; rw [List.getElem?_eq_getElem (by omega)]; simp [List.getD_eq_getElem?_getD, show i < text.length by omega])) ?_
  refine DWp.evs 1 rfl ?_
  refine DWp.g rfl rfl rfl rfl (Gives.indexAddrArr ((i % 64)) rfl rfl rfl rfl rfl rfl (by omega)) ?_
  refine DWp.load (.tail _ (.head _)) rfl rfl rfl rfl rfl rfl (blk_get (cblock_len key nonce ct) (Nat.mod_lt _ (by decide)) (by show 0 + i % 64 * 1 = i % 64; omega)) ?_
  refine DWp.evs 1 rfl ?_
  refine DWp.g rfl rfl rfl rfl (Gives.indexAddrSlice (i) rfl rfl rfl rfl rfl rfl (by omega)) ?_
  refine DWp.stepAll rfl rfl rfl rfl (Step.storeAs 0 (byteCells ((List.range (i + 1)).map (xb key nonce c text) ++ List.replicate (n - (i + 1)) 0)) rfl rfl rfl rfl rfl hBL3 rfl (Unfz.zero _) rfl (by rw [byteCells_length]; simp only [List.length_append, List.length_map, List.length_range, List.length_replicate]; show 0 + i * 1 + 1 ≤ _; omega) (by rw [xor8, hct]; exact row_set (xb key nonce c text) hi2 (by show 0 + i * 1 = i; omega)) rfl ?_)
  refine DWp.nil ?_
  refine Wp.region ?_
  refine Yz 2 rfl ?_
  refine ⟨i + 1, by omega, by omega, .cons rfl (.cons rfl (.cons rfl (.cons rfl (.cons rfl (.cons' rfl (int_eq (i64_inc (by omega))) (.nil _)))))), ?_⟩
  rw [if_neg (by omega), Nat.add_sub_cancel, ← hct, show c + (i + 1 + 63) / 64 = c + i / 64 + 1 by omega]
 have h1 := of_decide_eq_false h1
 obtain rfl : i = n := by omega
 rw [Nat.sub_self, List.replicate_zero, List.append_nil]
 obtain ⟨z, hz⟩ : ∃ z, z = (List.range i).map (xb key nonce c text) := ⟨_, rfl⟩
 have hzl : z.length = i := by rw [hz]; simp
 rw [← hz] at H ⊢
 refine Wp.drop (S' := (L3, cel (byteCells z) 5) :: S) (List.Sublist.cons_cons _ (List.Sublist.cons _ (List.Sublist.cons _ (List.Sublist.refl _)))) ?_
 refine Wp.exit ?_
 refine Yg 1 rfl ?_
 refine OWp.gives rfl rfl (Gives.bytesToStr (F := (L3, cel (byteCells z) 5) :: S) (l := z) (k := i) rfl rfl rfl rfl rfl (by have := Reads.row (S := (L3, cel (byteCells z) 5) :: S) (sz := 1) (k := i) (cap := i) (.head _) (by rw [byteCells_length, hzl]; omega); rw [List.take_of_length_le (by rw [byteCells_length, hzl]; omega)] at this; exact this)) (fun _ h => h) ?_
 refine Yz 2 rfl ?_
 refine Wp.ret ⟨trivial, _, ⟨_, _, rfl, rfl, _, _, rfl, rfl, rfl⟩, ?_⟩
 exact ⟨S, subl, H⟩
end
end Go.Proofs.D

namespace Go.Proofs.D
open Go.Lg Go.Sha
set_option maxRecDepth 100000

/-- A row of which the first i bytes are turned. -/
def rowAt (f : Nat → UInt8) (x : List UInt8) (i : Nat) : List UInt8 := (List.range i).map f ++ x.drop i
theorem rowAt_len (f : Nat → UInt8) (x : List UInt8) {i : Nat} (h : i ≤ x.length) : (rowAt f x i).length = x.length := by simp [rowAt]; omega
theorem rowAt_zero (f : Nat → UInt8) (x : List UInt8) : rowAt f x 0 = x := by simp [rowAt]
theorem rowAt_get (f : Nat → UInt8) {x : List UInt8} {g : List Value} {i o : Nat} (h : i < x.length) (ho : o = i) : (byteCells (rowAt f x i) ++ g)[o]? = some (.int .u8 ((x.getD i 0).toNat : Int)) := by
 subst ho
 have hl := rowAt_len f x (Nat.le_of_lt h)
 rw [bc_get (by rw [hl]; exact h)]
 have e : (rowAt f x o)[o]'(by rw [hl]; exact h) = x.getD o 0 := by
  simp only [rowAt]
  rw [List.getElem_append_right (by simp)]
  simp [List.getD_eq_getElem?_getD, h]
 rw [e]
theorem rowAt_set (f : Nat → UInt8) {x : List UInt8} {g : List Value} {i o : Nat} {z : Int} (h : i < x.length) (hz : z = ((f i).toNat : Int)) (ho : o = i) :
  wr (byteCells (rowAt f x i) ++ g) o (Value.int .u8 z).cells.toList = byteCells (rowAt f x (i + 1)) ++ g := by
 rw [bc_set (c := f i) (by rw [rowAt_len f x (Nat.le_of_lt h)]; exact h) hz ho]
 congr 2
 simp only [rowAt]
 rw [List.set_append_right _ _ (by simp)]
 simp only [List.length_map, List.length_range, Nat.sub_self]
 rw [List.drop_eq_getElem_cons h, List.set_cons_zero]
 simp [List.range_succ]
def mixB (x s : List UInt8) (i : Nat) : UInt8 := x.getD i 0 ^^^ s.getD i 0
theorem rowAt_mix {x s : List UInt8} (h : x.length ≤ s.length) : rowAt (mixB x s) x x.length = xors x s := by
 apply List.ext_getElem?
 intro i
 by_cases hi : i < x.length
 ·have h2 : i < s.length := by omega
  simp [rowAt, xors, mixB, hi, h2, List.getElem?_zipWith]
 ·rw [List.getElem?_eq_none (by rw [rowAt_len _ _ (Nat.le_refl _)]; omega), List.getElem?_eq_none (by simp [xors]; omega)]
theorem xors_zeros : ∀ s : List UInt8, xors (List.replicate s.length 0) s = s
 | [] => rfl
 | a :: s => by
  rw [List.length_cons, List.replicate_succ]
  show (0 ^^^ a) :: xors (List.replicate s.length 0) s = _
  rw [xors_zeros s]
  simp

section
variable {B : Nat} {S R : Ents} {Q : Value → Ents → Prop}

/-- A row of bytes that the call has made of a string. -/
abbrev brow (L : Nat) (x : List UInt8) (g : List Value) : Nat × Obj := (L, cel (byteCells x ++ g) 5 (x.length + g.length, x.length + g.length + 1))

theorem wmixC {L : Nat} {x s : List UInt8} {g : List Value} {cap : Nat} (hB : B ≤ L) (hx : x.length ≤ big) (hl : x.length ≤ s.length) (H : Q (.tuple #[]) (brow L (xors x s) g :: R)) :
  CallWp Tryz.prog B 141 #[.slice (some ⟨L, 0, none⟩) x.length cap, .string (str s)] Q (brow L x g :: R) := by
 have hb : big = 281474976710656 := rfl
 have hxs : (xors x s).length = x.length := xors_len hl
 refine Yx (args := [_, _]) Tryz.func141 Tryz.ntmps141 ?_
 refine Yn 3 rfl ?_
 refine Wp.block ?_
 refine Wp.loopS (α := Nat) (fun i => x.length - i) (fun i => [(0, .slice (some ⟨L, 0, none⟩) x.length cap), (1, .string (str s)), (6, .int .i64 (x.length : Int)), (7, .int .i64 (i : Int))]) (fun i => (L, cel (byteCells (rowAt (mixB x s) x i) ++ g) 5 (x.length + g.length, x.length + g.length + 1)) :: R) (fun i => i ≤ x.length) 0 ?_ (by rw [rowAt_zero]) (Nat.zero_le _) ?_
 ·exact .cons rfl (.cons rfl (.cons rfl (.cons rfl (.nil _))))
 intro i hi
 refine Yn 1 rfl ?_
 refine Wp.seq ?_
 refine Wp.cond rfl (fun h1 => ?_) (fun h1 => ?_)
 ·have h1 := of_decide_eq_true h1
  have hi2 : i < x.length := by omega
  have hrl := rowAt_len (mixB x s) x hi
  refine Wp.skip ?_
  refine Wp.seq ?_
  refine Wp.block ?_
  refine Yn 2 rfl ?_
  refine Wp.regionDraw [0, 1, 2, 3, 4, 5, 6, 7, 8, 9] [9] rfl (by decide +kernel) ?_
  refine DWp.evs 2 rfl ?_
  refine DWp.g rfl rfl rfl rfl (Gives.indexAddrSlice (i) rfl rfl rfl rfl rfl rfl (by omega)) ?_
  refine DWp.load (.head _) rfl rfl rfl rfl rfl rfl (rowAt_get _ hi2 (by show 0 + i * 1 = i; omega)) ?_
  refine DWp.evs 2 rfl ?_
  refine DWp.g rfl rfl rfl rfl (Gives.indexStr (b := (s.getD i 0)) rfl rfl rfl rfl (by omega) (by show s[i]? = _; rw [List.getElem?_eq_getElem (by omega)]; simp [List.getD_eq_getElem?_getD, show i < s.length by omega])) ?_
  refine DWp.evs 1 rfl ?_
  refine DWp.g rfl rfl rfl rfl (Gives.indexAddrSlice (i) rfl rfl rfl rfl rfl rfl (by omega)) ?_
  refine DWp.stepAll rfl rfl rfl rfl (Step.storeAs 0 (byteCells (rowAt (mixB x s) x (i + 1)) ++ g) rfl rfl rfl rfl rfl hB rfl (.inr (by rw [List.length_append, byteCells_length, hrl]; exact Nat.le_refl _)) rfl (by rw [List.length_append, byteCells_length, hrl]; show 0 + i * 1 + 1 ≤ _; omega) (rowAt_set _ hi2 (xor8 _ _) (by show 0 + i * 1 = i; omega)) rfl ?_)
  refine DWp.nil ?_
  refine Wp.region ?_
  refine Yz 2 rfl ?_
  exact ⟨i + 1, by omega, by omega, .cons rfl (.cons rfl (.cons rfl (.cons' rfl (int_eq (i64_inc (by omega))) (.nil _)))), .refl _⟩
 have h1 := of_decide_eq_false h1
 obtain rfl : i = x.length := by omega
 rw [rowAt_mix hl]
 refine Wp.exit ?_
 refine ⟨trivial, [], rfl, ?_⟩
 rw [← hxs] at *; exact H
theorem sbytesnC {key nonce : List UInt8} {n : Nat} (hk : key.length = 32) (hn : nonce.length = 12) (hl : n ≤ 65536) (H : Q (.tuple #[.string (str (stream key nonce 0 n)), .int .i64 0]) S) :
  CallWp Tryz.prog B 116 #[.string (str key), .string (str nonce), .int .i64 (n : Int)] Q S := by
 refine Yx (args := [_, _, _]) Tryz.func116 Tryz.ntmps116 ?_
 refine Yn 2 rfl ?_
 refine Wp.seq ?_
 refine Yg 2 rfl ?_
 refine Yc rfl rfl (wrongC (c := 0) hk hn (by decide) ?_)
 refine Yz 1 rfl ?_
 refine Yn 2 rfl ?_
 refine Cu rfl (by omega) fun cc1 => ?_
 refine Wp.skip ?_
 refine Wp.seq ?_
 refine Yg 3 rfl ?_
 refine Dt 17 rfl (by omega) fun cc2 => ?_
 refine Yz 3 rfl ?_
 refine Ct rfl (by omega) fun cc3 => ?_
 refine Wp.skip ?_
 refine Yg 3 rfl ?_
 refine Yc rfl rfl (zerosC (n := n) (by omega) ?_)
 refine Yc rfl rfl (xorC (c := 0) hk hn (by decide) (by rw [List.length_replicate]; exact hl) ?_)
 refine Yz 4 rfl ?_
 refine Wp.ret ⟨trivial, _, ⟨_, _, rfl, rfl, _, _, rfl, rfl, rfl⟩, ?_⟩
 show Q (.tuple #[.string _, _]) S
 rw [List.length_replicate]
 have := xors_zeros (stream key nonce 0 n)
 rw [stream_len] at this
 rw [this]; exact H
theorem keyC {dk : List UInt8} {i : Nat} (hd : dk.length = 128) (hi : i < 4) (H : Q (.string (str ((dk.drop (32 * i)).take 32))) S) :
  CallWp Tryz.prog B 140 #[.agg #[.string (str dk)], .int .i64 (i : Int)] Q S := by
 refine Yx (args := [_, _]) Tryz.func140 Tryz.ntmps140 ?_
 refine Yq ?_
 refine Yb rfl rfl rfl rfl fun L hBL hLL => ?_
 refine Yz 1 rfl ?_
 refine Yg 1 rfl ?_
 refine Yl m0 ?_
 refine Ye 5 rfl ?_
 refine OWp.g rfl rfl (Gives.sliceStr (l := (32 * i)) (h' := (32 * i + 32)) rfl rfl rfl ⟨_, _, rfl, i64_mul (c := 32) (by omega)⟩ ⟨_, _, rfl, by rw [show IntKind.i64.wrap (32 * (i : Int)) = ((32 * i : Nat) : Int) from i64_mul (c := 32) (by omega), i64_id (by omega) (by omega)]; rfl⟩ (by omega) (by omega)) ?_
 refine Yz 1 rfl ?_
 refine Wp.dropAt 0 rfl ?_
 refine Wp.ret ⟨trivial, _, ⟨_, _, rfl, rfl, rfl⟩, ?_⟩
 rw [Nat.add_sub_cancel_left]; exact H
end
end Go.Proofs.D

namespace Go.Proofs.D
open Go.Lg Go.Sha
set_option maxRecDepth 100000
theorem mem1 {a : Nat × Obj} {S : Ents} (h : a ∈ S) : ∀ y ∈ [a], y ∈ S := fun y hy => by rw [List.mem_singleton] at hy; rw [hy]; exact h
theorem u8_lo (n : Nat) : IntKind.u8.wrap (n : Int) = ((UInt8.ofNat n).toNat : Int) := by rw [IntKind.wrap_u8, UInt8.toNat_ofNat']; omega
theorem getD_some {l : List UInt8} {i : Nat} (h : i < l.length) : l[i]? = some (l.getD i 0) := by
 rw [List.getD_eq_getElem?_getD, List.getElem?_eq_getElem h]; rfl
end Go.Proofs.D

namespace Go.Proofs.D
open Go.Lg Go.Cv
set_option maxRecDepth 100000
theorem bc_at {l : List UInt8} {i o : Nat} (h : i < l.length) (ho : o = i) : (byteCells l)[o]? = some (.int .u8 ((l.getD i 0).toNat : Int)) := by
 subst ho
 simp [byteCells, h]
theorem bc_put {l : List UInt8} {o i : Nat} {x : Int} {c : UInt8} (h : i < l.length) (hx : x = c.toNat) (ho : o = i) : wr (byteCells l) o (Value.int .u8 x).cells.toList = byteCells (l.set i c) := by
 have := bc_set (g := []) (c := c) h hx ho
 rwa [List.append_nil, List.append_nil] at this
theorem u8_of {n : Nat} (h : n < 256) : ((n : Nat) : Int) = ((UInt8.ofNat n).toNat : Int) := by rw [UInt8.toNat_ofNat']; omega
theorem wr_whole {l vs : List Value} (h : vs.length = l.length) : wr l 0 vs = vs := by
 unfold wr
 rw [Nat.zero_add, h, List.drop_length]
 simp
theorem bytes32_part {L : List UInt8} (h : L.length = 32) : Lg.partAt Tryz.prog 259 (byteCells L) 0 = some (.agg (byteCells L).toArray) :=
 partAt_agg (n := 32) (r := byteCells L) (by rw [List.drop_zero, List.take_of_length_le (by rw [byteCells_length, h]; decide)]) rfl rfl (by rw [byteCells_length, h])
theorem rem8b {i : Nat} : (i : Int).tmod (Int.ofNat (7 + 1)) = ((i % 8 : Nat) : Int) := by
 show (i : Int).tmod 8 = _
 rw [Int.tmod_eq_emod_of_nonneg (by omega)]; omega
section
variable {B b : Nat} {S R : Ents} {Q : Value → Ents → Prop} {x y z : El} {t : TypeId} {pa pb : Value}
theorem clampedC {k : List UInt8} (hk : k.length = 32) (H : Q (.agg (byteCells (clampL k)).toArray) S) : CallWp Tryz.prog B 166 #[.string (str k)] Q S := by
 have h0 := (k.getD 0 0).toNat_lt
 have h31 := (k.getD 31 0).toNat_lt
 have hpart := bytes32_part (clampL_len hk)
 refine CallWp.dropRet ?_
 refine Yx (args := [_]) Tryz.func166 Tryz.ntmps166 ?_
 refine Yq ?_
 refine Ya rfl rfl rfl rfl fun L2 hBL2 hLL2 => ?_
 refine OWp.nil ?_
 refine Yq ?_
 refine Ya rfl rfl rfl rfl fun L3 hBL3 hLL3 => ?_
 refine OWp.nil ?_
 refine Yq ?_
 refine OWp.g rfl rfl (Gives.sliceArr (l := 0) (h' := 32) rfl rfl rfl rfl rfl rfl (by omega) (by omega) (by omega)) ?_
 refine Ye 1 rfl ?_
 refine OWp.step rfl (Step.copyStr 0 (byteCells k) rfl rfl rfl rfl rfl rfl rfl (by assumption) (Unfz.zero _) (by rw [hk]; exact Nat.le_of_ble_eq_true rfl) (by rw [hk, List.take_of_length_le (by rw [hk]; decide)]; unfold wr; rw [byteCells_length, hk]; exact List.append_nil _) rfl ?_)
 refine OWp.nil ?_
 refine Yq ?_
 refine OWp.g rfl rfl (Gives.indexAddrArr (0) rfl rfl rfl rfl rfl rfl (by omega)) ?_
 refine OWp.load (.head _) rfl rfl rfl rfl (bc_at (l := k) (i := 0) (by omega) rfl) ?_
 refine Ye 1 rfl ?_
 refine OWp.g rfl rfl (Gives.indexAddrArr (0) rfl rfl rfl rfl rfl rfl (by omega)) ?_
 rw [and248 _ h0]
 refine OWp.step rfl (Step.storeAs 0 (byteCells (k.set 0 (UInt8.ofNat ((k.getD 0 0).toNat / 8 * 8)))) rfl rfl rfl rfl rfl (by assumption) rfl (Unfz.zero _) rfl (by rw [byteCells_length, hk]; exact Nat.le_of_ble_eq_true rfl) (bc_put (i := 0) (by omega) (u8_of (by omega)) rfl) rfl ?_)
 refine OWp.nil ?_
 refine Yq ?_
 refine OWp.g rfl rfl (Gives.indexAddrArr (31) rfl rfl rfl rfl rfl rfl (by omega)) ?_
 refine OWp.load (.head _) rfl rfl rfl rfl (bc_at (i := 31) (by rw [List.length_set]; omega) rfl) ?_
 rw [show (k.set 0 (UInt8.ofNat ((k.getD 0 0).toNat / 8 * 8))).getD 31 0 = k.getD 31 0 by simp [List.getD_eq_getElem?_getD]]
 refine Ye 2 rfl ?_
 refine OWp.g rfl rfl (Gives.indexAddrArr (31) rfl rfl rfl rfl rfl rfl (by omega)) ?_
 rw [and127or64 _ h31]
 refine OWp.step rfl (Step.storeAs 0 (byteCells (clampL k)) rfl rfl rfl rfl rfl (by assumption) rfl (Unfz.zero _) rfl (by rw [byteCells_length, List.length_set, hk]; exact Nat.le_of_ble_eq_true rfl) (bc_put (i := 31) (by rw [List.length_set]; omega) (u8_of (by omega)) rfl) rfl ?_)
 refine OWp.nil ?_
 refine Yq ?_
 refine OWp.load (.head _) rfl rfl rfl rfl (bytes32_part (clampL_len hk)) ?_
 refine OWp.step rfl (Step.storeAs 1 (byteCells (clampL k)) rfl rfl rfl rfl rfl hBL2 (by show some 32 = some (byteCells (clampL k)).length; rw [byteCells_length, clampL_len hk]) (Unfz.zero _) (byteCells_one _) (by show 0 + (byteCells (clampL k)).length ≤ 32; rw [byteCells_length, clampL_len hk]; decide) (wr_whole (by show (byteCells (clampL k)).length = 32; rw [byteCells_length, clampL_len hk])) rfl ?_)
 refine OWp.nil ?_
 refine Wp.ret ⟨trivial, _, ⟨_, _, _, _, rfl, rfl, ⟨_, _, _, mems, (by first | assumption | rfl)⟩, rfl⟩, ?_⟩
 exact ⟨S, subl, H⟩
theorem textNC {n : Nat} (hn : n < 4503599627370496) (H : Q (.string (str (le32 n))) S) : CallWp Tryz.prog B 92 #[.int .u64 (n : Int)] Q S := by
 refine CallWp.dropRet ?_
 refine Yx (args := [_]) Tryz.func92 Tryz.ntmps92 ?_
 refine Yn 1 rfl ?_
 refine Yg 1 rfl ?_
 refine Yc rfl rfl (smallR hn ?_)
 intro z hz
 refine Ya rfl rfl rfl rfl fun L3 hBL3 hLL3 => ?_
 refine OWp.step rfl (Step.storeAs 0 (z.cells) rfl rfl rfl rfl rfl (by assumption) rfl (Unfz.zero _) rfl (Nat.le_of_ble_eq_true rfl) rfl rfl ?_)
 refine OWp.nil ?_
 refine Yg 1 rfl ?_
 refine Yc rfl rfl (textC (PEl.own (.head _)) hz.1 ?_)
 rw [hz.2, show n % q = n from Nat.mod_eq_of_lt (by unfold q; omega)]
 refine Yz 1 rfl ?_
 refine Wp.ret ⟨trivial, _, ⟨_, _, rfl, rfl, rfl⟩, ?_⟩
 exact ⟨S, subl, H⟩
set_option maxHeartbeats 4000000 in
theorem ctimesC {k u : List UInt8} (hk : k.length = 32) (hu : u.length = 32) (H : Q (.string (str (x25519 k u))) S) : CallWp Tryz.prog B 117 #[.string (str k), .string (str u)] Q S := by
 have hpart := bytes32_part (clampL_len hk)
 have hcl := clampL_len hk
 obtain ⟨K, hK⟩ : ∃ K, K = clampN k := ⟨_, rfl⟩
 obtain ⟨U, hU⟩ : ∃ U, U = leNat u % 57896044618658097711785492504343953926634992332820282019728792003956564819968 % q := ⟨_, rfl⟩
 have hUU : U % q = U := by rw [hU, Nat.mod_mod]
 have hx : x25519 k u = le32 (ladx K U) := by rw [hK, hU]; rfl
 rw [hx] at H
 have hbits : ∀ t, t < 256 → ((clampL k).getD (t / 8) 0).toNat.testBit (t % 8) = K.testBit t := fun t _ => by rw [hK, ← leNat_clamp hk, leNat_testBit]
 refine CallWp.dropRet ?_
 refine Yx (args := [_, _]) Tryz.func117 Tryz.ntmps117 ?_
 refine Yn 1 rfl ?_
 refine Yg 1 rfl ?_
 refine Yc rfl rfl (clampedC hk ?_)
 refine Ya rfl rfl rfl rfl fun L5 hBL5 hLL5 => ?_
 refine OWp.step rfl (Step.storeAs 0 (byteCells (clampL k)) rfl rfl rfl rfl rfl hBL5 (by show some 32 = some (byteCells (clampL k)).length; rw [byteCells_length, hcl]) (Unfz.zero _) (byteCells_one _) (by show 0 + (byteCells (clampL k)).length ≤ 32; rw [byteCells_length, hcl]; decide) (wr_whole (by show (byteCells (clampL k)).length = 32; rw [byteCells_length, hcl])) rfl ?_)
 refine OWp.nil ?_
 refine Yg 1 rfl ?_
 refine Yc rfl rfl (loadC hu ?_)
 intro at' hao hav
 have hat : at'.is U := ⟨hao, by rw [hav, hUU, hU]⟩
 refine OWp.g rfl rfl (Gives.build rfl rfl) ?_
 refine Ya rfl rfl rfl rfl fun L6 hBL6 hLL6 => ?_
 refine OWp.step rfl (Step.storeAs 0 (at'.cells) rfl rfl rfl rfl rfl (by assumption) rfl (Unfz.zero _) rfl (Nat.le_of_ble_eq_true rfl) rfl rfl ?_)
 refine OWp.nil ?_
 refine Wp.seqS (α := Nat × Nat × Quad) (fun z => [(4, .string (str [])), (5, .pointer (some ⟨L5, 0, none⟩)), (6, .pointer (some ⟨L6, 0, none⟩)), (7, .pointer (some ⟨z.1, 0, none⟩)), (8, .pointer (some ⟨z.2.1, 0, none⟩))]) (fun z => prow z.1 z.2.2.x2 z.2.2.z2 :: prow z.2.1 z.2.2.x3 z.2.2.z3 :: (L6, cel at'.cells 241) :: (L5, cel (byteCells (clampL k)) 259) :: S) (fun z => B ≤ z.1 ∧ B ≤ z.2.1 ∧ z.2.2.is ⟨1, 0, U, 1⟩) ?_ ?_
 ·skip
  refine Wp.regionDraw [4, 0, 1, 2, 10, 10, 10, 10, 10, 10] [0, 1, 3, 5, 7] rfl (by decide +kernel) ?_
  refine DWp.load (.head _) rfl rfl rfl rfl rfl rfl (el_cpart _) ?_
  refine DWp.step rfl rfl rfl (Step.call rfl rfl rfl rfl rfl rfl (smallR (n := 1) (by decide) ?_))
  intro s1 hs1
  refine prs ?_
  refine DWp.step rfl rfl rfl (Step.call rfl rfl rfl rfl rfl rfl (smallR (n := 0) (by decide) ?_))
  intro s2 hs2
  refine prs ?_
  refine DWp.g rfl rfl rfl rfl (Gives.build rfl rfl) ?_
  refine DWp.forkTo [3, 5] (by decide +kernel) (by simp) ?_
  intro xx hxx
  simp only [List.mem_cons, List.mem_nil_iff, or_false] at hxx
  rcases hxx with rfl | rfl
  ·refine ⟨_, [5, 6, 8, 7, 9], rfl, rfl, by decide +kernel, rfl, ?_⟩
   refine (Step.box rfl rfl rfl ?_); intro Lp hBLp hLLp
   refine prs ?_
   refine DWp.step rfl rfl rfl (Step.call rfl rfl rfl rfl rfl rfl (smallR (n := 1) (by decide) ?_))
   intro s3 hs3
   refine prs ?_
   refine DWp.g rfl rfl rfl rfl (Gives.build rfl rfl) ?_
   refine DWp.evs 1 rfl ?_
   refine DWp.step rfl rfl rfl (Step.box rfl rfl rfl ?_); intro Lq hBLq hLLq
   refine prs ?_
   refine DWp.evs 1 rfl ?_
   refine DWp.nil ?_
   exact ⟨(Lp, Lq, ⟨s1, s2, at', s3⟩), ⟨hBLp, hBLq, hs1, hs2, hat, hs3⟩, .cons rfl (.cons rfl (.cons rfl (.cons rfl (.cons rfl (.nil _))))), (Pc .rfl)⟩
  ·refine ⟨_, [6, 10, 10, 10, 10], rfl, rfl, by decide +kernel, rfl, ?_⟩
   refine (Step.call rfl rfl rfl rfl rfl rfl (smallR (n := 1) (by decide) ?_))
   intro s3 hs3
   refine prs ?_
   refine DWp.g rfl rfl rfl rfl (Gives.build rfl rfl) ?_
   refine DWp.forkTo [3, 7] (by decide +kernel) (by simp) ?_
   intro xx hxx
   simp only [List.mem_cons, List.mem_nil_iff, or_false] at hxx
   rcases hxx with rfl | rfl
   ·refine ⟨_, [8, 7, 9], rfl, rfl, by decide +kernel, rfl, ?_⟩
    refine (Step.box rfl rfl rfl ?_); intro Lp hBLp hLLp
    refine prs ?_
    refine DWp.evs 1 rfl ?_
    refine DWp.step rfl rfl rfl (Step.box rfl rfl rfl ?_); intro Lq hBLq hLLq
    refine prs ?_
    refine DWp.evs 1 rfl ?_
    refine DWp.nil ?_
    exact ⟨(Lp, Lq, ⟨s1, s2, at', s3⟩), ⟨hBLp, hBLq, hs1, hs2, hat, hs3⟩, .cons rfl (.cons rfl (.cons rfl (.cons rfl (.cons rfl (.nil _))))), (Pc .rfl)⟩
   ·refine ⟨_, [3, 8, 9], rfl, rfl, by decide +kernel, rfl, ?_⟩
    refine (Step.box rfl rfl rfl ?_); intro Lq hBLq hLLq
    refine prs ?_
    refine DWp.step rfl rfl rfl (Step.box rfl rfl rfl ?_); intro Lp hBLp hLLp
    refine prs ?_
    refine DWp.evs 2 rfl ?_
    refine DWp.nil ?_
    exact ⟨(Lp, Lq, ⟨s1, s2, at', s3⟩), ⟨hBLp, hBLq, hs1, hs2, hat, hs3⟩, .cons rfl (.cons rfl (.cons rfl (.cons rfl (.cons rfl (.nil _))))), (.rfl)⟩
 rintro ⟨Lp, Lq, w0⟩ ⟨hBp, hBq, hw0⟩
 simp only at hBp hBq hw0 ⊢
 refine Yn 1 rfl ?_
 refine Wp.seq ?_
 refine Yn 1 rfl ?_
 refine Wp.block ?_
 refine Wp.loopS (α := Nat × Bool × (Nat × Nat) × Quad) (fun z => 255 - z.1) (fun z => [(4, .string (str [])), (5, .pointer (some ⟨L5, 0, none⟩)), (6, .pointer (some ⟨L6, 0, none⟩)), (7, .pointer (some ⟨z.2.2.1.1, 0, none⟩)), (8, .pointer (some ⟨z.2.2.1.2, 0, none⟩)), (9, .bool z.2.1), (10, .int .i64 (254 - (z.1 : Int)))]) (fun z => prow z.2.2.1.1 z.2.2.2.x2 z.2.2.2.z2 :: prow z.2.2.1.2 z.2.2.2.x3 z.2.2.2.z3 :: (L6, cel at'.cells 241) :: (L5, cel (byteCells (clampL k)) 259) :: S) (fun z => z.1 ≤ 255 ∧ B ≤ z.2.2.1.1 ∧ B ≤ z.2.2.1.2 ∧ z.2.2.2.is (if z.2.1 then (lad K U z.1).swap else lad K U z.1)) (0, false, (Lp, Lq), w0) ?_ (.refl _) ⟨Nat.zero_le _, hBp, hBq, hw0⟩ ?_
 ·exact .cons rfl (.cons rfl (.cons rfl (.cons rfl (.cons rfl (.cons rfl (.cons rfl (.nil _)))))))
 rintro ⟨i, tb, ⟨pb, qb⟩, w⟩ ⟨hi, hp, hq, hw⟩
 simp only at hi hp hq hw ⊢
 refine Wp.seq ?_
 refine Yn 2 rfl ?_
 refine Wp.cond rfl (fun h1 => ?_) (fun h1 => ?_)
 ·have h1 := of_decide_eq_true h1
  have hi1 : i < 255 := by omega
  obtain ⟨n, hn⟩ : ∃ n : Nat, n = 254 - i := ⟨_, rfl⟩
  have hn2 : (254 : Int) - (i : Int) = (n : Int) := by omega
  have hnl : n < 256 := by omega
  rw [hn2]
  refine Wp.skip ?_
  refine Wp.seq ?_
  refine Wp.block ?_
  refine Yg 2 rfl ?_
  refine OWp.g rfl rfl (Gives.indexAddrArr (n / 8) rfl rfl rfl rfl rfl (quo8 (by omega)) (by omega)) ?_
  refine OWp.load (.tail _ (.tail _ (.tail _ (.head _)))) rfl rfl rfl rfl (bc_at (i := n / 8) (by omega) (by show 0 + n / 8 * 1 = _; omega)) ?_
  refine Ye 2 rfl ?_
  refine OWp.g rfl rfl (Gives.shr (m := n % 8) rfl rfl rfl rem8b) ?_
  refine Yz 3 rfl ?_
  obtain ⟨bt, hbt⟩ : ∃ b, K.testBit n = b := ⟨_, rfl⟩
  show Wp _ _ _ _ _ _ _
  refine Wp.weaken (E' := [(4, .string (str [])), (5, .pointer (some ⟨L5, 0, none⟩)), (6, .pointer (some ⟨L6, 0, none⟩)), (7, .pointer (some ⟨pb, 0, none⟩)), (8, .pointer (some ⟨qb, 0, none⟩)), (9, .bool tb), (10, .int .i64 (n : Int)), (11, .bool bt)]) (.cons rfl (.cons rfl (.cons rfl (.cons rfl (.cons rfl (.cons rfl (.cons rfl (.cons' rfl (congrArg Value.bool (by rw [and1 _ _ (UInt8.toNat_lt _) (Nat.mod_lt _ (by decide)), hbits n hnl, hbt]; cases bt <;> rfl)) (.nil _))))))))) (fun _ h => h) ?_
  refine Wp.seq ?_
  refine Yn 3 rfl ?_
  refine Wp.cond rfl (fun hs => ?_) (fun hs => ?_)
  ·skip
   have hne : tb = !bt := by cases tb <;> cases bt <;> simp_all
   have hw2 : w.swap.is (if bt then (lad K U i).swap else lad K U i) := by
    have := Quad.is_swap hw
    rw [hne] at this
    cases bt
    ·exact this
    ·exact this
   refine Wp.region ?_
   refine Yz 4 rfl ?_
   refine Yg 2 rfl ?_
   refine Yc rfl rfl (CallWp.permS (.swap _ _ _) (stepC (w := w.swap) hq hp (PEl.own (.head _)) hat hw2 ?_))
   intro v hv
   refine OWp.nil ?_
   refine Wp.region ?_
   refine Yz 2 rfl ?_
   refine Wp.region ?_
   refine Yz 3 rfl ?_
   refine ⟨(i + 1, bt, (qb, pb), v), by simp only; omega, ⟨by simp only; omega, hq, hp, ?_⟩, .cons rfl (.cons rfl (.cons rfl (.cons rfl (.cons rfl (.cons rfl (.cons' rfl (int_eq (by simp only; rw [i64_id] <;> omega)) (.nil _))))))), .refl _⟩
   simp only
   rw [show lad K U (i + 1) = lbit U (lad K U i) bt by rw [← hbt, hn]; rfl]
   cases bt
   ·exact hv
   ·exact hv
  have hne : tb = bt := by cases tb <;> cases bt <;> simp_all
  have hw2 : w.is (if bt then (lad K U i).swap else lad K U i) := by rw [← hne]; exact hw
  refine Wp.skip ?_
  refine Yg 2 rfl ?_
  refine Yc rfl rfl (stepC (w := w) hp hq (PEl.own (.head _)) hat hw2 ?_)
  intro v hv
  refine OWp.nil ?_
  refine Wp.region ?_
  refine Yz 2 rfl ?_
  refine Wp.region ?_
  refine Yz 3 rfl ?_
  refine ⟨(i + 1, bt, (pb, qb), v), by simp only; omega, ⟨by simp only; omega, hp, hq, ?_⟩, .cons rfl (.cons rfl (.cons rfl (.cons rfl (.cons rfl (.cons rfl (.cons' rfl (int_eq (by simp only; rw [i64_id] <;> omega)) (.nil _))))))), .refl _⟩
  simp only
  rw [show lad K U (i + 1) = lbit U (lad K U i) bt by rw [← hbt, hn]; rfl]
  cases bt
  ·exact hv
  ·exact hv
 have h1 := of_decide_eq_false h1
 obtain rfl : i = 255 := by omega
 refine Wp.exit ?_
 refine Wp.seq ?_
 refine Yn 1 rfl ?_
 refine Wp.cond rfl (fun ht => ?_) (fun ht => ?_)
 ·skip
  subst ht
  obtain ⟨g1, g2, g3, g4⟩ := hw
  refine Wp.region ?_
  refine Yz 2 rfl ?_
  refine Yg 4 rfl ?_
  refine Yc rfl rfl (inverseC (PEl.ptz (.tail _ (.head _))) g4.1 ?_)
  intro iv hiv hivv
  have hii : iv.is (invq (lad K U 255).z2) := ⟨hiv, by rw [hivv, Nat.mod_eq_of_lt (invq_lt _)]; exact invq_of g4.2⟩
  refine OWp.g rfl rfl (Gives.build rfl rfl) ?_
  refine Ya rfl rfl rfl rfl fun L12 hBL12 hLL12 => ?_
  refine OWp.step rfl (Step.storeAs 0 (iv.cells) rfl rfl rfl rfl rfl (by assumption) rfl (Unfz.zero _) rfl (Nat.le_of_ble_eq_true rfl) rfl rfl ?_)
  refine OWp.nil ?_
  refine Yg 3 rfl ?_
  refine Yc rfl rfl (CallWp.focus 2 rfl ((byR (p := []) (s := w.z3.cells) hq (PEl.own (.tail _ (.head _))) g3 hii ?_)))
  intro X hX
  refine OWp.nil ?_
  show Wp _ _ _ _ _ _ (prow qb X w.z3 :: _)
  refine Yg 4 rfl ?_
  refine Yc rfl rfl (textC (PEl.ptx (.head _)) hX.1 ?_)
  rw [hX.2, mulq_mod]
  refine Yz 1 rfl ?_
  refine Wp.ret ⟨trivial, _, ⟨_, _, rfl, rfl, rfl⟩, ?_⟩
  exact ⟨S, subl, H⟩
 subst ht
 obtain ⟨g1, g2, g3, g4⟩ := hw
 refine Wp.skip ?_
 refine Yg 4 rfl ?_
 refine Yc rfl rfl (inverseC (PEl.ptz (.head _)) g2.1 ?_)
 intro iv hiv hivv
 have hii : iv.is (invq (lad K U 255).z2) := ⟨hiv, by rw [hivv, Nat.mod_eq_of_lt (invq_lt _)]; exact invq_of g2.2⟩
 refine OWp.g rfl rfl (Gives.build rfl rfl) ?_
 refine Ya rfl rfl rfl rfl fun L12 hBL12 hLL12 => ?_
 refine OWp.step rfl (Step.storeAs 0 (iv.cells) rfl rfl rfl rfl rfl (by assumption) rfl (Unfz.zero _) rfl (Nat.le_of_ble_eq_true rfl) rfl rfl ?_)
 refine OWp.nil ?_
 refine Yg 3 rfl ?_
 refine Yc rfl rfl (CallWp.focus 1 rfl ((byR (p := []) (s := w.z2.cells) hp (PEl.own (.tail _ (.head _))) g1 hii ?_)))
 intro X hX
 refine OWp.nil ?_
 show Wp _ _ _ _ _ _ (prow pb X w.z2 :: _)
 refine Yg 4 rfl ?_
 refine Yc rfl rfl (textC (PEl.ptx (.head _)) hX.1 ?_)
 rw [hX.2, mulq_mod]
 refine Yz 1 rfl ?_
 refine Wp.ret ⟨trivial, _, ⟨_, _, rfl, rfl, rfl⟩, ?_⟩
 exact ⟨S, subl, H⟩
end
end Go.Proofs.D

namespace Go.Proofs.D
open Go.Lg Go.Cv
set_option maxRecDepth 100000
theorem strs_at {l : List (List UInt8)} {i : Nat} (h : i < l.length) : (strs l)[i]? = some (.string (str l[i])) := by
 unfold strs
 rw [List.getElem?_map, List.getElem?_eq_getElem h]
 rfl
section
variable {B : Nat} {S R : Ents} {Q : Value → Ents → Prop}
theorem timesCC {k u : List UInt8} (H : Q (.tuple #[.string (str (timesR k u).1), .int .i64 ((timesR k u).2 : Nat)]) S) : CallWp Tryz.prog B 75 #[.string (str k), .string (str u)] Q S := by
 unfold timesR at H
 refine Yx (args := [_, _]) Tryz.func75 Tryz.ntmps75 ?_
 refine Yn 2 rfl ?_
 refine Wp.seq ?_
 refine Yg 4 rfl ?_
 refine OWp.part 9 rfl (fun h1 => ?_) (fun h1 => ?_)
 ·have h1 := ndT h1
  rw [if_neg (fun h => h1 (by rw [h.1]; rfl))] at H
  refine Yz 4 rfl ?_
  refine Cy rfl ?_
  refine Yn 2 rfl ?_
  refine Wp.ret ⟨trivial, _, ⟨_, _, rfl, rfl, _, _, rfl, rfl, rfl⟩, ?_⟩
  exact H
 have h1 := ndF h1
 refine Yz 4 rfl ?_
 refine Wp.cond rfl (fun h2 => ?_) (fun h2 => ?_)
 ·have h2 := ndT h2
  rw [if_neg (fun h => h2 (by rw [h.2]; rfl))] at H
  refine Yn 2 rfl ?_
  refine Wp.ret ⟨trivial, _, ⟨_, _, rfl, rfl, _, _, rfl, rfl, rfl⟩, ?_⟩
  exact H
 have h2 := ndF h2
 have hk : k.length = 32 := by omega
 have hu : u.length = 32 := by omega
 rw [if_pos ⟨hk, hu⟩] at H
 refine Wp.skip ?_
 refine Yg 2 rfl ?_
 refine Yc rfl rfl (ctimesC hk hu ?_)
 refine Yz 2 rfl ?_
 refine Wp.ret ⟨trivial, _, ⟨_, _, rfl, rfl, _, _, rfl, rfl, rfl⟩, ?_⟩
 exact H
theorem publicC {k : List UInt8} (H : Q (.tuple #[.string (str (publicR k).1), .int .i64 ((publicR k).2 : Nat)]) S) : CallWp Tryz.prog B 45 #[.string (str k)] Q S := by
 refine Yx (args := [_]) Tryz.func45 Tryz.ntmps45 ?_
 refine Yn 2 rfl ?_
 refine Yg 1 rfl ?_
 refine Yc rfl rfl (textNC (n := 9) (by decide) ?_)
 refine Yc rfl rfl (timesCC (u := base9) ?_)
 refine Yz 4 rfl ?_
 refine Wp.ret ⟨trivial, _, ⟨_, _, rfl, rfl, _, _, rfl, rfl, rfl⟩, ?_⟩
 exact H
theorem sharedC {k u : List UInt8} (H : Q (.tuple #[.string (str (sharedR k u).1), .int .i64 ((sharedR k u).2 : Nat)]) S) : CallWp Tryz.prog B 68 #[.string (str k), .string (str u)] Q S := by
 unfold sharedR at H
 refine Yx (args := [_, _]) Tryz.func68 Tryz.ntmps68 ?_
 refine Yn 2 rfl ?_
 refine Yg 2 rfl ?_
 refine Yc rfl rfl (timesCC ?_)
 refine Yz 5 rfl ?_
 refine Wp.seq ?_
 refine Wp.block ?_
 refine Yn 3 rfl ?_
 refine Wp.cond rfl (fun h1 => ?_) (fun h1 => ?_)
 ·have h1 := ndT h1
  rw [if_pos (by omega)] at H
  refine Yn 3 rfl ?_
  refine Wp.ret ⟨trivial, _, ⟨_, _, rfl, rfl, _, _, rfl, rfl, rfl⟩, ?_⟩
  exact H
 have h1 := ndF h1
 rw [if_neg (by omega)] at H
 refine Yg 1 rfl ?_
 refine Yc rfl rfl (textNC (n := 0) (by decide) ?_)
 refine Yz 2 rfl ?_
 refine Wp.cond rfl (fun h2 => ?_) (fun h2 => ?_)
 ·have h2 := of_decide_eq_true h2
  rw [if_pos h2] at H
  refine Yn 2 rfl ?_
  refine Wp.ret ⟨trivial, _, ⟨_, _, rfl, rfl, _, _, rfl, rfl, rfl⟩, ?_⟩
  exact H
 have h2 := of_decide_eq_false h2
 rw [if_neg h2] at H
 have e : (timesR k u).2 = 0 := by omega
 rw [e] at H
 refine Wp.skip ?_
 refine Yn 3 rfl ?_
 refine Wp.ret ⟨trivial, _, ⟨_, _, rfl, rfl, _, _, rfl, rfl, rfl⟩, ?_⟩
 exact H
theorem chainGo_take {u : List UInt8} : ∀ (ks : List (List UInt8)) {i : Nat} (hi : i < ks.length) {v : List UInt8}, chainGo u ks = chainGo v (ks.drop i) → chainGo u ks = if (sharedR ks[i] v).2 ≠ 0 then ([], (sharedR ks[i] v).2) else chainGo (sharedR ks[i] v).1 (ks.drop (i + 1)) := by
 intro ks i hi v h
 rw [h, List.drop_eq_getElem_cons hi]
 rfl
set_option maxHeartbeats 2000000 in
theorem chainC {u : List UInt8} {ks : List (List UInt8)} {v : Value} (hr : Reads S 1 v ks.length (strs ks)) (hl : ks.length ≤ 1099511627776) (H : Q (.tuple #[.string (str (chainR u ks).1), .int .i64 ((chainR u ks).2 : Nat)]) S) : CallWp Tryz.prog B 136 #[.string (str u), v] Q S := by
 obtain ⟨va, vc, rfl⟩ := hr.form
 unfold chainR at H
 have hlc : (u :: ks).length = ks.length + 1 := rfl
 refine CallWp.dropRet ?_
 refine Yx (args := [_, _]) Tryz.func136 Tryz.ntmps136 ?_
 refine Yn 2 rfl ?_
 refine Wp.seq ?_
 refine Yg 1 rfl ?_
 refine OWp.step rfl (Step.buildSlice rfl rfl rfl ?_); intro L hBL hLL
 refine Ye 1 rfl ?_
 refine OWp.step rfl (Step.appendAt (es := [(L, cel [.string (str u)] 9)]) [] rfl rfl rfl rfl rfl rfl (by decide) rfl rfl (Own.row (k := 1) hBL rfl (by decide)) (hr.mono fun x hx => List.mem_append_right _ (.tail _ hx)) (strs_one ks) (by show (1 + _) * 16 ≤ _; omega) (by unfold maxLen; omega) ?_)
 intro v1 e1 ho1 _
 have hr1 : Reads e1 1 v1 (u :: ks).length (strs (u :: ks)) := by rw [List.length_cons, Nat.add_comm]; exact ho1.reads
 obtain ⟨wa, wc, rfl⟩ := hr1.form
 refine Yz 2 rfl ?_
 refine Wp.block ?_
 refine Wp.loopS (α := Nat) (fun i => (u :: ks).length - i) (fun i => [(0, .string (str u)), (1, .slice va ks.length vc), (15, .slice wa (u :: ks).length wc), (16, .int .i64 ((u :: ks).length : Int)), (17, .int .i64 (i : Int))]) (fun _ => e1 ++ S) (fun i => i ≤ (u :: ks).length ∧ ∀ s ∈ (u :: ks).take i, s.length = 32) 0 ?_ (.refl _) ⟨Nat.zero_le _, by simp⟩ ?_
 ·exact .cons rfl (.cons rfl (.cons rfl (.cons rfl (.cons rfl (.nil _)))))
 rintro i ⟨hi, hall⟩
 refine Yn 1 rfl ?_
 refine Wp.seq ?_
 refine Wp.cond rfl (fun h1 => ?_) (fun h1 => ?_)
 ·have h1 := of_decide_eq_true h1
  have hi1 : i < (u :: ks).length := by omega
  obtain ⟨b2, o2, c2, l2, t2, f2, hv2, hm2, _, hg2⟩ := hr1.get1 (by omega)
  cases hv2
  have hgi : l2[o2 + i * 1]? = some (.string (str (u :: ks)[i])) := by rw [hg2 i hi1]; exact strs_at hi1
  refine Wp.skip ?_
  refine Wp.seq ?_
  refine Wp.block ?_
  refine Yq ?_
  refine OWp.g rfl rfl (Gives.indexAddrSlice (i) rfl rfl rfl rfl rfl rfl (by omega)) ?_
  refine OWp.load (List.mem_append_left _ hm2) rfl rfl rfl rfl hgi ?_
  refine Yz 1 rfl ?_
  refine Yn 3 rfl ?_
  refine Wp.cond rfl (fun h2 => ?_) (fun h2 => ?_)
  ·have h2 := ndT h2
   have hno : ¬ ∀ s ∈ u :: ks, s.length = 32 := fun h => h2 (by have := h _ (List.getElem_mem hi1); omega)
   rw [if_pos hno] at H
   refine Yn 2 rfl ?_
   refine Wp.ret ⟨trivial, _, ⟨_, _, rfl, rfl, _, _, rfl, rfl, rfl⟩, ?_⟩
   exact ⟨S, List.sublist_append_right _ _, H⟩
  have h2 := ndF h2
  refine Wp.skip ?_
  refine Wp.region ?_
  refine Yz 2 rfl ?_
  refine ⟨i + 1, by omega, ⟨by omega, ?_⟩, .cons rfl (.cons rfl (.cons rfl (.cons rfl (.cons' rfl (int_eq (by rw [i64_id] <;> omega)) (.nil _))))), .refl _⟩
  intro s hs
  rw [List.take_succ_eq_append_getElem hi1] at hs
  rcases List.mem_append.1 hs with hs | hs
  ·exact hall s hs
  ·rw [List.mem_singleton.1 hs]; omega
 have h1 := of_decide_eq_false h1
 obtain rfl : i = (u :: ks).length := by omega
 rw [List.take_length] at hall
 rw [if_neg (by simpa using hall)] at H
 refine Wp.exit ?_
 refine Wp.seq ?_
 refine Yn 3 rfl ?_
 refine Wp.cond rfl (fun h3 => ?_) (fun h3 => ?_)
 ·have h3 := of_decide_eq_true h3
  rw [if_pos (by omega)] at H
  refine Yn 2 rfl ?_
  refine Wp.ret ⟨trivial, _, ⟨_, _, rfl, rfl, _, _, rfl, rfl, rfl⟩, ?_⟩
  exact ⟨S, List.sublist_append_right _ _, H⟩
 have h3 := of_decide_eq_false h3
 rw [if_neg (by omega)] at H
 refine Wp.skip ?_
 refine Wp.seq ?_
 refine Yn 3 rfl ?_
 refine Wp.block ?_
 refine Wp.loopS (α := Nat × List UInt8) (fun z => ks.length - z.1) (fun z => [(0, .string (str z.2)), (28, .slice va ks.length vc), (29, .int .i64 (ks.length : Int)), (30, .int .i64 (z.1 : Int))]) (fun _ => e1 ++ S) (fun z => z.1 ≤ ks.length ∧ chainGo u ks = chainGo z.2 (ks.drop z.1)) (0, u) ?_ (.refl _) ⟨Nat.zero_le _, rfl⟩ ?_
 ·exact .cons rfl (.cons rfl (.cons rfl (.cons rfl (.nil _))))
 rintro ⟨i, x⟩ ⟨hi, hc⟩
 simp only at hi hc ⊢
 refine Yn 1 rfl ?_
 refine Wp.seq ?_
 refine Wp.cond rfl (fun h4 => ?_) (fun h4 => ?_)
 ·have h4 := of_decide_eq_true h4
  have hi1 : i < ks.length := by omega
  have hcc := chainGo_take ks hi1 hc
  obtain ⟨b2, o2, c2, l2, t2, f2, hv2, hm2, _, hg2⟩ := hr.get1 (by omega)
  cases hv2
  have hgi : l2[o2 + i * 1]? = some (.string (str ks[i])) := by rw [hg2 i hi1]; exact strs_at hi1
  refine Wp.skip ?_
  refine Wp.seq ?_
  refine Wp.block ?_
  refine Yq ?_
  refine OWp.g rfl rfl (Gives.indexAddrSlice (i) rfl rfl rfl rfl rfl rfl (by omega)) ?_
  refine OWp.load (List.mem_append_right _ hm2) rfl rfl rfl rfl hgi ?_
  refine Yz 1 rfl ?_
  refine Yg 2 rfl ?_
  refine Yc rfl rfl (sharedC ?_)
  refine Yz 5 rfl ?_
  refine Wp.seq ?_
  refine Yn 2 rfl ?_
  refine Wp.cond rfl (fun h5 => ?_) (fun h5 => ?_)
  ·have h5 := ndT h5
   rw [if_pos (by omega)] at hcc
   rw [hcc] at H
   refine Yn 3 rfl ?_
   refine Wp.ret ⟨trivial, _, ⟨_, _, rfl, rfl, _, _, rfl, rfl, rfl⟩, ?_⟩
   exact ⟨S, List.sublist_append_right _ _, H⟩
  have h5 := ndF h5
  rw [if_neg (by omega)] at hcc
  refine Wp.skip ?_
  refine Wp.region ?_
  refine Yz 2 rfl ?_
  refine Wp.region ?_
  refine Yz 2 rfl ?_
  exact ⟨(i + 1, (sharedR ks[i] x).1), by simp only; omega, ⟨by simp only; omega, hcc⟩, .cons rfl (.cons rfl (.cons rfl (.cons' rfl (int_eq (by simp only; rw [i64_id] <;> omega)) (.nil _)))), .refl _⟩
 have h4 := of_decide_eq_false h4
 obtain rfl : i = ks.length := by omega
 rw [List.drop_length] at hc
 rw [hc] at H
 refine Wp.exit ?_
 refine Yn 3 rfl ?_
 refine Wp.ret ⟨trivial, _, ⟨_, _, rfl, rfl, _, _, rfl, rfl, rfl⟩, ?_⟩
 exact ⟨S, List.sublist_append_right _ _, H⟩
end
end Go.Proofs.D

namespace Go.Proofs.C
open Go.Lg
set_option maxRecDepth 100000

abbrev pt (b : Nat) : Value := .pointer (some ⟨b, 0, none⟩)
def lim : Nat := 140737488355328

section
variable {B : Nat} {S : Ents} {Q : Value → Ents → Prop} {s : List UInt8} {k p : Nat}

end
end Go.Proofs.C

namespace Go.Proofs.C
open Go.Lg
set_option maxRecDepth 100000

section
variable {B : Nat} {S R : Ents} {Q : Value → Ents → Prop} {s : List UInt8} {k p : Nat}

end
end Go.Proofs.C

namespace Go.Proofs.C
open Go.Lg
set_option maxRecDepth 100000

def be4 : List UInt8 → Nat
 | a :: b :: c :: d :: _ => a.toNat * 16777216 + b.toNat * 65536 + c.toNat * 256 + d.toNat
 | _ => 0
def word (s : List UInt8) (k : Nat) : Nat := be4 (s.drop k)

theorem be4_lt (l : List UInt8) : be4 l < 4294967296 := by
 unfold be4
 split
 ·rename_i a b c d r
  have := a.toNat_lt; have := b.toNat_lt; have := c.toNat_lt; have := d.toNat_lt
  omega
 ·omega

theorem wraps_i64 (n : Int) (h0 : 0 ≤ n) (h1 : n < 2 ^ 63) : IntKind.i64.wrap n = n := by rw [IntKind.wrap_i64]; omega

theorem four (l : List UInt8) (h : 4 ≤ l.length) : ∃ a b c d r, l = a :: b :: c :: d :: r := by
 match l, h with
 | a :: b :: c :: d :: r, _ => exact ⟨a, b, c, d, r, rfl⟩

section
variable {B : Nat} {S R : Ents} {Q : Value → Ents → Prop} {s : List UInt8} {k p : Nat}

/-- What a word reads: the number, the error, where the tape stands behind it. -/
def wordR (s : List UInt8) (k : Nat) : Nat × Nat × Nat := if k + 4 ≤ s.length then (word s k, 0, k + 4) else (0, 120, k)

def belowR (s : List UInt8) (k : Nat) (n : Int) : Nat × Nat × Nat :=
 if n < 1 ∨ 2147483647 < n then (0, 1, k) else if k + 4 ≤ s.length then (word s k * n.toNat / 4294967296, 0, k + 4) else (0, 120, k)

end
end Go.Proofs.C

namespace Go.Proofs.C
open Go.Lg
set_option maxRecDepth 100000

def ints (l : List Nat) : List Value := l.map fun (x : Nat) => .int .i64 (x : Int)
def swp (l : List Nat) (i j : Nat) : List Nat := (l.set i (l.getD j 0)).set j (l.getD i 0)
/-- The order that is drawn. -/
def shuf (s : List UInt8) : Nat → Nat → List Nat → List Nat
 | i + 2, k, l => shuf s (i + 1) (k + 4) (swp l (i + 1) (word s k * (i + 2) / 4294967296))
 | _, _, l => l

section
variable {B : Nat} {S R : Ents} {Q : Value → Ents → Prop} {s : List UInt8} {k p : Nat}

end
end Go.Proofs.C

namespace Go.Proofs.C
open Go.Lg
set_option maxRecDepth 100000

/-- A number as four bytes. -/
def b4 (x : Nat) : List UInt8 := [UInt8.ofNat (x / 16777216), UInt8.ofNat (x / 65536), UInt8.ofNat (x / 256), UInt8.ofNat x]
section
variable {B : Nat} {S R : Ents} {Q : Value → Ents → Prop} {s : List UInt8} {k p : Nat}

end
end Go.Proofs.C

namespace Go.Proofs.C
open Go.Lg
set_option maxRecDepth 100000

/-- What Bytes tells: the bytes, why not, and how much of the text is read behind it. -/
def bytesR (s : List UInt8) (k : Nat) (n : Int) : List UInt8 × Nat × Nat :=
 if n < 0 ∨ 4096 < n then ([], 1, k) else if (s.length : Int) < k + n then ([], 120, k) else ((s.drop k).take n.toNat, 0, k + n.toNat)

section
variable {B : Nat} {S R : Ents} {Q : Value → Ents → Prop} {s : List UInt8} {k p : Nat}

end
end Go.Proofs.C

namespace Go.Proofs.C
open Go.Lg
set_option maxRecDepth 100000

def fold8 (l : List UInt8) : Nat := l.foldl (fun d b => d * 256 + b.toNat) 0
section
variable {B : Nat} {S R : Ents} {Q : Value → Ents → Prop} {s : List UInt8} {k p : Nat}

end
end Go.Proofs.C

namespace Go.Proofs.C
open Go.Lg
set_option maxRecDepth 100000

/-- The cells of whole numbers. -/
def zi (l : List Int) : List Value := l.map fun x => .int .i64 x
theorem zi_get {l : List Int} {i : Nat} {x : Int} (h : l[i]? = some x) : (zi l)[i]? = some (.int .i64 x) := by simp [zi, h]
section
variable {B : Nat} {S : Ents} {Q : Value → Ents → Prop}

end
end Go.Proofs.C

namespace Go.Proofs.C
open Go.Lg
set_option maxRecDepth 100000

/-- A command. -/
@[ext] structure Hop where
 kind : Int
 node : Int
 user : Int
 delay : Int
 id : List UInt8

def Hop.cells (x : Hop) : List Value := [.int .i64 x.kind, .int .i64 x.node, .int .i64 x.user, .int .i64 x.delay, .string (str x.id)]
theorem Hop.len (x : Hop) : x.cells.length = 5 := rfl
/-- Which commands may be. -/
def hopP (x : Hop) : Prop :=
 (x.kind = 1 ∧ 0 ≤ x.node ∧ x.node ≤ 31 ∧ 0 ≤ x.delay ∧ x.delay ≤ 4096 ∧ x.user = 0 ∧ x.id.length = 0) ∨
 (x.kind = 2 ∧ 0 ≤ x.user ∧ x.user ≤ 63 ∧ 0 ≤ x.delay ∧ x.delay ≤ 4096 ∧ x.node = 0 ∧ x.id.length = 16) ∨
 (x.kind = 3 ∧ x.id.length = 16 ∧ x.node = 0 ∧ x.user = 0 ∧ x.delay = 0) ∨
 (x.kind = 4 ∧ x.node = 0 ∧ x.user = 0 ∧ x.delay = 0 ∧ x.id.length = 0)
instance (x : Hop) : Decidable (hopP x) := by unfold hopP; infer_instance

def hopE (x : Hop) : Int := if hopP x then 0 else 70
theorem hopE_yes {x : Hop} (h : hopP x) : hopE x = 0 := if_pos h
theorem hopE_no {x : Hop} (h : ¬ hopP x) : hopE x = 70 := if_neg h

def eqHop (x y : Hop) : Bool := decide (x.kind = y.kind) && (decide (x.node = y.node) && (decide (x.user = y.user) && (decide (x.delay = y.delay) && (decide (x.id = y.id) && true))))
theorem eqHop_iff {x y : Hop} : eqHop x y = true ↔ x = y := by
 unfold eqHop
 obtain ⟨a, b, c, d, e⟩ := x
 obtain ⟨a', b', c', d', e'⟩ := y
 simp

theorem hopG : Tryz.prog.eqGuardType Tryz.prog.depth 86 = false := by decide +kernel
theorem nil_len {l : List UInt8} : l = [] ↔ l.length = 0 := by cases l <;> simp

section
variable {B : Nat} {S R : Ents} {Q : Value → Ents → Prop}

theorem withinC {n most : Int} (h : Q (.bool (decide (0 ≤ n ∧ n ≤ most))) S) : CallWp Tryz.prog B 179 #[.int .i64 n, .int .i64 most] Q S := by
 refine Yx (args := [_, _]) Tryz.func179 Tryz.ntmps179 ?_
 refine Yn 1 rfl ?_
 refine Yg 3 rfl ?_
 refine OWp.part 7 rfl (fun h1 => ?_) (fun h1 => ?_)
 ·have h1 := of_decide_eq_true h1
  refine Yz 5 rfl ?_
  refine Wp.ret ⟨trivial, _, ⟨_, _, rfl, rfl, rfl⟩, ?_⟩
  rw [decide_eq_decide.2 (show 0 ≤ n ∧ n ≤ most ↔ n ≤ most by omega)] at h; exact h
 have h1 := of_decide_eq_false h1
 refine Yz 5 rfl ?_
 refine Wp.ret ⟨trivial, _, ⟨_, _, rfl, rfl, rfl⟩, ?_⟩
 rw [decide_eq_false (by omega)] at h; exact h
theorem checkC {x : Hop} (h : Q (.int .i64 (hopE x)) S) : CallWp Tryz.prog B 133 #[.agg x.cells.toArray] Q S := by
 have hno : ¬ hopP x → Q (.int .i64 70) S := fun e => by rw [hopE_no e] at h; exact h
 have hyes : hopP x → Q (.int .i64 0) S := fun e => by rw [hopE_yes e] at h; exact h
 clear h
 unfold hopP at hno hyes
 refine Yx (args := [_]) Tryz.func133 Tryz.ntmps133 ?_
 refine Yq ?_
 refine Yb rfl rfl rfl rfl fun L1 hBL1 hLL1 => ?_
 refine Yz 1 rfl ?_
 refine Yq ?_
 refine Ya rfl rfl rfl rfl fun L3 hBL3 hLL3 => ?_
 refine OWp.nil ?_
 refine Yg 1 rfl ?_
 first | refine Yl m0 ?_ | refine Yl m1 ?_ | refine Yl m2 ?_ | refine Yl m3 ?_ | refine Yl m4 ?_ | refine Yl (List.Mem.tail _ (List.Mem.tail _ (List.Mem.tail _ (List.Mem.tail _ (List.Mem.tail _ (List.Mem.head _)))))) ?_
 refine Yc rfl rfl (withinC ?_)
 refine Yz 1 rfl ?_
 refine Wp.seq ?_
 refine Yg 1 rfl ?_
 first | refine Yl m0 ?_ | refine Yl m1 ?_ | refine Yl m2 ?_ | refine Yl m3 ?_ | refine Yl m4 ?_ | refine Yl (List.Mem.tail _ (List.Mem.tail _ (List.Mem.tail _ (List.Mem.tail _ (List.Mem.tail _ (List.Mem.head _)))))) ?_
 refine OWp.nil ?_
 refine Wp.block ?_
 refine Yn 2 rfl ?_
 refine Wp.cond rfl (fun h1 => ?_) (fun h1 => ?_)
 ·have h1 := of_decide_eq_true h1
  refine Yg 1 rfl ?_
  first | refine Yl m0 ?_ | refine Yl m1 ?_ | refine Yl m2 ?_ | refine Yl m3 ?_ | refine Yl m4 ?_ | refine Yl (List.Mem.tail _ (List.Mem.tail _ (List.Mem.tail _ (List.Mem.tail _ (List.Mem.tail _ (List.Mem.head _)))))) ?_
  refine Ye 1 rfl ?_
  first | refine Yl m0 ?_ | refine Yl m1 ?_ | refine Yl m2 ?_ | refine Yl m3 ?_ | refine Yl m4 ?_ | refine Yl (List.Mem.tail _ (List.Mem.tail _ (List.Mem.tail _ (List.Mem.tail _ (List.Mem.tail _ (List.Mem.head _)))))) ?_
  refine OWp.g rfl rfl (Gives.build rfl rfl) ?_
  refine OWp.step rfl (Step.store 0 rfl rfl rfl rfl rfl (by assumption) rfl (Nat.le_of_ble_eq_true rfl) (Unfz.zero _) rfl rfl ?_)
  refine OWp.nil ?_
  refine Wp.region ?_
  refine Ye 2 rfl ?_
  refine OWp.part 18 rfl (fun h2 => ?_) (fun h2 => ?_)
  ·have h2 := of_decide_eq_true h2
   refine Ye 1 rfl ?_
   first | refine Yl m0 ?_ | refine Yl m1 ?_ | refine Yl m2 ?_ | refine Yl m3 ?_ | refine Yl m4 ?_ | refine Yl (List.Mem.tail _ (List.Mem.tail _ (List.Mem.tail _ (List.Mem.tail _ (List.Mem.tail _ (List.Mem.head _)))))) ?_
   refine Yc rfl rfl (withinC ?_)
   refine Yz 2 rfl ?_
   refine Yg 1 rfl ?_
   first | refine Yl m0 ?_ | refine Yl m1 ?_ | refine Yl m2 ?_ | refine Yl m3 ?_ | refine Yl m4 ?_ | refine Yl (List.Mem.tail _ (List.Mem.tail _ (List.Mem.tail _ (List.Mem.tail _ (List.Mem.tail _ (List.Mem.head _)))))) ?_
   refine Ye 1 rfl ?_
   refine OWp.step rfl (Step.store 0 rfl rfl rfl rfl rfl (by assumption) rfl (Nat.le_of_ble_eq_true rfl) (Unfz.zero _) rfl rfl ?_)
   refine OWp.nil ?_
   refine Wp.seq ?_
   refine Yg 3 rfl ?_
   refine OWp.part 63 rfl (fun h3 => ?_) (fun h3 => ?_)
   ·have h3 := ndT h3
    refine Yz 4 rfl ?_
    refine Cy rfl ?_
    refine Wp.drop (S' := S) subl ?_
    refine Yn 1 rfl ?_
    refine Wp.ret ⟨trivial, _, ⟨_, _, rfl, rfl, rfl⟩, ?_⟩
    exact hno (by omega)
   have h3 := ndF h3
   first | refine Yl m0 ?_ | refine Yl m1 ?_ | refine Yl m2 ?_ | refine Yl m3 ?_ | refine Yl m4 ?_ | refine Yl (List.Mem.tail _ (List.Mem.tail _ (List.Mem.tail _ (List.Mem.tail _ (List.Mem.tail _ (List.Mem.head _)))))) ?_
   first | refine Yl m0 ?_ | refine Yl m1 ?_ | refine Yl m2 ?_ | refine Yl m3 ?_ | refine Yl m4 ?_ | refine Yl (List.Mem.tail _ (List.Mem.tail _ (List.Mem.tail _ (List.Mem.tail _ (List.Mem.tail _ (List.Mem.head _)))))) ?_
   refine OWp.g rfl rfl (Gives.neqStruct (r := eqHop x ⟨x.kind, x.node, 0, x.delay, []⟩) 10 rfl rfl rfl rfl hopG (by rfl)) ?_
   refine Yz 1 rfl ?_
   refine Wp.cond rfl (fun h4 => ?_) (fun h4 => ?_)
   ·skip
    refine Wp.drop (S' := S) subl ?_
    refine Yn 1 rfl ?_
    refine Wp.ret ⟨trivial, _, ⟨_, _, rfl, rfl, rfl⟩, ?_⟩
    refine hno fun hp => ?_
    have : eqHop x ⟨x.kind, x.node, 0, x.delay, []⟩ = true := eqHop_iff.2 (Hop.ext rfl rfl (by show x.user = 0; omega) rfl (nil_len.2 (by omega)))
    rw [this] at h4
    cases h4
   refine Wp.skip ?_
   refine Wp.drop (S' := S) subl ?_
   refine Yn 1 rfl ?_
   refine Wp.ret ⟨trivial, _, ⟨_, _, rfl, rfl, rfl⟩, ?_⟩
   have : eqHop x ⟨x.kind, x.node, 0, x.delay, []⟩ = true := by simpa using h4
   have := eqHop_iff.1 this
   have e3 := congrArg Hop.user this
   have e5 := nil_len.1 (congrArg Hop.id this)
   simp only at e3
   exact hyes (by omega)
  have h2 := of_decide_eq_false h2
  refine Yz 5 rfl ?_
  refine Yg 1 rfl ?_
  first | refine Yl m0 ?_ | refine Yl m1 ?_ | refine Yl m2 ?_ | refine Yl m3 ?_ | refine Yl m4 ?_ | refine Yl (List.Mem.tail _ (List.Mem.tail _ (List.Mem.tail _ (List.Mem.tail _ (List.Mem.tail _ (List.Mem.head _)))))) ?_
  refine Ye 1 rfl ?_
  refine OWp.step rfl (Step.store 0 rfl rfl rfl rfl rfl (by assumption) rfl (Nat.le_of_ble_eq_true rfl) (Unfz.zero _) rfl rfl ?_)
  refine OWp.nil ?_
  refine Wp.seq ?_
  refine Wp.drop (S' := S) subl ?_
  refine Yn 7 rfl ?_
  refine Cy rfl ?_
  refine Yn 1 rfl ?_
  refine Wp.ret ⟨trivial, _, ⟨_, _, rfl, rfl, rfl⟩, ?_⟩
  exact hno (by omega)
 have h1 := of_decide_eq_false h1
 refine Yn 2 rfl ?_
 refine Wp.cond rfl (fun h1b => ?_) (fun h1b => ?_)
 ·have h1b := of_decide_eq_true h1b
  refine Yg 1 rfl ?_
  first | refine Yl m0 ?_ | refine Yl m1 ?_ | refine Yl m2 ?_ | refine Yl m3 ?_ | refine Yl m4 ?_ | refine Yl (List.Mem.tail _ (List.Mem.tail _ (List.Mem.tail _ (List.Mem.tail _ (List.Mem.tail _ (List.Mem.head _)))))) ?_
  refine Ye 1 rfl ?_
  first | refine Yl m0 ?_ | refine Yl m1 ?_ | refine Yl m2 ?_ | refine Yl m3 ?_ | refine Yl m4 ?_ | refine Yl (List.Mem.tail _ (List.Mem.tail _ (List.Mem.tail _ (List.Mem.tail _ (List.Mem.tail _ (List.Mem.head _)))))) ?_
  refine Ye 1 rfl ?_
  first | refine Yl m0 ?_ | refine Yl m1 ?_ | refine Yl m2 ?_ | refine Yl m3 ?_ | refine Yl m4 ?_ | refine Yl (List.Mem.tail _ (List.Mem.tail _ (List.Mem.tail _ (List.Mem.tail _ (List.Mem.tail _ (List.Mem.head _)))))) ?_
  refine OWp.g rfl rfl (Gives.build rfl rfl) ?_
  refine OWp.step rfl (Step.store 0 rfl rfl rfl rfl rfl (by assumption) rfl (Nat.le_of_ble_eq_true rfl) (Unfz.zero _) rfl rfl ?_)
  refine OWp.nil ?_
  refine Wp.region ?_
  refine Ye 2 rfl ?_
  refine OWp.part 33 rfl (fun h2 => ?_) (fun h2 => ?_)
  ·have h2 := of_decide_eq_true h2
   refine Ye 1 rfl ?_
   first | refine Yl m0 ?_ | refine Yl m1 ?_ | refine Yl m2 ?_ | refine Yl m3 ?_ | refine Yl m4 ?_ | refine Yl (List.Mem.tail _ (List.Mem.tail _ (List.Mem.tail _ (List.Mem.tail _ (List.Mem.tail _ (List.Mem.head _)))))) ?_
   refine Yc rfl rfl (withinC ?_)
   refine Ye 2 rfl ?_
   refine OWp.part 38 rfl (fun h3 => ?_) (fun h3 => ?_)
   ·have h3 := of_decide_eq_true h3
    refine Ye 1 rfl ?_
    first | refine Yl m0 ?_ | refine Yl m1 ?_ | refine Yl m2 ?_ | refine Yl m3 ?_ | refine Yl m4 ?_ | refine Yl (List.Mem.tail _ (List.Mem.tail _ (List.Mem.tail _ (List.Mem.tail _ (List.Mem.tail _ (List.Mem.head _)))))) ?_
    refine Yz 4 rfl ?_
    refine Yg 1 rfl ?_
    first | refine Yl m0 ?_ | refine Yl m1 ?_ | refine Yl m2 ?_ | refine Yl m3 ?_ | refine Yl m4 ?_ | refine Yl (List.Mem.tail _ (List.Mem.tail _ (List.Mem.tail _ (List.Mem.tail _ (List.Mem.tail _ (List.Mem.head _)))))) ?_
    refine Ye 1 rfl ?_
    refine OWp.step rfl (Step.store 0 rfl rfl rfl rfl rfl (by assumption) rfl (Nat.le_of_ble_eq_true rfl) (Unfz.zero _) rfl rfl ?_)
    refine OWp.nil ?_
    refine Wp.seq ?_
    refine Yg 3 rfl ?_
    refine OWp.part 63 rfl (fun h4 => ?_) (fun h4 => ?_)
    ·have h4 := ndT h4
     refine Yz 4 rfl ?_
     refine Cy rfl ?_
     refine Wp.drop (S' := S) subl ?_
     refine Yn 1 rfl ?_
     refine Wp.ret ⟨trivial, _, ⟨_, _, rfl, rfl, rfl⟩, ?_⟩
     exact hno (by omega)
    have h4 := ndF h4
    first | refine Yl m0 ?_ | refine Yl m1 ?_ | refine Yl m2 ?_ | refine Yl m3 ?_ | refine Yl m4 ?_ | refine Yl (List.Mem.tail _ (List.Mem.tail _ (List.Mem.tail _ (List.Mem.tail _ (List.Mem.tail _ (List.Mem.head _)))))) ?_
    first | refine Yl m0 ?_ | refine Yl m1 ?_ | refine Yl m2 ?_ | refine Yl m3 ?_ | refine Yl m4 ?_ | refine Yl (List.Mem.tail _ (List.Mem.tail _ (List.Mem.tail _ (List.Mem.tail _ (List.Mem.tail _ (List.Mem.head _)))))) ?_
    refine OWp.g rfl rfl (Gives.neqStruct (r := eqHop x ⟨x.kind, 0, x.user, x.delay, x.id⟩) 10 rfl rfl rfl rfl hopG (by rfl)) ?_
    refine Yz 1 rfl ?_
    refine Wp.cond rfl (fun h5 => ?_) (fun h5 => ?_)
    ·skip
     refine Wp.drop (S' := S) subl ?_
     refine Yn 1 rfl ?_
     refine Wp.ret ⟨trivial, _, ⟨_, _, rfl, rfl, rfl⟩, ?_⟩
     refine hno fun hp => ?_
     have : eqHop x ⟨x.kind, 0, x.user, x.delay, x.id⟩ = true := eqHop_iff.2 (Hop.ext rfl (by show x.node = 0; omega) rfl rfl rfl)
     rw [this] at h5
     cases h5
    refine Wp.skip ?_
    refine Wp.drop (S' := S) subl ?_
    refine Yn 1 rfl ?_
    refine Wp.ret ⟨trivial, _, ⟨_, _, rfl, rfl, rfl⟩, ?_⟩
    have : eqHop x ⟨x.kind, 0, x.user, x.delay, x.id⟩ = true := by simpa using h5
    have := eqHop_iff.1 this
    have e3 := congrArg Hop.node this
    simp only at e3
    exact hyes (by omega)
   have h3 := of_decide_eq_false h3
   refine Yz 6 rfl ?_
   refine Yg 1 rfl ?_
   first | refine Yl m0 ?_ | refine Yl m1 ?_ | refine Yl m2 ?_ | refine Yl m3 ?_ | refine Yl m4 ?_ | refine Yl (List.Mem.tail _ (List.Mem.tail _ (List.Mem.tail _ (List.Mem.tail _ (List.Mem.tail _ (List.Mem.head _)))))) ?_
   refine Ye 1 rfl ?_
   refine OWp.step rfl (Step.store 0 rfl rfl rfl rfl rfl (by assumption) rfl (Nat.le_of_ble_eq_true rfl) (Unfz.zero _) rfl rfl ?_)
   refine OWp.nil ?_
   refine Wp.seq ?_
   refine Wp.drop (S' := S) subl ?_
   refine Yn 7 rfl ?_
   refine Cy rfl ?_
   refine Yn 1 rfl ?_
   refine Wp.ret ⟨trivial, _, ⟨_, _, rfl, rfl, rfl⟩, ?_⟩
   exact hno (by omega)
  have h2 := of_decide_eq_false h2
  refine Yz 11 rfl ?_
  refine Yg 1 rfl ?_
  first | refine Yl m0 ?_ | refine Yl m1 ?_ | refine Yl m2 ?_ | refine Yl m3 ?_ | refine Yl m4 ?_ | refine Yl (List.Mem.tail _ (List.Mem.tail _ (List.Mem.tail _ (List.Mem.tail _ (List.Mem.tail _ (List.Mem.head _)))))) ?_
  refine Ye 1 rfl ?_
  refine OWp.step rfl (Step.store 0 rfl rfl rfl rfl rfl (by assumption) rfl (Nat.le_of_ble_eq_true rfl) (Unfz.zero _) rfl rfl ?_)
  refine OWp.nil ?_
  refine Wp.seq ?_
  refine Wp.drop (S' := S) subl ?_
  refine Yn 7 rfl ?_
  refine Cy rfl ?_
  refine Yn 1 rfl ?_
  refine Wp.ret ⟨trivial, _, ⟨_, _, rfl, rfl, rfl⟩, ?_⟩
  exact hno (by omega)
 have h1b := of_decide_eq_false h1b
 refine Yn 2 rfl ?_
 refine Wp.cond rfl (fun h1c => ?_) (fun h1c => ?_)
 ·have h1c := of_decide_eq_true h1c
  refine Yg 1 rfl ?_
  first | refine Yl m0 ?_ | refine Yl m1 ?_ | refine Yl m2 ?_ | refine Yl m3 ?_ | refine Yl m4 ?_ | refine Yl (List.Mem.tail _ (List.Mem.tail _ (List.Mem.tail _ (List.Mem.tail _ (List.Mem.tail _ (List.Mem.head _)))))) ?_
  refine OWp.g rfl rfl (Gives.build rfl rfl) ?_
  refine OWp.step rfl (Step.store 0 rfl rfl rfl rfl rfl (by assumption) rfl (Nat.le_of_ble_eq_true rfl) (Unfz.zero _) rfl rfl ?_)
  refine OWp.nil ?_
  refine Wp.region ?_
  refine Ye 2 rfl ?_
  refine OWp.part 50 rfl (fun h2 => ?_) (fun h2 => ?_)
  ·have h2 := of_decide_eq_true h2
   refine Ye 1 rfl ?_
   first | refine Yl m0 ?_ | refine Yl m1 ?_ | refine Yl m2 ?_ | refine Yl m3 ?_ | refine Yl m4 ?_ | refine Yl (List.Mem.tail _ (List.Mem.tail _ (List.Mem.tail _ (List.Mem.tail _ (List.Mem.tail _ (List.Mem.head _)))))) ?_
   refine Yz 4 rfl ?_
   refine Yg 1 rfl ?_
   first | refine Yl m0 ?_ | refine Yl m1 ?_ | refine Yl m2 ?_ | refine Yl m3 ?_ | refine Yl m4 ?_ | refine Yl (List.Mem.tail _ (List.Mem.tail _ (List.Mem.tail _ (List.Mem.tail _ (List.Mem.tail _ (List.Mem.head _)))))) ?_
   refine Ye 1 rfl ?_
   refine OWp.step rfl (Step.store 0 rfl rfl rfl rfl rfl (by assumption) rfl (Nat.le_of_ble_eq_true rfl) (Unfz.zero _) rfl rfl ?_)
   refine OWp.nil ?_
   refine Wp.seq ?_
   refine Yg 3 rfl ?_
   refine OWp.part 63 rfl (fun h4 => ?_) (fun h4 => ?_)
   ·have h4 := ndT h4
    refine Yz 4 rfl ?_
    refine Cy rfl ?_
    refine Wp.drop (S' := S) subl ?_
    refine Yn 1 rfl ?_
    refine Wp.ret ⟨trivial, _, ⟨_, _, rfl, rfl, rfl⟩, ?_⟩
    exact hno (by omega)
   have h4 := ndF h4
   first | refine Yl m0 ?_ | refine Yl m1 ?_ | refine Yl m2 ?_ | refine Yl m3 ?_ | refine Yl m4 ?_ | refine Yl (List.Mem.tail _ (List.Mem.tail _ (List.Mem.tail _ (List.Mem.tail _ (List.Mem.tail _ (List.Mem.head _)))))) ?_
   first | refine Yl m0 ?_ | refine Yl m1 ?_ | refine Yl m2 ?_ | refine Yl m3 ?_ | refine Yl m4 ?_ | refine Yl (List.Mem.tail _ (List.Mem.tail _ (List.Mem.tail _ (List.Mem.tail _ (List.Mem.tail _ (List.Mem.head _)))))) ?_
   refine OWp.g rfl rfl (Gives.neqStruct (r := eqHop x ⟨x.kind, 0, 0, 0, x.id⟩) 10 rfl rfl rfl rfl hopG (by rfl)) ?_
   refine Yz 1 rfl ?_
   refine Wp.cond rfl (fun h5 => ?_) (fun h5 => ?_)
   ·skip
    refine Wp.drop (S' := S) subl ?_
    refine Yn 1 rfl ?_
    refine Wp.ret ⟨trivial, _, ⟨_, _, rfl, rfl, rfl⟩, ?_⟩
    refine hno fun hp => ?_
    have : eqHop x ⟨x.kind, 0, 0, 0, x.id⟩ = true := eqHop_iff.2 (Hop.ext rfl (by show x.node = 0; omega) (by show x.user = 0; omega) (by show x.delay = 0; omega) rfl)
    rw [this] at h5
    cases h5
   refine Wp.skip ?_
   refine Wp.drop (S' := S) subl ?_
   refine Yn 1 rfl ?_
   refine Wp.ret ⟨trivial, _, ⟨_, _, rfl, rfl, rfl⟩, ?_⟩
   have : eqHop x ⟨x.kind, 0, 0, 0, x.id⟩ = true := by simpa using h5
   have := eqHop_iff.1 this
   have e3 := congrArg Hop.node this
   have e4 := congrArg Hop.user this
   have e5 := congrArg Hop.delay this
   simp only at e3 e4 e5
   exact hyes (by omega)
  have h2 := of_decide_eq_false h2
  refine Yz 6 rfl ?_
  refine Yg 1 rfl ?_
  first | refine Yl m0 ?_ | refine Yl m1 ?_ | refine Yl m2 ?_ | refine Yl m3 ?_ | refine Yl m4 ?_ | refine Yl (List.Mem.tail _ (List.Mem.tail _ (List.Mem.tail _ (List.Mem.tail _ (List.Mem.tail _ (List.Mem.head _)))))) ?_
  refine Ye 1 rfl ?_
  refine OWp.step rfl (Step.store 0 rfl rfl rfl rfl rfl (by assumption) rfl (Nat.le_of_ble_eq_true rfl) (Unfz.zero _) rfl rfl ?_)
  refine OWp.nil ?_
  refine Wp.seq ?_
  refine Wp.drop (S' := S) subl ?_
  refine Yn 7 rfl ?_
  refine Cy rfl ?_
  refine Yn 1 rfl ?_
  refine Wp.ret ⟨trivial, _, ⟨_, _, rfl, rfl, rfl⟩, ?_⟩
  exact hno (by omega)
 have h1c := of_decide_eq_false h1c
 refine Yn 2 rfl ?_
 refine Wp.cond rfl (fun h1d => ?_) (fun h1d => ?_)
 ·have h1d := of_decide_eq_true h1d
  refine Wp.skip ?_
  refine Yg 1 rfl ?_
  first | refine Yl m0 ?_ | refine Yl m1 ?_ | refine Yl m2 ?_ | refine Yl m3 ?_ | refine Yl m4 ?_ | refine Yl (List.Mem.tail _ (List.Mem.tail _ (List.Mem.tail _ (List.Mem.tail _ (List.Mem.tail _ (List.Mem.head _)))))) ?_
  refine Ye 1 rfl ?_
  refine OWp.step rfl (Step.store 0 rfl rfl rfl rfl rfl (by assumption) rfl (Nat.le_of_ble_eq_true rfl) (Unfz.zero _) rfl rfl ?_)
  refine OWp.nil ?_
  refine Wp.seq ?_
  refine Yg 3 rfl ?_
  refine OWp.part 63 rfl (fun h2 => ?_) (fun h2 => ?_)
  ·have h2 := ndT h2
   refine Yz 4 rfl ?_
   refine Cy rfl ?_
   refine Wp.drop (S' := S) subl ?_
   refine Yn 1 rfl ?_
   refine Wp.ret ⟨trivial, _, ⟨_, _, rfl, rfl, rfl⟩, ?_⟩
   exact hno (by omega)
  have h2 := ndF h2
  first | refine Yl m0 ?_ | refine Yl m1 ?_ | refine Yl m2 ?_ | refine Yl m3 ?_ | refine Yl m4 ?_ | refine Yl (List.Mem.tail _ (List.Mem.tail _ (List.Mem.tail _ (List.Mem.tail _ (List.Mem.tail _ (List.Mem.head _)))))) ?_
  first | refine Yl m0 ?_ | refine Yl m1 ?_ | refine Yl m2 ?_ | refine Yl m3 ?_ | refine Yl m4 ?_ | refine Yl (List.Mem.tail _ (List.Mem.tail _ (List.Mem.tail _ (List.Mem.tail _ (List.Mem.tail _ (List.Mem.head _)))))) ?_
  refine OWp.g rfl rfl (Gives.neqStruct (r := eqHop x ⟨x.kind, 0, 0, 0, []⟩) 10 rfl rfl rfl rfl hopG (by rfl)) ?_
  refine Yz 1 rfl ?_
  refine Wp.cond rfl (fun h5 => ?_) (fun h5 => ?_)
  ·skip
   refine Wp.drop (S' := S) subl ?_
   refine Yn 1 rfl ?_
   refine Wp.ret ⟨trivial, _, ⟨_, _, rfl, rfl, rfl⟩, ?_⟩
   refine hno fun hp => ?_
   have : eqHop x ⟨x.kind, 0, 0, 0, []⟩ = true := eqHop_iff.2 (Hop.ext rfl (by show x.node = 0; omega) (by show x.user = 0; omega) (by show x.delay = 0; omega) (nil_len.2 (by omega)))
   rw [this] at h5
   cases h5
  refine Wp.skip ?_
  refine Wp.drop (S' := S) subl ?_
  refine Yn 1 rfl ?_
  refine Wp.ret ⟨trivial, _, ⟨_, _, rfl, rfl, rfl⟩, ?_⟩
  have : eqHop x ⟨x.kind, 0, 0, 0, []⟩ = true := by simpa using h5
  have := eqHop_iff.1 this
  have e3 := congrArg Hop.node this
  have e4 := congrArg Hop.user this
  have e5 := congrArg Hop.delay this
  have e6 := nil_len.1 (congrArg Hop.id this)
  simp only at e3 e4 e5
  exact hyes (by omega)
 have h1d := of_decide_eq_false h1d
 refine Wp.drop (S' := S) subl ?_
 refine Yn 1 rfl ?_
 refine Wp.ret ⟨trivial, _, ⟨_, _, rfl, rfl, rfl⟩, ?_⟩
 exact hno (by omega)
end
end Go.Proofs.C

namespace Go.Proofs.C
open Go.Lg
set_option maxRecDepth 100000

def u8 (z : Int) : UInt8 := UInt8.ofNat (z % 256).toNat
theorem u8_wrap (z : Int) : IntKind.u8.wrap z = ((u8 z).toNat : Int) := by
 unfold u8
 rw [IntKind.wrap_u8, UInt8.toNat_ofNat']
 omega
theorem u8_nat {z : Int} (h0 : 0 ≤ z) (h1 : z < 256) : ((u8 z).toNat : Int) = z := by
 rw [← u8_wrap, IntKind.wrap_u8]; omega
theorem u8_mod (z : Int) : u8 (z % 256) = u8 z := by unfold u8; rw [Int.emod_emod_of_dvd _ (Int.dvd_refl 256)]
/-- A command's bytes. -/
def hopB (x : Hop) : List UInt8 := u8 x.kind :: u8 (x.node + x.user) :: u8 (x.delay / 256) :: u8 x.delay :: (x.id ++ List.replicate (20 - x.id.length) 0)
theorem hopB_len {x : Hop} (h : hopP x) : (hopB x).length = 24 := by
 unfold hopP at h
 simp only [hopB, List.length_cons, List.length_append, List.length_replicate]
 omega

theorem byteCells_append (a b : List UInt8) : byteCells (a ++ b) = byteCells a ++ byteCells b := by simp [byteCells]
theorem id_put {a b c d : UInt8} {id : List UInt8} : wr (byteCells (a :: b :: c :: d :: List.replicate 20 0)) 4 (byteCells id) = byteCells (a :: b :: c :: d :: (id ++ List.replicate (20 - id.length) 0)) := by
 have e : (List.replicate 20 (0 : UInt8)).drop id.length = List.replicate (20 - id.length) 0 := by rw [List.drop_replicate]
 unfold wr
 rw [byteCells_length]
 simp only [byteCells, ← List.map_take, ← List.map_drop, ← List.map_append]
 congr 1
 rw [show 4 + id.length = id.length + 4 by omega]
 show [a, b, c, d] ++ id ++ (List.replicate 20 (0 : UInt8)).drop id.length = _
 rw [e]
 simp

section
variable {B : Nat} {S R : Ents} {Q : Value → Ents → Prop}

theorem encode_no {x : Hop} (hp : ¬ hopP x) (h : Q (.tuple #[.string (str []), .int .i64 70]) S) : CallWp Tryz.prog B 86 #[.agg x.cells.toArray] Q S := by
 refine Yx (args := [_]) Tryz.func86 Tryz.ntmps86 ?_
 refine Yq ?_
 refine Yb rfl rfl rfl rfl fun L1 hBL1 hLL1 => ?_
 refine Yz 2 rfl ?_
 refine Wp.seq ?_
 refine Yq ?_
 first | refine Yl m0 ?_ | refine Yl m1 ?_ | refine Yl m2 ?_ | refine Yl m3 ?_ | refine Yl m4 ?_ | refine Yl (List.Mem.tail _ (List.Mem.tail _ (List.Mem.tail _ (List.Mem.tail _ (List.Mem.tail _ (List.Mem.head _)))))) ?_
 refine Yc rfl rfl (checkC (x := x) ?_)
 rw [hopE_no hp]
 refine Yz 1 rfl ?_
 refine Yn 2 rfl ?_
 refine Cy rfl ?_
 refine Wp.drop (S' := S) subl ?_
 refine Yn 3 rfl ?_
 refine Wp.ret ⟨trivial, _, ⟨_, _, rfl, rfl, _, _, rfl, rfl, rfl⟩, ?_⟩
 exact h
theorem encode_yes {x : Hop} (hp : hopP x) (h : Q (.tuple #[.string (str (hopB x)), .int .i64 0]) S) : CallWp Tryz.prog B 86 #[.agg x.cells.toArray] Q S := by
 have hid : x.id.length ≤ 20 := by unfold hopP at hp; omega
 have hmx : (if x.user > x.node then x.user else x.node) = x.node + x.user := by unfold hopP at hp; split <;> omega
 have e8 : (2 : Int) ^ (min 8 IntKind.i64.bits) = 256 := by decide
 have hd : x.delay.fdiv (2 ^ (min 8 IntKind.i64.bits)) = x.delay / 256 := by rw [e8]; exact Int.fdiv_eq_ediv_of_nonneg _ (by omega)
 refine Yx (args := [_]) Tryz.func86 Tryz.ntmps86 ?_
 refine Yq ?_
 refine Yb rfl rfl rfl rfl fun L1 hBL1 hLL1 => ?_
 refine Yz 2 rfl ?_
 refine Wp.seq ?_
 refine Yq ?_
 first | refine Yl m0 ?_ | refine Yl m1 ?_ | refine Yl m2 ?_ | refine Yl m3 ?_ | refine Yl m4 ?_ | refine Yl (List.Mem.tail _ (List.Mem.tail _ (List.Mem.tail _ (List.Mem.tail _ (List.Mem.tail _ (List.Mem.head _)))))) ?_
 refine Yc rfl rfl (checkC (x := x) ?_)
 rw [hopE_yes hp]
 refine Yz 1 rfl ?_
 refine Yn 2 rfl ?_
 refine Cn rfl ?_
 refine Wp.skip ?_
 refine Yq ?_
 refine Ya rfl rfl rfl rfl fun L5 hBL5 hLL5 => ?_
 refine OWp.nil ?_
 refine Wp.seq (Wp.regionDraw [0, 1, 2, 3, 4, 5, 6, 7, 8, 9, 10, 11, 12, 13, 14, 15] [11, 13, 15] rfl (by decide +kernel) ?_)
 refine DWp.evs 1 rfl ?_
 first | refine Yd m0 ?_ | refine Yd m1 ?_ | refine Yd m2 ?_ | refine Yd m3 ?_ | refine Yd m4 ?_ | refine Yd (List.Mem.tail _ (List.Mem.tail _ (List.Mem.tail _ (List.Mem.tail _ (List.Mem.tail _ (List.Mem.head _)))))) ?_
 refine DWp.evs 2 rfl ?_
 first | refine Yd m0 ?_ | refine Yd m1 ?_ | refine Yd m2 ?_ | refine Yd m3 ?_ | refine Yd m4 ?_ | refine Yd (List.Mem.tail _ (List.Mem.tail _ (List.Mem.tail _ (List.Mem.tail _ (List.Mem.tail _ (List.Mem.head _)))))) ?_
 refine DWp.evs 3 rfl ?_
 first | refine Yd m0 ?_ | refine Yd m1 ?_ | refine Yd m2 ?_ | refine Yd m3 ?_ | refine Yd m4 ?_ | refine Yd (List.Mem.tail _ (List.Mem.tail _ (List.Mem.tail _ (List.Mem.tail _ (List.Mem.tail _ (List.Mem.head _)))))) ?_
 refine DWp.evs 1 rfl ?_
 refine DWp.g rfl rfl rfl rfl (Gives.indexAddrArr (0) rfl rfl rfl rfl rfl rfl (by decide)) ?_
 refine DWp.step rfl rfl rfl (Step.storeAs 0 (byteCells (u8 x.kind :: 0 :: 0 :: 0 :: List.replicate 20 0)) rfl rfl rfl rfl rfl (by assumption) rfl (Unfz.zero _) rfl (Nat.le_of_ble_eq_true rfl) (by rw [u8_wrap]; rfl) rfl ?_)
 refine prs ?_
 refine DWp.g rfl rfl rfl rfl (Gives.indexAddrArr (2) rfl rfl rfl rfl rfl rfl (by decide)) ?_
 refine DWp.step rfl rfl rfl (Step.storeAs 0 (byteCells (u8 x.kind :: 0 :: u8 (x.delay / 256) :: 0 :: List.replicate 20 0)) rfl rfl rfl rfl rfl (by assumption) rfl (Unfz.zero _) rfl (Nat.le_of_ble_eq_true rfl) (by rw [hd, u8_wrap]; rfl) rfl ?_)
 refine prs ?_
 refine DWp.g rfl rfl rfl rfl (Gives.indexAddrArr (3) rfl rfl rfl rfl rfl rfl (by decide)) ?_
 refine DWp.stepAll rfl rfl rfl rfl (Step.storeAs 0 (byteCells (u8 x.kind :: 0 :: u8 (x.delay / 256) :: u8 x.delay :: List.replicate 20 0)) rfl rfl rfl rfl rfl (by assumption) rfl (Unfz.zero _) rfl (Nat.le_of_ble_eq_true rfl) (by rw [u8_wrap]; rfl) rfl ?_)
 refine DWp.nil ?_
 refine Yg 1 rfl ?_
 first | refine Yl m0 ?_ | refine Yl m1 ?_ | refine Yl m2 ?_ | refine Yl m3 ?_ | refine Yl m4 ?_ | refine Yl (List.Mem.tail _ (List.Mem.tail _ (List.Mem.tail _ (List.Mem.tail _ (List.Mem.tail _ (List.Mem.head _)))))) ?_
 refine Ye 1 rfl ?_
 first | refine Yl m0 ?_ | refine Yl m1 ?_ | refine Yl m2 ?_ | refine Yl m3 ?_ | refine Yl m4 ?_ | refine Yl (List.Mem.tail _ (List.Mem.tail _ (List.Mem.tail _ (List.Mem.tail _ (List.Mem.tail _ (List.Mem.head _)))))) ?_
 refine Ye 2 rfl ?_
 refine OWp.g rfl rfl (Gives.indexAddrArr (1) rfl rfl rfl rfl rfl rfl (by decide)) ?_
 refine OWp.step rfl (Step.storeAs 0 (byteCells (u8 x.kind :: u8 (x.node + x.user) :: u8 (x.delay / 256) :: u8 x.delay :: List.replicate 20 0)) rfl rfl rfl rfl rfl (by assumption) rfl (Unfz.zero _) rfl (Nat.le_of_ble_eq_true rfl) (by rw [hmx, u8_wrap]; rfl) rfl ?_)
 refine OWp.nil ?_
 refine Wp.seq (Wp.regionDraw [0, 1, 2, 3] [3] rfl (by decide +kernel) ?_)
 refine DWp.g rfl rfl rfl rfl (Gives.sliceArr (l := 4) (h' := 24) rfl rfl rfl rfl ⟨_, _, rfl, rfl⟩ rfl (by omega) (by omega) (by omega)) ?_
 refine DWp.evs 1 rfl ?_
 first | refine Yd m0 ?_ | refine Yd m1 ?_ | refine Yd m2 ?_ | refine Yd m3 ?_ | refine Yd m4 ?_ | refine Yd (List.Mem.tail _ (List.Mem.tail _ (List.Mem.tail _ (List.Mem.tail _ (List.Mem.tail _ (List.Mem.head _)))))) ?_
 refine DWp.stepAll rfl rfl rfl rfl (Step.copyStr 0 (byteCells (hopB x)) rfl rfl rfl rfl rfl rfl rfl (by assumption) (Unfz.zero _) (by show 0 + 4 * 1 + min x.id.length 20 ≤ 24; omega) (by show wr _ (0 + 4 * 1) (byteCells (x.id.take (min x.id.length 20))) = _; rw [List.take_of_length_le (by omega)]; exact id_put) rfl ?_)
 refine DWp.nil ?_
 refine Yq ?_
 refine OWp.g rfl rfl (Gives.sliceArr (l := 0) (h' := 24) rfl rfl rfl rfl rfl rfl (by omega) (by omega) (by omega)) ?_
 refine OWp.gives rfl rfl (Gives.bytesToStr (F := (L5, cel (byteCells (hopB x)) 230) :: (L1, cel x.cells 86) :: S) (l := hopB x) (k := 24) rfl rfl rfl rfl rfl (by have := Reads.row (S := (L5, cel (byteCells (hopB x)) 230) :: (L1, cel x.cells 86) :: S) (sz := 1) (k := 24) (cap := 24) (.head _) (by rw [byteCells_length, hopB_len hp]; decide); rw [List.take_of_length_le (by rw [byteCells_length, hopB_len hp]; decide)] at this; exact this)) (fun _ h => h) ?_
 refine Yz 2 rfl ?_
 refine Wp.drop (S' := S) subl ?_
 refine Wp.ret ⟨trivial, _, ⟨_, _, rfl, rfl, _, _, rfl, rfl, rfl⟩, ?_⟩
 exact h
end
end Go.Proofs.C

namespace Go.Proofs.C
open Go.Lg
set_option maxRecDepth 100000

section
variable {B : Nat} {S R : Ents} {Q : Value → Ents → Prop}

end
end Go.Proofs.C

namespace Go.Proofs.C
open Go.Lg
set_option maxRecDepth 100000

/-- Commands that go on, and a last one that doesn't. -/
def shape : List Hop → Prop
 | [] => False
 | [x] => x.kind ≠ 1
 | x :: y :: r => x.kind = 1 ∧ shape (y :: r)
instance shapeDec : (l : List Hop) → Decidable (shape l)
 | [] => by unfold shape; infer_instance
 | [x] => by unfold shape; infer_instance
 | x :: y :: r => by have := shapeDec (y :: r); unfold shape; infer_instance
theorem shape_iff : ∀ (l : List Hop), shape l ↔ 0 < l.length ∧ ∀ i (h : i < l.length), (l[i].kind = 1 ↔ i < l.length - 1)
 | [] => by simp [shape]
 | [x] => by simp [shape]
 | x :: y :: r => by
  have ih := shape_iff (y :: r)
  simp only [shape]
  constructor
  ·rintro ⟨hx, hs⟩
   refine ⟨by simp, fun i h => ?_⟩
   cases i with
   | zero => simp [hx]
   | succ i =>
    have := (ih.1 hs).2 i (by simpa using h)
    simp only [List.getElem_cons_succ, List.length_cons] at this ⊢
    rw [this]; omega
  ·rintro ⟨_, hs⟩
   refine ⟨by have := hs 0 (by simp); simpa using this, ih.2 ⟨by simp, fun i h => ?_⟩⟩
   have := hs (i + 1) (by simpa using h)
   simp only [List.getElem_cons_succ, List.length_cons] at this ⊢
   rw [this]; omega

def pathE (l : List Hop) : Int := if ∀ x ∈ l, hopP x then (if shape l ∧ l.length ≤ 5 then 0 else 4) else 70
theorem pathE_bad {l : List Hop} {x : Hop} (h : x ∈ l) (hx : ¬ hopP x) : pathE l = 70 := if_neg fun e => hx (e x h)
theorem pathE_good {l : List Hop} (h : ∀ x ∈ l, hopP x) : pathE l = if shape l ∧ l.length ≤ 5 then 0 else 4 := if_pos h

theorem hop_flat (l : List Hop) : ∀ x ∈ l, (Hop.cells x).length = 5 := fun _ _ => rfl

section
variable {B : Nat} {S R : Ents} {Q : Value → Ents → Prop}

theorem path1C {x : Hop} (h : Q (.bool (decide (¬ hopP x))) S) : CallWp Tryz.prog B 132 #[.agg x.cells.toArray] Q S := by
 refine Yx (args := [_]) Tryz.func132 Tryz.ntmps132 ?_
 refine Yq ?_
 refine Yb rfl rfl rfl rfl fun L1 hBL1 hLL1 => ?_
 refine Yz 1 rfl ?_
 refine Yq ?_
 first | refine Yl m0 ?_ | refine Yl m1 ?_ | refine Yl m2 ?_ | refine Yl m3 ?_ | refine Yl m4 ?_ | refine Yl (List.Mem.tail _ (List.Mem.tail _ (List.Mem.tail _ (List.Mem.tail _ (List.Mem.tail _ (List.Mem.head _)))))) ?_
 refine Yc rfl rfl (checkC (x := x) ?_)
 by_cases hp : hopP x
 ·skip
  rw [hopE_yes hp]
  rw [decide_eq_false (by simpa using hp)] at h
  refine Yz 2 rfl ?_
  refine Wp.drop (S' := S) subl ?_
  refine Wp.ret ⟨trivial, _, ⟨_, _, rfl, rfl, rfl⟩, ?_⟩
  exact h
 rw [hopE_no hp]
 rw [decide_eq_true hp] at h
 refine Yz 2 rfl ?_
 refine Wp.drop (S' := S) subl ?_
 refine Wp.ret ⟨trivial, _, ⟨_, _, rfl, rfl, rfl⟩, ?_⟩
 exact h
theorem path2C {x : Hop} (h : Q (.bool (decide (x.kind ≠ 1))) S) : CallWp Tryz.prog B 135 #[.agg x.cells.toArray] Q S := by
 refine Yx (args := [_]) Tryz.func135 Tryz.ntmps135 ?_
 refine Yq ?_
 refine Yb rfl rfl rfl rfl fun L1 hBL1 hLL1 => ?_
 refine Yz 1 rfl ?_
 refine Yg 1 rfl ?_
 first | refine Yl m0 ?_ | refine Yl m1 ?_ | refine Yl m2 ?_ | refine Yl m3 ?_ | refine Yl m4 ?_ | refine Yl (List.Mem.tail _ (List.Mem.tail _ (List.Mem.tail _ (List.Mem.tail _ (List.Mem.tail _ (List.Mem.head _)))))) ?_
 refine Yz 2 rfl ?_
 refine Wp.drop (S' := S) subl ?_
 refine Wp.ret ⟨trivial, _, ⟨_, _, rfl, rfl, rfl⟩, ?_⟩
 rw [decide_not] at h
 exact h
theorem hopIndex {v : Value} {n : Nat} {l : List Hop} {g : FuncId} {f : Hop → Bool} (hc : callable Tryz.prog g = true) (hl : Reads S 5 v n (l.flatMap Hop.cells)) (hn : l.length = n) (hm : n ≤ lim)
  (hf : ∀ x ∈ l, ∀ Q' : Value → Ents → Prop, Q' (.bool (f x)) S → CallWp Tryz.prog B g #[.agg x.cells.toArray] Q' S)
  (h0 : (∀ x ∈ l, f x = false) → Q (.int .i64 (-1)) S)
  (h1 : ∀ j (hj : j < l.length), (∀ i (hi : i < j), f l[i] = false) → f l[j] = true → Q (.int .i64 (j : Int)) S) :
  CallWp Tryz.prog B 134 #[v, .func (.func g) #[] #[]] Q S := by
 obtain ⟨aa, ac, rfl⟩ := hl.form
 subst hn
 unfold lim at hm
 refine Yx (args := [_, _]) Tryz.func134 Tryz.ntmps134 ?_
 refine Yn 1 rfl ?_
 refine Wp.seq ?_
 refine Yn 3 rfl ?_
 refine Wp.block ?_
 refine Wp.loopS (α := Nat) (fun i => l.length - i) (fun i => [(8, .int .i64 (i : Int)), (7, .int .i64 (l.length : Int)), (0, .slice aa l.length ac), (1, .func (.func g) #[] #[])]) (fun _ => S) (fun i => i ≤ l.length ∧ ∀ k (hk : k < l.length), k < i → f l[k] = false) 0 ?_ (.refl _) ⟨Nat.zero_le _, fun _ _ h => by omega⟩ ?_
 ·exact .cons rfl (.cons rfl (.cons rfl (.cons rfl (.nil _))))
 rintro i ⟨hi, he⟩
 refine Yn 1 rfl ?_
 refine Wp.seq ?_
 refine Wp.cond rfl (fun h2 => ?_) (fun h2 => ?_)
 ·have h2 := of_decide_eq_true h2
  have hlt : i < l.length := by omega
  obtain ⟨b, o, cap', l', e, fz, hv, hm', hat⟩ := hl.elem (sz := 5) (hop_flat l) (by omega)
  cases hv
  refine Wp.skip ?_
  refine Wp.seq ?_
  refine Wp.block ?_
  refine Yn 2 rfl ?_
  refine Yg 3 rfl ?_
  refine OWp.g rfl rfl (Gives.indexAddrSlice (i) rfl rfl rfl rfl rfl rfl (by omega)) ?_
  refine OWp.load (hm') rfl rfl rfl rfl (partAt_agg (hat i hlt) rfl rfl rfl) ?_
  refine OWp.step rfl (Step.call rfl rfl rfl rfl rfl hc (hf l[i] (List.getElem_mem hlt) _ ?_))
  generalize hb : f l[i] = b
  cases b
  ·skip
   refine OWp.nil ?_
   refine Cn rfl ?_
   refine Wp.skip ?_
   refine Wp.region ?_
   refine Yz 2 rfl ?_
   refine ⟨i + 1, by omega, ⟨by omega, fun k hk hki => ?_⟩, ?_, .refl _⟩
   ·by_cases e : k = i
    ·subst e; exact hb
    ·exact he k hk (by omega)
   ·exact .cons' rfl (int_eq (by rw [i64_id] <;> omega)) (.cons rfl (.cons rfl (.cons rfl (.nil _))))
  refine OWp.nil ?_
  refine Cy rfl ?_
  refine Yn 2 rfl ?_
  refine Wp.ret ⟨trivial, _, ⟨_, _, rfl, rfl, rfl⟩, ?_⟩
  exact h1 i hlt (fun k hk => he k (by omega) hk) hb
 have h2 := of_decide_eq_false h2
 refine Wp.exit ?_
 refine Yn 1 rfl ?_
 refine Wp.ret ⟨trivial, _, ⟨_, _, rfl, rfl, rfl⟩, ?_⟩
 refine h0 fun x hx => ?_
 obtain ⟨k, hk, rfl⟩ := List.mem_iff_getElem.1 hx
 exact he k hk (by omega)
theorem hopContains {v : Value} {n : Nat} {l : List Hop} {g : FuncId} {f : Hop → Bool} (hc : callable Tryz.prog g = true) (hl : Reads S 5 v n (l.flatMap Hop.cells)) (hn : l.length = n) (hm : n ≤ lim)
  (hf : ∀ x ∈ l, ∀ (Q' : Value → Ents → Prop), Q' (.bool (f x)) S → CallWp Tryz.prog B g #[.agg x.cells.toArray] Q' S) (h : Q (.bool (l.any f)) S) :
  CallWp Tryz.prog B 131 #[v, .func (.func g) #[] #[]] Q S := by
 refine Yx (args := [_, _]) Tryz.func131 Tryz.ntmps131 ?_
 refine Yn 1 rfl ?_
 refine Yg 2 rfl ?_
 refine Yc rfl rfl (hopIndex hc hl hn hm hf ?_ ?_)
 intro h0
 ·skip
  refine Yz 2 rfl ?_
  refine Wp.ret ⟨trivial, _, ⟨_, _, rfl, rfl, rfl⟩, ?_⟩
  rw [show l.any f = false from List.any_eq_false.2 fun x hx => by simp [h0 x hx]] at h
  exact h
 intro j hj _ hj1
 refine Yz 2 rfl ?_
 refine Wp.ret ⟨trivial, _, ⟨_, _, rfl, rfl, rfl⟩, ?_⟩
 rw [show l.any f = true from List.any_eq_true.2 ⟨l[j], List.getElem_mem hj, hj1⟩] at h
 rw [decide_eq_true (by omega)]
 exact h
theorem pathC {v : Value} {n : Nat} {l : List Hop} (hl : Reads S 5 v n (l.flatMap Hop.cells)) (hn : l.length = n) (hm : n ≤ lim) (h : Q (.int .i64 (pathE l)) S) : CallWp Tryz.prog B 83 #[v] Q S := by
 obtain ⟨aa, ac, rfl⟩ := hl.form
 have hm' := hm
 unfold lim at hm'
 refine Yx (args := [_]) Tryz.func83 Tryz.ntmps83 ?_
 refine Yn 1 rfl ?_
 refine Wp.seq ?_
 refine Yg 1 rfl ?_
 refine Yc rfl rfl (hopContains (f := fun x => decide (¬ hopP x)) rfl hl hn hm (fun x _ Q' hq => path1C hq) ?_)
 generalize hb : l.any (fun x => decide (¬ hopP x)) = b
 cases b
 ·skip
  refine OWp.nil ?_
  refine Cn rfl ?_
  have hg : ∀ x ∈ l, hopP x := fun x hx => by
   have := List.any_eq_false.1 hb x hx
   simpa using this
  rw [pathE_good hg] at h
  refine Wp.skip ?_
  refine Yg 1 rfl ?_
  refine Yc rfl rfl (hopIndex (f := fun x => decide (x.kind ≠ 1)) rfl hl hn hm (fun x _ Q' hq => path2C hq) ?_ ?_)
  intro h0
  ·skip
   refine Yz 1 rfl ?_
   refine Wp.seq ?_
   refine Yg 3 rfl ?_
   refine Yz 11 rfl ?_
   refine Cy rfl ?_
   refine Yn 1 rfl ?_
   refine Wp.ret ⟨trivial, _, ⟨_, _, rfl, rfl, rfl⟩, ?_⟩
   have hs : ¬ shape l := fun hs => by
    obtain ⟨hp, hs⟩ := (shape_iff l).1 hs
    have := hs (l.length - 1) (by omega)
    have h2 := h0 l[l.length - 1] (List.getElem_mem _)
    have h2 : l[l.length - 1].kind = 1 := by simpa using h2
    omega
   rw [if_neg (fun e => hs e.1)] at h
   exact h
  intro j hj hj0 hj1
  refine Yz 1 rfl ?_
  refine Wp.seq ?_
  refine Yg 3 rfl ?_
  refine Dt 10 rfl (by omega) fun cc1 => ?_
  refine Ye 7 rfl ?_
  refine OWp.part 17 rfl (fun e1 => ?_) (fun e1 => ?_)
  ·have e1 := ndT e1
   refine Yz 4 rfl ?_
   refine Cy rfl ?_
   refine Yn 1 rfl ?_
   refine Wp.ret ⟨trivial, _, ⟨_, _, rfl, rfl, rfl⟩, ?_⟩
   rw [i64_id (by omega) (by omega)] at e1
   rw [if_neg (fun e => by
    obtain ⟨hp, hs⟩ := (shape_iff l).1 e.1
    have h2 : l[j].kind ≠ 1 := by simpa using hj1
    have := hs j hj
    omega)] at h
   exact h
  have e1 := ndF e1
  rw [i64_id (by omega) (by omega)] at e1
  have hs : shape l := (shape_iff l).2 ⟨by omega, fun i hi => by
   by_cases e : i = j
   ·subst e
    have h2 : l[i].kind ≠ 1 := by simpa using hj1
    constructor
    ·intro h; exact absurd h h2
    ·intro h; omega
   ·have h2 := hj0 i (by omega)
    have h2 : l[i].kind = 1 := by simpa using h2
    constructor
    ·intro _; omega
    ·intro _; exact h2⟩
  refine Yz 4 rfl ?_
  refine Wp.cond rfl (fun e2 => ?_) (fun e2 => ?_)
  ·have e2 := of_decide_eq_true e2
   refine Yn 1 rfl ?_
   refine Wp.ret ⟨trivial, _, ⟨_, _, rfl, rfl, rfl⟩, ?_⟩
   rw [if_neg (fun e => by omega)] at h
   exact h
  have e2 := of_decide_eq_false e2
  refine Wp.skip ?_
  refine Yn 1 rfl ?_
  refine Wp.ret ⟨trivial, _, ⟨_, _, rfl, rfl, rfl⟩, ?_⟩
  rw [if_pos ⟨hs, by omega⟩] at h
  exact h
 refine OWp.nil ?_
 refine Cy rfl ?_
 refine Yn 1 rfl ?_
 refine Wp.ret ⟨trivial, _, ⟨_, _, rfl, rfl, rfl⟩, ?_⟩
 obtain ⟨x, hx, hx2⟩ := List.any_eq_true.1 hb
 rw [pathE_bad hx (of_decide_eq_true hx2)] at h
 exact h
end
end Go.Proofs.C
