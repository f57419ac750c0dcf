/- What functions of the given program do, one after the other, told by that layer. -/
import Derived.Test.YtkjaehdfmmcgmaaGreatDoorMM8xb43d
import Derived.Test.YtkjaehdfmmcgmaaGreatDoorLgM2x52c3
import Derived.Test.YtkjaehdfmmcgmaaGreatDoorMM5x7e77
import Derived.Test.YtkjaehdfmmcgmaaGreatDoorMM4x9f86
import Derived.Test.YtkjaehdfmmcgmaaGreatDoorEHead
namespace Go.Proofs.C
open Go.Lg
set_option maxRecDepth 100000

def Hop.zero : Hop := ⟨0, 0, 0, 0, []⟩
/-- Bytes read as a command: with delays of all kinds (all), or of those alone that have one. -/
def parse (all : Bool) : List UInt8 → Hop
 | a :: b :: c :: d :: r =>
  if a.toNat = 1 then ⟨1, b.toNat, 0, ((c.toNat * 256 + d.toNat : Nat) : Int), []⟩
  else if a.toNat = 2 then ⟨2, 0, b.toNat, ((c.toNat * 256 + d.toNat : Nat) : Int), r.take 16⟩
  else if a.toNat = 3 then ⟨3, 0, 0, if all then ((c.toNat * 256 + d.toNat : Nat) : Int) else 0, r.take 16⟩
  else ⟨a.toNat, 0, 0, if all then ((c.toNat * 256 + d.toNat : Nat) : Int) else 0, []⟩
 | _ => Hop.zero

theorem u8_toNat {z : Int} (h0 : 0 ≤ z) (h1 : z < 256) : (u8 z).toNat = z.toNat := by
 have := u8_nat h0 h1; omega
theorem u8_delay {z : Int} (h0 : 0 ≤ z) (h1 : z ≤ 4096) : (((u8 (z / 256)).toNat * 256 + (u8 z).toNat : Nat) : Int) = z := by
 have e1 := u8_nat (z := z / 256) (by omega) (by omega)
 have e2 := u8_nat (z := z % 256) (by omega) (by omega)
 rw [u8_mod] at e2
 omega

/-- What is written is read as it was. -/
theorem parse_hopB {x : Hop} (hp : hopP x) (all : Bool) : parse all (hopB x) = x := by
 unfold hopP at hp
 obtain ⟨k, n, u, dl, id⟩ := x
 simp only at hp
 unfold hopB parse
 simp only
 rcases hp with ⟨rfl, h1, h2, h3, h4, rfl, h5⟩ | ⟨rfl, h1, h2, h3, h4, rfl, h5⟩ | ⟨rfl, h1, rfl, rfl, rfl⟩ | ⟨rfl, rfl, rfl, rfl, h5⟩
 ·rw [u8_toNat (z := 1) (by omega) (by omega), if_pos (by decide), u8_delay h3 h4]
  refine Hop.ext rfl ?_ rfl rfl (nil_len.2 h5).symm
  show ((u8 (n + 0)).toNat : Int) = n
  rw [Int.add_zero, u8_nat h1 (by omega)]
 ·rw [u8_toNat (z := 2) (by omega) (by omega), if_neg (by decide), if_pos (by decide), u8_delay h3 h4]
  refine Hop.ext rfl rfl ?_ rfl ?_
  ·show ((u8 (0 + u)).toNat : Int) = u
   rw [Int.zero_add, u8_nat h1 (by omega)]
  ·show (id ++ _).take 16 = id
   rw [List.take_append_of_le_length (by omega), List.take_of_length_le (by omega)]
 ·rw [u8_toNat (z := 3) (by omega) (by omega), if_neg (by decide), if_neg (by decide), if_pos (by decide)]
  refine Hop.ext rfl rfl rfl ?_ ?_
  ·cases all
   ·rfl
   ·exact u8_delay (z := 0) (by omega) (by omega)
  ·show (id ++ _).take 16 = id
   rw [List.take_append_of_le_length (by omega), List.take_of_length_le (by omega)]
 ·rw [u8_toNat (z := 4) (by omega) (by omega), if_neg (by decide), if_neg (by decide), if_neg (by decide)]
  refine Hop.ext rfl rfl rfl ?_ (nil_len.2 h5).symm
  cases all
  ·rfl
  ·exact u8_delay (z := 0) (by omega) (by omega)

theorem len24 {l : List UInt8} (h : l.length = 24) : ∃ a b c d r, l = a :: b :: c :: d :: r ∧ r.length = 20 := by
 match l, h with
 | a :: b :: c :: d :: r, h => exact ⟨a, b, c, d, r, rfl, by simpa using h⟩

theorem wrap_u8i (a : UInt8) : IntKind.i64.wrap (a.toNat : Int) = (a.toNat : Int) := by have := a.toNat_lt; rw [i64_id] <;> omega
theorem or2 (c d : UInt8) : bits .or .i64 (IntKind.i64.wrap (IntKind.i64.wrap (c.toNat : Int) * 2 ^ (min 8 IntKind.i64.bits))) (IntKind.i64.wrap (d.toNat : Int)) = ((c.toNat * 256 + d.toNat : Nat) : Int) := by
 have := c.toNat_lt; have := d.toNat_lt
 have e3 : (2 : Int) ^ (min 8 IntKind.i64.bits) = 256 := by decide
 rw [e3, wrap_u8i, wrap_u8i, i64_id (by omega) (by omega)]
 rw [bits_join .i64 63 (by decide) wraps_i64 8 (c.toNat * 256 : Int) d.toNat (by omega) (by omega) (by omega) (by omega) (by omega) (by omega)]
 omega
section
variable {B : Nat} {S R : Ents} {Q : Value → Ents → Prop}

/-- What both read: the command whose bytes these are, or none. -/
def decQ (Q : Value → Ents → Prop) (S : Ents) (b : List UInt8) : Prop :=
 (∀ x, hopP x → hopB x = b → Q (.tuple #[.agg x.cells.toArray, .int .i64 0]) S) ∧ ((∀ x, hopP x → hopB x ≠ b) → Q (.tuple #[.agg Hop.zero.cells.toArray, .int .i64 70]) S)

theorem decodeC {b : List UInt8} (hb : b.length = 24) (h : decQ Q S b) : CallWp Tryz.prog B 74 #[.string (str b)] Q S := by
 obtain ⟨hyes, hno⟩ := h
 obtain ⟨b0, b1, b2, b3, r, rfl, hr⟩ := len24 hb
 have hp := fun x (hx : hopP x) (e : hopB x = b0 :: b1 :: b2 :: b3 :: r) => (by rw [← e]; exact parse_hopB hx true : parse true (b0 :: b1 :: b2 :: b3 :: r) = x)
 have hb0 := b0.toNat_lt
 refine CallWp.dropRet ?_
 refine Yx (args := [_]) Tryz.func74 Tryz.ntmps74 ?_
 refine Yq ?_
 refine Ya rfl rfl rfl rfl fun L2 hBL2 hLL2 => ?_
 refine Yz 1 rfl ?_
 refine Wp.seq ?_
 refine Yn 3 rfl ?_
 refine Cu rfl (by rw [hb]; decide) fun cc1 => ?_
 refine Wp.skip ?_
 refine Wp.seq (Wp.regionDraw [0, 1, 2, 3, 4, 5, 6, 7, 8, 9, 10, 11, 12, 13] [12, 13] rfl (by decide +kernel) ?_)
 refine DWp.evs 1 rfl ?_
 refine DWp.g rfl rfl rfl rfl (Gives.indexStr (b := b0) rfl rfl rfl rfl (by decide) rfl) ?_
 refine DWp.evs 2 rfl ?_
 refine DWp.g rfl rfl rfl rfl (Gives.indexStr (b := b2) rfl rfl rfl rfl (by decide) rfl) ?_
 refine DWp.evs 3 rfl ?_
 refine DWp.g rfl rfl rfl rfl (Gives.indexStr (b := b3) rfl rfl rfl rfl (by decide) rfl) ?_
 refine DWp.evs 2 rfl ?_
 refine DWp.g rfl rfl rfl rfl (Gives.build rfl rfl) ?_
 refine DWp.stepGrow rfl rfl rfl (Step.alloc rfl rfl rfl ?_); intro L4 hBL4 hLL4; refine ⟨fun _ hy => .tail _ hy, ?_⟩
 refine DWp.stepAll rfl rfl rfl rfl (Step.storeAs 0 (Hop.cells ⟨b0.toNat, 0, 0, ((b2.toNat * 256 + b3.toNat : Nat) : Int), []⟩) rfl rfl rfl rfl rfl (by assumption) rfl (Unfz.zero _) rfl (Nat.le_of_ble_eq_true rfl) (by rw [or2, wrap_u8i]; rfl) rfl ?_)
 refine DWp.nil ?_
 refine Wp.seqS (α := Hop) (fun _ => [(0, .string (str (b0 :: b1 :: b2 :: b3 :: r))), (2, pt L2), (4, pt L4)]) (fun x => (L4, cel x.cells 86) :: (L2, cel Hop.zero.cells 86) :: S) (fun x => x = parse true (b0 :: b1 :: b2 :: b3 :: r)) ?_ ?_
 ·skip
  refine Yg 1 rfl ?_
  first | refine Yl m0 ?_ | refine Yl m1 ?_ | refine Yl m2 ?_ | refine Yl m3 ?_ | refine Yl m4 ?_ | refine Yl (List.Mem.tail _ (List.Mem.tail _ (List.Mem.tail _ (List.Mem.tail _ (List.Mem.tail _ (List.Mem.head _)))))) ?_
  refine OWp.nil ?_
  refine Wp.block ?_
  refine Yn 2 rfl ?_
  refine Wp.cond rfl (fun k1 => ?_) (fun k1 => ?_)
  ·have k1 := of_decide_eq_true k1
   have k1 : (b0.toNat : Int) = 1 := k1
   refine Wp.region ?_
   refine Ye 1 rfl ?_
   refine OWp.g rfl rfl (Gives.indexStr (b := b1) rfl rfl rfl rfl (by decide) rfl) ?_
   refine Ye 2 rfl ?_
   refine OWp.step rfl (Step.storeAs 0 (Hop.cells ⟨b0.toNat, b1.toNat, 0, ((b2.toNat * 256 + b3.toNat : Nat) : Int), []⟩) rfl rfl rfl rfl rfl (by assumption) rfl (Unfz.zero _) rfl (Nat.le_of_ble_eq_true rfl) (by rw [wrap_u8i]; rfl) rfl ?_)
   refine OWp.nil ?_
   refine ⟨⟨b0.toNat, b1.toNat, 0, ((b2.toNat * 256 + b3.toNat : Nat) : Int), []⟩, ?_, .cons rfl (.cons rfl (.cons rfl (.nil _))), .refl _⟩
   show _ = (if b0.toNat = 1 then _ else _); rw [if_pos (by omega), k1]
  have k1 := of_decide_eq_false k1
  have k1 : ¬ (b0.toNat : Int) = 1 := k1
  refine Yn 2 rfl ?_
  refine Wp.cond rfl (fun k2 => ?_) (fun k2 => ?_)
  ·have k2 := of_decide_eq_true k2
   have k2 : (b0.toNat : Int) = 2 := k2
   refine Wp.regionDraw [0, 1, 2, 3, 4, 5, 6, 7, 8] [6, 8] rfl (by decide +kernel) ?_
   refine DWp.evs 1 rfl ?_
   refine DWp.g rfl rfl rfl rfl (Gives.indexStr (b := b1) rfl rfl rfl rfl (by decide) rfl) ?_
   refine DWp.evs 2 rfl ?_
   refine DWp.g rfl rfl rfl rfl (Gives.sliceStr (l := 4) (h' := 20) rfl rfl rfl ⟨_, _, rfl, rfl⟩ ⟨_, _, rfl, rfl⟩ (by decide) (by rw [hb]; decide)) ?_
   refine DWp.evs 1 rfl ?_
   refine DWp.stepAll rfl rfl rfl rfl (Step.storeAs 0 (Hop.cells ⟨b0.toNat, 0, b1.toNat, ((b2.toNat * 256 + b3.toNat : Nat) : Int), []⟩) rfl rfl rfl rfl rfl (by assumption) rfl (Unfz.zero _) rfl (Nat.le_of_ble_eq_true rfl) (by rw [wrap_u8i]; rfl) rfl ?_)
   refine DWp.evs 1 rfl ?_
   refine DWp.stepAll rfl rfl rfl rfl (Step.storeAs 0 (Hop.cells ⟨b0.toNat, 0, b1.toNat, ((b2.toNat * 256 + b3.toNat : Nat) : Int), r.take 16⟩) rfl rfl rfl rfl rfl (by assumption) rfl (Unfz.zero _) rfl (Nat.le_of_ble_eq_true rfl) rfl rfl ?_)
   refine DWp.nil ?_
   refine ⟨⟨b0.toNat, 0, b1.toNat, ((b2.toNat * 256 + b3.toNat : Nat) : Int), r.take 16⟩, ?_, .cons rfl (.cons rfl (.cons rfl (.nil _))), .refl _⟩
   show _ = (if b0.toNat = 1 then _ else _); rw [if_neg (by omega), if_pos (by omega), k2]
  have k2 := of_decide_eq_false k2
  have k2 : ¬ (b0.toNat : Int) = 2 := k2
  refine Yn 2 rfl ?_
  refine Wp.cond rfl (fun k3 => ?_) (fun k3 => ?_)
  ·have k3 := of_decide_eq_true k3
   have k3 : (b0.toNat : Int) = 3 := k3
   refine Wp.region ?_
   refine Ye 1 rfl ?_
   refine OWp.g rfl rfl (Gives.sliceStr (l := 4) (h' := 20) rfl rfl rfl ⟨_, _, rfl, rfl⟩ ⟨_, _, rfl, rfl⟩ (by decide) (by rw [hb]; decide)) ?_
   refine Ye 1 rfl ?_
   refine OWp.step rfl (Step.storeAs 0 (Hop.cells ⟨b0.toNat, 0, 0, ((b2.toNat * 256 + b3.toNat : Nat) : Int), r.take 16⟩) rfl rfl rfl rfl rfl (by assumption) rfl (Unfz.zero _) rfl (Nat.le_of_ble_eq_true rfl) rfl rfl ?_)
   refine OWp.nil ?_
   refine ⟨⟨b0.toNat, 0, 0, ((b2.toNat * 256 + b3.toNat : Nat) : Int), r.take 16⟩, ?_, .cons rfl (.cons rfl (.cons rfl (.nil _))), .refl _⟩
   show _ = (if b0.toNat = 1 then _ else _); rw [if_neg (by omega), if_neg (by omega), if_pos (by omega), k3]; rfl
  have k3 := of_decide_eq_false k3
  have k3 : ¬ (b0.toNat : Int) = 3 := k3
  refine Wp.skip ?_
  refine ⟨⟨b0.toNat, 0, 0, ((b2.toNat * 256 + b3.toNat : Nat) : Int), []⟩, ?_, .cons rfl (.cons rfl (.cons rfl (.nil _))), .refl _⟩
  show _ = (if b0.toNat = 1 then _ else _); rw [if_neg (by omega), if_neg (by omega), if_neg (by omega)]; rfl
 rintro x hx
 refine Wp.seq ?_
 refine Yq ?_
 refine OWp.load (.head _) rfl rfl rfl rfl (partAt_agg (n := 5) (r := x.cells) rfl rfl rfl rfl) ?_
 by_cases hok : hopP x
 ·skip
  refine Yc rfl rfl (encode_yes hok ?_)
  refine Yz 5 rfl ?_
  refine Yg 3 rfl ?_
  refine Yz 4 rfl ?_
  refine Wp.cond rfl (fun e1 => ?_) (fun e1 => ?_)
  ·have e1 := ndT e1
   refine Yq ?_
   refine OWp.g rfl rfl (Gives.build rfl rfl) ?_
   refine OWp.step rfl (Step.store 1 rfl rfl rfl rfl rfl (by assumption) rfl (Nat.le_of_ble_eq_true rfl) (Unfz.zero _) rfl rfl ?_)
   refine Yz 1 rfl ?_
   refine Wp.ret ⟨trivial, _, ⟨_, _, _, _, rfl, rfl, ⟨_, _, _, mems, (by first | assumption | rfl)⟩, ⟨_, _, rfl, rfl, rfl⟩⟩, ?_⟩
   refine ⟨S, subl, hno fun y hy e => e1 ?_⟩
   rw [hx, hp y hy e]; exact e
  have e1 := ndF e1
  refine Wp.skip ?_
  refine Yq ?_
  refine OWp.load (.head _) rfl rfl rfl rfl (partAt_agg (n := 5) (r := x.cells) rfl rfl rfl rfl) ?_
  refine OWp.step rfl (Step.store 1 rfl rfl rfl rfl rfl (by assumption) rfl (Nat.le_of_ble_eq_true rfl) (Unfz.zero _) rfl rfl ?_)
  refine Yz 1 rfl ?_
  refine Wp.ret ⟨trivial, _, ⟨_, _, _, _, rfl, rfl, ⟨_, _, _, mems, (by first | assumption | rfl)⟩, ⟨_, _, rfl, rfl, rfl⟩⟩, ?_⟩
  exact ⟨S, subl, hyes x hok e1⟩
 refine Yc rfl rfl (encode_no hok ?_)
 refine Yz 5 rfl ?_
 refine Yg 3 rfl ?_
 refine Yz 4 rfl ?_
 refine Cy rfl ?_
 refine Yq ?_
 refine OWp.g rfl rfl (Gives.build rfl rfl) ?_
 refine OWp.step rfl (Step.store 1 rfl rfl rfl rfl rfl (by assumption) rfl (Nat.le_of_ble_eq_true rfl) (Unfz.zero _) rfl rfl ?_)
 refine Yz 1 rfl ?_
 refine Wp.ret ⟨trivial, _, ⟨_, _, _, _, rfl, rfl, ⟨_, _, _, mems, (by first | assumption | rfl)⟩, ⟨_, _, rfl, rfl, rfl⟩⟩, ?_⟩
 refine ⟨S, subl, hno fun y hy e => hok ?_⟩
 rw [hx, hp y hy e]; exact hy
end
end Go.Proofs.C

namespace Go.Proofs.C
open Go.Lg
set_option maxRecDepth 100000

end Go.Proofs.C

namespace Go.Proofs.C
open Go.Lg
set_option maxRecDepth 100000

theorem _root_.Go.Lg.Reads.take {S : Ents} {sz n m cap cap' b o : Nat} {xs : List Value} (h : Reads S sz (.slice (some ⟨b, o, none⟩) n cap) n xs) (hm : m ≤ n) (h0 : 0 < n) :
  Reads S sz (.slice (some ⟨b, o, none⟩) m cap') m (xs.take (m * sz)) := by
 obtain ⟨hl, ⟨_, hk⟩ | ⟨b', o', cap2, l, e, fz, hv, hmm, hle, hx⟩⟩ := h
 ·omega
 ·cases hv
  have h1 : m * sz ≤ n * sz := Nat.mul_le_mul_right _ hm
  refine ⟨by rw [List.length_take]; omega, .inr ⟨b, o, cap', l, e, fz, rfl, hmm, by omega, ?_⟩⟩
  rw [← hx, List.take_take, Nat.min_eq_left h1]

def encB (x : Hop) : List UInt8 := if hopP x then hopB x else []

section
variable {B : Nat} {S R : Ents} {Q : Value → Ents → Prop}

theorem encodeC {x : Hop} (h : Q (.tuple #[.string (str (encB x)), .int .i64 (hopE x)]) S) : CallWp Tryz.prog B 86 #[.agg x.cells.toArray] Q S := by
 unfold encB hopE at h
 by_cases hp : hopP x
 ·rw [if_pos hp, if_pos hp] at h; exact encode_yes hp h
 ·rw [if_neg hp, if_neg hp] at h; exact encode_no hp h
end
end Go.Proofs.C

namespace Go.Proofs.D
open Go.Lg Go.Sha Go.Hd
set_option maxRecDepth 100000
/-- The cells of keys. -/
def _root_.Go.Hd.HK.cells (k : HK) : List Value := [.string (str k.flow), .string (str k.mac), .string (str k.body), .string (str k.blind), .string (str k.tag)]
/-- The cells of a hop: its secret, its keys. -/
def hopC (s : List UInt8) (k : HK) : List Value := .string (str s) :: k.cells
attribute [local irreducible] derive hmac stream
section
variable {B : Nat} {S R : Ents} {Q : Value → Ents → Prop}
theorem hkeyC {s label : List UInt8} {n : Nat} (hk : KsIn S) (hn : n ≤ 8160) (h1 : s.length + 1000 ≤ big) (h2 : label.length + 2000 ≤ big) (H : Q (.string (str (derive s label n))) S) : CallWp Tryz.prog B 85 #[.agg #[.string (str s)], .string (str label), .int .i64 (n : Int)] Q S := by
 refine Yx (args := [_, _, _]) Tryz.func85 Tryz.ntmps85 ?_
 refine Yq ?_
 refine Yb rfl rfl rfl rfl fun L hBL hLL => ?_
 refine Yz 1 rfl ?_
 refine Yg 1 rfl ?_
 first | refine Yl m0 ?_ | refine Yl m1 ?_ | refine Yl m2 ?_ | refine Yl m3 ?_ | refine Yl m4 ?_ | refine Yl (List.Mem.tail _ (List.Mem.tail _ (List.Mem.tail _ (List.Mem.tail _ (List.Mem.tail _ (List.Mem.head _)))))) ?_
 refine Ye 2 rfl ?_
 refine Yc rfl rfl (deriveC hk.cons hn h1 h2 ?_)
 refine Yz 5 rfl ?_
 refine Wp.dropAt 0 rfl ?_
 refine Yn 2 rfl ?_
 refine Wp.ret ⟨trivial, _, ⟨_, _, rfl, rfl, rfl⟩, ?_⟩
 exact H
theorem hzerosC {n : Nat} (hn : n ≤ 2147483648) (H : Q (.string (str (List.replicate n 0))) S) : CallWp Tryz.prog B 73 #[.int .i64 (n : Int)] Q S := by
 refine Yx (args := [_]) Tryz.func73 Tryz.ntmps73 ?_
 refine Yn 1 rfl ?_
 refine Yg 1 rfl ?_
 refine Yc rfl rfl (zerosC hn ?_)
 refine Yz 1 rfl ?_
 refine Wp.ret ⟨trivial, _, ⟨_, _, rfl, rfl, rfl⟩, ?_⟩
 exact H
theorem xor_self (n : Nat) (h : n < 9223372036854775808) : bits .xor .i64 (n : Int) (n : Int) = 0 := by
 rw [i63_xor h h, Nat.xor_self]; rfl
theorem or_zero_iff (u : Nat) (a b : UInt8) : (u ||| (a ^^^ b).toNat) = 0 ↔ u = 0 ∧ a = b := by
 rw [Nat.or_eq_zero_iff]
 refine and_congr_right fun _ => ?_
 rw [show (0 : Nat) = (0 : UInt8).toNat from rfl, UInt8.toNat_inj, UInt8.xor_eq_zero_iff]
theorem or_byte_lt (u : Nat) (a : UInt8) (h : u < 256) : u ||| a.toNat < 256 := Nat.or_lt_two_pow (n := 8) h a.toNat_lt
theorem unlike_term (u : Nat) (a b : UInt8) (h : u < 256) : bits .or .i64 (u : Int) (IntKind.i64.wrap (bits .xor .u8 (a.toNat : Int) (b.toNat : Int))) = ((u ||| (a ^^^ b).toNat : Nat) : Int) := by
 have h2 := (a ^^^ b).toNat_lt
 rw [xor8, i64_id (by omega) (by omega), i63_or (by omega) (by omega)]
theorem take_eq_succ {a b : List UInt8} {i : Nat} (h : i < a.length) (hb : i < b.length) : a.take (i + 1) = b.take (i + 1) ↔ a.take i = b.take i ∧ a.getD i 0 = b.getD i 0 := by
 rw [List.take_succ_eq_append_getElem h, List.take_succ_eq_append_getElem hb, List.getD_eq_getElem?_getD, List.getD_eq_getElem?_getD, List.getElem?_eq_getElem h, List.getElem?_eq_getElem hb]
 constructor
 ·intro e
  have := List.append_inj e (by simp; omega)
  exact ⟨this.1, by simpa using this.2⟩
 ·rintro ⟨e1, e2⟩
  have e3 : a[i] = b[i] := by simpa using e2
  rw [e1, e3]
theorem sameC {a b : List UInt8} (h : a.length = b.length) (hl : a.length ≤ big) (H : Q (.bool (decide (a = b))) S) : CallWp Tryz.prog B 70 #[.string (str a), .string (str b)] Q S := by
 have hlim : big = 281474976710656 := rfl
 rw [hlim] at hl
 obtain ⟨n, hn⟩ : ∃ n, n = a.length := ⟨_, rfl⟩
 have hb : n = b.length := by omega
 refine Yx (args := [_, _]) Tryz.func70 Tryz.ntmps70 ?_
 refine Yn 1 rfl ?_
 refine Yn 6 rfl ?_
 refine Wp.seq ?_
 refine Yn 6 rfl ?_
 refine Wp.block ?_
 refine Wp.loopS (α := Nat × Nat) (fun z => n - z.1) (fun z => [(0, .string (str a)), (1, .string (str b)), (5, .int .i64 (z.2 : Int)), (16, .int .i64 (n : Int)), (17, .int .i64 (z.1 : Int))]) (fun _ => S) (fun z => z.1 ≤ n ∧ z.2 < 256 ∧ (z.2 = 0 ↔ a.take z.1 = b.take z.1)) (0, 0) ?_ (.refl _) ⟨Nat.zero_le _, by decide, by simp⟩ ?_
 ·exact .cons rfl (.cons rfl (.cons' rfl (int_eq (by rw [← h]; exact (xor_self _ (by omega)))) (.cons' rfl (int_eq (by rw [← h, hn]; exact (if_neg (by omega)))) (.cons rfl (.nil _)))))
 rintro ⟨i, u⟩ ⟨hi, hu, hiff⟩
 simp only at hi hu hiff ⊢
 refine Yn 1 rfl ?_
 refine Wp.seq ?_
 refine Wp.cond rfl (fun h1 => ?_) (fun h1 => ?_)
 ·have h1 := of_decide_eq_true h1
  have hi2 : i < n := by omega
  refine Wp.skip ?_
  refine Wp.seq ?_
  refine Wp.block ?_
  refine Yn 2 rfl ?_
  refine Wp.regionDraw [0, 1, 2, 3, 4, 5, 6, 7, 8, 9, 10] [] rfl (by decide +kernel) ?_
  refine DWp.evs 3 rfl ?_
  refine DWp.g rfl rfl rfl rfl (Gives.indexStr (b := (a.getD i 0)) rfl rfl rfl rfl (by omega) (getD_some (by omega))) ?_
  refine DWp.evs 2 rfl ?_
  refine DWp.g rfl rfl rfl rfl (Gives.indexStr (b := (b.getD i 0)) rfl rfl rfl rfl (by omega) (getD_some (by omega))) ?_
  refine DWp.evs 4 rfl ?_
  refine DWp.nil ?_
  refine Wp.region ?_
  refine Yz 2 rfl ?_
  refine ⟨(i + 1, u ||| (a.getD i 0 ^^^ b.getD i 0).toNat), by simp only; omega, ⟨by simp only; omega, or_byte_lt _ _ hu, ?_⟩, .cons rfl (.cons rfl (.cons' rfl (int_eq (unlike_term u _ _ hu)) (.cons rfl (.cons' rfl (int_eq (i64_inc (by omega))) (.nil _))))), .refl _⟩
  simp only
  rw [or_zero_iff, hiff, take_eq_succ (by omega) (by omega)]
 have h1 := of_decide_eq_false h1
 obtain rfl : i = n := by omega
 have e : decide (a = b) = decide ((u : Int) = 0) := by
  rw [decide_eq_decide, ← List.take_of_length_le (Nat.le_of_eq hn.symm), ← List.take_of_length_le (l := b) (Nat.le_of_eq hb.symm), ← hiff]; omega
 rw [e] at H
 refine Wp.exit ?_
 refine Yn 3 rfl ?_
 refine Wp.ret ⟨trivial, _, ⟨_, _, rfl, rfl, rfl⟩, ?_⟩
 exact H
theorem sbytesNC {key : List UInt8} {n : Nat} (hk : key.length = 32) (hn : n ≤ 65536) (H : Q (.tuple #[.string (str (stream key zeros12 0 n)), .int .i64 0]) S) : CallWp Tryz.prog B 116 #[.string (str key), .string (str zeros12), .int .i64 (n : Int)] Q S := by
 have hx : xors (List.replicate n 0) (stream key zeros12 0 n) = stream key zeros12 0 n := by
  have hl := stream_len key zeros12 0 n
  apply List.ext_getElem?
  intro i
  unfold xors
  by_cases hi : i < n
  ·rw [List.getElem?_zipWith, List.getElem?_eq_getElem (by simpa using hi), List.getElem?_eq_getElem (by rw [hl]; exact hi)]
   simp
  ·rw [List.getElem?_eq_none (by simp; omega), List.getElem?_eq_none (by rw [hl]; omega)]
 refine Yx (args := [_, _, _]) Tryz.func116 Tryz.ntmps116 ?_
 refine Yn 2 rfl ?_
 refine Wp.seq ?_
 refine Yg 2 rfl ?_
 refine Yc rfl rfl (wrongC (c := 0) hk rfl (by decide) ?_)
 refine Yz 1 rfl ?_
 refine Yn 2 rfl ?_
 refine Cu rfl (by decide) fun cc1 => ?_
 refine Wp.skip ?_
 refine Wp.seq ?_
 refine Yg 3 rfl ?_
 refine Dt 17 rfl (by omega) fun cc2 => ?_
 refine Yz 3 rfl ?_
 refine Ct rfl (by omega) fun cc3 => ?_
 refine Wp.skip ?_
 refine Yg 3 rfl ?_
 refine Yc rfl rfl (zerosC (by omega) ?_)
 refine Yc rfl rfl (xorC (c := 0) hk rfl (by decide) (by rw [List.length_replicate]; exact hn) ?_)
 rw [List.length_replicate, hx]
 refine Yz 4 rfl ?_
 refine Wp.ret ⟨trivial, _, ⟨_, _, rfl, rfl, _, _, rfl, rfl, rfl⟩, ?_⟩
 exact H
end
end Go.Proofs.D

namespace Go.Proofs.D
open Go.Lg Go.Sha Go.Hd
set_option maxRecDepth 100000
attribute [local irreducible] derive hmac stream
section
variable {B : Nat} {S R : Ents} {Q : Value → Ents → Prop}
theorem xor_cell {t f : List UInt8} {g : List Value} {i : Nat} (h : t.length ≤ f.length) (hi : i < t.length) : wr (byteCells (xorAt t f i) ++ g) (0 + i * 1) (Value.int .u8 (bits .xor .u8 ((t.getD i 0).toNat : Int) ((f.getD i 0).toNat : Int))).cells.toList = byteCells (xorAt t f (i + 1)) ++ g := by
 rw [xor8, ← xorAt_set t f h hi]
 exact bc_set (by rw [xorAt_len t f h (by omega)]; exact hi) rfl (by omega)
theorem hflowC {s : List UInt8} {k : HK} {text : List UInt8} {a : Nat} (hk : k.flow.length = 32) (hl : text.length + a ≤ 240) (H : Q (.string (str (flowX k text a))) S) : CallWp Tryz.prog B 72 #[.agg (hopC s k).toArray, .string (str text), .int .i64 (a : Int)] Q S := by
 obtain ⟨n, hn⟩ : ∃ n, n = text.length := ⟨_, rfl⟩
 obtain ⟨f, hf⟩ : ∃ f, f = stream k.flow zeros12 0 240 := ⟨_, rfl⟩
 have hfl : f.length = 240 := by rw [hf, stream_len]
 have hfd : text.length ≤ (f.drop a).length := by rw [List.length_drop]; omega
 have hfx : flowX k text a = xors text (f.drop a) := by rw [hf]; rfl
 rw [hfx] at H
 refine CallWp.dropRet ?_
 refine Yx (args := [_, _, _]) Tryz.func72 Tryz.ntmps72 ?_
 refine Yq ?_
 refine Yb rfl rfl rfl rfl fun L0 hBL0 hLL0 => ?_
 refine Yz 1 rfl ?_
 refine Wp.seq (Wp.regionDraw [0, 1, 2, 3, 4, 5, 6, 7, 8, 9] [3, 4] rfl (by decide +kernel) ?_)
 refine DWp.evs 2 rfl ?_
 first | refine Yd m0 ?_ | refine Yd m1 ?_ | refine Yd m2 ?_ | refine Yd m3 ?_ | refine Yd m4 ?_ | refine Yd (List.Mem.tail _ (List.Mem.tail _ (List.Mem.tail _ (List.Mem.tail _ (List.Mem.tail _ (List.Mem.head _)))))) ?_
 refine DWp.stepGrow rfl rfl rfl (Step.call rfl rfl rfl rfl rfl rfl ((hzerosC (n := 12) (by decide) ?_)))
 refine ⟨fun _ hy => hy, ?_⟩
 refine DWp.stepGrow rfl rfl rfl (Step.call rfl rfl rfl rfl rfl rfl ((sbytesNC (n := 240) hk (by decide) ?_)))
 refine ⟨fun _ hy => hy, ?_⟩
 rw [← hf]
 refine DWp.evs 5 rfl ?_
 refine DWp.nil ?_
 refine Yg 1 rfl ?_
 refine OWp.step rfl (Step.strToBytes rfl rfl rfl rfl rfl rfl ?_); intro L g cap hBL hLL hcL
 refine Yz 1 rfl ?_
 refine Wp.seq ?_
 refine Yn 3 rfl ?_
 refine Wp.block ?_
 refine Wp.loopS (α := Nat) (fun i => n - i) (fun i => [(2, .int .i64 (a : Int)), (7, .string (str f)), (9, .slice (some ⟨L, 0, none⟩) n cap), (22, .int .i64 (n : Int)), (23, .int .i64 (i : Int))]) (fun i => (L, cel (byteCells (xorAt text (f.drop a) i) ++ g) 5 (cap, cap + 1)) :: (L0, cel (hopC s k) 179) :: S) (fun i => i ≤ n) 0 ?_ (by simp only [xorAt_zero]; exact .refl _) (by omega) ?_
 ·exact .cons rfl (.cons rfl (.cons' rfl (by rw [hn]) (.cons' rfl (by rw [hn]) (.cons rfl (.nil _)))))
 intro i hi
 have hpl : (xorAt text (f.drop a) i).length = n := by rw [xorAt_len _ _ hfd (by omega), hn]
 refine Yn 1 rfl ?_
 refine Wp.seq ?_
 refine Wp.cond rfl (fun h1 => ?_) (fun h1 => ?_)
 ·have h1 := of_decide_eq_true h1
  have hlt : i < text.length := by omega
  refine Wp.skip ?_
  refine Wp.seq ?_
  refine Wp.block ?_
  refine Yn 2 rfl ?_
  refine Wp.regionDraw [0, 1, 2, 3, 4, 5, 6, 7, 8, 9, 10, 11] [11] rfl (by decide +kernel) ?_
  refine DWp.evs 2 rfl ?_
  refine DWp.g rfl rfl rfl rfl (Gives.indexAddrSlice (i) rfl rfl rfl rfl rfl rfl (by omega)) ?_
  refine DWp.load (.head _) rfl rfl rfl rfl rfl rfl (by show (byteCells (xorAt text (f.drop a) i) ++ g)[0 + i * 1]? = some (.int .u8 ((text.getD i 0).toNat)); rw [Nat.zero_add, Nat.mul_one, List.getElem?_append_left (by rw [byteCells_length, hpl]; omega)]; unfold byteCells; rw [List.getElem?_map, xorAt_get _ _ hfd hlt]; rfl) ?_
  have hai : IntKind.i64.wrap ((a : Int) + (i : Int)) = ((a + i : Nat) : Int) := by rw [i64_id] <;> omega
  have hfi : (f.drop a).getD i 0 = f.getD (a + i) 0 := by rw [List.getD_eq_getElem?_getD, List.getElem?_drop, ← List.getD_eq_getElem?_getD]
  refine DWp.evs 4 rfl ?_
  refine DWp.g rfl rfl rfl rfl (Gives.indexStr (b := (f.getD (a + i) 0)) rfl rfl rfl rfl (by rw [hai]; omega) (by rw [hai]; exact (getD_some (l := f) (i := a + i) (by omega)))) ?_
  refine DWp.evs 1 rfl ?_
  refine DWp.g rfl rfl rfl rfl (Gives.indexAddrSlice (i) rfl rfl rfl rfl rfl rfl (by omega)) ?_
  refine DWp.stepAll rfl rfl rfl rfl (Step.storeAs 0 (byteCells (xorAt text (f.drop a) (i + 1)) ++ g) rfl rfl rfl rfl rfl hBL rfl (.inr (by rw [← hcL, List.length_append, List.length_append, byteCells_length, byteCells_length, hpl, hn]; exact Nat.le_refl _)) rfl (by rw [List.length_append, byteCells_length, hpl]; show 0 + i * 1 + 1 ≤ _; omega) (by rw [← hfi]; exact xor_cell hfd hlt) rfl ?_)
  refine DWp.nil ?_
  refine Wp.region ?_
  refine Yz 2 rfl ?_
  exact ⟨i + 1, by omega, by omega, .cons rfl (.cons rfl (.cons rfl (.cons rfl (.cons' rfl (int_eq (i64_inc (by omega))) (.nil _))))), .refl _⟩
 have h1 := of_decide_eq_false h1
 obtain rfl : i = n := by omega
 have hfin : xorAt text (f.drop a) i = xors text (f.drop a) := by rw [hn]; exact xorAt_all _ _
 refine Wp.exit ?_
 refine Yg 1 rfl ?_
 refine OWp.gives rfl rfl (Gives.bytesToStr (F := (L, cel (byteCells (xorAt text (f.drop a) i) ++ g) 5 (cap, cap + 1)) :: (L0, cel (hopC s k) 179) :: S) (l := xorAt text (f.drop a) i) (k := i) rfl rfl rfl rfl rfl (by have := Reads.row (S := (L, cel (byteCells (xorAt text (f.drop a) i) ++ g) 5 (cap, cap + 1)) :: (L0, cel (hopC s k) 179) :: S) (sz := 1) (k := i) (cap := cap) (.head _) (by rw [List.length_append, byteCells_length, hpl]; omega); rw [Nat.mul_one, List.take_append_of_le_length (by rw [byteCells_length, hpl]; omega), List.take_of_length_le (by rw [byteCells_length, hpl]; omega)] at this; exact this)) (fun _ h => h) ?_
 refine Yz 1 rfl ?_
 refine Wp.ret ⟨trivial, _, ⟨_, _, rfl, rfl, rfl⟩, ?_⟩
 exact ⟨S, subl, hfin ▸ H⟩
theorem hmacC {s : List UInt8} {k : HK} {l : List UInt8} (hks : KsIn S) (hk : k.mac.length + 1000 ≤ big) (hl : l.length + 1000 ≤ big) (H : Q (.string (str (macX k l))) S) : CallWp Tryz.prog B 71 #[.agg (hopC s k).toArray, .string (str l)] Q S := by
 refine CallWp.dropRet ?_
 refine Yx (args := [_, _]) Tryz.func71 Tryz.ntmps71 ?_
 refine Yq ?_
 refine Yb rfl rfl rfl rfl fun L0 hBL0 hLL0 => ?_
 refine Yz 1 rfl ?_
 refine Yg 2 rfl ?_
 first | refine Yl m0 ?_ | refine Yl m1 ?_ | refine Yl m2 ?_ | refine Yl m3 ?_ | refine Yl m4 ?_ | refine Yl (List.Mem.tail _ (List.Mem.tail _ (List.Mem.tail _ (List.Mem.tail _ (List.Mem.tail _ (List.Mem.head _)))))) ?_
 refine Ye 1 rfl ?_
 refine OWp.step rfl (Step.buildSlice rfl rfl rfl ?_); intro L1 hBL1 hLL1
 refine Yc rfl rfl (tagC (l := [l]) (Reads.row (k := 1) (sz := 1) (.head _) (Nat.le_of_ble_eq_true rfl)) (by decide) hks.cons.cons hk (by simpa using hl) ?_)
 rw [show [l].flatten = l by simp]
 refine OWp.g rfl rfl (Gives.sliceStr (l := 0) (h' := 16) rfl rfl rfl rfl ⟨_, _, rfl, rfl⟩ (by decide) (by rw [hmac_len]; decide)) ?_
 refine Yz 1 rfl ?_
 refine Wp.ret ⟨trivial, _, ⟨_, _, rfl, rfl, rfl⟩, ?_⟩
 exact ⟨S, subl, H⟩
theorem madeC {s : List UInt8} (hks : KsIn S) (hs : s.length + 1000 ≤ big) (H : Q (.agg (hopC s (keysOf s)).toArray) S) : CallWp Tryz.prog B 69 #[.string (str s)] Q S := by
 refine CallWp.dropRet ?_
 refine Yx (args := [_]) Tryz.func69 Tryz.ntmps69 ?_
 refine Yq ?_
 refine Ya rfl rfl rfl rfl fun L2 hBL2 hLL2 => ?_
 refine OWp.nil ?_
 refine Yg 1 rfl ?_
 refine OWp.g rfl rfl (Gives.build rfl rfl) ?_
 refine OWp.g rfl rfl (Gives.build rfl rfl) ?_
 refine Ya rfl rfl rfl rfl fun L3 hBL3 hLL3 => ?_
 refine OWp.step rfl (Step.storeAs 0 ([.string (str s), .string (str []), .string (str []), .string (str []), .string (str []), .string (str [])]) rfl rfl rfl rfl rfl (by assumption) rfl (Unfz.zero _) rfl (Nat.le_of_ble_eq_true rfl) rfl rfl ?_)
 refine OWp.nil ?_
 refine Wp.seq (Wp.regionDraw [0, 1, 3, 4, 6, 7, 9, 10, 12, 13, 2, 5, 8, 11, 14, 15, 16, 17] [2, 5, 8, 11, 14, 17] rfl (by decide +kernel) ?_)
 refine DWp.evs 1 rfl ?_
 first | refine Yd m0 ?_ | refine Yd m1 ?_ | refine Yd m2 ?_ | refine Yd m3 ?_ | refine Yd m4 ?_ | refine Yd (List.Mem.tail _ (List.Mem.tail _ (List.Mem.tail _ (List.Mem.tail _ (List.Mem.tail _ (List.Mem.head _)))))) ?_
 refine DWp.evs 1 rfl ?_
 first | refine Yd m0 ?_ | refine Yd m1 ?_ | refine Yd m2 ?_ | refine Yd m3 ?_ | refine Yd m4 ?_ | refine Yd (List.Mem.tail _ (List.Mem.tail _ (List.Mem.tail _ (List.Mem.tail _ (List.Mem.tail _ (List.Mem.head _)))))) ?_
 refine DWp.evs 1 rfl ?_
 first | refine Yd m0 ?_ | refine Yd m1 ?_ | refine Yd m2 ?_ | refine Yd m3 ?_ | refine Yd m4 ?_ | refine Yd (List.Mem.tail _ (List.Mem.tail _ (List.Mem.tail _ (List.Mem.tail _ (List.Mem.tail _ (List.Mem.head _)))))) ?_
 refine DWp.evs 1 rfl ?_
 first | refine Yd m0 ?_ | refine Yd m1 ?_ | refine Yd m2 ?_ | refine Yd m3 ?_ | refine Yd m4 ?_ | refine Yd (List.Mem.tail _ (List.Mem.tail _ (List.Mem.tail _ (List.Mem.tail _ (List.Mem.tail _ (List.Mem.head _)))))) ?_
 refine DWp.evs 1 rfl ?_
 first | refine Yd m0 ?_ | refine Yd m1 ?_ | refine Yd m2 ?_ | refine Yd m3 ?_ | refine Yd m4 ?_ | refine Yd (List.Mem.tail _ (List.Mem.tail _ (List.Mem.tail _ (List.Mem.tail _ (List.Mem.tail _ (List.Mem.head _)))))) ?_
 refine DWp.stepGrow rfl rfl rfl (Step.call rfl rfl rfl rfl rfl rfl ((hkeyC (n := 32) hks.cons.cons (by decide) hs (by decide) ?_)))
 refine ⟨fun _ hy => hy, ?_⟩
 refine DWp.stepGrow rfl rfl rfl (Step.call rfl rfl rfl rfl rfl rfl ((hkeyC (n := 32) hks.cons.cons (by decide) hs (by decide) ?_)))
 refine ⟨fun _ hy => hy, ?_⟩
 refine DWp.stepGrow rfl rfl rfl (Step.call rfl rfl rfl rfl rfl rfl ((hkeyC (n := 32) hks.cons.cons (by decide) hs (by decide) ?_)))
 refine ⟨fun _ hy => hy, ?_⟩
 refine DWp.stepGrow rfl rfl rfl (Step.call rfl rfl rfl rfl rfl rfl ((hkeyC (n := 32) hks.cons.cons (by decide) hs (by decide) ?_)))
 refine ⟨fun _ hy => hy, ?_⟩
 refine DWp.stepGrow rfl rfl rfl (Step.call rfl rfl rfl rfl rfl rfl ((hkeyC (n := 16) hks.cons.cons (by decide) hs (by decide) ?_)))
 refine ⟨fun _ hy => hy, ?_⟩
 refine DWp.g rfl rfl rfl rfl (Gives.build rfl rfl) ?_
 refine DWp.evs 1 rfl ?_
 refine DWp.stepAll rfl rfl rfl rfl (Step.storeAs 0 (hopC s (keysOf s)) rfl rfl rfl rfl rfl (by assumption) rfl (Unfz.zero _) rfl (Nat.le_of_ble_eq_true rfl) rfl rfl ?_)
 refine DWp.nil ?_
 refine Yq ?_
 refine Yl m0 ?_
 refine OWp.step rfl (Step.storeAs 1 (hopC s (keysOf s)) rfl rfl rfl rfl rfl (by assumption) rfl (Unfz.zero _) rfl (Nat.le_of_ble_eq_true rfl) rfl rfl ?_)
 refine OWp.nil ?_
 refine Wp.ret ⟨trivial, _, ⟨_, _, _, _, rfl, rfl, ⟨_, _, _, mems, (by first | assumption | rfl)⟩, rfl⟩, ?_⟩
 exact ⟨S, subl, H⟩
end
end Go.Proofs.D

namespace Go.Proofs.D
open Go.Lg Go.Sha Go.Hd Go.Cv
set_option maxRecDepth 100000
attribute [local irreducible] derive hmac stream chainR
/-- The cells of hops, by their secrets. -/
def hopsV (ss : List (List UInt8)) : List Value := ss.flatMap fun s => hopC s (keysOf s)
theorem hopsV_snoc (ss : List (List UInt8)) (s : List UInt8) : hopsV (ss ++ [s]) = hopsV ss ++ hopC s (keysOf s) := by simp [hopsV]
theorem strs_snoc (l : List (List UInt8)) (x : List UInt8) : strs (l ++ [x]) = strs l ++ [.string (str x)] := by simp [strs]
section
variable {B : Nat} {S R : Ents} {Q : Value → Ents → Prop}
set_option maxHeartbeats 2000000 in
theorem hopsC {seed : List UInt8} {ps : List (List UInt8)} {v : Value} (hks : KsIn S) (hr : Reads S 1 v ps.length (strs ps)) (hl : ps.length ≤ 65536) (hbad : (hopsGo [seed] ps).2 ≠ 0 → Q (.tuple #[.slice none 0 0, .int .i64 ((hopsGo [seed] ps).2 : Nat)]) S) (H : (hopsGo [seed] ps).2 = 0 → (hopsGo [seed] ps).1.length = ps.length → ∀ w es, Lg.Own B 179 6 w ps.length (hopsV (hopsGo [seed] ps).1) es → Q (.tuple #[w, .int .i64 0]) (es ++ S)) : CallWp Tryz.prog B 84 #[.string (str seed), v] Q S := by
 obtain ⟨va, vc, rfl⟩ := hr.form
 refine CallWp.dropRet ?_
 refine Yx (args := [_, _]) Tryz.func84 Tryz.ntmps84 ?_
 refine Yn 2 rfl ?_
 refine Yg 1 rfl ?_
 refine OWp.step rfl (Step.buildSlice rfl rfl rfl ?_); intro L hBL hLL
 refine Yz 1 rfl ?_
 refine Yn 1 rfl ?_
 refine Wp.seq ?_
 refine Yn 3 rfl ?_
 refine Wp.block ?_
 refine Wp.loopS (α := Nat × List (List UInt8) × Value × Ents × Value × Ents) (fun z => ps.length - z.1) (fun z => [(6, z.2.2.1), (7, z.2.2.2.2.1), (15, .slice va ps.length vc), (16, .int .i64 (ps.length : Int)), (17, .int .i64 (z.1 : Int))]) (fun z => z.2.2.2.2.2 ++ (z.2.2.2.1 ++ S)) (fun z => z.1 ≤ ps.length ∧ z.2.1.length = z.1 ∧ Lg.Own B 9 1 z.2.2.1 (z.1 + 1) (strs (scal seed z.2.1)) z.2.2.2.1 ∧ Lg.Own B 179 6 z.2.2.2.2.1 z.1 (hopsV z.2.1) z.2.2.2.2.2 ∧ hopsFin z.2.1 (hopsGo (scal seed z.2.1) (ps.drop z.1)) = hopsGo [seed] ps) (0, [], .slice (some ⟨L, 0, none⟩) 1 1, [(L, cel [.string (str seed)] 9)], .slice none 0 0, []) ?_ (.refl _) ⟨Nat.zero_le _, rfl, Own.row (k := 1) (sz := 1) hBL rfl (by decide), Own.nil _ _ _, hopsFin_nil _ (hopsGo_err _ _)⟩ ?_
 ·exact .cons rfl (.cons rfl (.cons rfl (.cons rfl (.cons rfl (.nil _)))))
 rintro ⟨i, ss, v1, e1, v2, e2⟩ ⟨hi, hss, ho1, ho2, hf⟩
 simp only at hi hss ho1 ho2 hf ⊢
 obtain ⟨a1, c1, rfl⟩ := ho1.reads.form
 obtain ⟨a2, c2, rfl⟩ := ho2.reads.form
 have hbl : (scal seed ss).length = i + 1 := by simp [scal, hss]
 refine Yn 1 rfl ?_
 refine Wp.seq ?_
 refine Wp.cond rfl (fun h1 => ?_) (fun h1 => ?_)
 ·have h1 := of_decide_eq_true h1
  have hi1 : i < ps.length := by omega
  obtain ⟨b3, o3, c3, l3, t3, f3, hv3, hm3, _, hg3⟩ := hr.get1 (by omega)
  cases hv3
  have hgi : l3[o3 + i * 1]? = some (.string (str ps[i])) := by rw [hg3 i hi1]; exact strs_at hi1
  refine Wp.skip ?_
  refine Wp.seq ?_
  refine Wp.block ?_
  refine Yq ?_
  refine OWp.g rfl rfl (Gives.indexAddrSlice (i) rfl rfl rfl rfl rfl rfl (by omega)) ?_
  refine OWp.load (List.mem_append_right _ (List.mem_append_right _ hm3)) rfl rfl rfl rfl hgi ?_
  refine Yz 1 rfl ?_
  refine Yg 2 rfl ?_
  refine Yc rfl rfl (chainC (u := ps[i]) (ks := scal seed ss) (by rw [hbl]; exact ho1.reads.mono fun x hx => List.mem_append_right _ (List.mem_append_left _ hx)) (by omega) ?_)
  refine Yz 5 rfl ?_
  refine Wp.seq ?_
  refine Yn 2 rfl ?_
  refine Wp.cond rfl (fun h2 => ?_) (fun h2 => ?_)
  ·have h2 := ndT h2
   have h3 := hopsFin_bad (seed := seed) (ss := ss) hi1 (by omega)
   rw [hf] at h3
   refine Yn 3 rfl ?_
   refine Wp.ret ⟨trivial, _, ⟨_, _, rfl, rfl, _, _, rfl, rfl, rfl⟩, ?_⟩
   refine ⟨S, (List.sublist_append_right _ _).trans (List.sublist_append_right _ _), ?_⟩
   rw [h3] at hbad
   exact hbad (by simp only; omega)
  have h2 := ndF h2
  have h2' : (chainR ps[i] (scal seed ss)).2 = 0 := by omega
  have h3 := hopsFin_good (seed := seed) (ss := ss) hi1 h2'
  rw [hf] at h3
  have hcl := chainR_len h2'
  generalize hc : (chainR ps[i] (scal seed ss)).1 = c at *
  refine Wp.skip ?_
  refine Yg 1 rfl ?_
  refine Yc rfl rfl (madeC (hks.append.append) (by rw [hcl]; decide) ?_)
  refine Ya rfl rfl rfl rfl fun L12 hBL12 hLL12 => ?_
  refine OWp.step rfl (Step.storeAs 0 (hopC c (keysOf c)) rfl rfl rfl rfl rfl (by assumption) rfl (Unfz.zero _) rfl (Nat.le_of_ble_eq_true rfl) rfl rfl ?_)
  refine OWp.nil ?_
  refine Wp.regionDraw [0, 1, 4, 5, 6, 7, 12, 12, 12, 12, 12, 12] [2, 3, 8, 9] rfl (by decide +kernel) ?_
  refine DWp.evs 1 rfl ?_
  refine Yd m0 ?_
  refine DWp.evs 3 rfl ?_
  refine Yd m0 ?_
  refine DWp.forkTo [2, 8] (by decide +kernel) (by simp) ?_
  intro xx hxx
  simp only [List.mem_cons, List.mem_nil_iff, or_false] at hxx
  rcases hxx with rfl | rfl
  ·refine ⟨_, [12, 12, 12, 12, 12], rfl, rfl, by decide +kernel, rfl, ?_⟩
   refine (Step.buildSlice rfl rfl rfl ?_); intro Lp hBLp hLLp
   refine prs ?_
   refine DWp.forkTo [3, 8] (by decide +kernel) (by simp) ?_
   intro xx hxx
   simp only [List.mem_cons, List.mem_nil_iff, or_false] at hxx
   rcases hxx with rfl | rfl
   ·refine ⟨_, [8, 9, 10, 11], rfl, rfl, by decide +kernel, rfl, ?_⟩
    refine (Step.permS (show List.Perm ((Lp, cel (hopC c (keysOf c)) 179) :: ((L12, cel (hopC c (keysOf c)) 179) :: (e2 ++ (e1 ++ (S))))) _ from Pe (Pe .rfl)) (Step.appendAt [] rfl rfl rfl rfl rfl rfl (by decide) rfl rfl ho2 (Reads.row (k := 1) (sz := 6) (List.mem_append_right [] (List.mem_append_right _ (.head _))) (Nat.le_of_ble_eq_true rfl)) rfl (by show (_ + 1) * 96 ≤ _; omega) (by unfold maxLen; omega) ?_))
    intro v22 e22 ho22 _
    refine prs ?_
    refine DWp.step rfl rfl rfl (Step.buildSlice rfl rfl rfl ?_); intro Lq hBLq hLLq
    refine prs ?_
    refine DWp.step rfl rfl rfl (Step.permS (show List.Perm ((Lq, cel [.string (str (keysOf c).blind)] 9) :: (e22 ++ ((Lp, cel (hopC c (keysOf c)) 179) :: ((L12, cel (hopC c (keysOf c)) 179) :: (e1 ++ (S)))))) _ from Pe (Pf (Pe (Pe .rfl)))) (Step.appendAt [] rfl rfl rfl rfl rfl rfl (by decide) rfl rfl ho1 (Reads.row (k := 1) (sz := 1) (List.mem_append_right [] (List.mem_append_right _ (.head _))) (Nat.le_of_ble_eq_true rfl)) rfl (by show (_ + 1) * 16 ≤ _; omega) (by unfold maxLen; omega) ?_))
    intro v12 e12 ho12 _
    refine prs ?_
    refine DWp.evs 2 rfl ?_
    refine DWp.nil ?_
    show Wp _ _ _ _ _ _ _
    refine Wp.permS (show List.Perm (e12 ++ ((Lq, cel [.string (str (keysOf c).blind)] 9) :: (e22 ++ ((Lp, cel (hopC c (keysOf c)) 179) :: ((L12, cel (hopC c (keysOf c)) 179) :: (S)))))) _ from .trans (Pf (Pe .rfl)) (Pa (Pa (.trans (Pc (Pc .rfl)) (.cons _ (Pc .rfl)))))) (Wp.drop (S' := e22 ++ (e12 ++ S)) ((List.Sublist.refl _).append ((List.Sublist.refl _).append subl)) ?_)
    refine Wp.region ?_
    refine Yz 2 rfl ?_
    exact ⟨(i + 1, ss ++ [c], v12, e12, v22, e22), by simp only; omega, ⟨by simp only; omega, by simp [hss], by rw [← scal_snoc, strs_snoc]; exact ho12, by rw [hopsV_snoc]; exact ho22, h3.symm⟩, .cons rfl (.cons rfl (.cons rfl (.cons rfl (.cons' rfl (int_eq (i64_inc (by omega))) (.nil _))))), .refl _⟩
   ·refine ⟨_, [3, 9, 10, 11], rfl, rfl, by decide +kernel, rfl, ?_⟩
    refine (Step.buildSlice rfl rfl rfl ?_); intro Lq hBLq hLLq
    refine prs ?_
    refine DWp.step rfl rfl rfl (Step.permS (.trans (Pe (Pe (Pe .rfl))) (Pa (Pc .rfl))) (Step.appendAt [] rfl rfl rfl rfl rfl rfl (by decide) rfl rfl ho2 (Reads.row (k := 1) (sz := 6) (List.mem_append_right [] (List.mem_append_right _ (.head _))) (Nat.le_of_ble_eq_true rfl)) rfl (by show (_ + 1) * 96 ≤ _; omega) (by unfold maxLen; omega) ?_))
    intro v22 e22 ho22 _
    refine prs ?_
    refine DWp.step rfl rfl rfl (Step.permS (show List.Perm (e22 ++ ((Lp, cel (hopC c (keysOf c)) 179) :: ((Lq, cel [.string (str (keysOf c).blind)] 9) :: ((L12, cel (hopC c (keysOf c)) 179) :: (e1 ++ (S)))))) _ from .trans (Pf (Pe (Pe (Pe .rfl)))) (Pa (Pd (Pc .rfl)))) (Step.appendAt [] rfl rfl rfl rfl rfl rfl (by decide) rfl rfl ho1 (Reads.row (k := 1) (sz := 1) (List.mem_append_right [] (List.mem_append_right _ (.head _))) (Nat.le_of_ble_eq_true rfl)) rfl (by show (_ + 1) * 16 ≤ _; omega) (by unfold maxLen; omega) ?_))
    intro v12 e12 ho12 _
    refine prs ?_
    refine DWp.evs 2 rfl ?_
    refine DWp.nil ?_
    show Wp _ _ _ _ _ _ _
    refine Wp.permS (show List.Perm (e12 ++ ((Lq, cel [.string (str (keysOf c).blind)] 9) :: (e22 ++ ((Lp, cel (hopC c (keysOf c)) 179) :: ((L12, cel (hopC c (keysOf c)) 179) :: (S)))))) _ from .trans (Pf (Pe .rfl)) (Pa (Pa (.trans (Pc (Pc .rfl)) (.cons _ (Pc .rfl)))))) (Wp.drop (S' := e22 ++ (e12 ++ S)) ((List.Sublist.refl _).append ((List.Sublist.refl _).append subl)) ?_)
    refine Wp.region ?_
    refine Yz 2 rfl ?_
    exact ⟨(i + 1, ss ++ [c], v12, e12, v22, e22), by simp only; omega, ⟨by simp only; omega, by simp [hss], by rw [← scal_snoc, strs_snoc]; exact ho12, by rw [hopsV_snoc]; exact ho22, h3.symm⟩, .cons rfl (.cons rfl (.cons rfl (.cons rfl (.cons' rfl (int_eq (i64_inc (by omega))) (.nil _))))), .refl _⟩
  ·refine ⟨_, [2, 3, 9, 10, 11], rfl, rfl, by decide +kernel, rfl, ?_⟩
   refine (Step.buildSlice rfl rfl rfl ?_); intro Lq hBLq hLLq
   refine prs ?_
   refine DWp.step rfl rfl rfl (Step.buildSlice rfl rfl rfl ?_); intro Lp hBLp hLLp
   refine prs ?_
   refine DWp.step rfl rfl rfl (Step.permS (show List.Perm ((Lp, cel (hopC c (keysOf c)) 179) :: ((Lq, cel [.string (str (keysOf c).blind)] 9) :: ((L12, cel (hopC c (keysOf c)) 179) :: (e2 ++ (e1 ++ (S)))))) _ from Pe (Pe (Pe .rfl))) (Step.appendAt [] rfl rfl rfl rfl rfl rfl (by decide) rfl rfl ho2 (Reads.row (k := 1) (sz := 6) (List.mem_append_right [] (List.mem_append_right _ (.head _))) (Nat.le_of_ble_eq_true rfl)) rfl (by show (_ + 1) * 96 ≤ _; omega) (by unfold maxLen; omega) ?_))
   intro v22 e22 ho22 _
   refine prs ?_
   refine DWp.step rfl rfl rfl (Step.permS (show List.Perm (e22 ++ ((Lp, cel (hopC c (keysOf c)) 179) :: ((Lq, cel [.string (str (keysOf c).blind)] 9) :: ((L12, cel (hopC c (keysOf c)) 179) :: (e1 ++ (S)))))) _ from .trans (Pf (Pe (Pe (Pe .rfl)))) (Pa (Pd (Pc .rfl)))) (Step.appendAt [] rfl rfl rfl rfl rfl rfl (by decide) rfl rfl ho1 (Reads.row (k := 1) (sz := 1) (List.mem_append_right [] (List.mem_append_right _ (.head _))) (Nat.le_of_ble_eq_true rfl)) rfl (by show (_ + 1) * 16 ≤ _; omega) (by unfold maxLen; omega) ?_))
   intro v12 e12 ho12 _
   refine prs ?_
   refine DWp.evs 2 rfl ?_
   refine DWp.nil ?_
   show Wp _ _ _ _ _ _ _
   refine Wp.permS (show List.Perm (e12 ++ ((Lq, cel [.string (str (keysOf c).blind)] 9) :: (e22 ++ ((Lp, cel (hopC c (keysOf c)) 179) :: ((L12, cel (hopC c (keysOf c)) 179) :: (S)))))) _ from .trans (Pf (Pe .rfl)) (Pa (Pa (.trans (Pc (Pc .rfl)) (.cons _ (Pc .rfl)))))) (Wp.drop (S' := e22 ++ (e12 ++ S)) ((List.Sublist.refl _).append ((List.Sublist.refl _).append subl)) ?_)
   refine Wp.region ?_
   refine Yz 2 rfl ?_
   exact ⟨(i + 1, ss ++ [c], v12, e12, v22, e22), by simp only; omega, ⟨by simp only; omega, by simp [hss], by rw [← scal_snoc, strs_snoc]; exact ho12, by rw [hopsV_snoc]; exact ho22, h3.symm⟩, .cons rfl (.cons rfl (.cons rfl (.cons rfl (.cons' rfl (int_eq (i64_inc (by omega))) (.nil _))))), .refl _⟩
 have h1 := of_decide_eq_false h1
 obtain rfl : i = ps.length := by omega
 rw [List.drop_length] at hf
 have hf2 : hopsGo [seed] ps = (ss, 0) := by rw [← hf]; simp [hopsFin, hopsGo]
 rw [hf2] at H
 refine Wp.exit ?_
 refine Yn 3 rfl ?_
 refine Wp.ret ⟨trivial, _, ⟨_, _, rfl, rfl, _, _, rfl, rfl, rfl⟩, ?_⟩
 exact ⟨_, (List.Sublist.refl _).append (List.sublist_append_right _ _), H rfl hss _ _ ho2⟩
end
end Go.Proofs.D

namespace Go.Proofs.D
open Go.Lg Go.Sha Go.Hd Go.Cv
open Go.Proofs.C (Hop hopP pathE encB)
set_option maxRecDepth 100000
/-- A header and its keys, or why there is none. -/
def makeR (seed : List UInt8) (ps : List (List UInt8)) (path : List Hop) : List UInt8 × List HK × Int :=
 if pathE path ≠ 0 then ([], [], pathE path)
 else if ps.length ≠ path.length then ([], [], 4)
 else if ¬ ∀ s ∈ seed :: ps, s.length = 32 then ([], [], 3)
 else if (hopsGo [seed] ps).2 ≠ 0 then ([], [], ((hopsGo [seed] ps).2 : Nat))
 else (headR seed ((hopsGo [seed] ps).1.map keysOf) (path.map encB), (hopsGo [seed] ps).1.map keysOf, 0)
def keysV (ks : List HK) : List Value := ks.flatMap HK.cells
theorem keysV_snoc (ks : List HK) (k : HK) : keysV (ks ++ [k]) = keysV ks ++ k.cells := by simp [keysV]
theorem hopC_flat (ss : List (List UInt8)) : ∀ s ∈ ss, (hopC s (keysOf s)).length = 6 := fun _ _ => rfl
theorem encB_good {x : Hop} (h : hopP x) : (encB x).length = 24 := by
 unfold encB
 rw [if_pos h]
 exact C.hopB_len h
theorem pathE_ok {l : List Hop} (h : pathE l = 0) : (∀ x ∈ l, hopP x) ∧ 0 < l.length ∧ l.length ≤ 5 := by
 unfold pathE at h
 split at h
 ·rename_i h1
  split at h
  ·rename_i h2
   exact ⟨h1, ((C.shape_iff l).1 h2.1).1, h2.2⟩
  ·cases h
 ·cases h
attribute [local irreducible] derive hmac stream chainR
theorem own_cap {B : Nat} {e : TypeId} {sz : Nat} {x : Value} {k : Nat} {xs : List Value} {es : Ents} {a : Option Addr} {n c : Nat} (h : Lg.Own B e sz x k xs es) (hx : x = .slice a n c) : n ≤ c := by
 obtain ⟨_, ⟨h1, h2, _⟩ | h1⟩ := h
 ·rw [h1] at hx; cases hx; omega
 ·obtain ⟨b, cap, cur, h1, _, _, h2, _⟩ := h1
  rw [h1] at hx; cases hx; exact h2
section
variable {B : Nat} {S R : Ents} {Q : Value → Ents → Prop}
theorem hflowIntC {s : List UInt8} {k : HK} {text : List UInt8} {a : Nat} {z : Int} (hz : z = (a : Int)) (hk : k.flow.length = 32) (hl : text.length + a ≤ 240) (H : Q (.string (str (flowX k text a))) S) : CallWp Tryz.prog B 72 #[.agg (hopC s k).toArray, .string (str text), .int .i64 z] Q S := by
 subst hz; exact hflowC hk hl H
set_option maxHeartbeats 4000000 in
theorem makeC {seed : List UInt8} {ps : List (List UInt8)} {path : List Hop} {v w : Value} (hks : KsIn S) (hr : Reads S 1 v ps.length (strs ps)) (_hlw : ps.length ≤ 10000000000000) (hr2 : Reads S 5 w path.length (path.flatMap Hop.cells)) (hlw2 : path.length ≤ 2932031007320) (hbad : (makeR seed ps path).2.2 ≠ 0 → Q (.tuple #[.string (str []), .slice none 0 0, .int .i64 (makeR seed ps path).2.2]) S) (H : (makeR seed ps path).2.2 = 0 → ∀ z es, Lg.Own B 124 5 z path.length (keysV (makeR seed ps path).2.1) es → Q (.tuple #[.string (str (makeR seed ps path).1), z, .int .i64 0]) (es ++ S)) : CallWp Tryz.prog B 41 #[.string (str seed), v, w] Q S := by
 obtain ⟨va, vc, rfl⟩ := hr.form
 obtain ⟨pa, pc, rfl⟩ := hr2.form
 refine CallWp.dropRet ?_
 refine Yx (args := [_, _, _]) Tryz.func41 Tryz.ntmps41 ?_
 refine Yn 3 rfl ?_
 refine Wp.seq ?_
 refine Yg 1 rfl ?_
 refine Yc rfl rfl (C.pathC hr2 rfl (by unfold C.lim; omega) ?_)
 refine Yz 1 rfl ?_
 refine Yn 2 rfl ?_
 refine Wp.cond rfl (fun h1 => ?_) (fun h1 => ?_)
 ·have h1 := ndT h1
  have hE : makeR seed ps path = ([], [], pathE path) := by unfold makeR; rw [if_pos h1]
  rw [hE] at hbad
  refine Yn 4 rfl ?_
  refine Wp.ret ⟨trivial, _, ⟨_, _, rfl, rfl, _, _, rfl, rfl, _, _, rfl, rfl, rfl⟩, ?_⟩
  exact ⟨S, .refl _, hbad h1⟩
 have h1 := ndF h1
 have h1' : pathE path = 0 := by omega
 refine Wp.skip ?_
 refine Wp.seq ?_
 refine Yn 5 rfl ?_
 refine Wp.cond rfl (fun h2 => ?_) (fun h2 => ?_)
 ·have h2 := ndT h2
  have hE : makeR seed ps path = ([], [], 4) := by unfold makeR; rw [if_neg (fun h => h h1), if_pos (by omega)]
  rw [hE] at hbad
  refine Yn 3 rfl ?_
  refine Wp.ret ⟨trivial, _, ⟨_, _, rfl, rfl, _, _, rfl, rfl, _, _, rfl, rfl, rfl⟩, ?_⟩
  exact ⟨S, .refl _, hbad (by decide)⟩
 have h2 := ndF h2
 have h2' : ps.length = path.length := by omega
 obtain ⟨hgood, hpos, hmost⟩ := pathE_ok h1'
 have hl : ps.length ≤ 65536 := by omega
 have hl2 : path.length ≤ 65536 := by omega
 refine Wp.skip ?_
 refine Wp.seq ?_
 refine Yg 1 rfl ?_
 refine OWp.step rfl (Step.buildSlice rfl rfl rfl ?_); intro L hBL hLL
 refine Ye 1 rfl ?_
 refine OWp.step rfl (Step.appendAt (es := [(L, cel [.string (str seed)] 9)]) [] rfl rfl rfl rfl rfl rfl (by decide) rfl rfl (Own.row (k := 1) hBL rfl (by decide)) (hr.mono fun x hx => List.mem_append_right _ (.tail _ hx)) (strs_one ps) (by show (1 + _) * 16 ≤ _; omega) (by unfold maxLen; omega) ?_)
 intro v1 e1 ho1 _
 have hr1 : Reads e1 1 v1 (seed :: ps).length (strs (seed :: ps)) := by rw [List.length_cons, Nat.add_comm]; exact ho1.reads
 obtain ⟨wa, wc, rfl⟩ := hr1.form
 have hlc : (seed :: ps).length = ps.length + 1 := rfl
 refine Yz 2 rfl ?_
 refine Wp.block ?_
 refine Wp.loopS (α := Nat) (fun i => (seed :: ps).length - i) (fun i => [(0, .string (str seed)), (1, .slice va ps.length vc), (2, .slice pa path.length pc), (7, .slice none 0 0), (39, .slice wa (seed :: ps).length wc), (40, .int .i64 ((seed :: ps).length : Int)), (41, .int .i64 (i : Int))]) (fun _ => e1 ++ S) (fun i => i ≤ (seed :: ps).length ∧ ∀ s ∈ (seed :: ps).take i, s.length = 32) 0 ?_ (.refl _) ⟨Nat.zero_le _, by simp⟩ ?_
 ·exact .cons rfl (.cons rfl (.cons rfl (.cons rfl (.cons rfl (.cons rfl (.cons rfl (.nil _)))))))
 rintro i ⟨hi, hall⟩
 refine Yn 1 rfl ?_
 refine Wp.seq ?_
 refine Wp.cond rfl (fun h3 => ?_) (fun h3 => ?_)
 ·have h3 := of_decide_eq_true h3
  have hi1 : i < (seed :: ps).length := by omega
  obtain ⟨b2, o2, c2, l2, t2, f2, hv2, hm2, _, hg2⟩ := hr1.get1 (by omega)
  cases hv2
  have hgi : l2[o2 + i * 1]? = some (.string (str (seed :: ps)[i])) := by rw [hg2 i hi1]; exact strs_at hi1
  refine Wp.skip ?_
  refine Wp.seq ?_
  refine Wp.block ?_
  refine Yq ?_
  refine OWp.g rfl rfl (Gives.indexAddrSlice (i) rfl rfl rfl rfl rfl rfl (by omega)) ?_
  refine OWp.load (List.mem_append_left _ hm2) rfl rfl rfl rfl hgi ?_
  refine Yz 1 rfl ?_
  refine Yn 3 rfl ?_
  refine Wp.cond rfl (fun h4 => ?_) (fun h4 => ?_)
  ·have h4 := ndT h4
   have hno : ¬ ∀ s ∈ seed :: ps, s.length = 32 := fun h => h4 (by have := h _ (List.getElem_mem hi1); omega)
   have hE : makeR seed ps path = ([], [], 3) := by unfold makeR; rw [if_neg (fun h => h h1), if_neg (by omega), if_pos hno]
   rw [hE] at hbad
   refine Yn 3 rfl ?_
   refine Wp.ret ⟨trivial, _, ⟨_, _, rfl, rfl, _, _, rfl, rfl, _, _, rfl, rfl, rfl⟩, ?_⟩
   exact ⟨S, List.sublist_append_right _ _, hbad (by decide)⟩
  have h4 := ndF h4
  refine Wp.skip ?_
  refine Wp.region ?_
  refine Yz 2 rfl ?_
  refine ⟨i + 1, by omega, ⟨by omega, ?_⟩, .cons rfl (.cons rfl (.cons rfl (.cons rfl (.cons rfl (.cons rfl (.cons' rfl (int_eq (by rw [i64_id] <;> omega)) (.nil _))))))), .refl _⟩
  intro s hs
  rw [List.take_succ_eq_append_getElem hi1] at hs
  rcases List.mem_append.1 hs with hs | hs
  ·exact hall s hs
  ·rw [List.mem_singleton.1 hs]; omega
 have h3 := of_decide_eq_false h3
 obtain rfl : i = (seed :: ps).length := by omega
 rw [List.take_length] at hall
 refine Wp.exit ?_
 refine Wp.drop (List.sublist_append_right _ _) ?_
 refine Yg 2 rfl ?_
 refine Yc rfl rfl (hopsC hks hr hl ?_ ?_)
 intro he
 ·skip
  refine Yz 5 rfl ?_
  refine Wp.seq ?_
  refine Yn 2 rfl ?_
  refine Cw rfl (by omega) fun cc1 => ?_
  refine Yn 4 rfl ?_
  refine Wp.ret ⟨trivial, _, ⟨_, _, rfl, rfl, _, _, rfl, rfl, _, _, rfl, rfl, rfl⟩, ?_⟩
  have hE : makeR seed ps path = ([], [], (((hopsGo [seed] ps).2 : Nat) : Int)) := by unfold makeR; rw [if_neg (fun h => h h1), if_neg (by omega), if_neg (by simpa using hall), if_pos he]
  rw [hE] at hbad
  exact ⟨S, .refl _, hbad (by simp only; omega)⟩
 intro he hlen zv es how
 have hE : makeR seed ps path = (headR seed ((hopsGo [seed] ps).1.map keysOf) (path.map encB), (hopsGo [seed] ps).1.map keysOf, 0) := by unfold makeR; rw [if_neg (fun h => h h1), if_neg (by omega), if_neg (by simpa using hall), if_neg (by omega)]
 rw [hE] at H
 clear hbad hE
 generalize hss : (hopsGo [seed] ps).1 = ss at *
 refine Yz 5 rfl ?_
 refine Wp.seq ?_
 refine Yn 2 rfl ?_
 refine Cn rfl ?_
 obtain ⟨hs0, hs32⟩ : ss.length = ps.length ∧ ∀ s ∈ ss, s.length = 32 := by rw [← hss]; exact hopsGo_len _ _ he
 have hn0 : 0 < ss.length := by omega
 have hn5 : ss.length ≤ 5 := by omega
 rw [← hs0] at how
 obtain ⟨hb, ho, hcap, hll, ht, hfz, hzv, hhm, hhat⟩ := Reads.elem how.reads (hopC_flat ss) hn0
 subst hzv
 have hcapl : ss.length ≤ hcap := own_cap how rfl
 obtain ⟨ks, hks2⟩ : ∃ ks, ks = ss.map keysOf := ⟨_, rfl⟩
 rw [← hks2] at H
 have hkl : ks.length = ss.length := by rw [hks2, List.length_map]
 have hkg : ∀ i (h : i < ss.length) (h2 : i < ks.length), ks[i] = keysOf ss[i] := fun i h h2 => by subst hks2; simp
 have hk32 : ∀ k ∈ ks, k.flow.length = 32 ∧ k.mac.length = 32 := fun k hk => by rw [hks2] at hk; obtain ⟨s, _, rfl⟩ := List.mem_map.1 hk; exact ⟨(keysOf_lens s).1, (keysOf_lens s).2.1⟩
 refine Wp.skip ?_
 refine Yn 1 rfl ?_
 refine Wp.seq ?_
 refine Yg 4 rfl ?_
 refine OWp.g rfl rfl (Gives.sliceSlice (l := 0) (h' := ss.length - 1) rfl rfl rfl rfl rfl ⟨_, _, rfl, (by rw [i64_id] <;> omega)⟩ (by omega) (by omega) (by omega)) ?_
 rw [Nat.sub_zero]
 refine Yz 2 rfl ?_
 refine Wp.block ?_
 refine Wp.loopS (α := Nat) (fun i => ss.length - 1 - i) (fun i => [(0, .string (str seed)), (2, .slice pa path.length pc), (7, .slice none 0 0), (12, .slice (some ⟨hb, ho, none⟩) ss.length hcap), (13, .string (str (fillGo [] (ks.take i)))), (62, .slice (some ⟨hb, ho, none⟩) (ss.length - 1) hcap), (63, .int .i64 ((ss.length - 1 : Nat) : Int)), (64, .int .i64 (i : Int))]) (fun _ => es ++ S) (fun i => i ≤ ss.length - 1) 0 ?_ (.refl _) (Nat.zero_le _) ?_
 ·exact .cons rfl (.cons rfl (.cons rfl (.cons rfl (.cons rfl (.cons rfl (.cons rfl (.cons rfl (.nil _))))))))
 rintro i hi
 have hfl : ∀ j, j ≤ ss.length - 1 → (fillGo [] (ks.take j)).length = 40 * j := fun j hj => by rw [fillGo_len _ _ (by rw [List.length_take]; simp; omega), List.length_take]; simp; omega
 refine Yn 1 rfl ?_
 refine Wp.seq ?_
 refine Wp.cond rfl (fun h5 => ?_) (fun h5 => ?_)
 ·have h5 := of_decide_eq_true h5
  have hi1 : i < ss.length - 1 := by omega
  refine Wp.skip ?_
  refine Wp.seq ?_
  refine Wp.block ?_
  refine Yq ?_
  refine OWp.g rfl rfl (Gives.indexAddrSlice (i) rfl rfl rfl rfl rfl rfl (by omega)) ?_
  refine OWp.load (List.mem_append_left _ hhm) rfl rfl rfl rfl (partAt_agg (hhat i (by omega)) rfl rfl rfl) ?_
  refine Ya rfl rfl rfl rfl fun L15 hBL15 hLL15 => ?_
  refine OWp.step rfl (Step.storeAs 0 (hopC ss[i] (keysOf ss[i])) rfl rfl rfl rfl rfl (by assumption) rfl (Unfz.zero _) rfl (Nat.le_of_ble_eq_true rfl) rfl rfl ?_)
  refine OWp.nil ?_
  refine Yg 1 rfl ?_
  refine Yc rfl rfl (hzerosC (n := 40) (by decide) ?_)
  refine OWp.g rfl rfl (Gives.addStr rfl rfl rfl (by rw [hfl i hi, List.length_replicate]; omega)) ?_
  refine Yz 1 rfl ?_
  refine Wp.region ?_
  refine Yl m0 ?_
  refine Ye 4 rfl ?_
  refine Yc rfl rfl (hflowIntC (a := 240 - (40 * i + 40)) (by rw [List.length_append, hfl i hi, List.length_replicate, i64_id] <;> omega) ((keysOf_lens _).1) (by rw [List.length_append, hfl i hi, List.length_replicate]; omega) ?_)
  refine Yz 1 rfl ?_
  refine Wp.dropAt 0 rfl ?_
  refine Wp.region ?_
  refine Yz 2 rfl ?_
  exact ⟨i + 1, by omega, by omega, .cons rfl (.cons rfl (.cons rfl (.cons rfl (.cons' rfl (by rw [List.take_succ_eq_append_getElem (by omega), fillGo_snoc, hfl i hi, hkg i (by omega)]) (.cons rfl (.cons rfl (.cons' rfl (int_eq (i64_inc (by omega))) (.nil _)))))))), .refl _⟩
 have h5 := of_decide_eq_false h5
 obtain rfl : i = ss.length - 1 := by omega
 obtain ⟨fill, hfill⟩ : ∃ f, f = fillGo [] ks.dropLast := ⟨_, rfl⟩
 have hdl : ks.take (ss.length - 1) = ks.dropLast := by rw [← hkl, List.dropLast_eq_take]
 have hfle : fill.length = 40 * (ss.length - 1) := by rw [hfill, ← hdl]; exact hfl _ hi
 rw [hdl, ← hfill]
 refine Wp.exit ?_
 refine Yg 1 rfl ?_
 refine OWp.g rfl rfl (Gives.build rfl rfl) ?_
 refine Yc rfl rfl (hkeyC (n := 200) (label := [112, 97, 100]) hks.append (by decide) (by have := hall seed (List.mem_cons_self ..); rw [this]; decide) (by decide) ?_)
 refine Yz 1 rfl ?_
 refine Yq ?_
 refine Yc rfl rfl (hzerosC (n := 16) (by decide) ?_)
 obtain ⟨pad, hpad⟩ : ∃ f, f = derive seed [112, 97, 100] 200 := ⟨_, rfl⟩
 have hpl : pad.length = 200 := by rw [hpad, derive_len]
 rw [← hpad]
 obtain ⟨bk, hbk⟩ : ∃ b, b = (path.map encB).zip ks := ⟨_, rfl⟩
 have hbl : bk.length = ss.length := by rw [hbk, List.length_zip, List.length_map, hkl]; omega
 have hbg : ∀ i (h : i < ss.length) (h2 : i < bk.length) (h3 : i < path.length), bk[i] = (encB path[i], keysOf ss[i]) := fun i h h2 h3 => by subst hbk; rw [List.getElem_zip, List.getElem_map, hkg i h]
 have hb24 : ∀ x ∈ bk, x.1.length = 24 := fun x hx => by rw [hbk] at hx; obtain ⟨y, hy, e⟩ := List.mem_map.1 (List.of_mem_zip hx).1; rw [← e]; exact encB_good (hgood _ hy)
 have hL := fun j => listR_len (pad := pad) (fill := fill) hpl (by omega) (bk.drop j) (fun x hx => hb24 x (List.mem_of_mem_drop hx))
 refine Yz 1 rfl ?_
 refine Wp.seq ?_
 refine Yn 4 rfl ?_
 refine Wp.block ?_
 refine Wp.loopS (α := Nat) (fun j => ss.length - j) (fun j => [(0, .string (str seed)), (2, .slice pa path.length pc), (7, .slice none 0 0), (12, .slice (some ⟨hb, ho, none⟩) ss.length hcap), (13, .string (str fill)), (16, .string (str (listR pad fill (bk.drop (ss.length - j))).2)), (17, .string (str (listR pad fill (bk.drop (ss.length - j))).1)), (18, .int .i64 ((ss.length : Int) - 1 - (j : Int)))]) (fun _ => es ++ S) (fun j => j ≤ ss.length) 0 ?_ (.refl _) (Nat.zero_le _) ?_
 ·exact .cons rfl (.cons rfl (.cons rfl (.cons rfl (.cons rfl (.cons' rfl (by rw [Nat.sub_zero, ← hbl, List.drop_length]; rfl) (.cons' rfl (by rw [Nat.sub_zero, ← hbl, List.drop_length]; rfl) (.cons' rfl (int_eq (by rw [i64_id] <;> omega)) (.nil _))))))))
 rintro j hj
 refine Wp.seq ?_
 refine Yn 2 rfl ?_
 refine Wp.cond rfl (fun h7 => ?_) (fun h7 => ?_)
 ·have h7 := of_decide_eq_true h7
  have hj1 : j < ss.length := by omega
  obtain ⟨i, hi⟩ : ∃ i, i = ss.length - (j + 1) := ⟨_, rfl⟩
  have hi2 : ss.length - j = i + 1 := by omega
  have hi3 : (ss.length : Int) - 1 - (j : Int) = (i : Int) := by omega
  have hdr : bk.drop (ss.length - (j + 1)) = (encB (path[i]'(by omega)), keysOf (ss[i]'(by omega))) :: bk.drop (i + 1) := by rw [← hi, List.drop_eq_getElem_cons (by omega), hbg i (by omega) (by omega) (by omega)]
  have hdl2 : (bk.drop (i + 1)).length = j := by rw [List.length_drop, hbl]; omega
  have hLi := hL (i + 1)
  have he24 : (encB (path[i]'(by omega))).length = 24 := encB_good (hgood _ (List.getElem_mem _))
  obtain ⟨qb, qo, qcap, qll, qt, qfz, qzv, qhm, qat⟩ := Reads.elem hr2 (C.hop_flat _) hpos
  cases qzv
  rw [hi2, hi3]
  refine Wp.skip ?_
  refine Wp.seq ?_
  refine Wp.block ?_
  refine Yg 2 rfl ?_
  refine OWp.g rfl rfl (Gives.indexAddrSlice (i) rfl rfl rfl rfl rfl rfl (by omega)) ?_
  refine OWp.load (List.mem_append_right _ qhm) rfl rfl rfl rfl (partAt_agg (qat i (by omega)) rfl rfl rfl) ?_
  refine Yc rfl rfl (C.encodeC ?_)
  obtain ⟨px, hpx⟩ : ∃ p, p = listR pad fill (bk.drop (i + 1)) := ⟨_, rfl⟩
  obtain ⟨bb, hbb⟩ : ∃ b, b = encB (path[i]'(by omega)) := ⟨_, rfl⟩
  rw [← hpx] at hLi
  rw [← hbb] at he24
  rw [← hpx, ← hbb]
  refine Yz 5 rfl ?_
  refine Yg 2 rfl ?_
  refine OWp.g rfl rfl (Gives.addStr rfl rfl rfl (by rw [he24, hLi.1]; decide)) ?_
  refine Ye 1 rfl ?_
  refine OWp.g rfl rfl (Gives.addStr rfl rfl rfl (by rw [List.length_append, he24, hLi.1, hLi.2]; decide)) ?_
  have hpl24 : (bb ++ px.1 ++ px.2).length = 240 := by rw [List.length_append, List.length_append, he24, hLi.1, hLi.2]
  have hrl := restR_len (k := keysOf (ss[i]'(by omega))) (m := j) (fill := fill) (by omega) he24 hLi.1 hLi.2
  have hrd : listR pad fill (bk.drop (ss.length - (j + 1))) = (macX (keysOf (ss[i]'(by omega))) (restR fill bb (keysOf (ss[i]'(by omega))) px j), restR fill bb (keysOf (ss[i]'(by omega))) px j) := by rw [hdr, listR_cons, hdl2, ← hpx, ← hbb]
  refine Yz 1 rfl ?_
  refine Wp.seqS (α := Unit) (fun _ => [(0, .string (str seed)), (2, .slice (some ⟨qb, qo, none⟩) path.length pc), (7, .slice none 0 0), (12, .slice (some ⟨hb, ho, none⟩) ss.length hcap), (13, .string (str fill)), (16, .string (str (restR fill bb (keysOf (ss[i]'(by omega))) px j))), (18, .int .i64 (i : Int))]) (fun _ => es ++ S) (fun _ => True) ?_ ?_
  ·skip
   refine Yn 5 rfl ?_
   refine Wp.cond rfl (fun h8 => ?_) (fun h8 => ?_)
   ·have h8 := of_decide_eq_true h8
    have h8' : j = 0 := by rw [i64_id (by omega) (by omega)] at h8; omega
    refine Wp.regionDraw [0, 1, 2, 3, 4, 5, 6, 7, 8, 10, 9, 11, 12] [9] rfl (by decide +kernel) ?_
    refine DWp.evs 2 rfl ?_
    refine DWp.g rfl rfl rfl rfl (Gives.indexAddrSlice (i) rfl rfl rfl rfl rfl rfl (by omega)) ?_
    refine DWp.load (List.mem_append_left _ hhm) rfl rfl rfl rfl rfl rfl (partAt_agg (hhat i (by omega)) rfl rfl rfl) ?_
    refine DWp.evs 4 rfl ?_
    refine DWp.g rfl rfl rfl rfl (Gives.sliceStr (l := 0) (h' := 200 - fill.length) rfl rfl rfl rfl ⟨_, _, rfl, (by rw [i64_id] <;> omega)⟩ (by omega) (by omega)) ?_
    refine DWp.evs 1 rfl ?_
    refine DWp.stepGrow rfl rfl rfl (Step.call rfl rfl rfl rfl rfl rfl ((hflowC (a := 0) ((keysOf_lens _).1) (by rw [List.length_take, List.length_drop]; omega) ?_)))
    refine ⟨fun _ hy => hy, ?_⟩
    refine DWp.g rfl rfl rfl rfl (Gives.addStr rfl rfl rfl (by rw [flowX_len _ (by rw [List.length_take, List.length_drop]; omega), List.length_take]; omega)) ?_
    refine DWp.evs 1 rfl ?_
    refine DWp.nil ?_
    refine ⟨(), trivial, .cons rfl (.cons rfl (.cons rfl (.cons rfl (.cons rfl (.cons' rfl ?_ (.cons rfl (.nil _))))))), .refl _⟩
    unfold restR
    rw [if_pos h8', Nat.sub_zero, List.drop_zero]
   have h8 := of_decide_eq_false h8
   have h8' : ¬ j = 0 := by rw [i64_id (by omega) (by omega)] at h8; omega
   refine Wp.regionDraw [0, 1, 2, 3, 4, 5, 6, 7] [6] rfl (by decide +kernel) ?_
   refine DWp.evs 2 rfl ?_
   refine DWp.g rfl rfl rfl rfl (Gives.indexAddrSlice (i) rfl rfl rfl rfl rfl rfl (by omega)) ?_
   refine DWp.load (List.mem_append_left _ hhm) rfl rfl rfl rfl rfl rfl (partAt_agg (hhat i (by omega)) rfl rfl rfl) ?_
   refine DWp.evs 1 rfl ?_
   refine DWp.g rfl rfl rfl rfl (Gives.sliceStr (l := 0) (h' := 200) rfl rfl rfl rfl ⟨_, _, rfl, rfl⟩ (by decide) (by omega)) ?_
   refine DWp.stepGrow rfl rfl rfl (Step.call rfl rfl rfl rfl rfl rfl ((hflowC (a := 0) ((keysOf_lens _).1) (by rw [List.length_take, List.length_drop]; omega) ?_)))
   refine ⟨fun _ hy => hy, ?_⟩
   refine DWp.evs 1 rfl ?_
   refine DWp.nil ?_
   refine ⟨(), trivial, .cons rfl (.cons rfl (.cons rfl (.cons rfl (.cons rfl (.cons' rfl ?_ (.cons rfl (.nil _))))))), .refl _⟩
   unfold restR
   rw [if_neg h8', Nat.sub_zero, List.drop_zero]
  rintro ⟨⟩ -
  refine Wp.region ?_
  refine Ye 2 rfl ?_
  refine OWp.g rfl rfl (Gives.indexAddrSlice (i) rfl rfl rfl rfl rfl rfl (by omega)) ?_
  refine OWp.load (List.mem_append_left _ hhm) rfl rfl rfl rfl (partAt_agg (hhat i (by omega)) rfl rfl rfl) ?_
  refine Ye 1 rfl ?_
  refine Yc rfl rfl (hmacC hks.append (by rw [(keysOf_lens _).2.1]; decide) (by rw [hrl]; decide) ?_)
  refine Yz 1 rfl ?_
  refine Wp.region ?_
  refine Yz 3 rfl ?_
  refine ⟨j + 1, by omega, by omega, .cons rfl (.cons rfl (.cons rfl (.cons rfl (.cons rfl (.cons' rfl (by rw [hrd]) (.cons' rfl (by rw [hrd]) (.cons' rfl (int_eq (by rw [i64_id] <;> omega)) (.nil _)))))))), .refl _⟩
 have h7 := of_decide_eq_false h7
 obtain rfl : j = ss.length := by omega
 rw [Nat.sub_self, List.drop_zero]
 obtain ⟨px, hpx⟩ : ∃ p, p = listR pad fill bk := ⟨_, rfl⟩
 have hLi := hL 0
 rw [List.drop_zero, ← hpx] at hLi
 rw [← hpx]
 refine Wp.exit ?_
 refine Wp.seq ?_
 refine Yn 3 rfl ?_
 refine Wp.block ?_
 refine Wp.loopS (α := Nat × Value × Ents) (fun z => ss.length - z.1) (fun z => [(0, .string (str seed)), (7, z.2.1), (16, .string (str px.2)), (17, .string (str px.1)), (132, .slice (some ⟨hb, ho, none⟩) ss.length hcap), (133, .int .i64 (ss.length : Int)), (134, .int .i64 (z.1 : Int))]) (fun z => z.2.2 ++ (es ++ S)) (fun z => z.1 ≤ ss.length ∧ Lg.Own B 124 5 z.2.1 z.1 (keysV (ks.take z.1)) z.2.2) (0, .slice none 0 0, []) ?_ (.refl _) ⟨Nat.zero_le _, Own.nil _ _ _⟩ ?_
 ·exact .cons rfl (.cons rfl (.cons rfl (.cons rfl (.cons rfl (.cons rfl (.cons rfl (.nil _)))))))
 rintro ⟨i, kv, e3⟩ ⟨hi, ho3⟩
 simp only at hi ho3 ⊢
 obtain ⟨ka, kc, rfl⟩ := ho3.reads.form
 refine Yn 1 rfl ?_
 refine Wp.seq ?_
 refine Wp.cond rfl (fun h9 => ?_) (fun h9 => ?_)
 ·have h9 := of_decide_eq_true h9
  have hi1 : i < ss.length := by omega
  refine Wp.skip ?_
  refine Wp.seq ?_
  refine Wp.block ?_
  refine Yq ?_
  refine OWp.g rfl rfl (Gives.indexAddrSlice (i) rfl rfl rfl rfl rfl rfl (by omega)) ?_
  refine OWp.load (List.mem_append_right _ (List.mem_append_left _ hhm)) rfl rfl rfl rfl (partAt_agg (hhat i (by omega)) rfl rfl rfl) ?_
  refine Ya rfl rfl rfl rfl fun L23 hBL23 hLL23 => ?_
  refine OWp.step rfl (Step.storeAs 0 (hopC ss[i] (keysOf ss[i])) rfl rfl rfl rfl rfl (by assumption) rfl (Unfz.zero _) rfl (Nat.le_of_ble_eq_true rfl) rfl rfl ?_)
  refine OWp.nil ?_
  refine Wp.region ?_
  refine Ye 2 rfl ?_
  refine Yl m0 ?_
  refine OWp.step rfl (Step.buildSlice rfl rfl rfl ?_); intro L24 hBL24 hLL24
  refine OWp.step rfl (Step.appendAt [_, _] rfl rfl rfl rfl rfl rfl (by decide) rfl rfl ho3 (Reads.row (k := 1) (sz := 5) (.head _) (Nat.le_of_ble_eq_true rfl)) rfl (by show (_ + 1) * 80 ≤ _; omega) (by unfold maxLen; omega) ?_)
  intro kv2 e32 ho32 _
  refine Yz 1 rfl ?_
  refine Wp.drop (.cons _ (.cons _ (.refl _))) ?_
  refine Wp.region ?_
  refine Yz 2 rfl ?_
  exact ⟨(i + 1, kv2, e32), by simp only; omega, ⟨by simp only; omega, by simp only; rw [List.take_succ_eq_append_getElem (by omega), keysV_snoc, hkg i hi1]; exact ho32⟩, .cons rfl (.cons rfl (.cons rfl (.cons rfl (.cons rfl (.cons rfl (.cons' rfl (int_eq (i64_inc (by omega))) (.nil _))))))), .refl _⟩
 have h9 := of_decide_eq_false h9
 obtain rfl : i = ss.length := by omega
 rw [List.take_of_length_le (by omega)] at ho3
 refine Wp.exit ?_
 refine Yg 1 rfl ?_
 refine Yc rfl rfl (publicC ?_)
 have hpb : (publicR seed).1.length = 32 := by
  have hs := hall seed (List.mem_cons_self ..)
  exact timesR_len (by unfold timesR; rw [if_pos ⟨hs, by decide⟩])
 refine Yz 5 rfl ?_
 refine Yg 2 rfl ?_
 refine OWp.g rfl rfl (Gives.addStr rfl rfl rfl (by rw [hpb, hLi.1]; decide)) ?_
 refine Ye 1 rfl ?_
 refine OWp.g rfl rfl (Gives.addStr rfl rfl rfl (by rw [List.length_append, hpb, hLi.1, hLi.2]; decide)) ?_
 refine Yz 4 rfl ?_
 refine Wp.ret ⟨trivial, _, ⟨_, _, rfl, rfl, _, _, rfl, rfl, _, _, rfl, rfl, rfl⟩, ?_⟩
 refine ⟨_, (List.Sublist.refl _).append (List.sublist_append_right _ _), ?_⟩
 have hh : headR seed ks (path.map encB) = (publicR seed).1 ++ px.1 ++ px.2 := by unfold headR; rw [← hpad, ← hfill, ← hbk, ← hpx]
 rw [hh] at H
 have hq := H rfl _ _ (by rw [← h2', ← hs0]; exact ho3)
 exact hq
end
end Go.Proofs.D

namespace Go.Proofs.D
open Go.Lg Go.Sha Go.Hd Go.Cv
open Go.Proofs.C (Hop hopP hopB parse)
set_option maxRecDepth 100000
def _root_.Go.Hd.HK.zero : HK := ⟨[], [], [], [], []⟩
/-- The command whose bytes these are, or none. -/
def decF (b : List UInt8) : Hop × Int := if hopP (parse true b) ∧ hopB (parse true b) = b then (parse true b, 0) else (Hop.zero, 70)
/-- What a hop sees of a header whose mac is right. -/
def openR (k : HK) (point list : List UInt8) : Hop × List UInt8 × HK × Int :=
 let plain := flowX k (list ++ List.replicate 40 0) 0
 if (decF (plain.take 24)).2 ≠ 0 then (Hop.zero, [], HK.zero, (decF (plain.take 24)).2)
 else if (decF (plain.take 24)).1.kind ≠ 1 then ((decF (plain.take 24)).1, [], k, 0)
 else ((decF (plain.take 24)).1, (timesR k.blind point).1 ++ plain.drop 24, k, 0)
def peelR (priv header : List UInt8) : Hop × List UInt8 × HK × Int :=
 if ¬ (priv.length = 32 ∧ header.length = 248) then (Hop.zero, [], HK.zero, 3)
 else if (sharedR priv (header.take 32)).2 ≠ 0 then (Hop.zero, [], HK.zero, ((sharedR priv (header.take 32)).2 : Nat))
 else if macX (keysOf (sharedR priv (header.take 32)).1) (header.drop 48) ≠ (header.drop 32).take 16 then (Hop.zero, [], HK.zero, 81)
 else openR (keysOf (sharedR priv (header.take 32)).1) (header.take 32) (header.drop 48)
attribute [local irreducible] derive hmac stream sharedR timesR
section
variable {B : Nat} {S R : Ents} {Q : Value → Ents → Prop}
theorem decodeF {b : List UInt8} (hb : b.length = 24) (H : Q (.tuple #[.agg (decF b).1.cells.toArray, .int .i64 (decF b).2]) S) : CallWp Tryz.prog B 74 #[.string (str b)] Q S := by
 refine C.decodeC hb ⟨fun x hx he => ?_, fun hn => ?_⟩
 ·have e : parse true b = x := by rw [← he]; exact C.parse_hopB hx true
  unfold decF at H
  rw [e, if_pos ⟨hx, he⟩] at H
  exact H
 ·unfold decF at H
  rw [if_neg (fun h => hn _ h.1 h.2)] at H
  exact H
set_option maxHeartbeats 4000000 in
theorem peelC {priv header : List UInt8} (hks : KsIn S) (H : Q (.tuple #[.agg (peelR priv header).1.cells.toArray, .string (str (peelR priv header).2.1), .agg (peelR priv header).2.2.1.cells.toArray, .int .i64 (peelR priv header).2.2.2]) S) : CallWp Tryz.prog B 35 #[.string (str priv), .string (str header)] Q S := by
 refine CallWp.dropRet ?_
 refine Yx (args := [_, _]) Tryz.func35 Tryz.ntmps35 ?_
 refine Yq ?_
 refine Ya rfl rfl rfl rfl fun L4 hBL4 hLL4 => ?_
 refine Ye 1 rfl ?_
 refine Ya rfl rfl rfl rfl fun L6 hBL6 hLL6 => ?_
 refine Yz 1 rfl ?_
 refine Wp.seq ?_
 refine Yg 4 rfl ?_
 refine OWp.part 17 rfl (fun h1 => ?_) (fun h1 => ?_)
 ·have h1 := ndT h1
  have hE : peelR priv header = (Hop.zero, [], HK.zero, 3) := by unfold peelR; rw [if_pos (by omega)]
  rw [hE] at H
  refine Yz 4 rfl ?_
  refine Cy rfl ?_
  refine Wp.seq (Wp.regionDraw [0, 1, 2, 3, 4, 5] [2, 4] rfl (by decide +kernel) ?_)
  refine Yd m1 ?_
  refine Yd m0 ?_
  refine DWp.step rfl rfl rfl (Step.storeAs 1 (Hop.zero.cells) rfl rfl rfl rfl rfl (by assumption) rfl (Unfz.zero _) rfl (Nat.le_of_ble_eq_true rfl) rfl rfl ?_)
  refine prs ?_
  refine DWp.evs 1 rfl ?_
  refine DWp.stepAll rfl rfl rfl rfl (Step.storeAs 0 (HK.zero.cells) rfl rfl rfl rfl rfl (by assumption) rfl (Unfz.zero _) rfl (Nat.le_of_ble_eq_true rfl) rfl rfl ?_)
  refine DWp.evs 1 rfl ?_
  refine DWp.nil ?_
  refine Wp.ret ⟨trivial, _, ⟨_, _, _, _, rfl, rfl, ⟨_, _, _, mems, (by first | assumption | rfl)⟩, ⟨_, _, rfl, rfl, ⟨_, _, _, _, rfl, rfl, ⟨_, _, _, mems, (by first | assumption | rfl)⟩, ⟨_, _, rfl, rfl, rfl⟩⟩⟩⟩, ?_⟩
  exact ⟨S, subl, H⟩
 have h1 := ndF h1
 refine Yz 4 rfl ?_
 refine Wp.cond rfl (fun h2 => ?_) (fun h2 => ?_)
 ·have h2 := ndT h2
  have hE : peelR priv header = (Hop.zero, [], HK.zero, 3) := by unfold peelR; rw [if_pos (by omega)]
  rw [hE] at H
  refine Wp.seq (Wp.regionDraw [0, 1, 2, 3, 4, 5] [2, 4] rfl (by decide +kernel) ?_)
  refine Yd m1 ?_
  refine Yd m0 ?_
  refine DWp.step rfl rfl rfl (Step.storeAs 1 (Hop.zero.cells) rfl rfl rfl rfl rfl (by assumption) rfl (Unfz.zero _) rfl (Nat.le_of_ble_eq_true rfl) rfl rfl ?_)
  refine prs ?_
  refine DWp.evs 1 rfl ?_
  refine DWp.stepAll rfl rfl rfl rfl (Step.storeAs 0 (HK.zero.cells) rfl rfl rfl rfl rfl (by assumption) rfl (Unfz.zero _) rfl (Nat.le_of_ble_eq_true rfl) rfl rfl ?_)
  refine DWp.evs 1 rfl ?_
  refine DWp.nil ?_
  refine Wp.ret ⟨trivial, _, ⟨_, _, _, _, rfl, rfl, ⟨_, _, _, mems, (by first | assumption | rfl)⟩, ⟨_, _, rfl, rfl, ⟨_, _, _, _, rfl, rfl, ⟨_, _, _, mems, (by first | assumption | rfl)⟩, ⟨_, _, rfl, rfl, rfl⟩⟩⟩⟩, ?_⟩
  exact ⟨S, subl, H⟩
 have h2 := ndF h2
 have hp32 : priv.length = 32 := by omega
 have hh : header.length = 248 := by omega
 unfold peelR at H
 rw [if_neg (fun h => h ⟨hp32, hh⟩)] at H
 refine Wp.skip ?_
 refine Wp.seq (Wp.regionDraw [0, 1, 2, 3, 4, 5, 6, 7, 8] [] rfl (by decide +kernel) ?_)
 refine DWp.evs 1 rfl ?_
 refine DWp.g rfl rfl rfl rfl (Gives.sliceStr (l := 0) (h' := 32) rfl rfl rfl rfl ⟨_, _, rfl, rfl⟩ (by decide) (by omega)) ?_
 refine DWp.evs 1 rfl ?_
 refine DWp.g rfl rfl rfl rfl (Gives.sliceStr (l := 32) (h' := 48) rfl rfl rfl ⟨_, _, rfl, rfl⟩ ⟨_, _, rfl, rfl⟩ (by decide) (by omega)) ?_
 refine DWp.evs 1 rfl ?_
 refine DWp.g rfl rfl rfl rfl (Gives.sliceStr (l := 48) (h' := header.length) rfl rfl rfl ⟨_, _, rfl, rfl⟩ rfl (by omega) (by omega)) ?_
 obtain ⟨pt', hpt⟩ : ∃ p, p = header.take 32 := ⟨_, rfl⟩
 obtain ⟨tg, htg⟩ : ∃ p, p = (header.drop 32).take 16 := ⟨_, rfl⟩
 obtain ⟨ls, hls⟩ : ∃ p, p = header.drop 48 := ⟨_, rfl⟩
 have e1 : (header.drop 0).take (32 - 0) = pt' := hpt.symm
 have e2 : (header.drop 32).take (48 - 32) = tg := htg.symm
 have e3 : (header.drop 48).take (header.length - 48) = ls := by rw [hls, List.take_of_length_le (by rw [List.length_drop]; omega)]
 have htl : tg.length = 16 := by rw [htg, List.length_take, List.length_drop]; omega
 have hll : ls.length = 200 := by rw [hls, List.length_drop]; omega
 have hptl : pt'.length = 32 := by rw [hpt, List.length_take]; omega
 rw [← hpt, ← htg, ← hls] at H
 rw [e1, e2, e3]
 clear e1 e2 e3
 refine DWp.evs 3 rfl ?_
 refine DWp.nil ?_
 refine Yg 2 rfl ?_
 refine Yc rfl rfl (sharedC ?_)
 refine Yz 5 rfl ?_
 refine Wp.seq ?_
 refine Yn 2 rfl ?_
 refine Wp.cond rfl (fun h3 => ?_) (fun h3 => ?_)
 ·have h3 := ndT h3
  rw [if_pos (by omega)] at H
  refine Wp.seq (Wp.regionDraw [0, 1, 2, 3, 4, 5, 6] [3, 5] rfl (by decide +kernel) ?_)
  refine Yd m1 ?_
  refine Yd m0 ?_
  refine DWp.evs 1 rfl ?_
  refine DWp.step rfl rfl rfl (Step.storeAs 1 (Hop.zero.cells) rfl rfl rfl rfl rfl (by assumption) rfl (Unfz.zero _) rfl (Nat.le_of_ble_eq_true rfl) rfl rfl ?_)
  refine prs ?_
  refine DWp.evs 1 rfl ?_
  refine DWp.stepAll rfl rfl rfl rfl (Step.storeAs 0 (HK.zero.cells) rfl rfl rfl rfl rfl (by assumption) rfl (Unfz.zero _) rfl (Nat.le_of_ble_eq_true rfl) rfl rfl ?_)
  refine DWp.evs 1 rfl ?_
  refine DWp.nil ?_
  refine Wp.ret ⟨trivial, _, ⟨_, _, _, _, rfl, rfl, ⟨_, _, _, mems, (by first | assumption | rfl)⟩, ⟨_, _, rfl, rfl, ⟨_, _, _, _, rfl, rfl, ⟨_, _, _, mems, (by first | assumption | rfl)⟩, ⟨_, _, rfl, rfl, rfl⟩⟩⟩⟩, ?_⟩
  exact ⟨S, subl, H⟩
 have h3 := ndF h3
 have h3' : (sharedR priv pt').2 = 0 := by omega
 rw [if_neg (by omega)] at H
 have hsl := sharedR_len h3'
 generalize (sharedR priv pt').1 = sec at *
 refine Wp.skip ?_
 refine Yg 1 rfl ?_
 refine Yc rfl rfl (madeC hks.cons.cons (by rw [hsl]; decide) ?_)
 refine Ya rfl rfl rfl rfl fun L12 hBL12 hLL12 => ?_
 refine OWp.step rfl (Step.storeAs 0 (hopC sec (keysOf sec)) rfl rfl rfl rfl rfl (by assumption) rfl (Unfz.zero _) rfl (Nat.le_of_ble_eq_true rfl) rfl rfl ?_)
 obtain ⟨hkf, hkm, hkb, hkbl, hkt⟩ := keysOf_lens sec
 have hhop : hopC sec (keysOf sec) = .string (str sec) :: (keysOf sec).cells := rfl
 generalize hk : keysOf sec = k at *
 refine OWp.nil ?_
 refine Wp.seq ?_
 refine Yq ?_
 refine Yl m0 ?_
 refine Ye 1 rfl ?_
 refine Yc rfl rfl (hmacC (k := k) hks.cons.cons.cons (by rw [hkm]; decide) (by rw [hll]; decide) ?_)
 refine Ye 1 rfl ?_
 refine Yc rfl rfl (sameC (by rw [macX_len, htl]) (by rw [macX_len]; decide) ?_)
 refine Yz 1 rfl ?_
 refine Wp.cond rfl (fun h4 => ?_) (fun h4 => ?_)
 ·skip
  rw [if_pos (by simpa using h4)] at H
  refine Wp.seq (Wp.regionDraw [0, 1, 2, 3, 4, 5] [2, 4] rfl (by decide +kernel) ?_)
  refine Yd m2 ?_
  refine Yd m1 ?_
  refine DWp.step rfl rfl rfl (Step.storeAs 2 (Hop.zero.cells) rfl rfl rfl rfl rfl (by assumption) rfl (Unfz.zero _) rfl (Nat.le_of_ble_eq_true rfl) rfl rfl ?_)
  refine prs ?_
  refine DWp.evs 1 rfl ?_
  refine DWp.stepAll rfl rfl rfl rfl (Step.storeAs 1 (HK.zero.cells) rfl rfl rfl rfl rfl (by assumption) rfl (Unfz.zero _) rfl (Nat.le_of_ble_eq_true rfl) rfl rfl ?_)
  refine DWp.evs 1 rfl ?_
  refine DWp.nil ?_
  refine Wp.ret ⟨trivial, _, ⟨_, _, _, _, rfl, rfl, ⟨_, _, _, mems, (by first | assumption | rfl)⟩, ⟨_, _, rfl, rfl, ⟨_, _, _, _, rfl, rfl, ⟨_, _, _, mems, (by first | assumption | rfl)⟩, ⟨_, _, rfl, rfl, rfl⟩⟩⟩⟩, ?_⟩
  exact ⟨S, subl, H⟩
 rw [if_neg (by simpa using h4)] at H
 refine Wp.skip ?_
 refine Wp.seq (Wp.regionDraw [0, 1, 2, 3, 4, 5] [2, 4] rfl (by decide +kernel) ?_)
 refine Yd m0 ?_
 refine DWp.evs 1 rfl ?_
 refine DWp.stepGrow rfl rfl rfl (Step.call rfl rfl rfl rfl rfl rfl ((hzerosC (n := 40) (by decide) ?_)))
 refine ⟨fun _ hy => hy, ?_⟩
 refine DWp.g rfl rfl rfl rfl (Gives.addStr rfl rfl rfl (by rw [hll, List.length_replicate]; decide)) ?_
 refine DWp.stepAll rfl rfl rfl rfl (Step.call rfl rfl rfl rfl rfl rfl ((hflowC (a := 0) hkf (by rw [List.length_append, hll, List.length_replicate]; decide) ?_)))
 have hpl : (flowX k (ls ++ List.replicate 40 0) 0).length = 240 := by rw [flowX_len _ (by rw [List.length_append, hll, List.length_replicate]; decide), List.length_append, hll, List.length_replicate]
 unfold openR at H
 simp only at H
 generalize flowX k (ls ++ List.replicate 40 0) 0 = pl at *
 refine DWp.evs 1 rfl ?_
 refine DWp.nil ?_
 refine Wp.seq ?_
 refine Yg 1 rfl ?_
 refine OWp.g rfl rfl (Gives.sliceStr (l := 0) (h' := 24) rfl rfl rfl rfl ⟨_, _, rfl, rfl⟩ (by decide) (by omega)) ?_
 rw [show (pl.drop 0).take (24 - 0) = pl.take 24 from rfl]
 refine Yc rfl rfl (decodeF (by rw [List.length_take]; omega) ?_)
 generalize decF (pl.take 24) = d at *
 obtain ⟨hop, de⟩ := d
 simp only at H ⊢
 refine Ye 3 rfl ?_
 refine OWp.step rfl (Step.storeAs 2 (hop.cells) rfl rfl rfl rfl rfl (by assumption) rfl (Unfz.zero _) rfl (Nat.le_of_ble_eq_true rfl) rfl rfl ?_)
 refine Yz 1 rfl ?_
 refine Yn 2 rfl ?_
 refine Wp.cond rfl (fun h5 => ?_) (fun h5 => ?_)
 ·have h5 := ndT h5
  rw [if_pos (by omega)] at H
  refine Wp.seq (Wp.regionDraw [0, 1, 2, 3, 4, 5, 6] [3, 5] rfl (by decide +kernel) ?_)
  refine DWp.g rfl rfl rfl rfl (Gives.build rfl rfl) ?_
  refine Yd m1 ?_
  refine DWp.evs 1 rfl ?_
  refine DWp.step rfl rfl rfl (Step.storeAs 2 (Hop.zero.cells) rfl rfl rfl rfl rfl (by assumption) rfl (Unfz.zero _) rfl (Nat.le_of_ble_eq_true rfl) rfl rfl ?_)
  refine prs ?_
  refine DWp.evs 1 rfl ?_
  refine DWp.stepAll rfl rfl rfl rfl (Step.storeAs 1 (HK.zero.cells) rfl rfl rfl rfl rfl (by assumption) rfl (Unfz.zero _) rfl (Nat.le_of_ble_eq_true rfl) rfl rfl ?_)
  refine DWp.evs 1 rfl ?_
  refine DWp.nil ?_
  refine Wp.ret ⟨trivial, _, ⟨_, _, _, _, rfl, rfl, ⟨_, _, _, mems, (by first | assumption | rfl)⟩, ⟨_, _, rfl, rfl, ⟨_, _, _, _, rfl, rfl, ⟨_, _, _, mems, (by first | assumption | rfl)⟩, ⟨_, _, rfl, rfl, rfl⟩⟩⟩⟩, ?_⟩
  exact ⟨S, subl, H⟩
 have h5 := ndF h5
 rw [if_neg (by omega)] at H
 refine Wp.skip ?_
 refine Wp.seq ?_
 refine Yg 1 rfl ?_
 refine Yl m2 ?_
 refine Yz 1 rfl ?_
 refine Wp.cond rfl (fun h6 => ?_) (fun h6 => ?_)
 ·have h6 := ndT h6
  rw [if_pos (by omega)] at H
  refine Wp.seq (Wp.regionDraw [0, 1, 2, 3, 4, 5, 6] [3, 5] rfl (by decide +kernel) ?_)
  refine Yd m2 ?_
  refine DWp.evs 1 rfl ?_
  refine Yd m0 ?_
  refine DWp.step rfl rfl rfl (Step.storeAs 2 (hop.cells) rfl rfl rfl rfl rfl (by assumption) rfl (Unfz.zero _) rfl (Nat.le_of_ble_eq_true rfl) rfl rfl ?_)
  refine prs ?_
  refine DWp.evs 1 rfl ?_
  refine DWp.stepAll rfl rfl rfl rfl (Step.storeAs 1 (k.cells) rfl rfl rfl rfl rfl (by assumption) rfl (Unfz.zero _) rfl (Nat.le_of_ble_eq_true rfl) rfl rfl ?_)
  refine DWp.evs 1 rfl ?_
  refine DWp.nil ?_
  refine Wp.ret ⟨trivial, _, ⟨_, _, _, _, rfl, rfl, ⟨_, _, _, mems, (by first | assumption | rfl)⟩, ⟨_, _, rfl, rfl, ⟨_, _, _, _, rfl, rfl, ⟨_, _, _, mems, (by first | assumption | rfl)⟩, ⟨_, _, rfl, rfl, rfl⟩⟩⟩⟩, ?_⟩
  exact ⟨S, subl, H⟩
 have h6 := ndF h6
 rw [if_neg (by omega)] at H
 refine Wp.skip ?_
 refine Yg 2 rfl ?_
 refine Yl m0 ?_
 refine Ye 1 rfl ?_
 refine Yc rfl rfl (timesCC ?_)
 have htn : (timesR k.blind pt').1.length = 32 := timesR_len (by unfold timesR; rw [if_pos ⟨hkbl, hptl⟩])
 refine Yz 4 rfl ?_
 refine Wp.seq (Wp.regionDraw [0, 1, 2, 3, 4, 5, 6, 7, 8, 9, 10] [7, 9] rfl (by decide +kernel) ?_)
 refine Yd m2 ?_
 refine DWp.evs 2 rfl ?_
 refine DWp.g rfl rfl rfl rfl (Gives.sliceStr (l := 24) (h' := pl.length) rfl rfl rfl ⟨_, _, rfl, rfl⟩ rfl (by omega) (by omega)) ?_
 rw [show (pl.drop 24).take (pl.length - 24) = pl.drop 24 by rw [List.take_of_length_le (by rw [List.length_drop]; omega)]]
 refine DWp.g rfl rfl rfl rfl (Gives.addStr rfl rfl rfl (by rw [htn, List.length_drop]; omega)) ?_
 refine DWp.evs 1 rfl ?_
 refine Yd m0 ?_
 refine DWp.step rfl rfl rfl (Step.storeAs 2 (hop.cells) rfl rfl rfl rfl rfl (by assumption) rfl (Unfz.zero _) rfl (Nat.le_of_ble_eq_true rfl) rfl rfl ?_)
 refine prs ?_
 refine DWp.evs 1 rfl ?_
 refine DWp.stepAll rfl rfl rfl rfl (Step.storeAs 1 (k.cells) rfl rfl rfl rfl rfl (by assumption) rfl (Unfz.zero _) rfl (Nat.le_of_ble_eq_true rfl) rfl rfl ?_)
 refine DWp.evs 1 rfl ?_
 refine DWp.nil ?_
 refine Wp.ret ⟨trivial, _, ⟨_, _, _, _, rfl, rfl, ⟨_, _, _, mems, (by first | assumption | rfl)⟩, ⟨_, _, rfl, rfl, ⟨_, _, _, _, rfl, rfl, ⟨_, _, _, mems, (by first | assumption | rfl)⟩, ⟨_, _, rfl, rfl, rfl⟩⟩⟩⟩, ?_⟩
 exact ⟨S, subl, H⟩
end
end Go.Proofs.D

/- Laws of wide blocks: the works, what is laid open, what is turned. -/
namespace Go.Sha

def wstep (key : List UInt8) (x : List UInt8 × List UInt8) (i : Nat) : List UInt8 × List UInt8 := if i % 2 = 0 then wflow key i x else wpress key i x
/-- A block's answer, and why there is none. -/
def blockR (f : List UInt8 → List UInt8) (b : List UInt8) : List UInt8 × Nat :=
  if b.length < 64 then ([], 3) else if 8192 < b.length then ([], 2) else (f b, 0)
def wrapR (key text : List UInt8) (n : Int) : List UInt8 × Nat :=
  if n < 64 then ([], 3) else if 8192 < n ∨ n - 34 < (text.length : Int) then ([], 2) else (wshut key (wplain text n.toNat), 0)
def unwrapT : Option (List UInt8) → List UInt8 × Nat
  | some t => (t, 0)
  | none => ([], 90)
def unwrapR (key b : List UInt8) : List UInt8 × Nat :=
  if b.length < 64 then ([], 3) else if 8192 < b.length then ([], 2) else unwrapT (wtext (wopen key b))

/-- The bytes of a block as they are laid, text byte by text byte. -/
def plainAt (text : List UInt8) (n i : Nat) : List UInt8 :=
  List.replicate 32 0 ++ (UInt8.ofNat (text.length / 256) :: UInt8.ofNat text.length :: (text.take i ++ List.replicate (n - 34 - i) 0))
end Go.Sha

namespace Go.Proofs.D
open Go.Sha
theorem dropZ_nil {l : List UInt8} : l.dropWhile (· == 0) = [] ↔ l.all (· == 0) = true := by
  induction l with
  | nil => simp
  | cons a l ih =>
    rw [List.dropWhile_cons, List.all_cons]
    split
    · rename_i h; simp only [h, Bool.true_and]; exact ih
    · rename_i h; simp [h]
theorem trim_nil {l : List UInt8} : trim l = [] ↔ l.all (· == 0) = true := by
  unfold trim
  rw [dropZ_nil]
  constructor
  · intro h
    rw [List.all_reverse] at h
    have h2 : l.reverse.dropWhile (· == 0) = [] := by
      by_cases h3 : l.reverse.dropWhile (· == 0) = []
      · exact h3
      · have := List.head_dropWhile_not (p := (· == (0 : UInt8))) (w := h3)
        have h4 := List.all_eq_true.1 h _ (List.head_mem h3)
        simp_all
    have := dropZ_nil.1 h2
    rwa [List.all_reverse] at this
  · intro h
    have : l.reverse.dropWhile (· == 0) = [] := dropZ_nil.2 (by rw [List.all_reverse]; exact h)
    rw [this]; rfl
theorem trim_all {l : List UInt8} (h : l.all (· == 0) = true) : trim l = [] := trim_nil.2 h
end Go.Proofs.D
