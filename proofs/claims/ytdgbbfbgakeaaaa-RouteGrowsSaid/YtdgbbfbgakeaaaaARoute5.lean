/- What functions of the given program do, one after the other, told by that layer. -/
import Derived.Test.YtdgbbfbgakeaaaaARoute4
namespace Go.Proofs.C
open Go.Lg
set_option maxRecDepth 100000

def Hop.zero : Hop := ⟨0, 0, 0, 0, []⟩
/-- Bytes read as a command: with delays of all kinds (all), or of those alone that have one. -/
def parse (all : Bool) : List UInt8 → Hop
  | a :: b :: c :: d :: r =>
    if a.toNat = 1 then ⟨1, b.toNat, 0, ((c.toNat * 256 + d.toNat : Nat) : Int), []⟩
    else if a.toNat = 2 then ⟨2, 0, b.toNat, ((c.toNat * 256 + d.toNat : Nat) : Int), r.take 16⟩
    else if a.toNat = 3 then ⟨3, 0, 0, if all then ((c.toNat * 256 + d.toNat : Nat) : Int) else 0, r.take 16⟩
    else ⟨a.toNat, 0, 0, if all then ((c.toNat * 256 + d.toNat : Nat) : Int) else 0, []⟩
  | _ => Hop.zero

theorem u8_toNat {z : Int} (h0 : 0 ≤ z) (h1 : z < 256) : (u8 z).toNat = z.toNat := by
  have := u8_nat h0 h1; omega
theorem u8_delay {z : Int} (h0 : 0 ≤ z) (h1 : z ≤ 4096) : (((u8 (z / 256)).toNat * 256 + (u8 z).toNat : Nat) : Int) = z := by
  have e1 := u8_nat (z := z / 256) (by omega) (by omega)
  have e2 := u8_nat (z := z % 256) (by omega) (by omega)
  rw [u8_mod] at e2
  omega

/-- What is written is read as it was. -/
theorem parse_hopB {x : Hop} (hp : hopP x) (all : Bool) : parse all (hopB x) = x := by
  unfold hopP at hp
  obtain ⟨k, n, u, dl, id⟩ := x
  simp only at hp
  unfold hopB parse
  simp only
  rcases hp with ⟨rfl, h1, h2, h3, h4, rfl, h5⟩ | ⟨rfl, h1, h2, h3, h4, rfl, h5⟩ | ⟨rfl, h1, rfl, rfl, rfl⟩ | ⟨rfl, rfl, rfl, rfl, h5⟩
  · rw [u8_toNat (z := 1) (by omega) (by omega), if_pos (by decide), u8_delay h3 h4]
    refine Hop.ext rfl ?_ rfl rfl (nil_len.2 h5).symm
    show ((u8 (n + 0)).toNat : Int) = n
    rw [Int.add_zero, u8_nat h1 (by omega)]
  · rw [u8_toNat (z := 2) (by omega) (by omega), if_neg (by decide), if_pos (by decide), u8_delay h3 h4]
    refine Hop.ext rfl rfl ?_ rfl ?_
    · show ((u8 (0 + u)).toNat : Int) = u
      rw [Int.zero_add, u8_nat h1 (by omega)]
    · show (id ++ _).take 16 = id
      rw [List.take_append_of_le_length (by omega), List.take_of_length_le (by omega)]
  · rw [u8_toNat (z := 3) (by omega) (by omega), if_neg (by decide), if_neg (by decide), if_pos (by decide)]
    refine Hop.ext rfl rfl rfl ?_ ?_
    · cases all
      · rfl
      · exact u8_delay (z := 0) (by omega) (by omega)
    · show (id ++ _).take 16 = id
      rw [List.take_append_of_le_length (by omega), List.take_of_length_le (by omega)]
  · rw [u8_toNat (z := 4) (by omega) (by omega), if_neg (by decide), if_neg (by decide), if_neg (by decide)]
    refine Hop.ext rfl rfl rfl ?_ (nil_len.2 h5).symm
    cases all
    · rfl
    · exact u8_delay (z := 0) (by omega) (by omega)

theorem hopB_inj {x y : Hop} (hx : hopP x) (hy : hopP y) (h : hopB x = hopB y) : x = y := by
  rw [← parse_hopB hx true, h, parse_hopB hy true]

theorem len24 {l : List UInt8} (h : l.length = 24) : ∃ a b c d r, l = a :: b :: c :: d :: r ∧ r.length = 20 := by
  match l, h with
  | a :: b :: c :: d :: r, h => exact ⟨a, b, c, d, r, rfl, by simpa using h⟩

theorem wrap_u8i (a : UInt8) : IntKind.i64.wrap (a.toNat : Int) = (a.toNat : Int) := by have := a.toNat_lt; rw [i64_id] <;> omega
theorem or2 (c d : UInt8) : bits .or .i64 (IntKind.i64.wrap (IntKind.i64.wrap (c.toNat : Int) * 2 ^ (min 8 IntKind.i64.bits))) (IntKind.i64.wrap (d.toNat : Int)) = ((c.toNat * 256 + d.toNat : Nat) : Int) := by
  have := c.toNat_lt; have := d.toNat_lt
  have e3 : (2 : Int) ^ (min 8 IntKind.i64.bits) = 256 := by decide
  rw [e3, wrap_u8i, wrap_u8i, i64_id (by omega) (by omega)]
  rw [bits_join .i64 63 (by decide) wraps_i64 8 (c.toNat * 256 : Int) d.toNat (by omega) (by omega) (by omega) (by omega) (by omega) (by omega)]
  omega
theorem add2 (c d : UInt8) : IntKind.i64.wrap (IntKind.i64.wrap (IntKind.i64.wrap (c.toNat : Int) * 256) + IntKind.i64.wrap (d.toNat : Int)) = ((c.toNat * 256 + d.toNat : Nat) : Int) := by
  have := c.toNat_lt; have := d.toNat_lt
  rw [wrap_u8i, wrap_u8i, i64_id (x := (c.toNat : Int) * 256) (by omega) (by omega), i64_id (by omega) (by omega)]
  omega

section
variable {B : Nat} {S R : Ents} {Q : Value → Ents → Prop}

theorem decode_len {b : List UInt8} (hb : b.length ≠ 24) (h : Q (.tuple #[.agg Hop.zero.cells.toArray, .int .i64 3]) S) : CallWp Try.prog B 47 #[.string (str b)] Q S := by
  refine CallWp.dropRet ?_
  refine CallWp.enter (args := [_]) Try.func47 rfl Try.ntmps47 rfl ?_
  refine Wp.seq (Wp.region ?_)
  refine OWp.step rfl (Step.alloc rfl rfl rfl ?_); intro L2 hBL2 hLL2
  refine OWp.evs 1 rfl ?_
  refine OWp.nil ?_
  refine Wp.seq ?_
  refine Wp.seq (Wp.region ?_)
  refine OWp.evs 3 rfl ?_
  refine OWp.nil ?_
  refine Wp.cond rfl (fun cc1 => ?_) (fun cc1 => absurd (ndF cc1) (by omega))
  have cc1 := ndT cc1
  refine Wp.seq (Wp.region ?_)
  refine OWp.g rfl rfl (Gives.build rfl rfl) ?_
  refine OWp.step rfl (Step.store 0 rfl rfl rfl rfl rfl (by assumption) rfl (Nat.le_of_ble_eq_true rfl) (Unfz.zero _) rfl rfl ?_)
  refine OWp.evs 1 rfl ?_
  refine OWp.nil ?_
  refine Wp.ret ⟨trivial, _, ⟨_, _, _, _, rfl, rfl, ⟨_, _, _, (by repeat (first | exact List.Mem.head _ | assumption | apply List.mem_cons_of_mem | apply List.mem_append_right)), rfl⟩, ⟨_, _, rfl, rfl, rfl⟩⟩, ?_⟩
  exact ⟨S, (by repeat (first | exact List.Sublist.refl _ | exact List.sublist_append_right _ _ | apply List.Sublist.cons)), h⟩
theorem rdecode_len {b : List UInt8} (hb : b.length ≠ 24) (h : Q (.tuple #[.agg Hop.zero.cells.toArray, .int .i64 3]) S) : CallWp Try.prog B 48 #[.string (str b)] Q S := by
  refine CallWp.dropRet ?_
  refine CallWp.enter (args := [_]) Try.func48 rfl Try.ntmps48 rfl ?_
  refine Wp.seq (Wp.region ?_)
  refine OWp.step rfl (Step.alloc rfl rfl rfl ?_); intro L2 hBL2 hLL2
  refine OWp.evs 1 rfl ?_
  refine OWp.nil ?_
  refine Wp.seq ?_
  refine Wp.seq (Wp.region ?_)
  refine OWp.evs 3 rfl ?_
  refine OWp.nil ?_
  refine Wp.cond rfl (fun cc1 => ?_) (fun cc1 => absurd (ndF cc1) (by omega))
  have cc1 := ndT cc1
  refine Wp.seq (Wp.region ?_)
  refine OWp.g rfl rfl (Gives.build rfl rfl) ?_
  refine OWp.step rfl (Step.store 0 rfl rfl rfl rfl rfl (by assumption) rfl (Nat.le_of_ble_eq_true rfl) (Unfz.zero _) rfl rfl ?_)
  refine OWp.evs 1 rfl ?_
  refine OWp.nil ?_
  refine Wp.ret ⟨trivial, _, ⟨_, _, _, _, rfl, rfl, ⟨_, _, _, (by repeat (first | exact List.Mem.head _ | assumption | apply List.mem_cons_of_mem | apply List.mem_append_right)), rfl⟩, ⟨_, _, rfl, rfl, rfl⟩⟩, ?_⟩
  exact ⟨S, (by repeat (first | exact List.Sublist.refl _ | exact List.sublist_append_right _ _ | apply List.Sublist.cons)), h⟩
/-- What both read: the command whose bytes these are, or none. -/
def decQ (Q : Value → Ents → Prop) (S : Ents) (b : List UInt8) : Prop :=
  (∀ x, hopP x → hopB x = b → Q (.tuple #[.agg x.cells.toArray, .int .i64 0]) S) ∧ ((∀ x, hopP x → hopB x ≠ b) → Q (.tuple #[.agg Hop.zero.cells.toArray, .int .i64 70]) S)

theorem decodeC {b : List UInt8} (hb : b.length = 24) (h : decQ Q S b) : CallWp Try.prog B 47 #[.string (str b)] Q S := by
  obtain ⟨hyes, hno⟩ := h
  obtain ⟨b0, b1, b2, b3, r, rfl, hr⟩ := len24 hb
  have hp := fun x (hx : hopP x) (e : hopB x = b0 :: b1 :: b2 :: b3 :: r) => (by rw [← e]; exact parse_hopB hx true : parse true (b0 :: b1 :: b2 :: b3 :: r) = x)
  have hb0 := b0.toNat_lt
  refine CallWp.dropRet ?_
  refine CallWp.enter (args := [_]) Try.func47 rfl Try.ntmps47 rfl ?_
  refine Wp.seq (Wp.region ?_)
  refine OWp.step rfl (Step.alloc rfl rfl rfl ?_); intro L2 hBL2 hLL2
  refine OWp.evs 1 rfl ?_
  refine OWp.nil ?_
  refine Wp.seq ?_
  refine Wp.seq (Wp.region ?_)
  refine OWp.evs 3 rfl ?_
  refine OWp.nil ?_
  refine Wp.cond rfl (fun cc1 => absurd (ndT cc1) (by rw [hb]; decide)) (fun cc1 => ?_)
  have cc1 := ndF cc1
  refine Wp.skip ?_
  refine Wp.seq (Wp.regionDraw [0, 1, 2, 3, 4, 5, 6, 7, 8, 9, 10, 11, 12, 13] [12, 13] rfl (by decide +kernel) ?_)
  refine DWp.evs 1 rfl ?_
  refine DWp.g rfl rfl rfl rfl (Gives.indexStr (b := b0) rfl rfl rfl rfl (by decide) rfl) ?_
  refine DWp.evs 2 rfl ?_
  refine DWp.g rfl rfl rfl rfl (Gives.indexStr (b := b2) rfl rfl rfl rfl (by decide) rfl) ?_
  refine DWp.evs 3 rfl ?_
  refine DWp.g rfl rfl rfl rfl (Gives.indexStr (b := b3) rfl rfl rfl rfl (by decide) rfl) ?_
  refine DWp.evs 2 rfl ?_
  refine DWp.g rfl rfl rfl rfl (Gives.build rfl rfl) ?_
  refine DWp.stepGrow rfl rfl rfl (Step.alloc rfl rfl rfl ?_); intro L4 hBL4 hLL4; refine ⟨fun _ hy => .tail _ hy, ?_⟩
  refine DWp.stepAll rfl rfl rfl rfl (Step.storeAs 0 (Hop.cells ⟨b0.toNat, 0, 0, ((b2.toNat * 256 + b3.toNat : Nat) : Int), []⟩) rfl rfl rfl rfl rfl (by assumption) rfl (Unfz.zero _) rfl (Nat.le_of_ble_eq_true rfl) (by rw [or2, wrap_u8i]; rfl) rfl ?_)
  refine DWp.nil ?_
  refine Wp.seqS (α := Hop) (fun _ => [(0, .string (str (b0 :: b1 :: b2 :: b3 :: r))), (2, pt L2), (4, pt L4)]) (fun x => (L4, cel x.cells 63) :: (L2, cel Hop.zero.cells 63) :: S) (fun x => x = parse true (b0 :: b1 :: b2 :: b3 :: r)) ?_ ?_
  · skip
    refine Wp.seq (Wp.region ?_)
    refine OWp.evs 1 rfl ?_
    first | refine OWp.load (List.Mem.head _) rfl rfl rfl rfl rfl ?_ | refine OWp.load (List.Mem.tail _ (List.Mem.head _)) rfl rfl rfl rfl rfl ?_ | refine OWp.load (List.Mem.tail _ (List.Mem.tail _ (List.Mem.head _))) rfl rfl rfl rfl rfl ?_ | refine OWp.load (List.Mem.tail _ (List.Mem.tail _ (List.Mem.tail _ (List.Mem.head _)))) rfl rfl rfl rfl rfl ?_ | refine OWp.load (List.Mem.tail _ (List.Mem.tail _ (List.Mem.tail _ (List.Mem.tail _ (List.Mem.head _))))) rfl rfl rfl rfl rfl ?_ | refine OWp.load (List.Mem.tail _ (List.Mem.tail _ (List.Mem.tail _ (List.Mem.tail _ (List.Mem.tail _ (List.Mem.head _)))))) rfl rfl rfl rfl rfl ?_
    refine OWp.nil ?_
    refine Wp.block ?_
    refine Wp.seq (Wp.region ?_)
    refine OWp.evs 2 rfl ?_
    refine OWp.nil ?_
    refine Wp.cond rfl (fun k1 => ?_) (fun k1 => ?_)
    · have k1 := of_decide_eq_true k1
      have k1 : (b0.toNat : Int) = 1 := k1
      refine Wp.region ?_
      refine OWp.evs 1 rfl ?_
      refine OWp.g rfl rfl (Gives.indexStr (b := b1) rfl rfl rfl rfl (by decide) rfl) ?_
      refine OWp.evs 2 rfl ?_
      refine OWp.step rfl (Step.storeAs 0 (Hop.cells ⟨b0.toNat, b1.toNat, 0, ((b2.toNat * 256 + b3.toNat : Nat) : Int), []⟩) rfl rfl rfl rfl rfl (by assumption) rfl (Unfz.zero _) rfl (Nat.le_of_ble_eq_true rfl) (by rw [wrap_u8i]; rfl) rfl ?_)
      refine OWp.nil ?_
      refine ⟨⟨b0.toNat, b1.toNat, 0, ((b2.toNat * 256 + b3.toNat : Nat) : Int), []⟩, ?_, .cons rfl (.cons rfl (.cons rfl (.nil _))), .refl _⟩
      show _ = (if b0.toNat = 1 then _ else _); rw [if_pos (by omega), k1]
    have k1 := of_decide_eq_false k1
    have k1 : ¬ (b0.toNat : Int) = 1 := k1
    refine Wp.seq (Wp.region ?_)
    refine OWp.evs 2 rfl ?_
    refine OWp.nil ?_
    refine Wp.cond rfl (fun k2 => ?_) (fun k2 => ?_)
    · have k2 := of_decide_eq_true k2
      have k2 : (b0.toNat : Int) = 2 := k2
      refine Wp.regionDraw [0, 1, 2, 3, 4, 5, 6, 7, 8] [6, 8] rfl (by decide +kernel) ?_
      refine DWp.evs 1 rfl ?_
      refine DWp.g rfl rfl rfl rfl (Gives.indexStr (b := b1) rfl rfl rfl rfl (by decide) rfl) ?_
      refine DWp.evs 2 rfl ?_
      refine DWp.g rfl rfl rfl rfl (Gives.sliceStr (l := 4) (h' := 20) rfl rfl rfl ⟨_, _, rfl, rfl⟩ ⟨_, _, rfl, rfl⟩ (by decide) (by rw [hb]; decide)) ?_
      refine DWp.evs 1 rfl ?_
      refine DWp.stepAll rfl rfl rfl rfl (Step.storeAs 0 (Hop.cells ⟨b0.toNat, 0, b1.toNat, ((b2.toNat * 256 + b3.toNat : Nat) : Int), []⟩) rfl rfl rfl rfl rfl (by assumption) rfl (Unfz.zero _) rfl (Nat.le_of_ble_eq_true rfl) (by rw [wrap_u8i]; rfl) rfl ?_)
      refine DWp.evs 1 rfl ?_
      refine DWp.stepAll rfl rfl rfl rfl (Step.storeAs 0 (Hop.cells ⟨b0.toNat, 0, b1.toNat, ((b2.toNat * 256 + b3.toNat : Nat) : Int), r.take 16⟩) rfl rfl rfl rfl rfl (by assumption) rfl (Unfz.zero _) rfl (Nat.le_of_ble_eq_true rfl) rfl rfl ?_)
      refine DWp.nil ?_
      refine ⟨⟨b0.toNat, 0, b1.toNat, ((b2.toNat * 256 + b3.toNat : Nat) : Int), r.take 16⟩, ?_, .cons rfl (.cons rfl (.cons rfl (.nil _))), .refl _⟩
      show _ = (if b0.toNat = 1 then _ else _); rw [if_neg (by omega), if_pos (by omega), k2]
    have k2 := of_decide_eq_false k2
    have k2 : ¬ (b0.toNat : Int) = 2 := k2
    refine Wp.seq (Wp.region ?_)
    refine OWp.evs 2 rfl ?_
    refine OWp.nil ?_
    refine Wp.cond rfl (fun k3 => ?_) (fun k3 => ?_)
    · have k3 := of_decide_eq_true k3
      have k3 : (b0.toNat : Int) = 3 := k3
      refine Wp.region ?_
      refine OWp.evs 1 rfl ?_
      refine OWp.g rfl rfl (Gives.sliceStr (l := 4) (h' := 20) rfl rfl rfl ⟨_, _, rfl, rfl⟩ ⟨_, _, rfl, rfl⟩ (by decide) (by rw [hb]; decide)) ?_
      refine OWp.evs 1 rfl ?_
      refine OWp.step rfl (Step.storeAs 0 (Hop.cells ⟨b0.toNat, 0, 0, ((b2.toNat * 256 + b3.toNat : Nat) : Int), r.take 16⟩) rfl rfl rfl rfl rfl (by assumption) rfl (Unfz.zero _) rfl (Nat.le_of_ble_eq_true rfl) rfl rfl ?_)
      refine OWp.nil ?_
      refine ⟨⟨b0.toNat, 0, 0, ((b2.toNat * 256 + b3.toNat : Nat) : Int), r.take 16⟩, ?_, .cons rfl (.cons rfl (.cons rfl (.nil _))), .refl _⟩
      show _ = (if b0.toNat = 1 then _ else _); rw [if_neg (by omega), if_neg (by omega), if_pos (by omega), k3]; rfl
    have k3 := of_decide_eq_false k3
    have k3 : ¬ (b0.toNat : Int) = 3 := k3
    refine Wp.skip ?_
    refine ⟨⟨b0.toNat, 0, 0, ((b2.toNat * 256 + b3.toNat : Nat) : Int), []⟩, ?_, .cons rfl (.cons rfl (.cons rfl (.nil _))), .refl _⟩
    show _ = (if b0.toNat = 1 then _ else _); rw [if_neg (by omega), if_neg (by omega), if_neg (by omega)]; rfl
  rintro x hx
  refine Wp.seq ?_
  refine Wp.seq (Wp.region ?_)
  refine OWp.load (.head _) rfl rfl rfl rfl (partAt_agg (n := 5) (r := x.cells) rfl rfl rfl rfl) ?_
  by_cases hok : hopP x
  · skip
    refine OWp.step rfl (Step.call rfl rfl rfl rfl rfl rfl ((encode_yes hok ?_)))
    refine OWp.evs 5 rfl ?_
    refine OWp.nil ?_
    refine Wp.seq (Wp.region ?_)
    refine OWp.evs 3 rfl ?_
    refine OWp.evs 4 rfl ?_
    refine OWp.nil ?_
    refine Wp.cond rfl (fun e1 => ?_) (fun e1 => ?_)
    · have e1 := ndT e1
      refine Wp.seq (Wp.region ?_)
      refine OWp.g rfl rfl (Gives.build rfl rfl) ?_
      refine OWp.step rfl (Step.store 1 rfl rfl rfl rfl rfl (by assumption) rfl (Nat.le_of_ble_eq_true rfl) (Unfz.zero _) rfl rfl ?_)
      refine OWp.evs 1 rfl ?_
      refine OWp.nil ?_
      refine Wp.ret ⟨trivial, _, ⟨_, _, _, _, rfl, rfl, ⟨_, _, _, (by repeat (first | exact List.Mem.head _ | assumption | apply List.mem_cons_of_mem | apply List.mem_append_right)), rfl⟩, ⟨_, _, rfl, rfl, rfl⟩⟩, ?_⟩
      refine ⟨S, (by repeat (first | exact List.Sublist.refl _ | exact List.sublist_append_right _ _ | apply List.Sublist.cons)), hno fun y hy e => e1 ?_⟩
      rw [hx, hp y hy e]; exact e
    have e1 := ndF e1
    refine Wp.skip ?_
    refine Wp.seq (Wp.region ?_)
    refine OWp.load (.head _) rfl rfl rfl rfl (partAt_agg (n := 5) (r := x.cells) rfl rfl rfl rfl) ?_
    refine OWp.step rfl (Step.store 1 rfl rfl rfl rfl rfl (by assumption) rfl (Nat.le_of_ble_eq_true rfl) (Unfz.zero _) rfl rfl ?_)
    refine OWp.evs 1 rfl ?_
    refine OWp.nil ?_
    refine Wp.ret ⟨trivial, _, ⟨_, _, _, _, rfl, rfl, ⟨_, _, _, (by repeat (first | exact List.Mem.head _ | assumption | apply List.mem_cons_of_mem | apply List.mem_append_right)), rfl⟩, ⟨_, _, rfl, rfl, rfl⟩⟩, ?_⟩
    exact ⟨S, (by repeat (first | exact List.Sublist.refl _ | exact List.sublist_append_right _ _ | apply List.Sublist.cons)), hyes x hok e1⟩
  refine OWp.step rfl (Step.call rfl rfl rfl rfl rfl rfl ((encode_no hok ?_)))
  refine OWp.evs 5 rfl ?_
  refine OWp.nil ?_
  refine Wp.seq (Wp.region ?_)
  refine OWp.evs 3 rfl ?_
  refine OWp.evs 4 rfl ?_
  refine OWp.nil ?_
  refine Wp.cond rfl (fun _ => ?_) (fun c => nomatch c)
  refine Wp.seq (Wp.region ?_)
  refine OWp.g rfl rfl (Gives.build rfl rfl) ?_
  refine OWp.step rfl (Step.store 1 rfl rfl rfl rfl rfl (by assumption) rfl (Nat.le_of_ble_eq_true rfl) (Unfz.zero _) rfl rfl ?_)
  refine OWp.evs 1 rfl ?_
  refine OWp.nil ?_
  refine Wp.ret ⟨trivial, _, ⟨_, _, _, _, rfl, rfl, ⟨_, _, _, (by repeat (first | exact List.Mem.head _ | assumption | apply List.mem_cons_of_mem | apply List.mem_append_right)), rfl⟩, ⟨_, _, rfl, rfl, rfl⟩⟩, ?_⟩
  refine ⟨S, (by repeat (first | exact List.Sublist.refl _ | exact List.sublist_append_right _ _ | apply List.Sublist.cons)), hno fun y hy e => hok ?_⟩
  rw [hx, hp y hy e]; exact hy
theorem rdecodeC {b : List UInt8} (hb : b.length = 24) (h : decQ Q S b) : CallWp Try.prog B 48 #[.string (str b)] Q S := by
  obtain ⟨hyes, hno⟩ := h
  obtain ⟨b0, b1, b2, b3, r, rfl, hr⟩ := len24 hb
  have hp := fun x (hx : hopP x) (e : hopB x = b0 :: b1 :: b2 :: b3 :: r) => (by rw [← e]; exact parse_hopB hx false : parse false (b0 :: b1 :: b2 :: b3 :: r) = x)
  have hb0 := b0.toNat_lt
  refine CallWp.dropRet ?_
  refine CallWp.enter (args := [_]) Try.func48 rfl Try.ntmps48 rfl ?_
  refine Wp.seq (Wp.region ?_)
  refine OWp.step rfl (Step.alloc rfl rfl rfl ?_); intro L2 hBL2 hLL2
  refine OWp.evs 1 rfl ?_
  refine OWp.nil ?_
  refine Wp.seq ?_
  refine Wp.seq (Wp.region ?_)
  refine OWp.evs 3 rfl ?_
  refine OWp.nil ?_
  refine Wp.cond rfl (fun cc1 => absurd (ndT cc1) (by rw [hb]; decide)) (fun cc1 => ?_)
  have cc1 := ndF cc1
  refine Wp.skip ?_
  refine Wp.seq (Wp.region ?_)
  refine OWp.evs 1 rfl ?_
  refine OWp.g rfl rfl (Gives.indexStr (b := b0) rfl rfl rfl rfl (by decide) rfl) ?_
  refine OWp.evs 1 rfl ?_
  refine OWp.g rfl rfl (Gives.build rfl rfl) ?_
  refine OWp.step rfl (Step.alloc rfl rfl rfl ?_); intro L4 hBL4 hLL4
  refine OWp.step rfl (Step.storeAs 0 (Hop.cells ⟨b0.toNat, 0, 0, 0, []⟩) rfl rfl rfl rfl rfl (by assumption) rfl (Unfz.zero _) rfl (Nat.le_of_ble_eq_true rfl) (by rw [wrap_u8i]; rfl) rfl ?_)
  refine OWp.nil ?_
  refine Wp.seqS (α := Hop) (fun _ => [(0, .string (str (b0 :: b1 :: b2 :: b3 :: r))), (2, pt L2), (4, pt L4)]) (fun x => (L4, cel x.cells 63) :: (L2, cel Hop.zero.cells 63) :: S) (fun x => x = parse false (b0 :: b1 :: b2 :: b3 :: r)) ?_ ?_
  · skip
    refine Wp.seq (Wp.region ?_)
    refine OWp.evs 1 rfl ?_
    first | refine OWp.load (List.Mem.head _) rfl rfl rfl rfl rfl ?_ | refine OWp.load (List.Mem.tail _ (List.Mem.head _)) rfl rfl rfl rfl rfl ?_ | refine OWp.load (List.Mem.tail _ (List.Mem.tail _ (List.Mem.head _))) rfl rfl rfl rfl rfl ?_ | refine OWp.load (List.Mem.tail _ (List.Mem.tail _ (List.Mem.tail _ (List.Mem.head _)))) rfl rfl rfl rfl rfl ?_ | refine OWp.load (List.Mem.tail _ (List.Mem.tail _ (List.Mem.tail _ (List.Mem.tail _ (List.Mem.head _))))) rfl rfl rfl rfl rfl ?_ | refine OWp.load (List.Mem.tail _ (List.Mem.tail _ (List.Mem.tail _ (List.Mem.tail _ (List.Mem.tail _ (List.Mem.head _)))))) rfl rfl rfl rfl rfl ?_
    refine OWp.nil ?_
    refine Wp.block ?_
    refine Wp.seq (Wp.region ?_)
    refine OWp.evs 2 rfl ?_
    refine OWp.nil ?_
    refine Wp.cond rfl (fun k1 => ?_) (fun k1 => ?_)
    · have k1 := of_decide_eq_true k1
      have k1 : (b0.toNat : Int) = 1 := k1
      refine Wp.seq (Wp.region ?_)
      refine OWp.evs 1 rfl ?_
      refine OWp.g rfl rfl (Gives.indexStr (b := b1) rfl rfl rfl rfl (by decide) rfl) ?_
      refine OWp.evs 2 rfl ?_
      refine OWp.step rfl (Step.storeAs 0 (Hop.cells ⟨b0.toNat, b1.toNat, 0, 0, []⟩) rfl rfl rfl rfl rfl (by assumption) rfl (Unfz.zero _) rfl (Nat.le_of_ble_eq_true rfl) (by rw [wrap_u8i]; rfl) rfl ?_)
      refine OWp.nil ?_
      refine Wp.regionDraw [0, 1, 2, 3, 4, 5, 6, 7, 8, 9] [9] rfl (by decide +kernel) ?_
      refine DWp.evs 1 rfl ?_
      refine DWp.g rfl rfl rfl rfl (Gives.indexStr (b := b2) rfl rfl rfl rfl (by decide) rfl) ?_
      refine DWp.evs 3 rfl ?_
      refine DWp.g rfl rfl rfl rfl (Gives.indexStr (b := b3) rfl rfl rfl rfl (by decide) rfl) ?_
      refine DWp.evs 3 rfl ?_
      refine DWp.stepAll rfl rfl rfl rfl (Step.storeAs 0 (Hop.cells ⟨b0.toNat, b1.toNat, 0, ((b2.toNat * 256 + b3.toNat : Nat) : Int), []⟩) rfl rfl rfl rfl rfl (by assumption) rfl (Unfz.zero _) rfl (Nat.le_of_ble_eq_true rfl) (by exact (congrArg (fun z => wr _ _ (Value.int .i64 z).cells.toList) (add2 b2 b3)).trans rfl) rfl ?_)
      refine DWp.nil ?_
      refine ⟨⟨b0.toNat, b1.toNat, 0, ((b2.toNat * 256 + b3.toNat : Nat) : Int), []⟩, ?_, .cons rfl (.cons rfl (.cons rfl (.nil _))), .refl _⟩
      show _ = (if b0.toNat = 1 then _ else _); rw [if_pos (by omega), k1]
    have k1 := of_decide_eq_false k1
    have k1 : ¬ (b0.toNat : Int) = 1 := k1
    refine Wp.seq (Wp.region ?_)
    refine OWp.evs 2 rfl ?_
    refine OWp.nil ?_
    refine Wp.cond rfl (fun k2 => ?_) (fun k2 => ?_)
    · have k2 := of_decide_eq_true k2
      have k2 : (b0.toNat : Int) = 2 := k2
      refine Wp.seq (Wp.region ?_)
      refine OWp.evs 1 rfl ?_
      refine OWp.g rfl rfl (Gives.indexStr (b := b1) rfl rfl rfl rfl (by decide) rfl) ?_
      refine OWp.evs 2 rfl ?_
      refine OWp.step rfl (Step.storeAs 0 (Hop.cells ⟨b0.toNat, 0, b1.toNat, 0, []⟩) rfl rfl rfl rfl rfl (by assumption) rfl (Unfz.zero _) rfl (Nat.le_of_ble_eq_true rfl) (by rw [wrap_u8i]; rfl) rfl ?_)
      refine OWp.nil ?_
      refine Wp.seq (Wp.regionDraw [0, 1, 2, 3, 4, 5, 6, 7, 8, 9] [9] rfl (by decide +kernel) ?_)
      refine DWp.evs 1 rfl ?_
      refine DWp.g rfl rfl rfl rfl (Gives.indexStr (b := b2) rfl rfl rfl rfl (by decide) rfl) ?_
      refine DWp.evs 3 rfl ?_
      refine DWp.g rfl rfl rfl rfl (Gives.indexStr (b := b3) rfl rfl rfl rfl (by decide) rfl) ?_
      refine DWp.evs 3 rfl ?_
      refine DWp.stepAll rfl rfl rfl rfl (Step.storeAs 0 (Hop.cells ⟨b0.toNat, 0, b1.toNat, ((b2.toNat * 256 + b3.toNat : Nat) : Int), []⟩) rfl rfl rfl rfl rfl (by assumption) rfl (Unfz.zero _) rfl (Nat.le_of_ble_eq_true rfl) (by exact (congrArg (fun z => wr _ _ (Value.int .i64 z).cells.toList) (add2 b2 b3)).trans rfl) rfl ?_)
      refine DWp.nil ?_
      refine Wp.region ?_
      refine OWp.evs 1 rfl ?_
      refine OWp.g rfl rfl (Gives.sliceStr (l := 4) (h' := 20) rfl rfl rfl ⟨_, _, rfl, rfl⟩ ⟨_, _, rfl, rfl⟩ (by decide) (by rw [hb]; decide)) ?_
      refine OWp.evs 1 rfl ?_
      refine OWp.step rfl (Step.storeAs 0 (Hop.cells ⟨b0.toNat, 0, b1.toNat, ((b2.toNat * 256 + b3.toNat : Nat) : Int), r.take 16⟩) rfl rfl rfl rfl rfl (by assumption) rfl (Unfz.zero _) rfl (Nat.le_of_ble_eq_true rfl) rfl rfl ?_)
      refine OWp.nil ?_
      refine ⟨⟨b0.toNat, 0, b1.toNat, ((b2.toNat * 256 + b3.toNat : Nat) : Int), r.take 16⟩, ?_, .cons rfl (.cons rfl (.cons rfl (.nil _))), .refl _⟩
      show _ = (if b0.toNat = 1 then _ else _); rw [if_neg (by omega), if_pos (by omega), k2]
    have k2 := of_decide_eq_false k2
    have k2 : ¬ (b0.toNat : Int) = 2 := k2
    refine Wp.seq (Wp.region ?_)
    refine OWp.evs 2 rfl ?_
    refine OWp.nil ?_
    refine Wp.cond rfl (fun k3 => ?_) (fun k3 => ?_)
    · have k3 := of_decide_eq_true k3
      have k3 : (b0.toNat : Int) = 3 := k3
      refine Wp.region ?_
      refine OWp.evs 1 rfl ?_
      refine OWp.g rfl rfl (Gives.sliceStr (l := 4) (h' := 20) rfl rfl rfl ⟨_, _, rfl, rfl⟩ ⟨_, _, rfl, rfl⟩ (by decide) (by rw [hb]; decide)) ?_
      refine OWp.evs 1 rfl ?_
      refine OWp.step rfl (Step.storeAs 0 (Hop.cells ⟨b0.toNat, 0, 0, 0, r.take 16⟩) rfl rfl rfl rfl rfl (by assumption) rfl (Unfz.zero _) rfl (Nat.le_of_ble_eq_true rfl) rfl rfl ?_)
      refine OWp.nil ?_
      refine ⟨⟨b0.toNat, 0, 0, 0, r.take 16⟩, ?_, .cons rfl (.cons rfl (.cons rfl (.nil _))), .refl _⟩
      show _ = (if b0.toNat = 1 then _ else _); rw [if_neg (by omega), if_neg (by omega), if_pos (by omega), k3]; rfl
    have k3 := of_decide_eq_false k3
    have k3 : ¬ (b0.toNat : Int) = 3 := k3
    refine Wp.skip ?_
    refine ⟨⟨b0.toNat, 0, 0, 0, []⟩, ?_, .cons rfl (.cons rfl (.cons rfl (.nil _))), .refl _⟩
    show _ = (if b0.toNat = 1 then _ else _); rw [if_neg (by omega), if_neg (by omega), if_neg (by omega)]; rfl
  rintro x hx
  refine Wp.seq ?_
  refine Wp.seq (Wp.region ?_)
  refine OWp.load (.head _) rfl rfl rfl rfl (partAt_agg (n := 5) (r := x.cells) rfl rfl rfl rfl) ?_
  refine OWp.step rfl (Step.call rfl rfl rfl rfl rfl rfl ((rcheckC (x := x) ?_)))
  by_cases hok : hopP x
  · skip
    rw [hopE_yes hok]
    refine OWp.evs 2 rfl ?_
    refine OWp.load (.head _) rfl rfl rfl rfl (partAt_agg (n := 5) (r := x.cells) rfl rfl rfl rfl) ?_
    refine OWp.step rfl (Step.call rfl rfl rfl rfl rfl rfl ((rbytesHop hok ?_)))
    refine OWp.evs 3 rfl ?_
    refine OWp.nil ?_
    refine Wp.cond rfl (fun e1 => ?_) (fun e1 => ?_)
    · have e1 := ndT e1
      refine Wp.seq (Wp.region ?_)
      refine OWp.g rfl rfl (Gives.build rfl rfl) ?_
      refine OWp.step rfl (Step.store 1 rfl rfl rfl rfl rfl (by assumption) rfl (Nat.le_of_ble_eq_true rfl) (Unfz.zero _) rfl rfl ?_)
      refine OWp.evs 1 rfl ?_
      refine OWp.nil ?_
      refine Wp.ret ⟨trivial, _, ⟨_, _, _, _, rfl, rfl, ⟨_, _, _, (by repeat (first | exact List.Mem.head _ | assumption | apply List.mem_cons_of_mem | apply List.mem_append_right)), rfl⟩, ⟨_, _, rfl, rfl, rfl⟩⟩, ?_⟩
      refine ⟨S, (by repeat (first | exact List.Sublist.refl _ | exact List.sublist_append_right _ _ | apply List.Sublist.cons)), hno fun y hy e => e1 ?_⟩
      rw [hx, hp y hy e]; exact e
    have e1 := ndF e1
    refine Wp.skip ?_
    refine Wp.seq (Wp.region ?_)
    refine OWp.load (.head _) rfl rfl rfl rfl (partAt_agg (n := 5) (r := x.cells) rfl rfl rfl rfl) ?_
    refine OWp.step rfl (Step.store 1 rfl rfl rfl rfl rfl (by assumption) rfl (Nat.le_of_ble_eq_true rfl) (Unfz.zero _) rfl rfl ?_)
    refine OWp.evs 1 rfl ?_
    refine OWp.nil ?_
    refine Wp.ret ⟨trivial, _, ⟨_, _, _, _, rfl, rfl, ⟨_, _, _, (by repeat (first | exact List.Mem.head _ | assumption | apply List.mem_cons_of_mem | apply List.mem_append_right)), rfl⟩, ⟨_, _, rfl, rfl, rfl⟩⟩, ?_⟩
    exact ⟨S, (by repeat (first | exact List.Sublist.refl _ | exact List.sublist_append_right _ _ | apply List.Sublist.cons)), hyes x hok e1⟩
  rw [hopE_no hok]
  refine OWp.evs 2 rfl ?_
  refine OWp.evs 5 rfl ?_
  refine OWp.nil ?_
  refine Wp.cond rfl (fun _ => ?_) (fun c => nomatch c)
  refine Wp.seq (Wp.region ?_)
  refine OWp.g rfl rfl (Gives.build rfl rfl) ?_
  refine OWp.step rfl (Step.store 1 rfl rfl rfl rfl rfl (by assumption) rfl (Nat.le_of_ble_eq_true rfl) (Unfz.zero _) rfl rfl ?_)
  refine OWp.evs 1 rfl ?_
  refine OWp.nil ?_
  refine Wp.ret ⟨trivial, _, ⟨_, _, _, _, rfl, rfl, ⟨_, _, _, (by repeat (first | exact List.Mem.head _ | assumption | apply List.mem_cons_of_mem | apply List.mem_append_right)), rfl⟩, ⟨_, _, rfl, rfl, rfl⟩⟩, ?_⟩
  refine ⟨S, (by repeat (first | exact List.Sublist.refl _ | exact List.sublist_append_right _ _ | apply List.Sublist.cons)), hno fun y hy e => hok ?_⟩
  rw [hx, hp y hy e]; exact hy
end
end Go.Proofs.C
