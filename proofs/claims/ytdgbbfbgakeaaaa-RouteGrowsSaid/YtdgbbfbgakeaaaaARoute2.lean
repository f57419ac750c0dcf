/- What functions of the given program do, one after the other, told by that layer. -/
import Derived.Test.YtdgbbfbgakeaaaaARoute1
import Derived.Test.YtdgbbfbgakeaaaaLgBytes
namespace Go.Proofs.C
open Go.Lg
set_option maxRecDepth 100000

def u8 (z : Int) : UInt8 := UInt8.ofNat (z % 256).toNat
theorem u8_wrap (z : Int) : IntKind.u8.wrap z = ((u8 z).toNat : Int) := by
  unfold u8
  rw [IntKind.wrap_u8, UInt8.toNat_ofNat']
  omega
theorem u8_nat {z : Int} (h0 : 0 ≤ z) (h1 : z < 256) : ((u8 z).toNat : Int) = z := by
  rw [← u8_wrap, IntKind.wrap_u8]; omega
theorem u8_mod (z : Int) : u8 (z % 256) = u8 z := by unfold u8; rw [Int.emod_emod_of_dvd _ (Int.dvd_refl 256)]
theorem u8_cell_eq {a b : Int} (h : IntKind.u8.wrap a = IntKind.u8.wrap b) : Value.int .u8 (IntKind.u8.wrap a) = .int .u8 ((u8 b).toNat : Int) := by rw [h, u8_wrap]

/-- A command's bytes. -/
def hopB (x : Hop) : List UInt8 := u8 x.kind :: u8 (x.node + x.user) :: u8 (x.delay / 256) :: u8 x.delay :: (x.id ++ List.replicate (20 - x.id.length) 0)
theorem hopB_len {x : Hop} (h : hopP x) : (hopB x).length = 24 := by
  unfold hopP at h
  simp only [hopB, List.length_cons, List.length_append, List.length_replicate]
  omega

theorem byteCells_append (a b : List UInt8) : byteCells (a ++ b) = byteCells a ++ byteCells b := by simp [byteCells]
theorem byteCells_rep (n : Nat) : byteCells (List.replicate n 0) = List.replicate n (.int .u8 0) := by simp [byteCells]

theorem id_put {a b c d : UInt8} {id : List UInt8} : wr (byteCells (a :: b :: c :: d :: List.replicate 20 0)) 4 (byteCells id) = byteCells (a :: b :: c :: d :: (id ++ List.replicate (20 - id.length) 0)) := by
  have e : (List.replicate 20 (0 : UInt8)).drop id.length = List.replicate (20 - id.length) 0 := by rw [List.drop_replicate]
  unfold wr
  rw [byteCells_length]
  simp only [byteCells, ← List.map_take, ← List.map_drop, ← List.map_append]
  congr 1
  rw [show 4 + id.length = id.length + 4 by omega]
  show [a, b, c, d] ++ id ++ (List.replicate 20 (0 : UInt8)).drop id.length = _
  rw [e]
  simp

section
variable {B : Nat} {S R : Ents} {Q : Value → Ents → Prop}

theorem encode_no {x : Hop} (hp : ¬ hopP x) (h : Q (.tuple #[.string (str []), .int .i64 70]) S) : CallWp Try.prog B 40 #[.agg x.cells.toArray] Q S := by
  refine CallWp.enter (args := [_]) Try.func40 rfl Try.ntmps40 rfl ?_
  refine Wp.seq (Wp.region ?_)
  refine OWp.step rfl (Step.box rfl rfl rfl ?_); intro L1 hBL1 hLL1
  refine OWp.evs 2 rfl ?_
  refine OWp.nil ?_
  refine Wp.seq ?_
  refine Wp.seq (Wp.region ?_)
  first | refine OWp.load (List.Mem.head _) rfl rfl rfl rfl rfl ?_ | refine OWp.load (List.Mem.tail _ (List.Mem.head _)) rfl rfl rfl rfl rfl ?_ | refine OWp.load (List.Mem.tail _ (List.Mem.tail _ (List.Mem.head _))) rfl rfl rfl rfl rfl ?_ | refine OWp.load (List.Mem.tail _ (List.Mem.tail _ (List.Mem.tail _ (List.Mem.head _)))) rfl rfl rfl rfl rfl ?_ | refine OWp.load (List.Mem.tail _ (List.Mem.tail _ (List.Mem.tail _ (List.Mem.tail _ (List.Mem.head _))))) rfl rfl rfl rfl rfl ?_ | refine OWp.load (List.Mem.tail _ (List.Mem.tail _ (List.Mem.tail _ (List.Mem.tail _ (List.Mem.tail _ (List.Mem.head _)))))) rfl rfl rfl rfl rfl ?_
  refine OWp.step rfl (Step.call rfl rfl rfl rfl rfl rfl ((checkC (x := x) ?_)))
  rw [hopE_no hp]
  refine OWp.evs 1 rfl ?_
  refine OWp.nil ?_
  refine Wp.seq (Wp.region ?_)
  refine OWp.evs 2 rfl ?_
  refine OWp.nil ?_
  refine Wp.cond rfl (fun _ => ?_) (fun c => nomatch c)
  refine Wp.drop (S' := S) (by repeat (first | exact List.Sublist.refl _ | exact List.sublist_append_right _ _ | apply List.Sublist.cons)) ?_
  refine Wp.seq (Wp.region ?_)
  refine OWp.evs 3 rfl ?_
  refine OWp.nil ?_
  refine Wp.ret ⟨trivial, _, ⟨_, _, rfl, rfl, _, _, rfl, rfl, rfl⟩, ?_⟩
  exact h
theorem encode_yes {x : Hop} (hp : hopP x) (h : Q (.tuple #[.string (str (hopB x)), .int .i64 0]) S) : CallWp Try.prog B 40 #[.agg x.cells.toArray] Q S := by
  have hid : x.id.length ≤ 20 := by unfold hopP at hp; omega
  have hmx : (if x.user > x.node then x.user else x.node) = x.node + x.user := by unfold hopP at hp; split <;> omega
  have e8 : (2 : Int) ^ (min 8 IntKind.i64.bits) = 256 := by decide
  have hd : x.delay.fdiv (2 ^ (min 8 IntKind.i64.bits)) = x.delay / 256 := by rw [e8]; exact Int.fdiv_eq_ediv_of_nonneg _ (by omega)
  refine CallWp.enter (args := [_]) Try.func40 rfl Try.ntmps40 rfl ?_
  refine Wp.seq (Wp.region ?_)
  refine OWp.step rfl (Step.box rfl rfl rfl ?_); intro L1 hBL1 hLL1
  refine OWp.evs 2 rfl ?_
  refine OWp.nil ?_
  refine Wp.seq ?_
  refine Wp.seq (Wp.region ?_)
  first | refine OWp.load (List.Mem.head _) rfl rfl rfl rfl rfl ?_ | refine OWp.load (List.Mem.tail _ (List.Mem.head _)) rfl rfl rfl rfl rfl ?_ | refine OWp.load (List.Mem.tail _ (List.Mem.tail _ (List.Mem.head _))) rfl rfl rfl rfl rfl ?_ | refine OWp.load (List.Mem.tail _ (List.Mem.tail _ (List.Mem.tail _ (List.Mem.head _)))) rfl rfl rfl rfl rfl ?_ | refine OWp.load (List.Mem.tail _ (List.Mem.tail _ (List.Mem.tail _ (List.Mem.tail _ (List.Mem.head _))))) rfl rfl rfl rfl rfl ?_ | refine OWp.load (List.Mem.tail _ (List.Mem.tail _ (List.Mem.tail _ (List.Mem.tail _ (List.Mem.tail _ (List.Mem.head _)))))) rfl rfl rfl rfl rfl ?_
  refine OWp.step rfl (Step.call rfl rfl rfl rfl rfl rfl ((checkC (x := x) ?_)))
  rw [hopE_yes hp]
  refine OWp.evs 1 rfl ?_
  refine OWp.nil ?_
  refine Wp.seq (Wp.region ?_)
  refine OWp.evs 2 rfl ?_
  refine OWp.nil ?_
  refine Wp.cond rfl (fun c => nomatch c) (fun _ => ?_)
  refine Wp.skip ?_
  refine Wp.seq (Wp.region ?_)
  refine OWp.step rfl (Step.alloc rfl rfl rfl ?_); intro L5 hBL5 hLL5
  refine OWp.nil ?_
  refine Wp.seq (Wp.regionDraw [0, 1, 2, 3, 4, 5, 6, 7, 8, 9, 10, 11, 12, 13, 14, 15] [11, 13, 15] rfl (by decide +kernel) ?_)
  refine DWp.evs 1 rfl ?_
  first | refine DWp.load (List.Mem.head _) rfl rfl rfl rfl rfl rfl rfl ?_ | refine DWp.load (List.Mem.tail _ (List.Mem.head _)) rfl rfl rfl rfl rfl rfl rfl ?_ | refine DWp.load (List.Mem.tail _ (List.Mem.tail _ (List.Mem.head _))) rfl rfl rfl rfl rfl rfl rfl ?_ | refine DWp.load (List.Mem.tail _ (List.Mem.tail _ (List.Mem.tail _ (List.Mem.head _)))) rfl rfl rfl rfl rfl rfl rfl ?_ | refine DWp.load (List.Mem.tail _ (List.Mem.tail _ (List.Mem.tail _ (List.Mem.tail _ (List.Mem.head _))))) rfl rfl rfl rfl rfl rfl rfl ?_ | refine DWp.load (List.Mem.tail _ (List.Mem.tail _ (List.Mem.tail _ (List.Mem.tail _ (List.Mem.tail _ (List.Mem.head _)))))) rfl rfl rfl rfl rfl rfl rfl ?_
  refine DWp.evs 2 rfl ?_
  first | refine DWp.load (List.Mem.head _) rfl rfl rfl rfl rfl rfl rfl ?_ | refine DWp.load (List.Mem.tail _ (List.Mem.head _)) rfl rfl rfl rfl rfl rfl rfl ?_ | refine DWp.load (List.Mem.tail _ (List.Mem.tail _ (List.Mem.head _))) rfl rfl rfl rfl rfl rfl rfl ?_ | refine DWp.load (List.Mem.tail _ (List.Mem.tail _ (List.Mem.tail _ (List.Mem.head _)))) rfl rfl rfl rfl rfl rfl rfl ?_ | refine DWp.load (List.Mem.tail _ (List.Mem.tail _ (List.Mem.tail _ (List.Mem.tail _ (List.Mem.head _))))) rfl rfl rfl rfl rfl rfl rfl ?_ | refine DWp.load (List.Mem.tail _ (List.Mem.tail _ (List.Mem.tail _ (List.Mem.tail _ (List.Mem.tail _ (List.Mem.head _)))))) rfl rfl rfl rfl rfl rfl rfl ?_
  refine DWp.evs 3 rfl ?_
  first | refine DWp.load (List.Mem.head _) rfl rfl rfl rfl rfl rfl rfl ?_ | refine DWp.load (List.Mem.tail _ (List.Mem.head _)) rfl rfl rfl rfl rfl rfl rfl ?_ | refine DWp.load (List.Mem.tail _ (List.Mem.tail _ (List.Mem.head _))) rfl rfl rfl rfl rfl rfl rfl ?_ | refine DWp.load (List.Mem.tail _ (List.Mem.tail _ (List.Mem.tail _ (List.Mem.head _)))) rfl rfl rfl rfl rfl rfl rfl ?_ | refine DWp.load (List.Mem.tail _ (List.Mem.tail _ (List.Mem.tail _ (List.Mem.tail _ (List.Mem.head _))))) rfl rfl rfl rfl rfl rfl rfl ?_ | refine DWp.load (List.Mem.tail _ (List.Mem.tail _ (List.Mem.tail _ (List.Mem.tail _ (List.Mem.tail _ (List.Mem.head _)))))) rfl rfl rfl rfl rfl rfl rfl ?_
  refine DWp.evs 1 rfl ?_
  refine DWp.g rfl rfl rfl rfl (Gives.indexAddrArr (0) rfl rfl rfl rfl rfl rfl (by decide)) ?_
  refine DWp.step rfl rfl rfl (Step.storeAs 0 (byteCells (u8 x.kind :: 0 :: 0 :: 0 :: List.replicate 20 0)) rfl rfl rfl rfl rfl (by assumption) rfl (Unfz.zero _) rfl (Nat.le_of_ble_eq_true rfl) (by rw [u8_wrap]; rfl) rfl ?_)
  refine ⟨by (repeat (first | exact pr_nil | refine pr_kept ?_ | refine pr_free ?_ | refine pr_cons (by repeat (first | exact List.Mem.head _ | assumption | apply List.mem_cons_of_mem | apply List.mem_append_right)) ?_)), ?_⟩
  refine DWp.g rfl rfl rfl rfl (Gives.indexAddrArr (2) rfl rfl rfl rfl rfl rfl (by decide)) ?_
  refine DWp.step rfl rfl rfl (Step.storeAs 0 (byteCells (u8 x.kind :: 0 :: u8 (x.delay / 256) :: 0 :: List.replicate 20 0)) rfl rfl rfl rfl rfl (by assumption) rfl (Unfz.zero _) rfl (Nat.le_of_ble_eq_true rfl) (by rw [hd, u8_wrap]; rfl) rfl ?_)
  refine ⟨by (repeat (first | exact pr_nil | refine pr_kept ?_ | refine pr_free ?_ | refine pr_cons (by repeat (first | exact List.Mem.head _ | assumption | apply List.mem_cons_of_mem | apply List.mem_append_right)) ?_)), ?_⟩
  refine DWp.g rfl rfl rfl rfl (Gives.indexAddrArr (3) rfl rfl rfl rfl rfl rfl (by decide)) ?_
  refine DWp.stepAll rfl rfl rfl rfl (Step.storeAs 0 (byteCells (u8 x.kind :: 0 :: u8 (x.delay / 256) :: u8 x.delay :: List.replicate 20 0)) rfl rfl rfl rfl rfl (by assumption) rfl (Unfz.zero _) rfl (Nat.le_of_ble_eq_true rfl) (by rw [u8_wrap]; rfl) rfl ?_)
  refine DWp.nil ?_
  refine Wp.seq (Wp.region ?_)
  refine OWp.evs 1 rfl ?_
  first | refine OWp.load (List.Mem.head _) rfl rfl rfl rfl rfl ?_ | refine OWp.load (List.Mem.tail _ (List.Mem.head _)) rfl rfl rfl rfl rfl ?_ | refine OWp.load (List.Mem.tail _ (List.Mem.tail _ (List.Mem.head _))) rfl rfl rfl rfl rfl ?_ | refine OWp.load (List.Mem.tail _ (List.Mem.tail _ (List.Mem.tail _ (List.Mem.head _)))) rfl rfl rfl rfl rfl ?_ | refine OWp.load (List.Mem.tail _ (List.Mem.tail _ (List.Mem.tail _ (List.Mem.tail _ (List.Mem.head _))))) rfl rfl rfl rfl rfl ?_ | refine OWp.load (List.Mem.tail _ (List.Mem.tail _ (List.Mem.tail _ (List.Mem.tail _ (List.Mem.tail _ (List.Mem.head _)))))) rfl rfl rfl rfl rfl ?_
  refine OWp.evs 1 rfl ?_
  first | refine OWp.load (List.Mem.head _) rfl rfl rfl rfl rfl ?_ | refine OWp.load (List.Mem.tail _ (List.Mem.head _)) rfl rfl rfl rfl rfl ?_ | refine OWp.load (List.Mem.tail _ (List.Mem.tail _ (List.Mem.head _))) rfl rfl rfl rfl rfl ?_ | refine OWp.load (List.Mem.tail _ (List.Mem.tail _ (List.Mem.tail _ (List.Mem.head _)))) rfl rfl rfl rfl rfl ?_ | refine OWp.load (List.Mem.tail _ (List.Mem.tail _ (List.Mem.tail _ (List.Mem.tail _ (List.Mem.head _))))) rfl rfl rfl rfl rfl ?_ | refine OWp.load (List.Mem.tail _ (List.Mem.tail _ (List.Mem.tail _ (List.Mem.tail _ (List.Mem.tail _ (List.Mem.head _)))))) rfl rfl rfl rfl rfl ?_
  refine OWp.evs 2 rfl ?_
  refine OWp.g rfl rfl (Gives.indexAddrArr (1) rfl rfl rfl rfl rfl rfl (by decide)) ?_
  refine OWp.step rfl (Step.storeAs 0 (byteCells (u8 x.kind :: u8 (x.node + x.user) :: u8 (x.delay / 256) :: u8 x.delay :: List.replicate 20 0)) rfl rfl rfl rfl rfl (by assumption) rfl (Unfz.zero _) rfl (Nat.le_of_ble_eq_true rfl) (by rw [hmx, u8_wrap]; rfl) rfl ?_)
  refine OWp.nil ?_
  refine Wp.seq (Wp.regionDraw [0, 1, 2, 3] [3] rfl (by decide +kernel) ?_)
  refine DWp.g rfl rfl rfl rfl (Gives.sliceArr (l := 4) (h' := 24) rfl rfl rfl rfl ⟨_, _, rfl, rfl⟩ rfl (by omega) (by omega) (by omega)) ?_
  refine DWp.evs 1 rfl ?_
  first | refine DWp.load (List.Mem.head _) rfl rfl rfl rfl rfl rfl rfl ?_ | refine DWp.load (List.Mem.tail _ (List.Mem.head _)) rfl rfl rfl rfl rfl rfl rfl ?_ | refine DWp.load (List.Mem.tail _ (List.Mem.tail _ (List.Mem.head _))) rfl rfl rfl rfl rfl rfl rfl ?_ | refine DWp.load (List.Mem.tail _ (List.Mem.tail _ (List.Mem.tail _ (List.Mem.head _)))) rfl rfl rfl rfl rfl rfl rfl ?_ | refine DWp.load (List.Mem.tail _ (List.Mem.tail _ (List.Mem.tail _ (List.Mem.tail _ (List.Mem.head _))))) rfl rfl rfl rfl rfl rfl rfl ?_ | refine DWp.load (List.Mem.tail _ (List.Mem.tail _ (List.Mem.tail _ (List.Mem.tail _ (List.Mem.tail _ (List.Mem.head _)))))) rfl rfl rfl rfl rfl rfl rfl ?_
  refine DWp.stepAll rfl rfl rfl rfl (Step.copyStr 0 (byteCells (hopB x)) rfl rfl rfl rfl rfl rfl rfl (by assumption) (Unfz.zero _) (by show 0 + 4 * 1 + min x.id.length 20 ≤ 24; omega) (by show wr _ (0 + 4 * 1) (byteCells (x.id.take (min x.id.length 20))) = _; rw [List.take_of_length_le (by omega)]; exact id_put) rfl ?_)
  refine DWp.nil ?_
  refine Wp.seq (Wp.region ?_)
  refine OWp.g rfl rfl (Gives.sliceArr (l := 0) (h' := 24) rfl rfl rfl rfl rfl rfl (by omega) (by omega) (by omega)) ?_
  refine OWp.gives rfl rfl (Gives.bytesToStr (F := (L5, cel (byteCells (hopB x)) 124) :: (L1, cel x.cells 63) :: S) (l := hopB x) (k := 24) rfl rfl rfl rfl rfl (by have := Reads.row (S := (L5, cel (byteCells (hopB x)) 124) :: (L1, cel x.cells 63) :: S) (sz := 1) (k := 24) (cap := 24) (.head _) (by rw [byteCells_length, hopB_len hp]; decide); rw [List.take_of_length_le (by rw [byteCells_length, hopB_len hp]; decide)] at this; exact this)) (fun _ h => h) ?_
  refine OWp.evs 2 rfl ?_
  refine OWp.nil ?_
  refine Wp.drop (S' := S) (by repeat (first | exact List.Sublist.refl _ | exact List.sublist_append_right _ _ | apply List.Sublist.cons)) ?_
  refine Wp.ret ⟨trivial, _, ⟨_, _, rfl, rfl, _, _, rfl, rfl, rfl⟩, ?_⟩
  exact h
end
end Go.Proofs.C
