/- What functions of the given program do, one after the other, told by that layer. -/
import Derived.Test.YtlfhhkdjahcglaaGreatDoorKM14x2bc5
import Derived.Test.YtlfhhkdjahcglaaGreatDoorKM11x8ff7
import Derived.Test.YtlfhhkdjahcglaaGreatDoorKM6x1405
import Derived.Test.YtlfhhkdjahcglaaGreatDoorKM12x68f2
import Derived.Test.YtlfhhkdjahcglaaGreatDoorKM13x2a7e
import Derived.Test.YtlfhhkdjahcglaaGreatDoorEM2x2952
import Derived.Test.YtlfhhkdjahcglaaGreatDoorKM8x1aa8
import Derived.Test.YtlfhhkdjahcglaaGreatDoorEHeadW
/- Messages: how they are read. -/
namespace Go.Lg
theorem DWp.drop0 {P : Program} {B n : Nat} {ops : Array Oper} {Q : Exit → Env → Ents → Prop} {E : Env} {S S' : Ents} {muts : List Nat} {l : Array Bool} {rest : List Nat} (h : S'.Sublist S) (hc : DWp P B n ops muts l rest [] Q E S') : DWp P B n ops muts l rest [] Q E S :=
 fun hgo a w hS hA => hc ⟨hgo.closed, hgo.ok, hgo.sel, fun _ hx => nomatch hx⟩ a w (hS.sublist h) hA
end Go.Lg
namespace Go.Proofs.D
open Go.Lg Go.Sha Go.Hd Go.Cv
set_option maxRecDepth 100000
section
variable {B : Nat} {S R : Ents} {Q : Value → Ents → Prop}
theorem mcutC {L n : Nat} {s : List UInt8} (hB : B ≤ L) (hn : n ≤ s.length) (hm : n ≤ 4294967296) (H : Q (.string (str (s.take n))) ((L, cel [.string (str (s.drop n))] 9) :: S)) : CallWp Tryz.prog B 41 #[pt L, .int .i64 (n : Int)] Q ((L, cel [.string (str s)] 9) :: S) := by
 refine Yx (args := [_, _]) Tryz.func41 Tryz.ntmps41 ?_
 refine Yn 1 rfl ?_
 refine Yg 2 rfl ?_
 refine Yl m0 ?_
 refine Ye 1 rfl ?_
 refine OWp.g rfl rfl (Gives.sliceStr (l := 0) (h' := n) rfl rfl rfl rfl ⟨_, _, rfl, rfl⟩ (by omega) (by omega)) ?_
 refine Yz 1 rfl ?_
 refine Yg 3 rfl ?_
 refine Yl m0 ?_
 refine Ye 1 rfl ?_
 refine OWp.g rfl rfl (Gives.sliceStr (l := n) (h' := s.length) rfl rfl rfl ⟨_, _, rfl, rfl⟩ rfl (by omega) (by omega)) ?_
 rw [show (s.drop n).take (s.length - n) = s.drop n from List.take_of_length_le (by rw [List.length_drop]; omega)]
 refine Ye 1 rfl ?_
 refine OWp.step rfl (Step.storeAs 0 ([.string (str (s.drop n))]) rfl rfl rfl rfl rfl (by assumption) rfl (Unfz.zero _) rfl (Nat.le_of_ble_eq_true rfl) rfl rfl ?_)
 refine OWp.nil ?_
 refine Yn 2 rfl ?_
 refine Wp.ret ⟨trivial, _, ⟨_, _, rfl, rfl, rfl⟩, ?_⟩
 exact H
theorem decPackC {text : List UInt8} (ht : text.length = 504) (H : Q (.tuple #[.agg (mlc 1 0 0 text [] (.slice none 0 0) (.slice none 0 0)).toArray, .int .i64 0]) S) : CallWp Tryz.prog B 15 #[.string (str (packB text))] Q S := by
 refine CallWp.dropRet ?_
 refine Yx (args := [_]) Tryz.func15 Tryz.ntmps15 ?_
 refine Yq ?_
 refine Ya rfl rfl rfl rfl fun L2 hBL2 hLL2 => ?_
 refine Yz 1 rfl ?_
 refine Wp.seq ?_
 refine Yg 3 rfl ?_
 refine Dt 15 rfl (by exact fun h => nomatch h) fun cc1 => ?_
 refine Ye 3 rfl ?_
 refine OWp.g rfl rfl (Gives.indexStr (b := 1) rfl rfl rfl rfl (by decide) rfl) ?_
 refine Ye 1 rfl ?_
 refine Yc rfl rfl (mlongC (n := 505) (.inl ⟨rfl, rfl⟩) ?_)
 refine Yz 2 rfl ?_
 refine Cu rfl (by simp [packB, ht]) fun cc2 => ?_
 refine Wp.skip ?_
 refine Yg 1 rfl ?_
 refine Ya rfl rfl rfl rfl fun L4 hBL4 hLL4 => ?_
 refine OWp.step rfl (Step.storeAs 0 ([.string (str (packB text))]) rfl rfl rfl rfl rfl (by assumption) rfl (Unfz.zero _) rfl (Nat.le_of_ble_eq_true rfl) rfl rfl ?_)
 refine OWp.nil ?_
 refine Yq ?_
 refine Yc rfl rfl (mcutC hBL4 (by simp [packB]) (by decide) ?_)
 refine OWp.g rfl rfl (Gives.indexStr (b := 1) rfl rfl rfl rfl (by decide) rfl) ?_
 refine Ye 1 rfl ?_
 refine OWp.g rfl rfl (Gives.build rfl rfl) ?_
 refine Ya rfl rfl rfl rfl fun L5 hBL5 hLL5 => ?_
 refine OWp.step rfl (Step.storeAs 0 ((mlc 1 0 0 [] [] (.slice none 0 0) (.slice none 0 0))) rfl rfl rfl rfl rfl (by assumption) rfl (Unfz.zero _) rfl (Nat.le_of_ble_eq_true rfl) rfl rfl ?_)
 refine OWp.nil ?_
 refine Wp.seq ?_
 refine Yg 1 rfl ?_
 refine Yl m0 ?_
 refine Yz 1 rfl ?_
 refine Cv rfl (by decide) fun cc3 => ?_
 refine Yq ?_
 refine Yl m1 ?_
 refine Ye 1 rfl ?_
 refine OWp.step rfl (Step.storeAs 0 ((mlc 1 0 0 text [] (.slice none 0 0) (.slice none 0 0))) rfl rfl rfl rfl rfl (by assumption) rfl (Unfz.zero _) rfl (Nat.le_of_ble_eq_true rfl) rfl rfl ?_)
 refine OWp.nil ?_
 refine Yq ?_
 refine Yl m0 ?_
 refine OWp.step rfl (Step.storeAs 2 ((mlc 1 0 0 text [] (.slice none 0 0) (.slice none 0 0))) rfl rfl rfl rfl rfl hBL2 rfl (Unfz.zero _) rfl (Nat.le_of_ble_eq_true rfl) rfl rfl ?_)
 refine Yz 1 rfl ?_
 refine Wp.ret ⟨trivial, _, ⟨_, _, _, _, rfl, rfl, ⟨_, _, _, mems, (by first | assumption | rfl)⟩, ⟨_, _, rfl, rfl, rfl⟩⟩, ?_⟩
 exact ⟨S, subl, H⟩
theorem u8i {n : Nat} (h : n < 256) : IntKind.i64.wrap ((UInt8.ofNat n).toNat : Int) = (n : Int) := by
 rw [UInt8.toNat_ofNat', i64_id] <;> omega
/-- The number that the first bytes make. -/
def sq (seq i : Nat) : Nat := seq / 2 ^ (8 * (4 - i))
theorem or256 {a b : Nat} (h : b < 256) : (a * 256) ||| b = a * 256 + b := by
 have := Nat.two_pow_add_eq_or_of_lt (i := 8) (b := b) (by simpa using h) a
 rw [Nat.mul_comm a 256]
 exact this.symm
theorem sq_or {q a : Nat} (hq : q ≤ 2147483647) (ha : a = q / 256) : bits .or .i64 (IntKind.i64.wrap ((a : Int) * 2 ^ (min 8 IntKind.i64.bits))) (IntKind.i64.wrap ((UInt8.ofNat q).toNat : Int)) = (q : Int) := by
 subst ha
 have e1 : IntKind.i64.wrap (((q / 256 : Nat) : Int) * 2 ^ (min 8 IntKind.i64.bits)) = ((q / 256 * 256 : Nat) : Int) := by
  rw [show (2 : Int) ^ (min 8 IntKind.i64.bits) = 256 from rfl, i64_id] <;> omega
 have e2 : IntKind.i64.wrap ((UInt8.ofNat q).toNat : Int) = ((q % 256 : Nat) : Int) := by
  rw [UInt8.toNat_ofNat', i64_id] <;> omega
 rw [e1, e2, i63_or (by omega) (by omega), or256 (by omega)]
 omega
theorem sq_div {seq i : Nat} (hi : i < 4) : sq seq i = sq seq (i + 1) / 256 := by
 unfold sq
 rw [show 8 * (4 - i) = 8 * (4 - (i + 1)) + 8 by omega, Nat.pow_add, Nat.div_div_eq_div_mul]
theorem sq_le {seq i : Nat} : sq seq i ≤ seq := Nat.div_le_self _ _
theorem sq_zero {seq : Nat} (h : seq ≤ 2147483647) : sq seq 0 = 0 := by
 unfold sq
 exact Nat.div_eq_of_lt (by omega)
theorem sq_four {seq : Nat} : sq seq 4 = seq := by simp [sq]
def seqB (seq : Nat) : List UInt8 := [UInt8.ofNat (seq / 16777216), UInt8.ofNat (seq / 65536), UInt8.ofNat (seq / 256), UInt8.ofNat seq]
theorem seqB_get {seq i : Nat} (hi : i < 4) : (seqB seq)[i]? = some (UInt8.ofNat (sq seq (i + 1))) := by
 match i, hi with
 | 0, _ => rfl
 | 1, _ => rfl
 | 2, _ => rfl
 | 3, _ => simp [seqB, sq]
theorem seqB_cell {seq i : Nat} (hi : i < 4) (g : List Value) : (byteCells (seqB seq) ++ g)[0 + i * 1]? = some (.int .u8 ((UInt8.ofNat (sq seq (i + 1))).toNat : Int)) := by
 rw [show 0 + i * 1 = i by omega, List.getElem?_append_left (by simp [byteCells, seqB]; omega), byteCells, List.getElem?_map, seqB_get hi]
 rfl
/-- What stands behind the user and the number: a tag, slots, ids. -/
def restP (k : UInt8) (r tag : List UInt8) (l : List Slot) (ids : List (List UInt8)) : Prop :=
 (k = 2 ∧ r = tag ∧ tag.length = 32 ∧ l = [] ∧ ids = []) ∨
 (k = 3 ∧ tag = [] ∧ r = (l.map slotB).flatten ∧ l.length = 4 ∧ (∃ n, fillN l n) ∧ ids = []) ∨
 (k = 4 ∧ r = tag ++ (ids.flatten ++ List.replicate (64 - ids.flatten.length) 0) ∧ tag.length = 32 ∧ l = [] ∧ ids.length ≤ 4 ∧ ∀ s ∈ ids, idP s)
def mailN (k : UInt8) : Nat := if k = 2 then 38 else if k = 3 then 962 else 102
theorem rest_len {k : UInt8} {r tag : List UInt8} {l : List Slot} {ids : List (List UInt8)} (h : restP k r tag l ids) : r.length + 6 = mailN k := by
 rcases h with ⟨rfl, rfl, h, _⟩ | ⟨rfl, _, rfl, h, ⟨n, hn⟩, _⟩ | ⟨rfl, rfl, h, _, h4, hi⟩
 ·rw [h]; rfl
 ·rw [mapB_len (fill_slotP hn), h]; rfl
 ·have := ids_len fun s hs => (hi s hs).1
  rw [List.length_append, List.length_append, List.length_replicate, h, this]
  show _ = 102
  omega
theorem rest_k {k : UInt8} {r tag : List UInt8} {l : List Slot} {ids : List (List UInt8)} (h : restP k r tag l ids) : k = 2 ∨ k = 3 ∨ k = 4 := by
 rcases h with ⟨h, _⟩ | ⟨h, _⟩ | ⟨h, _⟩ <;> simp [h]
def idB (x : Slot) : List UInt8 := x.1 ++ List.replicate (16 - x.1.length) 0
def txB (x : Slot) : List UInt8 := x.2 ++ List.replicate (222 - x.2.length) 0
theorem slotB_eq (x : Slot) (r : List UInt8) : slotB x ++ r = idB x ++ (UInt8.ofNat x.2.length :: (txB x ++ r)) := by simp [slotB, idB, txB]
theorem idB_len {x : Slot} (h : slotP x) : (idB x).length = 16 := by
 have := h.1
 rw [idB, List.length_append, List.length_replicate]
 omega
theorem txB_len {x : Slot} (h : slotP x) : (txB x).length = 222 := by
 have := h.2
 rw [txB, List.length_append, List.length_replicate]
 omega
def restB (l : List Slot) (i : Nat) : List UInt8 := ((l.drop i).map slotB).flatten
theorem restB_succ {l : List Slot} {i : Nat} (h : i < l.length) : restB l i = idB l[i] ++ (UInt8.ofNat l[i].2.length :: (txB l[i] ++ restB l (i + 1))) := by
 rw [restB, List.drop_eq_getElem_cons h, List.map_cons, List.flatten_cons, slotB_eq]
 rfl
theorem sl_take {l : List Slot} {i : Nat} (h : i < l.length) : (l.take (i + 1)).flatMap slc = (l.take i).flatMap slc ++ slc l[i] := by
 rw [List.take_succ_eq_append_getElem h, List.flatMap_append]
 simp
def pdI (ids : List (List UInt8)) : List (List UInt8) := ids ++ List.replicate (4 - ids.length) noId
def restI (ids : List (List UInt8)) (i : Nat) : List UInt8 := ((pdI ids).drop i).flatten
theorem restI_zero {ids : List (List UInt8)} (h : ∀ s ∈ ids, idP s) : ids.flatten ++ List.replicate (64 - ids.flatten.length) 0 = restI ids 0 := by
 rw [restI, List.drop_zero, pdI, List.flatten_append, noId, List.flatten_replicate_replicate, ids_len fun s hs => (h s hs).1, show 64 - ids.length * 16 = (4 - ids.length) * 16 by omega]
theorem pdI_len {ids : List (List UInt8)} (h : ids.length ≤ 4) : (pdI ids).length = 4 := by
 rw [pdI, List.length_append, List.length_replicate]
 omega
theorem restI_succ {ids : List (List UInt8)} {i : Nat} (h : i < (pdI ids).length) : restI ids i = (pdI ids)[i] ++ restI ids (i + 1) := by
 rw [restI, List.drop_eq_getElem_cons h, List.flatten_cons]
 rfl
theorem restI_in {ids : List (List UInt8)} {i : Nat} (h : i < ids.length) : restI ids i = ids[i] ++ restI ids (i + 1) := by
 rw [restI_succ (by rw [pdI, List.length_append]; omega)]
 simp only [pdI, List.getElem_append_left h]
theorem restI_out {ids : List (List UInt8)} {i : Nat} (h : ids.length ≤ i) (h4 : i < 4) : restI ids i = noId ++ restI ids (i + 1) := by
 rw [restI_succ (by rw [pdI, List.length_append, List.length_replicate]; omega)]
 simp only [pdI, List.getElem_append_right h, List.getElem_replicate]
theorem strs_take {l : List (List UInt8)} {i : Nat} (h : i < l.length) : strs (l.take (i + 1)) = strs (l.take i) ++ [.string (str l[i])] := by
 rw [List.take_succ_eq_append_getElem h, strs, List.map_append]
 rfl
def mailB (k : UInt8) (user seq : Nat) (r : List UInt8) : List UInt8 := k :: UInt8.ofNat user :: (seqB seq ++ r)
set_option maxHeartbeats 1000000 in
theorem decWhoC {k : UInt8} {user seq : Nat} {r tag : List UInt8} {l : List Slot} {ids : List (List UInt8)} (hu : user < 64) (h1 : 1 ≤ seq) (h2 : seq ≤ 2147483647) (hr : restP k r tag l ids)
  (H : ∀ sv iv es fs, Lg.Own B 64 2 sv l.length (l.flatMap slc) es → Lg.Own B 9 1 iv ids.length (strs ids) fs → (k ≠ 3 → sv = .slice none 0 0 ∧ es = []) → (k ≠ 4 → iv = .slice none 0 0 ∧ fs = []) → Q (.tuple #[.agg (mlc k.toNat user seq [] tag sv iv).toArray, .int .i64 0]) (es ++ (fs ++ S))) : CallWp Tryz.prog B 15 #[.string (str (mailB k user seq r))] Q S := by
 have hlen := rest_len hr
 have hk := rest_k hr
 have hki : IntKind.i64.wrap (k.toNat : Int) = (k.toNat : Int) := by rcases hk with rfl | rfl | rfl <;> decide
 have hN : mailN k = 38 ∨ mailN k = 962 ∨ mailN k = 102 := by rcases hk with rfl | rfl | rfl <;> decide
 refine C.subRet ?_
 refine Yx (args := [_]) Tryz.func15 Tryz.ntmps15 ?_
 refine Yq ?_
 refine Ya rfl rfl rfl rfl fun L2 hBL2 hLL2 => ?_
 refine Yz 1 rfl ?_
 refine Wp.seq ?_
 refine Yg 3 rfl ?_
 refine Dt 15 rfl (by exact fun h => nomatch h) fun cc1 => ?_
 refine Ye 3 rfl ?_
 refine OWp.g rfl rfl (Gives.indexStr (b := k) rfl rfl rfl rfl (by decide) rfl) ?_
 refine Ye 1 rfl ?_
 refine Yc rfl rfl (mlongC (n := mailN k) (by rw [hki]; rcases hk with rfl | rfl | rfl <;> decide) ?_)
 refine Yz 2 rfl ?_
 refine Cu rfl (by simp [mailB, seqB]; omega) fun cc2 => ?_
 refine Wp.skip ?_
 refine Yg 1 rfl ?_
 refine Ya rfl rfl rfl rfl fun L4 hBL4 hLL4 => ?_
 refine OWp.step rfl (Step.storeAs 0 ([.string (str (mailB k user seq r))]) rfl rfl rfl rfl rfl (by assumption) rfl (Unfz.zero _) rfl (Nat.le_of_ble_eq_true rfl) rfl rfl ?_)
 refine OWp.nil ?_
 refine Yq ?_
 refine Yc rfl rfl (mcutC hBL4 (by simp [mailB]) (by decide) ?_)
 refine OWp.g rfl rfl (Gives.indexStr (b := k) rfl rfl rfl rfl (by decide) rfl) ?_
 refine Ye 1 rfl ?_
 refine OWp.g rfl rfl (Gives.build rfl rfl) ?_
 refine Ya rfl rfl rfl rfl fun L5 hBL5 hLL5 => ?_
 refine OWp.step rfl (Step.storeAs 0 ((mlc k.toNat 0 0 [] [] (.slice none 0 0) (.slice none 0 0))) rfl rfl rfl rfl rfl (by assumption) rfl (Unfz.zero _) rfl (Nat.le_of_ble_eq_true rfl) (by rw [hki]; rfl) rfl ?_)
 refine OWp.nil ?_
 refine Wp.seq ?_
 refine Yg 1 rfl ?_
 refine Yl m0 ?_
 refine Yz 1 rfl ?_
 refine Ct rfl (by rcases hk with rfl | rfl | rfl <;> decide) fun cc3 => ?_
 refine Wp.skip ?_
 refine Wp.permS (.swap ..) ?_
 refine Yq ?_
 refine Yc rfl rfl (mcutC hBL4 (by simp [mailB]) (by decide) ?_)
 refine OWp.g rfl rfl (Gives.indexStr (b := UInt8.ofNat user) rfl rfl rfl rfl (by simp) rfl) ?_
 refine Ye 2 rfl ?_
 refine OWp.step rfl (Step.storeAs 1 ((mlc k.toNat user 0 [] [] (.slice none 0 0) (.slice none 0 0))) rfl rfl rfl rfl rfl hBL5 rfl (Unfz.zero _) rfl (Nat.le_of_ble_eq_true rfl) (by rw [u8i (by omega)]; rfl) rfl ?_)
 refine OWp.nil ?_
 refine Wp.seq ?_
 refine Yq ?_
 refine Yc rfl rfl (mcutC hBL4 (by simp [mailB, seqB]) (by decide) ?_)
 show OWp _ _ _ _ _ _ _ _
 refine OWp.step rfl (Step.strToBytes rfl rfl rfl rfl rfl rfl ?_); intro L41 g41 cap41 hBL41 hLL41 hcL41
 refine Yz 2 rfl ?_
 refine Wp.block ?_
 refine Wp.loopS (α := Nat) (fun i => 4 - i) (fun i => [(0, .string (str (mailB k user seq r))), (2, pt L2), (3, .int .i64 0), (4, pt L4), (5, pt L5), (41, .slice (some ⟨L41, 0, none⟩) 4 cap41), (42, .int .i64 4), (43, .int .i64 (i : Int))]) (fun i => (L5, cel (mlc k.toNat user (sq seq i : Nat) [] [] (.slice none 0 0) (.slice none 0 0)) 58) :: (L41, cel (byteCells (seqB seq) ++ g41) 5 (cap41, cap41 + 1)) :: (L4, cel [.string (str r)] 9) :: (L2, cel (mlc 0 0 0 [] [] (.slice none 0 0) (.slice none 0 0)) 58) :: S) (fun i => i ≤ 4) 0 ?_ ?_ (Nat.zero_le _) ?_
 ·exact .cons rfl (.cons rfl (.cons rfl (.cons rfl (.cons rfl (.cons rfl (.cons rfl (.cons rfl (.nil _))))))))
 ·rw [sq_zero h2]; exact (List.Perm.cons _ (.swap ..)).trans (.swap ..)
 rintro i hi
 refine Yn 1 rfl ?_
 refine Wp.seq ?_
 refine Wp.cond rfl (fun c1 => ?_) (fun c1 => ?_)
 ·have c1 := of_decide_eq_true c1
  have hlt : i < 4 := by omega
  refine Wp.skip ?_
  refine Wp.seq ?_
  refine Wp.block ?_
  refine Yq ?_
  refine OWp.g rfl rfl (Gives.indexAddrSlice (i) rfl rfl rfl rfl rfl rfl (by omega)) ?_
  refine OWp.load (.tail _ (.head _)) rfl rfl rfl rfl (seqB_cell hlt g41) ?_
  refine Yz 1 rfl ?_
  refine Wp.region ?_
  refine Ye 1 rfl ?_
  refine Yl m0 ?_
  refine Ye 5 rfl ?_
  refine OWp.step rfl (Step.storeAs 0 ((mlc k.toNat user (sq seq (i + 1) : Nat) [] [] (.slice none 0 0) (.slice none 0 0))) rfl rfl rfl rfl rfl hBL5 rfl (Unfz.zero _) rfl (Nat.le_of_ble_eq_true rfl) (by rw [sq_or (Nat.le_trans sq_le h2) (sq_div hlt)]; rfl) rfl ?_)
  refine OWp.nil ?_
  refine Wp.region ?_
  refine Yz 2 rfl ?_
  exact ⟨i + 1, by omega, by omega, .cons rfl (.cons rfl (.cons rfl (.cons rfl (.cons rfl (.cons rfl (.cons rfl (.cons' rfl (int_eq (i64_inc (by omega))) (.nil _)))))))), .refl _⟩
 have c1 := of_decide_eq_false c1
 obtain rfl : i = 4 := by omega
 rw [sq_four]
 refine Wp.exit ?_
 refine Wp.seq ?_
 refine Yg 1 rfl ?_
 refine Yl m0 ?_
 rcases hr with ⟨rfl, rfl, ht, rfl, rfl⟩ | ⟨rfl, rfl, rfl, h4, ⟨fn, hfn⟩, rfl⟩ | ⟨rfl, rfl, ht, rfl, h4, hid⟩
 ·skip
  refine Yz 1 rfl ?_
  refine Cw rfl (by decide) fun cc4 => ?_
  refine Wp.permS ((List.Perm.cons _ (.swap ..)).trans (.swap ..)) (Wp.drop (S' := (L4, cel [.string (str r)] 9) :: (L5, cel (mlc (2 : UInt8).toNat user seq [] [] (.slice none 0 0) (.slice none 0 0)) 58) :: (L2, cel (mlc 0 0 0 [] [] (.slice none 0 0) (.slice none 0 0)) 58) :: S) (((List.sublist_cons_self _ _).cons_cons _).cons_cons _) ?_)
  refine Wp.region ?_
  refine Yc rfl rfl (mcutC (n := 32) (s := r) hBL4 (Nat.le_of_eq ht.symm) (by decide) ?_)
  rw [List.take_of_length_le (Nat.le_of_eq ht), List.drop_of_length_le (Nat.le_of_eq ht)]
  refine Ye 1 rfl ?_
  refine OWp.step rfl (Step.storeAs 1 ((mlc (2 : UInt8).toNat user seq [] r (.slice none 0 0) (.slice none 0 0))) rfl rfl rfl rfl rfl hBL5 rfl (Unfz.zero _) rfl (Nat.le_of_ble_eq_true rfl) rfl rfl ?_)
  refine OWp.nil ?_
  refine Wp.seq ?_
  refine Wp.block ?_
  refine Wp.loopS (α := Unit) (fun _ => 0) (fun _ => [(0, .string (str (mailB 2 user seq r))), (2, pt L2), (3, .int .i64 0), (4, pt L4), (5, pt L5)]) (fun _ => (L4, cel [.string (str [])] 9) :: (L5, cel (mlc (2 : UInt8).toNat user seq [] r (.slice none 0 0) (.slice none 0 0)) 58) :: (L2, cel (mlc 0 0 0 [] [] (.slice none 0 0) (.slice none 0 0)) 58) :: S) (fun _ => True) () ?_ (.refl _) trivial ?_
  ·exact .cons rfl (.cons rfl (.cons rfl (.cons rfl (.cons rfl (.nil _)))))
  rintro _ _
  refine Wp.seq ?_
  refine Yq ?_
  refine Yl m0 ?_
  refine Yz 1 rfl ?_
  refine Cu rfl (by decide) fun cc5 => ?_
  refine Wp.exit ?_
  refine Wp.seq ?_
  refine Yq ?_
  refine Yl m1 ?_
  refine Yc rfl rfl (encPullC hu h1 h2 ht ?_)
  rw [show pullB user seq r = mailB 2 user seq r from rfl]
  refine Yz 5 rfl ?_
  refine Yg 3 rfl ?_
  refine Du 100 rfl (by exact fun h => h rfl) fun cc6 => ?_
  refine Yz 4 rfl ?_
  refine Cu rfl (by exact fun h => h rfl) fun cc7 => ?_
  refine Wp.skip ?_
  refine Yq ?_
  refine Yl m1 ?_
  refine OWp.step rfl (Step.storeAs 2 ((mlc (2 : UInt8).toNat user seq [] r (.slice none 0 0) (.slice none 0 0))) rfl rfl rfl rfl rfl hBL2 rfl (Unfz.zero _) rfl (Nat.le_of_ble_eq_true rfl) rfl rfl ?_)
  refine Yz 1 rfl ?_
  refine Wp.ret ⟨trivial, _, ⟨_, _, _, _, rfl, rfl, ⟨_, _, _, mems, (by first | assumption | rfl)⟩, ⟨_, _, rfl, rfl, rfl⟩⟩, ?_⟩
  exact ⟨_, S, .refl _, subl, H _ _ [] [] (Own.nil _ _ _) (Own.nil _ _ _) (fun _ => ⟨rfl, rfl⟩) (fun _ => ⟨rfl, rfl⟩)⟩
 skip
 ·skip
  refine Yz 1 rfl ?_
  refine Cu rfl (by decide) fun cc8 => ?_
  have hsp := fill_slotP hfn
  show Wp _ _ _ _ _ _ _
  refine Wp.permS ((List.Perm.cons _ (.swap ..)).trans (.swap ..)) (Wp.drop (S' := (L4, cel [.string (str (restB l 0))] 9) :: (L5, cel (mlc (3 : UInt8).toNat user seq [] [] (.slice none 0 0) (.slice none 0 0)) 58) :: (L2, cel (mlc 0 0 0 [] [] (.slice none 0 0) (.slice none 0 0)) 58) :: S) (((List.sublist_cons_self _ _).cons_cons _).cons_cons _) ?_)
  refine Wp.skip ?_
  refine Wp.seq ?_
  refine Wp.block ?_
  refine Wp.loopS (α := Nat × Value × Ents) (fun z => 4 - z.1) (fun z => [(0, .string (str (mailB 3 user seq (restB l 0)))), (2, pt L2), (3, .int .i64 0), (4, pt L4), (5, pt L5)]) (fun z => (L4, cel [.string (str (restB l z.1))] 9) :: (L5, cel (mlc (3 : UInt8).toNat user seq [] [] z.2.1 (.slice none 0 0)) 58) :: (z.2.2 ++ ((L2, cel (mlc 0 0 0 [] [] (.slice none 0 0) (.slice none 0 0)) 58) :: S))) (fun z => z.1 ≤ 4 ∧ Lg.Own B 64 2 z.2.1 z.1 ((l.take z.1).flatMap slc) z.2.2) (0, .slice none 0 0, []) ?_ (.refl _) ⟨Nat.zero_le _, Own.nil _ _ _⟩ ?_
  ·exact .cons rfl (.cons rfl (.cons rfl (.cons rfl (.cons rfl (.nil _)))))
  rintro ⟨i, sv, es⟩ ⟨hi, ho⟩
  simp only at hi ho ⊢
  refine Wp.seq ?_
  refine Yq ?_
  refine Yl m0 ?_
  by_cases hi4 : i < 4
  ·skip
   have hlt : i < l.length := by omega
   have hs := hsp _ (List.getElem_mem hlt)
   rw [restB_succ hlt]
   refine Yz 1 rfl ?_
   refine Cw rfl (by simp [idB_len hs, ← List.length_eq_zero_iff]) fun cc9 => ?_
   refine Wp.skip ?_
   refine Wp.block ?_
   refine Yq ?_
   refine Yc rfl rfl (mcutC (n := 16) hBL4 (by rw [List.length_append, idB_len hs]; omega) (by decide) ?_)
   rw [List.take_left' (idB_len hs), List.drop_left' (idB_len hs)]
   refine Yz 1 rfl ?_
   refine Wp.seqS (α := Unit) (fun _ => [(0, .string (str (mailB 3 user seq (restB l 0)))), (2, pt L2), (3, .int .i64 0), (4, pt L4), (5, pt L5), (8, .string (str l[i].1))]) (fun _ => (L4, cel [.string (str (UInt8.ofNat l[i].2.length :: (txB l[i] ++ restB l (i + 1))))] 9) :: (L5, cel (mlc (3 : UInt8).toNat user seq [] [] sv (.slice none 0 0)) 58) :: (es ++ ((L2, cel (mlc 0 0 0 [] [] (.slice none 0 0) (.slice none 0 0)) 58) :: S))) (fun _ => True) ?_ ?_
   ·skip
    refine Yq ?_
    by_cases hf : i < fn
    ·skip
     have he := hfn.2.1 i hlt hf
     rw [show idB l[i] = l[i].1 by simp [idB, he.1.1]]
     refine Yz 2 rfl ?_
     refine Ct rfl (by exact fun h => he.1.2 h) fun cc10 => ?_
     refine Wp.skip ?_
     exact ⟨(), trivial, .cons rfl (.cons rfl (.cons rfl (.cons rfl (.cons rfl (.cons rfl (.nil _)))))), .refl _⟩
    have h0 := hfn.2.2 i hlt (by omega)
    rw [h0]
    refine Yz 2 rfl ?_
    refine Cv rfl (by exact fun h => h rfl) fun cc11 => ?_
    refine Wp.region ?_
    refine Yz 1 rfl ?_
    exact ⟨(), trivial, .cons rfl (.cons rfl (.cons rfl (.cons rfl (.cons rfl (.cons rfl (.nil _)))))), .refl _⟩
   rintro _ _
   refine Wp.block ?_
   refine Yg 1 rfl ?_
   refine Yl m1 ?_
   refine Yz 2 rfl ?_
   refine Cv rfl (by decide) fun cc12 => ?_
   refine Yq ?_
   refine Yc rfl rfl (mcutC (n := 1) hBL4 (by simp) (by decide) ?_)
   refine OWp.g rfl rfl (Gives.indexStr (b := UInt8.ofNat l[i].2.length) rfl rfl rfl rfl (by decide) rfl) ?_
   refine Yz 2 rfl ?_
   refine Yq ?_
   refine Yc rfl rfl (mcutC (n := 222) (s := txB l[i] ++ restB l (i + 1)) hBL4 (by rw [List.length_append, txB_len hs]; omega) (by decide) ?_)
   rw [List.take_left' (txB_len hs), List.drop_left' (txB_len hs)]
   refine Yz 1 rfl ?_
   refine Wp.regionDraw [0, 1, 2, 3, 4, 5, 6, 7, 8, 9, 10, 11] [8, 9, 11] rfl (by decide +kernel) ?_
   refine DWp.evs 1 rfl ?_
   refine Yd m1 ?_
   refine DWp.evs 4 rfl ?_
   refine DWp.g rfl rfl rfl rfl (Gives.sliceStr (l := 0) (h' := l[i].2.length) rfl rfl rfl rfl ⟨_, _, rfl, (by rw [u8i (by have := hs.2; omega)]; have := hs.2; omega)⟩ (by omega) (by rw [txB_len hs]; exact hs.2)) ?_
   rw [show ((txB l[i]).drop 0).take (l[i].2.length - 0) = l[i].2 by simp [txB]]
   refine DWp.g rfl rfl rfl rfl (Gives.build rfl rfl) ?_
   refine DWp.stepGrow rfl rfl rfl (Step.buildSlice rfl rfl rfl ?_); intro Lp13 hBLp13 hLLp13; refine ⟨fun _ hy => .tail _ hy, ?_⟩
   refine DWp.stepAll rfl rfl rfl rfl (Step.appendAt [_, _, _] rfl rfl rfl rfl rfl rfl (by decide) rfl rfl ho (Reads.row (k := 1) (sz := 2) (.head _) (Nat.le_of_ble_eq_true rfl)) rfl (by show (_ + 1) * 32 ≤ _; omega) (by unfold maxLen; omega) ?_); intro sv2 es2 ho2 _
   refine DWp.drop0 (List.sublist_cons_self _ _) ?_
   have ho3 : Lg.Own B 64 2 sv2 (i + 1) ((l.take (i + 1)).flatMap slc) es2 := by rw [sl_take hlt]; exact ho2
   obtain ⟨sa, sc, rfl⟩ := ho3.reads.form
   refine DWp.evs 1 rfl ?_
   refine DWp.stepAll rfl rfl rfl rfl (Step.storeAs 1 ((mlc (3 : UInt8).toNat user seq [] [] (.slice sa (i + 1) sc) (.slice none 0 0))) rfl rfl rfl rfl rfl hBL5 rfl (Unfz.zero _) rfl (Nat.le_of_ble_eq_true rfl) rfl rfl ?_)
   refine DWp.nil ?_
   exact ⟨(i + 1, .slice sa (i + 1) sc, es2), by simp only; omega, ⟨by simp only; omega, ho3⟩, .cons rfl (.cons rfl (.cons rfl (.cons rfl (.cons rfl (.nil _))))), .refl _⟩
  obtain rfl : i = 4 := by omega
  have hr0 : restB l 4 = [] := by rw [restB, ← h4, List.drop_length]; rfl
  rw [hr0]
  refine Yz 1 rfl ?_
  refine Cu rfl (by exact fun h => h rfl) fun cc14 => ?_
  rw [← h4, List.take_length] at ho
  refine Wp.exit ?_
  refine Wp.seq ?_
  refine Yq ?_
  refine Yl m1 ?_
  refine Yc rfl rfl (encRepC (n := fn) hu h1 h2 (ho.reads.mono fun x h => .tail _ (.tail _ (List.mem_append_left _ h))) (fun a m c hv => own_cap ho hv) h4 hfn ?_)
  rw [show repB user seq l = mailB 3 user seq (restB l 0) from rfl]
  refine Yz 5 rfl ?_
  refine Yg 3 rfl ?_
  refine Du 100 rfl (by exact fun h => h rfl) fun cc15 => ?_
  refine Yz 4 rfl ?_
  refine Cu rfl (by exact fun h => h rfl) fun cc16 => ?_
  refine Wp.skip ?_
  refine Yq ?_
  refine Yl m1 ?_
  obtain ⟨sa, sc, rfl⟩ := ho.reads.form
  refine OWp.permS (.trans (.cons _ (.cons _ List.perm_middle)) (.trans (.cons _ (.swap ..)) (.swap ..))) ?_
  refine OWp.step rfl (Step.storeAs 0 ((mlc (3 : UInt8).toNat user seq [] [] (.slice sa l.length sc) (.slice none 0 0))) rfl rfl rfl rfl rfl hBL2 rfl (Unfz.zero _) rfl (Nat.le_of_ble_eq_true rfl) rfl rfl ?_)
  refine Yz 1 rfl ?_
  refine Wp.ret ⟨trivial, _, ⟨_, _, _, _, rfl, rfl, ⟨_, _, _, mems, (by first | assumption | rfl)⟩, ⟨_, _, rfl, rfl, rfl⟩⟩, ?_⟩
  exact ⟨_, es ++ S, .refl _, subl, H _ _ es [] ho (Own.nil _ _ _) (fun h => absurd rfl h) (fun _ => ⟨rfl, rfl⟩)⟩
 refine Yz 1 rfl ?_
 refine Cw rfl (by decide) fun cc17 => ?_
 have hr0 := restI_zero hid
 refine Wp.permS ((List.Perm.cons _ (.swap ..)).trans (.swap ..)) (Wp.drop (S' := (L4, cel [.string (str (tag ++ (ids.flatten ++ List.replicate (64 - ids.flatten.length) 0)))] 9) :: (L5, cel (mlc (4 : UInt8).toNat user seq [] [] (.slice none 0 0) (.slice none 0 0)) 58) :: (L2, cel (mlc 0 0 0 [] [] (.slice none 0 0) (.slice none 0 0)) 58) :: S) (((List.sublist_cons_self _ _).cons_cons _).cons_cons _) ?_)
 refine Wp.region ?_
 refine Yc rfl rfl (mcutC (n := 32) (s := tag ++ (ids.flatten ++ List.replicate (64 - ids.flatten.length) 0)) hBL4 (by rw [List.length_append, ht]; omega) (by decide) ?_)
 rw [List.take_left' ht, List.drop_left' ht, hr0]
 refine Ye 1 rfl ?_
 refine OWp.step rfl (Step.storeAs 1 ((mlc (4 : UInt8).toNat user seq [] tag (.slice none 0 0) (.slice none 0 0))) rfl rfl rfl rfl rfl hBL5 rfl (Unfz.zero _) rfl (Nat.le_of_ble_eq_true rfl) rfl rfl ?_)
 refine OWp.nil ?_
 refine Wp.seq ?_
 refine Wp.block ?_
 refine Wp.loopS (α := Nat × Value × Ents) (fun z => 4 - z.1) (fun z => [(0, .string (str (mailB 4 user seq (tag ++ restI ids 0)))), (2, pt L2), (3, .int .i64 0), (4, pt L4), (5, pt L5)]) (fun z => (L4, cel [.string (str (restI ids z.1))] 9) :: (L5, cel (mlc (4 : UInt8).toNat user seq [] tag (.slice none 0 0) z.2.1) 58) :: (z.2.2 ++ ((L2, cel (mlc 0 0 0 [] [] (.slice none 0 0) (.slice none 0 0)) 58) :: S))) (fun z => z.1 ≤ 4 ∧ Lg.Own B 9 1 z.2.1 (ids.take z.1).length (strs (ids.take z.1)) z.2.2) (0, .slice none 0 0, []) ?_ (.refl _) ⟨Nat.zero_le _, Own.nil _ _ _⟩ ?_
 ·exact .cons rfl (.cons rfl (.cons rfl (.cons rfl (.cons rfl (.nil _)))))
 rintro ⟨i, iv, fs⟩ ⟨hi, ho⟩
 simp only at hi ho ⊢
 refine Wp.seq ?_
 refine Yq ?_
 refine Yl m0 ?_
 by_cases hi4 : i < 4
 ·skip
  by_cases hii : i < ids.length
  ·skip
   have he := hid _ (List.getElem_mem hii)
   rw [restI_in hii]
   refine Yz 1 rfl ?_
   refine Cw rfl (by simp [he.1, ← List.length_eq_zero_iff]) fun cc18 => ?_
   refine Wp.skip ?_
   refine Wp.block ?_
   refine Yq ?_
   refine Yc rfl rfl (mcutC (n := 16) hBL4 (by rw [List.length_append, he.1]; omega) (by decide) ?_)
   rw [List.take_left' he.1, List.drop_left' he.1]
   refine Yz 1 rfl ?_
   refine Wp.seq ?_
   refine Yn 2 rfl ?_
   refine Ct rfl (by exact fun h => he.2 h) fun cc19 => ?_
   refine Wp.skip ?_
   refine Wp.block ?_
   refine Yg 1 rfl ?_
   refine Yl m1 ?_
   refine Yz 2 rfl ?_
   refine Ct rfl (by decide) fun cc20 => ?_
   refine Yn 3 rfl ?_
   refine Cw rfl (by simp [he.1, ← List.length_eq_zero_iff]) fun cc21 => ?_
   refine Wp.region ?_
   refine Ye 1 rfl ?_
   refine Yl m1 ?_
   have htl : (ids.take i).length ≤ 4 := by rw [List.length_take]; omega
   refine Ye 1 rfl ?_
   refine OWp.step rfl (Step.buildSlice rfl rfl rfl ?_); intro Lp22 hBLp22 hLLp22
   refine OWp.step rfl (Step.appendAt [_, _, _] rfl rfl rfl rfl rfl rfl (by decide) rfl rfl ho (Reads.row (k := 1) (sz := 1) (.head _) (Nat.le_of_ble_eq_true rfl)) rfl (by show (_ + 1) * 16 ≤ _; omega) (by unfold maxLen; omega) ?_); intro iv2 fs2 ho2 _
   refine OWp.dropAt 0 rfl ?_
   have ho3 : Lg.Own B 9 1 iv2 (ids.take (i + 1)).length (strs (ids.take (i + 1))) fs2 := by rw [strs_take hii, show (ids.take (i + 1)).length = (ids.take i).length + 1 by simp; omega]; exact ho2
   obtain ⟨sa, sc, hsv⟩ := ho3.reads.form
   subst hsv
   refine Ye 1 rfl ?_
   refine OWp.step rfl (Step.storeAs 1 ((mlc (4 : UInt8).toNat user seq [] tag (.slice none 0 0) (.slice sa (ids.take (i + 1)).length sc))) rfl rfl rfl rfl rfl hBL5 rfl (Unfz.zero _) rfl (Nat.le_of_ble_eq_true rfl) rfl rfl ?_)
   refine OWp.nil ?_
   exact ⟨(i + 1, _, fs2), by simp only; omega, ⟨by simp only; omega, ho3⟩, .cons rfl (.cons rfl (.cons rfl (.cons rfl (.cons rfl (.nil _))))), .refl _⟩
  rw [restI_out (Nat.le_of_not_lt hii) hi4]
  refine Yz 1 rfl ?_
  refine Cw rfl (by simp [noId]) fun cc23 => ?_
  refine Wp.skip ?_
  refine Wp.block ?_
  refine Yq ?_
  refine Yc rfl rfl (mcutC (n := 16) hBL4 (by rw [List.length_append]; exact Nat.le_add_right 16 _) (by decide) ?_)
  rw [List.take_left' (show noId.length = 16 from rfl), List.drop_left' (show noId.length = 16 from rfl)]
  refine Yz 1 rfl ?_
  refine Wp.seq ?_
  refine Yn 2 rfl ?_
  refine Cv rfl (by exact fun h => h rfl) fun cc24 => ?_
  refine Wp.region ?_
  refine Yz 1 rfl ?_
  refine Wp.block ?_
  refine Yg 1 rfl ?_
  refine Yl m1 ?_
  refine Yz 2 rfl ?_
  refine Ct rfl (by decide) fun cc25 => ?_
  refine Yn 3 rfl ?_
  refine Cu rfl (by decide) fun cc26 => ?_
  refine Wp.skip ?_
  exact ⟨(i + 1, iv, fs), by simp only; omega, ⟨by simp only; omega, by rw [List.take_of_length_le (by omega)] at ho ⊢; exact ho⟩, .cons rfl (.cons rfl (.cons rfl (.cons rfl (.cons rfl (.nil _))))), .refl _⟩
 obtain rfl : i = 4 := by omega
 have hr4 : restI ids 4 = [] := by rw [restI, List.drop_of_length_le (by rw [pdI_len h4]; decide)]; rfl
 rw [hr4]
 refine Yz 1 rfl ?_
 refine Cu rfl (by exact fun h => h rfl) fun cc27 => ?_
 rw [List.take_of_length_le h4] at ho
 refine Wp.exit ?_
 refine Wp.seq ?_
 refine Yq ?_
 refine Yl m1 ?_
 refine Yc rfl rfl (encAckC hu h1 h2 ht (ho.reads.mono fun x h => .tail _ (.tail _ (List.mem_append_left _ h))) (fun a m c hv => own_cap ho hv) h4 hid ?_)
 rw [show ackB user seq tag ids = mailB 4 user seq (tag ++ restI ids 0) by simp [ackB, mailB, whoB, seqB, ← hr0]]
 refine Yz 5 rfl ?_
 refine Yg 3 rfl ?_
 refine Du 100 rfl (by exact fun h => h rfl) fun cc28 => ?_
 refine Yz 4 rfl ?_
 refine Cu rfl (by exact fun h => h rfl) fun cc29 => ?_
 refine Wp.skip ?_
 refine Yq ?_
 refine Yl m1 ?_
 obtain ⟨sa, sc, rfl⟩ := ho.reads.form
 refine OWp.permS (.trans (.cons _ (.cons _ List.perm_middle)) (.trans (.cons _ (.swap ..)) (.swap ..))) ?_
 refine OWp.step rfl (Step.storeAs 0 ((mlc (4 : UInt8).toNat user seq [] tag (.slice none 0 0) (.slice sa ids.length sc))) rfl rfl rfl rfl rfl hBL2 rfl (Unfz.zero _) rfl (Nat.le_of_ble_eq_true rfl) rfl rfl ?_)
 refine Yz 1 rfl ?_
 refine Wp.ret ⟨trivial, _, ⟨_, _, _, _, rfl, rfl, ⟨_, _, _, mems, (by first | assumption | rfl)⟩, ⟨_, _, rfl, rfl, rfl⟩⟩, ?_⟩
 exact ⟨_, fs ++ S, .refl _, subl, H _ _ [] fs (Own.nil _ _ _) ho (fun _ => ⟨rfl, rfl⟩) (fun h => absurd rfl h)⟩
end
end Go.Proofs.D

/- A gate of one account. -/
namespace Go.Proofs.D
open Go.Lg Go.Sha Go.Hd Go.Cv
set_option maxRecDepth 100000
attribute [local irreducible] hmac
section
variable {B : Nat} {S R : Ents} {Q : Value → Ents → Prop}
def sgc (user : Nat) (key : List UInt8) (last : Int) : List Value := [.int .i64 (user : Int), .string (str key), .int .i64 last]
end
end Go.Proofs.D

/- The ledger of loops: what comes back. -/
namespace Go.Proofs.D
open Go.Lg Go.Sha Go.Hd Go.Cv
set_option maxRecDepth 100000
section
variable {B : Nat} {S R : Ents} {Q : Value → Ents → Prop}
end
end Go.Proofs.D

/- A joiner takes no empty text. -/
namespace Go.Proofs.D
open Go.Lg Go.Sha Go.Hd Go.Cv
set_option maxRecDepth 100000
section
variable {B : Nat} {S R : Ents} {Q : Value → Ents → Prop}
end
end Go.Proofs.D

/- slices.Contains of texts. -/
namespace Go.Proofs.D
open Go.Lg Go.Sha Go.Hd Go.Cv
set_option maxRecDepth 100000
section
variable {B : Nat} {S R : Ents} {Q : Value → Ents → Prop}
end
end Go.Proofs.D

/- The client takes replies. -/
namespace Go.Proofs.D
open Go.Lg Go.Sha Go.Hd Go.Cv
set_option maxRecDepth 100000
attribute [local irreducible] hmac
section
variable {B : Nat} {S R : Ents} {Q : Value → Ents → Prop} {c : Ck} {qv : Value} {nx : List Nat} {now : Int} {many seq : Nat} {dry : Bool}
end
end Go.Proofs.D

/- The client takes a reply. -/
namespace Go.Proofs.D
open Go.Lg Go.Sha Go.Hd Go.Cv
set_option maxRecDepth 100000
attribute [local irreducible] hmac
section
variable {B : Nat} {S R : Ents} {Q : Value → Ents → Prop} {c : Ck} {qv : Value} {nx : List Nat} {now : Int} {many seq : Nat} {dry : Bool}
/-- The ids that are answered: each once, in order. -/
def idsOf (l : List Slot) (fn i : Nat) (A : List (List UInt8)) : Prop := A.length ≤ min i fn ∧ (∀ s ∈ A, idP s) ∧ (0 < min i fn → A.head? = (l.head?.map fun x => x.1))
end
end Go.Proofs.D

/- What a tick sends, by kinds: packets, and pulls of growing numbers. -/
namespace Go.Proofs.D
open Go.Lg Go.Sha Go.Hd Go.Cv
open Go.Proofs.C (Hop hopP hopB parse pathE encB tp word TIn Nd ndc St stc TownOk HostOf IsHost wayR mayP TownOk belowR WayIn LooseOf HomeOf NodesIn)
open Go.Cl (first firstOf needs)
set_option maxRecDepth 100000
def nP (l : List Snt) : Nat := l.countP fun y => y.2.1 == 3
attribute [local irreducible] wayR packR hmac
section
variable {B : Nat} {S : Ents} {Q : Value → Ents → Prop}
theorem decPullE {t tag : List UInt8} {user seq : Nat} (ht : t = pullB user seq tag) (hu : user < 64) (h1 : 1 ≤ seq) (h2 : seq ≤ 2147483647) (hl : tag.length = 32) (H : Q (.tuple #[.agg (mlc 2 user seq [] tag (.slice none 0 0) (.slice none 0 0)).toArray, .int .i64 0]) S) : CallWp Tryz.prog B 15 #[.string (str t)] Q S := by
 subst ht
 refine decWhoC (k := 2) (r := tag) (tag := tag) (l := []) (ids := []) hu h1 h2 (.inl ⟨rfl, rfl, hl, rfl, rfl⟩) ?_
 intro sv iv es fs _ _ g1 g2
 obtain ⟨rfl, rfl⟩ := g1 (by decide)
 obtain ⟨rfl, rfl⟩ := g2 (by decide)
 exact H
theorem decPackE {t text : List UInt8} (ht : t = packB text) (hl : t.length = 505) (H : Q (.tuple #[.agg (mlc 1 0 0 text [] (.slice none 0 0) (.slice none 0 0)).toArray, .int .i64 0]) S) : CallWp Tryz.prog B 15 #[.string (str t)] Q S := by
 subst ht
 exact decPackC (by simpa [packB] using hl) H
end
def mnA : List Int := [200, 200, 200, 0]
end Go.Proofs.D

/- A header that is made is peeled hop by hop: what the functions reckon, without the program. -/
namespace Go.Proofs.D
open Go.Lg Go.Sha Go.Hd Go.Cv
open Go.Proofs.C (Hop hopP hopB parse pathE encB)
set_option maxRecDepth 100000
attribute [local irreducible] derive hmac stream x25519 clampN ladx le32
theorem decF_enc {h : Hop} (hp : hopP h) : decF (encB h) = (h, 0) := by
 unfold encB decF
 rw [if_pos hp, C.parse_hopB hp true, if_pos ⟨hp, rfl⟩]
/-- One hop. -/
theorem peel_stage {pad g priv : List UInt8} {by_ : List (List UInt8)} {h : Hop} {path : List Hop} {ks : List HK} (hpad : pad.length = 200) (hpriv : priv.length = 32) (hh : hopP h) (hpath : ∀ x ∈ path, hopP x) (hks : ks.length = path.length) (hg : g.length + 40 * (path.length + 1) ≤ 200) (hkind : h.kind = 1 ↔ path ≠ []) {k : HK} (hk : k = keysOf (xs (x25519 priv base9) by_)) :
  peelR priv (stg pad (fillGo g (k :: ks).dropLast) by_ ((encB h, k) :: (path.map encB).zip ks)) = (h, (if path = [] then [] else stg pad (fillGo g (k :: ks).dropLast) (by_ ++ [k.blind]) ((path.map encB).zip ks)), k, 0) := by
 have hr : ∀ x ∈ (encB h, k) :: (path.map encB).zip ks, x.1.length = 24 := by
  intro x hx
  rcases List.mem_cons.1 hx with rfl | hx
  ·exact encB_good hh
  ·have := (List.of_mem_zip (show (x.1, x.2) ∈ _ from hx)).1
   obtain ⟨y, hy, he⟩ := List.mem_map.1 this
   rw [← he]
   exact encB_good (hpath y hy)
 have hfl : (fillGo g (k :: ks).dropLast).length ≤ 200 := by
  rw [fillGo_len _ _ (by rw [List.length_dropLast, List.length_cons, hks]; omega), List.length_dropLast, List.length_cons, hks]
  omega
 obtain ⟨p1, p2, p3, p4⟩ := stg_parts (by_ := by_) hpad hfl hr
 unfold peelR
 rw [if_neg (fun hx => hx ⟨hpriv, p1⟩), p2, shared_stage by_ hpriv, if_neg (by simp)]
 simp only
 rw [← hk, p3, p4, if_neg (by rw [listR_cons]; simp)]
 have hsnd : ((path.map encB).zip ks).map (·.2) = ks := List.map_snd_zip (by rw [List.length_map, hks]; exact Nat.le_refl _)
 cases path with
 | nil =>
  have : ks = [] := List.length_eq_zero_iff.1 hks
  subst this
  have hx := open_last hpad (encB h) k g (encB_good hh) (by simp at hg; omega)
  unfold openR
  simp only [List.map_nil, List.zip_nil_left, List.dropLast_singleton, fillGo]
  rw [hx, decF_enc hh, if_neg (by simp), if_pos (fun e => (hkind.1 e) rfl)]
  rfl
 | cons h2 path =>
  match ks, hks, hsnd with
  | [], hks, _ => simp at hks
  | k2 :: ks, hks, hsnd =>
   have hz : ((h2 :: path).map encB).zip (k2 :: ks) = (encB h2, k2) :: (path.map encB).zip ks := rfl
   have hx := open_on hpad (encB h) k (encB h2, k2) ((path.map encB).zip ks) g (by rw [← hz]; exact hr) (by rw [List.length_zip, List.length_map]; simp at hks hg; omega)
   have hmap : (((encB h, k) :: (encB h2, k2) :: (path.map encB).zip ks).map (·.2)) = k :: k2 :: ks := by rw [← hz, List.map_cons, hsnd]
   rw [hmap] at hx
   unfold openR
   rw [hz, hx]
   obtain ⟨l1, l2⟩ := listR_len hpad hfl ((encB h2, k2) :: (path.map encB).zip ks) (fun y hy => hr y (List.mem_cons_of_mem _ (by rw [hz]; exact hy)))
   obtain ⟨L, hL⟩ : ∃ L, L = listR pad (fillGo g (k :: k2 :: ks).dropLast) ((encB h2, k2) :: (path.map encB).zip ks) := ⟨_, rfl⟩
   rw [← hL] at l1 l2 ⊢
   have hl := encB_good hh
   have e1 : (encB h ++ L.1 ++ L.2).take 24 = encB h := by
    rw [List.append_assoc, List.take_append_of_le_length (by omega), List.take_of_length_le (by omega)]
   have e2 : (encB h ++ L.1 ++ L.2).drop 24 = L.1 ++ L.2 := by
    rw [List.append_assoc, List.drop_append, List.drop_of_length_le (by omega), List.nil_append, hl]
    rfl
   have hk1 : h.kind = 1 := hkind.2 (by simp)
   have hb32 : k.blind.length = 32 := by rw [hk]; exact blind_len _
   simp only
   rw [e1, e2, decF_enc hh, if_neg (by simp), if_neg (fun e => e hk1), timesR_eq hb32 (onB_9.xs by_).1, ← xs_snoc, if_neg (by simp), ← List.append_assoc]
   unfold stg
   rw [← hL]
/-- The header that the hop of that number sees; behind the last one nothing. -/
def hd (pad fill : List UInt8) : List (List UInt8) → List Hop → List HK → Nat → List UInt8
 | by_, h :: path, k :: ks, 0 => stg pad fill by_ ((encB h, k) :: (path.map encB).zip ks)
 | by_, _ :: path, k :: ks, i + 1 => hd pad fill (by_ ++ [k.blind]) path ks i
 | _, _, _, _ => []
theorem hd_len {pad fill : List UInt8} (hpad : pad.length = 200) (hf : fill.length ≤ 200) : ∀ (path : List Hop) (ks : List HK) (by_ : List (List UInt8)) (i : Nat), (∀ x ∈ path, hopP x) → ks.length = path.length → i < path.length → (hd pad fill by_ path ks i).length = 248
 | [], _, _, _, _, _, h => absurd h (by simp)
 | h :: path, [], _, _, _, h2, _ => by simp at h2
 | h :: path, k :: ks, by_, 0, hp, _, _ => by
  refine (stg_parts hpad hf ?_).1
  intro x hx
  rcases List.mem_cons.1 hx with rfl | hx
  ·exact encB_good (hp h (List.mem_cons_self ..))
  ·have := (List.of_mem_zip (show (x.1, x.2) ∈ _ from hx)).1
   obtain ⟨y, hy, he⟩ := List.mem_map.1 this
   rw [← he]
   exact encB_good (hp y (List.mem_cons_of_mem _ hy))
 | _ :: path, k :: ks, by_, i + 1, hp, h2, h3 => hd_len hpad hf path ks (by_ ++ [k.blind]) i (fun x hx => hp x (List.mem_cons_of_mem _ hx)) (by simpa using h2) (by simpa using h3)
theorem hd_peel {pad : List UInt8} (hpad : pad.length = 200) : ∀ (path : List Hop) (privs : List (List UInt8)) (by_ : List (List UInt8)) (g : List UInt8) (i : Nat), (∀ x ∈ path, hopP x) → C.shape path → privs.length = path.length → (∀ p ∈ privs, p.length = 32) → g.length + 40 * path.length ≤ 200 → i < path.length →
  peelR (privs.getD i []) (hd pad (fillGo g ((secs by_ (privs.map fun p => x25519 p base9)).map keysOf).dropLast) by_ path ((secs by_ (privs.map fun p => x25519 p base9)).map keysOf) i) = (path.getD i Hop.zero, hd pad (fillGo g ((secs by_ (privs.map fun p => x25519 p base9)).map keysOf).dropLast) by_ path ((secs by_ (privs.map fun p => x25519 p base9)).map keysOf) (i + 1), ((secs by_ (privs.map fun p => x25519 p base9)).map keysOf).getD i HK.zero, 0)
 | [], _, _, _, _, _, _, _, _, _, h => absurd h (by simp)
 | h :: path, [], _, _, _, _, _, h2, _, _, _ => by simp at h2
 | h :: path, p :: privs, by_, g, i, hp, hs, hl, h32, hg, hi => by
  simp only [List.length_cons] at hl hg hi
  have hlen : ((secs (by_ ++ [(keysOf (xs (x25519 p base9) by_)).blind]) (privs.map fun p => x25519 p base9)).map keysOf).length = path.length := by
   rw [List.length_map, secs_len, List.length_map]; omega
  rw [List.map_cons, secs, List.map_cons]
  generalize hk : keysOf (xs (x25519 p base9) by_) = k at *
  cases i with
  | zero =>
   have := peel_stage (by_ := by_) (g := g) hpad (h32 p (List.mem_cons_self ..)) (hp h (List.mem_cons_self ..)) (fun x hx => hp x (List.mem_cons_of_mem _ hx)) hlen (by omega) (by
    cases path with
    | nil => simp only [C.shape] at hs; simp [hs]
    | cons y r => simp only [C.shape] at hs; simp [hs.1]) hk.symm
   rw [List.getD_cons_zero, List.getD_cons_zero, List.getD_cons_zero]
   rw [hd, this]
   congr 2
   cases path with
   | nil => simp [hd]
   | cons y r =>
    generalize ((secs (by_ ++ [k.blind]) (privs.map fun p => x25519 p base9)).map keysOf) = ks at *
    cases ks with
    | nil => simp at hlen
    | cons k2 ks => rw [if_neg (by simp)]; rfl
  | succ i =>
   have hne : path ≠ [] := fun e => by subst e; simp at hi
   have hs2 : C.shape path := by
    cases path with
    | nil => exact absurd rfl hne
    | cons y r => exact hs.2
   have hgl : (flowX k (g ++ List.replicate 40 0) (240 - (g.length + 40))).length = g.length + 40 := by
    rw [flowX_len _ (by simp; omega)]; simp
   have ih := hd_peel hpad path privs (by_ ++ [k.blind]) (flowX k (g ++ List.replicate 40 0) (240 - (g.length + 40))) i (fun x hx => hp x (List.mem_cons_of_mem _ hx)) hs2 (by omega) (fun x hx => h32 x (List.mem_cons_of_mem _ hx)) (by rw [hgl]; omega) (by omega)
   have hf : fillGo (flowX k (g ++ List.replicate 40 0) (240 - (g.length + 40))) ((secs (by_ ++ [k.blind]) (privs.map fun p => x25519 p base9)).map keysOf).dropLast = fillGo g (k :: (secs (by_ ++ [k.blind]) (privs.map fun p => x25519 p base9)).map keysOf).dropLast := by
    generalize ((secs (by_ ++ [k.blind]) (privs.map fun p => x25519 p base9)).map keysOf) = ks at *
    cases ks with
    | nil => exact absurd (List.length_eq_zero_iff.1 (by rw [← hlen]; rfl)) hne
    | cons k2 ks => rfl
   rw [hf] at ih
   rw [List.getD_cons_succ, List.getD_cons_succ, List.getD_cons_succ, hd, hd]
   exact ih
end Go.Proofs.D

namespace Go.Proofs.D
open Go.Lg Go.Sha Go.Hd Go.Cv
open Go.Proofs.C (Hop hopP hopB parse pathE encB)
set_option maxRecDepth 100000
/-- What a hop has of a packet. -/
structure Pd where
 hop : Hop
 packet : List UInt8
 tag : List UInt8
 text : List UInt8
def Pd.cells (p : Pd) : List Value := p.hop.cells ++ [.string (str p.packet), .string (str p.tag), .string (str p.text)]
def Pd.zero : Pd := ⟨Hop.zero, [], [], []⟩
/-- The cells of the code's hand. -/
def handC (h : Hop) (next : List UInt8) (k : HK) (body : List UInt8) : List Value := k.cells ++ (h.cells ++ [.string (str next), .string (str body)])
def lastR (h : Hop) (tag : List UInt8) : Option (List UInt8) → Pd × Int
 | none => (Pd.zero, 90)
 | some t => (⟨h, [], tag, t⟩, 0)
def pkPeelR (priv packet : List UInt8) : Pd × Int :=
 if packet.length ≠ 504 then (Pd.zero, 3)
 else if (peelR priv (packet.take 248)).2.2.2 ≠ 0 then (Pd.zero, (peelR priv (packet.take 248)).2.2.2)
 else if (peelR priv (packet.take 248)).1.kind = 1 then (⟨(peelR priv (packet.take 248)).1, (peelR priv (packet.take 248)).2.1 ++ wopen (peelR priv (packet.take 248)).2.2.1.body (packet.drop 248), (peelR priv (packet.take 248)).2.2.1.tag, []⟩, 0)
 else lastR (peelR priv (packet.take 248)).1 (peelR priv (packet.take 248)).2.2.1.tag (wtext (wopen (peelR priv (packet.take 248)).2.2.1.body (packet.drop 248)))
theorem peel_ok {priv header : List UInt8} (h : (peelR priv header).2.2.2 = 0) : (∃ s, (peelR priv header).2.2.1 = keysOf s) ∧ (peelR priv header).2.1.length ≤ 248 := by
 unfold peelR at h ⊢
 split at h
 ·cases h
 ·rename_i h1
  split at h
  ·rename_i h2; exact absurd (Int.ofNat.inj h) h2
  ·rename_i h2
   split at h
   ·cases h
   ·rename_i h3
    rw [if_neg h1, if_neg h2, if_neg h3]
    have h1 := Classical.not_not.1 h1
    unfold openR at h ⊢
    simp only at h ⊢
    split at h
    ·rename_i h4; exact absurd h h4
    ·rename_i h4
     rw [if_neg h4]
     split at h
     ·rename_i h5
      rw [if_pos h5]
      exact ⟨⟨_, rfl⟩, by simp⟩
     ·rename_i h5
      rw [if_neg h5]
      refine ⟨⟨_, rfl⟩, ?_⟩
      have hk := (keysOf_lens (sharedR priv (header.take 32)).1).2.2.2.1
      generalize keysOf (sharedR priv (header.take 32)).1 = k at *
      have hp32 : (header.take 32).length = 32 := by rw [List.length_take]; omega
      have e1 : (timesR k.blind (header.take 32)).1.length = 32 := by rw [timesR_eq hk hp32]; exact len32 _
      have hz : (header.drop 48 ++ List.replicate 40 0).length = 240 := by rw [List.length_append, List.length_drop, List.length_replicate]; omega
      have e2 : (flowX k (header.drop 48 ++ List.replicate 40 0) 0).length = 240 := by rw [flowX_len _ (by omega), hz]
      generalize (timesR k.blind (header.take 32)).1 = a at *
      generalize flowX k (header.drop 48 ++ List.replicate 40 0) 0 = b at *
      show (a ++ b.drop 24).length ≤ 248
      rw [List.length_append, List.length_drop]
      omega
theorem hand_kb (h : Hop) (next : List UInt8) (k : HK) (body : List UInt8) : Lg.partAt Tryz.prog 9 (handC h next k body) 2 = some (.string (str k.body)) := rfl
theorem hand_b (h : Hop) (next : List UInt8) (k : HK) (body : List UInt8) : Lg.partAt Tryz.prog 9 (handC h next k body) 11 = some (.string (str body)) := rfl
theorem hand_k (h : Hop) (next : List UInt8) (k : HK) (body : List UInt8) : Lg.partAt Tryz.prog 3 (handC h next k body) 5 = some (.int .i64 h.kind) := rfl
theorem hand_h (h : Hop) (next : List UInt8) (k : HK) (body : List UInt8) : Lg.partAt Tryz.prog 75 (handC h next k body) 5 = some (.agg h.cells.toArray) := rfl
theorem hand_n (h : Hop) (next : List UInt8) (k : HK) (body : List UInt8) : Lg.partAt Tryz.prog 9 (handC h next k body) 10 = some (.string (str next)) := rfl
theorem hand_t (h : Hop) (next : List UInt8) (k : HK) (body : List UInt8) : Lg.partAt Tryz.prog 9 (handC h next k body) 4 = some (.string (str k.tag)) := rfl
attribute [local irreducible] derive hmac stream chainR makeR peelR wshut wopen wplain wtext
section
variable {B : Nat} {S R : Ents} {Q : Value → Ents → Prop}
theorem handOpenC {L : Nat} {h : Hop} {next body : List UInt8} {k : HK} (hB : B ≤ L) (hks : KsIn R) (hk : k.body.length = 32) (hb : body.length = 256) (H : Q (.tuple #[]) ((L, cel (handC h next k (wopen k.body body)) 205) :: R)) : CallWp Tryz.prog B 93 #[.pointer (some ⟨L, 0, none⟩)] Q ((L, cel (handC h next k body) 205) :: R) := by
 refine Yx (args := [_]) Tryz.func93 Tryz.ntmps93 ?_
 refine Wp.regionDraw [0, 1, 2, 3, 4, 5, 6, 7, 8, 9, 10, 11, 12, 13, 14, 15, 16] [10, 16] rfl (by decide +kernel) ?_
 refine DWp.evs 5 rfl ?_
 refine DWp.load (.head _) rfl rfl rfl rfl rfl rfl (hand_kb h next k body) ?_
 refine DWp.evs 3 rfl ?_
 refine DWp.load (.head _) rfl rfl rfl rfl rfl rfl (hand_b h next k body) ?_
 refine DWp.stepGrow rfl rfl rfl (Step.call rfl rfl rfl rfl rfl rfl ((wopenC (key := k.body) (block := body) hks.cons (by rw [hk]; decide) ?_)))
 refine ⟨fun _ hy => hy, ?_⟩
 rw [blockR_ok' hb]
 refine DWp.evs 5 rfl ?_
 refine DWp.stepAll rfl rfl rfl rfl (Step.storeAs 0 (handC h next k (wopen k.body body)) rfl rfl rfl rfl rfl (by assumption) rfl (Unfz.zero _) rfl (Nat.le_of_ble_eq_true rfl) rfl rfl ?_)
 refine DWp.nil ?_
 refine ⟨trivial, [], rfl, ?_⟩
 exact H
set_option maxHeartbeats 4000000 in
theorem pkPeelC {priv packet : List UInt8} (hks : KsIn S) (H : Q (.tuple #[.agg (pkPeelR priv packet).1.cells.toArray, .int .i64 (pkPeelR priv packet).2]) S) : CallWp Tryz.prog B 53 #[.string (str priv), .string (str packet)] Q S := by
 refine CallWp.dropRet ?_
 refine Yx (args := [_, _]) Tryz.func53 Tryz.ntmps53 ?_
 refine Yq ?_
 refine Ya rfl rfl rfl rfl fun L4 hBL4 hLL4 => ?_
 refine Yz 1 rfl ?_
 refine Wp.seq ?_
 refine Yn 3 rfl ?_
 refine Wp.cond rfl (fun h1 => ?_) (fun h1 => ?_)
 ·have h1 := ndT h1
  rw [show pkPeelR priv packet = (Pd.zero, 3) by unfold pkPeelR; rw [if_pos (by omega)]] at H
  refine Yq ?_
  refine OWp.g rfl rfl (Gives.build rfl rfl) ?_
  refine OWp.step rfl (Step.storeAs 0 (Pd.zero.cells) rfl rfl rfl rfl rfl (by assumption) rfl (Unfz.zero _) rfl (Nat.le_of_ble_eq_true rfl) rfl rfl ?_)
  refine Yz 1 rfl ?_
  refine Wp.ret ⟨trivial, _, ⟨_, _, _, _, rfl, rfl, ⟨_, _, _, mems, (by first | assumption | rfl)⟩, ⟨_, _, rfl, rfl, rfl⟩⟩, ?_⟩
  exact ⟨S, subl, H⟩
 have h1 := ndF h1
 have hl : packet.length = 504 := by omega
 unfold pkPeelR at H
 rw [if_neg (by omega)] at H
 refine Wp.skip ?_
 refine Yg 1 rfl ?_
 refine OWp.g rfl rfl (Gives.sliceStr (l := 248) (h' := packet.length) rfl rfl rfl ⟨_, _, rfl, rfl⟩ rfl (by omega) (by omega)) ?_
 rw [show (packet.drop 248).take (packet.length - 248) = packet.drop 248 by rw [List.take_of_length_le (by rw [List.length_drop]; omega)]]
 have hb : (packet.drop 248).length = 256 := by rw [List.length_drop]; omega
 generalize packet.drop 248 = body at *
 refine OWp.g rfl rfl (Gives.build rfl rfl) ?_
 refine Ya rfl rfl rfl rfl fun L6 hBL6 hLL6 => ?_
 refine OWp.step rfl (Step.storeAs 0 (handC Hop.zero [] HK.zero body) rfl rfl rfl rfl rfl (by assumption) rfl (Unfz.zero _) rfl (Nat.le_of_ble_eq_true rfl) rfl rfl ?_)
 refine OWp.nil ?_
 refine Yn 1 rfl ?_
 refine Wp.seq ?_
 refine Yg 2 rfl ?_
 refine OWp.g rfl rfl (Gives.sliceStr (l := 0) (h' := 248) rfl rfl rfl rfl ⟨_, _, rfl, rfl⟩ (by decide) (by omega)) ?_
 rw [show (packet.drop 0).take (248 - 0) = packet.take 248 from rfl]
 refine Yc rfl rfl (peelC hks.cons.cons ?_)
 have hpk := peel_ok (priv := priv) (header := packet.take 248)
 generalize peelR priv (packet.take 248) = r at *
 obtain ⟨h, next, k, e⟩ := r
 simp only at H hpk ⊢
 refine Ye 6 rfl ?_
 refine OWp.step rfl (Step.storeAs 0 (handC h [] HK.zero body) rfl rfl rfl rfl rfl (by assumption) rfl (Unfz.zero _) rfl (Nat.le_of_ble_eq_true rfl) rfl rfl ?_)
 refine Ye 1 rfl ?_
 refine OWp.step rfl (Step.storeAs 0 (handC h next HK.zero body) rfl rfl rfl rfl rfl (by assumption) rfl (Unfz.zero _) rfl (Nat.le_of_ble_eq_true rfl) rfl rfl ?_)
 refine Ye 1 rfl ?_
 refine OWp.step rfl (Step.storeAs 0 (handC h next k body) rfl rfl rfl rfl rfl (by assumption) rfl (Unfz.zero _) rfl (Nat.le_of_ble_eq_true rfl) rfl rfl ?_)
 refine Yz 1 rfl ?_
 refine Yn 2 rfl ?_
 refine Wp.cond rfl (fun h2 => ?_) (fun h2 => ?_)
 ·have h2 := ndT h2
  rw [if_pos h2] at H
  refine Yq ?_
  refine OWp.g rfl rfl (Gives.build rfl rfl) ?_
  refine Ye 1 rfl ?_
  refine OWp.step rfl (Step.storeAs 1 (Pd.zero.cells) rfl rfl rfl rfl rfl (by assumption) rfl (Unfz.zero _) rfl (Nat.le_of_ble_eq_true rfl) rfl rfl ?_)
  refine Yz 1 rfl ?_
  refine Wp.ret ⟨trivial, _, ⟨_, _, _, _, rfl, rfl, ⟨_, _, _, mems, (by first | assumption | rfl)⟩, ⟨_, _, rfl, rfl, rfl⟩⟩, ?_⟩
  exact ⟨S, subl, H⟩
 have h2 := ndF h2
 have h2' : e = 0 := by omega
 rw [if_neg (fun h => h h2)] at H
 obtain ⟨⟨s, hs⟩, hnl⟩ := hpk h2'
 have hkb : k.body.length = 32 := by rw [hs]; exact (keysOf_lens s).2.2.1
 refine Wp.skip ?_
 refine Wp.seq ?_
 refine Yg 2 rfl ?_
 refine OWp.load (.head _) rfl rfl rfl rfl (hand_k h next k body) ?_
 refine Yz 1 rfl ?_
 refine Wp.cond rfl (fun h3 => ?_) (fun h3 => ?_)
 ·have h3 := of_decide_eq_true h3
  rw [if_pos h3] at H
  refine Yq ?_
  refine Yc rfl rfl (handOpenC hBL6 hks.cons hkb hb ?_)
  refine OWp.nil ?_
  refine Yg 1 rfl ?_
  refine OWp.load (.head _) rfl rfl rfl rfl (hand_h h next k (wopen k.body body)) ?_
  refine Ye 1 rfl ?_
  refine OWp.load (.head _) rfl rfl rfl rfl (hand_n h next k (wopen k.body body)) ?_
  refine Ye 1 rfl ?_
  refine OWp.load (.head _) rfl rfl rfl rfl (hand_b h next k (wopen k.body body)) ?_
  refine OWp.g rfl rfl (Gives.addStr rfl rfl rfl (by rw [wopen_len _ (by omega)]; omega)) ?_
  refine Ye 2 rfl ?_
  refine OWp.load (.head _) rfl rfl rfl rfl (hand_t h next k (wopen k.body body)) ?_
  refine OWp.g rfl rfl (Gives.build rfl rfl) ?_
  refine OWp.step rfl (Step.storeAs 1 ((Pd.cells ⟨h, next ++ wopen k.body body, k.tag, []⟩)) rfl rfl rfl rfl rfl (by assumption) rfl (Unfz.zero _) rfl (Nat.le_of_ble_eq_true rfl) rfl rfl ?_)
  refine Yz 1 rfl ?_
  refine Wp.ret ⟨trivial, _, ⟨_, _, _, _, rfl, rfl, ⟨_, _, _, mems, (by first | assumption | rfl)⟩, ⟨_, _, rfl, rfl, rfl⟩⟩, ?_⟩
  exact ⟨S, subl, H⟩
 have h3 := of_decide_eq_false h3
 rw [if_neg h3] at H
 refine Wp.skip ?_
 refine Yg 2 rfl ?_
 refine OWp.load (.head _) rfl rfl rfl rfl (hand_kb h next k body) ?_
 refine Ye 1 rfl ?_
 refine OWp.load (.head _) rfl rfl rfl rfl (hand_b h next k body) ?_
 refine Yc rfl rfl (wunwrapC (key := k.body) (b := body) hks.cons.cons (by rw [hkb]; decide) ?_)
 have hun : unwrapR k.body body = unwrapT (wtext (wopen k.body body)) := by unfold unwrapR; rw [if_neg (by omega), if_neg (by omega)]
 rw [hun]
 cases hw : wtext (wopen k.body body)
 ·skip
  rw [hw] at H
  simp only [unwrapT]
  refine Yz 5 rfl ?_
  refine Wp.seq ?_
  refine Yn 2 rfl ?_
  refine Cy rfl ?_
  refine Yq ?_
  refine OWp.g rfl rfl (Gives.build rfl rfl) ?_
  refine Ye 1 rfl ?_
  refine OWp.step rfl (Step.storeAs 1 (Pd.zero.cells) rfl rfl rfl rfl rfl (by assumption) rfl (Unfz.zero _) rfl (Nat.le_of_ble_eq_true rfl) rfl rfl ?_)
  refine Yz 1 rfl ?_
  refine Wp.ret ⟨trivial, _, ⟨_, _, _, _, rfl, rfl, ⟨_, _, _, mems, (by first | assumption | rfl)⟩, ⟨_, _, rfl, rfl, rfl⟩⟩, ?_⟩
  exact ⟨S, subl, H⟩
 rename_i t
 rw [hw] at H
 simp only [unwrapT]
 refine Yz 5 rfl ?_
 refine Wp.seq ?_
 refine Yn 2 rfl ?_
 refine Cn rfl ?_
 refine Wp.skip ?_
 refine Yg 1 rfl ?_
 refine OWp.load (.head _) rfl rfl rfl rfl (hand_h h next k body) ?_
 refine Ye 2 rfl ?_
 refine OWp.load (.head _) rfl rfl rfl rfl (hand_t h next k body) ?_
 refine Ye 1 rfl ?_
 refine OWp.g rfl rfl (Gives.build rfl rfl) ?_
 refine OWp.step rfl (Step.storeAs 1 ((Pd.cells ⟨h, [], k.tag, t⟩)) rfl rfl rfl rfl rfl (by assumption) rfl (Unfz.zero _) rfl (Nat.le_of_ble_eq_true rfl) rfl rfl ?_)
 refine Yz 1 rfl ?_
 refine Wp.ret ⟨trivial, _, ⟨_, _, _, _, rfl, rfl, ⟨_, _, _, mems, (by first | assumption | rfl)⟩, ⟨_, _, rfl, rfl, rfl⟩⟩, ?_⟩
 exact ⟨S, subl, H⟩
end
end Go.Proofs.D

/- Packets of points of any private keys are peeled, hop by hop. -/
namespace Go.Proofs.D
open Go.Lg Go.Sha Go.Hd Go.Cv
open Go.Proofs.C (Hop hopP hopB parse pathE encB)
set_option maxRecDepth 100000
abbrev pubL (privs : List (List UInt8)) : List (List UInt8) := privs.map fun p => x25519 p base9
def keysP (seed : List UInt8) (privs : List (List UInt8)) : List HK := (secs [seed] (pubL privs)).map keysOf
theorem keysP_len (seed : List UInt8) (privs : List (List UInt8)) : (keysP seed privs).length = privs.length := by unfold keysP; rw [List.length_map, secs_len, List.length_map]
/-- The header that the hop of that number sees. -/
def hdP (seed : List UInt8) (privs : List (List UInt8)) (path : List Hop) (i : Nat) : List UInt8 :=
 hd (derive seed [112, 97, 100] 200) (fillGo [] (keysP seed privs).dropLast) [seed] path (keysP seed privs) i
theorem pubL_on {privs : List (List UInt8)} : ∀ p ∈ pubL privs, OnB p := by
 intro p hp
 obtain ⟨k, _, rfl⟩ := List.mem_map.1 hp
 exact onB_9.x k
theorem makeP_is {seed : List UInt8} {privs : List (List UInt8)} {path : List Hop} (hs : seed.length = 32) (h : pathE path = 0) (hl : privs.length = path.length) : makeR seed (pubL privs) path = (hdP seed privs path 0, keysP seed privs, 0) := by
 obtain ⟨hgood, hpos, hmost⟩ := pathE_ok h
 have hpl : (pubL privs).length = path.length := by rw [List.length_map, hl]
 have hg := hopsGo_eq (pubL privs) [seed] pubL_on (by intro b hb; rw [List.mem_singleton.1 hb]; exact hs) (by rw [hpl]; simp; omega)
 have h32 : ∀ s ∈ seed :: pubL privs, s.length = 32 := by
  intro s hx
  rcases List.mem_cons.1 hx with rfl | hx
  ·exact hs
  ·exact (pubL_on s hx).1
 unfold makeR
 rw [if_neg (fun e => e h), if_neg (by rw [hpl]; simp), if_neg (fun e => e h32), hg, if_neg (by simp)]
 show (headR seed (keysP seed privs) (path.map encB), keysP seed privs, (0 : Int)) = _
 congr 1
 have hkl := keysP_len seed privs
 unfold headR hdP
 rw [publicR_eq hs]
 cases path with
 | nil => simp at hpos
 | cons x r =>
  generalize keysP seed privs = ks at *
  cases ks with
  | nil => rw [hl] at hkl; simp at hkl
  | cons k ks => rfl
theorem hdP_len {seed : List UInt8} {privs : List (List UInt8)} {path : List Hop} {i : Nat} (h : pathE path = 0) (hl : privs.length = path.length) (hi : i < path.length) : (hdP seed privs path i).length = 248 := by
 obtain ⟨hgood, hpos, hmost⟩ := pathE_ok h
 have hkl := keysP_len seed privs
 exact hd_len (derive_len _ _ _) (by rw [fillGo_len _ _ (by simp; omega)]; simp; omega) path _ _ i hgood (by rw [hkl, hl]) hi
theorem path_shape {path : List Hop} (h : pathE path = 0) : C.shape path := by
 obtain ⟨hgood, hpos, hmost⟩ := pathE_ok h
 unfold C.pathE at h
 rw [if_pos hgood] at h
 by_cases hs : C.shape path ∧ path.length ≤ 5
 ·exact hs.1
 ·rw [if_neg hs] at h
  exact absurd h (by decide)
theorem hdP_peel {seed : List UInt8} {privs : List (List UInt8)} {path : List Hop} {i : Nat} (h : pathE path = 0) (hl : privs.length = path.length) (h32 : ∀ p ∈ privs, p.length = 32) (hi : i < path.length) : peelR (privs.getD i []) (hdP seed privs path i) = (path.getD i Hop.zero, hdP seed privs path (i + 1), (keysP seed privs).getD i HK.zero, 0) := by
 obtain ⟨hgood, hpos, hmost⟩ := pathE_ok h
 exact hd_peel (pad := derive seed [112, 97, 100] 200) (derive_len _ _ _) path privs [seed] [] i hgood (path_shape h) hl h32 (by simp; omega) hi
/-- The payload as the hop of that number has it. -/
def bdP (seed : List UInt8) (privs : List (List UInt8)) (text : List UInt8) (i : Nat) : List UInt8 := bodyR text ((keysP seed privs).drop i)
theorem bdP_len {seed : List UInt8} {privs : List (List UInt8)} {text : List UInt8} (h : text.length ≤ 222) (i : Nat) : (bdP seed privs text i).length = 256 := bodyR_len h _
theorem bdP_open {seed : List UInt8} {privs : List (List UInt8)} {text : List UInt8} (h : text.length ≤ 222) {i : Nat} (hi : i < privs.length) : wopen ((keysP seed privs).getD i HK.zero).body (bdP seed privs text i) = bdP seed privs text (i + 1) := by
 have hl : i < (keysP seed privs).length := by rw [keysP_len]; exact hi
 have hb : (bodyR text ((keysP seed privs).drop (i + 1))).length = 256 := bodyR_len h _
 unfold bdP
 rw [body_drop hl, List.getD_eq_getElem?_getD, List.getElem?_eq_getElem hl]
 exact wopen_shut _ (by omega)
theorem bdP_end (seed : List UInt8) (privs : List (List UInt8)) (text : List UInt8) : bdP seed privs text privs.length = wplain text 256 := by
 unfold bdP
 rw [List.drop_of_length_le (by rw [keysP_len]; exact Nat.le_refl _)]
 rfl
theorem packP_is {seed text : List UInt8} {privs : List (List UInt8)} {path : List Hop} (hs : seed.length = 32) (h : pathE path = 0) (hl : privs.length = path.length) (ht : text.length ≤ 222) : packR seed (pubL privs) text path = (hdP seed privs path 0 ++ bdP seed privs text 0, 0) := by
 unfold packR
 rw [makeP_is hs h hl, if_neg (by simp), if_neg (by omega)]
 rfl
theorem kindP_iff {path : List Hop} (h : pathE path = 0) {i : Nat} (hi : i < path.length) : (path.getD i Hop.zero).kind = 1 ↔ i + 1 < path.length := by
 have := ((C.shape_iff path).1 (path_shape h)).2 i hi
 rw [List.getD_eq_getElem?_getD, List.getElem?_eq_getElem hi]
 simp only [Option.getD_some]
 rw [this]
 omega
theorem pkP_on {seed text : List UInt8} {privs : List (List UInt8)} {path : List Hop} {i : Nat} (h : pathE path = 0) (hl : privs.length = path.length) (h32 : ∀ p ∈ privs, p.length = 32) (ht : text.length ≤ 222) (hi : i + 1 < path.length) :
  pkPeelR (privs.getD i []) (hdP seed privs path i ++ bdP seed privs text i) = (⟨path.getD i Hop.zero, hdP seed privs path (i + 1) ++ bdP seed privs text (i + 1), ((keysP seed privs).getD i HK.zero).tag, []⟩, 0) := by
 have hl' := hdP_len (seed := seed) h hl (show i < path.length by omega)
 have hb := bdP_len (seed := seed) (privs := privs) ht i
 have e1 : (hdP seed privs path i ++ bdP seed privs text i).take 248 = hdP seed privs path i := by rw [List.take_append_of_le_length (by omega), List.take_of_length_le (by omega)]
 have e2 : (hdP seed privs path i ++ bdP seed privs text i).drop 248 = bdP seed privs text i := by rw [List.drop_append, List.drop_of_length_le (by omega), hl']; rfl
 unfold pkPeelR
 rw [if_neg (by rw [List.length_append]; omega), e1, e2, hdP_peel h hl h32 (by omega), if_neg (by simp), if_pos ((kindP_iff h (by omega)).2 hi)]
 simp only
 rw [bdP_open ht (by omega)]
theorem wplain_textP {text : List UInt8} (h : text.length ≤ 222) : wtext (wplain text 256) = some text := wtext_plain (by omega) (by omega)
theorem pkP_last {seed text : List UInt8} {privs : List (List UInt8)} {path : List Hop} {i : Nat} (h : pathE path = 0) (hl : privs.length = path.length) (h32 : ∀ p ∈ privs, p.length = 32) (ht : text.length ≤ 222) (hi : i + 1 = path.length) :
  pkPeelR (privs.getD i []) (hdP seed privs path i ++ bdP seed privs text i) = lastR (path.getD i Hop.zero) ((keysP seed privs).getD i HK.zero).tag (some text) := by
 have hl' := hdP_len (seed := seed) h hl (show i < path.length by omega)
 have hb := bdP_len (seed := seed) (privs := privs) ht i
 have e1 : (hdP seed privs path i ++ bdP seed privs text i).take 248 = hdP seed privs path i := by rw [List.take_append_of_le_length (by omega), List.take_of_length_le (by omega)]
 have e2 : (hdP seed privs path i ++ bdP seed privs text i).drop 248 = bdP seed privs text i := by rw [List.drop_append, List.drop_of_length_le (by omega), hl']; rfl
 unfold pkPeelR
 rw [if_neg (by rw [List.length_append]; omega), e1, e2, hdP_peel h hl h32 (by omega), if_neg (by simp), if_neg (fun e => by have := (kindP_iff h (show i < path.length by omega)).1 e; omega)]
 simp only
 rw [bdP_open ht (by omega), show i + 1 = privs.length by omega, bdP_end, wplain_textP ht]
end Go.Proofs.D

/- The town of the client's chapter: the ways through it. -/
namespace Go.Proofs.D
open Go.Lg Go.Sha Go.Hd Go.Cv
open Go.Proofs.C (Hop hopP hopB parse pathE encB tp word TIn Nd ndc St stc TownOk HostOf IsHost wayR wayN hopsW hopW mayP TownOk belowR WayIn LooseOf HomeOf NodesIn)
set_option maxRecDepth 100000
theorem lay25 {ly : Int} {y : Nd} (h : (ly, y) ∈ C.lay (h25 :: m25) 0) : ∃ n : Nat, n < 4 ∧ y = ((n : Int), pt25 n) := by
 simp only [C.lay, h25, m25, List.zipIdx, List.flatMap_cons, List.flatMap_nil, List.map_cons, List.map_nil, List.append_nil, List.cons_append, List.nil_append, List.mem_cons, List.mem_nil_iff, or_false] at h
 rcases h with h | h | h | h <;> cases h
 ·exact ⟨0, by decide, rfl⟩
 ·exact ⟨1, by decide, rfl⟩
 ·exact ⟨2, by decide, rfl⟩
 ·exact ⟨3, by decide, rfl⟩
theorem pt25_x (n : Nat) : pt25 n = x25519 (pr25 n) base9 := by unfold pt25; rw [publicR_eq (pr25_len n)]
/-- A way through the town: its nodes' numbers, its path. -/
structure Way25 (w : List (List UInt8) × List Hop × Int × Nat) (h : Hop) (N : List Nat) : Prop where
 len : N.length = 3
 fst : N.getD 0 0 = 0
 lt : ∀ i, N.getD i 0 < 4
 ps : w.1 = pubL (N.map pr25)
 pl : w.2.1.length = 3
 on : ∀ i, i < 2 → (w.2.1.getD i C.Hop.zero).kind = 1 ∧ (w.2.1.getD i C.Hop.zero).node = (N.getD (i + 1) 0 : Nat)
 last : w.2.1.getD 2 C.Hop.zero = h
 path : pathE w.2.1 = 0
theorem way25 {s : List UInt8} {k : Nat} {a b : Nd} {h : Hop} {mean most : Int} (ha : a = (0, pt25 0)) (hai : IsHost h25 m25 a) (hb : IsHost h25 m25 b) (hm : mayP most [mean]) (hp : hopP h) (hk : h.kind ≠ 1) (hkk : k + 12 ≤ s.length) : ∃ N, Way25 (wayR s k a b m25 h mean most) h N := by
 have hpath := C.way_path (s := s) (k := k) ok25 hai hb hm hp hk
 have hw := C.wayR_is (s := s) (k := k) (a := a) (b := b) (ms := m25) (h := h) hm (show k + 4 * (2 * 1 + 1) ≤ s.length by omega)
 have hN : ∀ x ∈ wayN s k a b m25, ∃ n : Nat, n < 4 ∧ x = ((n : Int), pt25 n) := fun x hx => by
  obtain ⟨ly, h2⟩ := C.wayN_lay (s := s) (k := k) ok25 hai hb hx
  exact lay25 h2
 have hl : (wayN s k a b m25).length = 3 := C.wayN_len _ _ _ _ _
 rw [hw]
 obtain ⟨W, hW⟩ : ∃ W, W = wayN s k a b m25 := ⟨_, rfl⟩
 have h0 : W.getD 0 (0, []) = a := by rw [hW]; rfl
 rw [← hW] at hN hl hpath ⊢
 match W, hl with
 | [x, y, z], _ =>
  obtain ⟨i, hi, rfl⟩ := hN x (.head _)
  obtain ⟨j, hj, rfl⟩ := hN y (.tail _ (.head _))
  obtain ⟨l, hl, rfl⟩ := hN z (.tail _ (.tail _ (.head _)))
  have hi0 : i = 0 := by
   have := congrArg Prod.fst (h0.trans ha)
   simpa using this
  refine ⟨[i, j, l], rfl, hi0, ?_, ?_, ?_, ?_, rfl, hpath⟩
  ·intro n
   rcases n with _ | _ | _ | n
   ·exact hi
   ·exact hj
   ·exact hl
   ·show (0 : Nat) < 4
    decide
  ·show [pt25 i, pt25 j, pt25 l] = [x25519 (pr25 i) base9, x25519 (pr25 j) base9, x25519 (pr25 l) base9]
   rw [pt25_x, pt25_x, pt25_x]
  ·rfl
  ·intro n hn
   rcases n with _ | _ | n
   ·exact ⟨rfl, rfl⟩
   ·exact ⟨rfl, rfl⟩
   ·omega
end Go.Proofs.D

/- What a client of the laws sends, slot by slot. -/
namespace Go.Proofs.D
open Go.Lg Go.Sha Go.Hd Go.Cv
open Go.Proofs.C (Hop hopP hopB parse pathE encB tp word TIn Nd ndc St stc TownOk HostOf IsHost wayR wayN hopsW hopW mayP TownOk belowR WayIn LooseOf HomeOf NodesIn)
open Go.Cl (first firstOf needs)
set_option maxRecDepth 100000
theorem runT_cons {c : Ck} {to f : Nat} {x : Cs} {y : Snt} {r : List Snt} (h : (runT c to f x).1 = y :: r) : ∃ g, y = (atN x, first x.nx, doT c x (first x.nx)) ∧ r = (runT c to g (nextS c x)).1 ∧ (runT c to f x).2 = (runT c to g (nextS c x)).2 ∧ ¬ (x.dry = true ∨ to < atN x) ∧ ¬ c.s.length - x.k < needs c.w (first x.nx) := by
 cases f with
 | zero => cases h
 | succ g =>
  rw [runT] at h ⊢
  split at h
  ·cases h
  ·rename_i h1
   split at h
   ·cases h
   ·rename_i h2
    rw [if_neg h1, if_neg h2]
    injection h with e1 e2
    exact ⟨g, e1.symm, e2.symm, rfl, h1, h2⟩
theorem runT_none {c : Ck} {to f : Nat} {x : Cs} (h : (runT c to f x).1 = []) : (runT c to f x).2.q = x.q := by
 cases f with
 | zero => rfl
 | succ g =>
  rw [runT] at h ⊢
  split at h
  ·rename_i h1; rw [if_pos h1]
  ·rename_i h1
   split at h
   ·rename_i h2; rw [if_neg h1, if_pos h2]
   ·cases h
/-- What a slot's packet has at its end. -/
def endP (kind user : Nat) (q : List Nd) (h : Hop) (txt : List UInt8) : Prop :=
 (kind = 0 ∧ ((q = [] ∧ h.kind = 4) ∨ (∃ p r, q = p :: r ∧ h.kind = 2 ∧ txt = p.2))) ∨ (kind = 1 ∧ h.kind = 4) ∨ (kind = 2 ∧ h.kind = 2 ∧ h.user = user ∧ txt = [])
attribute [local irreducible] wayR packR hmac derive
theorem sent25 {B : Nat} {R : Ents} {c : Ck} {x : Cs} {kind : Nat} (ho : CkOk B R c) (h0 : c.h0 = h25) (hms : c.ms = m25) (ha : c.a = (0, pt25 0)) (hx : CsOk c x) (hk : kind < 3) (hn : x.k + needs c.w kind ≤ c.s.length) :
  ∃ seed txt w h N, doT c x kind = pkB seed txt w ∧ seed.length = 32 ∧ txt.length ≤ 222 ∧ Way25 w h N ∧ endP kind c.user x.q h txt := by
 have hw : c.w = 12 := by unfold Ck.w; rw [hms]; rfl
 have hai : IsHost h25 m25 c.a := by rw [← h0, ← hms]; exact IsHost.ofHost ho.host
 have hdn : ∀ k, IsHost h25 m25 (hostNd c.h0 c.s k) := fun k => by rw [← hms]; rw [h0]; exact hostNd_is (by decide)
 rcases (show kind = 0 ∨ kind = 1 ∨ kind = 2 by omega) with rfl | rfl | rfl
 ·have hn0 : needs c.w 0 = 56 + c.w := rfl
  show ∃ seed txt w h N, payT c x.k x.q = pkB seed txt w ∧ _
  cases hq : x.q with
  | nil =>
   obtain ⟨N, hN⟩ := way25 (s := c.s) (k := x.k + 52) (h := dropH) ha hai (hdn (x.k + 48)) ho.may (.inr (.inr (.inr ⟨rfl, rfl, rfl, rfl, rfl⟩))) (by decide) (by omega)
   refine ⟨seedAt c.s x.k, [], _, dropH, N, ?_, seedAt_len (by omega), by decide, hN, .inl ⟨rfl, .inl ⟨rfl, rfl⟩⟩⟩
   rw [← hms]
   rfl
  | cons p r =>
   obtain ⟨⟨b, hb⟩, x1, x2, x3⟩ := hx.q p (by rw [hq]; exact .head _)
   have hbi : IsHost h25 m25 b := by rw [← h0, ← hms]; exact IsHost.ofHost hb
   obtain ⟨N, hN⟩ := way25 (s := c.s) (k := x.k + 52) (h := homeH p.1 (idAt c.s x.k)) ha hai hbi ho.may (.inr (.inl ⟨rfl, x1, by show p.1 ≤ 63; omega, Int.le_refl 0, by show (0 : Int) ≤ 4096; decide, rfl, idAt_len (by omega)⟩)) (show (2 : Int) ≠ 1 by decide) (by omega)
   refine ⟨seedAt c.s x.k, p.2, _, homeH p.1 (idAt c.s x.k), N, ?_, seedAt_len (by omega), x3, hN, .inl ⟨rfl, .inr ⟨p, r, rfl, rfl, rfl⟩⟩⟩
   show pkB (seedAt c.s x.k) p.2 (wayR c.s (x.k + 52) c.a (hostU (c.h0 :: c.ms) c.ss p.1) c.ms (homeH p.1 (idAt c.s x.k)) c.mean c.most) = _
   rw [hostU_is hb, hms]
 ·have hn0 : needs c.w 1 = 40 + c.w := rfl
  obtain ⟨N, hN⟩ := way25 (s := c.s) (k := x.k + 36) (h := dropH) ha hai (hdn (x.k + 32)) ho.may (.inr (.inr (.inr ⟨rfl, rfl, rfl, rfl, rfl⟩))) (by decide) (by omega)
  refine ⟨seedAt c.s x.k, [], _, dropH, N, ?_, seedAt_len (by omega), by decide, hN, .inr (.inl ⟨rfl, rfl⟩)⟩
  show dropT c x.k = _
  unfold dropT
  rw [hms]
 ·have hn0 : needs c.w 2 = 52 + c.w := rfl
  have hh := ho.user
  obtain ⟨N, hN⟩ := way25 (s := c.s) (k := x.k + 48) (h := homeH (c.user : Int) (idAt c.s x.k)) ha hai hai ho.may (.inr (.inl ⟨rfl, Int.natCast_nonneg _, by show (c.user : Int) ≤ 63; omega, Int.le_refl 0, by show (0 : Int) ≤ 4096; decide, rfl, idAt_len (by omega)⟩)) (show (2 : Int) ≠ 1 by decide) (by omega)
  refine ⟨seedAt c.s x.k, [], _, homeH (c.user : Int) (idAt c.s x.k), N, ?_, seedAt_len (by omega), by decide, hN, .inr (.inr ⟨rfl, rfl, rfl, rfl⟩)⟩
  show loopT c x.k = _
  unfold loopT
  rw [hms]
end Go.Proofs.D

/- The town of the client's chapter: a packet comes through it. -/
namespace Go.Proofs.D
open Go.Lg Go.Sha Go.Hd Go.Cv
open Go.Proofs.C (Hop hopP hopB parse pathE encB tp word TIn Nd ndc St stc TownOk HostOf IsHost wayR wayN hopsW hopW mayP TownOk belowR WayIn LooseOf HomeOf NodesIn)
open Go.Cl (first firstOf needs)
set_option maxRecDepth 100000
theorem way25_pk {w : List (List UInt8) × List Hop × Int × Nat} {h : Hop} {N : List Nat} {seed txt : List UInt8} (hw : Way25 w h N) (hs : seed.length = 32) (ht : txt.length ≤ 222) :
  pkB seed txt w = packB (hdP seed (N.map pr25) w.2.1 0 ++ bdP seed (N.map pr25) txt 0) := by
 unfold pkB
 rw [hw.ps, packP_is hs hw.path (by rw [List.length_map, hw.len, hw.pl]) ht]
theorem privs25 {N : List Nat} : ∀ p ∈ N.map pr25, p.length = 32 := by
 intro p hp
 obtain ⟨k, _, rfl⟩ := List.mem_map.1 hp
 exact pr25_len k
theorem privs25_get {N : List Nat} {i : Nat} (h : i < N.length) : (N.map pr25).getD i [] = pr25 (N.getD i 0) := by
 rw [List.getD_eq_getElem?_getD, List.getElem?_map, List.getD_eq_getElem?_getD, List.getElem?_eq_getElem h]
 rfl
theorem way25_on {w : List (List UInt8) × List Hop × Int × Nat} {h : Hop} {N : List Nat} {seed txt : List UInt8} {i : Nat} (hw : Way25 w h N) (ht : txt.length ≤ 222) (hi : i < 2) :
  pkPeelR (pr25 (N.getD i 0)) (hdP seed (N.map pr25) w.2.1 i ++ bdP seed (N.map pr25) txt i) = (⟨w.2.1.getD i C.Hop.zero, hdP seed (N.map pr25) w.2.1 (i + 1) ++ bdP seed (N.map pr25) txt (i + 1), ((keysP seed (N.map pr25)).getD i HK.zero).tag, []⟩, 0) := by
 have hl := hw.len
 have hp := hw.pl
 rw [← privs25_get (by omega)]
 exact pkP_on hw.path (by rw [List.length_map, hl, hp]) privs25 ht (by omega)
theorem way25_last {w : List (List UInt8) × List Hop × Int × Nat} {h : Hop} {N : List Nat} {seed txt : List UInt8} (hw : Way25 w h N) (ht : txt.length ≤ 222) :
  pkPeelR (pr25 (N.getD 2 0)) (hdP seed (N.map pr25) w.2.1 2 ++ bdP seed (N.map pr25) txt 2) = (⟨h, [], ((keysP seed (N.map pr25)).getD 2 HK.zero).tag, txt⟩, 0) := by
 have hl := hw.len
 have hp := hw.pl
 rw [← privs25_get (by omega), pkP_last hw.path (by rw [List.length_map, hl, hp]) privs25 ht (by omega), hw.last]
 rfl
attribute [local irreducible] derive hmac publicR partsB sha hdP bdP keysP pkPeelR
section
variable {B : Nat} {S R : Ents} {Q : Value → Ents → Prop}
set_option maxHeartbeats 4000000 in
theorem end25C {w : List (List UInt8) × List Hop × Int × Nat} {h : Hop} {N : List Nat} {seed txt t : List UInt8} (ht : t = pkB seed txt w) (hks : KsIn S) (hw : Way25 w h N) (hs : seed.length = 32) (hx : txt.length ≤ 222) (hlen : t.length = 505) (hk1 : h.kind ≠ 1)
  (H : ∀ tag, Q (.tuple #[.agg (Pd.cells ⟨h, [], tag, txt⟩).toArray, .bool true]) S) : CallWp Tryz.prog B 21 #[.string (str t)] Q S := by
 obtain ⟨P, hP⟩ : ∃ P : Nat → List UInt8, P = fun i => hdP seed (N.map pr25) w.2.1 i ++ bdP seed (N.map pr25) txt i := ⟨_, rfl⟩
 have e0 : t = packB (P 0) := by rw [ht, way25_pk hw hs hx, hP]
 have hon : ∀ i, i < 2 → ∃ tag, pkPeelR (pr25 (N.getD i 0)) (P i) = (⟨w.2.1.getD i C.Hop.zero, P (i + 1), tag, []⟩, 0) := fun i hi => ⟨_, by rw [hP]; exact way25_on hw hx hi⟩
 obtain ⟨tag, hlast⟩ : ∃ tag, pkPeelR (pr25 (N.getD 2 0)) (P 2) = (⟨h, [], tag, txt⟩, 0) := ⟨_, by rw [hP]; exact way25_last hw hx⟩
 refine C.subRet ?_
 refine Yx (args := [_]) Tryz.func21 Tryz.ntmps21 ?_
 refine Yq ?_
 refine Ya rfl rfl rfl rfl fun L2 hBL2 hLL2 => ?_
 refine Yz 1 rfl ?_
 refine Yg 1 rfl ?_
 refine Yc rfl rfl (decPackE e0 hlen ?_)
 refine Ye 3 rfl ?_
 refine Ya rfl rfl rfl rfl fun L4 hBL4 hLL4 => ?_
 refine OWp.step rfl (Step.storeAs 0 (mlc 1 (0 : Nat) (0 : Nat) (P 0) [] (.slice none 0 0) (.slice none 0 0)) rfl rfl rfl rfl rfl (by assumption) rfl (Unfz.zero _) rfl (Nat.le_of_ble_eq_true rfl) rfl rfl ?_)
 refine Yz 1 rfl ?_
 refine Wp.seq ?_
 refine Yg 3 rfl ?_
 refine Du 17 rfl (by exact fun h => h rfl) fun cc1 => ?_
 refine Ye 1 rfl ?_
 refine Yl m0 ?_
 refine Yz 2 rfl ?_
 refine Cu rfl (by decide) fun cc2 => ?_
 refine Wp.skip ?_
 refine Yg 1 rfl ?_
 refine Yl m0 ?_
 refine Yz 2 rfl ?_
 refine Wp.seq ?_
 refine Yn 1 rfl ?_
 refine Wp.block ?_
 refine Wp.loopS (α := Nat) (fun i => 3 - i) (fun i => [(2, pt L2), (6, .string (str (P i))), (7, .int .i64 (N.getD i 0 : Nat)), (25, .int .i64 (i : Int))]) (fun _ => (L4, cel (mlc 1 (0 : Nat) (0 : Nat) (P 0) [] (.slice none 0 0) (.slice none 0 0)) 58) :: (L2, cel Pd.zero.cells 77) :: S) (fun i => i ≤ 2) 0 ?_ (.refl _) (Nat.zero_le _) ?_
 ·exact .cons rfl (.cons rfl (.cons' rfl (by rw [hw.fst]; rfl) (.cons rfl (.nil _))))
 intro i hi
 have hlt := hw.lt i
 refine Yn 1 rfl ?_
 refine Wp.seq ?_
 refine Cv rfl (by omega) fun cc3 => ?_
 refine Wp.skip ?_
 refine Wp.seq ?_
 refine Wp.block ?_
 refine Yg 1 rfl ?_
 refine Yc rfl rfl (private25C (i := N.getD i 0) hks.cons.cons (by omega) ?_)
 refine Ye 1 rfl ?_
 refine Yc rfl rfl (pkPeelC hks.cons.cons ?_)
 by_cases h2 : i < 2
 ·skip
  obtain ⟨tg, htg⟩ := hon i h2
  obtain ⟨hkd, hnd⟩ := hw.on i h2
  rw [htg]
  refine Ye 3 rfl ?_
  refine Ya rfl rfl rfl rfl fun L8 hBL8 hLL8 => ?_
  refine OWp.step rfl (Step.storeAs 0 ((Pd.cells ⟨w.2.1.getD i C.Hop.zero, P (i + 1), tg, []⟩)) rfl rfl rfl rfl rfl (by assumption) rfl (Unfz.zero _) rfl (Nat.le_of_ble_eq_true rfl) rfl rfl ?_)
  refine Yz 1 rfl ?_
  refine Wp.seq ?_
  refine Yn 2 rfl ?_
  refine Cu rfl (by exact fun h => h rfl) fun cc4 => ?_
  refine Wp.skip ?_
  refine Wp.seq ?_
  refine Yg 2 rfl ?_
  refine Yl m0 ?_
  refine Yz 1 rfl ?_
  refine Cu rfl (by exact fun h => h hkd) fun cc5 => ?_
  refine Wp.skip ?_
  refine Wp.regionDraw [0, 1, 2, 3, 4, 5, 6] [] rfl (by decide +kernel) ?_
  refine DWp.evs 1 rfl ?_
  refine Yd m0 ?_
  refine DWp.evs 2 rfl ?_
  refine Yd m0 ?_
  refine DWp.evs 2 rfl ?_
  refine DWp.nil ?_
  refine Wp.drop (S' := (L4, cel (mlc 1 (0 : Nat) (0 : Nat) (P 0) [] (.slice none 0 0) (.slice none 0 0)) 58) :: (L2, cel Pd.zero.cells 77) :: S) (List.sublist_cons_self _ _) ?_
  refine Wp.region ?_
  refine Yz 2 rfl ?_
  exact ⟨i + 1, by omega, by omega, .cons rfl (.cons rfl (.cons' rfl (by rw [hnd]) (.cons' rfl (int_eq (i64_inc (by omega))) (.nil _)))), .refl _⟩
 obtain rfl : i = 2 := by omega
 rw [hlast]
 refine Ye 3 rfl ?_
 refine Ya rfl rfl rfl rfl fun L8 hBL8 hLL8 => ?_
 refine OWp.step rfl (Step.storeAs 0 ((Pd.cells ⟨h, [], tag, txt⟩)) rfl rfl rfl rfl rfl (by assumption) rfl (Unfz.zero _) rfl (Nat.le_of_ble_eq_true rfl) rfl rfl ?_)
 refine Yz 1 rfl ?_
 refine Wp.seq ?_
 refine Yn 2 rfl ?_
 refine Cu rfl (by exact fun h => h rfl) fun cc6 => ?_
 refine Wp.skip ?_
 refine Wp.seq ?_
 refine Yg 2 rfl ?_
 refine Yl m0 ?_
 refine Yz 1 rfl ?_
 refine Cw rfl (by exact hk1) fun cc7 => ?_
 refine Yq ?_
 refine Yl m0 ?_
 refine OWp.step rfl (Step.storeAs 2 ((Pd.cells ⟨h, [], tag, txt⟩)) rfl rfl rfl rfl rfl hBL2 rfl (Unfz.zero _) rfl (Nat.le_of_ble_eq_true rfl) rfl rfl ?_)
 refine Yz 1 rfl ?_
 refine Wp.ret ⟨trivial, _, ⟨_, _, _, _, rfl, rfl, ⟨_, _, _, mems, (by first | assumption | rfl)⟩, ⟨_, _, rfl, rfl, rfl⟩⟩, ?_⟩
 exact ⟨_, S, .refl _, subl, H tag⟩
end
end Go.Proofs.D

/- The front of a slice. -/
namespace Go.Lg
theorem Gives.slicePre {P : Program} {n : Nat} {E : Env} {o : Oper} {t e : TypeId} {x : Operand} {hi : Option Operand} {a0 : Option Addr} {len cap sz h' : Nat} (ho : o.op = .slice t x none hi none)
  (hu : P.underlying t = some (.slice e)) (hs : sizeOfT P e = some sz) (hx : opd E x = some (.slice a0 len cap)) (hhi : Bound E hi len h') (h2 : h' ≤ cap) :
  Gives P n [] E o (.slice a0 h' cap) := by
 intro a w hS hA
 have e1 := hhi.run (P := P) hA w cap h2 .sliceAcap
 have key : (Instr.sliceBounds true len cap none (hi.map a.eval) none).run P w = .ok (0, h', cap) w := by
  simp only [Instr.sliceBounds, Sem.run_bind, Sem.run_pure, Result.andThen_ok]
  cases hi with
  | none => simp only [Bound] at hhi; subst hhi; simp
  | some z => simp only [Option.map_some] at e1 ⊢; simp [e1]
 simp only [execOp, ho, opd_sound hA hx, Option.map_none, Instr.sliceAt, Sem.run_bind, run_underlying hu, Result.andThen_ok]
 simp only [Instr.slice, Sem.run_bind, run_underlying hu, Result.andThen_ok, key, sizeOfT_run hs, Sem.run_pure]
 split
 ·simp
 ·simp [Addr.add]
theorem Reads.pre {S : Ents} {sz k len cap : Nat} {a : Option Addr} {xs : List Value} (h : Reads S sz (.slice a len cap) len xs) (hk : k ≤ len) : Reads S sz (.slice a k cap) k (xs.take (k * sz)) := by
 have hm : k * sz ≤ len * sz := Nat.mul_le_mul_right _ hk
 obtain ⟨hl, ⟨_, h0⟩ | ⟨b, o, cap', l, e, fz, hv, hmm, hle, hx⟩⟩ := h
 ·subst h0
  obtain rfl : k = 0 := by omega
  have : xs = [] := List.eq_nil_of_length_eq_zero (by simpa using hl)
  subst this
  exact ⟨by simp, .inl ⟨⟨_, _, rfl⟩, rfl⟩⟩
 ·obtain ⟨rfl, rfl⟩ : a = some ⟨b, o, none⟩ ∧ cap = cap' := by simpa using hv
  refine ⟨by rw [List.length_take, hl, Nat.min_eq_left hm], .inr ⟨b, o, cap, l, e, fz, rfl, hmm, by omega, ?_⟩⟩
  rw [← hx, List.take_take, Nat.min_eq_left hm]
end Go.Lg
namespace Go.Proofs.D
open Go.Lg Go.Sha Go.Hd Go.Cv
set_option maxRecDepth 100000
theorem say_take : ∀ (l : List Say) (k : Nat), (l.take k).flatMap sayc = (l.flatMap sayc).take (k * 3)
 | [], k => by simp
 | x :: l, 0 => rfl
 | x :: l, k + 1 => by
  rw [List.take_succ_cons, List.flatMap_cons, List.flatMap_cons, say_take l k, show (k + 1) * 3 = (sayc x).length + k * 3 by show _ = 3 + k * 3; omega, List.take_length_add_append]
section
variable {B : Nat} {S : Ents} {Q : Value → Ents → Prop} {c : Ck}
theorem cwaitsC {x : Cs} {now : Int} {many : Nat} {W : Ents} (hW : CliIn B c x now many W) (hs : ∀ y ∈ W, y ∈ S) (H : Q (.int .i64 (x.q.length : Int)) S) : CallWp Tryz.prog B 20 #[pt c.p] Q S := by
 obtain ⟨qv, qes, lv, les, rfl, hq, _⟩ := hW
 obtain ⟨qa, qc, rfl⟩ := hq.form
 refine Yx (args := [_]) Tryz.func20 Tryz.ntmps20 ?_
 refine Yn 1 rfl ?_
 refine Yg 3 rfl ?_
 refine Yl (hs _ (.head _)) ?_
 refine Yz 2 rfl ?_
 refine Wp.ret ⟨trivial, _, ⟨_, _, rfl, rfl, rfl⟩, ?_⟩
 exact H
end
end Go.Proofs.D
