/- What functions of the given program do, one after the other, told by that layer. -/
import Derived.Test.YtkjaehdfmmcgmaaGreatDoorMM3xc0b7
import Derived.Test.YtkjaehdfmmcgmaaGreatDoorMM4x9f86
import Derived.Test.YtkjaehdfmmcgmaaGreatDoorMHash5
import Derived.Test.YtkjaehdfmmcgmaaGreatDoorEHead
import Derived.Test.YtkjaehdfmmcgmaaGreatDoorMWheelM
import Derived.Test.YtkjaehdfmmcgmaaGreatDoorLgM4xf4e2
import Derived.Test.YtkjaehdfmmcgmaaGreatDoorEM2x0bbf
/- A disk. -/
namespace Go.Proofs.D
open Go.Lg Go.Sha Go.Hd Go.Cv Go.Mx
set_option maxRecDepth 100000
def dkc (wv : Value) (pr total : Nat) : List Value := [.slice (some ⟨pr, 0, none⟩) total total, wv, .int .i64 0, .int .i64 0]
abbrev dke (p : Nat) (wv : Value) (pr total : Nat) : Nat × Obj := (p, cel (dkc wv pr total) 64)
abbrev dkr (pr : Nat) (D : List UInt8) : Nat × Obj := (pr, cel (byteCells D) 107)
/-- A disk in memory: its bytes; some writes wait, or none. -/
def DkIn (B p pr total : Nat) (D : List UInt8) (n : Nat) (W : Ents) : Prop := B ≤ p ∧ B ≤ pr ∧ 1 ≤ total ∧ total ≤ 1024 ∧ D.length = 64 * total ∧ ∃ wv cells es, (n = 0 → wv = .slice none 0 0 ∧ es = []) ∧ Lg.Own B 109 129 wv n cells es ∧ W = dke p wv pr total :: dkr pr D :: es
theorem DkIn.len {B p pr total n : Nat} {D : List UInt8} {W : Ents} (h : DkIn B p pr total D n W) : D.length = 64 * total := h.2.2.2.2.1
theorem cells_sec (D : List UInt8) (at_ : Nat) : ((byteCells D).drop (64 * at_)).take 64 = byteCells (secU D at_) := by
 unfold byteCells secU
 rw [List.map_take, List.map_drop]
theorem cells_wr (D t : List UInt8) (o : Nat) : wr (byteCells D) o (byteCells t) = byteCells (wrU D o t) := by
 unfold wr wrU
 rw [byteCells_length, byteCells_append, byteCells_append, List.append_assoc]
 unfold byteCells
 rw [List.map_take, List.map_drop]
theorem sec_part {D : List UInt8} {at_ o : Nat} (ho : o = 64 * at_) (h : 64 * at_ + 64 ≤ D.length) : Lg.partAt Tryz.prog 107 (byteCells D) o = some (.agg (byteCells (secU D at_)).toArray) := by
 subst ho
 exact partAt_agg (cells_sec D at_) rfl rfl (by rw [byteCells_length, secU_len h])
theorem sec_read {S : Ents} {pr o at_ : Nat} {D : List UInt8} (hm : dkr pr D ∈ S) (ho : o = 64 * at_) (h : 64 * at_ + 64 ≤ D.length) : Reads S 1 (.slice (some ⟨pr, o, none⟩) 64 64) 64 (byteCells (secU D at_)) := by
 subst ho
 refine ⟨by rw [byteCells_length, secU_len h], .inr ⟨pr, 64 * at_, 64, byteCells D, 107, (0, 0), rfl, hm, by rw [byteCells_length]; omega, cells_sec D at_⟩⟩
section
variable {B : Nat} {S R : Ents} {Q : Value → Ents → Prop} {p pr total n : Nat} {D : List UInt8} {W : Ents}
theorem dthereC {at_ : Nat} (h : DkIn B p pr total D n W) (hs : ∀ x ∈ W, x ∈ S) (ha : at_ < total) (H : Q (.int .i64 0) S) : CallWp Tryz.prog B 195 #[pt p, .int .i64 (at_ : Int)] Q S := by
 obtain ⟨h1, h2, h3, h4, h5, wv, cells, es, h6, ho, rfl⟩ := h
 obtain ⟨wa, wc, rfl⟩ := ho.reads.form
 refine Yx (args := [_, _]) Tryz.func195 Tryz.ntmps195 ?_
 refine Yn 1 rfl ?_
 refine Wp.seq ?_
 refine Wp.block ?_
 refine Yg 3 rfl ?_
 refine Yl (hs _ (.head _)) ?_
 refine Yz 2 rfl ?_
 refine Ct rfl (by decide) fun cc1 => ?_
 refine Yg 3 rfl ?_
 refine Dt 14 rfl (by omega) fun cc2 => ?_
 refine Ye 4 rfl ?_
 refine Yl (hs _ (.head _)) ?_
 refine Yz 4 rfl ?_
 refine Ct rfl (by omega) fun cc3 => ?_
 refine Wp.skip ?_
 refine Yn 1 rfl ?_
 refine Wp.ret ⟨trivial, _, ⟨_, _, rfl, rfl, rfl⟩, ?_⟩
 exact H
theorem dreadC {at_ : Nat} (h : DkIn B p pr total D n W) (hs : ∀ x ∈ W, x ∈ S) (ha : at_ < total) (H : Q (.tuple #[.string (str (secU D at_)), .int .i64 0]) S) : CallWp Tryz.prog B 146 #[pt p, .int .i64 (at_ : Int)] Q S := by
 obtain ⟨h1, h2, h3, h4, h5, wv, cells, es, h6, ho, rfl⟩ := id h
 obtain ⟨wa, wc, rfl⟩ := ho.reads.form
 refine Yx (args := [_, _]) Tryz.func146 Tryz.ntmps146 ?_
 refine Yn 2 rfl ?_
 refine Wp.seq ?_
 refine Yg 2 rfl ?_
 refine Yc rfl rfl (dthereC h hs ha ?_)
 refine Yz 1 rfl ?_
 refine Yn 2 rfl ?_
 refine Cu rfl (by exact fun h => h rfl) fun cc1 => ?_
 refine Wp.skip ?_
 refine Yg 3 rfl ?_
 refine Yl (hs _ (.head _)) ?_
 refine Ye 1 rfl ?_
 refine OWp.g rfl rfl (Gives.indexAddrSlice (at_) rfl rfl rfl rfl rfl rfl (by omega)) ?_
 refine OWp.g rfl rfl (Gives.sliceArr (l := 0) (h' := 64) rfl rfl rfl rfl rfl rfl (by omega) (by omega) (by omega)) ?_
 refine OWp.gives rfl rfl (Gives.bytesToStr (F := _) (l := secU D at_) (k := 64) rfl rfl rfl rfl rfl (sec_read (hs _ (.tail _ (.head _))) (by show 0 + at_ * 64 + 0 * 1 = _; omega) (by omega))) (fun _ h => h) ?_
 refine Yz 2 rfl ?_
 refine Wp.ret ⟨trivial, _, ⟨_, _, rfl, rfl, _, _, rfl, rfl, rfl⟩, ?_⟩
 exact H
theorem dburnC (h : DkIn B p pr total D n W) (hs : ∀ x ∈ W, x ∈ S) (H : Q (.bool false) S) : CallWp Tryz.prog B 196 #[pt p] Q S := by
 obtain ⟨h1, h2, h3, h4, h5, wv, cells, es, h6, ho, rfl⟩ := h
 obtain ⟨wa, wc, rfl⟩ := ho.reads.form
 refine Yx (args := [_]) Tryz.func196 Tryz.ntmps196 ?_
 refine Yn 1 rfl ?_
 refine Wp.seq ?_
 refine Yg 3 rfl ?_
 refine Yl (hs _ (.head _)) ?_
 refine Yz 1 rfl ?_
 refine Ct rfl (by decide) fun cc1 => ?_
 refine Wp.skip ?_
 refine Yg 3 rfl ?_
 refine Yl (hs _ (.head _)) ?_
 refine Yz 2 rfl ?_
 refine Wp.ret ⟨trivial, _, ⟨_, _, rfl, rfl, rfl⟩, ?_⟩
 exact H
end
end Go.Proofs.D

/- A disk: written, made safe, crashed, made. -/
namespace Go.Lg
theorem setAt_wr : ∀ (l : List Value) (o : Nat) (vs : List Value), o + vs.length ≤ l.length → setAt l o vs = some (wr l o vs)
 | [], o, [], _ => by cases o <;> simp [setAt, wr]
 | c :: cs, 0, [], _ => by simp [setAt, wr]
 | c :: cs, o + 1, [], h => by simp [setAt, wr]
 | [], o, v :: vs, h => by simp at h
 | c :: cs, 0, v :: vs, h => by
  have ih := setAt_wr cs 0 vs (by simp at h ⊢; omega)
  simp only [setAt, ih]
  simp [wr]
 | c :: cs, k + 1, v :: vs, h => by
  have ih := setAt_wr cs k (v :: vs) (by simp at h ⊢; omega)
  simp only [setAt, ih]
  simp [wr, show k + 1 + (vs.length + 1) = k + (vs.length + 1) + 1 by omega]
end Go.Lg
namespace Go.Proofs.D
open Go.Lg Go.Sha Go.Hd Go.Cv Go.Mx
set_option maxRecDepth 100000
def wtc (at_ : Nat) (old fresh : List UInt8) : List Value := .int .i64 (at_ : Int) :: (byteCells old ++ byteCells fresh)
theorem wtc_len {at_ : Nat} {old fresh : List UInt8} (h : old.length = 64) (h2 : fresh.length = 64) : (wtc at_ old fresh).length = 129 := by
 unfold wtc
 rw [List.length_cons, List.length_append, byteCells_length, byteCells_length, h, h2]
theorem wait_fill {a : Int} {l : List Value} (hl : l.length = 64) : fillL (fun i => ([(0, 1), (1, 64), (65, 64)] : List (Nat × Nat))[i]?) [(0, .int .i64 a), (1, .agg l.toArray)] (.int .i64 0 :: List.replicate 128 (.int .u8 0)) = some (.int .i64 a :: (l ++ List.replicate 64 (.int .u8 0))) := by
 have h2 : setAt (.int .i64 a :: List.replicate 128 (.int .u8 0)) 1 l = some (.int .i64 a :: (l ++ List.replicate 64 (.int .u8 0))) := by
  rw [setAt_wr _ _ _ (by rw [hl, List.length_cons, List.length_replicate]; decide)]
  unfold wr
  rw [hl]
  rfl
 have e : cellsOf (Value.agg l.toArray) = l := by simp [cellsOf]
 show (match Nat.beq (cellsOf (Value.agg l.toArray)).length 64, Nat.ble 1 129, setAt (.int .i64 a :: List.replicate 128 (.int .u8 0)) 1 (cellsOf (Value.agg l.toArray)) with
   | true, true, some cs' => fillL _ [] cs'
   | _, _, _ => none) = _
 rw [e, h2, hl]
 rfl
theorem wait_build {E : Env} {x y : Operand} {a : Int} {l : List Value} (hl : l.length = 64) (hx : opd E x = some (.int .i64 a)) (hy : opd E y = some (.agg l.toArray)) : buildV Tryz.prog E 109 [(0, x), (1, y)] = some (.agg (.int .i64 a :: (l ++ List.replicate 64 (.int .u8 0))).toArray) := by
 have hp : partsE E [(0, x), (1, y)] = some [(0, .int .i64 a), (1, .agg l.toArray)] := by simp [partsE, hx, hy]
 have hz : zeroOf Tryz.prog 109 = some (.int .i64 0 :: List.replicate 128 (.int .u8 0)) := by rfl
 unfold buildV
 rw [hz, hp, Tryz.underlying109]
 simp only
 rw [show placesOf Tryz.prog [_, _, _] = some [(0, 1), (1, 64), (65, 64)] from rfl]
 simp only
 rw [wait_fill hl]
theorem sec_zeros : ∀ n : Nat, zeros (byteCells (zer 64)) n = byteCells (zer (64 * n))
 | 0 => rfl
 | n + 1 => by
  rw [show 64 * (n + 1) = 64 + 64 * n by omega, zer_add, byteCells_append, ← sec_zeros n]
  rfl
theorem wait_store {z : List Value} {at_ : Nat} {old : List UInt8} (hz : z.length = 129) (ho : old.length = 64) : wr z 0 (Value.agg (Value.int .i64 (at_ : Int) :: (byteCells old ++ List.replicate 64 (Value.int .u8 0))).toArray).cells.toList = wtc at_ old (zer 64) := by
 have e : (Value.agg (Value.int .i64 (at_ : Int) :: (byteCells old ++ List.replicate 64 (Value.int .u8 0))).toArray).cells.toList = wtc at_ old (zer 64) := rfl
 rw [e]
 unfold wr
 rw [wtc_len ho (zer_len 64), List.drop_of_length_le (by rw [hz]; decide)]
 simp
theorem wait_bound {at_ : Nat} {old : List UInt8} (ho : old.length = 64) : 0 + (Value.agg (Value.int .i64 (at_ : Int) :: (byteCells old ++ List.replicate 64 (Value.int .u8 0))).toArray).cells.toList.length = 129 := by
 have e : (Value.agg (Value.int .i64 (at_ : Int) :: (byteCells old ++ List.replicate 64 (Value.int .u8 0))).toArray).cells.toList = wtc at_ old (zer 64) := rfl
 rw [e, wtc_len ho (zer_len 64)]
theorem wait_one {at_ : Nat} {old : List UInt8} : ((Value.agg (Value.int .i64 (at_ : Int) :: (byteCells old ++ List.replicate 64 (Value.int .u8 0))).toArray).cells.toList.all (·.oneCell')) = true := by
 show ((Value.int .i64 (at_ : Int) :: (byteCells old ++ List.replicate 64 (Value.int .u8 0))).all (·.oneCell')) = true
 rw [List.all_cons, List.all_append, byteCells_one]
 rfl
theorem wait_size {at_ : Nat} {old : List UInt8} (ho : old.length = 64) : sizeOfT Tryz.prog 109 = some (Value.agg (Value.int .i64 (at_ : Int) :: (byteCells old ++ List.replicate 64 (Value.int .u8 0))).toArray).cells.size := by
 have e : (Value.agg (Value.int .i64 (at_ : Int) :: (byteCells old ++ List.replicate 64 (Value.int .u8 0))).toArray).cells.size = 129 := by
  show (Value.int .i64 (at_ : Int) :: (byteCells old ++ List.replicate 64 (Value.int .u8 0))).toArray.size = 129
  rw [List.size_toArray, List.length_cons, List.length_append, byteCells_length, ho]
  rfl
 rw [e]
 rfl
theorem wait_part {at_ : Nat} {old text : List UInt8} (ho : old.length = 64) (ht : text.length = 64) : Lg.partAt Tryz.prog 109 (wtc at_ old text) 0 = some (.agg (wtc at_ old text).toArray) :=
 partAt_agg (n := 129) (by rw [List.drop_zero, List.take_of_length_le (Nat.le_of_eq (wtc_len ho ht))]) rfl rfl (wtc_len ho ht)
theorem fresh_part {at_ : Nat} {old text : List UInt8} (ho : old.length = 64) (ht : text.length = 64) : Lg.partAt Tryz.prog 107 (wtc at_ old text) 65 = some (.agg (byteCells text).toArray) := by
 refine partAt_agg (n := 64) ?_ rfl rfl (by rw [byteCells_length, ht])
 unfold wtc
 have hl : (Value.int IntKind.i64 (at_ : Int) :: byteCells old).length = 65 := by rw [List.length_cons, byteCells_length, ho]
 rw [← List.cons_append, List.drop_left' hl, List.take_of_length_le (by rw [byteCells_length, ht]; exact Nat.le_refl _)]
theorem wait_row {E : Env} {x : Operand} {l : List Value} (hl : l.length = 129) (hx : opd E x = some (.agg l.toArray)) : buildSliceL Tryz.prog E 61 1 [(0, x)] = some (109, l) := by
 have hp : partsE E [(0, x)] = some [(0, .agg l.toArray)] := by simp [partsE, hx]
 have hz : zeroOf Tryz.prog 109 = some (.int .i64 0 :: List.replicate 128 (.int .u8 0)) := by rfl
 have hs : sizeOfT Tryz.prog 109 = some 129 := rfl
 have e : cellsOf (Value.agg l.toArray) = l := by simp [cellsOf]
 have hf : fillL (fun i => some (i * 129, 129)) [(0, .agg l.toArray)] (zeros (.int .i64 0 :: List.replicate 128 (.int .u8 0)) 1) = some l := by
  have h2 : setAt (zeros (.int .i64 0 :: List.replicate 128 (.int .u8 0)) 1) 0 l = some l := by
   rw [setAt_wr _ _ _ (by rw [hl]; decide)]
   unfold wr
   rw [hl, List.drop_of_length_le (by decide)]
   simp
  show (match Nat.beq (cellsOf (Value.agg l.toArray)).length 129, Nat.ble (0 * 129) 129, setAt (zeros (.int .i64 0 :: List.replicate 128 (.int .u8 0)) 1) (0 * 129) (cellsOf (Value.agg l.toArray)) with
   | true, true, some cs' => fillL _ [] cs'
   | _, _, _ => none) = _
  rw [e, hl, Nat.zero_mul, h2]
  rfl
 unfold buildSliceL
 rw [hp, Tryz.underlying61]
 simp only
 rw [hs, hz]
 simp only [Nat.reduceAdd, Nat.reduceMul]
 rw [hf]
 rfl
theorem wtc_one (at_ : Nat) (old text : List UInt8) : (wtc at_ old text).all (·.oneCell') = true := by
 unfold wtc
 rw [List.all_cons, List.all_append, byteCells_one, byteCells_one]
 rfl
theorem wait_reads {S : Ents} {L at_ : Nat} {old text : List UInt8} (ho : old.length = 64) (ht : text.length = 64) : Reads ((L, cel (wtc at_ old text) 109) :: S) 129 (.slice (some ⟨L, 0, none⟩) 1 1) 1 (wtc at_ old text) := by
 have := Reads.row (k := 1) (sz := 129) (cap := 1) (S := (L, cel (wtc at_ old text) 109) :: S) (.head _) (by rw [wtc_len ho ht]; decide)
 rwa [List.take_of_length_le (by rw [wtc_len ho ht]; decide)] at this
theorem sec_size {text : List UInt8} (ht : text.length = 64) : sizeOfT Tryz.prog 107 = some (Value.agg (byteCells text).toArray).cells.size := by
 have e : (Value.agg (byteCells text).toArray).cells.size = 64 := by
  show (byteCells text).toArray.size = 64
  rw [List.size_toArray, byteCells_length, ht]
 rw [e]
 rfl
theorem wtc_put {at_ : Nat} {old text : List UInt8} (ho : old.length = 64) (ht : text.length = 64) : wr (wtc at_ old (zer 64)) 65 (byteCells (text.take 64)) = wtc at_ old text := by
 have hl : (Value.int IntKind.i64 (at_ : Int) :: byteCells old).length = 65 := by rw [List.length_cons, byteCells_length, ho]
 unfold wtc wr
 rw [List.take_of_length_le (Nat.le_of_eq ht), ← List.cons_append, List.take_left' hl, byteCells_length, ht, List.drop_of_length_le (by rw [List.length_append, hl, byteCells_length, zer_len]; exact Nat.le_refl _), List.append_nil, List.cons_append]
section
variable {B : Nat} {S R : Ents} {Q : Value → Ents → Prop} {p pr total n : Nat} {D : List UInt8} {W : Ents}
set_option maxHeartbeats 2000000 in
theorem dwriteC {at_ : Nat} {text : List UInt8} (h : DkIn B p pr total D n W) (ha : at_ < total) (ht : text.length = 64) (hn : n ≤ 1048576)
  (H : ∀ W', DkIn B p pr total (wrU D (64 * at_) text) (n + 1) W' → Q (.int .i64 0) (W' ++ S)) : CallWp Tryz.prog B 197 #[pt p, .int .i64 (at_ : Int), .string (str text)] Q (W ++ S) := by
 have hin := h
 obtain ⟨h1, h2, h3, h4, h5, wv, cells, es, h6, ho, rfl⟩ := h
 obtain ⟨wa, wc, rfl⟩ := ho.reads.form
 have hsl : (secU D at_).length = 64 := secU_len (by omega)
 refine subRet ?_
 refine Yx (args := [_, _, _]) Tryz.func197 Tryz.ntmps197 ?_
 refine Yn 1 rfl ?_
 refine Wp.seq ?_
 refine Yg 2 rfl ?_
 refine Yc rfl rfl (dthereC hin (fun x hx => List.mem_append_left _ hx) ha ?_)
 refine Yz 1 rfl ?_
 refine Yn 2 rfl ?_
 refine Cu rfl (by exact fun h => h rfl) fun cc1 => ?_
 refine Wp.skip ?_
 refine Wp.seq ?_
 refine Yn 3 rfl ?_
 refine Cu rfl (by exact fun h => h (by rw [ht]; rfl)) fun cc2 => ?_
 refine Wp.skip ?_
 refine Wp.seq ?_
 refine Yg 1 rfl ?_
 refine Yc rfl rfl (dburnC hin (fun x hx => List.mem_append_left _ hx) ?_)
 refine OWp.nil ?_
 refine Cn rfl ?_
 refine Wp.skip ?_
 refine Yg 4 rfl ?_
 refine Yl m0 ?_
 refine Ye 1 rfl ?_
 refine OWp.g rfl rfl (Gives.indexAddrSlice (at_) rfl rfl rfl rfl rfl rfl (by omega)) ?_
 refine OWp.load (.tail _ (.head _)) rfl rfl rfl rfl (sec_part (at_ := at_) (by show 0 + at_ * 64 = _; omega) (by omega)) ?_
 refine OWp.g rfl rfl (Gives.build rfl (wait_build (by rw [byteCells_length, hsl]) rfl rfl)) ?_
 refine Ya rfl rfl rfl rfl fun L8 hBL8 hLL8 => ?_
 refine OWp.step rfl (Step.storeAs 0 (wtc at_ (secU D at_) (zer 64)) rfl rfl rfl rfl rfl hBL8 (wait_size hsl) (Unfz.zero _) wait_one (Nat.le_of_eq (wait_bound hsl)) (wait_store rfl hsl) rfl ?_)
 refine OWp.nil ?_
 refine Yg 1 rfl ?_
 refine OWp.g rfl rfl (Gives.sliceArr (l := 0) (h' := 64) rfl rfl rfl rfl rfl rfl (by omega) (by omega) (by omega)) ?_
 refine Ye 1 rfl ?_
 refine OWp.step rfl (Step.copyStr 0 (wtc at_ (secU D at_) text) rfl rfl rfl rfl rfl rfl rfl (by assumption) (Unfz.zero _) (by rw [wtc_len hsl (zer_len 64), ht]; decide) (by rw [ht]; exact wtc_put hsl ht) rfl ?_)
 refine OWp.nil ?_
 refine Wp.seq (Wp.regionDraw [0, 1, 2, 3, 4, 5, 6, 7, 8, 9, 10] [6, 7, 10] rfl (by decide +kernel) ?_)
 refine DWp.evs 4 rfl ?_
 refine Yd (show dke p (.slice wa n wc) pr total ∈ _ from .tail _ (.head _)) ?_
 refine DWp.load (show (L8, cel (wtc at_ (secU D at_) text) 109) ∈ _ from .head _) rfl rfl rfl rfl rfl rfl (wait_part hsl ht) ?_
 refine DWp.stepGrow rfl rfl rfl (Step.buildSlice rfl rfl (wait_row (wtc_len hsl ht) rfl) ?_)
 intro Lp hBLp hLLp
 refine ⟨fun _ hy => .tail _ hy, ?_⟩
 refine DWp.stepAll rfl rfl rfl rfl (Step.appendAt [_, _, _, _] rfl rfl rfl rfl rfl rfl (by decide) rfl rfl ho (wait_reads hsl ht) (wtc_one _ _ _) (by show (_ + 1) * 136 ≤ _; omega) (by unfold maxLen; omega) ?_)
 intro v2 es2 ho2 _
 refine DWp.drop0 (List.sublist_cons_self _ _) ?_
 obtain ⟨va, vc, hv⟩ := ho2.reads.form
 subst hv
 refine DWp.evs 2 rfl ?_
 refine DWp.stepAll rfl rfl rfl rfl (Step.storeAs 1 (dkc (.slice va (n + 1) vc) pr total) rfl rfl rfl rfl rfl h1 rfl (Unfz.zero _) rfl (Nat.le_of_ble_eq_true rfl) rfl rfl ?_)
 refine DWp.nil ?_
 refine Wp.seq (Wp.regionDraw [0, 1, 2, 3, 4, 5, 6, 7, 8] [8] rfl (by decide +kernel) ?_)
 refine DWp.evs 3 rfl ?_
 refine Yd (show dke p (.slice va (n + 1) vc) pr total ∈ _ from .tail _ (.head _)) ?_
 refine DWp.evs 2 rfl ?_
 refine DWp.load (show (L8, cel (wtc at_ (secU D at_) text) 109) ∈ _ from .head _) rfl rfl rfl rfl rfl rfl (fresh_part hsl ht) ?_
 refine DWp.g rfl rfl rfl rfl (Gives.indexAddrSlice (at_) rfl rfl rfl rfl rfl rfl (by omega)) ?_
 refine DWp.stepAll rfl rfl rfl rfl (Step.storeAs 2 (byteCells (wrU D (64 * at_) text)) rfl rfl rfl rfl rfl h2 (sec_size ht) (Unfz.zero _) (byteCells_one _) (by show 0 + at_ * 64 + (byteCells text).length ≤ (byteCells D).length; rw [byteCells_length, byteCells_length, ht]; omega) (by show wr (byteCells D) (0 + at_ * 64) (byteCells text) = _; rw [show 0 + at_ * 64 = 64 * at_ by omega]; exact cells_wr D text _) rfl ?_)
 refine DWp.nil ?_
 refine Yn 1 rfl ?_
 refine Wp.ret ⟨trivial, _, ⟨_, _, rfl, rfl, rfl⟩, ?_⟩
 exact ⟨_, (dke p (.slice va (n + 1) vc) pr total :: dkr pr (wrU D (64 * at_) text) :: es2) ++ S, .refl _, List.sublist_cons_self _ _, H _ ⟨h1, h2, h3, h4, by rw [wrU_len (by omega), h5], .slice va (n + 1) vc, _, es2, fun h => absurd h (by omega), ho2, rfl⟩⟩
theorem dsyncC (h : DkIn B p pr total D n W) (H : ∀ W', DkIn B p pr total D 0 W' → Q (.int .i64 0) (W' ++ S)) : CallWp Tryz.prog B 149 #[pt p] Q (W ++ S) := by
 have hin := h
 obtain ⟨h1, h2, h3, h4, h5, wv, cells, es, h6, ho, rfl⟩ := h
 obtain ⟨wa, wc, rfl⟩ := ho.reads.form
 refine subRet ?_
 refine Yx (args := [_]) Tryz.func149 Tryz.ntmps149 ?_
 refine Yn 1 rfl ?_
 refine Wp.seq ?_
 refine Yg 3 rfl ?_
 refine Yl m0 ?_
 refine Ye 2 rfl ?_
 refine Dt 8 rfl (by decide) fun cc1 => ?_
 refine Ye 1 rfl ?_
 refine Yc rfl rfl (dburnC hin (fun x hx => List.mem_append_left _ hx) ?_)
 refine Yz 1 rfl ?_
 refine Cn rfl ?_
 refine Wp.skip ?_
 refine Yg 3 rfl ?_
 refine OWp.step rfl (Step.storeAs 0 (dkc (.slice none 0 0) pr total) rfl rfl rfl rfl rfl h1 rfl (Unfz.zero _) rfl (Nat.le_of_ble_eq_true rfl) rfl rfl ?_)
 refine OWp.nil ?_
 refine Yn 1 rfl ?_
 refine Wp.ret ⟨trivial, _, ⟨_, _, rfl, rfl, rfl⟩, ?_⟩
 exact ⟨_, [dke p (.slice none 0 0) pr total, dkr pr D] ++ S, .refl _, .cons_cons _ (.cons_cons _ (List.sublist_append_right es S)), H _ ⟨h1, h2, h3, h4, h5, .slice none 0 0, [], [], fun _ => ⟨rfl, rfl⟩, Own.nil _ _ _, rfl⟩⟩
theorem dnewC {total : Nat} (h1 : 1 ≤ total) (h2 : total ≤ 1024) (H : ∀ p pr W', DkIn B p pr total (zer (64 * total)) 0 W' → Q (.tuple #[pt p, .int .i64 0]) (W' ++ S)) : CallWp Tryz.prog B 6 #[.int .i64 (total : Int)] Q S := by
 refine Yx (args := [_]) Tryz.func6 Tryz.ntmps6 ?_
 refine Yn 2 rfl ?_
 refine Wp.seq ?_
 refine Yg 3 rfl ?_
 refine Dt 6 rfl (by omega) fun cc1 => ?_
 refine Yz 3 rfl ?_
 refine Ct rfl (by omega) fun cc2 => ?_
 refine Wp.skip ?_
 refine Yg 1 rfl ?_
 refine OWp.step rfl (Step.makeSlice (len := total) (cap := total) rfl rfl rfl rfl rfl rfl (by decide) rfl rfl (Nat.le_refl _) (by show 64 * total ≤ _; omega) (by omega) ?_)
 intro L11 hB11 hL11
 refine OWp.g rfl rfl (Gives.build rfl rfl) ?_
 refine Yb rfl rfl rfl rfl fun L13 hBL13 hLL13 => ?_
 refine Yz 2 rfl ?_
 refine Wp.ret ⟨trivial, _, ⟨_, _, rfl, rfl, _, _, rfl, rfl, rfl⟩, ?_⟩
 have hh : Q _ (dke L13 (.slice none 0 0) L11 total :: (L11, cel (byteCells (zer (64 * total))) 107) :: S) := H L13 L11 [dke L13 (.slice none 0 0) L11 total, dkr L11 (zer (64 * total))] ⟨hBL13, hB11, h1, h2, zer_len _, .slice none 0 0, [], [], fun _ => ⟨rfl, rfl⟩, Own.nil _ _ _, rfl⟩
 rw [← sec_zeros] at hh
 exact hh
end
end Go.Proofs.D

namespace Go.Proofs.D
open Go.Lg Go.Sha
set_option maxRecDepth 100000

theorem bc_get {l : List UInt8} {g : List Value} {i : Nat} (h : i < l.length) : (byteCells l ++ g)[i]? = some (.int .u8 (l[i].toNat)) := by
 rw [List.getElem?_append_left (by rw [byteCells_length]; exact h)]
 simp [byteCells, h]
theorem bc_set {l : List UInt8} {g : List Value} {o i : Nat} {x : Int} {c : UInt8} (h : i < l.length) (hx : x = c.toNat) (ho : o = i) :
  wr (byteCells l ++ g) o (Value.int .u8 x).cells.toList = byteCells (l.set i c) ++ g := by
 subst hx ho
 unfold wr byteCells
 rw [List.set_eq_take_append_cons_drop, if_pos h]
 show List.take o _ ++ [Value.int .u8 (c.toNat : Int)] ++ List.drop (o + 1) _ = _
 rw [List.take_append_of_le_length (by simp; omega), List.drop_append_of_le_length (by simp; omega)]
 simp [List.map_take, List.map_drop]

def padAt (k : List UInt8) (y : UInt8) (i : Nat) : List UInt8 := (k.take i).map (· ^^^ y) ++ k.drop i
theorem padAt_len (k : List UInt8) (y : UInt8) (i : Nat) : (padAt k y i).length = k.length := by simp [padAt]; omega
theorem padAt_zero (k : List UInt8) (y : UInt8) : padAt k y 0 = k := by simp [padAt]
theorem padAt_all (k : List UInt8) (y : UInt8) : padAt k y k.length = k.map (· ^^^ y) := by simp [padAt]
theorem padAt_get (k : List UInt8) (y : UInt8) {i : Nat} (h : i < k.length) : (padAt k y i)[i]'(by rw [padAt_len]; exact h) = k[i] := by
 simp only [padAt]
 rw [List.getElem_append_right (by simp; omega)]
 simp [Nat.min_eq_left (Nat.le_of_lt h)]
theorem padAt_set (k : List UInt8) (y : UInt8) {i : Nat} (h : i < k.length) : (padAt k y i).set i (k[i] ^^^ y) = padAt k y (i + 1) := by
 simp only [padAt]
 rw [List.set_append_right _ _ (by simp; omega)]
 have hm : ((k.take i).map (· ^^^ y)).length = i := by simp; omega
 rw [hm, Nat.sub_self, List.drop_eq_getElem_cons h, List.set_cons_zero, List.take_succ_eq_append_getElem h, List.map_append, List.append_assoc]
 rfl
theorem xor8 (a b : UInt8) : bits .xor .u8 (a.toNat : Int) (b.toNat : Int) = ((a ^^^ b).toNat : Int) := by
 rw [Go.Lg.u8_xor a.toNat_lt b.toNat_lt, UInt8.toNat_xor]

section
variable {B : Nat} {S R : Ents} {Q : Value → Ents → Prop}

theorem zerosEqC {n : Nat} {m : Int} (hm : m = (n : Int)) (hn : n ≤ 2147483648) (H : Q (.string (str (List.replicate n 0))) S) :
  CallWp Tryz.prog B 87 #[.string (str [0]), .int .i64 m] Q S := by
 subst hm; exact zerosC hn H

theorem paddedC {k : List UInt8} {y : UInt8} (hk : KsIn S) (hl : k.length + 100 ≤ big) (H : Q (.string (str (keyPad k y))) S) :
  CallWp Tryz.prog B 114 #[.string (str k), .int .u8 y.toNat] Q S := by
 have hb : big = 281474976710656 := rfl
 rw [hb] at hl
 refine Yx (args := [_, _]) Tryz.func114 Tryz.ntmps114 ?_
 refine Yn 1 rfl ?_
 refine Wp.seqS (α := List UInt8) (fun x => [(0, .string (str x)), (1, .int .u8 y.toNat)]) (fun _ => S) (fun x => x = (if 64 < k.length then sha k else k)) ?_ ?_
 ·skip
  refine Yn 3 rfl ?_
  refine Wp.cond rfl (fun h1 => ?_) (fun h1 => ?_)
  ·have h1 := of_decide_eq_true h1
   refine Wp.region ?_
   refine Ye 1 rfl ?_
   refine OWp.step rfl (Step.buildSlice rfl rfl rfl ?_); intro L hBL hLL
   refine Yc rfl rfl (sumC (l := [k]) (Reads.row (k := 1) (sz := 1) (.head _) (Nat.le_of_ble_eq_true rfl)) (by decide) hk.cons (by rw [hb]; simpa using hl) ?_)
   refine OWp.drop (List.sublist_cons_self _ _) ?_
   refine Yz 1 rfl ?_
   exact ⟨_, rfl, .cons' rfl (by rw [if_pos (by omega)]; simp) (.cons rfl (.nil _)), .refl _⟩
  have h1 := of_decide_eq_false h1
  refine Wp.skip ?_
  exact ⟨_, rfl, .cons' rfl (by rw [if_neg (by omega)]) (.cons rfl (.nil _)), .refl _⟩
 rintro x hx
 have hx64 : x.length ≤ 64 := by subst hx; split <;> first | omega | (rw [sha_len]; omega)
 refine Yg 4 rfl ?_
 refine Yc rfl rfl (zerosEqC (n := 64 - x.length) (by rw [i64_id] <;> omega) (by omega) ?_)
 refine OWp.g rfl rfl (Gives.addStr rfl rfl rfl (by rw [List.length_replicate]; omega)) ?_
 refine OWp.step rfl (Step.strToBytes rfl rfl rfl rfl rfl rfl ?_); intro L g cap hBL hLL hcL
 generalize hkk : x ++ List.replicate (64 - x.length) 0 = kk at *
 have hkl : kk.length = 64 := by rw [← hkk, List.length_append, List.length_replicate]; omega
 refine Yz 1 rfl ?_
 refine Wp.seq ?_
 refine Yn 3 rfl ?_
 refine Wp.block ?_
 refine Wp.loopS (α := Nat) (fun i => 64 - i) (fun i => [(1, .int .u8 y.toNat), (5, .slice (some ⟨L, 0, none⟩) 64 cap), (21, .int .i64 64), (22, .int .i64 (i : Int))]) (fun i => (L, cel (byteCells (padAt kk y i) ++ g) 5 (cap, cap + 1)) :: S) (fun i => i ≤ 64) 0 ?_ (by simp only [padAt_zero]; exact .refl _) (by omega) ?_
 ·exact .cons rfl (.cons' rfl (by rw [hkl]) (.cons' rfl (by rw [hkl]; rfl) (.cons rfl (.nil _))))
 intro i hi
 have hpl : (padAt kk y i).length = 64 := by rw [padAt_len, hkl]
 refine Yn 1 rfl ?_
 refine Wp.seq ?_
 refine Wp.cond rfl (fun h1 => ?_) (fun h1 => ?_)
 ·have h1 := of_decide_eq_true h1
  have hlt : i < 64 := by omega
  refine Wp.skip ?_
  refine Wp.seq ?_
  refine Wp.block ?_
  refine Yn 2 rfl ?_
  refine Wp.region ?_
  refine Ye 2 rfl ?_
  refine OWp.g rfl rfl (Gives.indexAddrSlice (i) rfl rfl rfl rfl rfl rfl (by omega)) ?_
  refine OWp.load (.head _) rfl rfl rfl rfl (by show (byteCells (padAt kk y i) ++ g)[0 + i * 1]? = some (.int .u8 (kk[i].toNat)); rw [Nat.zero_add, Nat.mul_one, bc_get (by omega), padAt_get kk y (by omega)]) ?_
  refine Ye 2 rfl ?_
  refine OWp.g rfl rfl (Gives.indexAddrSlice (i) rfl rfl rfl rfl rfl rfl (by omega)) ?_
  refine OWp.step rfl (Step.storeAs 0 (byteCells (padAt kk y (i + 1)) ++ g) rfl rfl rfl rfl rfl hBL rfl (.inr (by rw [← hcL, List.length_append, List.length_append, byteCells_length, byteCells_length, hpl, hkl]; exact Nat.le_refl _)) rfl (by rw [List.length_append, byteCells_length, hpl]; show 0 + i * 1 + 1 ≤ _; omega) (by rw [xor8, ← padAt_set kk y (by omega)]; exact bc_set (by omega) rfl (by show 0 + i * 1 = i; omega)) rfl ?_)
  refine OWp.nil ?_
  refine Wp.region ?_
  refine Yz 2 rfl ?_
  exact ⟨i + 1, by omega, by omega, .cons rfl (.cons rfl (.cons rfl (.cons' rfl (int_eq (i64_inc (by omega))) (.nil _)))), .refl _⟩
 have h1 := of_decide_eq_false h1
 obtain rfl : i = 64 := by omega
 have hfin : padAt kk y 64 = keyPad k y := by
  rw [← hkl, padAt_all, ← hkk, hx]; rfl
 refine Wp.exit ?_
 refine Yg 1 rfl ?_
 refine OWp.gives rfl rfl (Gives.bytesToStr (F := (L, cel (byteCells (padAt kk y 64) ++ g) 5 (cap, cap + 1)) :: S) (l := padAt kk y 64) (k := 64) rfl rfl rfl rfl rfl (by have := Reads.row (S := (L, cel (byteCells (padAt kk y 64) ++ g) 5 (cap, cap + 1)) :: S) (sz := 1) (k := 64) (cap := cap) (.head _) (by rw [List.length_append, byteCells_length, hpl]; omega); rw [Nat.mul_one, List.take_append_of_le_length (by rw [byteCells_length, hpl]; omega), List.take_of_length_le (by rw [byteCells_length, hpl]; omega)] at this; exact this)) (fun _ h => h) ?_
 refine Yz 1 rfl ?_
 refine Wp.dropAt 0 rfl ?_
 refine Wp.ret ⟨trivial, _, ⟨_, _, rfl, rfl, rfl⟩, ?_⟩
 rw [hfin]; exact H
end
end Go.Proofs.D

namespace Go.Proofs.D
open Go.Lg Go.Sha
set_option maxRecDepth 100000

theorem strs_one (l : List (List UInt8)) : (strs l).all (·.oneCell') = true := by
 rw [List.all_eq_true]
 intro v hv
 simp only [strs, List.mem_map] at hv
 obtain ⟨s, _, rfl⟩ := hv
 rfl
theorem keyPad_len (k : List UInt8) (y : UInt8) : (keyPad k y).length = 64 := by
 have : ∀ x : List UInt8, x.length ≤ 64 → ((x ++ List.replicate (64 - x.length) 0).map (· ^^^ y)).length = 64 := fun x h => by
  rw [List.length_map, List.length_append, List.length_replicate]; omega
 unfold keyPad
 refine this _ ?_
 split
 ·rw [sha_len]; decide
 ·omega

section
variable {B : Nat} {S R : Ents} {Q : Value → Ents → Prop}

theorem tagC {key : List UInt8} {v : Value} {n : Nat} {l : List (List UInt8)} (hl : Reads S 1 v n (strs l)) (hn : n ≤ 1099511627776) (hk : KsIn S) (hkl : key.length + 1000 ≤ big) (ht : l.flatten.length + 1000 ≤ big) (H : Q (.string (str (hmac key l.flatten))) S) :
  CallWp Tryz.prog B 65 #[.string (str key), v] Q S := by
 have hb : big = 281474976710656 := rfl
 have hm : maxLen = 9223372036854775807 := rfl
 rw [hb] at hkl ht
 refine Yx (args := [_, _]) Tryz.func65 Tryz.ntmps65 ?_
 refine Yn 1 rfl ?_
 refine Yg 1 rfl ?_
 refine Yc rfl rfl (paddedC (y := 54) hk (by rw [hb]; omega) ?_)
 refine OWp.step rfl (Step.buildSlice rfl rfl rfl ?_); intro L hBL hLL
 refine Ye 1 rfl ?_
 refine OWp.step rfl (Step.append (e := 9) (es := [(L, cel [.string (str (keyPad key 54))] 9)]) (R := S) rfl rfl rfl rfl rfl rfl (by decide) rfl rfl (fun _ h => h) (Own.row hBL rfl (by decide)) (hl.mono fun x hx => .tail _ hx) (strs_one l) (by show (1 + n) * 16 ≤ _; omega) (by rw [hm]; omega) ?_)
 intro v1 es1 ho1 _
 refine Yc rfl rfl (sumC (l := keyPad key 54 :: l) (ho1.reads.mono fun x hx => List.mem_append_left _ hx) (by omega) (KsIn.append hk) (by rw [hb, List.flatten_cons, List.length_append, keyPad_len]; omega) ?_)
 refine OWp.drop (List.sublist_append_right _ _) ?_
 refine Yz 1 rfl ?_
 refine Yg 1 rfl ?_
 refine Yc rfl rfl (paddedC (y := 92) hk (by rw [hb]; omega) ?_)
 refine Ye 1 rfl ?_
 refine OWp.step rfl (Step.buildSlice rfl rfl rfl ?_); intro L2 hBL2 hLL2
 refine Yc rfl rfl (sumC (l := [keyPad key 92, sha (keyPad key 54 :: l).flatten]) (Reads.row (k := 2) (sz := 1) (.head _) (Nat.le_of_ble_eq_true rfl)) (by decide) hk.cons (by rw [hb]; simp [keyPad_len, sha_len]) ?_)
 refine Yz 1 rfl ?_
 refine Wp.dropAt 0 rfl ?_
 refine Wp.ret ⟨trivial, _, ⟨_, _, rfl, rfl, rfl⟩, ?_⟩
 show Q (.string _) S
 simpa [hmac] using H
theorem extractC {salt' secret : List UInt8} (hk : KsIn S) (h1 : salt'.length + 1000 ≤ big) (h2 : secret.length + 1000 ≤ big) (H : Q (.string (str (hmac salt' secret))) S) :
  CallWp Tryz.prog B 34 #[.string (str salt'), .string (str secret)] Q S := by
 refine Yx (args := [_, _]) Tryz.func34 Tryz.ntmps34 ?_
 refine Yn 1 rfl ?_
 refine Yg 2 rfl ?_
 refine OWp.step rfl (Step.buildSlice rfl rfl rfl ?_); intro L hBL hLL
 refine Yc rfl rfl (tagC (l := [secret]) (Reads.row (k := 1) (sz := 1) (.head _) (Nat.le_of_ble_eq_true rfl)) (by decide) hk.cons h1 (by simpa using h2) ?_)
 refine Yz 1 rfl ?_
 refine Wp.dropAt 0 rfl ?_
 refine Wp.ret ⟨trivial, _, ⟨_, _, rfl, rfl, rfl⟩, ?_⟩
 show Q (.string _) S
 simpa using H
theorem expandC {key info : List UInt8} {n : Nat} (hk : KsIn S) (hn : n ≤ 8160) (h1 : key.length + 1000 ≤ big) (h2 : info.length + 2000 ≤ big) (H : Q (.tuple #[.string (str (expand key info n)), .int .i64 0]) S) :
  CallWp Tryz.prog B 33 #[.string (str key), .string (str info), .int .i64 (n : Int)] Q S := by
 have hb : big = 281474976710656 := rfl
 obtain ⟨m, hm⟩ : ∃ m, m = (n + 31) / 32 := ⟨_, rfl⟩
 refine Yx (args := [_, _, _]) Tryz.func33 Tryz.ntmps33 ?_
 refine Yn 2 rfl ?_
 refine Wp.seq ?_
 refine Yg 3 rfl ?_
 refine Dt 13 rfl (by omega) fun cc1 => ?_
 refine Yz 3 rfl ?_
 refine Ct rfl (by omega) fun cc2 => ?_
 refine Wp.skip ?_
 refine Yq ?_
 refine Ya rfl rfl rfl rfl fun L hBL hLL => ?_
 refine OWp.nil ?_
 refine Yn 1 rfl ?_
 refine Wp.seq ?_
 refine Yn 1 rfl ?_
 refine Wp.block ?_
 refine Wp.loopS (α := Nat × List UInt8 × List UInt8 × Ents) (fun z => m - z.1) (fun z => [(0, .string (str key)), (1, .string (str info)), (2, .int .i64 (n : Int)), (8, pt L), (9, .string (str z.2.1)), (10, .int .u8 ((UInt8.ofNat (z.1 + 1)).toNat : Int))]) (fun z => z.2.2.2 ++ S) (fun z => z.1 ≤ m ∧ z.2.1.length ≤ 32 ∧ z.2.2.1.length = 32 * z.1 ∧ z.2.2.1 ++ pieces key info (m - z.1) (z.1 + 1) z.2.1 = pieces key info m 1 [] ∧ Bd B L z.2.2.1 z.2.2.2) (0, [], [], [(L, cel [.pointer none, .slice none 0 0] 169)]) ?_ (.refl _) ⟨by omega, Nat.zero_le _, rfl, rfl, hBL, _, _, [], .inl rfl, rfl, OwnF.nil _ _⟩ ?_
 ·exact .cons rfl (.cons rfl (.cons rfl (.cons rfl (.cons rfl (.cons rfl (.nil _))))))
 rintro ⟨j, last, built, es⟩ ⟨hj, hl, hbl, hp, hbd⟩
 simp only at hj hl hbl hp hbd ⊢
 refine Wp.seq ?_
 refine Yq ?_
 refine Yc rfl rfl (bLenC hbd ?_)
 rw [hbl]
 refine Yz 2 rfl ?_
 refine Wp.cond rfl (fun h5 => ?_) (fun h5 => ?_)
 ·have h5 := of_decide_eq_true h5
  have hjm : j < m := by omega
  refine Wp.skip ?_
  refine Wp.seq ?_
  refine Wp.block ?_
  refine Yg 4 rfl ?_
  refine OWp.step rfl (Step.buildSlice rfl rfl rfl ?_); intro L1 hBL1 hLL1
  refine OWp.gives rfl rfl (Gives.bytesToStr (F := (L1, cel [.int .u8 ((UInt8.ofNat (j + 1)).toNat : Int)] 5) :: (es ++ S)) (l := [UInt8.ofNat (j + 1)]) (k := 1) rfl rfl rfl rfl rfl (Reads.row (k := 1) (sz := 1) (.head _) (Nat.le_of_ble_eq_true rfl))) (fun _ h => h) ?_
  refine OWp.step rfl (Step.buildSlice rfl rfl rfl ?_); intro L2 hBL2 hLL2
  refine Yc rfl rfl (tagC (l := [last, info, [UInt8.ofNat (j + 1)]]) (Reads.row (k := 3) (sz := 1) (.head _) (Nat.le_of_ble_eq_true rfl)) (by decide) (KsIn.append hk).cons.cons h1 (by rw [hb] at h2 ⊢; simp; omega) ?_)
  refine OWp.drop (List.Sublist.cons _ (List.sublist_cons_self _ _)) ?_
  refine Yz 1 rfl ?_
  refine Wp.region ?_
  refine Ye 1 rfl ?_
  refine Yc rfl rfl (bWriteC hbd (by rw [hbl, hmac_len]; omega) ?_)
  intro es2 hbd2
  refine OWp.nil ?_
  refine Wp.region ?_
  refine Yz 3 rfl ?_
  have ht : [last, info, [UInt8.ofNat (j + 1)]].flatten = last ++ info ++ [UInt8.ofNat (j + 1)] := by simp
  rw [ht] at hbd2 ⊢
  obtain ⟨q, hq⟩ : ∃ q, m - j = q + 1 := ⟨m - j - 1, by omega⟩
  rw [hq, pieces] at hp
  have hu : IntKind.u8.wrap (((UInt8.ofNat (j + 1)).toNat : Int) + 1) = ((UInt8.ofNat (j + 1 + 1)).toNat : Int) := by
   rw [IntKind.wrap_u8, UInt8.toNat_ofNat', UInt8.toNat_ofNat']; omega
  refine ⟨(j + 1, hmac key (last ++ info ++ [UInt8.ofNat (j + 1)]), built ++ hmac key (last ++ info ++ [UInt8.ofNat (j + 1)]), es2), by simp only; omega, ⟨by simp only; omega, by simp only [hmac_len]; omega, by simp only [List.length_append, hmac_len, hbl]; omega, ?_, hbd2⟩, .cons rfl (.cons rfl (.cons rfl (.cons rfl (.cons rfl (.cons' rfl (int_eq hu) (.nil _)))))), .refl _⟩
  simp only
  rw [show m - (j + 1) = q by omega, List.append_assoc]
  exact hp
 have h5 := of_decide_eq_false h5
 obtain rfl : j = m := by omega
 rw [Nat.sub_self, pieces, List.append_nil] at hp
 refine Wp.exit ?_
 refine Yq ?_
 refine Yc rfl rfl (bStringC hbd ?_)
 intro es2 hbd2
 refine Ye 1 rfl ?_
 refine OWp.g rfl rfl (Gives.sliceStr (l := 0) (h' := n) rfl rfl rfl rfl ⟨_, _, rfl, rfl⟩ (by omega) (by rw [hbl]; omega)) ?_
 refine Yz 2 rfl ?_
 refine Wp.drop (List.sublist_append_right _ _) ?_
 refine Wp.ret ⟨trivial, _, ⟨_, _, rfl, rfl, _, _, rfl, rfl, rfl⟩, ?_⟩
 show Q (.tuple #[.string _, _]) S
 rw [hp, hm]; exact H
theorem deriveC {secret label : List UInt8} {n : Nat} (hk : KsIn S) (hn : n ≤ 8160) (h1 : secret.length + 1000 ≤ big) (h2 : label.length + 2000 ≤ big) (H : Q (.tuple #[.string (str (derive secret label n)), .int .i64 0]) S) :
  CallWp Tryz.prog B 22 #[.string (str secret), .string (str label), .int .i64 (n : Int)] Q S := by
 have hb : big = 281474976710656 := rfl
 refine Yx (args := [_, _, _]) Tryz.func22 Tryz.ntmps22 ?_
 refine Yn 2 rfl ?_
 refine Yg 1 rfl ?_
 refine Yc rfl rfl (extractC (salt' := salt) hk (by rw [hb]; decide) h1 ?_)
 refine Ye 2 rfl ?_
 refine Yc rfl rfl (expandC hk hn (by rw [hmac_len, hb]; decide) h2 ?_)
 refine Yz 4 rfl ?_
 refine Wp.ret ⟨trivial, _, ⟨_, _, rfl, rfl, _, _, rfl, rfl, rfl⟩, ?_⟩
 exact H
end
end Go.Proofs.D

/- A log: numbers as bytes, heads, records. -/
namespace Go.Proofs.D
open Go.Lg Go.Sha Go.Hd Go.Cv Go.Mx
set_option maxRecDepth 100000
theorem KsIn_of {S S' : Ents} (h : KsIn S) (hs : ∀ x ∈ S, x ∈ S') : KsIn S' := by
 obtain ⟨l, e, f, h1, h2⟩ := h
 exact ⟨l, e, f, hs _ h1, h2⟩
theorem u8c (k : Int) (n : Nat) (h : k = (n : Int)) : IntKind.u8.wrap k = ((UInt8.ofNat n).toNat : Int) := by
 subst h
 rw [IntKind.wrap_u8]
 simp [UInt8.toNat_ofNat']
theorem u8shr (n d : Nat) (e : Nat) (hd : 2 ^ e = d) : IntKind.u8.wrap (((n : Nat) : Int).fdiv ((2 : Int) ^ e)) = ((UInt8.ofNat (n / d)).toNat : Int) := by
 have h1 : ((2 : Int) ^ e) = ((d : Nat) : Int) := by rw [← hd]; simp
 rw [h1, Int.fdiv_eq_ediv_of_nonneg _ (Int.natCast_nonneg _)]
 exact u8c _ _ (by simp)
/-- The number that the first bytes make. -/
def sq (seq i : Nat) : Nat := seq / 2 ^ (8 * (4 - i))
theorem or256 {a b : Nat} (h : b < 256) : (a * 256) ||| b = a * 256 + b := by
 have := Nat.two_pow_add_eq_or_of_lt (i := 8) (b := b) (by simpa using h) a
 rw [Nat.mul_comm a 256]
 exact this.symm
theorem sq_or {q a : Nat} (hq : q ≤ 2147483647) (ha : a = q / 256) : bits .or .i64 (IntKind.i64.wrap ((a : Int) * 2 ^ (min 8 IntKind.i64.bits))) (IntKind.i64.wrap ((UInt8.ofNat q).toNat : Int)) = (q : Int) := by
 subst ha
 have e1 : IntKind.i64.wrap (((q / 256 : Nat) : Int) * 2 ^ (min 8 IntKind.i64.bits)) = ((q / 256 * 256 : Nat) : Int) := by
  rw [show (2 : Int) ^ (min 8 IntKind.i64.bits) = 256 from rfl, i64_id] <;> omega
 have e2 : IntKind.i64.wrap ((UInt8.ofNat q).toNat : Int) = ((q % 256 : Nat) : Int) := by
  rw [UInt8.toNat_ofNat', i64_id] <;> omega
 rw [e1, e2, i63_or (by omega) (by omega), or256 (by omega)]
 omega
theorem sq_div {seq i : Nat} (hi : i < 4) : sq seq i = sq seq (i + 1) / 256 := by
 unfold sq
 rw [show 8 * (4 - i) = 8 * (4 - (i + 1)) + 8 by omega, Nat.pow_add, Nat.div_div_eq_div_mul]
theorem sq_le {seq i : Nat} : sq seq i ≤ seq := Nat.div_le_self _ _
theorem sq_zero {seq : Nat} (h : seq ≤ 2147483647) : sq seq 0 = 0 := by
 unfold sq
 exact Nat.div_eq_of_lt (by omega)
theorem sq_four {seq : Nat} : sq seq 4 = seq := by simp [sq]
def seqB (seq : Nat) : List UInt8 := [UInt8.ofNat (seq / 16777216), UInt8.ofNat (seq / 65536), UInt8.ofNat (seq / 256), UInt8.ofNat seq]
theorem seqB_get {seq i : Nat} (hi : i < 4) : (seqB seq)[i]? = some (UInt8.ofNat (sq seq (i + 1))) := by
 match i, hi with
 | 0, _ => rfl
 | 1, _ => rfl
 | 2, _ => rfl
 | 3, _ => simp [seqB, sq]
theorem seqB_cell {seq i : Nat} (hi : i < 4) (g : List Value) : (byteCells (seqB seq) ++ g)[0 + i * 1]? = some (.int .u8 ((UInt8.ofNat (sq seq (i + 1))).toNat : Int)) := by
 rw [show 0 + i * 1 = i by omega, List.getElem?_append_left (by simp [byteCells, seqB]; omega), byteCells, List.getElem?_map, seqB_get hi]
 rfl
theorem be4Reads {L : Nat} {S : Ents} {seq : Nat} (hm : (L, cel [.int .u8 (IntKind.u8.wrap ((seq : Int).fdiv (2 ^ (min 24 IntKind.i64.bits)))), .int .u8 (IntKind.u8.wrap ((seq : Int).fdiv (2 ^ (min 16 IntKind.i64.bits)))), .int .u8 (IntKind.u8.wrap ((seq : Int).fdiv (2 ^ (min 8 IntKind.i64.bits)))), .int .u8 (IntKind.u8.wrap (seq : Int))] 5) ∈ S) : Reads S 1 (.slice (some ⟨L, 0, none⟩) 4 4) 4 (byteCells (be4B seq)) := by
 rw [u8c (seq : Int) seq rfl, show min 24 IntKind.i64.bits = 24 from rfl, show min 16 IntKind.i64.bits = 16 from rfl, show min 8 IntKind.i64.bits = 8 from rfl, u8shr seq 16777216 24 (by decide), u8shr seq 65536 16 (by decide), u8shr seq 256 8 (by decide)] at hm
 exact Reads.row (k := 4) (sz := 1) (l := byteCells (be4B seq)) hm (Nat.le_refl 4)
theorem longReads {L : Nat} {S : Ents} {n : Nat} (hm : (L, cel [.int .u8 (IntKind.u8.wrap ((n : Int).fdiv (2 ^ (min 8 IntKind.i64.bits)))), .int .u8 (IntKind.u8.wrap (n : Int))] 5) ∈ S) : Reads S 1 (.slice (some ⟨L, 0, none⟩) 2 2) 2 (byteCells (longB n)) := by
 rw [u8c (n : Int) n rfl, show min 8 IntKind.i64.bits = 8 from rfl, u8shr n 256 8 (by decide)] at hm
 exact Reads.row (k := 2) (sz := 1) (l := byteCells (longB n)) hm (Nat.le_refl 2)
theorem padN_lt (n : Nat) : padN n < 64 := Nat.mod_lt _ (by decide)
theorem pad_eq {n : Nat} (_h : n ≤ 2147483648) : (IntKind.i64.wrap (64 - (n : Int).tmod 64)).tmod 64 = ((padN n : Nat) : Int) := by
 have h1 : (n : Int).tmod 64 = ((n % 64 : Nat) : Int) := by rw [Int.tmod_eq_emod_of_nonneg (by omega)]; simp
 have h2 : n % 64 < 64 := Nat.mod_lt _ (by decide)
 rw [h1, i64_id (by omega) (by omega), Int.tmod_eq_emod_of_nonneg (by omega)]
 unfold padN
 omega
section
variable {B : Nat} {S R : Ents} {Q : Value → Ents → Prop}
theorem shortC {v : Value} {n : Nat} {l : List (List UInt8)} {m : Nat} (hl : Reads S 1 v n (strs l)) (hn : n ≤ 140737488355328) (hk : KsIn S) (ht : l.flatten.length + 100 ≤ big) (h1 : 1 ≤ m) (h2 : m ≤ 32) (H : Q (.tuple #[.string (str ((sha l.flatten).take m)), .int .i64 0]) S) :
  CallWp Tryz.prog B 152 #[.int .i64 (m : Int), v] Q S := by
 refine Yx (args := [_, _]) Tryz.func152 Tryz.ntmps152 ?_
 refine Yn 2 rfl ?_
 refine Wp.seq ?_
 refine Yg 3 rfl ?_
 refine Dt 8 rfl (by omega) fun cc1 => ?_
 refine Yz 3 rfl ?_
 refine Ct rfl (by omega) fun cc2 => ?_
 refine Wp.skip ?_
 refine Yg 1 rfl ?_
 refine Yc rfl rfl (sumC hl hn hk ht ?_)
 refine Ye 1 rfl ?_
 refine OWp.g rfl rfl (Gives.sliceStr (l := 0) (h' := m) rfl rfl rfl rfl ⟨_, _, rfl, rfl⟩ (by omega) (by rw [sha_len]; omega)) ?_
 refine Yz 2 rfl ?_
 refine Wp.ret ⟨trivial, _, ⟨_, _, rfl, rfl, _, _, rfl, rfl, rfl⟩, ?_⟩
 exact H
theorem cloneStrC {v : Value} {k : Nat} {xs : List Value} (hl : Reads S 1 v k xs) (h1 : xs.all (·.oneCell') = true) (hk : k * 16 ≤ 140737488355328)
    (H : ∀ v' es', Lg.Own B 9 1 v' k xs es' → Q v' (es' ++ S)) : CallWp Tryz.prog B 103 #[v] Q S := by
  obtain ⟨aa, ac, rfl⟩ := hl.form
  refine Yx (args := [_]) Tryz.func103 Tryz.ntmps103 ?_
  refine Yn 1 rfl ?_
  refine Wp.seq ?_
  refine Yn 2 rfl ?_
  refine Wp.cond rfl (fun h0 => ?_) (fun h0 => ?_)
  · skip
    obtain rfl : aa = none := by simpa using h0
    obtain rfl : k = 0 := by obtain ⟨_, ⟨_, h⟩ | ⟨_, _, _, _, _, _, h, _⟩⟩ := hl
                             · exact h
                             · cases h
    obtain rfl : xs = [] := List.eq_nil_of_length_eq_zero (by have := hl.1; omega)
    refine Yn 1 rfl ?_
    refine Wp.ret ⟨trivial, _, ⟨_, _, rfl, rfl, rfl⟩, ?_⟩
    exact H _ [] (Own.nil _ _ _)
  refine Wp.skip ?_
  refine Yq ?_
  refine OWp.step rfl (Step.buildSlice rfl rfl rfl ?_); intro L hBL hLL
  refine Ye 1 rfl ?_
  refine OWp.step rfl (Step.append (e := 9) (es := [(L, cel [] 9)]) (R := S) rfl rfl rfl rfl rfl rfl (by decide) rfl rfl (fun _ h => h) (Own.row hBL rfl (by decide)) (hl.mono fun x hx => .tail _ hx) h1 (by show (0 + k) * 16 ≤ _; omega) (by unfold maxLen; omega) ?_)
  intro v' es' ho _
  refine Yz 1 rfl ?_
  refine Wp.ret ⟨trivial, _, ⟨_, _, rfl, rfl, rfl⟩, ?_⟩
  rw [Nat.zero_add] at ho; exact H v' es' ho
theorem indexStrC {v : Value} {l : List (List UInt8)} {s : List UInt8} (hl : Reads S 1 v l.length (strs l)) (hm : l.length ≤ 140737488355328) (h0 : s ∉ l → Q (.int .i64 (-1)) S) (h1 : ∀ i : Nat, s ∈ l → Q (.int .i64 (i : Int)) S) :
  CallWp Tryz.prog B 175 #[v, .string (str s)] Q S := by
 obtain ⟨aa, ac, rfl⟩ := hl.form
 refine Yx (args := [_, _]) Tryz.func175 Tryz.ntmps175 ?_
 refine Yn 1 rfl ?_
 refine Wp.seq ?_
 refine Yn 3 rfl ?_
 refine Wp.block ?_
 refine Wp.loopS (α := Nat) (fun i => l.length - i) (fun i => [(8, .int .i64 (i : Int)), (7, .int .i64 (l.length : Int)), (0, .slice aa l.length ac), (1, .string (str s))]) (fun _ => S) (fun i => i ≤ l.length ∧ s ∉ l.take i) 0 ?_ (.refl _) ⟨Nat.zero_le _, by simp⟩ ?_
 ·exact .cons rfl (.cons rfl (.cons rfl (.cons rfl (.nil _))))
 rintro i ⟨hi, hn⟩
 refine Yn 1 rfl ?_
 refine Wp.seq ?_
 refine Wp.cond rfl (fun c1 => ?_) (fun c1 => ?_)
 ·have c1 := of_decide_eq_true c1
  have hlt : i < l.length := by omega
  obtain ⟨b, o, cap', l', e, fz, hv, hm', _, hg'⟩ := hl.get1 (by omega)
  cases hv
  have x1 : l[i]? = some l[i] := by simp
  refine Wp.skip ?_
  refine Wp.seq ?_
  refine Wp.block ?_
  refine Yn 2 rfl ?_
  refine Yg 3 rfl ?_
  refine OWp.g rfl rfl (Gives.indexAddrSlice (i) rfl rfl rfl rfl rfl rfl (by omega)) ?_
  refine OWp.load hm' rfl rfl rfl rfl ((hg' i hlt).trans (by rw [strs, List.getElem?_map, x1]; rfl)) ?_
  refine Yz 1 rfl ?_
  refine Wp.cond rfl (fun c2 => ?_) (fun c2 => ?_)
  ·skip
   have he : s = l[i] := of_decide_eq_true c2
   refine Yn 2 rfl ?_
   refine Wp.ret ⟨trivial, _, ⟨_, _, rfl, rfl, rfl⟩, ?_⟩
   exact h1 i (by rw [he]; exact List.getElem_mem hlt)
  have he : s ≠ l[i] := of_decide_eq_false c2
  refine Wp.skip ?_
  refine Wp.region ?_
  refine Yz 2 rfl ?_
  exact ⟨i + 1, by omega, ⟨by omega, by rw [List.take_succ_eq_append_getElem hlt, List.mem_append, List.mem_singleton]; exact fun h => h.elim hn he⟩, .cons' rfl (int_eq (i64_inc (by omega))) (.cons rfl (.cons rfl (.cons rfl (.nil _)))), .refl _⟩
 have c1 := of_decide_eq_false c1
 refine Wp.exit ?_
 refine Yn 1 rfl ?_
 refine Wp.ret ⟨trivial, _, ⟨_, _, rfl, rfl, rfl⟩, ?_⟩
 obtain rfl : i = l.length := by omega
 rw [List.take_length] at hn
 exact h0 hn
theorem containsStrC {v : Value} {l : List (List UInt8)} {s : List UInt8} (hl : Reads S 1 v l.length (strs l)) (hm : l.length ≤ 140737488355328) (H : Q (.bool (decide (s ∈ l))) S) :
  CallWp Tryz.prog B 125 #[v, .string (str s)] Q S := by
 refine Yx (args := [_, _]) Tryz.func125 Tryz.ntmps125 ?_
 refine Yn 1 rfl ?_
 refine Yg 2 rfl ?_
 refine Yc rfl rfl (indexStrC hl hm ?_ ?_)
 intro h
 ·skip
  rw [decide_eq_false h] at H
  refine Yz 2 rfl ?_
  refine Wp.ret ⟨trivial, _, ⟨_, _, rfl, rfl, rfl⟩, ?_⟩
  exact H
 intro i h
 refine Yz 2 rfl ?_
 refine Wp.ret ⟨trivial, _, ⟨_, _, rfl, rfl, rfl⟩, ?_⟩
 rw [decide_eq_true h] at H
 rw [decide_eq_true (show (0 : Int) ≤ (i : Int) by omega)]
 exact H
theorem lpadC {s : List UInt8} (hs : s.length ≤ 2147483648) (H : Q (.string (str (s ++ zer (padN s.length)))) S) : CallWp Tryz.prog B 153 #[.string (str s)] Q S := by
 refine Yx (args := [_]) Tryz.func153 Tryz.ntmps153 ?_
 refine Yn 1 rfl ?_
 refine Yg 6 rfl ?_
 refine Yc rfl rfl (zerosEqC (n := padN s.length) (by rw [show Int.ofNat (63 + 1) = 64 from rfl]; exact pad_eq hs) (by have := padN_lt s.length; omega) ?_)
 refine OWp.g rfl rfl (Gives.addStr rfl rfl rfl (by rw [List.length_replicate]; have := padN_lt s.length; omega)) ?_
 refine Yz 1 rfl ?_
 refine Wp.ret ⟨trivial, _, ⟨_, _, rfl, rfl, rfl⟩, ?_⟩
 exact H
theorem begunC {n : Nat} (hk : KsIn S) (H : Q (.tuple #[.string (str (headB n)), .string (str (markN n))]) S) : CallWp Tryz.prog B 101 #[.int .i64 (n : Int)] Q S := by
 refine CallWp.dropRet ?_
 refine Yx (args := [_]) Tryz.func101 Tryz.ntmps101 ?_
 refine Yn 2 rfl ?_
 refine Yg 11 rfl ?_
 refine OWp.step rfl (Step.buildSlice rfl rfl rfl ?_); intro L16 hBL16 hLL16
 refine OWp.gives rfl rfl (Gives.bytesToStr (F := _) (l := be4B n) (k := 4) rfl rfl rfl rfl rfl (be4Reads (.head _))) (fun _ h => h) ?_
 refine OWp.g rfl rfl (Gives.addStr rfl rfl rfl (by show 4 + 4 ≤ 9223372036854775807; decide)) ?_
 refine Yz 1 rfl ?_
 refine Yg 1 rfl ?_
 refine OWp.step rfl (Step.buildSlice rfl rfl rfl ?_); intro L21 hBL21 hLL21
 refine Yc rfl rfl (shortC (l := [headN n]) (m := 16) (Reads.row (k := 1) (sz := 1) (.head _) (Nat.le_of_ble_eq_true rfl)) (by decide) hk.cons.cons (by simp [headN, be4B, big]) (by decide) (by decide) ?_)
 rw [show ([headN n] : List (List UInt8)).flatten = headN n by simp]
 refine Yz 4 rfl ?_
 refine Yg 2 rfl ?_
 refine OWp.g rfl rfl (Gives.addStr rfl rfl rfl (by rw [take16]; show 8 + 16 ≤ 9223372036854775807; decide)) ?_
 refine Yc rfl rfl (lpadC (s := headN n ++ markN n) (by rw [List.length_append]; unfold markN; rw [take16]; show 8 + 16 ≤ 2147483648; decide) ?_)
 refine Yz 3 rfl ?_
 refine Wp.ret ⟨trivial, _, ⟨_, _, rfl, rfl, _, _, rfl, rfl, rfl⟩, ?_⟩
 refine ⟨S, subl, ?_⟩
 have e : (headN n ++ markN n) ++ zer (padN (headN n ++ markN n).length) = headB n := by
  have hl : (headN n ++ markN n).length = 24 := by rw [List.length_append]; unfold markN; rw [take16]; rfl
  rw [hl, List.append_assoc]
  rfl
 rw [e]
 exact H
end
end Go.Proofs.D

/- A log: a half is read, written, cleaned; records. -/
namespace Go.Proofs.D
open Go.Lg Go.Sha Go.Hd Go.Cv Go.Mx
set_option maxRecDepth 100000
def hfc (pd frm size : Nat) : List Value := [pt pd, .int .i64 (frm : Int), .int .i64 (size : Int)]
section
variable {B : Nat} {S R : Ents} {Q : Value → Ents → Prop} {pd pr total n frm size : Nat} {D : List UInt8} {W : Ents}
theorem dreadE {z : Int} {at_ : Nat} (hz : z = (at_ : Int)) (h : DkIn B pd pr total D n W) (hs : ∀ x ∈ W, x ∈ S) (ha : at_ < total) (H : Q (.tuple #[.string (str (secU D at_)), .int .i64 0]) S) : CallWp Tryz.prog B 146 #[pt pd, .int .i64 z] Q S := by
 subst hz; exact dreadC h hs ha H
theorem dwriteE {z : Int} {at_ : Nat} {text : List UInt8} (hz : z = (at_ : Int)) (h : DkIn B pd pr total D n W) (ha : at_ < total) (ht : text.length = 64) (hn : n ≤ 1048576)
  (H : ∀ W', DkIn B pd pr total (wrU D (64 * at_) text) (n + 1) W' → Q (.int .i64 0) (W' ++ S)) : CallWp Tryz.prog B 197 #[pt pd, .int .i64 z, .string (str text)] Q (W ++ S) := by
 subst hz; exact dwriteC h ha ht hn H
theorem lreadC {at_ : Nat} (h : DkIn B pd pr total D n W) (hs : ∀ x ∈ W, x ∈ S) (ha : frm + at_ < total) (H : Q (.tuple #[.string (str (secU D (frm + at_))), .int .i64 0]) S) : CallWp Tryz.prog B 98 #[.agg (hfc pd frm size).toArray, .int .i64 (at_ : Int)] Q S := by
 have ht := h.2.2.2.1
 refine CallWp.dropRet ?_
 refine Yx (args := [_, _]) Tryz.func98 Tryz.ntmps98 ?_
 refine Yq ?_
 refine Yb rfl rfl rfl rfl fun L2 hBL2 hLL2 => ?_
 refine Yz 2 rfl ?_
 refine Yg 1 rfl ?_
 refine Yl m0 ?_
 refine Ye 1 rfl ?_
 refine Yl m0 ?_
 refine Ye 2 rfl ?_
 refine Yc rfl rfl (dreadE (at_ := frm + at_) (by rw [i64_id] <;> omega) h (fun x hx => .tail _ (hs x hx)) ha ?_)
 refine Yz 4 rfl ?_
 refine Wp.ret ⟨trivial, _, ⟨_, _, rfl, rfl, _, _, rfl, rfl, rfl⟩, ?_⟩
 exact ⟨S, subl, H⟩
theorem lwriteC {z : Int} {at_ : Nat} {text : List UInt8} (hz : z = (at_ : Int)) (h : DkIn B pd pr total D n W) (ha : frm + at_ < total) (ht : text.length = 64) (hn : n ≤ 1048576)
  (H : ∀ W', DkIn B pd pr total (wrU D (64 * (frm + at_)) text) (n + 1) W' → Q (.int .i64 0) (W' ++ S)) : CallWp Tryz.prog B 151 #[.agg (hfc pd frm size).toArray, .int .i64 z, .string (str text)] Q (W ++ S) := by
 have ht2 := h.2.2.2.1
 subst hz
 refine CallWp.dropRet ?_
 refine Yx (args := [_, _, _]) Tryz.func151 Tryz.ntmps151 ?_
 refine Yq ?_
 refine Yb rfl rfl rfl rfl fun L3 hBL3 hLL3 => ?_
 refine Yz 1 rfl ?_
 refine Yg 1 rfl ?_
 refine Yl m0 ?_
 refine Ye 1 rfl ?_
 refine Yl m0 ?_
 refine Ye 3 rfl ?_
 refine Yc rfl rfl (CallWp.permS (permBy [[(L3, cel (hfc pd frm size) 201)], W] S [0, 1] [1, 0] (by decide)) (dwriteE (at_ := frm + at_) (by rw [i64_id] <;> omega) h ha ht hn ?_))
 intro W' h'
 refine Yz 1 rfl ?_
 refine Wp.ret ⟨trivial, _, ⟨_, _, rfl, rfl, rfl⟩, ?_⟩
 exact ⟨W' ++ S, (List.Sublist.refl W').append (List.sublist_cons_self _ _), H W' h'⟩
theorem lcleanC {fr : Nat} (h : DkIn B pd pr total D n W) (hs : ∀ x ∈ W, x ∈ S) (ha : frm + size ≤ total) (hz : ∀ i, fr ≤ i → i < size → secU D (frm + i) = zer 64) (H : Q (.int .i64 0) S) : CallWp Tryz.prog B 147 #[.agg (hfc pd frm size).toArray, .int .i64 (fr : Int)] Q S := by
 have ht2 := h.2.2.2.1
 refine CallWp.dropRet ?_
 refine Yx (args := [_, _]) Tryz.func147 Tryz.ntmps147 ?_
 refine Yq ?_
 refine Yb rfl rfl rfl rfl fun L2 hBL2 hLL2 => ?_
 refine Yz 1 rfl ?_
 refine Yq ?_
 refine Yc rfl rfl (zerosEqC (n := 64) rfl (by decide) ?_)
 refine Yz 1 rfl ?_
 refine Yn 1 rfl ?_
 refine Wp.seq ?_
 refine Yn 2 rfl ?_
 refine Wp.block ?_
 refine Wp.loopS (α := Nat) (fun i => size - i) (fun i => [(2, pt L2), (5, .string (str (zer 64))), (6, .bool false), (7, .int .i64 (i : Int))]) (fun _ => (L2, cel (hfc pd frm size) 201) :: S) (fun i => fr ≤ i) fr ?_ (.refl _) (Nat.le_refl _) ?_
 ·exact .cons rfl (.cons rfl (.cons rfl (.cons rfl (.nil _))))
 intro i hi
 refine Wp.seq ?_
 refine Yg 2 rfl ?_
 refine Yl m0 ?_
 refine Yz 1 rfl ?_
 refine Wp.cond rfl (fun c1 => ?_) (fun c1 => ?_)
 ·have c1 := of_decide_eq_true c1
  refine Wp.skip ?_
  refine Wp.seq ?_
  refine Wp.block ?_
  refine Yq ?_
  refine Yl m0 ?_
  refine Ye 1 rfl ?_
  refine Yc rfl rfl (lreadC (frm := frm) (size := size) (at_ := i) h (fun x hx => .tail _ (hs x hx)) (by omega) ?_)
  refine Yz 5 rfl ?_
  refine Wp.seq ?_
  refine Yg 3 rfl ?_
  refine Yz 4 rfl ?_
  refine Cu rfl (by exact fun h => h (hz i hi (by omega))) fun cc1 => ?_
  refine Wp.skip ?_
  refine Yn 2 rfl ?_
  refine Cu rfl (by exact fun h => h rfl) fun cc2 => ?_
  refine Wp.skip ?_
  refine Wp.region ?_
  refine Yz 3 rfl ?_
  exact ⟨i + 1, by omega, by omega, .cons rfl (.cons rfl (.cons rfl (.cons' rfl (int_eq (i64_inc (by omega))) (.nil _)))), .refl _⟩
 have c1 := of_decide_eq_false c1
 refine Wp.exit ?_
 refine Wp.seq ?_
 refine Yn 1 rfl ?_
 refine Cn rfl ?_
 refine Wp.skip ?_
 refine Yn 1 rfl ?_
 refine Wp.ret ⟨trivial, _, ⟨_, _, rfl, rfl, rfl⟩, ?_⟩
 exact ⟨S, subl, H⟩
theorem recordC {mark text : List UInt8} (hk : KsIn S) (hm : mark.length = 16) (ht : text.length ≤ 2000) (H : Q (.tuple #[.string (str (recB mark text)), .string (str (ownM mark text))]) S) : CallWp Tryz.prog B 154 #[.string (str mark), .string (str text)] Q S := by
 refine CallWp.dropRet ?_
 refine Yx (args := [_, _]) Tryz.func154 Tryz.ntmps154 ?_
 refine Yn 2 rfl ?_
 refine Yg 7 rfl ?_
 refine OWp.step rfl (Step.buildSlice rfl rfl rfl ?_); intro L14 hBL14 hLL14
 refine OWp.gives rfl rfl (Gives.bytesToStr (F := _) (l := longB text.length) (k := 2) rfl rfl rfl rfl rfl (longReads (.head _))) (fun _ h => h) ?_
 refine Yz 1 rfl ?_
 refine Yg 3 rfl ?_
 refine OWp.step rfl (Step.buildSlice rfl rfl rfl ?_); intro L20 hBL20 hLL20
 refine Yc rfl rfl (shortC (l := [mark, longB text.length, text]) (m := 16) (Reads.row (k := 3) (sz := 1) (.head _) (Nat.le_of_ble_eq_true rfl)) (by decide) hk.cons.cons (by simp [longB, hm, big]; omega) (by decide) (by decide) ?_)
 rw [show ([mark, longB text.length, text] : List (List UInt8)).flatten = mark ++ (longB text.length ++ text) by simp]
 obtain ⟨own, hown⟩ : ∃ x, x = ownM mark text := ⟨_, rfl⟩
 have ho : own.length = 16 := by rw [hown]; exact take16 _
 rw [show (sha (mark ++ (longB text.length ++ text))).take 16 = own from hown.symm]
 refine Yz 4 rfl ?_
 refine Yg 2 rfl ?_
 refine OWp.g rfl rfl (Gives.addStr rfl rfl rfl (by rw [ho]; show 2 + 16 ≤ 9223372036854775807; decide)) ?_
 refine Ye 1 rfl ?_
 refine OWp.g rfl rfl (Gives.addStr rfl rfl rfl (by rw [List.length_append, ho]; show 2 + 16 + _ ≤ 9223372036854775807; omega)) ?_
 have hl : (longB text.length ++ own ++ text).length = 18 + text.length := by rw [List.length_append, List.length_append, ho]; rfl
 refine Yc rfl rfl (lpadC (s := longB text.length ++ own ++ text) (by rw [hl]; omega) ?_)
 rw [show longB text.length ++ own ++ text ++ zer (padN (longB text.length ++ own ++ text).length) = recB mark text by rw [hl, hown]; unfold recB; simp only [List.append_assoc]]
 refine Yz 3 rfl ?_
 refine Wp.ret ⟨trivial, _, ⟨_, _, rfl, rfl, _, _, rfl, rfl, rfl⟩, ?_⟩
 exact ⟨S, subl, hown ▸ H⟩
end
end Go.Proofs.D

/- A log: a head is known, records are put. -/
namespace Go.Proofs.D
open Go.Lg Go.Sha Go.Hd Go.Cv Go.Mx
set_option maxRecDepth 100000
section
variable {B : Nat} {S R : Ents} {Q : Value → Ents → Prop} {pd pr total n frm size : Nat} {D : List UInt8} {W : Ents}
theorem genC {s : List UInt8} {g : Nat} (hk : KsIn S) (hl : s.length = 64) (hb : (s.drop 4).take 4 = be4B g) (hg : g ≤ 2147483647) (hs : g = 0 ∨ s = headB g) (H : Q (.int .i64 (g : Int)) S) : CallWp Tryz.prog B 99 #[.string (str s)] Q S := by
 refine CallWp.dropRet ?_
 refine Yx (args := [_]) Tryz.func99 Tryz.ntmps99 ?_
 refine Yn 1 rfl ?_
 refine Yn 1 rfl ?_
 refine Wp.seq ?_
 refine Yg 1 rfl ?_
 refine OWp.g rfl rfl (Gives.sliceStr (l := 4) (h' := 8) rfl rfl rfl ⟨_, _, rfl, rfl⟩ ⟨_, _, rfl, rfl⟩ (by omega) (by omega)) ?_
 rw [show (s.drop 4).take (8 - 4) = be4B g from hb]
 refine OWp.step rfl (Step.strToBytes rfl rfl rfl rfl rfl rfl ?_); intro L10 g10 cap10 hBL10 hLL10 hcL10
 refine Yz 2 rfl ?_
 refine Wp.block ?_
 refine Wp.loopS (α := Nat) (fun i => 4 - i) (fun i => [(0, .string (str s)), (3, .int .i64 (sq g i : Nat)), (10, .slice (some ⟨L10, 0, none⟩) 4 cap10), (11, .int .i64 4), (12, .int .i64 (i : Int))]) (fun _ => (L10, cel (byteCells (be4B g) ++ g10) 5 (cap10, cap10 + 1)) :: S) (fun i => i ≤ 4) 0 ?_ (.refl _) (Nat.zero_le _) ?_
 ·exact .cons rfl (.cons' rfl (by rw [sq_zero hg]; rfl) (.cons rfl (.cons rfl (.cons rfl (.nil _)))))
 rintro i hi
 refine Yn 1 rfl ?_
 refine Wp.seq ?_
 refine Wp.cond rfl (fun c1 => ?_) (fun c1 => ?_)
 ·have c1 := of_decide_eq_true c1
  have hlt : i < 4 := by omega
  refine Wp.skip ?_
  refine Wp.seq ?_
  refine Wp.block ?_
  refine Yq ?_
  refine OWp.g rfl rfl (Gives.indexAddrSlice (i) rfl rfl rfl rfl rfl rfl (by omega)) ?_
  refine OWp.load (.head _) rfl rfl rfl rfl (seqB_cell hlt g10) ?_
  refine Yz 1 rfl ?_
  refine Wp.region ?_
  refine Yz 6 rfl ?_
  refine Wp.region ?_
  refine Yz 2 rfl ?_
  exact ⟨i + 1, by omega, by omega, .cons rfl (.cons' rfl (int_eq (sq_or (Nat.le_trans sq_le hg) (sq_div hlt))) (.cons rfl (.cons rfl (.cons' rfl (int_eq (i64_inc (by omega))) (.nil _))))), .refl _⟩
 have c1 := of_decide_eq_false c1
 obtain rfl : i = 4 := by omega
 rw [sq_four]
 refine Wp.exit ?_
 refine Wp.seq ?_
 refine Yg 1 rfl ?_
 refine Yc rfl rfl (begunC hk.cons ?_)
 rcases hs with rfl | hs
 ·skip
  refine Yz 5 rfl ?_
  refine Yg 3 rfl ?_
  refine Dv 29 rfl (by decide) fun cc1 => ?_
  refine Yz 8 rfl ?_
  refine Cy rfl ?_
  refine Yn 1 rfl ?_
  refine Wp.ret ⟨trivial, _, ⟨_, _, rfl, rfl, rfl⟩, ?_⟩
  exact ⟨S, subl, H⟩
 by_cases h0 : g = 0
 ·skip
  subst h0
  refine Yz 5 rfl ?_
  refine Yg 3 rfl ?_
  refine Dv 29 rfl (by decide) fun cc2 => ?_
  refine Yz 8 rfl ?_
  refine Cy rfl ?_
  refine Yn 1 rfl ?_
  refine Wp.ret ⟨trivial, _, ⟨_, _, rfl, rfl, rfl⟩, ?_⟩
  exact ⟨S, subl, H⟩
 refine Yz 5 rfl ?_
 refine Yg 3 rfl ?_
 refine Dt 29 rfl (by omega) fun cc3 => ?_
 refine Ye 4 rfl ?_
 refine Dt 33 rfl (by omega) fun cc4 => ?_
 refine Yz 4 rfl ?_
 refine Cu rfl (by exact fun h => h hs) fun cc5 => ?_
 refine Wp.skip ?_
 refine Yn 2 rfl ?_
 refine Wp.ret ⟨trivial, _, ⟨_, _, rfl, rfl, rfl⟩, ?_⟩
 exact ⟨S, subl, H⟩
/-- A log's cells. -/
def lgcM (pd frm size : Nat) (gen : Int) (mark : List UInt8) (next : Nat) (lv : Value) : List Value := hfc pd frm size ++ [.int .i64 gen, .string (str mark), .int .i64 (next : Int), lv]
abbrev lgeM (pl pd frm size : Nat) (gen : Int) (mark : List UInt8) (next : Nat) (lv : Value) : Nat × Obj := (pl, cel (lgcM pd frm size gen mark next lv) 203)
theorem took_eq {next bs m : Nat} (hb : bs = 64 * m) (hn : next ≤ 4096) (hm : m ≤ 4096) : IntKind.i64.wrap ((next : Int) + IntKind.i64.wrap ((bs : Int).tdiv (Int.ofNat (63 + 1)))) = ((next + m : Nat) : Int) := by
 subst hb
 have h1 : ((64 * m : Nat) : Int).tdiv (Int.ofNat (63 + 1)) = (m : Int) := by
  rw [show Int.ofNat (63 + 1) = 64 from rfl, Int.tdiv_eq_ediv_of_nonneg (by omega)]
  omega
 have h2 : IntKind.i64.wrap (m : Int) = (m : Int) := by rw [i64_id] <;> omega
 rw [h1, h2, i64_id (by omega) (by omega)]
 omega
theorem tookC {pl : Nat} {gen : Int} {mark text own : List UInt8} {next bs m : Nat} {lv : Value} {ts : List (List UInt8)} {les : Ents} (hB : B ≤ pl) (hl : Lg.Own B 9 1 lv ts.length (strs ts) les) (hn : next ≤ 4096) (hts : ts.length ≤ 4096) (hb : bs = 64 * m) (hm : m ≤ 4096)
  (H : ∀ lv' les', Lg.Own B 9 1 lv' (ts ++ [text]).length (strs (ts ++ [text])) les' → Q (.tuple #[]) (lgeM pl pd frm size gen own (next + m) lv' :: (les' ++ S))) :
  CallWp Tryz.prog B 155 #[pt pl, .string (str text), .string (str own), .int .i64 (bs : Int)] Q (lgeM pl pd frm size gen mark next lv :: (les ++ S)) := by
 obtain ⟨va, vc, rfl⟩ := hl.reads.form
 refine Yx (args := [_, _, _, _]) Tryz.func155 Tryz.ntmps155 ?_
 refine Yg 4 rfl ?_
 refine Yl m0 ?_
 refine Ye 1 rfl ?_
 refine OWp.step rfl (Step.buildSlice rfl rfl rfl ?_); intro Lp1 hBLp1 hLLp1
 refine OWp.step rfl (Step.appendAt [_, _] rfl rfl rfl rfl rfl rfl (by decide) rfl rfl hl (Reads.row (k := 1) (sz := 1) (.head _) (Nat.le_of_ble_eq_true rfl)) rfl (by show (_ + 1) * 16 ≤ _; omega) (by unfold maxLen; omega) ?_); intro v2 es2 ho2 _
 refine OWp.dropAt 0 rfl ?_
 obtain ⟨wa, wc, hv⟩ := ho2.reads.form
 subst hv
 refine Ye 2 rfl ?_
 refine OWp.step rfl (Step.storeAs 0 (lgcM pd frm size gen mark next (.slice wa (ts.length + 1) wc)) rfl rfl rfl rfl rfl hB rfl (Unfz.zero _) rfl (Nat.le_of_ble_eq_true rfl) rfl rfl ?_)
 refine OWp.nil ?_
 refine Yg 4 rfl ?_
 refine OWp.step rfl (Step.storeAs 0 (lgcM pd frm size gen own next (.slice wa (ts.length + 1) wc)) rfl rfl rfl rfl rfl hB rfl (Unfz.zero _) rfl (Nat.le_of_ble_eq_true rfl) rfl rfl ?_)
 refine OWp.nil ?_
 refine Wp.region ?_
 refine Ye 3 rfl ?_
 refine Yl m0 ?_
 refine Ye 5 rfl ?_
 refine OWp.step rfl (Step.storeAs 0 (lgcM pd frm size gen own (next + m) (.slice wa (ts.length + 1) wc)) rfl rfl rfl rfl rfl hB rfl (Unfz.zero _) rfl (Nat.le_of_ble_eq_true rfl) (by rw [took_eq hb hn hm]; rfl) rfl ?_)
 refine OWp.nil ?_
 refine ⟨trivial, [], rfl, ?_⟩
 exact H (.slice wa (ts.length + 1) wc) es2 (by rw [List.length_append, show strs (ts ++ [text]) = strs ts ++ [.string (str text)] by simp [strs]]; exact ho2)
theorem sec_piece {b : List UInt8} {i : Nat} : b.take (64 * (i + 1)) = b.take (64 * i) ++ (b.drop (64 * i)).take 64 := by
 rw [show 64 * (i + 1) = 64 * i + 64 by omega, List.take_add]
set_option maxHeartbeats 1000000 in
/-- A record is put behind the others. -/
theorem putC {pl : Nat} {gen : Int} {mark text : List UInt8} {next : Nat} {lv : Value} {ts : List (List UInt8)} {les : Ents} (hk : KsIn S) (hB : B ≤ pl) (hD : DkIn B pd pr total D n W) (hl : Lg.Own B 9 1 lv ts.length (strs ts) les) (hts : ts.length ≤ 4096) (hm : mark.length = 16) (ht : text.length ≤ 2000) (hn : n ≤ 65536) (hf : frm + next + secN text ≤ total)
  (H : ∀ lv' les' W', Lg.Own B 9 1 lv' (ts ++ [text]).length (strs (ts ++ [text])) les' → DkIn B pd pr total (wrU D (64 * (frm + next)) (recB mark text)) (n + secN text) W' → Q (.int .i64 0) (lgeM pl pd frm size gen (ownM mark text) (next + secN text) lv' :: (les' ++ (W' ++ S)))) :
  CallWp Tryz.prog B 148 #[pt pl, .string (str text)] Q (lgeM pl pd frm size gen mark next lv :: (les ++ (W ++ S))) := by
 obtain ⟨va, vc, rfl⟩ := hl.reads.form
 have ht2 := hD.2.2.2.1
 have hDl := hD.len
 have hsn : secN text ≤ 32 := by unfold secN; omega
 obtain ⟨b, hb⟩ : ∃ b, b = recB mark text := ⟨_, rfl⟩
 have hbl : b.length = 64 * secN text := by rw [hb]; exact recB_len _ _
 refine Yx (args := [_, _]) Tryz.func148 Tryz.ntmps148 ?_
 refine Yn 1 rfl ?_
 refine Yg 3 rfl ?_
 refine Yl m0 ?_
 refine Ye 1 rfl ?_
 refine Yc rfl rfl (recordC (KsIn_of hk fun x hx => .tail _ (List.mem_append_right _ (List.mem_append_right _ hx))) hm ht ?_)
 rw [← hb]
 refine Yz 5 rfl ?_
 refine Wp.seq ?_
 refine Yn 1 rfl ?_
 refine Wp.block ?_
 refine Wp.loopS (α := Nat × Ents) (fun z => secN text - z.1) (fun z => [(0, pt pl), (1, .string (str text)), (5, .string (str b)), (6, .string (str (ownM mark text))), (7, .int .i64 ((64 * z.1 : Nat) : Int))]) (fun z => lgeM pl pd frm size gen mark next (.slice va ts.length vc) :: (les ++ (z.2 ++ S))) (fun z => z.1 ≤ secN text ∧ DkIn B pd pr total (wrU D (64 * (frm + next)) (b.take (64 * z.1))) (n + z.1) z.2) (0, W) ?_ (.refl _) ⟨Nat.zero_le _, by rw [Nat.mul_zero, List.take_zero, wrU_nil]; exact hD⟩ ?_
 ·exact .cons rfl (.cons rfl (.cons rfl (.cons rfl (.cons rfl (.nil _)))))
 rintro ⟨i, W1⟩ ⟨hi, h1⟩
 simp only at hi h1 ⊢
 refine Wp.seq ?_
 refine Yn 4 rfl ?_
 refine Wp.cond rfl (fun c1 => ?_) (fun c1 => ?_)
 ·have c1 := of_decide_eq_true c1
  have hlt : i < secN text := by rw [hbl] at c1; omega
  refine Wp.skip ?_
  refine Wp.seq ?_
  refine Wp.block ?_
  refine Wp.seq (Wp.regionDraw [0, 1, 2, 3, 4, 5, 6, 7, 8, 9, 10, 11, 12, 13, 14, 15, 16, 17] [16] rfl (by decide +kernel) ?_)
  refine DWp.evs 3 rfl ?_
  refine Yd (show lgeM pl pd frm size gen mark next (.slice va ts.length vc) ∈ _ from .head _) ?_
  refine DWp.evs 3 rfl ?_
  refine Yd (show lgeM pl pd frm size gen mark next (.slice va ts.length vc) ∈ _ from .head _) ?_
  refine DWp.evs 7 rfl ?_
  refine DWp.g rfl rfl rfl rfl (Gives.sliceStr (l := (64 * i)) (h' := (64 * i + 64)) rfl rfl rfl ⟨_, _, rfl, rfl⟩ ⟨_, _, rfl, by rw [i64_id] <;> omega⟩ (by omega) (by omega)) ?_
  refine DWp.step rfl rfl rfl (Step.call rfl rfl rfl rfl rfl rfl ((CallWp.permS (permBy [[lgeM pl pd frm size gen mark next (.slice va ts.length vc)], les, W1] S [0, 1, 2] [2, 0, 1] (by decide)) (lwriteC (at_ := next + i) (took_eq (bs := 64 * i) rfl (by omega) (by omega)) h1 (by omega) (by rw [List.length_take, List.length_drop, hbl]; omega) (by omega) ?_))))
  intro W2 h2
  have e : wrU (wrU D (64 * (frm + next)) (b.take (64 * i))) (64 * (frm + (next + i))) ((b.drop (64 * i)).take (64 * i + 64 - 64 * i)) = wrU D (64 * (frm + next)) (b.take (64 * (i + 1))) := by
   have hl1 : (b.take (64 * i)).length = 64 * i := by rw [List.length_take, hbl]; omega
   have hl2 : ((b.drop (64 * i)).take 64).length = 64 := by rw [List.length_take, List.length_drop, hbl]; omega
   rw [show 64 * i + 64 - 64 * i = 64 by omega, show 64 * (frm + (next + i)) = 64 * (frm + next) + (b.take (64 * i)).length by rw [hl1]; omega, wrU_app (by rw [hl1, hl2]; omega), ← sec_piece]
  rw [e] at h2
  refine prs ?_
  refine DWp.evs 1 rfl ?_
  refine DWp.nil ?_
  refine Yn 2 rfl ?_
  refine Cu rfl (by exact fun h => h rfl) fun cc1 => ?_
  refine Wp.skip ?_
  refine Wp.region ?_
  refine Yz 3 rfl ?_
  exact ⟨(i + 1, W2), by simp only; omega, ⟨by simp only; omega, h2⟩, .cons rfl (.cons rfl (.cons rfl (.cons rfl (.cons' rfl (int_eq (by rw [i64_id] <;> omega)) (.nil _))))), permBy [W2, [lgeM pl pd frm size gen mark next (.slice va ts.length vc)], les] S [0, 1, 2] [1, 2, 0] (by decide)⟩
 have c1 := of_decide_eq_false c1
 obtain rfl : i = secN text := by rw [hbl] at c1; omega
 rw [List.take_of_length_le (by omega)] at h1
 refine Wp.exit ?_
 refine Yg 5 rfl ?_
 refine Yc rfl rfl (tookC (m := secN text) hB hl (by omega) hts hbl (by omega) ?_)
 intro lv2 les2 hl2
 refine OWp.nil ?_
 refine Yn 1 rfl ?_
 refine Wp.ret ⟨trivial, _, ⟨_, _, rfl, rfl, rfl⟩, ?_⟩
 exact H lv2 les2 W1 hl2 (by rw [← hb]; exact h1)
end
end Go.Proofs.D

/- A log in use. -/
namespace Go.Proofs.D
open Go.Lg Go.Sha Go.Hd Go.Cv Go.Mx
set_option maxRecDepth 100000
/-- A log in memory: its records; how many writes wait. -/
def LoIn (B pl pd pr size total : Nat) (ts : List (List UInt8)) (n : Nat) (W : Ents) : Prop := B ≤ pl ∧ 2 ≤ size ∧ 2 * size ≤ total ∧ usedN ts + 1 ≤ size ∧ (∀ t ∈ ts, t.length ≤ 2000) ∧ ∃ lv les Wd, Lg.Own B 9 1 lv ts.length (strs ts) les ∧ DkIn B pd pr total (diskM total ts) n Wd ∧ W = lgeM pl pd 0 size 1 (mks (markN 1) ts) (1 + usedN ts) lv :: (les ++ Wd)
theorem used_ge : ∀ ts : List (List UInt8), ts.length ≤ usedN ts
 | [] => Nat.le_refl _
 | t :: ts => by have := used_ge ts; have := secN_pos t; rw [usedN, List.length_cons]; omega
theorem sect_eq {text : List UInt8} (h : text.length ≤ 2000) : IntKind.i64.wrap ((IntKind.i64.wrap (IntKind.i64.wrap (IntKind.i64.wrap (18 + (text.length : Int)) + 64) - 1)).tdiv (Int.ofNat (63 + 1))) = ((secN text : Nat) : Int) := by
 have h1 : IntKind.i64.wrap (18 + (text.length : Int)) = 18 + (text.length : Int) := by rw [i64_id] <;> omega
 have h2 : IntKind.i64.wrap (18 + (text.length : Int) + 64) = 18 + (text.length : Int) + 64 := by rw [i64_id] <;> omega
 have h3 : IntKind.i64.wrap (18 + (text.length : Int) + 64 - 1) = 18 + (text.length : Int) + 64 - 1 := by rw [i64_id] <;> omega
 rw [h1, h2, h3, show Int.ofNat (63 + 1) = 64 from rfl, Int.tdiv_eq_ediv_of_nonneg (by omega)]
 unfold secN
 rw [i64_id] <;> omega
section
variable {B : Nat} {S R : Ents} {Q : Value → Ents → Prop} {pl pd pr total n size : Nat} {ts : List (List UInt8)} {W : Ents}
theorem lwrongC {text : List UInt8} (h1 : 1 ≤ text.length) (h2 : text.length ≤ 2000) (H : Q (.int .i64 0) S) : CallWp Tryz.prog B 176 #[.string (str text)] Q S := by
 refine Yx (args := [_]) Tryz.func176 Tryz.ntmps176 ?_
 refine Yn 1 rfl ?_
 refine Wp.seq ?_
 refine Wp.block ?_
 refine Yn 3 rfl ?_
 refine Ct rfl (by rintro rfl; simp at h1) fun cc1 => ?_
 refine Yn 4 rfl ?_
 refine Ct rfl (by omega) fun cc2 => ?_
 refine Wp.skip ?_
 refine Yn 1 rfl ?_
 refine Wp.ret ⟨trivial, _, ⟨_, _, rfl, rfl, rfl⟩, ?_⟩
 exact H
theorem sectorsC {text : List UInt8} (h2 : text.length ≤ 2000) (H : Q (.int .i64 (secN text : Nat)) S) : CallWp Tryz.prog B 177 #[.string (str text)] Q S := by
 refine Yx (args := [_]) Tryz.func177 Tryz.ntmps177 ?_
 refine Yn 1 rfl ?_
 refine Yn 7 rfl ?_
 refine Wp.ret ⟨trivial, _, ⟨_, _, rfl, rfl, rfl⟩, ?_⟩
 exact (congrArg (fun z => Q (.int .i64 z) S) (sect_eq h2)).mpr H
theorem lroomC {frm next : Nat} {gen : Int} {mark : List UInt8} {lv : Value} (hm : lgeM pl pd frm size gen mark next lv ∈ S) (h1 : next ≤ size) (h2 : size ≤ 4096) (H : Q (.int .i64 ((size - next : Nat) : Int)) S) : CallWp Tryz.prog B 178 #[pt pl] Q S := by
 refine Yx (args := [_]) Tryz.func178 Tryz.ntmps178 ?_
 refine Yn 1 rfl ?_
 refine Wp.seq (Wp.regionDraw [0, 1, 2, 3, 4, 5, 6, 7, 8, 9, 10] [] rfl (by decide +kernel) ?_)
 refine DWp.evs 4 rfl ?_
 refine Yd hm ?_
 refine DWp.evs 3 rfl ?_
 refine Yd hm ?_
 refine DWp.evs 2 rfl ?_
 refine DWp.nil ?_
 refine Wp.ret ⟨trivial, _, ⟨_, _, rfl, rfl, rfl⟩, ?_⟩
 exact (congrArg (fun z => Q (.int .i64 z) S) (show IntKind.i64.wrap ((size : Int) - (next : Int)) = ((size - next : Nat) : Int) by rw [i64_id] <;> omega)).mpr H
theorem appendC {text : List UInt8} (hk : KsIn S) (h : LoIn B pl pd pr size total ts n W) (h1 : 1 ≤ text.length) (h2 : text.length ≤ 2000) (hn : n ≤ 65536) (hr : usedN ts + 1 + secN text ≤ size)
  (H : ∀ W', LoIn B pl pd pr size total (ts ++ [text]) (n + secN text) W' → Q (.int .i64 0) (W' ++ S)) : CallWp Tryz.prog B 126 #[pt pl, .string (str text)] Q (W ++ S) := by
 obtain ⟨g1, g2, g3, g4, g5, lv, les, Wd, hl, hD, rfl⟩ := h
 obtain ⟨va, vc, rfl⟩ := hl.reads.form
 have ht2 := hD.2.2.2.1
 have hu := used_ge ts
 rw [List.cons_append, List.append_assoc]
 refine Yx (args := [_, _]) Tryz.func126 Tryz.ntmps126 ?_
 refine Yn 1 rfl ?_
 refine Wp.seq ?_
 refine Yg 1 rfl ?_
 refine Yc rfl rfl (lwrongC h1 h2 ?_)
 refine Yz 1 rfl ?_
 refine Yn 2 rfl ?_
 refine Cu rfl (by exact fun h => h rfl) fun cc1 => ?_
 refine Wp.skip ?_
 refine Wp.seq ?_
 refine Yg 1 rfl ?_
 refine Yc rfl rfl (sectorsC h2 ?_)
 refine Ye 1 rfl ?_
 refine Yc rfl rfl (lroomC (.head _) (by omega) (by omega) ?_)
 refine Yz 1 rfl ?_
 refine Ct rfl (by omega) fun cc2 => ?_
 refine Wp.skip ?_
 refine Yg 2 rfl ?_
 refine Yc rfl rfl (putC (frm := 0) (size := size) hk g1 hD hl (by omega) (mks_len ts (take16 _)) h2 hn (by omega) ?_)
 intro lv' les' W' hl' hD'
 rw [Nat.zero_add, diskM_push (by omega)] at hD'
 refine Yz 1 rfl ?_
 refine Wp.ret ⟨trivial, _, ⟨_, _, rfl, rfl, rfl⟩, ?_⟩
 have hx : ∀ t ∈ ts ++ [text], t.length ≤ 2000 := fun t ht => (List.mem_append.1 ht).elim (g5 t) fun h => by rw [List.mem_singleton.1 h]; exact h2
 have hh := H (lgeM pl pd 0 size 1 (mks (markN 1) (ts ++ [text])) (1 + usedN (ts ++ [text])) lv' :: (les' ++ W')) ⟨g1, g2, g3, by rw [used_snoc]; omega, hx, lv', les', W', hl', hD', rfl⟩
 rw [mks_snoc, used_snoc, ← Nat.add_assoc, List.cons_append, List.append_assoc] at hh
 exact hh
theorem lsyncC (h : LoIn B pl pd pr size total ts n W) (H : ∀ W', LoIn B pl pd pr size total ts 0 W' → Q (.int .i64 0) (W' ++ S)) : CallWp Tryz.prog B 129 #[pt pl] Q (W ++ S) := by
 obtain ⟨g1, g2, g3, g4, g5, lv, les, Wd, hl, hD, rfl⟩ := h
 obtain ⟨va, vc, rfl⟩ := hl.reads.form
 rw [List.cons_append, List.append_assoc]
 refine subRet ?_
 refine Yx (args := [_]) Tryz.func129 Tryz.ntmps129 ?_
 refine Yn 1 rfl ?_
 refine Yg 4 rfl ?_
 refine Yl m0 ?_
 refine Yc rfl rfl (CallWp.permS (permBy [[lgeM pl pd 0 size 1 (mks (markN 1) ts) (1 + usedN ts) (.slice va ts.length vc)], les, Wd] S [0, 1, 2] [2, 0, 1] (by decide)) (dsyncC hD ?_))
 intro W' h'
 refine Yz 1 rfl ?_
 refine Wp.ret ⟨trivial, _, ⟨_, _, rfl, rfl, rfl⟩, ?_⟩
 have hh := H (lgeM pl pd 0 size 1 (mks (markN 1) ts) (1 + usedN ts) (.slice va ts.length vc) :: (les ++ W')) ⟨g1, g2, g3, g4, g5, _, les, W', hl, h', rfl⟩
 rw [List.cons_append, List.append_assoc] at hh
 exact ⟨_, _, permBy [W', [lgeM pl pd 0 size 1 (mks (markN 1) ts) (1 + usedN ts) (.slice va ts.length vc)], les] S [0, 1, 2] [1, 2, 0] (by decide), .refl _, hh⟩
theorem recordsC (h : LoIn B pl pd pr size total ts n W) (hs : ∀ x ∈ W, x ∈ S) (H : ∀ v es, Lg.Own B 9 1 v ts.length (strs ts) es → Q v (es ++ S)) : CallWp Tryz.prog B 50 #[pt pl] Q S := by
 obtain ⟨g1, g2, g3, g4, g5, lv, les, Wd, hl, hD, rfl⟩ := h
 obtain ⟨va, vc, rfl⟩ := hl.reads.form
 have hu := used_ge ts
 have ht2 := hD.2.2.2.1
 refine Yx (args := [_]) Tryz.func50 Tryz.ntmps50 ?_
 refine Yn 1 rfl ?_
 refine Yg 3 rfl ?_
 refine Yl (hs _ (.head _)) ?_
 refine Yc rfl rfl (cloneStrC (hl.reads.mono fun x hx => hs x (.tail _ (List.mem_append_left _ hx))) (strs_one ts) (by omega) ?_)
 intro v es hv
 refine Yz 1 rfl ?_
 refine Wp.ret ⟨trivial, _, ⟨_, _, rfl, rfl, rfl⟩, ?_⟩
 exact H v es hv
end
end Go.Proofs.D

/- A log is begun on an empty disk. -/
namespace Go.Proofs.D
open Go.Lg Go.Sha Go.Hd Go.Cv Go.Mx
set_option maxRecDepth 100000
theorem diskM_new {total : Nat} (h : 1 ≤ total) : wrU (zer (64 * total)) 0 (headB 1) = diskM total [] := by
 unfold wrU diskM
 rw [headB_len, zer_drop]
 show [] ++ (headB 1 ++ zer (64 * total - (0 + 64))) = headB 1 ++ ([] ++ zer (64 * (total - 1 - 0)))
 rw [List.nil_append, List.nil_append, show 64 * total - (0 + 64) = 64 * (total - 1 - 0) by omega]
theorem zer_sec {total at_ : Nat} (h : at_ < total) : secU (zer (64 * total)) at_ = zer 64 := by
 unfold secU
 rw [zer_drop, zer_take (by omega)]
section
variable {B : Nat} {S R : Ents} {Q : Value → Ents → Prop} {pd pr total n size : Nat} {W : Ents}
theorem begin1C {L3 L9 : Nat} {D : List UInt8} {sector : List UInt8} (h : DkIn B pd pr total D n W) (h3 : (L3, cel (hfc pd 0 size) 201) ∈ S) (h9 : (L9, cel [.string (str sector)] 9) ∈ S) (hl : sector.length = 64) (hn : n ≤ 65536) (ht : 1 ≤ total)
  (H : ∀ W', DkIn B pd pr total (wrU D 0 sector) (n + 1) W' → Q (.int .i64 0) (W' ++ S)) : CallWp Tryz.prog B 150 #[pt L3, pt L9] Q (W ++ S) := by
 refine Yx (args := [_, _]) Tryz.func150 Tryz.ntmps150 ?_
 refine Yn 1 rfl ?_
 refine Yq ?_
 refine Yl (List.mem_append_right _ h3) ?_
 refine Yl (List.mem_append_right _ h9) ?_
 refine Yc rfl rfl (lwriteC (frm := 0) (size := size) (at_ := 0) rfl h (by omega) hl (by omega) ?_)
 intro W' h'
 refine Yz 1 rfl ?_
 refine Wp.ret ⟨trivial, _, ⟨_, _, rfl, rfl, rfl⟩, ?_⟩
 exact H W' h'
set_option maxHeartbeats 2000000 in
theorem lbeginC (hk : KsIn S) (h : DkIn B pd pr total (zer (64 * total)) 0 W) (h2 : 2 ≤ size) (hs : 2 * size ≤ total) (H : ∀ pl W', LoIn B pl pd pr size total [] 0 W' → Q (.tuple #[pt pl, .int .i64 0]) (W' ++ S)) :
  CallWp Tryz.prog B 100 #[.agg (hfc pd 0 size).toArray, .int .i64 1, .slice none 0 0] Q (W ++ S) := by
 refine subRet ?_
 refine Yx (args := [_, _, _]) Tryz.func100 Tryz.ntmps100 ?_
 refine Yq ?_
 refine Yb rfl rfl rfl rfl fun L3 hBL3 hLL3 => ?_
 refine Yz 2 rfl ?_
 refine Wp.seq ?_
 refine Yq ?_
 refine Yl m0 ?_
 refine Yc rfl rfl (lcleanC (fr := 0) h (fun x hx => .tail _ (List.mem_append_left _ hx)) (by omega) (fun i _ hi => zer_sec (by omega)) ?_)
 refine Yz 1 rfl ?_
 refine Yn 2 rfl ?_
 refine Cu rfl (by exact fun h => h rfl) fun cc1 => ?_
 refine Wp.skip ?_
 refine Yg 1 rfl ?_
 refine Yc rfl rfl (begunC (n := 1) (KsIn_of hk fun x hx => .tail _ (List.mem_append_right _ hx)) ?_)
 refine Ye 3 rfl ?_
 refine Ya rfl rfl rfl rfl fun L9 hBL9 hLL9 => ?_
 refine OWp.step rfl (Step.storeAs 0 ([.string (str (headB 1))]) rfl rfl rfl rfl rfl (by assumption) rfl (Unfz.zero _) rfl (Nat.le_of_ble_eq_true rfl) rfl rfl ?_)
 refine Yz 1 rfl ?_
 refine Yq ?_
 refine Yl m1 ?_
 refine Ye 2 rfl ?_
 refine OWp.g rfl rfl (Gives.build rfl rfl) ?_
 refine Yb rfl rfl rfl rfl fun L32 hBL32 hLL32 => ?_
 refine Yz 1 rfl ?_
 refine Wp.seq ?_
 refine Yn 3 rfl ?_
 refine Wp.block ?_
 refine Wp.loopS (α := Unit) (fun _ => 0) (fun _ => [(3, pt L3), (9, pt L9), (11, pt L32), (34, .int .i64 0), (35, .int .i64 0)]) (fun _ => (L32, cel (lgcM pd 0 size 1 (markN 1) 1 (.slice none 0 0)) 203) :: (L9, cel [.string (str (headB 1))] 9) :: (L3, cel (hfc pd 0 size) 201) :: (W ++ S)) (fun _ => True) () ?_ (.refl _) trivial ?_
 ·exact .cons rfl (.cons rfl (.cons rfl (.cons rfl (.cons rfl (.nil _)))))
 rintro _ _
 refine Yn 1 rfl ?_
 refine Wp.seq ?_
 refine Ct rfl (by decide) fun cc2 => ?_
 refine Wp.exit ?_
 refine Wp.seq ?_
 refine Yg 1 rfl ?_
 refine Yl m2 ?_
 refine Ye 3 rfl ?_
 refine Yl m2 ?_
 refine Ye 1 rfl ?_
 refine OWp.step rfl (Step.buildSlice rfl rfl rfl ?_); intro L53 hBL53 hLL53
 refine Yz 2 rfl ?_
 refine Wp.block ?_
 refine Wp.loopS (α := Nat × Ents) (fun z => 3 - z.1) (fun z => [(11, pt L32), (53, .slice (some ⟨L53, 0, none⟩) 3 3), (54, .int .i64 3), (55, .int .i64 (z.1 : Int))]) (fun z => z.2 ++ ((L53, cel [.func (.func 149) #[pt pd] #[], .func (.func 150) #[] #[pt L3, pt L9], .func (.func 149) #[pt pd] #[]] 206) :: (L32, cel (lgcM pd 0 size 1 (markN 1) 1 (.slice none 0 0)) 203) :: (L9, cel [.string (str (headB 1))] 9) :: (L3, cel (hfc pd 0 size) 201) :: S)) (fun z => (z.1 = 0 ∧ DkIn B pd pr total (zer (64 * total)) 0 z.2) ∨ (z.1 = 1 ∧ DkIn B pd pr total (zer (64 * total)) 0 z.2) ∨ (z.1 = 2 ∧ DkIn B pd pr total (diskM total []) 1 z.2) ∨ (z.1 = 3 ∧ DkIn B pd pr total (diskM total []) 0 z.2)) (0, W) ?_ (permBy [[(L53, cel [.func (.func 149) #[pt pd] #[], .func (.func 150) #[] #[pt L3, pt L9], .func (.func 149) #[pt pd] #[]] 206), (L32, cel (lgcM pd 0 size 1 (markN 1) 1 (.slice none 0 0)) 203), (L9, cel [.string (str (headB 1))] 9), (L3, cel (hfc pd 0 size) 201)], W] S [0, 1] [1, 0] (by decide)) (.inl ⟨rfl, h⟩) ?_
 ·exact .cons rfl (.cons rfl (.cons rfl (.cons rfl (.nil _))))
 rintro ⟨i, W1⟩ hi
 simp only at hi ⊢
 refine Yq ?_
 rcases hi with ⟨rfl, hi⟩ | ⟨rfl, hi⟩ | ⟨rfl, hi⟩ | ⟨rfl, hi⟩
 ·skip
  refine Yz 1 rfl ?_
  refine Wp.seq ?_
  refine Cv rfl (by decide) fun cc3 => ?_
  refine Wp.skip ?_
  refine Wp.seq ?_
  refine Wp.block ?_
  refine Yq ?_
  refine OWp.g rfl rfl (Gives.indexAddrSlice (0) rfl rfl rfl rfl rfl rfl (by omega)) ?_
  refine Yl (List.mem_append_right _ (.head _)) ?_
  refine Yz 1 rfl ?_
  refine Yg 1 rfl ?_
  refine OWp.step rfl (Step.callB rfl rfl rfl rfl rfl rfl (dsyncC hi ?_))
  intro W2 h2
  refine Yz 1 rfl ?_
  refine Yn 2 rfl ?_
  refine Cu rfl (by exact fun h => h rfl) fun cc4 => ?_
  refine Wp.skip ?_
  refine Wp.region ?_
  refine Yz 2 rfl ?_
  exact ⟨(1, W2), (show 3 - 1 < 3 - 0 by decide), .inr (.inl ⟨rfl, h2⟩), .cons rfl (.cons rfl (.cons rfl (.cons' rfl (int_eq (show IntKind.i64.wrap (((0 : Nat) : Int) + 1) = ((1 : Nat) : Int) by decide)) (.nil _)))), .refl _⟩
 skip
 ·skip
  refine Yz 1 rfl ?_
  refine Wp.seq ?_
  refine Cv rfl (by decide) fun cc5 => ?_
  refine Wp.skip ?_
  refine Wp.seq ?_
  refine Wp.block ?_
  refine Yq ?_
  refine OWp.g rfl rfl (Gives.indexAddrSlice (1) rfl rfl rfl rfl rfl rfl (by omega)) ?_
  refine Yl (List.mem_append_right _ (.head _)) ?_
  refine Yz 1 rfl ?_
  refine Yg 1 rfl ?_
  refine Yc rfl rfl (begin1C hi (.tail _ (.tail _ (.tail _ (.head _)))) (.tail _ (.tail _ (.head _))) (headB_len 1) (by decide) (by omega) ?_)
  intro W2 h2
  rw [diskM_new (by omega)] at h2
  refine Yz 1 rfl ?_
  refine Yn 2 rfl ?_
  refine Cu rfl (by exact fun h => h rfl) fun cc6 => ?_
  refine Wp.skip ?_
  refine Wp.region ?_
  refine Yz 2 rfl ?_
  exact ⟨(2, W2), (show 3 - 2 < 3 - 1 by decide), .inr (.inr (.inl ⟨rfl, h2⟩)), .cons rfl (.cons rfl (.cons rfl (.cons' rfl (int_eq (show IntKind.i64.wrap (((1 : Nat) : Int) + 1) = ((2 : Nat) : Int) by decide)) (.nil _)))), .refl _⟩
 skip
 ·skip
  refine Yz 1 rfl ?_
  refine Wp.seq ?_
  refine Cv rfl (by decide) fun cc7 => ?_
  refine Wp.skip ?_
  refine Wp.seq ?_
  refine Wp.block ?_
  refine Yq ?_
  refine OWp.g rfl rfl (Gives.indexAddrSlice (2) rfl rfl rfl rfl rfl rfl (by omega)) ?_
  refine Yl (List.mem_append_right _ (.head _)) ?_
  refine Yz 1 rfl ?_
  refine Yg 1 rfl ?_
  refine OWp.step rfl (Step.callB rfl rfl rfl rfl rfl rfl (dsyncC hi ?_))
  intro W2 h2
  refine Yz 1 rfl ?_
  refine Yn 2 rfl ?_
  refine Cu rfl (by exact fun h => h rfl) fun cc8 => ?_
  refine Wp.skip ?_
  refine Wp.region ?_
  refine Yz 2 rfl ?_
  exact ⟨(3, W2), (show 3 - 3 < 3 - 2 by decide), .inr (.inr (.inr ⟨rfl, h2⟩)), .cons rfl (.cons rfl (.cons rfl (.cons' rfl (int_eq (show IntKind.i64.wrap (((2 : Nat) : Int) + 1) = ((3 : Nat) : Int) by decide)) (.nil _)))), .refl _⟩
 refine Yz 1 rfl ?_
 refine Wp.seq ?_
 refine Ct rfl (by decide) fun cc9 => ?_
 refine Wp.exit ?_
 refine Yn 3 rfl ?_
 refine Wp.ret ⟨trivial, _, ⟨_, _, rfl, rfl, _, _, rfl, rfl, rfl⟩, ?_⟩
 have hh := H L32 (lgeM L32 pd 0 size 1 (mks (markN 1) []) (1 + usedN []) (.slice none 0 0) :: ([] ++ W1)) ⟨hBL32, h2, hs, (show 0 + 1 ≤ size by omega), (fun _ h => nomatch h), .slice none 0 0, [], W1, Own.nil _ _ _, hi, rfl⟩
 exact ⟨_, _, permBy [W1, [(L53, cel [.func (.func 149) #[pt pd] #[], .func (.func 150) #[] #[pt L3, pt L9], .func (.func 149) #[pt pd] #[]] 206)], [(L32, cel (lgcM pd 0 size 1 (markN 1) 1 (.slice none 0 0)) 203)], [(L9, cel [.string (str (headB 1))] 9), (L3, cel (hfc pd 0 size) 201)]] S [0, 1, 2, 3] [2, 0, 1, 3] (by decide), .cons_cons _ ((List.Sublist.refl W1).append (.cons _ (.cons _ (.cons _ (.refl _))))), hh⟩
end
end Go.Proofs.D
