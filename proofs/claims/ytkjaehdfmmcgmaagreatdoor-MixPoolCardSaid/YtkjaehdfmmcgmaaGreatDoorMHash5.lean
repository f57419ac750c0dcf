/- What functions of the given program do, one after the other, told by that layer. -/
import Derived.Test.YtkjaehdfmmcgmaaGreatDoorMM3xc0b7
import Derived.Test.YtkjaehdfmmcgmaaGreatDoorBCha
namespace Go.Proofs.D
open Go.Lg Go.Sha
set_option maxRecDepth 100000

theorem KsIn.cons {S : Ents} {x : Nat × Obj} (h : KsIn S) : KsIn (x :: S) := by
 obtain ⟨l, e, fz, hm, ha⟩ := h
 exact ⟨l, e, fz, .tail _ hm, ha⟩
theorem KsIn.append {S A : Ents} (h : KsIn S) : KsIn (A ++ S) := by
 obtain ⟨l, e, fz, hm, ha⟩ := h
 exact ⟨l, e, fz, List.mem_append_right _ hm, ha⟩

def outB (v : V) (i : Nat) : UInt8 := UInt8.ofNat (v.list.getD (i / 4) 0 / 2 ^ (24 - i % 4 * 8))
theorem out_range (v : V) : out v = (List.range 32).map (outB v) := by
 have e : ∀ x, [UInt8.ofNat (x / 16777216), UInt8.ofNat (x / 65536), UInt8.ofNat (x / 256), UInt8.ofNat x] = [UInt8.ofNat (x / 2 ^ 24), UInt8.ofNat (x / 2 ^ 16), UInt8.ofNat (x / 2 ^ 8), UInt8.ofNat (x / 2 ^ 0)] := fun x => by
  rw [Nat.pow_zero, Nat.div_one]
 unfold out
 simp only [e]
 rfl
theorem out_step (v : V) (i : Nat) (_h : i < 32) : IntKind.u8.wrap (((v.list.getD (i / 4) 0 : Nat) : Int).fdiv (2 ^ (min (24 - i % 4 * 8) IntKind.u32.bits))) = ((outB v i).toNat : Int) := by
 have e : min (24 - i % 4 * 8) IntKind.u32.bits = 24 - i % 4 * 8 := by show min _ 32 = _; omega
 unfold outB
 rw [e, Int.fdiv_eq_ediv_of_nonneg _ (by exact Int.le_of_lt (Int.pow_pos (by decide))), IntKind.wrap_u8, UInt8.toNat_ofNat']
 have : ((v.list.getD (i / 4) 0 : Nat) : Int) / 2 ^ (24 - i % 4 * 8) = ((v.list.getD (i / 4) 0 / 2 ^ (24 - i % 4 * 8) : Nat) : Int) := by simp
 rw [this]
 omega
theorem tail8_len (n : Nat) : (tail8 n).length = 8 := by simp [tail8]
theorem pad_len (n : Nat) : (pad n).length = 9 + (119 - n % 64) % 64 := by
 unfold pad
 rw [List.length_cons, List.length_append, List.length_replicate, tail8_len]; omega
theorem sha_hv (x : List UInt8) : sha x = out (hv (x ++ pad x.length)) := by
 unfold sha hv
 rw [List.length_append, pad_len]
 congr 2
 omega

/-- The cells of strings. -/
def strs (l : List (List UInt8)) : List Value := l.map fun s => .string (str s)
theorem strs_length (l : List (List UInt8)) : (strs l).length = l.length := by simp [strs]

section
variable {B : Nat} {S R : Ents} {Q : Value → Ents → Prop}

set_option maxHeartbeats 1000000 in
theorem endC {x r : List UInt8} {p : Nat} (hB : B ≤ p) (hr : Waits x r) (hk : KsIn R) (hl : x.length + 100 ≤ big) (H : ∀ e, Q (.string (str (sha x))) (e :: R)) :
  CallWp Tryz.prog B 162 #[pt p] Q (hx p x r :: R) := by
 have hb : big = 281474976710656 := rfl
 rw [hb] at hl
 refine Yx (args := [_]) Tryz.func162 Tryz.ntmps162 ?_
 refine Yn 1 rfl ?_
 refine Yg 3 rfl ?_
 refine OWp.load (.head _) rfl rfl rfl rfl (hc_total (vlist_len _) hr.len rfl) ?_
 refine Yz 2 rfl ?_
 refine Wp.weaken (E' := [(3, .int .u64 ((x.length * 8 : Nat) : Int)), (0, pt p)]) (.cons' rfl (int_eq (by rw [IntKind.wrap_u64]; omega)) (.cons rfl (.nil _))) (fun _ h => h) ?_
 refine Yg 1 rfl ?_
 refine Yc rfl rfl (takeC (s := [128]) hB hr hk (by rw [hb]; simp only [List.length_cons, List.length_nil]; omega) ?_)
 intro r1 hr1
 refine OWp.nil ?_
 refine Wp.seq ?_
 refine Wp.block ?_
 refine Wp.loopS (α := Nat × List UInt8) (fun z => 64 - z.1) (fun z => [(3, .int .u64 ((x.length * 8 : Nat) : Int)), (0, pt p)]) (fun z => hx p (x ++ [128] ++ List.replicate z.1 0) z.2 :: R) (fun z => z.1 ≤ (119 - x.length % 64) % 64 ∧ Waits (x ++ [128] ++ List.replicate z.1 0) z.2) (0, r1) ?_ ?_ ⟨Nat.zero_le _, by simpa using hr1⟩ ?_
 ·exact .cons rfl (.cons rfl (.nil _))
 ·simp only [List.replicate_zero, List.append_nil]; exact .refl _
 rintro ⟨j, r2⟩ ⟨hj, hr2⟩
 simp only at hj hr2 ⊢
 have hlj : (x ++ [128] ++ List.replicate j 0).length = x.length + 1 + j := by simp; omega
 refine Wp.seq ?_
 refine Yg 3 rfl ?_
 refine OWp.load (.head _) rfl rfl rfl rfl (hc_have (vlist_len _) hr2.len rfl) ?_
 rw [hlj]
 refine Yz 1 rfl ?_
 refine Wp.cond rfl (fun h1 => ?_) (fun h1 => ?_)
 ·have h1 := ndT h1
  have hj2 : j < (119 - x.length % 64) % 64 := by omega
  refine Wp.skip ?_
  refine Wp.block ?_
  refine Wp.region ?_
  refine Ye 1 rfl ?_
  refine Yc rfl rfl (takeC (s := [0]) hB hr2 hk (by rw [hb, hlj]; simp only [List.length_cons, List.length_nil]; omega) ?_)
  intro r3 hr3
  refine OWp.nil ?_
  have e : x ++ [128] ++ List.replicate j 0 ++ [0] = x ++ [128] ++ List.replicate (j + 1) (0 : UInt8) := by rw [List.append_assoc, ← List.replicate_succ']
  rw [e] at hr3 ⊢
  exact ⟨(j + 1, r3), by simp only; omega, ⟨by simp only; omega, hr3⟩, .cons rfl (.cons rfl (.nil _)), .refl _⟩
 have h1 := ndF h1
 have hj3 : j = (119 - x.length % 64) % 64 := by omega
 refine Wp.exit ?_
 refine Yg 2 rfl ?_
 refine Yc rfl rfl (eightC ?_)
 refine Yc rfl rfl (takeC (s := tail8 (x.length * 8)) hB hr2 hk (by rw [hb, hlj, tail8_len]; omega) ?_)
 intro r4 hr4
 have e : x ++ [128] ++ List.replicate j 0 ++ tail8 (x.length * 8) = x ++ pad x.length := by
  unfold pad
  rw [hj3]; simp
 rw [e] at hr4 ⊢
 refine OWp.nil ?_
 refine Yq ?_
 refine Ya rfl rfl rfl rfl fun L4 hBL4 hLL4 => ?_
 refine OWp.nil ?_
 refine Wp.seq ?_
 refine Yn 1 rfl ?_
 refine Wp.block ?_
 refine Wp.loopS (α := Nat) (fun i => 32 - i) (fun i => [(24, .int .i64 (i : Int)), (4, pt L4), (0, pt p)]) (fun i => (L4, cel (byteCells ((List.range i).map (outB (hv (x ++ pad x.length))) ++ List.replicate (32 - i) 0)) 259) :: hx p (x ++ pad x.length) r4 :: R) (fun i => i ≤ 32) 0 ?_ (.refl _) (Nat.zero_le _) ?_
 ·exact .cons rfl (.cons rfl (.cons rfl (.nil _)))
 intro i hi
 refine Yn 1 rfl ?_
 refine Wp.seq ?_
 refine Wp.cond rfl (fun h5 => ?_) (fun h5 => ?_)
 ·have h5 := of_decide_eq_true h5
  have hlt : i < 32 := by omega
  refine Wp.skip ?_
  refine Wp.seq ?_
  refine Wp.block ?_
  refine Yn 2 rfl ?_
  refine Wp.region ?_
  refine Ye 6 rfl ?_
  refine OWp.g rfl rfl (Gives.indexAddrArr ((i / 4)) rfl rfl rfl rfl rfl (q4 (by omega)) (by omega)) ?_
  refine OWp.load (.tail _ (.head _)) rfl rfl rfl rfl (hc_v (vlist_len _) (j := i / 4) (by omega) (by show 0 + 0 + (i / 4) * 1 = i / 4; omega)) ?_
  refine Ye 4 rfl ?_
  refine OWp.g rfl rfl (Gives.shr (m := 24 - i % 4 * 8) rfl rfl rfl (by show IntKind.i64.wrap (24 - IntKind.i64.wrap ((i : Int) % 4 * 8)) = _; rw [i64_id (x := (i : Int) % 4 * 8) (by omega) (by omega), i64_id (by omega) (by omega)]; omega)) ?_
  refine Ye 1 rfl ?_
  refine OWp.g rfl rfl (Gives.indexAddrArr (i) rfl rfl rfl rfl rfl rfl (by omega)) ?_
  refine OWp.step rfl (Step.storeAs 0 (byteCells ((List.range (i + 1)).map (outB (hv (x ++ pad x.length))) ++ List.replicate (32 - (i + 1)) 0)) rfl rfl rfl rfl rfl (by assumption) rfl (Unfz.zero _) rfl (by rw [byteCells_length]; simp only [List.length_append, List.length_map, List.length_range, List.length_replicate]; show 0 + i * 1 + 1 ≤ _; omega) (by rw [out_step _ i hlt]; exact row_set (outB (hv (x ++ pad x.length))) hlt (by show 0 + i * 1 = i; omega)) rfl ?_)
  refine OWp.nil ?_
  refine Wp.region ?_
  refine Yz 2 rfl ?_
  refine ⟨i + 1, by omega, by omega, ?_, .refl _⟩
  exact .cons' rfl (int_eq (i64_inc (by omega))) (.cons rfl (.cons rfl (.nil _)))
 have h5 := of_decide_eq_false h5
 obtain rfl : i = 32 := by omega
 rw [Nat.sub_self, List.replicate_zero, List.append_nil, ← out_range, ← sha_hv]
 refine Wp.exit ?_
 refine Yq ?_
 refine OWp.g rfl rfl (Gives.sliceArr (l := 0) (h' := 32) rfl rfl rfl rfl rfl rfl (by omega) (by omega) (by omega)) ?_
 refine OWp.gives rfl rfl (Gives.bytesToStr (F := (L4, cel (byteCells (sha x)) 259) :: hx p (x ++ pad x.length) r4 :: R) (l := sha x) (k := 32) rfl rfl rfl rfl rfl (by have := Reads.row (S := (L4, cel (byteCells (sha x)) 259) :: hx p (x ++ pad x.length) r4 :: R) (sz := 1) (k := 32) (cap := 32) (.head _) (by rw [byteCells_length, sha_len]; decide); rw [List.take_of_length_le (by rw [byteCells_length, sha_len]; decide)] at this; exact this)) (fun _ h => h) ?_
 refine Yz 1 rfl ?_
 refine Wp.dropAt 0 rfl ?_
 refine Wp.ret ⟨trivial, _, ⟨_, _, rfl, rfl, rfl⟩, ?_⟩
 exact H _
theorem sumC {v : Value} {n : Nat} {l : List (List UInt8)} (hl : Reads S 1 v n (strs l)) (hn : n ≤ 140737488355328) (hk : KsIn S) (ht : l.flatten.length + 100 ≤ big) (H : Q (.string (str (sha l.flatten))) S) :
  CallWp Tryz.prog B 113 #[v] Q S := by
 obtain ⟨aa, ac, rfl⟩ := hl.form
 have e1 : l.length = n := by have := hl.1; rw [strs_length] at this; omega
 refine CallWp.dropRet ?_
 refine Yx (args := [_]) Tryz.func113 Tryz.ntmps113 ?_
 refine Yn 1 rfl ?_
 refine Yq ?_
 refine Yc rfl rfl (beginC ?_)
 intro L hBL hLL
 refine Yz 1 rfl ?_
 refine Wp.seq ?_
 refine Yn 3 rfl ?_
 refine Wp.block ?_
 refine Wp.loopS (α := Nat × List UInt8) (fun z => n - z.1) (fun z => [(9, .int .i64 (z.1 : Int)), (8, .int .i64 (n : Int)), (7, .slice aa n ac), (3, pt L)]) (fun z => hx L (l.take z.1).flatten z.2 :: S) (fun z => z.1 ≤ n ∧ Waits (l.take z.1).flatten z.2) (0, List.replicate 64 0) ?_ (.refl _) ⟨Nat.zero_le _, waits_zero⟩ ?_
 ·exact .cons rfl (.cons rfl (.cons rfl (.cons rfl (.nil _))))
 rintro ⟨i, r⟩ ⟨hi, hr⟩
 simp only at hi hr ⊢
 refine Yn 1 rfl ?_
 refine Wp.seq ?_
 refine Wp.cond rfl (fun h1 => ?_) (fun h1 => ?_)
 ·have h1 := of_decide_eq_true h1
  have hlt : i < n := by omega
  obtain ⟨b1, o1, c1, l1, t1, f1, hv1, hm1, _, hg1⟩ := hl.get1 (by omega)
  cases hv1
  have x1 : l[i]? = some l[i] := by simp
  have hfl : (l.take (i + 1)).flatten = (l.take i).flatten ++ l[i] := by rw [List.take_add_one, x1]; simp only [Option.toList_some, List.flatten_append, List.flatten_cons, List.flatten_nil, List.append_nil]
  have hle : (l.take (i + 1)).flatten.length ≤ l.flatten.length := by
   have := List.take_append_drop (i + 1) l
   rw [← this, List.flatten_append, List.length_append, this]; omega
  refine Wp.skip ?_
  refine Wp.seq ?_
  refine Wp.block ?_
  refine Yq ?_
  refine OWp.g rfl rfl (Gives.indexAddrSlice (i) rfl rfl rfl rfl rfl rfl (by omega)) ?_
  refine OWp.load (.tail _ hm1) rfl rfl rfl rfl ((hg1 i hlt).trans (by rw [strs, List.getElem?_map, x1]; rfl)) ?_
  refine Yz 1 rfl ?_
  refine Wp.region ?_
  refine Ye 2 rfl ?_
  refine Yc rfl rfl (takeC (s := l[i]) hBL hr hk (by rw [← List.length_append, ← hfl]; omega) ?_)
  intro r2 hr2
  rw [← hfl] at hr2 ⊢
  refine OWp.nil ?_
  refine Wp.region ?_
  refine Yz 2 rfl ?_
  exact ⟨(i + 1, r2), by simp only; omega, ⟨by simp only; omega, hr2⟩, .cons' rfl (int_eq (i64_inc (by omega))) (.cons rfl (.cons rfl (.cons rfl (.nil _)))), .refl _⟩
 have h1 := of_decide_eq_false h1
 obtain rfl : i = n := by omega
 rw [List.take_of_length_le (by omega)] at hr ⊢
 refine Wp.exit ?_
 refine Yg 1 rfl ?_
 refine Yc rfl rfl (endC hBL hr hk ht ?_)
 intro e
 refine Yz 1 rfl ?_
 refine Wp.ret ⟨trivial, _, ⟨_, _, rfl, rfl, rfl⟩, ?_⟩
 exact ⟨S, subl, H⟩
end
end Go.Proofs.D
