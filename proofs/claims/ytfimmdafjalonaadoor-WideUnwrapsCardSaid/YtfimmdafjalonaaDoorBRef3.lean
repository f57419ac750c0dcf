/- What functions of the given program do, one after the other, told by that layer. -/
import Derived.Test.YtfimmdafjalonaaDoorBRef2
namespace Go.Proofs.D
open Go.Lg Go.Sha
set_option maxRecDepth 100000

theorem outB_term (v : V) {i c : Nat} (hi : i < 8) (hc : c < 4) : IntKind.u8.wrap (((v.list.getD i 0 : Nat) : Int).fdiv (2 ^ (min (8 * (3 - c)) IntKind.u32.bits))) = ((outB v (4 * i + c)).toNat : Int) := by
  have := out_step v (4 * i + c) (by omega)
  rw [show (4 * i + c) / 4 = i by omega, show (4 * i + c) % 4 = c by omega, show 24 - c * 8 = 8 * (3 - c) by omega] at this
  exact this
theorem range_snoc {α : Type} (f : Nat → α) (n : Nat) : (List.range (n + 1)).map f = (List.range n).map f ++ [f n] := by simp [List.range_succ]
theorem bc_snoc (l : List UInt8) (b : UInt8) : byteCells (l ++ [b]) = byteCells l ++ [.int .u8 (b.toNat : Int)] := by simp [byteCells]
theorem rowB_set (f : Nat → UInt8) {x : List UInt8} {i o : Nat} {z : Int} (h : i < x.length) (hz : z = ((f i).toNat : Int)) (ho : o = i) :
    wr (byteCells (rowAt f x i)) o (Value.int .u8 z).cells.toList = byteCells (rowAt f x (i + 1)) := by
  have := rowAt_set (g := []) f h hz ho
  rwa [List.append_nil, List.append_nil] at this
theorem rowAt_pad {k : List UInt8} (y : UInt8) (h : k.length ≤ 64) : rowAt (padB k y) (List.replicate 64 0) 64 = (k ++ List.replicate (64 - k.length) 0).map (· ^^^ y) := by
  unfold rowAt
  rw [List.drop_of_length_le (by simp), List.append_nil, padB_all y h]

section
variable {B : Nat} {S R : Ents} {Q : Value → Ents → Prop}

theorem rmixedEqC {v : V} {b b' : List UInt8} (hbb : b' = b) (hv : v.ok) (hb : b.length = 64) (H : Q (.agg (u32s (press v b).list).toArray) S) :
    CallWp Tryd.prog B 121 #[.agg (u32s v.list).toArray, .string (str b')] Q S := by
  subst hbb; exact rmixedC hv hb H

set_option maxHeartbeats 1000000 in
theorem rdigestC {s : List UInt8} (hs : s.length + 1000 ≤ big) (H : Q (.string (str (sha s))) S) :
    CallWp Tryd.prog B 96 #[.string (str s)] Q S := by
  have hb : big = 281474976710656 := rfl
  obtain ⟨x, hx⟩ : ∃ x, x = s ++ pad s.length := ⟨_, rfl⟩
  obtain ⟨N, hN⟩ : ∃ N, N = (s.length + 72) / 64 := ⟨_, rfl⟩
  have hxl : x.length = 64 * N := by rw [hx, List.length_append, Go.Proofs.D.pad_len, hN]; omega
  have hsha : sha s = out (pressAll N v0 x) := by rw [hx, hN]; rfl
  rw [hsha] at H
  have hNb : 64 * N ≤ 281474976710656 := by rw [hb] at hs; omega
  refine CallWp.dropRet ?_
  refine CallWp.enter (args := [_]) Tryd.func96 rfl Tryd.ntmps96 rfl ?_
  refine Wp.seq (Wp.region ?_)
  refine OWp.evs 1 rfl ?_
  refine OWp.nil ?_
  refine Wp.seq (Wp.region ?_)
  refine OWp.g rfl rfl (Gives.build rfl rfl) ?_
  refine OWp.step rfl (Step.alloc rfl rfl rfl ?_); intro L hBL hLL
  refine OWp.step rfl (Step.storeAs 0 (u32s v0.list) rfl rfl rfl rfl rfl hBL rfl (Unfz.zero _) rfl (Nat.le_of_ble_eq_true rfl) rfl rfl ?_)
  refine OWp.nil ?_
  refine Wp.seq (Wp.region ?_)
  refine OWp.evs 1 rfl ?_
  refine OWp.step rfl (Step.call rfl rfl rfl rfl rfl rfl ((rwholeC hs ?_)))
  rw [← hx]
  refine OWp.evs 1 rfl ?_
  refine OWp.nil ?_
  refine Wp.seq ?_
  refine Wp.seq (Wp.region ?_)
  refine OWp.evs 1 rfl ?_
  refine OWp.nil ?_
  refine Wp.block ?_
  refine Wp.loopS (α := Nat) (fun i => N - i) (fun i => [(3, pt L), (4, .string (str x)), (5, .int .i64 ((64 * i : Nat) : Int))]) (fun i => (L, cel (u32s (pressAll i v0 x).list) 144) :: S) (fun i => i ≤ N) 0 ?_ (.refl _) (Nat.zero_le _) ?_
  · exact .cons rfl (.cons rfl (.cons rfl (.nil _)))
  intro i hi
  refine Wp.seq ?_
  refine Wp.seq (Wp.region ?_)
  refine OWp.evs 4 rfl ?_
  refine OWp.nil ?_
  refine Wp.cond rfl (fun h1 => ?_) (fun h1 => ?_)
  · have h1 := of_decide_eq_true h1
    have hi2 : i < N := by omega
    refine Wp.skip ?_
    refine Wp.seq ?_
    refine Wp.block ?_
    refine Wp.regionDraw [0, 1, 2, 3, 4, 5, 6, 7] [6, 7] rfl (by decide +kernel) ?_
    refine DWp.load (.head _) rfl rfl rfl rfl rfl rfl (agg8 (list_len _)) ?_
    refine DWp.evs 4 rfl ?_
    refine DWp.g rfl rfl rfl rfl (Gives.sliceStr (l := (64 * i)) (h' := (64 * i + 64)) rfl rfl rfl ⟨_, _, rfl, rfl⟩ ⟨_, _, rfl, by rw [i64_id] <;> omega⟩ (by omega) (by rw [hxl]; omega)) ?_
    refine DWp.stepGrow rfl rfl rfl (Step.call rfl rfl rfl rfl rfl rfl ((rmixedEqC (b := (x.drop (64 * i)).take 64) (by rw [Nat.add_sub_cancel_left]) (pressAll_ok i x v0_ok) (by rw [List.length_take, List.length_drop, hxl]; omega) ?_)))
    refine ⟨fun _ hy => hy, ?_⟩
    refine DWp.stepAll rfl rfl rfl rfl (Step.storeAs 0 (u32s (pressAll (i + 1) v0 x).list) rfl rfl rfl rfl rfl hBL (by show some 8 = some (u32s _).length; rw [u32s_length, list_len]) (Unfz.zero _) (u32s_one _) (by show 0 + (u32s _).length ≤ (u32s _).length; rw [u32s_length, u32s_length, list_len, list_len]; decide) (by rw [pressAll_succ]; exact wr_all (X := u32s _) (by rw [u32s_length, u32s_length, list_len, list_len])) rfl ?_)
    refine DWp.nil ?_
    refine Wp.region ?_
    refine OWp.evs 3 rfl ?_
    refine OWp.nil ?_
    exact ⟨i + 1, by omega, by omega, .cons rfl (.cons rfl (.cons' rfl (int_eq (by rw [i64_id] <;> omega)) (.nil _))), .refl _⟩
  have h1 := of_decide_eq_false h1
  obtain rfl : i = N := by omega
  obtain ⟨v, hv⟩ : ∃ v, v = pressAll i v0 x := ⟨_, rfl⟩
  rw [← hv] at H ⊢
  refine Wp.exit ?_
  refine Wp.seq (Wp.region ?_)
  refine OWp.evs 1 rfl ?_
  refine OWp.nil ?_
  refine Wp.seq ?_
  refine Wp.seq (Wp.region ?_)
  refine OWp.evs 1 rfl ?_
  refine OWp.nil ?_
  refine Wp.block ?_
  refine Wp.loopS (α := Nat × Value × Ents) (fun z => 8 - z.1) (fun z => [(3, pt L), (6, z.2.1), (7, .int .i64 (z.1 : Int))]) (fun z => z.2.2 ++ (L, cel (u32s v.list) 144) :: S) (fun z => z.1 ≤ 8 ∧ Own B 5 1 z.2.1 (4 * z.1) (byteCells ((List.range (4 * z.1)).map (outB v))) z.2.2) (0, .slice none 0 0, []) ?_ (.refl _) ⟨Nat.zero_le _, Own.nil _ _ _⟩ ?_
  · exact .cons rfl (.cons rfl (.cons rfl (.nil _)))
  rintro ⟨j, w, es⟩ ⟨hj, hown⟩
  simp only at hj hown ⊢
  refine Wp.seq ?_
  refine Wp.seq (Wp.region ?_)
  refine OWp.evs 2 rfl ?_
  refine OWp.nil ?_
  refine Wp.cond rfl (fun h2 => ?_) (fun h2 => ?_)
  · have h2 := of_decide_eq_true h2
    have hj2 : j < 8 := by omega
    refine Wp.skip ?_
    refine Wp.seq ?_
    refine Wp.block ?_
    refine Wp.seq (Wp.region ?_)
    refine OWp.evs 1 rfl ?_
    refine OWp.nil ?_
    refine Wp.block ?_
    refine Wp.loopS (α := Nat × Value × Ents) (fun z => 4 - z.1) (fun z => [(3, pt L), (6, z.2.1), (7, .int .i64 (j : Int)), (8, .int .i64 (3 - (z.1 : Int)))]) (fun z => z.2.2 ++ (L, cel (u32s v.list) 144) :: S) (fun z => z.1 ≤ 4 ∧ Own B 5 1 z.2.1 (4 * j + z.1) (byteCells ((List.range (4 * j + z.1)).map (outB v))) z.2.2) (0, w, es) ?_ (.refl _) ⟨Nat.zero_le _, hown⟩ ?_
    · exact .cons rfl (.cons rfl (.cons rfl (.cons rfl (.nil _))))
    clear hown
    rintro ⟨c, w2, es2⟩ ⟨hc, hown⟩
    simp only at hc hown ⊢
    refine Wp.seq ?_
    refine Wp.seq (Wp.region ?_)
    refine OWp.evs 2 rfl ?_
    refine OWp.nil ?_
    refine Wp.cond rfl (fun h3 => ?_) (fun h3 => ?_)
    · have h3 := of_decide_eq_true h3
      have hc2 : c < 4 := by omega
      refine Wp.skip ?_
      refine Wp.seq ?_
      refine Wp.block ?_
      refine Wp.region ?_
      refine OWp.evs 2 rfl ?_
      refine OWp.g rfl rfl (Gives.indexAddrArr (j) rfl rfl rfl rfl rfl rfl (by omega)) ?_
      refine OWp.load (List.mem_append_right _ (.head _)) rfl rfl rfl rfl (u32s_part hj2) ?_
      refine OWp.evs 2 rfl ?_
      refine OWp.g rfl rfl (Gives.shr (m := 8 * (3 - c)) rfl rfl rfl (by rw [i64_id] <;> omega)) ?_
      refine OWp.evs 1 rfl ?_
      refine OWp.step rfl (Step.buildSlice rfl rfl rfl ?_); intro Lp1 hBLp1 hLLp1
      refine OWp.step rfl (Step.appendAt [_] rfl rfl rfl rfl rfl rfl (by decide) rfl rfl hown (Reads.row (k := 1) (sz := 1) (.head _) (Nat.le_of_ble_eq_true rfl)) rfl (by show (_ + 1) * 1 ≤ _; omega) (by unfold maxLen; omega) ?_); intro w3 es3 ho3 _
      refine OWp.dropAt 0 rfl ?_
      refine OWp.evs 1 rfl ?_
      refine OWp.nil ?_
      refine Wp.region ?_
      refine OWp.evs 3 rfl ?_
      refine OWp.nil ?_
      refine ⟨(c + 1, w3, es3), by simp only; omega, ⟨by simp only; omega, ?_⟩, .cons rfl (.cons rfl (.cons rfl (.cons' rfl (int_eq (by simp only; rw [i64_id] <;> omega)) (.nil _)))), .refl _⟩
      simp only
      rw [show 4 * j + (c + 1) = 4 * j + c + 1 by omega, range_snoc, bc_snoc]
      exact own_last ho3 (int_eq (outB_term v hj2 hc2))
    have h3 := of_decide_eq_false h3
    obtain rfl : c = 4 := by omega
    refine Wp.exit ?_
    refine Wp.region ?_
    refine OWp.evs 3 rfl ?_
    refine OWp.nil ?_
    exact ⟨(j + 1, w2, es2), by simp only; omega, ⟨by simp only; omega, by simp only; rw [show 4 * (j + 1) = 4 * j + 4 by omega]; exact hown⟩, .cons rfl (.cons rfl (.cons' rfl (int_eq (i64_inc (by omega))) (.nil _))), .refl _⟩
  have h2 := of_decide_eq_false h2
  obtain rfl : j = 8 := by omega
  refine Wp.exit ?_
  refine Wp.seq (Wp.region ?_)
  refine OWp.evs 1 rfl ?_
  refine OWp.gives rfl rfl (Gives.bytesToStr (F := es) (l := (List.range 32).map (outB v)) (k := 32) rfl rfl rfl rfl rfl hown.reads) (fun x hx => List.mem_append_left _ hx) ?_
  refine OWp.evs 1 rfl ?_
  refine OWp.nil ?_
  refine Wp.ret ⟨trivial, _, ⟨_, _, rfl, rfl, rfl⟩, ?_⟩
  exact ⟨S, (List.sublist_cons_self _ _).trans (List.sublist_append_right _ _), by rw [← out_range]; exact H⟩
end
end Go.Proofs.D
