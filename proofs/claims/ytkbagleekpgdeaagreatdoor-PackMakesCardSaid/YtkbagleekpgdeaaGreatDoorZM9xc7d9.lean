/- What functions of the given program do, one after the other, told by that layer. -/
import Derived.Test.YtkbagleekpgdeaaGreatDoorZM6xf9cb
import Derived.Test.YtkbagleekpgdeaaGreatDoorZM5x8f6a
import Derived.Test.YtkbagleekpgdeaaGreatDoorBRefL
import Derived.Test.YtkbagleekpgdeaaGreatDoorZM4x1c5b
namespace Go.Lg
theorem DWp.drop0 {P : Program} {B n : Nat} {ops : Array Oper} {Q : Exit → Env → Ents → Prop} {E : Env} {S S' : Ents} {muts : List Nat} {l : Array Bool} {rest : List Nat} (h : S'.Sublist S) (hc : DWp P B n ops muts l rest [] Q E S') : DWp P B n ops muts l rest [] Q E S :=
  fun hgo a w hS hA => hc ⟨hgo.closed, hgo.ok, hgo.sel, fun _ hx => nomatch hx⟩ a w (hS.sublist h) hA
end Go.Lg
namespace Go.Proofs.D
open Go.Lg Go.Sha
set_option maxRecDepth 100000

theorem bc_setN {l : List UInt8} {o i : Nat} {x : Int} {c : UInt8} (h : i < l.length) (hx : x = c.toNat) (ho : o = i) :
    wr (byteCells l) o (Value.int .u8 x).cells.toList = byteCells (l.set i c) := by
  have := bc_set (g := []) h hx ho
  rwa [List.append_nil, List.append_nil] at this
theorem zeros_u8 (n : Nat) : zeros [Value.int .u8 0] n = byteCells (List.replicate n 0) := by
  induction n with
  | zero => rfl
  | succ n ih => rw [zeros, ih, List.replicate_succ]; rfl
theorem bc_reads {L m cap : Nat} {x : List UInt8} {t : TypeId} {fz : Nat × Nat} {S : Ents} (hm : x.length = m) (h : (L, cel (byteCells x) t fz) ∈ S) : Reads S 1 (.slice (some ⟨L, 0, none⟩) m cap) m (byteCells x) := by
  subst hm
  have := Reads.row (sz := 1) (k := x.length) (cap := cap) h (by rw [byteCells_length]; omega)
  rw [Nat.mul_one, List.take_of_length_le (by rw [byteCells_length]; exact Nat.le_refl _)] at this
  exact this
theorem own_last {B : Nat} {e : TypeId} {sz : Nat} {v : Value} {k : Nat} {xs : List Value} {x y : Value} {es : Ents} (h : Lg.Own B e sz v k (xs ++ [x]) es) (hxy : x = y) : Lg.Own B e sz v k (xs ++ [y]) es := hxy ▸ h
theorem turn_term {x n : Nat} (hx : x < 4294967296) (hn : n ≤ 32) : IntKind.u32.wrap ((x : Int).fdiv (2 ^ (min n IntKind.u32.bits)) + IntKind.u32.wrap ((x : Int) * 2 ^ (min (32 - n) IntKind.u32.bits))) = ((rr x n : Nat) : Int) := by
  have e1 : min n IntKind.u32.bits = n := by show min n 32 = n; omega
  have e2 : min (32 - n) IntKind.u32.bits = 32 - n := by show min (32 - n) 32 = _; omega
  rw [u32_fdiv x n n e1, e2]
  have e3 : (x : Int) * 2 ^ (32 - n) = ((x * 2 ^ (32 - n) : Nat) : Int) := by simp
  rw [e3, u32_wrap, u32_add, rr_ref hx hn]
theorem pad_term (n : Nat) : (IntKind.i64.wrap (119 - ((n : Nat) : Int).tmod 64)).tmod 64 = (((119 - n % 64) % 64 : Nat) : Int) := by
  rw [Int.tmod_eq_emod_of_nonneg (a := (n : Int)) (by omega), i64_id (by omega) (by omega), Int.tmod_eq_emod_of_nonneg (by omega)]
  omega
theorem len_byte {n i : Nat} (hn : n ≤ 281474976710656) (hi : i < 8) :
    IntKind.u8.wrap ((IntKind.u64.wrap (IntKind.u64.wrap (n : Int) * 8)).fdiv (2 ^ (min (8 * i) IntKind.u64.bits))) = ((UInt8.ofNat (n * 8 / 2 ^ (8 * i))).toNat : Int) := by
  have e1 : min (8 * i) IntKind.u64.bits = 8 * i := by show min (8 * i) 64 = _; omega
  have e2 : IntKind.u64.wrap (n : Int) = (n : Int) := by rw [IntKind.wrap_u64]; omega
  have e3 : IntKind.u64.wrap ((n : Int) * 8) = ((n * 8 : Nat) : Int) := by rw [IntKind.wrap_u64]; omega
  rw [e1, e2, e3, Int.fdiv_eq_ediv_of_nonneg _ (by exact Int.le_of_lt (Int.pow_pos (by decide))), ← u8_lo]
  congr 1
theorem be_term {n : Nat} {c : UInt8} (h : n < 16777216) : IntKind.u32.wrap (IntKind.u32.wrap ((n : Int) * 256) + IntKind.u32.wrap (c.toNat : Int)) = ((n * 256 + c.toNat : Nat) : Int) := by
  have := c.toNat_lt
  rw [IntKind.wrap_u32, IntKind.wrap_u32, IntKind.wrap_u32]
  omega
theorem u32s_snoc (l : List Nat) (x : Nat) : u32s (l ++ [x]) = u32s l ++ [.int .u32 (x : Int)] := by simp [u32s]
theorem u32s_get {l : List Nat} {i : Nat} (h : i < l.length) : (u32s l)[i]? = some (.int .u32 (l.getD i 0 : Nat)) := by simp [u32s, h]

section
variable {B : Nat} {S R : Ents} {Q : Value → Ents → Prop}

theorem rturnC {x n : Nat} (hx : x < 4294967296) (hn : n ≤ 32) (H : Q (.int .u32 (rr x n : Nat)) S) :
    CallWp Tryz.prog B 167 #[.int .u32 (x : Int), .int .i64 (n : Int)] Q S := by
  refine CallWp.enter (args := [_, _]) Tryz.func167 rfl Tryz.ntmps167 rfl ?_
  refine Wp.seq (Wp.region ?_)
  refine OWp.evs 1 rfl ?_
  refine OWp.nil ?_
  refine Wp.seq (Wp.regionDraw [0, 1, 2, 3, 4, 5, 6, 7, 8] [] rfl (by decide +kernel) ?_)
  refine DWp.evs 2 rfl ?_
  refine DWp.g rfl rfl rfl rfl (Gives.shr (m := n) rfl rfl rfl rfl) ?_
  refine DWp.evs 3 rfl ?_
  refine DWp.g rfl rfl rfl rfl (Gives.shl (m := 32 - n) rfl rfl rfl (by rw [i64_id (by omega) (by omega)]; omega)) ?_
  refine DWp.evs 2 rfl ?_
  refine DWp.nil ?_
  refine Wp.ret ⟨trivial, _, ⟨_, _, rfl, rfl, rfl⟩, ?_⟩
  rw [turn_term hx hn]; exact H
theorem rturnEqC {x n : Nat} {v : Int} (hv : v = (n : Int)) (hx : x < 4294967296) (hn : n ≤ 32) (H : Q (.int .u32 (rr x n : Nat)) S) :
    CallWp Tryz.prog B 167 #[.int .u32 (x : Int), .int .i64 v] Q S := by
  subst hv; exact rturnC hx hn H

theorem rwholeC {s : List UInt8} (hs : s.length + 1000 ≤ big) (H : Q (.string (str (s ++ pad s.length))) S) :
    CallWp Tryz.prog B 142 #[.string (str s)] Q S := by
  have hb : big = 281474976710656 := rfl
  rw [hb] at hs
  obtain ⟨z, hz⟩ : ∃ z, z = (119 - s.length % 64) % 64 := ⟨_, rfl⟩
  obtain ⟨m, hm⟩ : ∃ m, m = s.length * 8 := ⟨_, rfl⟩
  have e9 : IntKind.i64.wrap ((z : Int) + 9) = ((z + 9 : Nat) : Int) := by rw [i64_id] <;> omega
  refine CallWp.enter (args := [_]) Tryz.func142 rfl Tryz.ntmps142 rfl ?_
  refine Wp.seq (Wp.region ?_)
  refine OWp.evs 1 rfl ?_
  refine OWp.nil ?_
  refine Wp.seq (Wp.region ?_)
  refine OWp.evs 6 rfl ?_
  refine OWp.nil ?_
  refine Wp.weaken (E' := [(0, .string (str s)), (3, .int .i64 (z : Int))]) (.cons rfl (.cons' rfl (int_eq (by rw [hz]; exact pad_term _)) (.nil _))) (fun _ h => h) ?_
  refine Wp.seq (Wp.region ?_)
  refine OWp.evs 2 rfl ?_
  refine OWp.step rfl (Step.makeSlice (len := z + 9) (cap := z + 9) rfl rfl rfl rfl rfl rfl (by decide) (by rw [← e9]; rfl) (by rw [← e9]; rfl) (Nat.le_refl _) (by show 1 * (z + 9) ≤ _; omega) (by omega) ?_)
  intro L hBL _
  have ez : zeros (cellsOf (Value.int .u8 0)) (z + 9) = byteCells (List.replicate (z + 9) 0) := zeros_u8 (z + 9)
  rw [ez]
  refine OWp.evs 1 rfl ?_
  refine OWp.nil ?_
  refine Wp.seq (Wp.region ?_)
  refine OWp.evs 1 rfl ?_
  refine OWp.g rfl rfl (Gives.indexAddrSlice (0) rfl rfl rfl rfl rfl rfl (by omega)) ?_
  refine OWp.step rfl (Step.storeAs 0 (byteCells (endAt m z 0)) rfl rfl rfl rfl rfl hBL rfl (Unfz.zero _) rfl (by rw [byteCells_length, List.length_replicate]; show 0 + 0 * 1 + 1 ≤ _; omega) (by rw [← endAt_first]; exact bc_setN (by rw [List.length_replicate]; omega) rfl rfl) rfl ?_)
  refine OWp.nil ?_
  refine Wp.seq ?_
  refine Wp.seq (Wp.region ?_)
  refine OWp.evs 1 rfl ?_
  refine OWp.nil ?_
  refine Wp.block ?_
  refine Wp.loopS (α := Nat) (fun i => 8 - i) (fun i => [(0, .string (str s)), (3, .int .i64 (z : Int)), (4, .slice (some ⟨L, 0, none⟩) (z + 9) (z + 9)), (5, .int .i64 (i : Int))]) (fun i => (L, cel (byteCells (endAt m z i)) 5) :: S) (fun i => i ≤ 8) 0 ?_ (.refl _) (Nat.zero_le _) ?_
  · exact .cons rfl (.cons rfl (.cons rfl (.cons rfl (.nil _))))
  intro i hi
  refine Wp.seq ?_
  refine Wp.seq (Wp.region ?_)
  refine OWp.evs 2 rfl ?_
  refine OWp.nil ?_
  refine Wp.cond rfl (fun h1 => ?_) (fun h1 => ?_)
  · have h1 := of_decide_eq_true h1
    have hi2 : i < 8 := by omega
    refine Wp.skip ?_
    refine Wp.seq ?_
    refine Wp.block ?_
    refine Wp.region ?_
    refine OWp.evs 11 rfl ?_
    refine OWp.g rfl rfl (Gives.shr (m := 8 * i) rfl rfl rfl (by rw [i64_id (by omega) (by omega)]; omega)) ?_
    refine OWp.evs 1 rfl ?_
    refine OWp.g rfl rfl (Gives.indexAddrSlice ((z + 8 - i)) rfl rfl rfl rfl rfl (by rw [i64_id (x := (z : Int) + 8) (by omega) (by omega), i64_id (by omega) (by omega)]; omega) (by omega)) ?_
    refine OWp.step rfl (Step.storeAs 0 (byteCells (endAt m z (i + 1))) rfl rfl rfl rfl rfl hBL rfl (Unfz.zero _) rfl (by rw [byteCells_length, endAt_len m z hi]; show 0 + (z + 8 - i) * 1 + 1 ≤ _; omega) (by rw [← endAt_set m z hi2]; exact bc_setN (by rw [endAt_len m z hi]; omega) (by rw [hm]; exact len_byte (by omega) hi2) (by show 0 + (z + 8 - i) * 1 = z + 8 - i; omega)) rfl ?_)
    refine OWp.nil ?_
    refine Wp.region ?_
    refine OWp.evs 3 rfl ?_
    refine OWp.nil ?_
    exact ⟨i + 1, by omega, by omega, .cons rfl (.cons rfl (.cons rfl (.cons' rfl (int_eq (i64_inc (by omega))) (.nil _)))), .refl _⟩
  have h1 := of_decide_eq_false h1
  obtain rfl : i = 8 := by omega
  refine Wp.exit ?_
  refine Wp.seq (Wp.region ?_)
  refine OWp.evs 2 rfl ?_
  refine OWp.gives rfl rfl (Gives.bytesToStr (F := [(L, cel (byteCells (endAt m z 8)) 5)]) (l := endAt m z 8) (k := z + 9) rfl rfl rfl rfl rfl (bc_reads (endAt_len m z (Nat.le_refl _)) (.head _))) (mem1 (.head _)) ?_
  refine OWp.g rfl rfl (Gives.addStr rfl rfl rfl (by rw [endAt_len m z (Nat.le_refl _)]; omega)) ?_
  refine OWp.evs 1 rfl ?_
  refine OWp.nil ?_
  refine Wp.dropAt 0 rfl ?_
  refine Wp.ret ⟨trivial, _, ⟨_, _, rfl, rfl, rfl⟩, ?_⟩
  rw [hm, hz, endAt_pad]; exact H
theorem rgrownC {b : List UInt8} (hb : b.length = 64) (H : ∀ v es, Lg.Own B 131 1 v 64 (u32s (wpre (blockW b) 64)) es → Q v (es ++ S)) :
    CallWp Tryz.prog B 165 #[.string (str b)] Q S := by
  have hW := blockW_sched b
  refine CallWp.enter (args := [_]) Tryz.func165 rfl Tryz.ntmps165 rfl ?_
  refine Wp.seq (Wp.region ?_)
  refine OWp.evs 1 rfl ?_
  refine OWp.nil ?_
  refine Wp.seq (Wp.region ?_)
  refine OWp.evs 1 rfl ?_
  refine OWp.nil ?_
  refine Wp.seq ?_
  refine Wp.seq (Wp.region ?_)
  refine OWp.evs 1 rfl ?_
  refine OWp.nil ?_
  refine Wp.block ?_
  refine Wp.loopS (α := Nat × Value × Ents) (fun z => 16 - z.1) (fun z => [(0, .string (str b)), (3, z.2.1), (4, .int .i64 ((4 * z.1 : Nat) : Int))]) (fun z => z.2.2 ++ S) (fun z => z.1 ≤ 16 ∧ Lg.Own B 131 1 z.2.1 z.1 (u32s (wpre (blockW b) z.1)) z.2.2) (0, .slice none 0 0, []) ?_ (.refl _) ⟨Nat.zero_le _, Own.nil _ _ _⟩ ?_
  · exact .cons rfl (.cons rfl (.cons rfl (.nil _)))
  rintro ⟨j, v, es⟩ ⟨hj, hown⟩
  simp only at hj hown ⊢
  refine Wp.seq ?_
  refine Wp.seq (Wp.region ?_)
  refine OWp.evs 2 rfl ?_
  refine OWp.nil ?_
  refine Wp.cond rfl (fun h1 => ?_) (fun h1 => ?_)
  · have h1 := of_decide_eq_true h1
    have hj2 : j < 16 := by omega
    refine Wp.skip ?_
    refine Wp.seq ?_
    refine Wp.block ?_
    refine Wp.seq (Wp.region ?_)
    refine OWp.evs 1 rfl ?_
    refine OWp.nil ?_
    refine Wp.seq ?_
    refine Wp.seq (Wp.region ?_)
    refine OWp.evs 1 rfl ?_
    refine OWp.nil ?_
    refine Wp.block ?_
    refine Wp.loopS (α := Nat) (fun k => 4 - k) (fun k => [(0, .string (str b)), (3, v), (4, .int .i64 ((4 * j : Nat) : Int)), (5, .int .u32 ((beAt b (4 * j) k : Nat) : Int)), (6, .int .i64 (k : Int))]) (fun _ => es ++ S) (fun k => k ≤ 4) 0 ?_ (.refl _) (Nat.zero_le _) ?_
    · exact .cons rfl (.cons rfl (.cons rfl (.cons' rfl (int_eq (by rw [beAt_zero]; rfl)) (.cons rfl (.nil _)))))
    intro k hk
    refine Wp.seq ?_
    refine Wp.seq (Wp.region ?_)
    refine OWp.evs 2 rfl ?_
    refine OWp.nil ?_
    refine Wp.cond rfl (fun h2 => ?_) (fun h2 => ?_)
    · have h2 := of_decide_eq_true h2
      have hk2 : k < 4 := by omega
      have ejk : IntKind.i64.wrap (((4 * j : Nat) : Int) + (k : Int)) = ((4 * j + k : Nat) : Int) := by rw [i64_id] <;> omega
      refine Wp.skip ?_
      refine Wp.seq ?_
      refine Wp.block ?_
      refine Wp.region ?_
      refine OWp.evs 6 rfl ?_
      refine OWp.g rfl rfl (Gives.indexStr (b := (b.getD (4 * j + k) 0)) rfl rfl rfl rfl (by rw [ejk]; omega) (by rw [ejk]; exact getD_some (by omega))) ?_
      refine OWp.evs 3 rfl ?_
      refine OWp.nil ?_
      refine Wp.region ?_
      refine OWp.evs 3 rfl ?_
      refine OWp.nil ?_
      exact ⟨k + 1, by omega, by omega, .cons rfl (.cons rfl (.cons rfl (.cons' rfl (int_eq (by rw [beAt_succ b (by omega)]; exact be_term (beAt_lt b (by omega)))) (.cons' rfl (int_eq (i64_inc (by omega))) (.nil _))))), .refl _⟩
    have h2 := of_decide_eq_false h2
    obtain rfl : k = 4 := by omega
    refine Wp.exit ?_
    refine Wp.region ?_
    refine OWp.evs 2 rfl ?_
    refine OWp.step rfl (Step.buildSlice rfl rfl rfl ?_); intro Lp1 hBLp1 hLLp1
    refine OWp.step rfl (Step.appendAt [_] rfl rfl rfl rfl rfl rfl (by decide) rfl rfl hown (Reads.row (k := 1) (sz := 1) (.head _) (Nat.le_of_ble_eq_true rfl)) rfl (by show (_ + 1) * 4 ≤ _; omega) (by unfold maxLen; omega) ?_); intro v2 es2 ho2 _
    refine OWp.dropAt 0 rfl ?_
    refine OWp.evs 1 rfl ?_
    refine OWp.nil ?_
    refine Wp.region ?_
    refine OWp.evs 3 rfl ?_
    refine OWp.nil ?_
    refine ⟨(j + 1, v2, es2), by simp only; omega, ⟨by simp only; omega, ?_⟩, .cons rfl (.cons rfl (.cons' rfl (int_eq (by simp only; rw [i64_id] <;> omega)) (.nil _))), .refl _⟩
    simp only
    rw [wpre_succ, u32s_snoc]
    exact own_last ho2 (int_eq (by rw [beAt_word b hj2]))
  have h1 := of_decide_eq_false h1
  obtain rfl : j = 16 := by omega
  obtain ⟨aa, ac, rfl⟩ := hown.reads.form
  refine Wp.exit ?_
  refine Wp.seq ?_
  refine Wp.block ?_
  refine Wp.loopS (α := Nat × Option Addr × Nat × Ents) (fun z => 64 - z.1) (fun z => [(3, .slice z.2.1 z.1 z.2.2.1)]) (fun z => z.2.2.2 ++ S) (fun z => 16 ≤ z.1 ∧ z.1 ≤ 64 ∧ Lg.Own B 131 1 (.slice z.2.1 z.1 z.2.2.1) z.1 (u32s (wpre (blockW b) z.1)) z.2.2.2) (16, aa, ac, es) ?_ (.refl _) ⟨Nat.le_refl _, by simp only; omega, hown⟩ ?_
  · exact .cons rfl (.nil _)
  clear hown
  rintro ⟨m, a2, c2, es2⟩ ⟨hm1, hm2, hown⟩
  simp only at hm1 hm2 hown ⊢
  refine Wp.seq ?_
  refine Wp.seq (Wp.region ?_)
  refine OWp.evs 3 rfl ?_
  refine OWp.nil ?_
  refine Wp.cond rfl (fun h3 => ?_) (fun h3 => ?_)
  · have h3 := of_decide_eq_true h3
    have hm3 : m < 64 := by omega
    obtain ⟨b1, o1, c1, l1, t1, f1, hv1, hmem, _, hg1⟩ := hown.reads.get1 (by omega)
    cases hv1
    have x15 := hW.small (m - 15)
    have x2 := hW.small (m - 2)
    have gt : ∀ i, i < m → l1[o1 + i * 1]? = some (.int .u32 ((blockW b i : Nat) : Int)) := fun i hi => (hg1 i hi).trans (by rw [u32s_get (by rw [wpre_len]; exact hi), wpre_get _ hi])
    refine Wp.skip ?_
    refine Wp.block ?_
    refine Wp.seq (Wp.region ?_)
    refine OWp.evs 3 rfl ?_
    refine OWp.nil ?_
    refine Wp.seq (Wp.regionDraw [0, 1, 2, 3, 4, 5, 6, 7, 8, 9, 10, 11] [] rfl (by decide +kernel) ?_)
    refine DWp.evs 3 rfl ?_
    refine DWp.g rfl rfl rfl rfl (Gives.indexAddrSlice ((m - 15)) rfl rfl rfl rfl rfl (by rw [i64_id (by omega) (by omega)]; omega) (by omega)) ?_
    refine DWp.load (List.mem_append_left _ hmem) rfl rfl rfl rfl rfl rfl (gt (m - 15) (by omega)) ?_
    refine DWp.evs 3 rfl ?_
    refine DWp.g rfl rfl rfl rfl (Gives.indexAddrSlice ((m - 2)) rfl rfl rfl rfl rfl (by rw [i64_id (by omega) (by omega)]; omega) (by omega)) ?_
    refine DWp.load (List.mem_append_left _ hmem) rfl rfl rfl rfl rfl rfl (gt (m - 2) (by omega)) ?_
    refine DWp.evs 2 rfl ?_
    refine DWp.nil ?_
    refine Wp.regionDraw [0, 1, 2, 3, 4, 5, 6, 8, 11, 12, 15, 16, 17, 18, 19, 21, 23, 26, 27, 7, 9, 10, 13, 14, 20, 22, 24, 25, 28, 29, 30, 31, 32] [7, 9, 22, 24, 30, 31] rfl (by decide +kernel) ?_
    refine DWp.evs 4 rfl ?_
    refine DWp.g rfl rfl rfl rfl (Gives.indexAddrSlice ((m - 16)) rfl rfl rfl rfl rfl (by rw [i64_id (by omega) (by omega)]; omega) (by omega)) ?_
    refine DWp.load (List.mem_append_left _ hmem) rfl rfl rfl rfl rfl rfl (gt (m - 16) (by omega)) ?_
    refine DWp.evs 7 rfl ?_
    refine DWp.g rfl rfl rfl rfl (Gives.indexAddrSlice ((m - 7)) rfl rfl rfl rfl rfl (by rw [i64_id (by omega) (by omega)]; omega) (by omega)) ?_
    refine DWp.load (List.mem_append_left _ hmem) rfl rfl rfl rfl rfl rfl (gt (m - 7) (by omega)) ?_
    refine DWp.evs 4 rfl ?_
    refine DWp.stepGrow rfl rfl rfl (Step.call rfl rfl rfl rfl rfl rfl ((rturnEqC (n := 7) rfl x15 (by decide) ?_)))
    refine ⟨fun _ hy => hy, ?_⟩
    refine DWp.stepGrow rfl rfl rfl (Step.call rfl rfl rfl rfl rfl rfl ((rturnEqC (n := 18) rfl x15 (by decide) ?_)))
    refine ⟨fun _ hy => hy, ?_⟩
    refine DWp.evs 4 rfl ?_
    refine DWp.stepGrow rfl rfl rfl (Step.call rfl rfl rfl rfl rfl rfl ((rturnEqC (n := 17) rfl x2 (by decide) ?_)))
    refine ⟨fun _ hy => hy, ?_⟩
    refine DWp.stepGrow rfl rfl rfl (Step.call rfl rfl rfl rfl rfl rfl ((rturnEqC (n := 19) rfl x2 (by decide) ?_)))
    refine ⟨fun _ hy => hy, ?_⟩
    refine DWp.evs 3 rfl ?_
    refine DWp.stepGrow rfl rfl rfl (Step.buildSlice rfl rfl rfl ?_); intro Lp2 hBLp2 hLLp2; refine ⟨fun _ hy => .tail _ hy, ?_⟩
    refine DWp.stepAll rfl rfl rfl rfl (Step.appendAt [_] rfl rfl rfl rfl rfl rfl (by decide) rfl rfl hown (Reads.row (k := 1) (sz := 1) (.head _) (Nat.le_of_ble_eq_true rfl)) rfl (by show (_ + 1) * 4 ≤ _; omega) (by unfold maxLen; omega) ?_); intro v3 es3 ho3 _
    refine DWp.drop0 (List.sublist_cons_self _ _) ?_
    refine DWp.evs 1 rfl ?_
    refine DWp.nil ?_
    have ho4 : Lg.Own B 131 1 v3 (m + 1) (u32s (wpre (blockW b) (m + 1))) es3 := by
      rw [wpre_succ, u32s_snoc]
      refine own_last ho3 (int_eq ?_)
      rw [← wpre_next hW hm1, ← grow_ref, ← u32_add, ← u32_add, ← u32_add, ← s0_term x15, ← s1_term x2]
    obtain ⟨a4, c4, rfl⟩ := ho4.reads.form
    exact ⟨(m + 1, a4, c4, es3), by simp only; omega, ⟨by simp only; omega, by simp only; omega, ho4⟩, .cons rfl (.nil _), .refl _⟩
  have h3 := of_decide_eq_false h3
  obtain rfl : m = 64 := by omega
  refine Wp.exit ?_
  refine Wp.seq (Wp.region ?_)
  refine OWp.evs 2 rfl ?_
  refine OWp.nil ?_
  refine Wp.ret ⟨trivial, _, ⟨_, _, rfl, rfl, rfl⟩, ?_⟩
  exact H _ _ hown
end
end Go.Proofs.D

namespace Go.Proofs.D
open Go.Lg Go.Sha
set_option maxRecDepth 100000

theorem agg8 {x : List Nat} (hx : x.length = 8) : Lg.partAt Tryz.prog 179 (u32s x) 0 = some (.agg (u32s x).toArray) :=
  partAt_agg (n := 8) (r := u32s x) (by rw [List.drop_zero, List.take_of_length_le (by rw [u32s_length, hx]; exact Nat.le_refl _)]) rfl rfl (by rw [u32s_length]; exact hx)
theorem ch_ref {e f g : Nat} (he : e < 4294967296) (hf : f < 4294967296) (hg : g < 4294967296) : bits .xor .u32 (bits .and .u32 (e : Int) (f : Int)) (bits .and .u32 (bits .xor .u32 4294967295 (e : Int)) (g : Int)) = ((ch e f g : Nat) : Int) := by
  have h1 : (4294967295 : Nat) ^^^ e < 4294967296 := xor_lt32 (by decide) he
  rw [show (4294967295 : Int) = ((4294967295 : Nat) : Int) from rfl, Lg.u32_xor (by decide) he, Lg.u32_and he hf, Lg.u32_and h1 hg, Lg.u32_xor (and_lt32 hf) (and_lt32 hg), ch_alt hg]
theorem maj_ref {a b c : Nat} (ha : a < 4294967296) (hb : b < 4294967296) (hc : c < 4294967296) : bits .xor .u32 (bits .xor .u32 (bits .and .u32 (a : Int) (b : Int)) (bits .and .u32 (a : Int) (c : Int))) (bits .and .u32 (b : Int) (c : Int)) = ((maj a b c : Nat) : Int) := by
  rw [Lg.u32_and ha hb, Lg.u32_and ha hc, Lg.u32_and hb hc, Lg.u32_xor (and_lt32 hb) (and_lt32 hc), Lg.u32_xor (xor_lt32 (and_lt32 hb) (and_lt32 hc)) (and_lt32 hc), maj_alt]
def rowN (f : Nat → Nat) (x : List Nat) (i : Nat) : List Nat := (List.range i).map f ++ x.drop i
theorem rowN_len (f : Nat → Nat) (x : List Nat) {i : Nat} (_h : i ≤ x.length) : (rowN f x i).length = x.length := by simp [rowN]; omega
theorem rowN_get (f : Nat → Nat) {x : List Nat} {i : Nat} (_h : i < x.length) : (rowN f x i).getD i 0 = x.getD i 0 := by
  simp only [rowN, List.getD_eq_getElem?_getD]
  rw [List.getElem?_append_right (by simp)]
  simp
theorem rowN_set (f : Nat → Nat) {x : List Nat} {i : Nat} (h : i < x.length) : (rowN f x i).set i (f i) = rowN f x (i + 1) := by
  simp only [rowN]
  rw [List.set_append_right _ _ (by simp)]
  simp only [List.length_map, List.length_range, Nat.sub_self]
  rw [List.drop_eq_getElem_cons h, List.set_cons_zero]
  simp [List.range_succ]
def plusB (v s : V) (p : Nat) : Nat := add (v.list.getD p 0) (s.list.getD p 0)
theorem plus_row (v s : V) : rowN (plusB v s) v.list 8 = (v.plus s).list := rfl
theorem list_len (v : V) : v.list.length = 8 := rfl
section
variable {B : Nat} {S R : Ents} {Q : Value → Ents → Prop}

theorem rksC (H : ∀ L, B ≤ L → Q (.slice (some ⟨L, 0, none⟩) 64 64) ((L, cel (u32s ks) 131) :: S)) :
    CallWp Tryz.prog B 166 #[] Q S := by
  refine CallWp.enter (args := []) Tryz.func166 rfl Tryz.ntmps166 rfl ?_
  refine Wp.seq (Wp.region ?_)
  refine OWp.evs 1 rfl ?_
  refine OWp.nil ?_
  refine Wp.seq (Wp.region ?_)
  refine OWp.step rfl (Step.buildSlice rfl rfl rfl ?_); intro L hBL hLL
  refine OWp.evs 1 rfl ?_
  refine OWp.nil ?_
  refine Wp.ret ⟨trivial, _, ⟨_, _, rfl, rfl, rfl⟩, ?_⟩
  exact H L hBL
set_option maxHeartbeats 1000000 in
theorem rmixedC {v : V} {b : List UInt8} (hv : v.ok) (hb : b.length = 64) (H : Q (.agg (u32s (press v b).list).toArray) S) :
    CallWp Tryz.prog B 143 #[.agg (u32s v.list).toArray, .string (str b)] Q S := by
  have hW := blockW_sched b
  refine CallWp.dropRet ?_
  refine CallWp.enter (args := [_, _]) Tryz.func143 rfl Tryz.ntmps143 rfl ?_
  refine Wp.seq (Wp.region ?_)
  refine OWp.step rfl (Step.box rfl rfl rfl ?_); intro Lv hBLv hLLv
  have ec : cellsOf (Value.agg (u32s v.list).toArray) = u32s v.list := rfl
  rw [ec]
  refine OWp.step rfl (Step.alloc rfl rfl rfl ?_); intro Lr hBLr hLLr
  refine OWp.nil ?_
  refine Wp.seq (Wp.region ?_)
  refine OWp.evs 1 rfl ?_
  refine OWp.step rfl (Step.call rfl rfl rfl rfl rfl rfl ((rgrownC hb ?_)))
  intro wv es hown
  obtain ⟨wa, wc, rfl⟩ := hown.reads.form
  obtain ⟨b1, o1, c1, l1, t1, f1, hv1, hmem, _, hg1⟩ := hown.reads.get1 (by omega)
  cases hv1
  have gw : ∀ i, i < 64 → l1[o1 + i * 1]? = some (.int .u32 ((blockW b i : Nat) : Int)) := fun i hi => (hg1 i hi).trans (by rw [u32s_get (by rw [wpre_len]; exact hi), wpre_get _ hi])
  refine OWp.step rfl (Step.call rfl rfl rfl rfl rfl rfl ((rksC ?_)))
  intro Lk hBLk
  refine OWp.evs 2 rfl ?_
  refine OWp.nil ?_
  refine Wp.seq (Wp.region ?_)
  refine OWp.load (.tail _ (List.mem_append_right _ (.tail _ (.head _)))) rfl rfl rfl rfl (agg8 (list_len v)) ?_
  refine OWp.step rfl (Step.alloc rfl rfl rfl ?_); intro Ls hBLs hLLs
  refine OWp.step rfl (Step.storeAs 0 (u32s v.list) rfl rfl rfl rfl rfl hBLs rfl (Unfz.zero _) (u32s_one _) (Nat.le_of_ble_eq_true rfl) (wr_all (X := u32s v.list) rfl) rfl ?_)
  refine OWp.nil ?_
  refine Wp.seq ?_
  refine Wp.seq (Wp.region ?_)
  refine OWp.evs 1 rfl ?_
  refine OWp.nil ?_
  refine Wp.block ?_
  refine Wp.loopS (α := Nat) (fun i => 64 - i) (fun i => [(2, pt Lv), (4, pt Lr), (5, .slice (some ⟨b1, o1, none⟩) 64 wc), (6, .slice (some ⟨Lk, 0, none⟩) 64 64), (7, pt Ls), (8, .int .i64 (i : Int))]) (fun i => (Ls, cel (u32s (rv (blockW b) v i).list) 179) :: (Lk, cel (u32s ks) 131) :: (es ++ (Lr, cel (u32s (List.replicate 8 0)) 179) :: (Lv, cel (u32s v.list) 179) :: S)) (fun i => i ≤ 64) 0 ?_ (.refl _) (Nat.zero_le _) ?_
  · exact .cons rfl (.cons rfl (.cons rfl (.cons rfl (.cons rfl (.cons rfl (.nil _))))))
  intro i hi
  refine Wp.seq ?_
  refine Wp.seq (Wp.region ?_)
  refine OWp.evs 2 rfl ?_
  refine OWp.nil ?_
  refine Wp.cond rfl (fun h1 => ?_) (fun h1 => ?_)
  · have h1 := of_decide_eq_true h1
    have hi2 : i < 64 := by omega
    have hok := rv_ok (W := blockW b) hv i
    have hnext : rv (blockW b) v (i + 1) = round (rv (blockW b) v i) (ks.getD i 0) (blockW b i) := rfl
    generalize rv (blockW b) v i = x at hok hnext ⊢
    obtain ⟨xa, xb, xc, xd, xe, xf, xg, xh⟩ := x
    obtain ⟨ha, hb', hc, hd, he, hf, hg, hh⟩ := hok
    simp only at ha hb' hc hd he hf hg hh
    have kw : ks.getD i 0 < 4294967296 := by
      have : ∀ k ∈ ks, k < 4294967296 := by decide
      exact getD_lt this i
    refine Wp.skip ?_
    refine Wp.seq ?_
    refine Wp.block ?_
    refine Wp.seq (Wp.regionDraw [0, 1, 2, 3, 4, 5, 6, 7, 8, 9, 10, 11, 12, 13, 14, 15, 16, 17] [] rfl (by decide +kernel) ?_)
    refine DWp.g rfl rfl rfl rfl (Gives.indexAddrArr (0) rfl rfl rfl rfl rfl rfl (by omega)) ?_
    refine DWp.load (.head _) rfl rfl rfl rfl rfl rfl rfl ?_
    refine DWp.g rfl rfl rfl rfl (Gives.indexAddrArr (1) rfl rfl rfl rfl rfl rfl (by omega)) ?_
    refine DWp.load (.head _) rfl rfl rfl rfl rfl rfl rfl ?_
    refine DWp.g rfl rfl rfl rfl (Gives.indexAddrArr (2) rfl rfl rfl rfl rfl rfl (by omega)) ?_
    refine DWp.load (.head _) rfl rfl rfl rfl rfl rfl rfl ?_
    refine DWp.g rfl rfl rfl rfl (Gives.indexAddrArr (4) rfl rfl rfl rfl rfl rfl (by omega)) ?_
    refine DWp.load (.head _) rfl rfl rfl rfl rfl rfl rfl ?_
    refine DWp.g rfl rfl rfl rfl (Gives.indexAddrArr (5) rfl rfl rfl rfl rfl rfl (by omega)) ?_
    refine DWp.load (.head _) rfl rfl rfl rfl rfl rfl rfl ?_
    refine DWp.g rfl rfl rfl rfl (Gives.indexAddrArr (6) rfl rfl rfl rfl rfl rfl (by omega)) ?_
    refine DWp.load (.head _) rfl rfl rfl rfl rfl rfl rfl ?_
    refine DWp.evs 6 rfl ?_
    refine DWp.nil ?_
    refine Wp.seq (Wp.regionDraw [0, 1, 2, 4, 7, 11, 12, 13, 14, 15, 16, 17, 18, 20, 21, 22, 23, 25, 26, 27, 28, 3, 5, 6, 8, 9, 10, 19, 24, 29, 30] [3, 5, 8] rfl (by decide +kernel) ?_)
    refine DWp.g rfl rfl rfl rfl (Gives.indexAddrArr (7) rfl rfl rfl rfl rfl rfl (by omega)) ?_
    refine DWp.load (.head _) rfl rfl rfl rfl rfl rfl rfl ?_
    refine DWp.evs 13 rfl ?_
    refine DWp.g rfl rfl rfl rfl (Gives.indexAddrSlice (i) rfl rfl rfl rfl rfl rfl (by omega)) ?_
    refine DWp.load (.tail _ (.head _)) rfl rfl rfl rfl rfl rfl (u32s_part hi2) ?_
    refine DWp.evs 2 rfl ?_
    refine DWp.g rfl rfl rfl rfl (Gives.indexAddrSlice (i) rfl rfl rfl rfl rfl rfl (by omega)) ?_
    refine DWp.load (.tail _ (.tail _ (List.mem_append_left _ hmem))) rfl rfl rfl rfl rfl rfl (gw i hi2) ?_
    refine DWp.stepGrow rfl rfl rfl (Step.call rfl rfl rfl rfl rfl rfl ((rturnEqC (n := 6) rfl he (by decide) ?_)))
    refine ⟨fun _ hy => hy, ?_⟩
    refine DWp.stepGrow rfl rfl rfl (Step.call rfl rfl rfl rfl rfl rfl ((rturnEqC (n := 11) rfl he (by decide) ?_)))
    refine ⟨fun _ hy => hy, ?_⟩
    refine DWp.evs 1 rfl ?_
    refine DWp.stepGrow rfl rfl rfl (Step.call rfl rfl rfl rfl rfl rfl ((rturnEqC (n := 25) rfl he (by decide) ?_)))
    refine ⟨fun _ hy => hy, ?_⟩
    refine DWp.evs 6 rfl ?_
    refine DWp.nil ?_
    obtain ⟨tv, htv⟩ : ∃ tv, tv = tt ⟨xa, xb, xc, xd, xe, xf, xg, xh⟩ (ks.getD i 0) (blockW b i) := ⟨_, rfl⟩
    refine Wp.weaken (E' := [(15, .int .u32 (tv : Int)), (9, .int .u32 (xa : Int)), (10, .int .u32 (xb : Int)), (11, .int .u32 (xc : Int)), (12, .int .u32 (xe : Int)), (13, .int .u32 (xf : Int)), (14, .int .u32 (xg : Int)), (2, pt Lv), (4, pt Lr), (5, .slice (some ⟨b1, o1, none⟩) 64 wc), (6, .slice (some ⟨Lk, 0, none⟩) 64 64), (7, pt Ls), (8, .int .i64 (i : Int))]) (.cons' rfl (int_eq ?_) (.cons rfl (.cons rfl (.cons rfl (.cons rfl (.cons rfl (.cons rfl (.cons rfl (.cons rfl (.cons rfl (.cons rfl (.cons rfl (.cons rfl (.nil _)))))))))))))) (fun _ h => h) ?_
    · show IntKind.u32.wrap (IntKind.u32.wrap (IntKind.u32.wrap (IntKind.u32.wrap ((xh : Int) + bits .xor .u32 (bits .xor .u32 ((rr xe 6 : Nat) : Int) ((rr xe 11 : Nat) : Int)) ((rr xe 25 : Nat) : Int)) + bits .xor .u32 (bits .and .u32 (xe : Int) (xf : Int)) (bits .and .u32 (bits .xor .u32 4294967295 (xe : Int)) (xg : Int))) + ((ks.getD i 0 : Nat) : Int)) + ((blockW b i : Nat) : Int)) = _
      rw [xor3_term (rr_lt he (by decide)) (rr_lt he (by decide)) (rr_lt he (by decide)), ch_ref he hf hg, u32_add, u32_add, u32_add, u32_add, htv, ← tt_ref]
      rfl
    refine Wp.seq (Wp.region ?_)
    refine OWp.evs 1 rfl ?_
    refine OWp.step rfl (Step.call rfl rfl rfl rfl rfl rfl ((rturnEqC (n := 2) rfl ha (by decide) ?_)))
    refine OWp.evs 1 rfl ?_
    refine OWp.step rfl (Step.call rfl rfl rfl rfl rfl rfl ((rturnEqC (n := 13) rfl ha (by decide) ?_)))
    refine OWp.evs 2 rfl ?_
    refine OWp.step rfl (Step.call rfl rfl rfl rfl rfl rfl ((rturnEqC (n := 22) rfl ha (by decide) ?_)))
    refine OWp.evs 14 rfl ?_
    refine OWp.nil ?_
    obtain ⟨uv, huv⟩ : ∃ uv, uv = uu ⟨xa, xb, xc, xd, xe, xf, xg, xh⟩ := ⟨_, rfl⟩
    refine Wp.weaken (E' := [(16, .int .u32 (uv : Int)), (15, .int .u32 (tv : Int)), (9, .int .u32 (xa : Int)), (10, .int .u32 (xb : Int)), (11, .int .u32 (xc : Int)), (12, .int .u32 (xe : Int)), (13, .int .u32 (xf : Int)), (14, .int .u32 (xg : Int)), (2, pt Lv), (4, pt Lr), (5, .slice (some ⟨b1, o1, none⟩) 64 wc), (6, .slice (some ⟨Lk, 0, none⟩) 64 64), (7, pt Ls), (8, .int .i64 (i : Int))]) (.cons' rfl (int_eq ?_) (.cons rfl (.cons rfl (.cons rfl (.cons rfl (.cons rfl (.cons rfl (.cons rfl (.cons rfl (.cons rfl (.cons rfl (.cons rfl (.cons rfl (.cons rfl (.nil _))))))))))))))) (fun _ h => h) ?_
    · show IntKind.u32.wrap (bits .xor .u32 (bits .xor .u32 ((rr xa 2 : Nat) : Int) ((rr xa 13 : Nat) : Int)) ((rr xa 22 : Nat) : Int) + bits .xor .u32 (bits .xor .u32 (bits .and .u32 (xa : Int) (xb : Int)) (bits .and .u32 (xa : Int) (xc : Int))) (bits .and .u32 (xb : Int) (xc : Int))) = _
      rw [xor3_term (rr_lt ha (by decide)) (rr_lt ha (by decide)) (rr_lt ha (by decide)), maj_ref ha hb' hc, u32_add, huv]
      rfl
    refine Wp.region ?_
    refine OWp.evs 6 rfl ?_
    refine OWp.g rfl rfl (Gives.indexAddrArr (3) rfl rfl rfl rfl rfl rfl (by omega)) ?_
    refine OWp.load (.head _) rfl rfl rfl rfl rfl ?_
    refine OWp.evs 5 rfl ?_
    refine OWp.g rfl rfl (Gives.build rfl rfl) ?_
    refine OWp.step rfl (Step.storeAs 0 (u32s (rv (blockW b) v (i + 1)).list) rfl rfl rfl rfl rfl hBLs rfl (Unfz.zero _) rfl (Nat.le_of_ble_eq_true rfl) ((wr_all rfl).trans (by rw [hnext, round_list, ← htv, ← huv]; show [Value.int .u32 (IntKind.u32.wrap ((tv : Int) + (uv : Int))), .int .u32 (xa : Int), .int .u32 (xb : Int), .int .u32 (xc : Int), .int .u32 (IntKind.u32.wrap ((xd : Int) + (tv : Int))), .int .u32 (xe : Int), .int .u32 (xf : Int), .int .u32 (xg : Int)] = _; rw [u32_add, u32_add]; rfl)) rfl ?_)
    refine OWp.nil ?_
    refine Wp.region ?_
    refine OWp.evs 3 rfl ?_
    refine OWp.nil ?_
    exact ⟨i + 1, by omega, by omega, .cons rfl (.cons rfl (.cons rfl (.cons rfl (.cons rfl (.cons' rfl (int_eq (i64_inc (by omega))) (.nil _)))))), .refl _⟩
  have h1 := of_decide_eq_false h1
  obtain rfl : i = 64 := by omega
  obtain ⟨s, hs⟩ : ∃ s, s = rv (blockW b) v 64 := ⟨_, rfl⟩
  have hpr : press v b = v.plus s := by rw [press_rv, hs]
  rw [hpr] at H
  rw [← hs]
  refine Wp.drop (S' := (Ls, cel (u32s s.list) 179) :: (Lr, cel (u32s (List.replicate 8 0)) 179) :: (Lv, cel (u32s v.list) 179) :: S) (List.Sublist.cons_cons _ (List.Sublist.cons _ (List.sublist_append_right es _))) ?_
  refine Wp.exit ?_
  refine Wp.seq ?_
  refine Wp.seq (Wp.region ?_)
  refine OWp.evs 1 rfl ?_
  refine OWp.nil ?_
  refine Wp.block ?_
  refine Wp.loopS (α := Nat) (fun i => 8 - i) (fun i => [(2, pt Lv), (4, pt Lr), (7, pt Ls), (17, .int .i64 (i : Int))]) (fun i => (Ls, cel (u32s s.list) 179) :: (Lr, cel (u32s (List.replicate 8 0)) 179) :: (Lv, cel (u32s (rowN (plusB v s) v.list i)) 179) :: S) (fun i => i ≤ 8) 0 ?_ (.refl _) (Nat.zero_le _) ?_
  · exact .cons rfl (.cons rfl (.cons rfl (.cons rfl (.nil _))))
  intro i hi
  refine Wp.seq ?_
  refine Wp.seq (Wp.region ?_)
  refine OWp.evs 2 rfl ?_
  refine OWp.nil ?_
  refine Wp.cond rfl (fun h2 => ?_) (fun h2 => ?_)
  · have h2 := of_decide_eq_true h2
    have hi2 : i < 8 := by omega
    have hl := rowN_len (plusB v s) v.list hi
    refine Wp.skip ?_
    refine Wp.seq ?_
    refine Wp.block ?_
    refine Wp.regionDraw [0, 1, 2, 3, 4, 5, 6, 7, 8] [8] rfl (by decide +kernel) ?_
    refine DWp.evs 1 rfl ?_
    refine DWp.g rfl rfl rfl rfl (Gives.indexAddrArr (i) rfl rfl rfl rfl rfl rfl (by omega)) ?_
    refine DWp.load (.tail _ (.tail _ (.head _))) rfl rfl rfl rfl rfl rfl (u32s_part (by rw [hl]; exact hi2)) ?_
    refine DWp.evs 1 rfl ?_
    refine DWp.g rfl rfl rfl rfl (Gives.indexAddrArr (i) rfl rfl rfl rfl rfl rfl (by omega)) ?_
    refine DWp.load (.head _) rfl rfl rfl rfl rfl rfl (u32s_part hi2) ?_
    refine DWp.evs 1 rfl ?_
    refine DWp.g rfl rfl rfl rfl (Gives.indexAddrArr (i) rfl rfl rfl rfl rfl rfl (by omega)) ?_
    refine DWp.stepAll rfl rfl rfl rfl (Step.storeAs 2 (u32s (rowN (plusB v s) v.list (i + 1))) rfl rfl rfl rfl rfl hBLv rfl (Unfz.zero _) rfl (by rw [u32s_length, hl]; show 0 + i * 1 + 1 ≤ 8; omega) (by rw [rowN_get _ hi2, u32_add, ← rowN_set _ hi2]; exact u32s_set (by rw [hl]; exact hi2) (by show 0 + i * 1 = i; omega)) rfl ?_)
    refine DWp.nil ?_
    refine Wp.region ?_
    refine OWp.evs 3 rfl ?_
    refine OWp.nil ?_
    exact ⟨i + 1, by omega, by omega, .cons rfl (.cons rfl (.cons rfl (.cons' rfl (int_eq (i64_inc (by omega))) (.nil _)))), .refl _⟩
  have h2 := of_decide_eq_false h2
  obtain rfl : i = 8 := by omega
  rw [plus_row]
  refine Wp.exit ?_
  refine Wp.seq (Wp.region ?_)
  refine OWp.load (.tail _ (.tail _ (.head _))) rfl rfl rfl rfl (agg8 (list_len _)) ?_
  refine OWp.step rfl (Step.storeAs 1 (u32s (v.plus s).list) rfl rfl rfl rfl rfl hBLr rfl (Unfz.zero _) (u32s_one _) (Nat.le_of_ble_eq_true rfl) (wr_all (X := u32s (v.plus s).list) rfl) rfl ?_)
  have hp : Lg.partAt Tryz.prog 179 (u32s (v.plus s).list) 0 = some (.agg (u32s (v.plus s).list).toArray) := agg8 (list_len _)
  refine OWp.nil ?_
  refine Wp.ret ⟨trivial, _, ⟨_, _, _, _, rfl, rfl, ⟨_, _, _, mems, (by first | assumption | rfl)⟩, rfl⟩, ?_⟩
  exact ⟨S, subl, H⟩
end
end Go.Proofs.D

namespace Go.Proofs.D
open Go.Lg Go.Sha
set_option maxRecDepth 100000

theorem outB_term (v : V) {i c : Nat} (hi : i < 8) (hc : c < 4) : IntKind.u8.wrap (((v.list.getD i 0 : Nat) : Int).fdiv (2 ^ (min (8 * (3 - c)) IntKind.u32.bits))) = ((outB v (4 * i + c)).toNat : Int) := by
  have := out_step v (4 * i + c) (by omega)
  rw [show (4 * i + c) / 4 = i by omega, show (4 * i + c) % 4 = c by omega, show 24 - c * 8 = 8 * (3 - c) by omega] at this
  exact this
theorem range_snoc {α : Type} (f : Nat → α) (n : Nat) : (List.range (n + 1)).map f = (List.range n).map f ++ [f n] := by simp [List.range_succ]
theorem bc_snoc (l : List UInt8) (b : UInt8) : byteCells (l ++ [b]) = byteCells l ++ [.int .u8 (b.toNat : Int)] := by simp [byteCells]
theorem rowB_set (f : Nat → UInt8) {x : List UInt8} {i o : Nat} {z : Int} (h : i < x.length) (hz : z = ((f i).toNat : Int)) (ho : o = i) :
    wr (byteCells (rowAt f x i)) o (Value.int .u8 z).cells.toList = byteCells (rowAt f x (i + 1)) := by
  have := rowAt_set (g := []) f h hz ho
  rwa [List.append_nil, List.append_nil] at this
theorem rowAt_pad {k : List UInt8} (y : UInt8) (h : k.length ≤ 64) : rowAt (padB k y) (List.replicate 64 0) 64 = (k ++ List.replicate (64 - k.length) 0).map (· ^^^ y) := by
  unfold rowAt
  rw [List.drop_of_length_le (by simp), List.append_nil, padB_all y h]

section
variable {B : Nat} {S R : Ents} {Q : Value → Ents → Prop}

theorem rmixedEqC {v : V} {b b' : List UInt8} (hbb : b' = b) (hv : v.ok) (hb : b.length = 64) (H : Q (.agg (u32s (press v b).list).toArray) S) :
    CallWp Tryz.prog B 143 #[.agg (u32s v.list).toArray, .string (str b')] Q S := by
  subst hbb; exact rmixedC hv hb H

set_option maxHeartbeats 1000000 in
theorem rdigestC {s : List UInt8} (hs : s.length + 1000 ≤ big) (H : Q (.string (str (sha s))) S) :
    CallWp Tryz.prog B 109 #[.string (str s)] Q S := by
  have hb : big = 281474976710656 := rfl
  obtain ⟨x, hx⟩ : ∃ x, x = s ++ pad s.length := ⟨_, rfl⟩
  obtain ⟨N, hN⟩ : ∃ N, N = (s.length + 72) / 64 := ⟨_, rfl⟩
  have hxl : x.length = 64 * N := by rw [hx, List.length_append, Go.Proofs.D.pad_len, hN]; omega
  have hsha : sha s = out (pressAll N v0 x) := by rw [hx, hN]; rfl
  rw [hsha] at H
  have hNb : 64 * N ≤ 281474976710656 := by rw [hb] at hs; omega
  refine CallWp.dropRet ?_
  refine CallWp.enter (args := [_]) Tryz.func109 rfl Tryz.ntmps109 rfl ?_
  refine Wp.seq (Wp.region ?_)
  refine OWp.evs 1 rfl ?_
  refine OWp.nil ?_
  refine Wp.seq (Wp.region ?_)
  refine OWp.g rfl rfl (Gives.build rfl rfl) ?_
  refine OWp.step rfl (Step.alloc rfl rfl rfl ?_); intro L hBL hLL
  refine OWp.step rfl (Step.storeAs 0 (u32s v0.list) rfl rfl rfl rfl rfl hBL rfl (Unfz.zero _) rfl (Nat.le_of_ble_eq_true rfl) rfl rfl ?_)
  refine OWp.nil ?_
  refine Wp.seq (Wp.region ?_)
  refine OWp.evs 1 rfl ?_
  refine OWp.step rfl (Step.call rfl rfl rfl rfl rfl rfl ((rwholeC hs ?_)))
  rw [← hx]
  refine OWp.evs 1 rfl ?_
  refine OWp.nil ?_
  refine Wp.seq ?_
  refine Wp.seq (Wp.region ?_)
  refine OWp.evs 1 rfl ?_
  refine OWp.nil ?_
  refine Wp.block ?_
  refine Wp.loopS (α := Nat) (fun i => N - i) (fun i => [(3, pt L), (4, .string (str x)), (5, .int .i64 ((64 * i : Nat) : Int))]) (fun i => (L, cel (u32s (pressAll i v0 x).list) 179) :: S) (fun i => i ≤ N) 0 ?_ (.refl _) (Nat.zero_le _) ?_
  · exact .cons rfl (.cons rfl (.cons rfl (.nil _)))
  intro i hi
  refine Wp.seq ?_
  refine Wp.seq (Wp.region ?_)
  refine OWp.evs 4 rfl ?_
  refine OWp.nil ?_
  refine Wp.cond rfl (fun h1 => ?_) (fun h1 => ?_)
  · have h1 := of_decide_eq_true h1
    have hi2 : i < N := by omega
    refine Wp.skip ?_
    refine Wp.seq ?_
    refine Wp.block ?_
    refine Wp.regionDraw [0, 1, 2, 3, 4, 5, 6, 7] [6, 7] rfl (by decide +kernel) ?_
    refine DWp.load (.head _) rfl rfl rfl rfl rfl rfl (agg8 (list_len _)) ?_
    refine DWp.evs 4 rfl ?_
    refine DWp.g rfl rfl rfl rfl (Gives.sliceStr (l := (64 * i)) (h' := (64 * i + 64)) rfl rfl rfl ⟨_, _, rfl, rfl⟩ ⟨_, _, rfl, by rw [i64_id] <;> omega⟩ (by omega) (by rw [hxl]; omega)) ?_
    refine DWp.stepGrow rfl rfl rfl (Step.call rfl rfl rfl rfl rfl rfl ((rmixedEqC (b := (x.drop (64 * i)).take 64) (by rw [Nat.add_sub_cancel_left]) (pressAll_ok i x v0_ok) (by rw [List.length_take, List.length_drop, hxl]; omega) ?_)))
    refine ⟨fun _ hy => hy, ?_⟩
    refine DWp.stepAll rfl rfl rfl rfl (Step.storeAs 0 (u32s (pressAll (i + 1) v0 x).list) rfl rfl rfl rfl rfl hBL (by show some 8 = some (u32s _).length; rw [u32s_length, list_len]) (Unfz.zero _) (u32s_one _) (by show 0 + (u32s _).length ≤ (u32s _).length; rw [u32s_length, u32s_length, list_len, list_len]; decide) (by rw [pressAll_succ]; exact wr_all (X := u32s _) (by rw [u32s_length, u32s_length, list_len, list_len])) rfl ?_)
    refine DWp.nil ?_
    refine Wp.region ?_
    refine OWp.evs 3 rfl ?_
    refine OWp.nil ?_
    exact ⟨i + 1, by omega, by omega, .cons rfl (.cons rfl (.cons' rfl (int_eq (by rw [i64_id] <;> omega)) (.nil _))), .refl _⟩
  have h1 := of_decide_eq_false h1
  obtain rfl : i = N := by omega
  obtain ⟨v, hv⟩ : ∃ v, v = pressAll i v0 x := ⟨_, rfl⟩
  rw [← hv] at H ⊢
  refine Wp.exit ?_
  refine Wp.seq (Wp.region ?_)
  refine OWp.evs 1 rfl ?_
  refine OWp.nil ?_
  refine Wp.seq ?_
  refine Wp.seq (Wp.region ?_)
  refine OWp.evs 1 rfl ?_
  refine OWp.nil ?_
  refine Wp.block ?_
  refine Wp.loopS (α := Nat × Value × Ents) (fun z => 8 - z.1) (fun z => [(3, pt L), (6, z.2.1), (7, .int .i64 (z.1 : Int))]) (fun z => z.2.2 ++ (L, cel (u32s v.list) 179) :: S) (fun z => z.1 ≤ 8 ∧ Lg.Own B 5 1 z.2.1 (4 * z.1) (byteCells ((List.range (4 * z.1)).map (outB v))) z.2.2) (0, .slice none 0 0, []) ?_ (.refl _) ⟨Nat.zero_le _, Own.nil _ _ _⟩ ?_
  · exact .cons rfl (.cons rfl (.cons rfl (.nil _)))
  rintro ⟨j, w, es⟩ ⟨hj, hown⟩
  simp only at hj hown ⊢
  refine Wp.seq ?_
  refine Wp.seq (Wp.region ?_)
  refine OWp.evs 2 rfl ?_
  refine OWp.nil ?_
  refine Wp.cond rfl (fun h2 => ?_) (fun h2 => ?_)
  · have h2 := of_decide_eq_true h2
    have hj2 : j < 8 := by omega
    refine Wp.skip ?_
    refine Wp.seq ?_
    refine Wp.block ?_
    refine Wp.seq (Wp.region ?_)
    refine OWp.evs 1 rfl ?_
    refine OWp.nil ?_
    refine Wp.block ?_
    refine Wp.loopS (α := Nat × Value × Ents) (fun z => 4 - z.1) (fun z => [(3, pt L), (6, z.2.1), (7, .int .i64 (j : Int)), (8, .int .i64 (3 - (z.1 : Int)))]) (fun z => z.2.2 ++ (L, cel (u32s v.list) 179) :: S) (fun z => z.1 ≤ 4 ∧ Lg.Own B 5 1 z.2.1 (4 * j + z.1) (byteCells ((List.range (4 * j + z.1)).map (outB v))) z.2.2) (0, w, es) ?_ (.refl _) ⟨Nat.zero_le _, hown⟩ ?_
    · exact .cons rfl (.cons rfl (.cons rfl (.cons rfl (.nil _))))
    clear hown
    rintro ⟨c, w2, es2⟩ ⟨hc, hown⟩
    simp only at hc hown ⊢
    refine Wp.seq ?_
    refine Wp.seq (Wp.region ?_)
    refine OWp.evs 2 rfl ?_
    refine OWp.nil ?_
    refine Wp.cond rfl (fun h3 => ?_) (fun h3 => ?_)
    · have h3 := of_decide_eq_true h3
      have hc2 : c < 4 := by omega
      refine Wp.skip ?_
      refine Wp.seq ?_
      refine Wp.block ?_
      refine Wp.region ?_
      refine OWp.evs 2 rfl ?_
      refine OWp.g rfl rfl (Gives.indexAddrArr (j) rfl rfl rfl rfl rfl rfl (by omega)) ?_
      refine OWp.load (List.mem_append_right _ (.head _)) rfl rfl rfl rfl (u32s_part hj2) ?_
      refine OWp.evs 2 rfl ?_
      refine OWp.g rfl rfl (Gives.shr (m := 8 * (3 - c)) rfl rfl rfl (by rw [i64_id] <;> omega)) ?_
      refine OWp.evs 1 rfl ?_
      refine OWp.step rfl (Step.buildSlice rfl rfl rfl ?_); intro Lp1 hBLp1 hLLp1
      refine OWp.step rfl (Step.appendAt [_] rfl rfl rfl rfl rfl rfl (by decide) rfl rfl hown (Reads.row (k := 1) (sz := 1) (.head _) (Nat.le_of_ble_eq_true rfl)) rfl (by show (_ + 1) * 1 ≤ _; omega) (by unfold maxLen; omega) ?_); intro w3 es3 ho3 _
      refine OWp.dropAt 0 rfl ?_
      refine OWp.evs 1 rfl ?_
      refine OWp.nil ?_
      refine Wp.region ?_
      refine OWp.evs 3 rfl ?_
      refine OWp.nil ?_
      refine ⟨(c + 1, w3, es3), by simp only; omega, ⟨by simp only; omega, ?_⟩, .cons rfl (.cons rfl (.cons rfl (.cons' rfl (int_eq (by simp only; rw [i64_id] <;> omega)) (.nil _)))), .refl _⟩
      simp only
      rw [show 4 * j + (c + 1) = 4 * j + c + 1 by omega, range_snoc, bc_snoc]
      exact own_last ho3 (int_eq (outB_term v hj2 hc2))
    have h3 := of_decide_eq_false h3
    obtain rfl : c = 4 := by omega
    refine Wp.exit ?_
    refine Wp.region ?_
    refine OWp.evs 3 rfl ?_
    refine OWp.nil ?_
    exact ⟨(j + 1, w2, es2), by simp only; omega, ⟨by simp only; omega, by simp only; rw [show 4 * (j + 1) = 4 * j + 4 by omega]; exact hown⟩, .cons rfl (.cons rfl (.cons' rfl (int_eq (i64_inc (by omega))) (.nil _))), .refl _⟩
  have h2 := of_decide_eq_false h2
  obtain rfl : j = 8 := by omega
  refine Wp.exit ?_
  refine Wp.seq (Wp.region ?_)
  refine OWp.evs 1 rfl ?_
  refine OWp.gives rfl rfl (Gives.bytesToStr (F := es) (l := (List.range 32).map (outB v)) (k := 32) rfl rfl rfl rfl rfl hown.reads) (fun x hx => List.mem_append_left _ hx) ?_
  refine OWp.evs 1 rfl ?_
  refine OWp.nil ?_
  refine Wp.ret ⟨trivial, _, ⟨_, _, rfl, rfl, rfl⟩, ?_⟩
  exact ⟨S, (List.sublist_cons_self _ _).trans (List.sublist_append_right _ _), by rw [← out_range]; exact H⟩
end
end Go.Proofs.D

namespace Go.Proofs.D
open Go.Lg Go.Sha
set_option maxRecDepth 100000
theorem one_byte {L : Nat} {t : TypeId} {S : Ents} {a : Int} {x : UInt8} (ha : a = (x.toNat : Int)) : Reads ((L, cel [.int .u8 a] t) :: S) 1 (.slice (some ⟨L, 0, none⟩) 1 1) 1 (byteCells [x]) := by
  subst ha; exact Reads.row (k := 1) (sz := 1) (.head _) (Nat.le_of_ble_eq_true rfl)

section
variable {B : Nat} {S R : Ents} {Q : Value → Ents → Prop}

set_option maxHeartbeats 1000000 in
theorem rtagC {key text : List UInt8} (hk : key.length + 1000 ≤ big) (ht : text.length + 2000 ≤ big) (H : Q (.string (str (hmac key text))) S) :
    CallWp Tryz.prog B 75 #[.string (str key), .string (str text)] Q S := by
  have hb : big = 281474976710656 := rfl
  refine CallWp.dropRet ?_
  refine CallWp.enter (args := [_, _]) Tryz.func75 rfl Tryz.ntmps75 rfl ?_
  refine Wp.seq (Wp.region ?_)
  refine OWp.evs 1 rfl ?_
  refine OWp.nil ?_
  refine Wp.seqS (α := List UInt8) (fun x => [(0, .string (str x)), (1, .string (str text))]) (fun _ => S) (fun x => x = if 64 < key.length then sha key else key) ?_ ?_
  · skip
    refine Wp.seq (Wp.region ?_)
    refine OWp.evs 3 rfl ?_
    refine OWp.nil ?_
    refine Wp.cond rfl (fun h1 => ?_) (fun h1 => ?_)
    · have h1 := of_decide_eq_true h1
      refine Wp.region ?_
      refine OWp.evs 1 rfl ?_
      refine OWp.step rfl (Step.call rfl rfl rfl rfl rfl rfl ((rdigestC hk ?_)))
      refine OWp.evs 1 rfl ?_
      refine OWp.nil ?_
      exact ⟨_, rfl, .cons' rfl (by rw [if_pos (by omega)]) (.cons rfl (.nil _)), .refl _⟩
    have h1 := of_decide_eq_false h1
    refine Wp.skip ?_
    exact ⟨_, rfl, .cons' rfl (by rw [if_neg (by omega)]) (.cons rfl (.nil _)), .refl _⟩
  rintro x hx
  have hx64 : x.length ≤ 64 := by subst hx; split <;> first | omega | (rw [sha_len]; omega)
  have e54 : rowAt (padB x 54) (List.replicate 64 0) 64 = keyPad key 54 := by rw [rowAt_pad _ hx64, hx]; rfl
  have e92 : rowAt (padB x 92) (List.replicate 64 0) 64 = keyPad key 92 := by rw [rowAt_pad _ hx64, hx]; rfl
  refine Wp.seq (Wp.regionDraw [4, 4, 4, 4] [0, 1] rfl (by decide +kernel) ?_)
  refine DWp.fork (i := 0) (j := 1) (r1 := [2, 1, 3]) (r2 := [0, 2, 3]) (by decide +kernel) rfl rfl rfl rfl (by decide +kernel) (by decide +kernel) rfl rfl ?_ ?_
  · skip
    refine (Step.makeSlice (len := 64) (cap := 64) rfl rfl rfl rfl rfl rfl (by decide) rfl rfl (Nat.le_refl _) (by decide) (by decide) ?_)
    intro Li hBi _
    refine ⟨fun _ hy => .tail _ hy, ?_⟩
    refine DWp.evs 1 rfl ?_
    refine DWp.stepAll rfl rfl rfl rfl (Step.makeSlice (len := 64) (cap := 64) rfl rfl rfl rfl rfl rfl (by decide) rfl rfl (Nat.le_refl _) (by decide) (by decide) ?_)
    intro Lo hBo _
    refine DWp.evs 1 rfl ?_
    refine DWp.nil ?_
    refine Wp.permS (.swap _ _ _) ?_
    have ez : zeros (cellsOf (Value.int .u8 0)) 64 = byteCells (rowAt (padB x 54) (List.replicate 64 0) 0) := by rw [rowAt_zero]; exact zeros_u8 64
    have ez2 : zeros (cellsOf (Value.int .u8 0)) 64 = byteCells (rowAt (padB x 92) (List.replicate 64 0) 0) := by rw [rowAt_zero]; exact zeros_u8 64
    refine Wp.seq ?_
    refine Wp.seq (Wp.region ?_)
    refine OWp.evs 1 rfl ?_
    refine OWp.nil ?_
    refine Wp.block ?_
    refine Wp.loopS (α := Nat) (fun i => 64 - i) (fun i => [(0, .string (str x)), (1, .string (str text)), (5, .slice (some ⟨Li, 0, none⟩) 64 64), (6, .slice (some ⟨Lo, 0, none⟩) 64 64), (7, .int .i64 (i : Int))]) (fun i => (Li, cel (byteCells (rowAt (padB x 54) (List.replicate 64 0) i)) 5) :: (Lo, cel (byteCells (rowAt (padB x 92) (List.replicate 64 0) i)) 5) :: S) (fun i => i ≤ 64) 0 ?_ (by rw [← ez, ← ez2]) (Nat.zero_le _) ?_
    · exact .cons rfl (.cons rfl (.cons rfl (.cons rfl (.cons rfl (.nil _)))))
    intro i hi
    refine Wp.seq ?_
    refine Wp.seq (Wp.region ?_)
    refine OWp.evs 2 rfl ?_
    refine OWp.nil ?_
    refine Wp.cond rfl (fun k1 => ?_) (fun k1 => ?_)
    · have k1 := of_decide_eq_true k1
      have hi2 : i < 64 := by omega
      refine Wp.skip ?_
      refine Wp.seq ?_
      refine Wp.block ?_
      refine Wp.seq (Wp.region ?_)
      refine OWp.evs 1 rfl ?_
      refine OWp.nil ?_
      refine Wp.seqS (α := Unit) (fun _ => [(0, .string (str x)), (1, .string (str text)), (5, .slice (some ⟨Li, 0, none⟩) 64 64), (6, .slice (some ⟨Lo, 0, none⟩) 64 64), (7, .int .i64 (i : Int)), (8, .int .u8 ((x.getD i 0).toNat : Int))]) (fun _ => (Li, cel (byteCells (rowAt (padB x 54) (List.replicate 64 0) i)) 5) :: (Lo, cel (byteCells (rowAt (padB x 92) (List.replicate 64 0) i)) 5) :: S) (fun _ => True) ?_ ?_
      · skip
        refine Wp.seq (Wp.region ?_)
        refine OWp.evs 4 rfl ?_
        refine OWp.nil ?_
        refine Wp.cond rfl (fun k2 => ?_) (fun k2 => ?_)
        · have k2 := of_decide_eq_true k2
          refine Wp.region ?_
          refine OWp.evs 2 rfl ?_
          refine OWp.g rfl rfl (Gives.indexStr (b := (x.getD i 0)) rfl rfl rfl rfl (by omega) (getD_some (by omega))) ?_
          refine OWp.evs 1 rfl ?_
          refine OWp.nil ?_
          exact ⟨(), trivial, .cons rfl (.cons rfl (.cons rfl (.cons rfl (.cons rfl (.cons rfl (.nil _)))))), .refl _⟩
        have k2 := of_decide_eq_false k2
        have hz : x.getD i 0 = 0 := by rw [List.getD_eq_getElem?_getD, List.getElem?_eq_none (by omega)]; rfl
        refine Wp.skip ?_
        exact ⟨(), trivial, .cons rfl (.cons rfl (.cons rfl (.cons rfl (.cons rfl (.cons' rfl (int_eq (by rw [hz]; rfl)) (.nil _)))))), .refl _⟩
      rintro ⟨⟩ -
      refine Wp.seq (Wp.region ?_)
      refine OWp.evs 4 rfl ?_
      refine OWp.g rfl rfl (Gives.indexAddrSlice (i) rfl rfl rfl rfl rfl rfl (by omega)) ?_
      refine OWp.step rfl (Step.storeAs 0 (byteCells (rowAt (padB x 54) (List.replicate 64 0) (i + 1))) rfl rfl rfl rfl rfl hBi rfl (Unfz.zero _) rfl (by rw [byteCells_length, rowAt_len _ _ (by rw [List.length_replicate]; exact hi), List.length_replicate]; show 0 + i * 1 + 1 ≤ 64; omega) (rowB_set _ (by rw [List.length_replicate]; exact hi2) (xor8 _ 54) (by show 0 + i * 1 = i; omega)) rfl ?_)
      refine OWp.nil ?_
      refine Wp.region ?_
      refine OWp.evs 4 rfl ?_
      refine OWp.g rfl rfl (Gives.indexAddrSlice (i) rfl rfl rfl rfl rfl rfl (by omega)) ?_
      refine OWp.step rfl (Step.storeAs 1 (byteCells (rowAt (padB x 92) (List.replicate 64 0) (i + 1))) rfl rfl rfl rfl rfl hBo rfl (Unfz.zero _) rfl (by rw [byteCells_length, rowAt_len _ _ (by rw [List.length_replicate]; exact hi), List.length_replicate]; show 0 + i * 1 + 1 ≤ 64; omega) (rowB_set _ (by rw [List.length_replicate]; exact hi2) (xor8 _ 92) (by show 0 + i * 1 = i; omega)) rfl ?_)
      refine OWp.nil ?_
      refine Wp.region ?_
      refine OWp.evs 3 rfl ?_
      refine OWp.nil ?_
      exact ⟨i + 1, by omega, by omega, .cons rfl (.cons rfl (.cons rfl (.cons rfl (.cons' rfl (int_eq (i64_inc (by omega))) (.nil _))))), .refl _⟩
    have k1 := of_decide_eq_false k1
    obtain rfl : i = 64 := by omega
    rw [e54, e92]
    refine Wp.exit ?_
    refine Wp.seq (Wp.regionDraw [0, 1, 2, 3, 4, 5, 6, 7, 8, 9] [6, 8] rfl (by decide +kernel) ?_)
    refine DWp.evs 1 rfl ?_
    refine DWp.gives rfl rfl rfl rfl (Gives.bytesToStr (F := [(Lo, cel (byteCells (keyPad key 92)) 5)]) (l := keyPad key 92) (k := 64) rfl rfl rfl rfl rfl (bc_reads (keyPad_len _ _) (.head _))) (mem1 (.tail _ (.head _))) ?_
    refine DWp.evs 1 rfl ?_
    refine DWp.gives rfl rfl rfl rfl (Gives.bytesToStr (F := [(Li, cel (byteCells (keyPad key 54)) 5)]) (l := keyPad key 54) (k := 64) rfl rfl rfl rfl rfl (bc_reads (keyPad_len _ _) (.head _))) (mem1 (.head _)) ?_
    refine DWp.evs 1 rfl ?_
    refine DWp.g rfl rfl rfl rfl (Gives.addStr rfl rfl rfl (by rw [hb] at ht; rw [keyPad_len]; omega)) ?_
    refine DWp.stepGrow rfl rfl rfl (Step.call rfl rfl rfl rfl rfl rfl ((rdigestC (by rw [List.length_append, keyPad_len]; omega) ?_)))
    refine ⟨fun _ hy => hy, ?_⟩
    refine DWp.g rfl rfl rfl rfl (Gives.addStr rfl rfl rfl (by rw [sha_len, keyPad_len]; omega)) ?_
    refine DWp.stepGrow rfl rfl rfl (Step.call rfl rfl rfl rfl rfl rfl ((rdigestC (by rw [List.length_append, keyPad_len, sha_len, hb]; decide) ?_)))
    refine ⟨fun _ hy => hy, ?_⟩
    refine DWp.evs 1 rfl ?_
    refine DWp.nil ?_
    refine Wp.ret ⟨trivial, _, ⟨_, _, rfl, rfl, rfl⟩, ?_⟩
    exact ⟨S, subl, H⟩
  refine (Step.makeSlice (len := 64) (cap := 64) rfl rfl rfl rfl rfl rfl (by decide) rfl rfl (Nat.le_refl _) (by decide) (by decide) ?_)
  intro Lo hBo _
  refine ⟨fun _ hy => .tail _ hy, ?_⟩
  refine DWp.stepAll rfl rfl rfl rfl (Step.makeSlice (len := 64) (cap := 64) rfl rfl rfl rfl rfl rfl (by decide) rfl rfl (Nat.le_refl _) (by decide) (by decide) ?_)
  intro Li hBi _
  refine DWp.evs 2 rfl ?_
  refine DWp.nil ?_
  have ez : zeros (cellsOf (Value.int .u8 0)) 64 = byteCells (rowAt (padB x 54) (List.replicate 64 0) 0) := by rw [rowAt_zero]; exact zeros_u8 64
  have ez2 : zeros (cellsOf (Value.int .u8 0)) 64 = byteCells (rowAt (padB x 92) (List.replicate 64 0) 0) := by rw [rowAt_zero]; exact zeros_u8 64
  refine Wp.seq ?_
  refine Wp.seq (Wp.region ?_)
  refine OWp.evs 1 rfl ?_
  refine OWp.nil ?_
  refine Wp.block ?_
  refine Wp.loopS (α := Nat) (fun i => 64 - i) (fun i => [(0, .string (str x)), (1, .string (str text)), (5, .slice (some ⟨Li, 0, none⟩) 64 64), (6, .slice (some ⟨Lo, 0, none⟩) 64 64), (7, .int .i64 (i : Int))]) (fun i => (Li, cel (byteCells (rowAt (padB x 54) (List.replicate 64 0) i)) 5) :: (Lo, cel (byteCells (rowAt (padB x 92) (List.replicate 64 0) i)) 5) :: S) (fun i => i ≤ 64) 0 ?_ (by rw [← ez, ← ez2]) (Nat.zero_le _) ?_
  · exact .cons rfl (.cons rfl (.cons rfl (.cons rfl (.cons rfl (.nil _)))))
  intro i hi
  refine Wp.seq ?_
  refine Wp.seq (Wp.region ?_)
  refine OWp.evs 2 rfl ?_
  refine OWp.nil ?_
  refine Wp.cond rfl (fun k1 => ?_) (fun k1 => ?_)
  · have k1 := of_decide_eq_true k1
    have hi2 : i < 64 := by omega
    refine Wp.skip ?_
    refine Wp.seq ?_
    refine Wp.block ?_
    refine Wp.seq (Wp.region ?_)
    refine OWp.evs 1 rfl ?_
    refine OWp.nil ?_
    refine Wp.seqS (α := Unit) (fun _ => [(0, .string (str x)), (1, .string (str text)), (5, .slice (some ⟨Li, 0, none⟩) 64 64), (6, .slice (some ⟨Lo, 0, none⟩) 64 64), (7, .int .i64 (i : Int)), (8, .int .u8 ((x.getD i 0).toNat : Int))]) (fun _ => (Li, cel (byteCells (rowAt (padB x 54) (List.replicate 64 0) i)) 5) :: (Lo, cel (byteCells (rowAt (padB x 92) (List.replicate 64 0) i)) 5) :: S) (fun _ => True) ?_ ?_
    · skip
      refine Wp.seq (Wp.region ?_)
      refine OWp.evs 4 rfl ?_
      refine OWp.nil ?_
      refine Wp.cond rfl (fun k2 => ?_) (fun k2 => ?_)
      · have k2 := of_decide_eq_true k2
        refine Wp.region ?_
        refine OWp.evs 2 rfl ?_
        refine OWp.g rfl rfl (Gives.indexStr (b := (x.getD i 0)) rfl rfl rfl rfl (by omega) (getD_some (by omega))) ?_
        refine OWp.evs 1 rfl ?_
        refine OWp.nil ?_
        exact ⟨(), trivial, .cons rfl (.cons rfl (.cons rfl (.cons rfl (.cons rfl (.cons rfl (.nil _)))))), .refl _⟩
      have k2 := of_decide_eq_false k2
      have hz : x.getD i 0 = 0 := by rw [List.getD_eq_getElem?_getD, List.getElem?_eq_none (by omega)]; rfl
      refine Wp.skip ?_
      exact ⟨(), trivial, .cons rfl (.cons rfl (.cons rfl (.cons rfl (.cons rfl (.cons' rfl (int_eq (by rw [hz]; rfl)) (.nil _)))))), .refl _⟩
    rintro ⟨⟩ -
    refine Wp.seq (Wp.region ?_)
    refine OWp.evs 4 rfl ?_
    refine OWp.g rfl rfl (Gives.indexAddrSlice (i) rfl rfl rfl rfl rfl rfl (by omega)) ?_
    refine OWp.step rfl (Step.storeAs 0 (byteCells (rowAt (padB x 54) (List.replicate 64 0) (i + 1))) rfl rfl rfl rfl rfl hBi rfl (Unfz.zero _) rfl (by rw [byteCells_length, rowAt_len _ _ (by rw [List.length_replicate]; exact hi), List.length_replicate]; show 0 + i * 1 + 1 ≤ 64; omega) (rowB_set _ (by rw [List.length_replicate]; exact hi2) (xor8 _ 54) (by show 0 + i * 1 = i; omega)) rfl ?_)
    refine OWp.nil ?_
    refine Wp.region ?_
    refine OWp.evs 4 rfl ?_
    refine OWp.g rfl rfl (Gives.indexAddrSlice (i) rfl rfl rfl rfl rfl rfl (by omega)) ?_
    refine OWp.step rfl (Step.storeAs 1 (byteCells (rowAt (padB x 92) (List.replicate 64 0) (i + 1))) rfl rfl rfl rfl rfl hBo rfl (Unfz.zero _) rfl (by rw [byteCells_length, rowAt_len _ _ (by rw [List.length_replicate]; exact hi), List.length_replicate]; show 0 + i * 1 + 1 ≤ 64; omega) (rowB_set _ (by rw [List.length_replicate]; exact hi2) (xor8 _ 92) (by show 0 + i * 1 = i; omega)) rfl ?_)
    refine OWp.nil ?_
    refine Wp.region ?_
    refine OWp.evs 3 rfl ?_
    refine OWp.nil ?_
    exact ⟨i + 1, by omega, by omega, .cons rfl (.cons rfl (.cons rfl (.cons rfl (.cons' rfl (int_eq (i64_inc (by omega))) (.nil _))))), .refl _⟩
  have k1 := of_decide_eq_false k1
  obtain rfl : i = 64 := by omega
  rw [e54, e92]
  refine Wp.exit ?_
  refine Wp.seq (Wp.regionDraw [0, 1, 2, 3, 4, 5, 6, 7, 8, 9] [6, 8] rfl (by decide +kernel) ?_)
  refine DWp.evs 1 rfl ?_
  refine DWp.gives rfl rfl rfl rfl (Gives.bytesToStr (F := [(Lo, cel (byteCells (keyPad key 92)) 5)]) (l := keyPad key 92) (k := 64) rfl rfl rfl rfl rfl (bc_reads (keyPad_len _ _) (.head _))) (mem1 (.tail _ (.head _))) ?_
  refine DWp.evs 1 rfl ?_
  refine DWp.gives rfl rfl rfl rfl (Gives.bytesToStr (F := [(Li, cel (byteCells (keyPad key 54)) 5)]) (l := keyPad key 54) (k := 64) rfl rfl rfl rfl rfl (bc_reads (keyPad_len _ _) (.head _))) (mem1 (.head _)) ?_
  refine DWp.evs 1 rfl ?_
  refine DWp.g rfl rfl rfl rfl (Gives.addStr rfl rfl rfl (by rw [hb] at ht; rw [keyPad_len]; omega)) ?_
  refine DWp.stepGrow rfl rfl rfl (Step.call rfl rfl rfl rfl rfl rfl ((rdigestC (by rw [List.length_append, keyPad_len]; omega) ?_)))
  refine ⟨fun _ hy => hy, ?_⟩
  refine DWp.g rfl rfl rfl rfl (Gives.addStr rfl rfl rfl (by rw [sha_len, keyPad_len]; omega)) ?_
  refine DWp.stepGrow rfl rfl rfl (Step.call rfl rfl rfl rfl rfl rfl ((rdigestC (by rw [List.length_append, keyPad_len, sha_len, hb]; decide) ?_)))
  refine ⟨fun _ hy => hy, ?_⟩
  refine DWp.evs 1 rfl ?_
  refine DWp.nil ?_
  refine Wp.ret ⟨trivial, _, ⟨_, _, rfl, rfl, rfl⟩, ?_⟩
  exact ⟨S, subl, H⟩
theorem rexpandC {key info : List UInt8} {n : Nat} (hn : n ≤ 8160) (h1 : key.length + 1000 ≤ big) (h2 : info.length + 3000 ≤ big) (H : Q (.tuple #[.string (str (expand key info n)), .int .i64 0]) S) :
    CallWp Tryz.prog B 107 #[.string (str key), .string (str info), .int .i64 (n : Int)] Q S := by
  have hb : big = 281474976710656 := rfl
  obtain ⟨m, hm⟩ : ∃ m, m = (n + 31) / 32 := ⟨_, rfl⟩
  have h2' := h2
  rw [hb] at h2'
  refine CallWp.enter (args := [_, _, _]) Tryz.func107 rfl Tryz.ntmps107 rfl ?_
  refine Wp.seq (Wp.region ?_)
  refine OWp.evs 2 rfl ?_
  refine OWp.nil ?_
  refine Wp.seq ?_
  refine Wp.seq (Wp.region ?_)
  refine OWp.evs 3 rfl ?_
  refine OWp.part 13 rfl (fun cc1 => absurd (of_decide_eq_true cc1) (by omega)) (fun cc1 => ?_)
  have cc1 := of_decide_eq_false cc1
  refine OWp.evs 3 rfl ?_
  refine OWp.nil ?_
  refine Wp.cond rfl (fun cc2 => absurd (of_decide_eq_true cc2) (by omega)) (fun cc2 => ?_)
  have cc2 := of_decide_eq_false cc2
  refine Wp.skip ?_
  refine Wp.seq (Wp.region ?_)
  refine OWp.evs 2 rfl ?_
  refine OWp.nil ?_
  refine Wp.seq ?_
  refine Wp.seq (Wp.region ?_)
  refine OWp.evs 1 rfl ?_
  refine OWp.nil ?_
  refine Wp.block ?_
  refine Wp.loopS (α := Nat × List UInt8 × List UInt8) (fun z => m - z.1) (fun z => [(0, .string (str key)), (1, .string (str info)), (2, .int .i64 (n : Int)), (8, .string (str z.2.2)), (9, .string (str z.2.1)), (10, .int .i64 ((z.1 + 1 : Nat) : Int))]) (fun _ => S) (fun z => z.1 ≤ m ∧ z.2.1.length ≤ 32 ∧ z.2.2.length = 32 * z.1 ∧ z.2.2 ++ pieces key info (m - z.1) (z.1 + 1) z.2.1 = pieces key info m 1 []) (0, [], []) ?_ (.refl _) ⟨by omega, Nat.zero_le _, rfl, rfl⟩ ?_
  · exact .cons rfl (.cons rfl (.cons rfl (.cons rfl (.cons rfl (.cons rfl (.nil _))))))
  rintro ⟨j, last, built⟩ ⟨hj, hl, hbl, hp⟩
  simp only at hj hl hbl hp ⊢
  refine Wp.seq ?_
  refine Wp.seq (Wp.region ?_)
  refine OWp.evs 4 rfl ?_
  refine OWp.nil ?_
  refine Wp.cond rfl (fun h5 => ?_) (fun h5 => ?_)
  · have h5 := of_decide_eq_true h5
    have hjm : j < m := by omega
    refine Wp.skip ?_
    refine Wp.seq ?_
    refine Wp.block ?_
    refine Wp.seq (Wp.region ?_)
    refine OWp.evs 3 rfl ?_
    refine OWp.g rfl rfl (Gives.addStr rfl rfl rfl (by omega)) ?_
    refine OWp.evs 2 rfl ?_
    refine OWp.step rfl (Step.buildSlice rfl rfl rfl ?_); intro L1 hBL1 hLL1
    refine OWp.gives rfl rfl (Gives.bytesToStr (F := (L1, cel [.int .u8 (IntKind.u8.wrap ((j + 1 : Nat) : Int))] 5) :: S) (l := [UInt8.ofNat (j + 1)]) (k := 1) rfl rfl rfl rfl rfl (one_byte (u8_lo _))) (fun _ h => h) ?_
    refine OWp.g rfl rfl (Gives.addStr rfl rfl rfl (by simp; omega)) ?_
    refine OWp.step rfl (Step.call rfl rfl rfl rfl rfl rfl ((rtagC h1 (by rw [hb]; simp; omega) ?_)))
    refine OWp.dropAt 0 rfl ?_
    refine OWp.evs 1 rfl ?_
    refine OWp.nil ?_
    refine Wp.region ?_
    refine OWp.evs 2 rfl ?_
    refine OWp.g rfl rfl (Gives.addStr rfl rfl rfl (by rw [hmac_len]; omega)) ?_
    refine OWp.evs 1 rfl ?_
    refine OWp.nil ?_
    refine Wp.region ?_
    refine OWp.evs 3 rfl ?_
    refine OWp.nil ?_
    obtain ⟨q, hq⟩ : ∃ q, m - j = q + 1 := ⟨m - j - 1, by omega⟩
    rw [hq, pieces] at hp
    refine ⟨(j + 1, hmac key (last ++ info ++ [UInt8.ofNat (j + 1)]), built ++ hmac key (last ++ info ++ [UInt8.ofNat (j + 1)])), by simp only; omega, ⟨by simp only; omega, by simp only [hmac_len]; omega, by simp only [List.length_append, hmac_len, hbl]; omega, ?_⟩, .cons rfl (.cons rfl (.cons rfl (.cons rfl (.cons rfl (.cons' rfl (int_eq (i64_inc (by omega))) (.nil _)))))), .refl _⟩
    simp only
    rw [show m - (j + 1) = q by omega, List.append_assoc]
    exact hp
  have h5 := of_decide_eq_false h5
  obtain rfl : j = m := by omega
  rw [Nat.sub_self, pieces, List.append_nil] at hp
  refine Wp.exit ?_
  refine Wp.seq (Wp.region ?_)
  refine OWp.evs 2 rfl ?_
  refine OWp.g rfl rfl (Gives.sliceStr (l := 0) (h' := n) rfl rfl rfl rfl ⟨_, _, rfl, rfl⟩ (by omega) (by rw [hbl]; omega)) ?_
  refine OWp.evs 2 rfl ?_
  refine OWp.nil ?_
  refine Wp.ret ⟨trivial, _, ⟨_, _, rfl, rfl, _, _, rfl, rfl, rfl⟩, ?_⟩
  show Q (.tuple #[.string _, _]) S
  rw [hp, hm]; exact H
theorem rderiveC {secret label : List UInt8} {n : Nat} (hn : n ≤ 8160) (h1 : secret.length + 2000 ≤ big) (h2 : label.length + 3000 ≤ big) (H : Q (.tuple #[.string (str (derive secret label n)), .int .i64 0]) S) :
    CallWp Tryz.prog B 73 #[.string (str secret), .string (str label), .int .i64 (n : Int)] Q S := by
  have hb : big = 281474976710656 := rfl
  refine CallWp.enter (args := [_, _, _]) Tryz.func73 rfl Tryz.ntmps73 rfl ?_
  refine Wp.seq (Wp.region ?_)
  refine OWp.evs 2 rfl ?_
  refine OWp.nil ?_
  refine Wp.seq (Wp.region ?_)
  refine OWp.evs 1 rfl ?_
  refine OWp.step rfl (Step.call rfl rfl rfl rfl rfl rfl ((rtagC (key := salt) (by rw [hb]; decide) h1 ?_)))
  refine OWp.evs 2 rfl ?_
  refine OWp.step rfl (Step.call rfl rfl rfl rfl rfl rfl ((rexpandC hn (by rw [hmac_len, hb]; decide) h2 ?_)))
  refine OWp.evs 4 rfl ?_
  refine OWp.nil ?_
  refine Wp.ret ⟨trivial, _, ⟨_, _, rfl, rfl, _, _, rfl, rfl, rfl⟩, ?_⟩
  exact H
theorem rkeyC {secret label : List UInt8} {n : Nat} (hn : n ≤ 8160) (h1 : secret.length + 2000 ≤ big) (h2 : label.length + 3000 ≤ big) (H : Q (.string (str (derive secret label n))) S) :
    CallWp Tryz.prog B 35 #[.string (str secret), .string (str label), .int .i64 (n : Int)] Q S := by
  refine CallWp.enter (args := [_, _, _]) Tryz.func35 rfl Tryz.ntmps35 rfl ?_
  refine Wp.seq (Wp.region ?_)
  refine OWp.evs 1 rfl ?_
  refine OWp.nil ?_
  refine Wp.seq (Wp.region ?_)
  refine OWp.evs 3 rfl ?_
  refine OWp.step rfl (Step.call rfl rfl rfl rfl rfl rfl ((rderiveC hn h1 h2 ?_)))
  refine OWp.evs 5 rfl ?_
  refine OWp.nil ?_
  refine Wp.seq (Wp.region ?_)
  refine OWp.evs 2 rfl ?_
  refine OWp.nil ?_
  refine Wp.ret ⟨trivial, _, ⟨_, _, rfl, rfl, rfl⟩, ?_⟩
  exact H
end
end Go.Proofs.D

namespace Go.Proofs.D
open Go.Lg Go.Sha
set_option maxRecDepth 100000

theorem u32g_part {l : List Nat} {g : List Value} {i : Nat} (h : i < l.length) : Lg.partAt Tryz.prog 131 (u32s l ++ g) (0 + i * 1) = some (.int .u32 (l.getD i 0 : Nat)) := by
  show (u32s l ++ g)[0 + i * 1]? = _
  rw [Nat.zero_add, Nat.mul_one, List.getElem?_append_left (by rw [u32s_length]; exact h), u32s_get h]
theorem u32g_set {l : List Nat} {g : List Value} {o i x : Nat} (h : i < l.length) (ho : o = i) : wr (u32s l ++ g) o (Value.int .u32 (x : Int)).cells.toList = u32s (l.set i x) ++ g := by
  rw [wr_left (by subst ho; rw [u32s_length]; show o + 1 ≤ _; omega), u32s_set h ho]
theorem good_set {s : List Nat} {i x : Nat} (h : Good s) (hx : x < 4294967296) : Good (s.set i x) := ⟨by rw [List.length_set]; exact h.1, set_all h.2 hx⟩
def nT (r : Nat) : Nat := if r = 0 then 16 else 8
def mT (r : Nat) : Nat := if r = 0 then 12 else 7
def qs (s : List Nat) (a b c d : Nat) : Nat → List Nat
  | 0 => s
  | r + 1 => hq (qs s a b c d r) a b c d (nT r) (mT r)
theorem qs_two {s : List Nat} {a b c d : Nat} (h : Apart s.length a b c d) : qs s a b c d 2 = turn s a b c d := hq_twice h
theorem hq_good {s : List Nat} {a b c d n m : Nat} (h : Good s) (hn : n ≤ 32) (hm : m ≤ 32) : Good (hq s a b c d n m) := by
  unfold hq
  have g1 := good_set (i := a) h (add_lt (s.getD a 0) (s.getD b 0))
  have g2 := good_set (i := d) g1 (rl_lt (n := n) (xor_lt32 (getD_lt g1.2 d) (getD_lt g1.2 a)) hn)
  have g3 := good_set (i := c) g2 (add_lt ((((s.set a (add (s.getD a 0) (s.getD b 0))).set d (rl ((s.set a (add (s.getD a 0) (s.getD b 0))).getD d 0 ^^^ (s.set a (add (s.getD a 0) (s.getD b 0))).getD a 0) n)).getD c 0)) ((((s.set a (add (s.getD a 0) (s.getD b 0))).set d (rl ((s.set a (add (s.getD a 0) (s.getD b 0))).getD d 0 ^^^ (s.set a (add (s.getD a 0) (s.getD b 0))).getD a 0) n)).getD d 0)))
  exact good_set (i := b) g3 (rl_lt (n := m) (xor_lt32 (getD_lt g3.2 b) (getD_lt g3.2 c)) hm)
theorem nT_le (r : Nat) : nT r ≤ 32 := by unfold nT; split <;> decide
theorem mT_le (r : Nat) : mT r ≤ 32 := by unfold mT; split <;> decide
theorem qs_good {s : List Nat} {a b c d : Nat} (h : Good s) : ∀ r, Good (qs s a b c d r)
  | 0 => h
  | r + 1 => hq_good (qs_good h r) (nT_le r) (mT_le r)
theorem le_word {a b c d : UInt8} {r : List UInt8} : IntKind.u32.wrap (IntKind.u32.wrap (IntKind.u32.wrap (IntKind.u32.wrap (a.toNat : Int) + IntKind.u32.wrap (IntKind.u32.wrap (b.toNat : Int) * 2 ^ (min 8 IntKind.u32.bits))) + IntKind.u32.wrap (IntKind.u32.wrap (c.toNat : Int) * 2 ^ (min 16 IntKind.u32.bits))) + IntKind.u32.wrap (IntKind.u32.wrap (d.toNat : Int) * 2 ^ (min 24 IntKind.u32.bits))) = ((le (a :: b :: c :: d :: r) : Nat) : Int) := by
  have h1 := a.toNat_lt
  have h2 := b.toNat_lt
  have h3 := c.toNat_lt
  have h4 := d.toNat_lt
  rw [u8_u32, u8_u32, u8_u32, u8_u32, shl_u32 b 8 (by decide), shl_u32 c 16 (by decide), shl_u32 d 24 (by decide)]
  rw [IntKind.wrap_u32, IntKind.wrap_u32, IntKind.wrap_u32]
  show _ = ((a.toNat + b.toNat * 256 + c.toNat * 65536 + d.toNat * 16777216 : Nat) : Int)
  omega
theorem byte_of (x k : Nat) : IntKind.u8.wrap ((x : Int).fdiv (2 ^ (min k IntKind.u32.bits))) = ((UInt8.ofNat (x / 2 ^ (min k IntKind.u32.bits))).toNat : Int) := by
  rw [u32_fdiv x k _ rfl, u8_lo]
theorem le_bytes (x : Nat) : [Value.int .u8 (IntKind.u8.wrap (x : Int)), .int .u8 (IntKind.u8.wrap ((x : Int).fdiv (2 ^ (min 8 IntKind.u32.bits)))), .int .u8 (IntKind.u8.wrap ((x : Int).fdiv (2 ^ (min 16 IntKind.u32.bits)))), .int .u8 (IntKind.u8.wrap ((x : Int).fdiv (2 ^ (min 24 IntKind.u32.bits))))] = byteCells (lebytes x) := by
  rw [byte_of, byte_of, byte_of, u8_lo]; rfl
theorem lewords_snoc (n : Nat) (l : List UInt8) : lewords (n + 1) l = lewords n l ++ [le (l.drop (4 * n))] := lewords_succ n l
theorem ownF_form {B : Nat} {e : TypeId} {v : Value} {xs : List UInt8} {es : Ents} (h : OwnF B e v xs es) : ∃ q c, v = .slice q xs.length c := by
  rcases h with ⟨rfl, rfl, _⟩ | ⟨b, cap, g, fz, rfl, _⟩
  · exact ⟨_, _, rfl⟩
  · exact ⟨_, _, rfl⟩
attribute [local irreducible] cblock in
theorem blocks_snoc (k n : List UInt8) : ∀ (m c : Nat), blocks k n (m + 1) c = blocks k n m c ++ cblock k n ((c + m) % 4294967296)
  | 0, c => by
    show cblock k n (c % 4294967296) ++ [] = [] ++ cblock k n ((c + 0) % 4294967296)
    rw [List.append_nil, List.nil_append, Nat.add_zero]
  | m + 1, c => by
    have ih := blocks_snoc k n m (c + 1)
    show cblock k n (c % 4294967296) ++ blocks k n (m + 1) (c + 1) = (cblock k n (c % 4294967296) ++ blocks k n m (c + 1)) ++ cblock k n ((c + (m + 1)) % 4294967296)
    rw [ih, List.append_assoc, show c + 1 + m = c + (m + 1) by omega]
theorem add_comm' (x y : Nat) : add x y = add y x := by unfold add; rw [Nat.add_comm]

section
variable {B : Nat} {S R : Ents} {Q : Value → Ents → Prop}

theorem rleftC {x n : Nat} {v z : Int} (hv : v = (x : Int)) (hz : z = (n : Int)) (hx : x < 4294967296) (hn : n ≤ 32) (H : Q (.int .u32 (rl x n : Nat)) S) :
    CallWp Tryz.prog B 164 #[.int .u32 v, .int .i64 z] Q S := by
  subst hv hz
  refine CallWp.enter (args := [_, _]) Tryz.func164 rfl Tryz.ntmps164 rfl ?_
  refine Wp.seq (Wp.region ?_)
  refine OWp.evs 1 rfl ?_
  refine OWp.nil ?_
  refine Wp.seq (Wp.regionDraw [0, 1, 2, 3, 4, 5, 6, 7, 8] [] rfl (by decide +kernel) ?_)
  refine DWp.evs 2 rfl ?_
  refine DWp.g rfl rfl rfl rfl (Gives.shl (m := n) rfl rfl rfl rfl) ?_
  refine DWp.evs 3 rfl ?_
  refine DWp.g rfl rfl rfl rfl (Gives.shr (m := 32 - n) rfl rfl rfl (by rw [i64_id (by omega) (by omega)]; omega)) ?_
  refine DWp.evs 2 rfl ?_
  refine DWp.nil ?_
  refine Wp.ret ⟨trivial, _, ⟨_, _, rfl, rfl, rfl⟩, ?_⟩
  rw [u32_turn hx hn (show n + (32 - n) = 32 by omega)]; exact H
set_option maxHeartbeats 2000000 in
theorem rquarterC {W a b c d cap : Nat} {s : List Nat} {g : List Value} (hB : B ≤ W) (hs : Good s) (hap : Apart 16 a b c d) (H : Q (.tuple #[]) ((W, cel (u32s (turn s a b c d) ++ g) 131) :: R)) :
    CallWp Tryz.prog B 141 #[.slice (some ⟨W, 0, none⟩) 16 cap, .int .i64 (a : Int), .int .i64 (b : Int), .int .i64 (c : Int), .int .i64 (d : Int)] Q ((W, cel (u32s s ++ g) 131) :: R) := by
  have hap' : Apart s.length a b c d := by rw [hs.1]; exact hap
  rw [← qs_two hap'] at H
  obtain ⟨ab, ac, ad, bc, bd, cd, la, lb, lc, ld⟩ := hap
  refine subRet ?_
  refine CallWp.enter (args := [_, _, _, _, _]) Tryz.func141 rfl Tryz.ntmps141 rfl ?_
  refine Wp.seq (Wp.region ?_)
  refine OWp.step rfl (Step.buildSlice rfl rfl rfl ?_); intro L hBL hLL
  refine OWp.evs 1 rfl ?_
  refine OWp.nil ?_
  refine Wp.seq (Wp.region ?_)
  refine OWp.evs 1 rfl ?_
  refine OWp.nil ?_
  refine Wp.block ?_
  refine Wp.loopS (α := Nat) (fun r => 2 - r) (fun r => [(0, .slice (some ⟨W, 0, none⟩) 16 cap), (1, .int .i64 (a : Int)), (2, .int .i64 (b : Int)), (3, .int .i64 (c : Int)), (4, .int .i64 (d : Int)), (10, .slice (some ⟨L, 0, none⟩) 4 4), (11, .int .i64 ((2 * r : Nat) : Int))]) (fun r => (L, cel [.int .i64 16, .int .i64 12, .int .i64 8, .int .i64 7] 3) :: (W, cel (u32s (qs s a b c d r) ++ g) 131) :: R) (fun r => r ≤ 2) 0 ?_ (.refl _) (Nat.zero_le _) ?_
  · exact .cons rfl (.cons rfl (.cons rfl (.cons rfl (.cons rfl (.cons rfl (.cons rfl (.nil _)))))))
  intro r hr
  refine Wp.seq ?_
  refine Wp.seq (Wp.region ?_)
  refine OWp.evs 2 rfl ?_
  refine OWp.nil ?_
  refine Wp.cond rfl (fun h1 => ?_) (fun h1 => ?_)
  · have h1 := of_decide_eq_true h1
    have hr2 : r < 2 := by omega
    have tn : [Value.int .i64 16, .int .i64 12, .int .i64 8, .int .i64 7][0 + 2 * r * 1]? = some (.int .i64 (nT r : Nat)) := by
      match r, hr2 with
      | 0, _ => rfl
      | 1, _ => rfl
    have tm : [Value.int .i64 16, .int .i64 12, .int .i64 8, .int .i64 7][0 + (2 * r + 1) * 1]? = some (.int .i64 (mT r : Nat)) := by
      match r, hr2 with
      | 0, _ => rfl
      | 1, _ => rfl
    have hg := qs_good (a := a) (b := b) (c := c) (d := d) hs r
    have hnext : qs s a b c d (r + 1) = hq (qs s a b c d r) a b c d (nT r) (mT r) := rfl
    generalize qs s a b c d r = x at hg hnext ⊢
    have hxl := hg.1
    obtain ⟨x1, hx1⟩ : ∃ x1, x1 = x.set a (add (x.getD a 0) (x.getD b 0)) := ⟨_, rfl⟩
    have g1 : Good x1 := hx1 ▸ good_set hg (add_lt _ _)
    obtain ⟨x2, hx2⟩ : ∃ x2, x2 = x1.set d (rl (x1.getD d 0 ^^^ x1.getD a 0) (nT r)) := ⟨_, rfl⟩
    have g2 : Good x2 := hx2 ▸ good_set g1 (rl_lt (xor_lt32 (getD_lt g1.2 d) (getD_lt g1.2 a)) (nT_le r))
    obtain ⟨x3, hx3⟩ : ∃ x3, x3 = x2.set c (add (x2.getD c 0) (x2.getD d 0)) := ⟨_, rfl⟩
    have g3 : Good x3 := hx3 ▸ good_set g2 (add_lt _ _)
    have hx4 : x3.set b (rl (x3.getD b 0 ^^^ x3.getD c 0) (mT r)) = qs s a b c d (r + 1) := by rw [hnext, hx3, hx2, hx1]; rfl
    have l1 := g1.1
    have l2 := g2.1
    have l3 := g3.1
    refine Wp.skip ?_
    refine Wp.seq ?_
    refine Wp.block ?_
    refine Wp.seq (Wp.regionDraw [0, 1, 2, 3, 4, 5, 6, 7, 8, 9, 10] [10] rfl (by decide +kernel) ?_)
    refine DWp.evs 2 rfl ?_
    refine DWp.g rfl rfl rfl rfl (Gives.indexAddrSlice (a) rfl rfl rfl rfl rfl rfl (by omega)) ?_
    refine DWp.load (.tail _ (.head _)) rfl rfl rfl rfl rfl rfl (u32g_part (by omega)) ?_
    refine DWp.evs 2 rfl ?_
    refine DWp.g rfl rfl rfl rfl (Gives.indexAddrSlice (b) rfl rfl rfl rfl rfl rfl (by omega)) ?_
    refine DWp.load (.tail _ (.head _)) rfl rfl rfl rfl rfl rfl (u32g_part (by omega)) ?_
    refine DWp.evs 1 rfl ?_
    refine DWp.g rfl rfl rfl rfl (Gives.indexAddrSlice (a) rfl rfl rfl rfl rfl rfl (by omega)) ?_
    refine DWp.stepAll rfl rfl rfl rfl (Step.storeAs 1 (u32s x1 ++ g) rfl rfl rfl rfl rfl hB rfl (Unfz.zero _) rfl (by rw [List.length_append, u32s_length, hxl]; show 0 + a * 1 + 1 ≤ _; omega) (by rw [u32_add, hx1]; exact u32g_set (by omega) (by show 0 + a * 1 = a; omega)) rfl ?_)
    refine DWp.nil ?_
    refine Wp.seq (Wp.regionDraw [0, 1, 2, 3, 4, 5, 6, 7, 8, 9, 10, 11, 12, 13, 14, 15, 16, 17] [15, 17] rfl (by decide +kernel) ?_)
    refine DWp.evs 4 rfl ?_
    refine DWp.g rfl rfl rfl rfl (Gives.indexAddrSlice (d) rfl rfl rfl rfl rfl rfl (by omega)) ?_
    refine DWp.load (.tail _ (.head _)) rfl rfl rfl rfl rfl rfl (u32g_part (by omega)) ?_
    refine DWp.evs 2 rfl ?_
    refine DWp.g rfl rfl rfl rfl (Gives.indexAddrSlice (a) rfl rfl rfl rfl rfl rfl (by omega)) ?_
    refine DWp.load (.tail _ (.head _)) rfl rfl rfl rfl rfl rfl (u32g_part (by omega)) ?_
    refine DWp.evs 3 rfl ?_
    refine DWp.g rfl rfl rfl rfl (Gives.indexAddrSlice ((2 * r)) rfl rfl rfl rfl rfl rfl (by omega)) ?_
    refine DWp.load (.head _) rfl rfl rfl rfl rfl rfl tn ?_
    refine DWp.stepGrow rfl rfl rfl (Step.call rfl rfl rfl rfl rfl rfl ((rleftC (Go.Lg.u32_xor (getD_lt g1.2 d) (getD_lt g1.2 a)) rfl (xor_lt32 (getD_lt g1.2 d) (getD_lt g1.2 a)) (nT_le r) ?_)))
    refine ⟨fun _ hy => hy, ?_⟩
    refine DWp.g rfl rfl rfl rfl (Gives.indexAddrSlice (d) rfl rfl rfl rfl rfl rfl (by omega)) ?_
    refine DWp.stepAll rfl rfl rfl rfl (Step.storeAs 1 (u32s x2 ++ g) rfl rfl rfl rfl rfl hB rfl (Unfz.zero _) rfl (by rw [List.length_append, u32s_length, l1]; show 0 + d * 1 + 1 ≤ _; omega) (by rw [hx2]; exact u32g_set (by omega) (by show 0 + d * 1 = d; omega)) rfl ?_)
    refine DWp.nil ?_
    refine Wp.seq (Wp.regionDraw [0, 1, 2, 3, 4, 5, 6, 7, 8, 9, 10] [10] rfl (by decide +kernel) ?_)
    refine DWp.evs 2 rfl ?_
    refine DWp.g rfl rfl rfl rfl (Gives.indexAddrSlice (c) rfl rfl rfl rfl rfl rfl (by omega)) ?_
    refine DWp.load (.tail _ (.head _)) rfl rfl rfl rfl rfl rfl (u32g_part (by omega)) ?_
    refine DWp.evs 2 rfl ?_
    refine DWp.g rfl rfl rfl rfl (Gives.indexAddrSlice (d) rfl rfl rfl rfl rfl rfl (by omega)) ?_
    refine DWp.load (.tail _ (.head _)) rfl rfl rfl rfl rfl rfl (u32g_part (by omega)) ?_
    refine DWp.evs 1 rfl ?_
    refine DWp.g rfl rfl rfl rfl (Gives.indexAddrSlice (c) rfl rfl rfl rfl rfl rfl (by omega)) ?_
    refine DWp.stepAll rfl rfl rfl rfl (Step.storeAs 1 (u32s x3 ++ g) rfl rfl rfl rfl rfl hB rfl (Unfz.zero _) rfl (by rw [List.length_append, u32s_length, l2]; show 0 + c * 1 + 1 ≤ _; omega) (by rw [u32_add, hx3]; exact u32g_set (by omega) (by show 0 + c * 1 = c; omega)) rfl ?_)
    refine DWp.nil ?_
    refine Wp.regionDraw [0, 1, 2, 3, 4, 5, 6, 7, 8, 9, 10, 11, 12, 13, 14, 15, 16, 17, 18] [16, 18] rfl (by decide +kernel) ?_
    refine DWp.evs 4 rfl ?_
    refine DWp.g rfl rfl rfl rfl (Gives.indexAddrSlice (b) rfl rfl rfl rfl rfl rfl (by omega)) ?_
    refine DWp.load (.tail _ (.head _)) rfl rfl rfl rfl rfl rfl (u32g_part (by omega)) ?_
    refine DWp.evs 2 rfl ?_
    refine DWp.g rfl rfl rfl rfl (Gives.indexAddrSlice (c) rfl rfl rfl rfl rfl rfl (by omega)) ?_
    refine DWp.load (.tail _ (.head _)) rfl rfl rfl rfl rfl rfl (u32g_part (by omega)) ?_
    refine DWp.evs 4 rfl ?_
    refine DWp.g rfl rfl rfl rfl (Gives.indexAddrSlice ((2 * r + 1)) rfl rfl rfl rfl rfl (by rw [i64_id] <;> omega) (by omega)) ?_
    refine DWp.load (.head _) rfl rfl rfl rfl rfl rfl tm ?_
    refine DWp.stepGrow rfl rfl rfl (Step.call rfl rfl rfl rfl rfl rfl ((rleftC (Go.Lg.u32_xor (getD_lt g3.2 b) (getD_lt g3.2 c)) rfl (xor_lt32 (getD_lt g3.2 b) (getD_lt g3.2 c)) (mT_le r) ?_)))
    refine ⟨fun _ hy => hy, ?_⟩
    refine DWp.g rfl rfl rfl rfl (Gives.indexAddrSlice (b) rfl rfl rfl rfl rfl rfl (by omega)) ?_
    refine DWp.stepAll rfl rfl rfl rfl (Step.storeAs 1 (u32s (qs s a b c d (r + 1)) ++ g) rfl rfl rfl rfl rfl hB rfl (Unfz.zero _) rfl (by rw [List.length_append, u32s_length, l3]; show 0 + b * 1 + 1 ≤ _; omega) (by rw [← hx4]; exact u32g_set (by omega) (by show 0 + b * 1 = b; omega)) rfl ?_)
    refine DWp.nil ?_
    refine Wp.region ?_
    refine OWp.evs 3 rfl ?_
    refine OWp.nil ?_
    exact ⟨r + 1, by omega, by omega, .cons rfl (.cons rfl (.cons rfl (.cons rfl (.cons rfl (.cons rfl (.cons' rfl (int_eq (by rw [i64_id] <;> omega)) (.nil _))))))), .refl _⟩
  have h1 := of_decide_eq_false h1
  obtain rfl : r = 2 := by omega
  refine Wp.exit ?_
  refine ⟨trivial, [], rfl, ?_⟩
  exact ⟨_, _, .refl _, List.sublist_cons_self _ _, H⟩
theorem rreadC {s : List UInt8} {n : Nat} (hs : s.length = 4 * n) (hn : n ≤ 100) (H : ∀ v es, Lg.Own B 131 1 v n (u32s (lewords n s)) es → Q v (es ++ S)) :
    CallWp Tryz.prog B 140 #[.string (str s)] Q S := by
  refine CallWp.enter (args := [_]) Tryz.func140 rfl Tryz.ntmps140 rfl ?_
  refine Wp.seq (Wp.region ?_)
  refine OWp.evs 1 rfl ?_
  refine OWp.nil ?_
  refine Wp.seq (Wp.region ?_)
  refine OWp.evs 1 rfl ?_
  refine OWp.nil ?_
  refine Wp.seq ?_
  refine Wp.seq (Wp.region ?_)
  refine OWp.evs 1 rfl ?_
  refine OWp.nil ?_
  refine Wp.block ?_
  refine Wp.loopS (α := Nat × Value × Ents) (fun z => n - z.1) (fun z => [(0, .string (str s)), (3, z.2.1), (4, .int .i64 ((4 * z.1 : Nat) : Int))]) (fun z => z.2.2 ++ S) (fun z => z.1 ≤ n ∧ Lg.Own B 131 1 z.2.1 z.1 (u32s (lewords z.1 s)) z.2.2) (0, .slice none 0 0, []) ?_ (.refl _) ⟨Nat.zero_le _, Own.nil _ _ _⟩ ?_
  · exact .cons rfl (.cons rfl (.cons rfl (.nil _)))
  rintro ⟨j, v, es⟩ ⟨hj, hown⟩
  simp only at hj hown ⊢
  refine Wp.seq ?_
  refine Wp.seq (Wp.region ?_)
  refine OWp.evs 4 rfl ?_
  refine OWp.nil ?_
  refine Wp.cond rfl (fun h1 => ?_) (fun h1 => ?_)
  · have h1 := of_decide_eq_true h1
    have hj2 : j < n := by omega
    have k1 : IntKind.i64.wrap (((4 * j : Nat) : Int) + 1) = ((4 * j + 1 : Nat) : Int) := by rw [i64_id] <;> omega
    have k2 : IntKind.i64.wrap (((4 * j : Nat) : Int) + 2) = ((4 * j + 2 : Nat) : Int) := by rw [i64_id] <;> omega
    have k3 : IntKind.i64.wrap (((4 * j : Nat) : Int) + 3) = ((4 * j + 3 : Nat) : Int) := by rw [i64_id] <;> omega
    have hd : ∃ r, s.drop (4 * j) = s.getD (4 * j) 0 :: s.getD (4 * j + 1) 0 :: s.getD (4 * j + 2) 0 :: s.getD (4 * j + 3) 0 :: r := by
      have c1 : ∀ i, i < s.length → s.drop i = s.getD i 0 :: s.drop (i + 1) := fun i hi => by
        rw [List.drop_eq_getElem_cons hi, List.getD_eq_getElem?_getD, List.getElem?_eq_getElem hi]; rfl
      exact ⟨s.drop (4 * j + 4), by rw [c1 _ (by omega), c1 _ (by omega), c1 _ (by omega), c1 _ (by omega)]⟩
    obtain ⟨r, hr⟩ := hd
    refine Wp.skip ?_
    refine Wp.seq ?_
    refine Wp.block ?_
    refine Wp.regionDraw [0, 1, 2, 3, 4, 5, 6, 7, 8, 9, 10, 11, 12, 13, 14, 15, 16, 17, 18, 19, 20, 21, 22, 23, 24, 25, 26, 27, 28] [26, 27] rfl (by decide +kernel) ?_
    refine DWp.evs 3 rfl ?_
    refine DWp.g rfl rfl rfl rfl (Gives.indexStr (b := (s.getD (4 * j) 0)) rfl rfl rfl rfl (by omega) (getD_some (by omega))) ?_
    refine DWp.evs 4 rfl ?_
    refine DWp.g rfl rfl rfl rfl (Gives.indexStr (b := (s.getD (4 * j + 1) 0)) rfl rfl rfl rfl (by rw [k1]; omega) (by rw [k1]; exact getD_some (by omega))) ?_
    refine DWp.evs 6 rfl ?_
    refine DWp.g rfl rfl rfl rfl (Gives.indexStr (b := (s.getD (4 * j + 2) 0)) rfl rfl rfl rfl (by rw [k2]; omega) (by rw [k2]; exact getD_some (by omega))) ?_
    refine DWp.evs 6 rfl ?_
    refine DWp.g rfl rfl rfl rfl (Gives.indexStr (b := (s.getD (4 * j + 3) 0)) rfl rfl rfl rfl (by rw [k3]; omega) (by rw [k3]; exact getD_some (by omega))) ?_
    refine DWp.evs 3 rfl ?_
    refine DWp.stepGrow rfl rfl rfl (Step.buildSlice rfl rfl rfl ?_); intro Lp1 hBLp1 hLLp1; refine ⟨fun _ hy => .tail _ hy, ?_⟩
    refine DWp.stepAll rfl rfl rfl rfl (Step.appendAt [_] rfl rfl rfl rfl rfl rfl (by decide) rfl rfl hown (Reads.row (k := 1) (sz := 1) (.head _) (Nat.le_of_ble_eq_true rfl)) rfl (by show (_ + 1) * 4 ≤ _; omega) (by unfold maxLen; omega) ?_); intro v2 es2 ho2 _
    refine DWp.drop0 (List.sublist_cons_self _ _) ?_
    refine DWp.evs 1 rfl ?_
    refine DWp.nil ?_
    refine Wp.region ?_
    refine OWp.evs 3 rfl ?_
    refine OWp.nil ?_
    refine ⟨(j + 1, v2, es2), by simp only; omega, ⟨by simp only; omega, ?_⟩, .cons rfl (.cons rfl (.cons' rfl (int_eq (by simp only; rw [i64_id] <;> omega)) (.nil _))), .refl _⟩
    simp only
    rw [lewords_snoc, u32s_snoc, hr]
    exact own_last ho2 (int_eq le_word)
  have h1 := of_decide_eq_false h1
  obtain rfl : j = n := by omega
  refine Wp.exit ?_
  refine Wp.seq (Wp.region ?_)
  refine OWp.evs 2 rfl ?_
  refine OWp.nil ?_
  refine Wp.ret ⟨trivial, _, ⟨_, _, rfl, rfl, rfl⟩, ?_⟩
  exact H _ _ hown
theorem rwithC {a b : List UInt8} (hl : a.length ≤ b.length) (ha : a.length ≤ 100000) (H : Q (.string (str (xors a b))) S) :
    CallWp Tryz.prog B 36 #[.string (str a), .string (str b)] Q S := by
  refine CallWp.dropRet ?_
  refine CallWp.enter (args := [_, _]) Tryz.func36 rfl Tryz.ntmps36 rfl ?_
  refine Wp.seq (Wp.region ?_)
  refine OWp.evs 1 rfl ?_
  refine OWp.nil ?_
  refine Wp.seq (Wp.region ?_)
  refine OWp.evs 1 rfl ?_
  refine OWp.nil ?_
  refine Wp.seq ?_
  refine Wp.seq (Wp.region ?_)
  refine OWp.evs 1 rfl ?_
  refine OWp.nil ?_
  refine Wp.block ?_
  refine Wp.loopS (α := Nat × Value × Ents) (fun z => a.length - z.1) (fun z => [(0, .string (str a)), (1, .string (str b)), (5, z.2.1), (6, .int .i64 (z.1 : Int))]) (fun z => z.2.2 ++ S) (fun z => z.1 ≤ a.length ∧ Lg.Own B 5 1 z.2.1 z.1 (byteCells ((List.range z.1).map (mixB a b))) z.2.2) (0, .slice none 0 0, []) ?_ (.refl _) ⟨Nat.zero_le _, Own.nil _ _ _⟩ ?_
  · exact .cons rfl (.cons rfl (.cons rfl (.cons rfl (.nil _))))
  rintro ⟨j, v, es⟩ ⟨hj, hown⟩
  simp only at hj hown ⊢
  refine Wp.seq ?_
  refine Wp.seq (Wp.region ?_)
  refine OWp.evs 4 rfl ?_
  refine OWp.nil ?_
  refine Wp.cond rfl (fun h1 => ?_) (fun h1 => ?_)
  · have h1 := of_decide_eq_true h1
    have hj2 : j < a.length := by omega
    refine Wp.skip ?_
    refine Wp.seq ?_
    refine Wp.block ?_
    refine Wp.regionDraw [0, 1, 2, 3, 4, 5, 6, 7, 8, 9, 10] [8, 9] rfl (by decide +kernel) ?_
    refine DWp.evs 3 rfl ?_
    refine DWp.g rfl rfl rfl rfl (Gives.indexStr (b := (a.getD j 0)) rfl rfl rfl rfl (by omega) (getD_some (by omega))) ?_
    refine DWp.evs 2 rfl ?_
    refine DWp.g rfl rfl rfl rfl (Gives.indexStr (b := (b.getD j 0)) rfl rfl rfl rfl (by omega) (getD_some (by omega))) ?_
    refine DWp.evs 1 rfl ?_
    refine DWp.stepGrow rfl rfl rfl (Step.buildSlice rfl rfl rfl ?_); intro Lp1 hBLp1 hLLp1; refine ⟨fun _ hy => .tail _ hy, ?_⟩
    refine DWp.stepAll rfl rfl rfl rfl (Step.appendAt [_] rfl rfl rfl rfl rfl rfl (by decide) rfl rfl hown (Reads.row (k := 1) (sz := 1) (.head _) (Nat.le_of_ble_eq_true rfl)) rfl (by show (_ + 1) * 1 ≤ _; omega) (by unfold maxLen; omega) ?_); intro v2 es2 ho2 _
    refine DWp.drop0 (List.sublist_cons_self _ _) ?_
    refine DWp.evs 1 rfl ?_
    refine DWp.nil ?_
    refine Wp.region ?_
    refine OWp.evs 3 rfl ?_
    refine OWp.nil ?_
    refine ⟨(j + 1, v2, es2), by simp only; omega, ⟨by simp only; omega, ?_⟩, .cons rfl (.cons rfl (.cons rfl (.cons' rfl (int_eq (i64_inc (by omega))) (.nil _)))), .refl _⟩
    simp only
    rw [range_snoc, bc_snoc]
    exact own_last ho2 (int_eq (xor8 _ _))
  have h1 := of_decide_eq_false h1
  obtain rfl : j = a.length := by omega
  have hx : (List.range a.length).map (mixB a b) = xors a b := by rw [← rowAt_mix hl]; simp [rowAt]
  refine Wp.exit ?_
  refine Wp.seq (Wp.region ?_)
  refine OWp.evs 1 rfl ?_
  refine OWp.gives rfl rfl (Gives.bytesToStr (F := es) (l := (List.range a.length).map (mixB a b)) (k := a.length) rfl rfl rfl rfl rfl hown.reads) (fun x hx => List.mem_append_left _ hx) ?_
  refine OWp.evs 1 rfl ?_
  refine OWp.nil ?_
  refine Wp.ret ⟨trivial, _, ⟨_, _, rfl, rfl, rfl⟩, ?_⟩
  exact ⟨S, List.sublist_append_right _ _, by rw [hx]; exact H⟩
end
end Go.Proofs.D
