/- What functions of the given program do, one after the other, told by that layer. -/
import Derived.Test.YtfimmdafjalonaaDoorBWid3
import Derived.Test.YtfimmdafjalonaaDoorBRefL
namespace Go.Lg
theorem DWp.drop0 {P : Program} {B n : Nat} {ops : Array Oper} {Q : Exit → Env → Ents → Prop} {E : Env} {S S' : Ents} {muts : List Nat} {l : Array Bool} {rest : List Nat} (h : S'.Sublist S) (hc : DWp P B n ops muts l rest [] Q E S') : DWp P B n ops muts l rest [] Q E S :=
  fun hgo a w hS hA => hc ⟨hgo.closed, hgo.ok, hgo.sel, fun _ hx => nomatch hx⟩ a w (hS.sublist h) hA
end Go.Lg
namespace Go.Proofs.D
open Go.Lg Go.Sha
set_option maxRecDepth 100000

theorem bc_setN {l : List UInt8} {o i : Nat} {x : Int} {c : UInt8} (h : i < l.length) (hx : x = c.toNat) (ho : o = i) :
    wr (byteCells l) o (Value.int .u8 x).cells.toList = byteCells (l.set i c) := by
  have := bc_set (g := []) h hx ho
  rwa [List.append_nil, List.append_nil] at this
theorem zeros_u8 (n : Nat) : zeros [Value.int .u8 0] n = byteCells (List.replicate n 0) := by
  induction n with
  | zero => rfl
  | succ n ih => rw [zeros, ih, List.replicate_succ]; rfl
theorem bc_reads {L m cap : Nat} {x : List UInt8} {t : TypeId} {fz : Nat × Nat} {S : Ents} (hm : x.length = m) (h : (L, cel (byteCells x) t fz) ∈ S) : Reads S 1 (.slice (some ⟨L, 0, none⟩) m cap) m (byteCells x) := by
  subst hm
  have := Reads.row (sz := 1) (k := x.length) (cap := cap) h (by rw [byteCells_length]; omega)
  rw [Nat.mul_one, List.take_of_length_le (by rw [byteCells_length]; exact Nat.le_refl _)] at this
  exact this
theorem own_last {B : Nat} {e : TypeId} {sz : Nat} {v : Value} {k : Nat} {xs : List Value} {x y : Value} {es : Ents} (h : Own B e sz v k (xs ++ [x]) es) (hxy : x = y) : Own B e sz v k (xs ++ [y]) es := hxy ▸ h
theorem turn_term {x n : Nat} (hx : x < 4294967296) (hn : n ≤ 32) : IntKind.u32.wrap ((x : Int).fdiv (2 ^ (min n IntKind.u32.bits)) + IntKind.u32.wrap ((x : Int) * 2 ^ (min (32 - n) IntKind.u32.bits))) = ((rr x n : Nat) : Int) := by
  have e1 : min n IntKind.u32.bits = n := by show min n 32 = n; omega
  have e2 : min (32 - n) IntKind.u32.bits = 32 - n := by show min (32 - n) 32 = _; omega
  rw [u32_fdiv x n n e1, e2]
  have e3 : (x : Int) * 2 ^ (32 - n) = ((x * 2 ^ (32 - n) : Nat) : Int) := by simp
  rw [e3, u32_wrap, u32_add, rr_ref hx hn]
theorem pad_term (n : Nat) : (IntKind.i64.wrap (119 - ((n : Nat) : Int).tmod 64)).tmod 64 = (((119 - n % 64) % 64 : Nat) : Int) := by
  rw [Int.tmod_eq_emod_of_nonneg (a := (n : Int)) (by omega), i64_id (by omega) (by omega), Int.tmod_eq_emod_of_nonneg (by omega)]
  omega
theorem len_byte {n i : Nat} (hn : n ≤ 281474976710656) (hi : i < 8) :
    IntKind.u8.wrap ((IntKind.u64.wrap (IntKind.u64.wrap (n : Int) * 8)).fdiv (2 ^ (min (8 * i) IntKind.u64.bits))) = ((UInt8.ofNat (n * 8 / 2 ^ (8 * i))).toNat : Int) := by
  have e1 : min (8 * i) IntKind.u64.bits = 8 * i := by show min (8 * i) 64 = _; omega
  have e2 : IntKind.u64.wrap (n : Int) = (n : Int) := by rw [IntKind.wrap_u64]; omega
  have e3 : IntKind.u64.wrap ((n : Int) * 8) = ((n * 8 : Nat) : Int) := by rw [IntKind.wrap_u64]; omega
  rw [e1, e2, e3, Int.fdiv_eq_ediv_of_nonneg _ (by exact Int.le_of_lt (Int.pow_pos (by decide))), ← u8_lo]
  congr 1
theorem be_term {n : Nat} {c : UInt8} (h : n < 16777216) : IntKind.u32.wrap (IntKind.u32.wrap ((n : Int) * 256) + IntKind.u32.wrap (c.toNat : Int)) = ((n * 256 + c.toNat : Nat) : Int) := by
  have := c.toNat_lt
  rw [IntKind.wrap_u32, IntKind.wrap_u32, IntKind.wrap_u32]
  omega
theorem u32s_snoc (l : List Nat) (x : Nat) : u32s (l ++ [x]) = u32s l ++ [.int .u32 (x : Int)] := by simp [u32s]
theorem u32s_get {l : List Nat} {i : Nat} (h : i < l.length) : (u32s l)[i]? = some (.int .u32 (l.getD i 0 : Nat)) := by simp [u32s, h]

section
variable {B : Nat} {S R : Ents} {Q : Value → Ents → Prop}

theorem rturnC {x n : Nat} (hx : x < 4294967296) (hn : n ≤ 32) (H : Q (.int .u32 (rr x n : Nat)) S) :
    CallWp Tryd.prog B 143 #[.int .u32 (x : Int), .int .i64 (n : Int)] Q S := by
  refine CallWp.enter (args := [_, _]) Tryd.func143 rfl Tryd.ntmps143 rfl ?_
  refine Wp.seq (Wp.region ?_)
  refine OWp.evs 1 rfl ?_
  refine OWp.nil ?_
  refine Wp.seq (Wp.regionDraw [0, 1, 2, 3, 4, 5, 6, 7, 8] [] rfl (by decide +kernel) ?_)
  refine DWp.evs 2 rfl ?_
  refine DWp.g rfl rfl rfl rfl (Gives.shr (m := n) rfl rfl rfl rfl) ?_
  refine DWp.evs 3 rfl ?_
  refine DWp.g rfl rfl rfl rfl (Gives.shl (m := 32 - n) rfl rfl rfl (by rw [i64_id (by omega) (by omega)]; omega)) ?_
  refine DWp.evs 2 rfl ?_
  refine DWp.nil ?_
  refine Wp.ret ⟨trivial, _, ⟨_, _, rfl, rfl, rfl⟩, ?_⟩
  rw [turn_term hx hn]; exact H
theorem rturnEqC {x n : Nat} {v : Int} (hv : v = (n : Int)) (hx : x < 4294967296) (hn : n ≤ 32) (H : Q (.int .u32 (rr x n : Nat)) S) :
    CallWp Tryd.prog B 143 #[.int .u32 (x : Int), .int .i64 v] Q S := by
  subst hv; exact rturnC hx hn H

theorem rwholeC {s : List UInt8} (hs : s.length + 1000 ≤ big) (H : Q (.string (str (s ++ pad s.length))) S) :
    CallWp Tryd.prog B 120 #[.string (str s)] Q S := by
  have hb : big = 281474976710656 := rfl
  rw [hb] at hs
  obtain ⟨z, hz⟩ : ∃ z, z = (119 - s.length % 64) % 64 := ⟨_, rfl⟩
  obtain ⟨m, hm⟩ : ∃ m, m = s.length * 8 := ⟨_, rfl⟩
  have e9 : IntKind.i64.wrap ((z : Int) + 9) = ((z + 9 : Nat) : Int) := by rw [i64_id] <;> omega
  refine CallWp.enter (args := [_]) Tryd.func120 rfl Tryd.ntmps120 rfl ?_
  refine Wp.seq (Wp.region ?_)
  refine OWp.evs 1 rfl ?_
  refine OWp.nil ?_
  refine Wp.seq (Wp.region ?_)
  refine OWp.evs 6 rfl ?_
  refine OWp.nil ?_
  refine Wp.weaken (E' := [(0, .string (str s)), (3, .int .i64 (z : Int))]) (.cons rfl (.cons' rfl (int_eq (by rw [hz]; exact pad_term _)) (.nil _))) (fun _ h => h) ?_
  refine Wp.seq (Wp.region ?_)
  refine OWp.evs 2 rfl ?_
  refine OWp.step rfl (Step.makeSlice (len := z + 9) (cap := z + 9) rfl rfl rfl rfl rfl rfl (by decide) (by rw [← e9]; rfl) (by rw [← e9]; rfl) (Nat.le_refl _) (by show 1 * (z + 9) ≤ _; omega) (by omega) ?_)
  intro L hBL _
  have ez : zeros (cellsOf (Value.int .u8 0)) (z + 9) = byteCells (List.replicate (z + 9) 0) := zeros_u8 (z + 9)
  rw [ez]
  refine OWp.evs 1 rfl ?_
  refine OWp.nil ?_
  refine Wp.seq (Wp.region ?_)
  refine OWp.evs 1 rfl ?_
  refine OWp.g rfl rfl (Gives.indexAddrSlice (0) rfl rfl rfl rfl rfl rfl (by omega)) ?_
  refine OWp.step rfl (Step.storeAs 0 (byteCells (endAt m z 0)) rfl rfl rfl rfl rfl hBL rfl (Unfz.zero _) rfl (by rw [byteCells_length, List.length_replicate]; show 0 + 0 * 1 + 1 ≤ _; omega) (by rw [← endAt_first]; exact bc_setN (by rw [List.length_replicate]; omega) rfl rfl) rfl ?_)
  refine OWp.nil ?_
  refine Wp.seq ?_
  refine Wp.seq (Wp.region ?_)
  refine OWp.evs 1 rfl ?_
  refine OWp.nil ?_
  refine Wp.block ?_
  refine Wp.loopS (α := Nat) (fun i => 8 - i) (fun i => [(0, .string (str s)), (3, .int .i64 (z : Int)), (4, .slice (some ⟨L, 0, none⟩) (z + 9) (z + 9)), (5, .int .i64 (i : Int))]) (fun i => (L, cel (byteCells (endAt m z i)) 5) :: S) (fun i => i ≤ 8) 0 ?_ (.refl _) (Nat.zero_le _) ?_
  · exact .cons rfl (.cons rfl (.cons rfl (.cons rfl (.nil _))))
  intro i hi
  refine Wp.seq ?_
  refine Wp.seq (Wp.region ?_)
  refine OWp.evs 2 rfl ?_
  refine OWp.nil ?_
  refine Wp.cond rfl (fun h1 => ?_) (fun h1 => ?_)
  · have h1 := of_decide_eq_true h1
    have hi2 : i < 8 := by omega
    refine Wp.skip ?_
    refine Wp.seq ?_
    refine Wp.block ?_
    refine Wp.region ?_
    refine OWp.evs 11 rfl ?_
    refine OWp.g rfl rfl (Gives.shr (m := 8 * i) rfl rfl rfl (by rw [i64_id (by omega) (by omega)]; omega)) ?_
    refine OWp.evs 1 rfl ?_
    refine OWp.g rfl rfl (Gives.indexAddrSlice ((z + 8 - i)) rfl rfl rfl rfl rfl (by rw [i64_id (x := (z : Int) + 8) (by omega) (by omega), i64_id (by omega) (by omega)]; omega) (by omega)) ?_
    refine OWp.step rfl (Step.storeAs 0 (byteCells (endAt m z (i + 1))) rfl rfl rfl rfl rfl hBL rfl (Unfz.zero _) rfl (by rw [byteCells_length, endAt_len m z hi]; show 0 + (z + 8 - i) * 1 + 1 ≤ _; omega) (by rw [← endAt_set m z hi2]; exact bc_setN (by rw [endAt_len m z hi]; omega) (by rw [hm]; exact len_byte (by omega) hi2) (by show 0 + (z + 8 - i) * 1 = z + 8 - i; omega)) rfl ?_)
    refine OWp.nil ?_
    refine Wp.region ?_
    refine OWp.evs 3 rfl ?_
    refine OWp.nil ?_
    exact ⟨i + 1, by omega, by omega, .cons rfl (.cons rfl (.cons rfl (.cons' rfl (int_eq (i64_inc (by omega))) (.nil _)))), .refl _⟩
  have h1 := of_decide_eq_false h1
  obtain rfl : i = 8 := by omega
  refine Wp.exit ?_
  refine Wp.seq (Wp.region ?_)
  refine OWp.evs 2 rfl ?_
  refine OWp.gives rfl rfl (Gives.bytesToStr (F := [(L, cel (byteCells (endAt m z 8)) 5)]) (l := endAt m z 8) (k := z + 9) rfl rfl rfl rfl rfl (bc_reads (endAt_len m z (Nat.le_refl _)) (.head _))) (mem1 (.head _)) ?_
  refine OWp.g rfl rfl (Gives.addStr rfl rfl rfl (by rw [endAt_len m z (Nat.le_refl _)]; omega)) ?_
  refine OWp.evs 1 rfl ?_
  refine OWp.nil ?_
  refine Wp.dropAt 0 rfl ?_
  refine Wp.ret ⟨trivial, _, ⟨_, _, rfl, rfl, rfl⟩, ?_⟩
  rw [hm, hz, endAt_pad]; exact H
theorem rgrownC {b : List UInt8} (hb : b.length = 64) (H : ∀ v es, Own B 120 1 v 64 (u32s (wpre (blockW b) 64)) es → Q v (es ++ S)) :
    CallWp Tryd.prog B 141 #[.string (str b)] Q S := by
  have hW := blockW_sched b
  refine CallWp.enter (args := [_]) Tryd.func141 rfl Tryd.ntmps141 rfl ?_
  refine Wp.seq (Wp.region ?_)
  refine OWp.evs 1 rfl ?_
  refine OWp.nil ?_
  refine Wp.seq (Wp.region ?_)
  refine OWp.evs 1 rfl ?_
  refine OWp.nil ?_
  refine Wp.seq ?_
  refine Wp.seq (Wp.region ?_)
  refine OWp.evs 1 rfl ?_
  refine OWp.nil ?_
  refine Wp.block ?_
  refine Wp.loopS (α := Nat × Value × Ents) (fun z => 16 - z.1) (fun z => [(0, .string (str b)), (3, z.2.1), (4, .int .i64 ((4 * z.1 : Nat) : Int))]) (fun z => z.2.2 ++ S) (fun z => z.1 ≤ 16 ∧ Own B 120 1 z.2.1 z.1 (u32s (wpre (blockW b) z.1)) z.2.2) (0, .slice none 0 0, []) ?_ (.refl _) ⟨Nat.zero_le _, Own.nil _ _ _⟩ ?_
  · exact .cons rfl (.cons rfl (.cons rfl (.nil _)))
  rintro ⟨j, v, es⟩ ⟨hj, hown⟩
  simp only at hj hown ⊢
  refine Wp.seq ?_
  refine Wp.seq (Wp.region ?_)
  refine OWp.evs 2 rfl ?_
  refine OWp.nil ?_
  refine Wp.cond rfl (fun h1 => ?_) (fun h1 => ?_)
  · have h1 := of_decide_eq_true h1
    have hj2 : j < 16 := by omega
    refine Wp.skip ?_
    refine Wp.seq ?_
    refine Wp.block ?_
    refine Wp.seq (Wp.region ?_)
    refine OWp.evs 1 rfl ?_
    refine OWp.nil ?_
    refine Wp.seq ?_
    refine Wp.seq (Wp.region ?_)
    refine OWp.evs 1 rfl ?_
    refine OWp.nil ?_
    refine Wp.block ?_
    refine Wp.loopS (α := Nat) (fun k => 4 - k) (fun k => [(0, .string (str b)), (3, v), (4, .int .i64 ((4 * j : Nat) : Int)), (5, .int .u32 ((beAt b (4 * j) k : Nat) : Int)), (6, .int .i64 (k : Int))]) (fun _ => es ++ S) (fun k => k ≤ 4) 0 ?_ (.refl _) (Nat.zero_le _) ?_
    · exact .cons rfl (.cons rfl (.cons rfl (.cons' rfl (int_eq (by rw [beAt_zero]; rfl)) (.cons rfl (.nil _)))))
    intro k hk
    refine Wp.seq ?_
    refine Wp.seq (Wp.region ?_)
    refine OWp.evs 2 rfl ?_
    refine OWp.nil ?_
    refine Wp.cond rfl (fun h2 => ?_) (fun h2 => ?_)
    · have h2 := of_decide_eq_true h2
      have hk2 : k < 4 := by omega
      have ejk : IntKind.i64.wrap (((4 * j : Nat) : Int) + (k : Int)) = ((4 * j + k : Nat) : Int) := by rw [i64_id] <;> omega
      refine Wp.skip ?_
      refine Wp.seq ?_
      refine Wp.block ?_
      refine Wp.region ?_
      refine OWp.evs 6 rfl ?_
      refine OWp.g rfl rfl (Gives.indexStr (b := (b.getD (4 * j + k) 0)) rfl rfl rfl rfl (by rw [ejk]; omega) (by rw [ejk]; exact getD_some (by omega))) ?_
      refine OWp.evs 3 rfl ?_
      refine OWp.nil ?_
      refine Wp.region ?_
      refine OWp.evs 3 rfl ?_
      refine OWp.nil ?_
      exact ⟨k + 1, by omega, by omega, .cons rfl (.cons rfl (.cons rfl (.cons' rfl (int_eq (by rw [beAt_succ b (by omega)]; exact be_term (beAt_lt b (by omega)))) (.cons' rfl (int_eq (i64_inc (by omega))) (.nil _))))), .refl _⟩
    have h2 := of_decide_eq_false h2
    obtain rfl : k = 4 := by omega
    refine Wp.exit ?_
    refine Wp.region ?_
    refine OWp.evs 2 rfl ?_
    refine OWp.step rfl (Step.buildSlice rfl rfl rfl ?_); intro Lp1 hBLp1 hLLp1
    refine OWp.step rfl (Step.appendAt [_] rfl rfl rfl rfl rfl rfl (by decide) rfl rfl hown (Reads.row (k := 1) (sz := 1) (.head _) (Nat.le_of_ble_eq_true rfl)) rfl (by show (_ + 1) * 4 ≤ _; omega) (by unfold maxLen; omega) ?_); intro v2 es2 ho2 _
    refine OWp.dropAt 0 rfl ?_
    refine OWp.evs 1 rfl ?_
    refine OWp.nil ?_
    refine Wp.region ?_
    refine OWp.evs 3 rfl ?_
    refine OWp.nil ?_
    refine ⟨(j + 1, v2, es2), by simp only; omega, ⟨by simp only; omega, ?_⟩, .cons rfl (.cons rfl (.cons' rfl (int_eq (by simp only; rw [i64_id] <;> omega)) (.nil _))), .refl _⟩
    simp only
    rw [wpre_succ, u32s_snoc]
    exact own_last ho2 (int_eq (by rw [beAt_word b hj2]))
  have h1 := of_decide_eq_false h1
  obtain rfl : j = 16 := by omega
  obtain ⟨aa, ac, rfl⟩ := hown.reads.form
  refine Wp.exit ?_
  refine Wp.seq ?_
  refine Wp.block ?_
  refine Wp.loopS (α := Nat × Option Addr × Nat × Ents) (fun z => 64 - z.1) (fun z => [(3, .slice z.2.1 z.1 z.2.2.1)]) (fun z => z.2.2.2 ++ S) (fun z => 16 ≤ z.1 ∧ z.1 ≤ 64 ∧ Own B 120 1 (.slice z.2.1 z.1 z.2.2.1) z.1 (u32s (wpre (blockW b) z.1)) z.2.2.2) (16, aa, ac, es) ?_ (.refl _) ⟨Nat.le_refl _, by simp only; omega, hown⟩ ?_
  · exact .cons rfl (.nil _)
  clear hown
  rintro ⟨m, a2, c2, es2⟩ ⟨hm1, hm2, hown⟩
  simp only at hm1 hm2 hown ⊢
  refine Wp.seq ?_
  refine Wp.seq (Wp.region ?_)
  refine OWp.evs 3 rfl ?_
  refine OWp.nil ?_
  refine Wp.cond rfl (fun h3 => ?_) (fun h3 => ?_)
  · have h3 := of_decide_eq_true h3
    have hm3 : m < 64 := by omega
    obtain ⟨b1, o1, c1, l1, t1, f1, hv1, hmem, _, hg1⟩ := hown.reads.get1 (by omega)
    cases hv1
    have x15 := hW.small (m - 15)
    have x2 := hW.small (m - 2)
    have gt : ∀ i, i < m → l1[o1 + i * 1]? = some (.int .u32 ((blockW b i : Nat) : Int)) := fun i hi => (hg1 i hi).trans (by rw [u32s_get (by rw [wpre_len]; exact hi), wpre_get _ hi])
    refine Wp.skip ?_
    refine Wp.block ?_
    refine Wp.seq (Wp.region ?_)
    refine OWp.evs 3 rfl ?_
    refine OWp.nil ?_
    refine Wp.seq (Wp.regionDraw [0, 1, 2, 3, 4, 5, 6, 7, 8, 9, 10, 11] [] rfl (by decide +kernel) ?_)
    refine DWp.evs 3 rfl ?_
    refine DWp.g rfl rfl rfl rfl (Gives.indexAddrSlice ((m - 15)) rfl rfl rfl rfl rfl (by rw [i64_id (by omega) (by omega)]; omega) (by omega)) ?_
    refine DWp.load (List.mem_append_left _ hmem) rfl rfl rfl rfl rfl rfl (gt (m - 15) (by omega)) ?_
    refine DWp.evs 3 rfl ?_
    refine DWp.g rfl rfl rfl rfl (Gives.indexAddrSlice ((m - 2)) rfl rfl rfl rfl rfl (by rw [i64_id (by omega) (by omega)]; omega) (by omega)) ?_
    refine DWp.load (List.mem_append_left _ hmem) rfl rfl rfl rfl rfl rfl (gt (m - 2) (by omega)) ?_
    refine DWp.evs 2 rfl ?_
    refine DWp.nil ?_
    refine Wp.regionDraw [0, 1, 2, 3, 4, 5, 6, 8, 11, 12, 15, 16, 17, 18, 19, 21, 23, 26, 27, 7, 9, 10, 13, 14, 20, 22, 24, 25, 28, 29, 30, 31, 32] [7, 9, 22, 24, 30, 31] rfl (by decide +kernel) ?_
    refine DWp.evs 4 rfl ?_
    refine DWp.g rfl rfl rfl rfl (Gives.indexAddrSlice ((m - 16)) rfl rfl rfl rfl rfl (by rw [i64_id (by omega) (by omega)]; omega) (by omega)) ?_
    refine DWp.load (List.mem_append_left _ hmem) rfl rfl rfl rfl rfl rfl (gt (m - 16) (by omega)) ?_
    refine DWp.evs 7 rfl ?_
    refine DWp.g rfl rfl rfl rfl (Gives.indexAddrSlice ((m - 7)) rfl rfl rfl rfl rfl (by rw [i64_id (by omega) (by omega)]; omega) (by omega)) ?_
    refine DWp.load (List.mem_append_left _ hmem) rfl rfl rfl rfl rfl rfl (gt (m - 7) (by omega)) ?_
    refine DWp.evs 4 rfl ?_
    refine DWp.stepGrow rfl rfl rfl (Step.call rfl rfl rfl rfl rfl rfl ((rturnEqC (n := 7) rfl x15 (by decide) ?_)))
    refine ⟨fun _ hy => hy, ?_⟩
    refine DWp.stepGrow rfl rfl rfl (Step.call rfl rfl rfl rfl rfl rfl ((rturnEqC (n := 18) rfl x15 (by decide) ?_)))
    refine ⟨fun _ hy => hy, ?_⟩
    refine DWp.evs 4 rfl ?_
    refine DWp.stepGrow rfl rfl rfl (Step.call rfl rfl rfl rfl rfl rfl ((rturnEqC (n := 17) rfl x2 (by decide) ?_)))
    refine ⟨fun _ hy => hy, ?_⟩
    refine DWp.stepGrow rfl rfl rfl (Step.call rfl rfl rfl rfl rfl rfl ((rturnEqC (n := 19) rfl x2 (by decide) ?_)))
    refine ⟨fun _ hy => hy, ?_⟩
    refine DWp.evs 3 rfl ?_
    refine DWp.stepAll rfl rfl rfl rfl (Step.buildSlice rfl rfl rfl ?_); intro Lp2 hBLp2 hLLp2
    refine DWp.stepAll rfl rfl rfl rfl (Step.appendAt [_] rfl rfl rfl rfl rfl rfl (by decide) rfl rfl hown (Reads.row (k := 1) (sz := 1) (.head _) (Nat.le_of_ble_eq_true rfl)) rfl (by show (_ + 1) * 4 ≤ _; omega) (by unfold maxLen; omega) ?_); intro v3 es3 ho3 _
    refine DWp.drop0 (List.sublist_cons_self _ _) ?_
    refine DWp.evs 1 rfl ?_
    refine DWp.nil ?_
    have ho4 : Own B 120 1 v3 (m + 1) (u32s (wpre (blockW b) (m + 1))) es3 := by
      rw [wpre_succ, u32s_snoc]
      refine own_last ho3 (int_eq ?_)
      rw [← wpre_next hW hm1, ← grow_ref, ← u32_add, ← u32_add, ← u32_add, ← s0_term x15, ← s1_term x2]
    obtain ⟨a4, c4, rfl⟩ := ho4.reads.form
    exact ⟨(m + 1, a4, c4, es3), by simp only; omega, ⟨by simp only; omega, by simp only; omega, ho4⟩, .cons rfl (.nil _), .refl _⟩
  have h3 := of_decide_eq_false h3
  obtain rfl : m = 64 := by omega
  refine Wp.exit ?_
  refine Wp.seq (Wp.region ?_)
  refine OWp.evs 2 rfl ?_
  refine OWp.nil ?_
  refine Wp.ret ⟨trivial, _, ⟨_, _, rfl, rfl, rfl⟩, ?_⟩
  exact H _ _ hown
end
end Go.Proofs.D
