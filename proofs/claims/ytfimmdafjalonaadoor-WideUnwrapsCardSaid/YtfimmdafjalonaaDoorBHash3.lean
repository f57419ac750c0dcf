/- What functions of the given program do, one after the other, told by that layer. -/
import Derived.Test.YtfimmdafjalonaaDoorBHash2
namespace Go.Proofs.D
open Go.Lg Go.Sha
set_option maxRecDepth 100000

theorem q4 {i : Nat} (h : i ≤ 281474976710656) : IntKind.i64.wrap ((i : Int).tdiv 4) = ((i / 4 : Nat) : Int) := by
  rw [Int.tdiv_eq_ediv_of_nonneg (by omega), i64_id (by omega) (by omega)]; omega
theorem u32s_part0 {l : List Nat} {i : Nat} (h : i < l.length) : Lg.partAt Tryd.prog 120 (u32s l) (i * 1) = some (.int .u32 (l.getD i 0 : Nat)) := by
  show (u32s l)[i * 1]? = _
  rw [Nat.mul_one]
  simp [u32s, h]
theorem t_term {v : V} {k w : Nat} (hv : v.ok) : IntKind.u32.wrap (IntKind.u32.wrap (IntKind.u32.wrap (IntKind.u32.wrap ((v.h : Int) + bits .xor .u32 (bits .xor .u32 (rr v.e 6 : Nat) (rr v.e 11 : Nat)) (rr v.e 25 : Nat)) + bits .xor .u32 (v.g : Int) (bits .and .u32 (v.e : Int) (bits .xor .u32 (v.f : Int) (v.g : Int)))) + (k : Int)) + (w : Int)) = (tt v k w : Nat) := by
  obtain ⟨ha, hb, hc, hd, he, hf, hg, hh⟩ := hv
  rw [xor3_term (rr_lt he (by decide)) (rr_lt he (by decide)) (rr_lt he (by decide)), ch_term he hf hg]
  rw [u32_add, u32_add, u32_add, u32_add]
  unfold tt S1
  generalize rr v.e 6 ^^^ rr v.e 11 ^^^ rr v.e 25 = x
  generalize ch v.e v.f v.g = y
  omega
theorem u_term {v : V} (hv : v.ok) : IntKind.u32.wrap (bits .xor .u32 (bits .xor .u32 (rr v.a 2 : Nat) (rr v.a 13 : Nat)) (rr v.a 22 : Nat) + bits .or .u32 (bits .and .u32 (v.a : Int) (v.b : Int)) (bits .and .u32 (v.c : Int) (bits .or .u32 (v.a : Int) (v.b : Int)))) = (uu v : Nat) := by
  obtain ⟨ha, hb, hc, hd, he, hf, hg, hh⟩ := hv
  rw [xor3_term (rr_lt ha (by decide)) (rr_lt ha (by decide)) (rr_lt ha (by decide)), maj_term ha hb hc, u32_add]
  rfl

/-- Sums, as far as the first i. -/
def pl (l z : List Nat) (i : Nat) : List Nat := (List.zipWith add l z).take i ++ l.drop i
theorem pl_len {l z : List Nat} (hl : l.length = 8) (hz : z.length = 8) (i : Nat) : (pl l z i).length = 8 := by
  unfold pl
  rw [List.length_append, List.length_take, List.length_drop, List.length_zipWith]
  omega
theorem pl_get {l z : List Nat} (hl : l.length = 8) (hz : z.length = 8) {i : Nat} (hi : i < 8) : (pl l z i).getD i 0 = l.getD i 0 := by
  unfold pl
  have e : ((List.zipWith add l z).take i).length = i := by rw [List.length_take, List.length_zipWith]; omega
  rw [List.getD_eq_getElem?_getD, List.getElem?_append_right (by omega), e, Nat.sub_self, List.getElem?_drop, List.getD_eq_getElem?_getD, Nat.add_zero]
theorem pl_set {l z : List Nat} (hl : l.length = 8) (hz : z.length = 8) {i : Nat} (hi : i < 8) : (pl l z i).set i (add (l.getD i 0) (z.getD i 0)) = pl l z (i + 1) := by
  unfold pl
  have e : ((List.zipWith add l z).take i).length = i := by rw [List.length_take, List.length_zipWith]; omega
  rw [List.set_append_right _ _ (by omega), e, Nat.sub_self]
  have ed : l.drop i = l.getD i 0 :: l.drop (i + 1) := by
    rw [List.drop_eq_getElem_cons (by omega), List.getD_eq_getElem?_getD, List.getElem?_eq_getElem (by omega)]; rfl
  rw [ed, List.set_cons_zero, List.take_add_one]
  have eg : (List.zipWith add l z)[i]? = some (add (l.getD i 0) (z.getD i 0)) := by
    rw [List.getElem?_zipWith, List.getD_eq_getElem?_getD, List.getD_eq_getElem?_getD, List.getElem?_eq_getElem (by omega), List.getElem?_eq_getElem (by omega)]; rfl
  rw [eg]
  simp
theorem vlist_len (v : V) : v.list.length = 8 := rfl
theorem pl_all (v w : V) : pl v.list w.list 8 = (v.plus w).list := rfl

section
variable {B : Nat} {S R : Ents} {Q : Value → Ents → Prop}

set_option maxHeartbeats 1000000 in
theorem mixC {v : V} {r : List UInt8} {p h t : Nat} (hB : B ≤ p) (hv : v.ok) (hr : r.length = 64) (hk : KsIn R) (H : Q (.tuple #[]) (hs p (press v r).list r 0 t :: R)) :
    CallWp Tryd.prog B 114 #[pt p] Q (hs p v.list r h t :: R) := by
  obtain ⟨lk, ek, fk, hkm, hkat⟩ := hk
  have hW := blockW_sched r
  have hvl := vlist_len v
  refine CallWp.enter (args := [_]) Tryd.func114 rfl Tryd.ntmps114 rfl ?_
  refine Wp.seq (Wp.region ?_)
  refine OWp.step rfl (Step.alloc rfl rfl rfl ?_); intro Lw hBLw hLLw
  refine OWp.nil ?_
  refine Wp.seq ?_
  refine Wp.seq (Wp.region ?_)
  refine OWp.evs 1 rfl ?_
  refine OWp.nil ?_
  refine Wp.block ?_
  refine Wp.loopS (α := Nat) (fun i => 64 - i) (fun i => [(17, .int .i64 (i : Int)), (2, pt Lw), (0, pt p)]) (fun i => (Lw, cel (u32s (wpart r i)) 165) :: hs p v.list r h t :: R) (fun i => i ≤ 64) 0 ?_ (.refl _) (Nat.zero_le _) ?_
  · exact .cons rfl (.cons rfl (.cons rfl (.nil _)))
  intro i hi
  refine Wp.seq (Wp.region ?_)
  refine OWp.evs 1 rfl ?_
  refine OWp.nil ?_
  refine Wp.seq ?_
  refine Wp.cond rfl (fun h1 => ?_) (fun h1 => ?_)
  · have h1 := of_decide_eq_true h1
    have hlt : i < 64 := by omega
    refine Wp.skip ?_
    refine Wp.seq ?_
    refine Wp.block ?_
    refine Wp.seq (Wp.region ?_)
    refine OWp.evs 2 rfl ?_
    refine OWp.nil ?_
    refine Wp.regionDraw [0, 1, 2, 3, 4, 5, 6, 7, 8, 9, 10, 11, 12, 13, 14, 15, 16] [16] rfl (by decide +kernel) ?_
    refine DWp.evs 4 rfl ?_
    refine DWp.g rfl rfl rfl rfl (Gives.indexAddrArr ((i / 4)) rfl rfl rfl rfl rfl (q4 (by omega)) (by omega)) ?_
    refine DWp.load (.head _) rfl rfl rfl rfl rfl rfl (u32s_part (by rw [wpart_len]; omega)) ?_
    refine DWp.evs 5 rfl ?_
    refine DWp.g rfl rfl rfl rfl (Gives.indexAddrArr (i) rfl rfl rfl rfl rfl rfl (by omega)) ?_
    refine DWp.load (.tail _ (.head _)) rfl rfl rfl rfl rfl rfl (hc_rest hvl hr hlt (by show 0 + 8 + i * 1 = 8 + i; omega)) ?_
    refine DWp.evs 2 rfl ?_
    refine DWp.g rfl rfl rfl rfl (Gives.indexAddrArr ((i / 4)) rfl rfl rfl rfl rfl (q4 (by omega)) (by omega)) ?_
    refine DWp.stepAll rfl rfl rfl rfl (Step.storeAs 0 (u32s (wpart r (i + 1))) rfl rfl rfl rfl rfl (by assumption) rfl (Unfz.zero _) rfl (by rw [u32s_length, wpart_len]; show 0 + (i / 4) * 1 + 1 ≤ 16; omega) (by rw [word_term wpart_lt, ← wpart_step hr hlt]; exact u32s_set (by rw [wpart_len]; omega) (by show 0 + (i / 4) * 1 = i / 4; omega)) rfl ?_)
    refine DWp.nil ?_
    refine Wp.region ?_
    refine OWp.evs 2 rfl ?_
    refine OWp.nil ?_
    refine ⟨i + 1, by omega, by omega, ?_, .refl _⟩
    exact .cons' rfl (int_eq (i64_inc (by omega))) (.cons rfl (.cons rfl (.nil _)))
  have h1 := of_decide_eq_false h1
  obtain rfl : i = 64 := by omega
  rw [wpart_all, show words 16 r = win (blockW r) 0 from itw_win (words_len _ _) 0, ← cw_first]
  refine Wp.exit ?_
  refine Wp.seq (Wp.regionDraw [0, 1, 2, 3, 4, 5, 6, 7, 8, 9, 10, 11, 12, 13, 14, 15, 16, 17, 18, 19, 20, 21, 22, 23, 24, 25, 26, 27, 28, 29, 30, 31, 32, 33, 34, 35, 36, 37, 38, 39, 40, 41, 42, 43, 44, 45, 46, 47] [] rfl (by decide +kernel) ?_)
  refine DWp.evs 3 rfl ?_
  refine DWp.g rfl rfl rfl rfl (Gives.indexAddrArr (0) rfl rfl rfl rfl rfl rfl (by decide)) ?_
  refine DWp.load (.tail _ (.head _)) rfl rfl rfl rfl rfl rfl (hc_v hvl (j := 0) (by decide) rfl) ?_
  refine DWp.evs 3 rfl ?_
  refine DWp.g rfl rfl rfl rfl (Gives.indexAddrArr (1) rfl rfl rfl rfl rfl rfl (by decide)) ?_
  refine DWp.load (.tail _ (.head _)) rfl rfl rfl rfl rfl rfl (hc_v hvl (j := 1) (by decide) rfl) ?_
  refine DWp.evs 3 rfl ?_
  refine DWp.g rfl rfl rfl rfl (Gives.indexAddrArr (2) rfl rfl rfl rfl rfl rfl (by decide)) ?_
  refine DWp.load (.tail _ (.head _)) rfl rfl rfl rfl rfl rfl (hc_v hvl (j := 2) (by decide) rfl) ?_
  refine DWp.evs 3 rfl ?_
  refine DWp.g rfl rfl rfl rfl (Gives.indexAddrArr (3) rfl rfl rfl rfl rfl rfl (by decide)) ?_
  refine DWp.load (.tail _ (.head _)) rfl rfl rfl rfl rfl rfl (hc_v hvl (j := 3) (by decide) rfl) ?_
  refine DWp.evs 3 rfl ?_
  refine DWp.g rfl rfl rfl rfl (Gives.indexAddrArr (4) rfl rfl rfl rfl rfl rfl (by decide)) ?_
  refine DWp.load (.tail _ (.head _)) rfl rfl rfl rfl rfl rfl (hc_v hvl (j := 4) (by decide) rfl) ?_
  refine DWp.evs 3 rfl ?_
  refine DWp.g rfl rfl rfl rfl (Gives.indexAddrArr (5) rfl rfl rfl rfl rfl rfl (by decide)) ?_
  refine DWp.load (.tail _ (.head _)) rfl rfl rfl rfl rfl rfl (hc_v hvl (j := 5) (by decide) rfl) ?_
  refine DWp.evs 3 rfl ?_
  refine DWp.g rfl rfl rfl rfl (Gives.indexAddrArr (6) rfl rfl rfl rfl rfl rfl (by decide)) ?_
  refine DWp.load (.tail _ (.head _)) rfl rfl rfl rfl rfl rfl (hc_v hvl (j := 6) (by decide) rfl) ?_
  refine DWp.evs 3 rfl ?_
  refine DWp.g rfl rfl rfl rfl (Gives.indexAddrArr (7) rfl rfl rfl rfl rfl rfl (by decide)) ?_
  refine DWp.load (.tail _ (.head _)) rfl rfl rfl rfl rfl rfl (hc_v hvl (j := 7) (by decide) rfl) ?_
  refine DWp.evs 8 rfl ?_
  refine DWp.nil ?_
  refine Wp.seq ?_
  refine Wp.seq (Wp.region ?_)
  refine OWp.evs 1 rfl ?_
  refine OWp.nil ?_
  refine Wp.block ?_
  refine Wp.loopS (α := Nat) (fun i => 64 - i) (fun i => [(77, .int .i64 (i : Int)), (4, .int .u32 ((rv (blockW r) v i).a : Nat)), (5, .int .u32 ((rv (blockW r) v i).b : Nat)), (6, .int .u32 ((rv (blockW r) v i).c : Nat)), (7, .int .u32 ((rv (blockW r) v i).d : Nat)), (8, .int .u32 ((rv (blockW r) v i).e : Nat)), (9, .int .u32 ((rv (blockW r) v i).f : Nat)), (10, .int .u32 ((rv (blockW r) v i).g : Nat)), (11, .int .u32 ((rv (blockW r) v i).h : Nat)), (2, pt Lw), (0, pt p)]) (fun i => (Lw, cel (u32s (cw (blockW r) i)) 165) :: hs p v.list r h t :: R) (fun i => i ≤ 64) 0 ?_ (.refl _) (Nat.zero_le _) ?_
  · exact .cons rfl (.cons rfl (.cons rfl (.cons rfl (.cons rfl (.cons rfl (.cons rfl (.cons rfl (.cons rfl (.cons rfl (.cons rfl (.nil _)))))))))))
  intro i hi
  have hvi := rv_ok (W := blockW r) hv i
  have hri : rv (blockW r) v (i + 1) = round (rv (blockW r) v i) (ks.getD i 0) (blockW r i) := rfl
  generalize hy : rv (blockW r) v i = y at hvi hri ⊢
  refine Wp.seq (Wp.region ?_)
  refine OWp.evs 1 rfl ?_
  refine OWp.nil ?_
  refine Wp.seq ?_
  refine Wp.cond rfl (fun h2 => ?_) (fun h2 => ?_)
  · have h2 := of_decide_eq_true h2
    have hlt : i < 64 := by omega
    refine Wp.skip ?_
    refine Wp.seq ?_
    refine Wp.block ?_
    refine Wp.seq (Wp.region ?_)
    refine OWp.evs 2 rfl ?_
    refine OWp.nil ?_
    refine Wp.seqS (α := Unit) (fun _ => [(12, .int .i64 (i : Int)), (77, .int .i64 (i : Int)), (4, .int .u32 (y.a : Nat)), (5, .int .u32 (y.b : Nat)), (6, .int .u32 (y.c : Nat)), (7, .int .u32 (y.d : Nat)), (8, .int .u32 (y.e : Nat)), (9, .int .u32 (y.f : Nat)), (10, .int .u32 (y.g : Nat)), (11, .int .u32 (y.h : Nat)), (2, pt Lw), (0, pt p)]) (fun _ => (Lw, cel (u32s (cw (blockW r) (i + 1))) 165) :: hs p v.list r h t :: R) (fun _ => True) ?_ ?_
    · skip
      refine Wp.seq (Wp.region ?_)
      refine OWp.evs 2 rfl ?_
      refine OWp.nil ?_
      refine Wp.cond rfl (fun h3 => ?_) (fun h3 => ?_)
      · have h3 := of_decide_eq_true h3
        refine Wp.region ?_
        refine OWp.evs 1 rfl ?_
        refine OWp.step rfl (Step.call rfl rfl rfl rfl rfl rfl ((growC (c := cw (blockW r) i) hBLw (cw_len _ _) (cw_lt hW i) (by omega) (by omega) ?_)))
        rw [cw_grow hW (by omega)]
        refine OWp.nil ?_
        exact ⟨(), trivial, .cons rfl (.cons rfl (.cons rfl (.cons rfl (.cons rfl (.cons rfl (.cons rfl (.cons rfl (.cons rfl (.cons rfl (.cons rfl (.cons rfl (.nil _)))))))))))), .refl _⟩
      have h3 := of_decide_eq_false h3
      rw [cw_low (show i < 16 by omega)]
      refine Wp.skip ?_
      exact ⟨(), trivial, .cons rfl (.cons rfl (.cons rfl (.cons rfl (.cons rfl (.cons rfl (.cons rfl (.cons rfl (.cons rfl (.cons rfl (.cons rfl (.cons rfl (.nil _)))))))))))), .refl _⟩
    rintro ⟨⟩ -
    refine Wp.seq (Wp.regionDraw [0, 1, 3, 6, 10, 11, 12, 13, 14, 15, 16, 18, 19, 20, 22, 2, 4, 5, 7, 8, 9, 17, 21, 23, 24, 25, 26, 27] [2, 4, 7, 23] rfl (by decide +kernel) ?_)
    refine DWp.evs 12 rfl ?_
    refine DWp.g rfl rfl rfl rfl (Gives.indexAddrArr (i) rfl rfl rfl rfl rfl rfl (by omega)) ?_
    refine DWp.load (.tail _ (.tail _ hkm)) rfl rfl rfl rfl rfl rfl (by show lk[0 + i * 1]? = _; rw [Nat.zero_add, Nat.mul_one]; exact hkat i hlt) ?_
    refine DWp.evs 1 rfl ?_
    refine DWp.stepGrow rfl rfl rfl (Step.call rfl rfl rfl rfl rfl rfl ((rrC (j := 6) hvi.2.2.2.2.1 (by decide) (by decide +kernel) ?_)))
    refine ⟨fun _ hy => hy, ?_⟩
    refine DWp.stepGrow rfl rfl rfl (Step.call rfl rfl rfl rfl rfl rfl ((rrC (j := 11) hvi.2.2.2.2.1 (by decide) (by decide +kernel) ?_)))
    refine ⟨fun _ hy => hy, ?_⟩
    refine DWp.evs 1 rfl ?_
    refine DWp.stepGrow rfl rfl rfl (Step.call rfl rfl rfl rfl rfl rfl ((rrC (j := 25) hvi.2.2.2.2.1 (by decide) (by decide +kernel) ?_)))
    refine ⟨fun _ hy => hy, ?_⟩
    refine DWp.evs 4 rfl ?_
    refine DWp.stepGrow rfl rfl rfl (Step.call rfl rfl rfl rfl rfl rfl ((atC (i := i) (by omega) ?_)))
    refine ⟨fun _ hy => hy, ?_⟩
    refine DWp.evs 1 rfl ?_
    refine DWp.load (.head _) rfl rfl rfl rfl rfl rfl ((u32s_part (by rw [cw_len]; omega)).trans (by rw [cw_get (t := i) (by omega) (by omega) rfl])) ?_
    refine DWp.evs 2 rfl ?_
    refine DWp.nil ?_
    refine Wp.weaken (E' := [(13, .int .u32 (tt y (ks.getD i 0) (blockW r i) : Nat)), (12, .int .i64 (i : Int)), (77, .int .i64 (i : Int)), (4, .int .u32 (y.a : Nat)), (5, .int .u32 (y.b : Nat)), (6, .int .u32 (y.c : Nat)), (7, .int .u32 (y.d : Nat)), (8, .int .u32 (y.e : Nat)), (9, .int .u32 (y.f : Nat)), (10, .int .u32 (y.g : Nat)), (11, .int .u32 (y.h : Nat)), (2, pt Lw), (0, pt p)]) (.cons' rfl (int_eq (t_term hvi)) (.cons rfl (.cons rfl (.cons rfl (.cons rfl (.cons rfl (.cons rfl (.cons rfl (.cons rfl (.cons rfl (.cons rfl (.cons rfl (.cons rfl (.nil _)))))))))))))) (fun _ h => h) ?_
    refine Wp.seq (Wp.region ?_)
    refine OWp.evs 1 rfl ?_
    refine OWp.step rfl (Step.call rfl rfl rfl rfl rfl rfl ((rrC (j := 2) hvi.1 (by decide) (by decide +kernel) ?_)))
    refine OWp.evs 1 rfl ?_
    refine OWp.step rfl (Step.call rfl rfl rfl rfl rfl rfl ((rrC (j := 13) hvi.1 (by decide) (by decide +kernel) ?_)))
    refine OWp.evs 2 rfl ?_
    refine OWp.step rfl (Step.call rfl rfl rfl rfl rfl rfl ((rrC (j := 22) hvi.1 (by decide) (by decide +kernel) ?_)))
    refine OWp.evs 12 rfl ?_
    refine OWp.nil ?_
    refine Wp.weaken (E' := [(14, .int .u32 (uu y : Nat)), (13, .int .u32 (tt y (ks.getD i 0) (blockW r i) : Nat)), (77, .int .i64 (i : Int)), (4, .int .u32 (y.a : Nat)), (5, .int .u32 (y.b : Nat)), (6, .int .u32 (y.c : Nat)), (7, .int .u32 (y.d : Nat)), (8, .int .u32 (y.e : Nat)), (9, .int .u32 (y.f : Nat)), (10, .int .u32 (y.g : Nat)), (11, .int .u32 (y.h : Nat)), (2, pt Lw), (0, pt p)]) (.cons' rfl (int_eq (u_term hvi)) (.cons rfl (.cons rfl (.cons rfl (.cons rfl (.cons rfl (.cons rfl (.cons rfl (.cons rfl (.cons rfl (.cons rfl (.cons rfl (.cons rfl (.nil _)))))))))))))) (fun _ h => h) ?_
    refine Wp.region ?_
    refine OWp.evs 20 rfl ?_
    refine OWp.nil ?_
    refine Wp.region ?_
    refine OWp.evs 2 rfl ?_
    refine OWp.nil ?_
    refine ⟨i + 1, by omega, by omega, ?_, .refl _⟩
    rw [hri]
    exact .cons' rfl (int_eq (i64_inc (by omega))) (.cons' rfl (int_eq (u32_add _ _)) (.cons rfl (.cons rfl (.cons rfl (.cons' rfl (int_eq (u32_add _ _)) (.cons rfl (.cons rfl (.cons rfl (.cons rfl (.cons rfl (.nil _)))))))))))
  have h2 := of_decide_eq_false h2
  obtain rfl : i = 64 := by omega
  refine Wp.exit ?_
  refine Wp.seq ?_
  refine Wp.seq (Wp.region ?_)
  refine OWp.evs 8 rfl ?_
  refine OWp.g rfl rfl (Gives.build rfl rfl) ?_
  refine OWp.evs 1 rfl ?_
  refine OWp.nil ?_
  refine Wp.block ?_
  refine Wp.loopS (α := Nat) (fun i => 8 - i) (fun i => [(151, .int .i64 (i : Int)), (150, .agg (u32s y.list).toArray), (0, pt p)]) (fun i => (Lw, cel (u32s (cw (blockW r) 64)) 165) :: hs p (pl v.list y.list i) r h t :: R) (fun i => i ≤ 8) 0 ?_ (.refl _) (Nat.zero_le _) ?_
  · exact .cons rfl (.cons rfl (.cons rfl (.nil _)))
  intro i hi
  refine Wp.seq (Wp.region ?_)
  refine OWp.evs 1 rfl ?_
  refine OWp.nil ?_
  refine Wp.seq ?_
  refine Wp.cond rfl (fun h4 => ?_) (fun h4 => ?_)
  · have h4 := of_decide_eq_true h4
    have hlt : i < 8 := by omega
    have hpl := pl_len hvl (vlist_len y) i
    refine Wp.skip ?_
    refine Wp.seq ?_
    refine Wp.block ?_
    refine Wp.seq (Wp.region ?_)
    refine OWp.evs 1 rfl ?_
    refine OWp.g rfl rfl (Gives.indexArr (i) rfl rfl rfl rfl rfl rfl (by omega) (u32s_part0 (by show i < 8; omega))) ?_
    refine OWp.evs 2 rfl ?_
    refine OWp.nil ?_
    refine Wp.regionDraw [0, 1, 2, 3, 4, 5, 6, 7, 8, 9, 10, 11] [11] rfl (by decide +kernel) ?_
    refine DWp.evs 4 rfl ?_
    refine DWp.g rfl rfl rfl rfl (Gives.indexAddrArr (i) rfl rfl rfl rfl rfl rfl (by omega)) ?_
    refine DWp.load (.tail _ (.head _)) rfl rfl rfl rfl rfl rfl ((hc_v hpl hlt (by show 0 + 0 + i * 1 = i; omega)).trans (by rw [pl_get hvl (vlist_len y) hlt])) ?_
    refine DWp.evs 4 rfl ?_
    refine DWp.g rfl rfl rfl rfl (Gives.indexAddrArr (i) rfl rfl rfl rfl rfl rfl (by omega)) ?_
    refine DWp.stepAll rfl rfl rfl rfl (Step.storeAs 1 (hc (pl v.list y.list (i + 1)) r h t) rfl rfl rfl rfl rfl (by assumption) rfl (Unfz.zero _) rfl (by rw [hc_len hpl hr]; show 0 + 0 + i * 1 + 1 ≤ 74; omega) (by rw [u32_add, ← pl_set hvl (vlist_len y) hlt]; exact hc_set_v hpl hlt (by show 0 + 0 + i * 1 = i; omega)) rfl ?_)
    refine DWp.nil ?_
    refine Wp.region ?_
    refine OWp.evs 2 rfl ?_
    refine OWp.nil ?_
    refine ⟨i + 1, by omega, by omega, ?_, .refl _⟩
    exact .cons' rfl (int_eq (i64_inc (by omega))) (.cons rfl (.cons rfl (.nil _)))
  have h4 := of_decide_eq_false h4
  obtain rfl : i = 8 := by omega
  rw [pl_all, ← hy, ← press_rv]
  refine Wp.exit ?_
  refine Wp.dropAt 0 rfl ?_
  refine Wp.region ?_
  refine OWp.evs 3 rfl ?_
  refine OWp.step rfl (Step.storeAs 0 (hc (press v r).list r 0 t) rfl rfl rfl rfl rfl (by assumption) rfl (Unfz.zero _) rfl (by rw [hc_len (vlist_len _) hr]; decide) (hc_set_have (x := 0) (vlist_len _) hr rfl) rfl ?_)
  refine OWp.nil ?_
  refine ⟨trivial, [], rfl, ?_⟩
  exact H
end
end Go.Proofs.D
