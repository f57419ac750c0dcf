/- What functions of the given program do, one after the other, told by that layer. -/
import Derived.Test.YtfimmdafjalonaaDoorBRef1
namespace Go.Proofs.D
open Go.Lg Go.Sha
set_option maxRecDepth 100000

theorem agg8 {x : List Nat} (hx : x.length = 8) : Lg.partAt Tryd.prog 144 (u32s x) 0 = some (.agg (u32s x).toArray) :=
  partAt_agg (n := 8) (r := u32s x) (by rw [List.drop_zero, List.take_of_length_le (by rw [u32s_length, hx]; exact Nat.le_refl _)]) rfl rfl (by rw [u32s_length]; exact hx)
theorem ch_ref {e f g : Nat} (he : e < 4294967296) (hf : f < 4294967296) (hg : g < 4294967296) : bits .xor .u32 (bits .and .u32 (e : Int) (f : Int)) (bits .and .u32 (bits .xor .u32 4294967295 (e : Int)) (g : Int)) = ((ch e f g : Nat) : Int) := by
  have h1 : (4294967295 : Nat) ^^^ e < 4294967296 := xor_lt32 (by decide) he
  rw [show (4294967295 : Int) = ((4294967295 : Nat) : Int) from rfl, Lg.u32_xor (by decide) he, Lg.u32_and he hf, Lg.u32_and h1 hg, Lg.u32_xor (and_lt32 hf) (and_lt32 hg), ch_alt hg]
theorem maj_ref {a b c : Nat} (ha : a < 4294967296) (hb : b < 4294967296) (hc : c < 4294967296) : bits .xor .u32 (bits .xor .u32 (bits .and .u32 (a : Int) (b : Int)) (bits .and .u32 (a : Int) (c : Int))) (bits .and .u32 (b : Int) (c : Int)) = ((maj a b c : Nat) : Int) := by
  rw [Lg.u32_and ha hb, Lg.u32_and ha hc, Lg.u32_and hb hc, Lg.u32_xor (and_lt32 hb) (and_lt32 hc), Lg.u32_xor (xor_lt32 (and_lt32 hb) (and_lt32 hc)) (and_lt32 hc), maj_alt]
def rowN (f : Nat → Nat) (x : List Nat) (i : Nat) : List Nat := (List.range i).map f ++ x.drop i
theorem rowN_len (f : Nat → Nat) (x : List Nat) {i : Nat} (_h : i ≤ x.length) : (rowN f x i).length = x.length := by simp [rowN]; omega
theorem rowN_get (f : Nat → Nat) {x : List Nat} {i : Nat} (_h : i < x.length) : (rowN f x i).getD i 0 = x.getD i 0 := by
  simp only [rowN, List.getD_eq_getElem?_getD]
  rw [List.getElem?_append_right (by simp)]
  simp
theorem rowN_set (f : Nat → Nat) {x : List Nat} {i : Nat} (h : i < x.length) : (rowN f x i).set i (f i) = rowN f x (i + 1) := by
  simp only [rowN]
  rw [List.set_append_right _ _ (by simp)]
  simp only [List.length_map, List.length_range, Nat.sub_self]
  rw [List.drop_eq_getElem_cons h, List.set_cons_zero]
  simp [List.range_succ]
def plusB (v s : V) (p : Nat) : Nat := add (v.list.getD p 0) (s.list.getD p 0)
theorem plus_row (v s : V) : rowN (plusB v s) v.list 8 = (v.plus s).list := rfl
theorem list_len (v : V) : v.list.length = 8 := rfl
theorem list_lt {v : V} (h : v.ok) : ∀ x ∈ v.list, x < 4294967296 := by
  obtain ⟨ha, hb, hc, hd, he, hf, hg, hh⟩ := h
  intro x hx
  simp only [V.list, List.mem_cons, List.mem_nil_iff, or_false] at hx
  rcases hx with rfl | rfl | rfl | rfl | rfl | rfl | rfl | rfl <;> assumption

section
variable {B : Nat} {S R : Ents} {Q : Value → Ents → Prop}

theorem rksC (H : ∀ L, B ≤ L → Q (.slice (some ⟨L, 0, none⟩) 64 64) ((L, cel (u32s ks) 120) :: S)) :
    CallWp Tryd.prog B 142 #[] Q S := by
  refine CallWp.enter (args := []) Tryd.func142 rfl Tryd.ntmps142 rfl ?_
  refine Wp.seq (Wp.region ?_)
  refine OWp.evs 1 rfl ?_
  refine OWp.nil ?_
  refine Wp.seq (Wp.region ?_)
  refine OWp.step rfl (Step.buildSlice rfl rfl rfl ?_); intro L hBL hLL
  refine OWp.evs 1 rfl ?_
  refine OWp.nil ?_
  refine Wp.ret ⟨trivial, _, ⟨_, _, rfl, rfl, rfl⟩, ?_⟩
  exact H L hBL
set_option maxHeartbeats 1000000 in
theorem rmixedC {v : V} {b : List UInt8} (hv : v.ok) (hb : b.length = 64) (H : Q (.agg (u32s (press v b).list).toArray) S) :
    CallWp Tryd.prog B 121 #[.agg (u32s v.list).toArray, .string (str b)] Q S := by
  have hW := blockW_sched b
  refine CallWp.dropRet ?_
  refine CallWp.enter (args := [_, _]) Tryd.func121 rfl Tryd.ntmps121 rfl ?_
  refine Wp.seq (Wp.region ?_)
  refine OWp.step rfl (Step.box rfl rfl rfl ?_); intro Lv hBLv hLLv
  have ec : cellsOf (Value.agg (u32s v.list).toArray) = u32s v.list := rfl
  rw [ec]
  refine OWp.step rfl (Step.alloc rfl rfl rfl ?_); intro Lr hBLr hLLr
  refine OWp.nil ?_
  refine Wp.seq (Wp.region ?_)
  refine OWp.evs 1 rfl ?_
  refine OWp.step rfl (Step.call rfl rfl rfl rfl rfl rfl ((rgrownC hb ?_)))
  intro wv es hown
  obtain ⟨wa, wc, rfl⟩ := hown.reads.form
  obtain ⟨b1, o1, c1, l1, t1, f1, hv1, hmem, _, hg1⟩ := hown.reads.get1 (by omega)
  cases hv1
  have gw : ∀ i, i < 64 → l1[o1 + i * 1]? = some (.int .u32 ((blockW b i : Nat) : Int)) := fun i hi => (hg1 i hi).trans (by rw [u32s_get (by rw [wpre_len]; exact hi), wpre_get _ hi])
  refine OWp.step rfl (Step.call rfl rfl rfl rfl rfl rfl ((rksC ?_)))
  intro Lk hBLk
  refine OWp.evs 2 rfl ?_
  refine OWp.nil ?_
  refine Wp.seq (Wp.region ?_)
  refine OWp.load (.tail _ (List.mem_append_right _ (.tail _ (.head _)))) rfl rfl rfl rfl (agg8 (list_len v)) ?_
  refine OWp.step rfl (Step.alloc rfl rfl rfl ?_); intro Ls hBLs hLLs
  refine OWp.step rfl (Step.storeAs 0 (u32s v.list) rfl rfl rfl rfl rfl hBLs rfl (Unfz.zero _) (u32s_one _) (Nat.le_of_ble_eq_true rfl) (wr_all (X := u32s v.list) rfl) rfl ?_)
  refine OWp.nil ?_
  refine Wp.seq ?_
  refine Wp.seq (Wp.region ?_)
  refine OWp.evs 1 rfl ?_
  refine OWp.nil ?_
  refine Wp.block ?_
  refine Wp.loopS (α := Nat) (fun i => 64 - i) (fun i => [(2, pt Lv), (4, pt Lr), (5, .slice (some ⟨b1, o1, none⟩) 64 wc), (6, .slice (some ⟨Lk, 0, none⟩) 64 64), (7, pt Ls), (8, .int .i64 (i : Int))]) (fun i => (Ls, cel (u32s (rv (blockW b) v i).list) 144) :: (Lk, cel (u32s ks) 120) :: (es ++ (Lr, cel (u32s (List.replicate 8 0)) 144) :: (Lv, cel (u32s v.list) 144) :: S)) (fun i => i ≤ 64) 0 ?_ (.refl _) (Nat.zero_le _) ?_
  · exact .cons rfl (.cons rfl (.cons rfl (.cons rfl (.cons rfl (.cons rfl (.nil _))))))
  intro i hi
  refine Wp.seq ?_
  refine Wp.seq (Wp.region ?_)
  refine OWp.evs 2 rfl ?_
  refine OWp.nil ?_
  refine Wp.cond rfl (fun h1 => ?_) (fun h1 => ?_)
  · have h1 := of_decide_eq_true h1
    have hi2 : i < 64 := by omega
    have hok := rv_ok (W := blockW b) hv i
    have hnext : rv (blockW b) v (i + 1) = round (rv (blockW b) v i) (ks.getD i 0) (blockW b i) := rfl
    generalize rv (blockW b) v i = x at hok hnext ⊢
    obtain ⟨xa, xb, xc, xd, xe, xf, xg, xh⟩ := x
    obtain ⟨ha, hb', hc, hd, he, hf, hg, hh⟩ := hok
    simp only at ha hb' hc hd he hf hg hh
    have kw : ks.getD i 0 < 4294967296 := by
      have : ∀ k ∈ ks, k < 4294967296 := by decide
      exact getD_lt this i
    refine Wp.skip ?_
    refine Wp.seq ?_
    refine Wp.block ?_
    refine Wp.seq (Wp.regionDraw [0, 1, 2, 3, 4, 5, 6, 7, 8, 9, 10, 11, 12, 13, 14, 15, 16, 17] [] rfl (by decide +kernel) ?_)
    refine DWp.g rfl rfl rfl rfl (Gives.indexAddrArr (0) rfl rfl rfl rfl rfl rfl (by omega)) ?_
    refine DWp.load (.head _) rfl rfl rfl rfl rfl rfl rfl ?_
    refine DWp.g rfl rfl rfl rfl (Gives.indexAddrArr (1) rfl rfl rfl rfl rfl rfl (by omega)) ?_
    refine DWp.load (.head _) rfl rfl rfl rfl rfl rfl rfl ?_
    refine DWp.g rfl rfl rfl rfl (Gives.indexAddrArr (2) rfl rfl rfl rfl rfl rfl (by omega)) ?_
    refine DWp.load (.head _) rfl rfl rfl rfl rfl rfl rfl ?_
    refine DWp.g rfl rfl rfl rfl (Gives.indexAddrArr (4) rfl rfl rfl rfl rfl rfl (by omega)) ?_
    refine DWp.load (.head _) rfl rfl rfl rfl rfl rfl rfl ?_
    refine DWp.g rfl rfl rfl rfl (Gives.indexAddrArr (5) rfl rfl rfl rfl rfl rfl (by omega)) ?_
    refine DWp.load (.head _) rfl rfl rfl rfl rfl rfl rfl ?_
    refine DWp.g rfl rfl rfl rfl (Gives.indexAddrArr (6) rfl rfl rfl rfl rfl rfl (by omega)) ?_
    refine DWp.load (.head _) rfl rfl rfl rfl rfl rfl rfl ?_
    refine DWp.evs 6 rfl ?_
    refine DWp.nil ?_
    refine Wp.seq (Wp.regionDraw [0, 1, 2, 4, 7, 11, 12, 13, 14, 15, 16, 17, 18, 20, 21, 22, 23, 25, 26, 27, 28, 3, 5, 6, 8, 9, 10, 19, 24, 29, 30] [3, 5, 8] rfl (by decide +kernel) ?_)
    refine DWp.g rfl rfl rfl rfl (Gives.indexAddrArr (7) rfl rfl rfl rfl rfl rfl (by omega)) ?_
    refine DWp.load (.head _) rfl rfl rfl rfl rfl rfl rfl ?_
    refine DWp.evs 13 rfl ?_
    refine DWp.g rfl rfl rfl rfl (Gives.indexAddrSlice (i) rfl rfl rfl rfl rfl rfl (by omega)) ?_
    refine DWp.load (.tail _ (.head _)) rfl rfl rfl rfl rfl rfl (u32s_part hi2) ?_
    refine DWp.evs 2 rfl ?_
    refine DWp.g rfl rfl rfl rfl (Gives.indexAddrSlice (i) rfl rfl rfl rfl rfl rfl (by omega)) ?_
    refine DWp.load (.tail _ (.tail _ (List.mem_append_left _ hmem))) rfl rfl rfl rfl rfl rfl (gw i hi2) ?_
    refine DWp.stepGrow rfl rfl rfl (Step.call rfl rfl rfl rfl rfl rfl ((rturnEqC (n := 6) rfl he (by decide) ?_)))
    refine ⟨fun _ hy => hy, ?_⟩
    refine DWp.stepGrow rfl rfl rfl (Step.call rfl rfl rfl rfl rfl rfl ((rturnEqC (n := 11) rfl he (by decide) ?_)))
    refine ⟨fun _ hy => hy, ?_⟩
    refine DWp.evs 1 rfl ?_
    refine DWp.stepGrow rfl rfl rfl (Step.call rfl rfl rfl rfl rfl rfl ((rturnEqC (n := 25) rfl he (by decide) ?_)))
    refine ⟨fun _ hy => hy, ?_⟩
    refine DWp.evs 6 rfl ?_
    refine DWp.nil ?_
    obtain ⟨tv, htv⟩ : ∃ tv, tv = tt ⟨xa, xb, xc, xd, xe, xf, xg, xh⟩ (ks.getD i 0) (blockW b i) := ⟨_, rfl⟩
    refine Wp.weaken (E' := [(15, .int .u32 (tv : Int)), (9, .int .u32 (xa : Int)), (10, .int .u32 (xb : Int)), (11, .int .u32 (xc : Int)), (12, .int .u32 (xe : Int)), (13, .int .u32 (xf : Int)), (14, .int .u32 (xg : Int)), (2, pt Lv), (4, pt Lr), (5, .slice (some ⟨b1, o1, none⟩) 64 wc), (6, .slice (some ⟨Lk, 0, none⟩) 64 64), (7, pt Ls), (8, .int .i64 (i : Int))]) (.cons' rfl (int_eq ?_) (.cons rfl (.cons rfl (.cons rfl (.cons rfl (.cons rfl (.cons rfl (.cons rfl (.cons rfl (.cons rfl (.cons rfl (.cons rfl (.cons rfl (.nil _)))))))))))))) (fun _ h => h) ?_
    · show IntKind.u32.wrap (IntKind.u32.wrap (IntKind.u32.wrap (IntKind.u32.wrap ((xh : Int) + bits .xor .u32 (bits .xor .u32 ((rr xe 6 : Nat) : Int) ((rr xe 11 : Nat) : Int)) ((rr xe 25 : Nat) : Int)) + bits .xor .u32 (bits .and .u32 (xe : Int) (xf : Int)) (bits .and .u32 (bits .xor .u32 4294967295 (xe : Int)) (xg : Int))) + ((ks.getD i 0 : Nat) : Int)) + ((blockW b i : Nat) : Int)) = _
      rw [xor3_term (rr_lt he (by decide)) (rr_lt he (by decide)) (rr_lt he (by decide)), ch_ref he hf hg, u32_add, u32_add, u32_add, u32_add, htv, ← tt_ref]
      rfl
    refine Wp.seq (Wp.region ?_)
    refine OWp.evs 1 rfl ?_
    refine OWp.step rfl (Step.call rfl rfl rfl rfl rfl rfl ((rturnEqC (n := 2) rfl ha (by decide) ?_)))
    refine OWp.evs 1 rfl ?_
    refine OWp.step rfl (Step.call rfl rfl rfl rfl rfl rfl ((rturnEqC (n := 13) rfl ha (by decide) ?_)))
    refine OWp.evs 2 rfl ?_
    refine OWp.step rfl (Step.call rfl rfl rfl rfl rfl rfl ((rturnEqC (n := 22) rfl ha (by decide) ?_)))
    refine OWp.evs 14 rfl ?_
    refine OWp.nil ?_
    obtain ⟨uv, huv⟩ : ∃ uv, uv = uu ⟨xa, xb, xc, xd, xe, xf, xg, xh⟩ := ⟨_, rfl⟩
    refine Wp.weaken (E' := [(16, .int .u32 (uv : Int)), (15, .int .u32 (tv : Int)), (9, .int .u32 (xa : Int)), (10, .int .u32 (xb : Int)), (11, .int .u32 (xc : Int)), (12, .int .u32 (xe : Int)), (13, .int .u32 (xf : Int)), (14, .int .u32 (xg : Int)), (2, pt Lv), (4, pt Lr), (5, .slice (some ⟨b1, o1, none⟩) 64 wc), (6, .slice (some ⟨Lk, 0, none⟩) 64 64), (7, pt Ls), (8, .int .i64 (i : Int))]) (.cons' rfl (int_eq ?_) (.cons rfl (.cons rfl (.cons rfl (.cons rfl (.cons rfl (.cons rfl (.cons rfl (.cons rfl (.cons rfl (.cons rfl (.cons rfl (.cons rfl (.cons rfl (.nil _))))))))))))))) (fun _ h => h) ?_
    · show IntKind.u32.wrap (bits .xor .u32 (bits .xor .u32 ((rr xa 2 : Nat) : Int) ((rr xa 13 : Nat) : Int)) ((rr xa 22 : Nat) : Int) + bits .xor .u32 (bits .xor .u32 (bits .and .u32 (xa : Int) (xb : Int)) (bits .and .u32 (xa : Int) (xc : Int))) (bits .and .u32 (xb : Int) (xc : Int))) = _
      rw [xor3_term (rr_lt ha (by decide)) (rr_lt ha (by decide)) (rr_lt ha (by decide)), maj_ref ha hb' hc, u32_add, huv]
      rfl
    refine Wp.region ?_
    refine OWp.evs 6 rfl ?_
    refine OWp.g rfl rfl (Gives.indexAddrArr (3) rfl rfl rfl rfl rfl rfl (by omega)) ?_
    refine OWp.load (.head _) rfl rfl rfl rfl rfl ?_
    refine OWp.evs 5 rfl ?_
    refine OWp.g rfl rfl (Gives.build rfl rfl) ?_
    refine OWp.step rfl (Step.storeAs 0 (u32s (rv (blockW b) v (i + 1)).list) rfl rfl rfl rfl rfl hBLs rfl (Unfz.zero _) rfl (Nat.le_of_ble_eq_true rfl) ((wr_all rfl).trans (by rw [hnext, round_list, ← htv, ← huv]; show [Value.int .u32 (IntKind.u32.wrap ((tv : Int) + (uv : Int))), .int .u32 (xa : Int), .int .u32 (xb : Int), .int .u32 (xc : Int), .int .u32 (IntKind.u32.wrap ((xd : Int) + (tv : Int))), .int .u32 (xe : Int), .int .u32 (xf : Int), .int .u32 (xg : Int)] = _; rw [u32_add, u32_add]; rfl)) rfl ?_)
    refine OWp.nil ?_
    refine Wp.region ?_
    refine OWp.evs 3 rfl ?_
    refine OWp.nil ?_
    exact ⟨i + 1, by omega, by omega, .cons rfl (.cons rfl (.cons rfl (.cons rfl (.cons rfl (.cons' rfl (int_eq (i64_inc (by omega))) (.nil _)))))), .refl _⟩
  have h1 := of_decide_eq_false h1
  obtain rfl : i = 64 := by omega
  obtain ⟨s, hs⟩ : ∃ s, s = rv (blockW b) v 64 := ⟨_, rfl⟩
  have hpr : press v b = v.plus s := by rw [press_rv, hs]
  rw [hpr] at H
  rw [← hs]
  refine Wp.drop (S' := (Ls, cel (u32s s.list) 144) :: (Lr, cel (u32s (List.replicate 8 0)) 144) :: (Lv, cel (u32s v.list) 144) :: S) (List.Sublist.cons_cons _ (List.Sublist.cons _ (List.sublist_append_right es _))) ?_
  refine Wp.exit ?_
  refine Wp.seq ?_
  refine Wp.seq (Wp.region ?_)
  refine OWp.evs 1 rfl ?_
  refine OWp.nil ?_
  refine Wp.block ?_
  refine Wp.loopS (α := Nat) (fun i => 8 - i) (fun i => [(2, pt Lv), (4, pt Lr), (7, pt Ls), (17, .int .i64 (i : Int))]) (fun i => (Ls, cel (u32s s.list) 144) :: (Lr, cel (u32s (List.replicate 8 0)) 144) :: (Lv, cel (u32s (rowN (plusB v s) v.list i)) 144) :: S) (fun i => i ≤ 8) 0 ?_ (.refl _) (Nat.zero_le _) ?_
  · exact .cons rfl (.cons rfl (.cons rfl (.cons rfl (.nil _))))
  intro i hi
  refine Wp.seq ?_
  refine Wp.seq (Wp.region ?_)
  refine OWp.evs 2 rfl ?_
  refine OWp.nil ?_
  refine Wp.cond rfl (fun h2 => ?_) (fun h2 => ?_)
  · have h2 := of_decide_eq_true h2
    have hi2 : i < 8 := by omega
    have hl := rowN_len (plusB v s) v.list hi
    refine Wp.skip ?_
    refine Wp.seq ?_
    refine Wp.block ?_
    refine Wp.regionDraw [0, 1, 2, 3, 4, 5, 6, 7, 8] [8] rfl (by decide +kernel) ?_
    refine DWp.evs 1 rfl ?_
    refine DWp.g rfl rfl rfl rfl (Gives.indexAddrArr (i) rfl rfl rfl rfl rfl rfl (by omega)) ?_
    refine DWp.load (.tail _ (.tail _ (.head _))) rfl rfl rfl rfl rfl rfl (u32s_part (by rw [hl]; exact hi2)) ?_
    refine DWp.evs 1 rfl ?_
    refine DWp.g rfl rfl rfl rfl (Gives.indexAddrArr (i) rfl rfl rfl rfl rfl rfl (by omega)) ?_
    refine DWp.load (.head _) rfl rfl rfl rfl rfl rfl (u32s_part hi2) ?_
    refine DWp.evs 1 rfl ?_
    refine DWp.g rfl rfl rfl rfl (Gives.indexAddrArr (i) rfl rfl rfl rfl rfl rfl (by omega)) ?_
    refine DWp.stepAll rfl rfl rfl rfl (Step.storeAs 2 (u32s (rowN (plusB v s) v.list (i + 1))) rfl rfl rfl rfl rfl hBLv rfl (Unfz.zero _) rfl (by rw [u32s_length, hl]; show 0 + i * 1 + 1 ≤ 8; omega) (by rw [rowN_get _ hi2, u32_add, ← rowN_set _ hi2]; exact u32s_set (by rw [hl]; exact hi2) (by show 0 + i * 1 = i; omega)) rfl ?_)
    refine DWp.nil ?_
    refine Wp.region ?_
    refine OWp.evs 3 rfl ?_
    refine OWp.nil ?_
    exact ⟨i + 1, by omega, by omega, .cons rfl (.cons rfl (.cons rfl (.cons' rfl (int_eq (i64_inc (by omega))) (.nil _)))), .refl _⟩
  have h2 := of_decide_eq_false h2
  obtain rfl : i = 8 := by omega
  rw [plus_row]
  refine Wp.exit ?_
  refine Wp.seq (Wp.region ?_)
  refine OWp.load (.tail _ (.tail _ (.head _))) rfl rfl rfl rfl (agg8 (list_len _)) ?_
  refine OWp.step rfl (Step.storeAs 1 (u32s (v.plus s).list) rfl rfl rfl rfl rfl hBLr rfl (Unfz.zero _) (u32s_one _) (Nat.le_of_ble_eq_true rfl) (wr_all (X := u32s (v.plus s).list) rfl) rfl ?_)
  have hp : Lg.partAt Tryd.prog 144 (u32s (v.plus s).list) 0 = some (.agg (u32s (v.plus s).list).toArray) := agg8 (list_len _)
  refine OWp.nil ?_
  refine Wp.ret ⟨trivial, _, ⟨_, _, _, _, rfl, rfl, ⟨_, _, _, (by repeat (first | exact List.Mem.head _ | assumption | apply List.mem_cons_of_mem | apply List.mem_append_right)), (by first | assumption | rfl)⟩, rfl⟩, ?_⟩
  exact ⟨S, (by repeat (first | exact List.Sublist.refl _ | exact List.sublist_append_right _ _ | apply List.Sublist.cons)), H⟩
end
end Go.Proofs.D
