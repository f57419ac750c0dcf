/- What functions of the given program do, one after the other, told by that layer. -/
import Derived.Test.YtkbagleekpgdeaaGreatDoorZM9xc7d9
import Derived.Test.YtkbagleekpgdeaaGreatDoorZInts
import Derived.Test.YtkbagleekpgdeaaGreatDoorLgM3x97cf
namespace Go.Proofs.D
open Go.Lg Go.Sha
set_option maxRecDepth 100000

theorem own_split {B n : Nat} {e : TypeId} {v : Value} {xs : List Value} {es : Ents} (h : Lg.Own B e 1 v (n + 1) xs es) : ∃ b cap g, v = .slice (some ⟨b, 0, none⟩) (n + 1) cap ∧ es = [(b, cel (xs ++ g) e)] ∧ B ≤ b := by
  obtain ⟨hl, ⟨_, h0, _⟩ | ⟨b, cap, cur, rfl, rfl, hB, hk, hm, hc, ht⟩⟩ := h
  · omega
  · rw [Nat.mul_one] at ht
    exact ⟨b, cap, cur.drop (n + 1), rfl, by rw [← ht, List.take_append_drop], hB⟩
theorem own_eq {B k : Nat} {e : TypeId} {sz : Nat} {v : Value} {xs ys : List Value} {es : Ents} (h : Lg.Own B e sz v k xs es) (hxy : xs = ys) : Lg.Own B e sz v k ys es := hxy ▸ h
theorem qr_apart {h j : Nat} (hj : j < 4) : Apart 16 j (4 + (j + h) % 4) (8 + (j + 2 * h) % 4) (12 + (j + 3 * h) % 4) := by
  constructor <;> omega
theorem zip_len {s : List Nat} (h : s.length = 16) : (List.zipWith add s (turned 10 s)).length = 16 := by rw [List.length_zipWith, turned_len, h]; rfl
theorem zip_get {s : List Nat} (h : s.length = 16) {i : Nat} (hi : i < 16) : (List.zipWith add s (turned 10 s)).getD i 0 = add ((turned 10 s).getD i 0) (s.getD i 0) := by
  have h2 : (turned 10 s).length = 16 := by rw [turned_len, h]
  rw [List.getD_eq_getElem?_getD, List.getElem?_zipWith, List.getElem?_eq_getElem (by omega), List.getElem?_eq_getElem (by omega), List.getD_eq_getElem?_getD, List.getElem?_eq_getElem (by omega), List.getD_eq_getElem?_getD, List.getElem?_eq_getElem (by omega)]
  exact add_comm' _ _
theorem flat_take {z : List Nat} {i : Nat} (hi : i < z.length) : (z.take (i + 1)).flatMap lebytes = (z.take i).flatMap lebytes ++ lebytes (z.getD i 0) := by
  rw [List.take_succ_eq_append_getElem hi, List.flatMap_append, List.getD_eq_getElem?_getD, List.getElem?_eq_getElem hi]
  simp

section
variable {B : Nat} {S R : Ents} {Q : Value → Ents → Prop}

theorem rqrC {W j h cap : Nat} {zb zc zd : Int} {s : List Nat} {g : List Value} (hj : j < 4) (hzb : zb = ((4 + (j + h) % 4 : Nat) : Int)) (hzc : zc = ((8 + (j + 2 * h) % 4 : Nat) : Int)) (hzd : zd = ((12 + (j + 3 * h) % 4 : Nat) : Int)) (hB : B ≤ W) (hs : Good s) (H : Q (.tuple #[]) ((W, cel (u32s (qr h s j) ++ g) 131) :: R)) :
    CallWp Tryz.prog B 141 #[.slice (some ⟨W, 0, none⟩) 16 cap, .int .i64 (j : Int), .int .i64 zb, .int .i64 zc, .int .i64 zd] Q ((W, cel (u32s s ++ g) 131) :: R) := by
  subst hzb hzc hzd
  exact rquarterC hB hs (qr_apart hj) H

attribute [local irreducible] row4 half turned twice

set_option maxHeartbeats 2000000 in
theorem rblockC {key nonce : List UInt8} {c : Nat} {zc : Int} (hzc : zc = (c : Int)) (hk : key.length = 32) (hn : nonce.length = 12) (hc : c < 4294967296) (H : Q (.string (str (cblock key nonce c))) S) :
    CallWp Tryz.prog B 108 #[.string (str key), .string (str nonce), .int .u32 zc] Q S := by
  subst hzc
  have hst : (Go.Sha.start key nonce c).length = 16 := start_len _ _ _
  have hsg : Good (Go.Sha.start key nonce c) := start_good key nonce hc
  have hsu : u32s (Go.Sha.start key nonce c) = u32s c4 ++ u32s (lewords 8 key) ++ [.int .u32 (c : Int)] ++ u32s (lewords 3 nonce) := by
    unfold Go.Sha.start c4 u32s
    simp only [List.map_append, List.map_cons, List.map_nil, List.append_assoc, List.cons_append, List.nil_append]
  obtain ⟨st, hstd⟩ : ∃ st, st = Go.Sha.start key nonce c := ⟨_, rfl⟩
  have hcb : cblock key nonce c = (List.zipWith add st (turned 10 st)).flatMap lebytes := by rw [hstd]; rfl
  rw [hcb] at H
  rw [← hstd] at hst hsg hsu
  have hzl := zip_len hst
  have hzg := fun i hi => zip_get hst (i := i) hi
  obtain ⟨z, hz⟩ : ∃ z, z = List.zipWith add st (turned 10 st) := ⟨_, rfl⟩
  rw [← hz] at H hzl
  simp only [← hz] at hzg
  refine CallWp.dropRet ?_
  refine CallWp.enter (args := [_, _, _]) Tryz.func108 rfl Tryz.ntmps108 rfl ?_
  refine Wp.seq (Wp.region ?_)
  refine OWp.evs 1 rfl ?_
  refine OWp.nil ?_
  refine Wp.seq (Wp.region ?_)
  refine OWp.step rfl (Step.buildSlice rfl rfl rfl ?_); intro L hBL hLL
  refine OWp.evs 1 rfl ?_
  refine OWp.nil ?_
  refine Wp.seq (Wp.region ?_)
  refine OWp.evs 2 rfl ?_
  refine OWp.step rfl (Step.call rfl rfl rfl rfl rfl rfl ((rreadC (n := 8) hk (by decide) ?_)))
  intro v1 es1 ho1
  refine OWp.step rfl (Step.appendAt (es := [(L, cel (u32s c4) 131)]) (R := S) es1 rfl rfl rfl rfl rfl rfl (by decide) rfl rfl (Own.row (k := 4) (sz := 1) (xs := u32s c4) hBL rfl (by decide)) (ho1.reads.mono fun x hx => List.mem_append_left _ hx) (u32s_one _) (by decide) (by decide) ?_)
  intro v2 es2 ho2 _
  refine OWp.drop (List.sublist_append_right _ _) ?_
  refine OWp.evs 1 rfl ?_
  refine OWp.nil ?_
  refine Wp.seq (Wp.region ?_)
  refine OWp.evs 2 rfl ?_
  refine OWp.step rfl (Step.buildSlice rfl rfl rfl ?_); intro Lp1 hBLp1 hLLp1
  refine OWp.step rfl (Step.appendAt [_] rfl rfl rfl rfl rfl rfl (by decide) rfl rfl ho2 (Reads.row (k := 1) (sz := 1) (.head _) (Nat.le_of_ble_eq_true rfl)) rfl (by show (_ + 1) * 4 ≤ _; omega) (by unfold maxLen; omega) ?_); intro v3 es3 ho3 _
  refine OWp.dropAt 0 rfl ?_
  refine OWp.evs 1 rfl ?_
  refine OWp.nil ?_
  refine Wp.seq (Wp.region ?_)
  refine OWp.evs 2 rfl ?_
  refine OWp.step rfl (Step.call rfl rfl rfl rfl rfl rfl ((rreadC (n := 3) hn (by decide) ?_)))
  intro v4 es4 ho4
  refine OWp.step rfl (Step.appendAt (es := es3) (R := S) es4 rfl rfl rfl rfl rfl rfl (by decide) rfl rfl ho3 (ho4.reads.mono fun x hx => List.mem_append_left _ hx) (u32s_one _) (by decide) (by decide) ?_)
  intro v5 es5 ho5 _
  have ho5 := own_eq ho5 hsu.symm
  refine OWp.drop (List.sublist_append_right _ _) ?_
  refine OWp.evs 1 rfl ?_
  refine OWp.nil ?_
  refine Wp.seq (Wp.region ?_)
  refine OWp.step rfl (Step.buildSlice rfl rfl rfl ?_); intro L0 hBL0 hLL0
  refine OWp.evs 1 rfl ?_
  refine OWp.step rfl (Step.append (es := [(L0, cel [] 131)]) (R := es5 ++ S) rfl rfl rfl rfl rfl rfl (by decide) rfl rfl (fun _ h => h) (Own.row (k := 0) (sz := 1) (xs := []) hBL0 rfl (by decide)) (ho5.reads.mono fun x hx => List.mem_append_right _ (List.mem_append_left _ hx)) (u32s_one _) (by decide) (by decide) ?_)
  intro v6 es6 ho6 _
  obtain ⟨W, wcap, g, rfl, rfl, hBW⟩ := own_split (n := 15) ho6
  obtain ⟨fa, fc, rfl⟩ := ho5.reads.form
  obtain ⟨b1, o1, c1, l1, t1, f1, hv1, hmem, _, hg1⟩ := ho5.reads.get1 (by decide)
  cases hv1
  have gf : ∀ i, i < 16 → l1[o1 + i * 1]? = some (.int .u32 ((st.getD i 0 : Nat) : Int)) := fun i hi => (hg1 i hi).trans (u32s_get (by omega))
  refine OWp.evs 1 rfl ?_
  refine OWp.nil ?_
  refine Wp.seq ?_
  refine Wp.seq (Wp.region ?_)
  refine OWp.evs 1 rfl ?_
  refine OWp.nil ?_
  refine Wp.block ?_
  refine Wp.loopS (α := Nat × List Nat) (fun y => 10 - y.1) (fun y => [(7, .slice (some ⟨b1, o1, none⟩) 16 fc), (8, .slice (some ⟨W, 0, none⟩) 16 wcap), (9, .int .i64 (y.1 : Int))]) (fun y => (W, cel (u32s y.2 ++ g) 131) :: (es5 ++ S)) (fun y => y.1 ≤ 10 ∧ Good y.2 ∧ turned (10 - y.1) y.2 = turned 10 st) (0, st) ?_ (.refl _) ⟨Nat.zero_le _, hsg, rfl⟩ ?_
  · exact .cons rfl (.cons rfl (.cons rfl (.nil _)))
  rintro ⟨r, x⟩ ⟨hr, hx, ht⟩
  simp only at hr hx ht ⊢
  refine Wp.seq ?_
  refine Wp.seq (Wp.region ?_)
  refine OWp.evs 2 rfl ?_
  refine OWp.nil ?_
  refine Wp.cond rfl (fun h1 => ?_) (fun h1 => ?_)
  · have h1 := of_decide_eq_true h1
    have hr2 : r < 10 := by omega
    refine Wp.skip ?_
    refine Wp.seq ?_
    refine Wp.block ?_
    refine Wp.seq ?_
    refine Wp.seq (Wp.region ?_)
    refine OWp.evs 1 rfl ?_
    refine OWp.nil ?_
    refine Wp.block ?_
    refine Wp.loopS (α := Nat) (fun j => 4 - j) (fun j => [(7, .slice (some ⟨b1, o1, none⟩) 16 fc), (8, .slice (some ⟨W, 0, none⟩) 16 wcap), (9, .int .i64 (r : Int)), (10, .int .i64 (j : Int))]) (fun j => (W, cel (u32s (row4 0 x j) ++ g) 131) :: (es5 ++ S)) (fun j => j ≤ 4) 0 ?_ (by rw [row4_zero]) (Nat.zero_le _) ?_
    · exact .cons rfl (.cons rfl (.cons rfl (.cons rfl (.nil _))))
    intro j hj
    refine Wp.seq ?_
    refine Wp.seq (Wp.region ?_)
    refine OWp.evs 2 rfl ?_
    refine OWp.nil ?_
    refine Wp.cond rfl (fun h2 => ?_) (fun h2 => ?_)
    · have h2 := of_decide_eq_true h2
      have hj2 : j < 4 := by omega
      refine Wp.skip ?_
      refine Wp.seq ?_
      refine Wp.block ?_
      refine Wp.region ?_
      refine OWp.evs 8 rfl ?_
      refine OWp.step rfl (Step.call rfl rfl rfl rfl rfl rfl ((rqrC (h := 0) hj2 (by rw [i64_id] <;> omega) (by rw [i64_id] <;> omega) (by rw [i64_id] <;> omega) hBW (row4_good hx j) ?_)))
      refine OWp.nil ?_
      refine Wp.region ?_
      refine OWp.evs 3 rfl ?_
      refine OWp.nil ?_
      exact ⟨j + 1, by omega, by omega, .cons rfl (.cons rfl (.cons rfl (.cons' rfl (int_eq (i64_inc (by omega))) (.nil _)))), by rw [row4_succ 0]⟩
    have h2 := of_decide_eq_false h2
    obtain rfl : j = 4 := by omega
    refine Wp.exit ?_
    refine Wp.seq (Wp.region ?_)
    refine OWp.evs 1 rfl ?_
    refine OWp.nil ?_
    refine Wp.block ?_
    refine Wp.loopS (α := Nat) (fun j => 4 - j) (fun j => [(7, .slice (some ⟨b1, o1, none⟩) 16 fc), (8, .slice (some ⟨W, 0, none⟩) 16 wcap), (9, .int .i64 (r : Int)), (11, .int .i64 (j : Int))]) (fun j => (W, cel (u32s (row4 1 (row4 0 x 4) j) ++ g) 131) :: (es5 ++ S)) (fun j => j ≤ 4) 0 ?_ (by rw [row4_zero]) (Nat.zero_le _) ?_
    · exact .cons rfl (.cons rfl (.cons rfl (.cons rfl (.nil _))))
    intro j hj
    refine Wp.seq ?_
    refine Wp.seq (Wp.region ?_)
    refine OWp.evs 2 rfl ?_
    refine OWp.nil ?_
    refine Wp.cond rfl (fun h3 => ?_) (fun h3 => ?_)
    · have h3 := of_decide_eq_true h3
      have hj2 : j < 4 := by omega
      refine Wp.skip ?_
      refine Wp.seq ?_
      refine Wp.block ?_
      refine Wp.region ?_
      refine OWp.evs 14 rfl ?_
      refine OWp.step rfl (Step.call rfl rfl rfl rfl rfl rfl ((rqrC (h := 1) hj2 (at4 (c := 4) (m := 1) rfl (by omega) (by decide)) (at4 (c := 8) (m := 2) rfl (by omega) (by decide)) (at4 (c := 12) (m := 3) rfl (by omega) (by decide)) hBW (row4_good (row4_good hx 4) j) ?_)))
      refine OWp.nil ?_
      refine Wp.region ?_
      refine OWp.evs 3 rfl ?_
      refine OWp.nil ?_
      exact ⟨j + 1, by omega, by omega, .cons rfl (.cons rfl (.cons rfl (.cons' rfl (int_eq (i64_inc (by omega))) (.nil _)))), by rw [row4_succ 1]⟩
    have h3 := of_decide_eq_false h3
    obtain rfl : j = 4 := by omega
    refine Wp.exit ?_
    refine Wp.region ?_
    refine OWp.evs 3 rfl ?_
    refine OWp.nil ?_
    have e2 : row4 1 (row4 0 x 4) 4 = twice x := by rw [← half_two, half_succ, half_succ, half_zero]
    refine ⟨(r + 1, twice x), by simp only; omega, ⟨by simp only; omega, ?_, ?_⟩, .cons rfl (.cons rfl (.cons' rfl (int_eq (i64_inc (by omega))) (.nil _))), by rw [e2]⟩
    · simp only; rw [← e2]; exact row4_good (row4_good hx 4) 4
    · simp only; rw [← ht, show 10 - r = (10 - (r + 1)) + 1 by omega, turned]
  have h1 := of_decide_eq_false h1
  obtain rfl : r = 10 := by omega
  have hxt : x = turned 10 st := by rw [← ht, Nat.sub_self, turned]
  refine Wp.exit ?_
  refine Wp.seq (Wp.region ?_)
  refine OWp.evs 1 rfl ?_
  refine OWp.nil ?_
  refine Wp.seq ?_
  refine Wp.seq (Wp.region ?_)
  refine OWp.evs 1 rfl ?_
  refine OWp.nil ?_
  refine Wp.block ?_
  refine Wp.loopS (α := Nat × Value × Ents) (fun y => 16 - y.1) (fun y => [(7, .slice (some ⟨b1, o1, none⟩) 16 fc), (8, .slice (some ⟨W, 0, none⟩) 16 wcap), (12, y.2.1), (13, .int .i64 (y.1 : Int))]) (fun y => y.2.2 ++ (W, cel (u32s x ++ g) 131) :: (es5 ++ S)) (fun y => y.1 ≤ 16 ∧ Lg.Own B 5 1 y.2.1 (4 * y.1) (byteCells ((z.take y.1).flatMap lebytes)) y.2.2) (0, .slice none 0 0, []) ?_ (.refl _) ⟨Nat.zero_le _, Own.nil _ _ _⟩ ?_
  · exact .cons rfl (.cons rfl (.cons rfl (.cons rfl (.nil _))))
  rintro ⟨i, v, es⟩ ⟨hi, hown⟩
  simp only at hi hown ⊢
  refine Wp.seq ?_
  refine Wp.seq (Wp.region ?_)
  refine OWp.evs 2 rfl ?_
  refine OWp.nil ?_
  refine Wp.cond rfl (fun h4 => ?_) (fun h4 => ?_)
  · have h4 := of_decide_eq_true h4
    have hi2 : i < 16 := by omega
    refine Wp.skip ?_
    refine Wp.seq ?_
    refine Wp.block ?_
    refine Wp.seq (Wp.regionDraw [0, 1, 2, 3, 4, 5, 6, 7, 8, 9] [] rfl (by decide +kernel) ?_)
    refine DWp.evs 2 rfl ?_
    refine DWp.g rfl rfl rfl rfl (Gives.indexAddrSlice (i) rfl rfl rfl rfl rfl rfl (by omega)) ?_
    refine DWp.load (List.mem_append_right _ (.head _)) rfl rfl rfl rfl rfl rfl (u32g_part (by rw [hx.1]; exact hi2)) ?_
    refine DWp.evs 2 rfl ?_
    refine DWp.g rfl rfl rfl rfl (Gives.indexAddrSlice (i) rfl rfl rfl rfl rfl rfl (by omega)) ?_
    refine DWp.load (List.mem_append_right _ (.tail _ (List.mem_append_left _ hmem))) rfl rfl rfl rfl rfl rfl (gf i hi2) ?_
    refine DWp.evs 2 rfl ?_
    refine DWp.nil ?_
    refine Wp.weaken (E' := [(7, .slice (some ⟨b1, o1, none⟩) 16 fc), (8, .slice (some ⟨W, 0, none⟩) 16 wcap), (12, v), (13, .int .i64 (i : Int)), (14, .int .u32 ((z.getD i 0 : Nat) : Int))]) (.cons rfl (.cons rfl (.cons rfl (.cons rfl (.cons' rfl (int_eq (by rw [hzg i hi2, ← hxt]; exact u32_add _ _)) (.nil _)))))) (fun _ h => h) ?_
    refine Wp.region ?_
    refine OWp.evs 12 rfl ?_
    refine OWp.step rfl (Step.buildSlice rfl rfl rfl ?_); intro Lb hBLb hLLb
    refine OWp.step rfl (Step.appendAt (es := es) (R := (W, cel (u32s x ++ g) 131) :: (es5 ++ S)) [_] rfl rfl rfl rfl rfl rfl (by decide) rfl rfl hown (Reads.row (k := 4) (sz := 1) (.head _) (Nat.le_of_ble_eq_true rfl)) rfl (by show (4 * i + 4) * 1 ≤ _; omega) (by unfold maxLen; omega) ?_)
    intro v2 es2 ho2 _
    refine OWp.dropAt 0 rfl ?_
    refine OWp.evs 1 rfl ?_
    refine OWp.nil ?_
    refine Wp.region ?_
    refine OWp.evs 3 rfl ?_
    refine OWp.nil ?_
    refine ⟨(i + 1, v2, es2), by simp only; omega, ⟨by simp only; omega, ?_⟩, .cons rfl (.cons rfl (.cons rfl (.cons' rfl (int_eq (i64_inc (by omega))) (.nil _)))), .refl _⟩
    simp only
    rw [flat_take (by omega), byteCells_append]
    exact own_eq ho2 (congrArg (byteCells ((z.take i).flatMap lebytes) ++ ·) (le_bytes _))
  have h4 := of_decide_eq_false h4
  obtain rfl : i = 16 := by omega
  rw [List.take_of_length_le (by omega)] at hown
  refine Wp.exit ?_
  refine Wp.seq (Wp.region ?_)
  refine OWp.evs 1 rfl ?_
  refine OWp.gives rfl rfl (Gives.bytesToStr (F := es) (l := z.flatMap lebytes) (k := 64) rfl rfl rfl rfl rfl hown.reads) (fun x hx => List.mem_append_left _ hx) ?_
  refine OWp.evs 1 rfl ?_
  refine OWp.nil ?_
  refine Wp.ret ⟨trivial, _, ⟨_, _, rfl, rfl, rfl⟩, ?_⟩
  exact ⟨S, (List.sublist_append_right _ _).trans ((List.sublist_cons_self _ _).trans (List.sublist_append_right _ _)), H⟩
set_option maxHeartbeats 1000000 in
theorem rstreamC {key nonce : List UInt8} {n : Nat} (hk : key.length = 32) (hn : nonce.length = 12) (h0 : 0 < n) (h1 : n ≤ 100000) (H : Q (.string (str (stream key nonce 0 n))) S) :
    CallWp Tryz.prog B 74 #[.string (str key), .string (str nonce), .int .i64 0, .int .i64 (n : Int)] Q S := by
  obtain ⟨m, hm⟩ : ∃ m, m = (n + 63) / 64 := ⟨_, rfl⟩
  refine CallWp.dropRet ?_
  refine CallWp.enter (args := [_, _, _, _]) Tryz.func74 rfl Tryz.ntmps74 rfl ?_
  refine Wp.seq (Wp.region ?_)
  refine OWp.evs 1 rfl ?_
  refine OWp.nil ?_
  refine Wp.seq (Wp.region ?_)
  refine OWp.evs 1 rfl ?_
  refine OWp.nil ?_
  refine Wp.seq ?_
  refine Wp.seq (Wp.region ?_)
  refine OWp.evs 1 rfl ?_
  refine OWp.nil ?_
  refine Wp.block ?_
  refine Wp.loopS (α := Nat × Value × Ents) (fun y => m - y.1) (fun y => [(0, .string (str key)), (1, .string (str nonce)), (2, .int .i64 0), (3, .int .i64 (n : Int)), (9, y.2.1), (10, .int .i64 (y.1 : Int))]) (fun y => y.2.2 ++ S) (fun y => y.1 ≤ m ∧ OwnF B 5 y.2.1 (blocks key nonce y.1 0) y.2.2) (0, .slice none 0 0, []) ?_ (.refl _) ⟨Nat.zero_le _, OwnF.nil _ _⟩ ?_
  · exact .cons rfl (.cons rfl (.cons rfl (.cons rfl (.cons rfl (.cons rfl (.nil _))))))
  rintro ⟨j, v, es⟩ ⟨hj, hown⟩
  simp only at hj hown ⊢
  obtain ⟨q, qc, rfl⟩ := ownF_form hown
  have hbl := blocks_len key nonce j 0
  refine Wp.seq ?_
  refine Wp.seq (Wp.region ?_)
  refine OWp.evs 4 rfl ?_
  refine OWp.nil ?_
  refine Wp.cond rfl (fun h2 => ?_) (fun h2 => ?_)
  · have h2 := of_decide_eq_true h2
    have hj2 : j < m := by omega
    refine Wp.skip ?_
    refine Wp.seq ?_
    refine Wp.block ?_
    refine Wp.region ?_
    refine OWp.evs 8 rfl ?_
    refine OWp.step rfl (Step.call rfl rfl rfl rfl rfl rfl ((rblockC (c := (0 + j) % 4294967296) (by rw [show IntKind.u32.wrap 0 = 0 from rfl, u32_wrap]; show IntKind.u32.wrap (0 + ((j % 4294967296 : Nat) : Int)) = _; rw [IntKind.wrap_u32]; omega) hk hn (Nat.mod_lt _ (by decide)) ?_)))
    refine OWp.step rfl (Step.appendF (es := es) (R := S) rfl rfl rfl rfl rfl rfl rfl rfl rfl rfl (fun _ h => h) hown (by rw [cblock_len]; omega) ?_)
    intro v2 es2 ho2
    rw [← blocks_snoc] at ho2
    refine OWp.evs 1 rfl ?_
    refine OWp.nil ?_
    refine Wp.region ?_
    refine OWp.evs 3 rfl ?_
    refine OWp.nil ?_
    exact ⟨(j + 1, v2, es2), by simp only; omega, ⟨by simp only; omega, ho2⟩, .cons rfl (.cons rfl (.cons rfl (.cons rfl (.cons rfl (.cons' rfl (int_eq (i64_inc (by omega))) (.nil _)))))), .refl _⟩
  have h2 := of_decide_eq_false h2
  obtain rfl : j = m := by omega
  obtain ⟨bl, hbld⟩ : ∃ bl, bl = blocks key nonce j 0 := ⟨_, rfl⟩
  have hst : stream key nonce 0 n = bl.take n := by rw [hbld, hm]; rfl
  rw [hst] at H
  rw [← hbld] at hown hbl
  rcases hown with ⟨_, hx0, _⟩ | ⟨b, cap, g, fz, hv, rfl, hBb, _, _, _, hcap⟩
  · exfalso; rw [hx0] at hbl; simp at hbl; omega
  cases hv
  refine Wp.exit ?_
  refine Wp.seq (Wp.region ?_)
  refine OWp.evs 2 rfl ?_
  refine OWp.g rfl rfl (Gives.sliceSlice (l := 0) (h' := n) rfl rfl rfl rfl rfl ⟨_, _, rfl, rfl⟩ (by omega) (by omega) (by omega)) ?_
  refine OWp.gives rfl rfl (Gives.bytesToStr (F := [(b, cel (byteCells bl ++ g) 5 fz)]) (l := bl.take n) (k := n) rfl rfl rfl rfl rfl (by have := Reads.row (S := [(b, cel (byteCells bl ++ g) 5 fz)]) (sz := 1) (k := n) (cap := qc - 0) (.head _) (by rw [List.length_append, byteCells_length]; omega); rw [Nat.mul_one, List.take_append_of_le_length (by rw [byteCells_length]; omega)] at this; unfold byteCells at this ⊢; rw [List.map_take]; exact this)) (mem1 (.head _)) ?_
  refine OWp.evs 1 rfl ?_
  refine OWp.nil ?_
  refine Wp.ret ⟨trivial, _, ⟨_, _, rfl, rfl, rfl⟩, ?_⟩
  exact ⟨S, List.sublist_cons_self _ _, H⟩
end
end Go.Proofs.D

namespace Go.Proofs.C
open Go.Lg
set_option maxRecDepth 100000

/-- A command. -/
@[ext] structure Hop where
  kind : Int
  node : Int
  user : Int
  delay : Int
  id : List UInt8

def Hop.cells (x : Hop) : List Value := [.int .i64 x.kind, .int .i64 x.node, .int .i64 x.user, .int .i64 x.delay, .string (str x.id)]
theorem Hop.len (x : Hop) : x.cells.length = 5 := rfl
/-- Which commands may be. -/
def hopP (x : Hop) : Prop :=
  (x.kind = 1 ∧ 0 ≤ x.node ∧ x.node ≤ 31 ∧ 0 ≤ x.delay ∧ x.delay ≤ 4096 ∧ x.user = 0 ∧ x.id.length = 0) ∨
  (x.kind = 2 ∧ 0 ≤ x.user ∧ x.user ≤ 63 ∧ 0 ≤ x.delay ∧ x.delay ≤ 4096 ∧ x.node = 0 ∧ x.id.length = 16) ∨
  (x.kind = 3 ∧ x.id.length = 16 ∧ x.node = 0 ∧ x.user = 0 ∧ x.delay = 0) ∨
  (x.kind = 4 ∧ x.node = 0 ∧ x.user = 0 ∧ x.delay = 0 ∧ x.id.length = 0)
instance (x : Hop) : Decidable (hopP x) := by unfold hopP; infer_instance

def hopE (x : Hop) : Int := if hopP x then 0 else 70
theorem hopE_yes {x : Hop} (h : hopP x) : hopE x = 0 := if_pos h
theorem hopE_no {x : Hop} (h : ¬ hopP x) : hopE x = 70 := if_neg h

def eqHop (x y : Hop) : Bool := decide (x.kind = y.kind) && (decide (x.node = y.node) && (decide (x.user = y.user) && (decide (x.delay = y.delay) && (decide (x.id = y.id) && true))))
theorem eqHop_iff {x y : Hop} : eqHop x y = true ↔ x = y := by
  unfold eqHop
  obtain ⟨a, b, c, d, e⟩ := x
  obtain ⟨a', b', c', d', e'⟩ := y
  simp

theorem hopG : Tryz.prog.eqGuardType Tryz.prog.depth 32 = false := by decide +kernel
theorem nil_len {l : List UInt8} : l = [] ↔ l.length = 0 := by cases l <;> simp

section
variable {B : Nat} {S R : Ents} {Q : Value → Ents → Prop}

theorem withinC {n most : Int} (h : Q (.bool (decide (0 ≤ n ∧ n ≤ most))) S) : CallWp Tryz.prog B 94 #[.int .i64 n, .int .i64 most] Q S := by
  refine CallWp.enter (args := [_, _]) Tryz.func94 rfl Tryz.ntmps94 rfl ?_
  refine Wp.seq (Wp.region ?_)
  refine OWp.evs 1 rfl ?_
  refine OWp.nil ?_
  refine Wp.seq (Wp.region ?_)
  refine OWp.evs 3 rfl ?_
  refine OWp.part 7 rfl (fun h1 => ?_) (fun h1 => ?_)
  · have h1 := of_decide_eq_true h1
    refine OWp.evs 5 rfl ?_
    refine OWp.nil ?_
    refine Wp.ret ⟨trivial, _, ⟨_, _, rfl, rfl, rfl⟩, ?_⟩
    rw [decide_eq_decide.2 (show 0 ≤ n ∧ n ≤ most ↔ n ≤ most by omega)] at h; exact h
  have h1 := of_decide_eq_false h1
  refine OWp.evs 5 rfl ?_
  refine OWp.nil ?_
  refine Wp.ret ⟨trivial, _, ⟨_, _, rfl, rfl, rfl⟩, ?_⟩
  rw [decide_eq_false (by omega)] at h; exact h
theorem checkC {x : Hop} (h : Q (.int .i64 (hopE x)) S) : CallWp Tryz.prog B 63 #[.agg x.cells.toArray] Q S := by
  have hno : ¬ hopP x → Q (.int .i64 70) S := fun e => by rw [hopE_no e] at h; exact h
  have hyes : hopP x → Q (.int .i64 0) S := fun e => by rw [hopE_yes e] at h; exact h
  clear h
  unfold hopP at hno hyes
  refine CallWp.enter (args := [_]) Tryz.func63 rfl Tryz.ntmps63 rfl ?_
  refine Wp.seq (Wp.region ?_)
  refine OWp.step rfl (Step.box rfl rfl rfl ?_); intro L1 hBL1 hLL1
  refine OWp.evs 1 rfl ?_
  refine OWp.nil ?_
  refine Wp.seq (Wp.region ?_)
  refine OWp.step rfl (Step.alloc rfl rfl rfl ?_); intro L3 hBL3 hLL3
  refine OWp.nil ?_
  refine Wp.seq (Wp.region ?_)
  refine OWp.evs 1 rfl ?_
  first | refine OWp.load (List.Mem.head _) rfl rfl rfl rfl rfl ?_ | refine OWp.load (List.Mem.tail _ (List.Mem.head _)) rfl rfl rfl rfl rfl ?_ | refine OWp.load (List.Mem.tail _ (List.Mem.tail _ (List.Mem.head _))) rfl rfl rfl rfl rfl ?_ | refine OWp.load (List.Mem.tail _ (List.Mem.tail _ (List.Mem.tail _ (List.Mem.head _)))) rfl rfl rfl rfl rfl ?_ | refine OWp.load (List.Mem.tail _ (List.Mem.tail _ (List.Mem.tail _ (List.Mem.tail _ (List.Mem.head _))))) rfl rfl rfl rfl rfl ?_ | refine OWp.load (List.Mem.tail _ (List.Mem.tail _ (List.Mem.tail _ (List.Mem.tail _ (List.Mem.tail _ (List.Mem.head _)))))) rfl rfl rfl rfl rfl ?_
  refine OWp.step rfl (Step.call rfl rfl rfl rfl rfl rfl ((withinC ?_)))
  refine OWp.evs 1 rfl ?_
  refine OWp.nil ?_
  refine Wp.seq ?_
  refine Wp.seq (Wp.region ?_)
  refine OWp.evs 1 rfl ?_
  first | refine OWp.load (List.Mem.head _) rfl rfl rfl rfl rfl ?_ | refine OWp.load (List.Mem.tail _ (List.Mem.head _)) rfl rfl rfl rfl rfl ?_ | refine OWp.load (List.Mem.tail _ (List.Mem.tail _ (List.Mem.head _))) rfl rfl rfl rfl rfl ?_ | refine OWp.load (List.Mem.tail _ (List.Mem.tail _ (List.Mem.tail _ (List.Mem.head _)))) rfl rfl rfl rfl rfl ?_ | refine OWp.load (List.Mem.tail _ (List.Mem.tail _ (List.Mem.tail _ (List.Mem.tail _ (List.Mem.head _))))) rfl rfl rfl rfl rfl ?_ | refine OWp.load (List.Mem.tail _ (List.Mem.tail _ (List.Mem.tail _ (List.Mem.tail _ (List.Mem.tail _ (List.Mem.head _)))))) rfl rfl rfl rfl rfl ?_
  refine OWp.nil ?_
  refine Wp.block ?_
  refine Wp.seq (Wp.region ?_)
  refine OWp.evs 2 rfl ?_
  refine OWp.nil ?_
  refine Wp.cond rfl (fun h1 => ?_) (fun h1 => ?_)
  · have h1 := of_decide_eq_true h1
    refine Wp.seq (Wp.region ?_)
    refine OWp.evs 1 rfl ?_
    first | refine OWp.load (List.Mem.head _) rfl rfl rfl rfl rfl ?_ | refine OWp.load (List.Mem.tail _ (List.Mem.head _)) rfl rfl rfl rfl rfl ?_ | refine OWp.load (List.Mem.tail _ (List.Mem.tail _ (List.Mem.head _))) rfl rfl rfl rfl rfl ?_ | refine OWp.load (List.Mem.tail _ (List.Mem.tail _ (List.Mem.tail _ (List.Mem.head _)))) rfl rfl rfl rfl rfl ?_ | refine OWp.load (List.Mem.tail _ (List.Mem.tail _ (List.Mem.tail _ (List.Mem.tail _ (List.Mem.head _))))) rfl rfl rfl rfl rfl ?_ | refine OWp.load (List.Mem.tail _ (List.Mem.tail _ (List.Mem.tail _ (List.Mem.tail _ (List.Mem.tail _ (List.Mem.head _)))))) rfl rfl rfl rfl rfl ?_
    refine OWp.evs 1 rfl ?_
    first | refine OWp.load (List.Mem.head _) rfl rfl rfl rfl rfl ?_ | refine OWp.load (List.Mem.tail _ (List.Mem.head _)) rfl rfl rfl rfl rfl ?_ | refine OWp.load (List.Mem.tail _ (List.Mem.tail _ (List.Mem.head _))) rfl rfl rfl rfl rfl ?_ | refine OWp.load (List.Mem.tail _ (List.Mem.tail _ (List.Mem.tail _ (List.Mem.head _)))) rfl rfl rfl rfl rfl ?_ | refine OWp.load (List.Mem.tail _ (List.Mem.tail _ (List.Mem.tail _ (List.Mem.tail _ (List.Mem.head _))))) rfl rfl rfl rfl rfl ?_ | refine OWp.load (List.Mem.tail _ (List.Mem.tail _ (List.Mem.tail _ (List.Mem.tail _ (List.Mem.tail _ (List.Mem.head _)))))) rfl rfl rfl rfl rfl ?_
    refine OWp.g rfl rfl (Gives.build rfl rfl) ?_
    refine OWp.step rfl (Step.store 0 rfl rfl rfl rfl rfl (by assumption) rfl (Nat.le_of_ble_eq_true rfl) (Unfz.zero _) rfl rfl ?_)
    refine OWp.nil ?_
    refine Wp.region ?_
    refine OWp.evs 2 rfl ?_
    refine OWp.part 18 rfl (fun h2 => ?_) (fun h2 => ?_)
    · have h2 := of_decide_eq_true h2
      refine OWp.evs 1 rfl ?_
      first | refine OWp.load (List.Mem.head _) rfl rfl rfl rfl rfl ?_ | refine OWp.load (List.Mem.tail _ (List.Mem.head _)) rfl rfl rfl rfl rfl ?_ | refine OWp.load (List.Mem.tail _ (List.Mem.tail _ (List.Mem.head _))) rfl rfl rfl rfl rfl ?_ | refine OWp.load (List.Mem.tail _ (List.Mem.tail _ (List.Mem.tail _ (List.Mem.head _)))) rfl rfl rfl rfl rfl ?_ | refine OWp.load (List.Mem.tail _ (List.Mem.tail _ (List.Mem.tail _ (List.Mem.tail _ (List.Mem.head _))))) rfl rfl rfl rfl rfl ?_ | refine OWp.load (List.Mem.tail _ (List.Mem.tail _ (List.Mem.tail _ (List.Mem.tail _ (List.Mem.tail _ (List.Mem.head _)))))) rfl rfl rfl rfl rfl ?_
      refine OWp.step rfl (Step.call rfl rfl rfl rfl rfl rfl ((withinC ?_)))
      refine OWp.evs 2 rfl ?_
      refine OWp.nil ?_
      refine Wp.seq (Wp.region ?_)
      refine OWp.evs 1 rfl ?_
      first | refine OWp.load (List.Mem.head _) rfl rfl rfl rfl rfl ?_ | refine OWp.load (List.Mem.tail _ (List.Mem.head _)) rfl rfl rfl rfl rfl ?_ | refine OWp.load (List.Mem.tail _ (List.Mem.tail _ (List.Mem.head _))) rfl rfl rfl rfl rfl ?_ | refine OWp.load (List.Mem.tail _ (List.Mem.tail _ (List.Mem.tail _ (List.Mem.head _)))) rfl rfl rfl rfl rfl ?_ | refine OWp.load (List.Mem.tail _ (List.Mem.tail _ (List.Mem.tail _ (List.Mem.tail _ (List.Mem.head _))))) rfl rfl rfl rfl rfl ?_ | refine OWp.load (List.Mem.tail _ (List.Mem.tail _ (List.Mem.tail _ (List.Mem.tail _ (List.Mem.tail _ (List.Mem.head _)))))) rfl rfl rfl rfl rfl ?_
      refine OWp.evs 1 rfl ?_
      refine OWp.step rfl (Step.store 0 rfl rfl rfl rfl rfl (by assumption) rfl (Nat.le_of_ble_eq_true rfl) (Unfz.zero _) rfl rfl ?_)
      refine OWp.nil ?_
      refine Wp.seq ?_
      refine Wp.seq (Wp.region ?_)
      refine OWp.evs 3 rfl ?_
      refine OWp.part 63 rfl (fun h3 => ?_) (fun h3 => ?_)
      · have h3 := ndT h3
        refine OWp.evs 4 rfl ?_
        refine OWp.nil ?_
        refine Wp.cond rfl (fun _ => ?_) (fun c => nomatch c)
        refine Wp.drop (S' := S) subl ?_
        refine Wp.seq (Wp.region ?_)
        refine OWp.evs 1 rfl ?_
        refine OWp.nil ?_
        refine Wp.ret ⟨trivial, _, ⟨_, _, rfl, rfl, rfl⟩, ?_⟩
        exact hno (by omega)
      have h3 := ndF h3
      first | refine OWp.load (List.Mem.head _) rfl rfl rfl rfl rfl ?_ | refine OWp.load (List.Mem.tail _ (List.Mem.head _)) rfl rfl rfl rfl rfl ?_ | refine OWp.load (List.Mem.tail _ (List.Mem.tail _ (List.Mem.head _))) rfl rfl rfl rfl rfl ?_ | refine OWp.load (List.Mem.tail _ (List.Mem.tail _ (List.Mem.tail _ (List.Mem.head _)))) rfl rfl rfl rfl rfl ?_ | refine OWp.load (List.Mem.tail _ (List.Mem.tail _ (List.Mem.tail _ (List.Mem.tail _ (List.Mem.head _))))) rfl rfl rfl rfl rfl ?_ | refine OWp.load (List.Mem.tail _ (List.Mem.tail _ (List.Mem.tail _ (List.Mem.tail _ (List.Mem.tail _ (List.Mem.head _)))))) rfl rfl rfl rfl rfl ?_
      first | refine OWp.load (List.Mem.head _) rfl rfl rfl rfl rfl ?_ | refine OWp.load (List.Mem.tail _ (List.Mem.head _)) rfl rfl rfl rfl rfl ?_ | refine OWp.load (List.Mem.tail _ (List.Mem.tail _ (List.Mem.head _))) rfl rfl rfl rfl rfl ?_ | refine OWp.load (List.Mem.tail _ (List.Mem.tail _ (List.Mem.tail _ (List.Mem.head _)))) rfl rfl rfl rfl rfl ?_ | refine OWp.load (List.Mem.tail _ (List.Mem.tail _ (List.Mem.tail _ (List.Mem.tail _ (List.Mem.head _))))) rfl rfl rfl rfl rfl ?_ | refine OWp.load (List.Mem.tail _ (List.Mem.tail _ (List.Mem.tail _ (List.Mem.tail _ (List.Mem.tail _ (List.Mem.head _)))))) rfl rfl rfl rfl rfl ?_
      refine OWp.g rfl rfl (Gives.neqStruct (r := eqHop x ⟨x.kind, x.node, 0, x.delay, []⟩) 10 rfl rfl rfl rfl hopG (by rfl)) ?_
      refine OWp.evs 1 rfl ?_
      refine OWp.nil ?_
      refine Wp.cond rfl (fun h4 => ?_) (fun h4 => ?_)
      · skip
        refine Wp.drop (S' := S) subl ?_
        refine Wp.seq (Wp.region ?_)
        refine OWp.evs 1 rfl ?_
        refine OWp.nil ?_
        refine Wp.ret ⟨trivial, _, ⟨_, _, rfl, rfl, rfl⟩, ?_⟩
        refine hno fun hp => ?_
        have : eqHop x ⟨x.kind, x.node, 0, x.delay, []⟩ = true := eqHop_iff.2 (Hop.ext rfl rfl (by show x.user = 0; omega) rfl (nil_len.2 (by omega)))
        rw [this] at h4
        cases h4
      refine Wp.skip ?_
      refine Wp.drop (S' := S) subl ?_
      refine Wp.seq (Wp.region ?_)
      refine OWp.evs 1 rfl ?_
      refine OWp.nil ?_
      refine Wp.ret ⟨trivial, _, ⟨_, _, rfl, rfl, rfl⟩, ?_⟩
      have : eqHop x ⟨x.kind, x.node, 0, x.delay, []⟩ = true := by simpa using h4
      have := eqHop_iff.1 this
      have e3 := congrArg Hop.user this
      have e5 := nil_len.1 (congrArg Hop.id this)
      simp only at e3
      exact hyes (by omega)
    have h2 := of_decide_eq_false h2
    refine OWp.evs 5 rfl ?_
    refine OWp.nil ?_
    refine Wp.seq (Wp.region ?_)
    refine OWp.evs 1 rfl ?_
    first | refine OWp.load (List.Mem.head _) rfl rfl rfl rfl rfl ?_ | refine OWp.load (List.Mem.tail _ (List.Mem.head _)) rfl rfl rfl rfl rfl ?_ | refine OWp.load (List.Mem.tail _ (List.Mem.tail _ (List.Mem.head _))) rfl rfl rfl rfl rfl ?_ | refine OWp.load (List.Mem.tail _ (List.Mem.tail _ (List.Mem.tail _ (List.Mem.head _)))) rfl rfl rfl rfl rfl ?_ | refine OWp.load (List.Mem.tail _ (List.Mem.tail _ (List.Mem.tail _ (List.Mem.tail _ (List.Mem.head _))))) rfl rfl rfl rfl rfl ?_ | refine OWp.load (List.Mem.tail _ (List.Mem.tail _ (List.Mem.tail _ (List.Mem.tail _ (List.Mem.tail _ (List.Mem.head _)))))) rfl rfl rfl rfl rfl ?_
    refine OWp.evs 1 rfl ?_
    refine OWp.step rfl (Step.store 0 rfl rfl rfl rfl rfl (by assumption) rfl (Nat.le_of_ble_eq_true rfl) (Unfz.zero _) rfl rfl ?_)
    refine OWp.nil ?_
    refine Wp.seq ?_
    refine Wp.drop (S' := S) subl ?_
    refine Wp.seq (Wp.region ?_)
    refine OWp.evs 7 rfl ?_
    refine OWp.nil ?_
    refine Wp.cond rfl (fun _ => ?_) (fun c => nomatch c)
    refine Wp.seq (Wp.region ?_)
    refine OWp.evs 1 rfl ?_
    refine OWp.nil ?_
    refine Wp.ret ⟨trivial, _, ⟨_, _, rfl, rfl, rfl⟩, ?_⟩
    exact hno (by omega)
  have h1 := of_decide_eq_false h1
  refine Wp.seq (Wp.region ?_)
  refine OWp.evs 2 rfl ?_
  refine OWp.nil ?_
  refine Wp.cond rfl (fun h1b => ?_) (fun h1b => ?_)
  · have h1b := of_decide_eq_true h1b
    refine Wp.seq (Wp.region ?_)
    refine OWp.evs 1 rfl ?_
    first | refine OWp.load (List.Mem.head _) rfl rfl rfl rfl rfl ?_ | refine OWp.load (List.Mem.tail _ (List.Mem.head _)) rfl rfl rfl rfl rfl ?_ | refine OWp.load (List.Mem.tail _ (List.Mem.tail _ (List.Mem.head _))) rfl rfl rfl rfl rfl ?_ | refine OWp.load (List.Mem.tail _ (List.Mem.tail _ (List.Mem.tail _ (List.Mem.head _)))) rfl rfl rfl rfl rfl ?_ | refine OWp.load (List.Mem.tail _ (List.Mem.tail _ (List.Mem.tail _ (List.Mem.tail _ (List.Mem.head _))))) rfl rfl rfl rfl rfl ?_ | refine OWp.load (List.Mem.tail _ (List.Mem.tail _ (List.Mem.tail _ (List.Mem.tail _ (List.Mem.tail _ (List.Mem.head _)))))) rfl rfl rfl rfl rfl ?_
    refine OWp.evs 1 rfl ?_
    first | refine OWp.load (List.Mem.head _) rfl rfl rfl rfl rfl ?_ | refine OWp.load (List.Mem.tail _ (List.Mem.head _)) rfl rfl rfl rfl rfl ?_ | refine OWp.load (List.Mem.tail _ (List.Mem.tail _ (List.Mem.head _))) rfl rfl rfl rfl rfl ?_ | refine OWp.load (List.Mem.tail _ (List.Mem.tail _ (List.Mem.tail _ (List.Mem.head _)))) rfl rfl rfl rfl rfl ?_ | refine OWp.load (List.Mem.tail _ (List.Mem.tail _ (List.Mem.tail _ (List.Mem.tail _ (List.Mem.head _))))) rfl rfl rfl rfl rfl ?_ | refine OWp.load (List.Mem.tail _ (List.Mem.tail _ (List.Mem.tail _ (List.Mem.tail _ (List.Mem.tail _ (List.Mem.head _)))))) rfl rfl rfl rfl rfl ?_
    refine OWp.evs 1 rfl ?_
    first | refine OWp.load (List.Mem.head _) rfl rfl rfl rfl rfl ?_ | refine OWp.load (List.Mem.tail _ (List.Mem.head _)) rfl rfl rfl rfl rfl ?_ | refine OWp.load (List.Mem.tail _ (List.Mem.tail _ (List.Mem.head _))) rfl rfl rfl rfl rfl ?_ | refine OWp.load (List.Mem.tail _ (List.Mem.tail _ (List.Mem.tail _ (List.Mem.head _)))) rfl rfl rfl rfl rfl ?_ | refine OWp.load (List.Mem.tail _ (List.Mem.tail _ (List.Mem.tail _ (List.Mem.tail _ (List.Mem.head _))))) rfl rfl rfl rfl rfl ?_ | refine OWp.load (List.Mem.tail _ (List.Mem.tail _ (List.Mem.tail _ (List.Mem.tail _ (List.Mem.tail _ (List.Mem.head _)))))) rfl rfl rfl rfl rfl ?_
    refine OWp.g rfl rfl (Gives.build rfl rfl) ?_
    refine OWp.step rfl (Step.store 0 rfl rfl rfl rfl rfl (by assumption) rfl (Nat.le_of_ble_eq_true rfl) (Unfz.zero _) rfl rfl ?_)
    refine OWp.nil ?_
    refine Wp.region ?_
    refine OWp.evs 2 rfl ?_
    refine OWp.part 33 rfl (fun h2 => ?_) (fun h2 => ?_)
    · have h2 := of_decide_eq_true h2
      refine OWp.evs 1 rfl ?_
      first | refine OWp.load (List.Mem.head _) rfl rfl rfl rfl rfl ?_ | refine OWp.load (List.Mem.tail _ (List.Mem.head _)) rfl rfl rfl rfl rfl ?_ | refine OWp.load (List.Mem.tail _ (List.Mem.tail _ (List.Mem.head _))) rfl rfl rfl rfl rfl ?_ | refine OWp.load (List.Mem.tail _ (List.Mem.tail _ (List.Mem.tail _ (List.Mem.head _)))) rfl rfl rfl rfl rfl ?_ | refine OWp.load (List.Mem.tail _ (List.Mem.tail _ (List.Mem.tail _ (List.Mem.tail _ (List.Mem.head _))))) rfl rfl rfl rfl rfl ?_ | refine OWp.load (List.Mem.tail _ (List.Mem.tail _ (List.Mem.tail _ (List.Mem.tail _ (List.Mem.tail _ (List.Mem.head _)))))) rfl rfl rfl rfl rfl ?_
      refine OWp.step rfl (Step.call rfl rfl rfl rfl rfl rfl ((withinC ?_)))
      refine OWp.evs 2 rfl ?_
      refine OWp.part 38 rfl (fun h3 => ?_) (fun h3 => ?_)
      · have h3 := of_decide_eq_true h3
        refine OWp.evs 1 rfl ?_
        first | refine OWp.load (List.Mem.head _) rfl rfl rfl rfl rfl ?_ | refine OWp.load (List.Mem.tail _ (List.Mem.head _)) rfl rfl rfl rfl rfl ?_ | refine OWp.load (List.Mem.tail _ (List.Mem.tail _ (List.Mem.head _))) rfl rfl rfl rfl rfl ?_ | refine OWp.load (List.Mem.tail _ (List.Mem.tail _ (List.Mem.tail _ (List.Mem.head _)))) rfl rfl rfl rfl rfl ?_ | refine OWp.load (List.Mem.tail _ (List.Mem.tail _ (List.Mem.tail _ (List.Mem.tail _ (List.Mem.head _))))) rfl rfl rfl rfl rfl ?_ | refine OWp.load (List.Mem.tail _ (List.Mem.tail _ (List.Mem.tail _ (List.Mem.tail _ (List.Mem.tail _ (List.Mem.head _)))))) rfl rfl rfl rfl rfl ?_
        refine OWp.evs 4 rfl ?_
        refine OWp.nil ?_
        refine Wp.seq (Wp.region ?_)
        refine OWp.evs 1 rfl ?_
        first | refine OWp.load (List.Mem.head _) rfl rfl rfl rfl rfl ?_ | refine OWp.load (List.Mem.tail _ (List.Mem.head _)) rfl rfl rfl rfl rfl ?_ | refine OWp.load (List.Mem.tail _ (List.Mem.tail _ (List.Mem.head _))) rfl rfl rfl rfl rfl ?_ | refine OWp.load (List.Mem.tail _ (List.Mem.tail _ (List.Mem.tail _ (List.Mem.head _)))) rfl rfl rfl rfl rfl ?_ | refine OWp.load (List.Mem.tail _ (List.Mem.tail _ (List.Mem.tail _ (List.Mem.tail _ (List.Mem.head _))))) rfl rfl rfl rfl rfl ?_ | refine OWp.load (List.Mem.tail _ (List.Mem.tail _ (List.Mem.tail _ (List.Mem.tail _ (List.Mem.tail _ (List.Mem.head _)))))) rfl rfl rfl rfl rfl ?_
        refine OWp.evs 1 rfl ?_
        refine OWp.step rfl (Step.store 0 rfl rfl rfl rfl rfl (by assumption) rfl (Nat.le_of_ble_eq_true rfl) (Unfz.zero _) rfl rfl ?_)
        refine OWp.nil ?_
        refine Wp.seq ?_
        refine Wp.seq (Wp.region ?_)
        refine OWp.evs 3 rfl ?_
        refine OWp.part 63 rfl (fun h4 => ?_) (fun h4 => ?_)
        · have h4 := ndT h4
          refine OWp.evs 4 rfl ?_
          refine OWp.nil ?_
          refine Wp.cond rfl (fun _ => ?_) (fun c => nomatch c)
          refine Wp.drop (S' := S) subl ?_
          refine Wp.seq (Wp.region ?_)
          refine OWp.evs 1 rfl ?_
          refine OWp.nil ?_
          refine Wp.ret ⟨trivial, _, ⟨_, _, rfl, rfl, rfl⟩, ?_⟩
          exact hno (by omega)
        have h4 := ndF h4
        first | refine OWp.load (List.Mem.head _) rfl rfl rfl rfl rfl ?_ | refine OWp.load (List.Mem.tail _ (List.Mem.head _)) rfl rfl rfl rfl rfl ?_ | refine OWp.load (List.Mem.tail _ (List.Mem.tail _ (List.Mem.head _))) rfl rfl rfl rfl rfl ?_ | refine OWp.load (List.Mem.tail _ (List.Mem.tail _ (List.Mem.tail _ (List.Mem.head _)))) rfl rfl rfl rfl rfl ?_ | refine OWp.load (List.Mem.tail _ (List.Mem.tail _ (List.Mem.tail _ (List.Mem.tail _ (List.Mem.head _))))) rfl rfl rfl rfl rfl ?_ | refine OWp.load (List.Mem.tail _ (List.Mem.tail _ (List.Mem.tail _ (List.Mem.tail _ (List.Mem.tail _ (List.Mem.head _)))))) rfl rfl rfl rfl rfl ?_
        first | refine OWp.load (List.Mem.head _) rfl rfl rfl rfl rfl ?_ | refine OWp.load (List.Mem.tail _ (List.Mem.head _)) rfl rfl rfl rfl rfl ?_ | refine OWp.load (List.Mem.tail _ (List.Mem.tail _ (List.Mem.head _))) rfl rfl rfl rfl rfl ?_ | refine OWp.load (List.Mem.tail _ (List.Mem.tail _ (List.Mem.tail _ (List.Mem.head _)))) rfl rfl rfl rfl rfl ?_ | refine OWp.load (List.Mem.tail _ (List.Mem.tail _ (List.Mem.tail _ (List.Mem.tail _ (List.Mem.head _))))) rfl rfl rfl rfl rfl ?_ | refine OWp.load (List.Mem.tail _ (List.Mem.tail _ (List.Mem.tail _ (List.Mem.tail _ (List.Mem.tail _ (List.Mem.head _)))))) rfl rfl rfl rfl rfl ?_
        refine OWp.g rfl rfl (Gives.neqStruct (r := eqHop x ⟨x.kind, 0, x.user, x.delay, x.id⟩) 10 rfl rfl rfl rfl hopG (by rfl)) ?_
        refine OWp.evs 1 rfl ?_
        refine OWp.nil ?_
        refine Wp.cond rfl (fun h5 => ?_) (fun h5 => ?_)
        · skip
          refine Wp.drop (S' := S) subl ?_
          refine Wp.seq (Wp.region ?_)
          refine OWp.evs 1 rfl ?_
          refine OWp.nil ?_
          refine Wp.ret ⟨trivial, _, ⟨_, _, rfl, rfl, rfl⟩, ?_⟩
          refine hno fun hp => ?_
          have : eqHop x ⟨x.kind, 0, x.user, x.delay, x.id⟩ = true := eqHop_iff.2 (Hop.ext rfl (by show x.node = 0; omega) rfl rfl rfl)
          rw [this] at h5
          cases h5
        refine Wp.skip ?_
        refine Wp.drop (S' := S) subl ?_
        refine Wp.seq (Wp.region ?_)
        refine OWp.evs 1 rfl ?_
        refine OWp.nil ?_
        refine Wp.ret ⟨trivial, _, ⟨_, _, rfl, rfl, rfl⟩, ?_⟩
        have : eqHop x ⟨x.kind, 0, x.user, x.delay, x.id⟩ = true := by simpa using h5
        have := eqHop_iff.1 this
        have e3 := congrArg Hop.node this
        simp only at e3
        exact hyes (by omega)
      have h3 := of_decide_eq_false h3
      refine OWp.evs 6 rfl ?_
      refine OWp.nil ?_
      refine Wp.seq (Wp.region ?_)
      refine OWp.evs 1 rfl ?_
      first | refine OWp.load (List.Mem.head _) rfl rfl rfl rfl rfl ?_ | refine OWp.load (List.Mem.tail _ (List.Mem.head _)) rfl rfl rfl rfl rfl ?_ | refine OWp.load (List.Mem.tail _ (List.Mem.tail _ (List.Mem.head _))) rfl rfl rfl rfl rfl ?_ | refine OWp.load (List.Mem.tail _ (List.Mem.tail _ (List.Mem.tail _ (List.Mem.head _)))) rfl rfl rfl rfl rfl ?_ | refine OWp.load (List.Mem.tail _ (List.Mem.tail _ (List.Mem.tail _ (List.Mem.tail _ (List.Mem.head _))))) rfl rfl rfl rfl rfl ?_ | refine OWp.load (List.Mem.tail _ (List.Mem.tail _ (List.Mem.tail _ (List.Mem.tail _ (List.Mem.tail _ (List.Mem.head _)))))) rfl rfl rfl rfl rfl ?_
      refine OWp.evs 1 rfl ?_
      refine OWp.step rfl (Step.store 0 rfl rfl rfl rfl rfl (by assumption) rfl (Nat.le_of_ble_eq_true rfl) (Unfz.zero _) rfl rfl ?_)
      refine OWp.nil ?_
      refine Wp.seq ?_
      refine Wp.drop (S' := S) subl ?_
      refine Wp.seq (Wp.region ?_)
      refine OWp.evs 7 rfl ?_
      refine OWp.nil ?_
      refine Wp.cond rfl (fun _ => ?_) (fun c => nomatch c)
      refine Wp.seq (Wp.region ?_)
      refine OWp.evs 1 rfl ?_
      refine OWp.nil ?_
      refine Wp.ret ⟨trivial, _, ⟨_, _, rfl, rfl, rfl⟩, ?_⟩
      exact hno (by omega)
    have h2 := of_decide_eq_false h2
    refine OWp.evs 11 rfl ?_
    refine OWp.nil ?_
    refine Wp.seq (Wp.region ?_)
    refine OWp.evs 1 rfl ?_
    first | refine OWp.load (List.Mem.head _) rfl rfl rfl rfl rfl ?_ | refine OWp.load (List.Mem.tail _ (List.Mem.head _)) rfl rfl rfl rfl rfl ?_ | refine OWp.load (List.Mem.tail _ (List.Mem.tail _ (List.Mem.head _))) rfl rfl rfl rfl rfl ?_ | refine OWp.load (List.Mem.tail _ (List.Mem.tail _ (List.Mem.tail _ (List.Mem.head _)))) rfl rfl rfl rfl rfl ?_ | refine OWp.load (List.Mem.tail _ (List.Mem.tail _ (List.Mem.tail _ (List.Mem.tail _ (List.Mem.head _))))) rfl rfl rfl rfl rfl ?_ | refine OWp.load (List.Mem.tail _ (List.Mem.tail _ (List.Mem.tail _ (List.Mem.tail _ (List.Mem.tail _ (List.Mem.head _)))))) rfl rfl rfl rfl rfl ?_
    refine OWp.evs 1 rfl ?_
    refine OWp.step rfl (Step.store 0 rfl rfl rfl rfl rfl (by assumption) rfl (Nat.le_of_ble_eq_true rfl) (Unfz.zero _) rfl rfl ?_)
    refine OWp.nil ?_
    refine Wp.seq ?_
    refine Wp.drop (S' := S) subl ?_
    refine Wp.seq (Wp.region ?_)
    refine OWp.evs 7 rfl ?_
    refine OWp.nil ?_
    refine Wp.cond rfl (fun _ => ?_) (fun c => nomatch c)
    refine Wp.seq (Wp.region ?_)
    refine OWp.evs 1 rfl ?_
    refine OWp.nil ?_
    refine Wp.ret ⟨trivial, _, ⟨_, _, rfl, rfl, rfl⟩, ?_⟩
    exact hno (by omega)
  have h1b := of_decide_eq_false h1b
  refine Wp.seq (Wp.region ?_)
  refine OWp.evs 2 rfl ?_
  refine OWp.nil ?_
  refine Wp.cond rfl (fun h1c => ?_) (fun h1c => ?_)
  · have h1c := of_decide_eq_true h1c
    refine Wp.seq (Wp.region ?_)
    refine OWp.evs 1 rfl ?_
    first | refine OWp.load (List.Mem.head _) rfl rfl rfl rfl rfl ?_ | refine OWp.load (List.Mem.tail _ (List.Mem.head _)) rfl rfl rfl rfl rfl ?_ | refine OWp.load (List.Mem.tail _ (List.Mem.tail _ (List.Mem.head _))) rfl rfl rfl rfl rfl ?_ | refine OWp.load (List.Mem.tail _ (List.Mem.tail _ (List.Mem.tail _ (List.Mem.head _)))) rfl rfl rfl rfl rfl ?_ | refine OWp.load (List.Mem.tail _ (List.Mem.tail _ (List.Mem.tail _ (List.Mem.tail _ (List.Mem.head _))))) rfl rfl rfl rfl rfl ?_ | refine OWp.load (List.Mem.tail _ (List.Mem.tail _ (List.Mem.tail _ (List.Mem.tail _ (List.Mem.tail _ (List.Mem.head _)))))) rfl rfl rfl rfl rfl ?_
    refine OWp.g rfl rfl (Gives.build rfl rfl) ?_
    refine OWp.step rfl (Step.store 0 rfl rfl rfl rfl rfl (by assumption) rfl (Nat.le_of_ble_eq_true rfl) (Unfz.zero _) rfl rfl ?_)
    refine OWp.nil ?_
    refine Wp.region ?_
    refine OWp.evs 2 rfl ?_
    refine OWp.part 50 rfl (fun h2 => ?_) (fun h2 => ?_)
    · have h2 := of_decide_eq_true h2
      refine OWp.evs 1 rfl ?_
      first | refine OWp.load (List.Mem.head _) rfl rfl rfl rfl rfl ?_ | refine OWp.load (List.Mem.tail _ (List.Mem.head _)) rfl rfl rfl rfl rfl ?_ | refine OWp.load (List.Mem.tail _ (List.Mem.tail _ (List.Mem.head _))) rfl rfl rfl rfl rfl ?_ | refine OWp.load (List.Mem.tail _ (List.Mem.tail _ (List.Mem.tail _ (List.Mem.head _)))) rfl rfl rfl rfl rfl ?_ | refine OWp.load (List.Mem.tail _ (List.Mem.tail _ (List.Mem.tail _ (List.Mem.tail _ (List.Mem.head _))))) rfl rfl rfl rfl rfl ?_ | refine OWp.load (List.Mem.tail _ (List.Mem.tail _ (List.Mem.tail _ (List.Mem.tail _ (List.Mem.tail _ (List.Mem.head _)))))) rfl rfl rfl rfl rfl ?_
      refine OWp.evs 4 rfl ?_
      refine OWp.nil ?_
      refine Wp.seq (Wp.region ?_)
      refine OWp.evs 1 rfl ?_
      first | refine OWp.load (List.Mem.head _) rfl rfl rfl rfl rfl ?_ | refine OWp.load (List.Mem.tail _ (List.Mem.head _)) rfl rfl rfl rfl rfl ?_ | refine OWp.load (List.Mem.tail _ (List.Mem.tail _ (List.Mem.head _))) rfl rfl rfl rfl rfl ?_ | refine OWp.load (List.Mem.tail _ (List.Mem.tail _ (List.Mem.tail _ (List.Mem.head _)))) rfl rfl rfl rfl rfl ?_ | refine OWp.load (List.Mem.tail _ (List.Mem.tail _ (List.Mem.tail _ (List.Mem.tail _ (List.Mem.head _))))) rfl rfl rfl rfl rfl ?_ | refine OWp.load (List.Mem.tail _ (List.Mem.tail _ (List.Mem.tail _ (List.Mem.tail _ (List.Mem.tail _ (List.Mem.head _)))))) rfl rfl rfl rfl rfl ?_
      refine OWp.evs 1 rfl ?_
      refine OWp.step rfl (Step.store 0 rfl rfl rfl rfl rfl (by assumption) rfl (Nat.le_of_ble_eq_true rfl) (Unfz.zero _) rfl rfl ?_)
      refine OWp.nil ?_
      refine Wp.seq ?_
      refine Wp.seq (Wp.region ?_)
      refine OWp.evs 3 rfl ?_
      refine OWp.part 63 rfl (fun h4 => ?_) (fun h4 => ?_)
      · have h4 := ndT h4
        refine OWp.evs 4 rfl ?_
        refine OWp.nil ?_
        refine Wp.cond rfl (fun _ => ?_) (fun c => nomatch c)
        refine Wp.drop (S' := S) subl ?_
        refine Wp.seq (Wp.region ?_)
        refine OWp.evs 1 rfl ?_
        refine OWp.nil ?_
        refine Wp.ret ⟨trivial, _, ⟨_, _, rfl, rfl, rfl⟩, ?_⟩
        exact hno (by omega)
      have h4 := ndF h4
      first | refine OWp.load (List.Mem.head _) rfl rfl rfl rfl rfl ?_ | refine OWp.load (List.Mem.tail _ (List.Mem.head _)) rfl rfl rfl rfl rfl ?_ | refine OWp.load (List.Mem.tail _ (List.Mem.tail _ (List.Mem.head _))) rfl rfl rfl rfl rfl ?_ | refine OWp.load (List.Mem.tail _ (List.Mem.tail _ (List.Mem.tail _ (List.Mem.head _)))) rfl rfl rfl rfl rfl ?_ | refine OWp.load (List.Mem.tail _ (List.Mem.tail _ (List.Mem.tail _ (List.Mem.tail _ (List.Mem.head _))))) rfl rfl rfl rfl rfl ?_ | refine OWp.load (List.Mem.tail _ (List.Mem.tail _ (List.Mem.tail _ (List.Mem.tail _ (List.Mem.tail _ (List.Mem.head _)))))) rfl rfl rfl rfl rfl ?_
      first | refine OWp.load (List.Mem.head _) rfl rfl rfl rfl rfl ?_ | refine OWp.load (List.Mem.tail _ (List.Mem.head _)) rfl rfl rfl rfl rfl ?_ | refine OWp.load (List.Mem.tail _ (List.Mem.tail _ (List.Mem.head _))) rfl rfl rfl rfl rfl ?_ | refine OWp.load (List.Mem.tail _ (List.Mem.tail _ (List.Mem.tail _ (List.Mem.head _)))) rfl rfl rfl rfl rfl ?_ | refine OWp.load (List.Mem.tail _ (List.Mem.tail _ (List.Mem.tail _ (List.Mem.tail _ (List.Mem.head _))))) rfl rfl rfl rfl rfl ?_ | refine OWp.load (List.Mem.tail _ (List.Mem.tail _ (List.Mem.tail _ (List.Mem.tail _ (List.Mem.tail _ (List.Mem.head _)))))) rfl rfl rfl rfl rfl ?_
      refine OWp.g rfl rfl (Gives.neqStruct (r := eqHop x ⟨x.kind, 0, 0, 0, x.id⟩) 10 rfl rfl rfl rfl hopG (by rfl)) ?_
      refine OWp.evs 1 rfl ?_
      refine OWp.nil ?_
      refine Wp.cond rfl (fun h5 => ?_) (fun h5 => ?_)
      · skip
        refine Wp.drop (S' := S) subl ?_
        refine Wp.seq (Wp.region ?_)
        refine OWp.evs 1 rfl ?_
        refine OWp.nil ?_
        refine Wp.ret ⟨trivial, _, ⟨_, _, rfl, rfl, rfl⟩, ?_⟩
        refine hno fun hp => ?_
        have : eqHop x ⟨x.kind, 0, 0, 0, x.id⟩ = true := eqHop_iff.2 (Hop.ext rfl (by show x.node = 0; omega) (by show x.user = 0; omega) (by show x.delay = 0; omega) rfl)
        rw [this] at h5
        cases h5
      refine Wp.skip ?_
      refine Wp.drop (S' := S) subl ?_
      refine Wp.seq (Wp.region ?_)
      refine OWp.evs 1 rfl ?_
      refine OWp.nil ?_
      refine Wp.ret ⟨trivial, _, ⟨_, _, rfl, rfl, rfl⟩, ?_⟩
      have : eqHop x ⟨x.kind, 0, 0, 0, x.id⟩ = true := by simpa using h5
      have := eqHop_iff.1 this
      have e3 := congrArg Hop.node this
      have e4 := congrArg Hop.user this
      have e5 := congrArg Hop.delay this
      simp only at e3 e4 e5
      exact hyes (by omega)
    have h2 := of_decide_eq_false h2
    refine OWp.evs 6 rfl ?_
    refine OWp.nil ?_
    refine Wp.seq (Wp.region ?_)
    refine OWp.evs 1 rfl ?_
    first | refine OWp.load (List.Mem.head _) rfl rfl rfl rfl rfl ?_ | refine OWp.load (List.Mem.tail _ (List.Mem.head _)) rfl rfl rfl rfl rfl ?_ | refine OWp.load (List.Mem.tail _ (List.Mem.tail _ (List.Mem.head _))) rfl rfl rfl rfl rfl ?_ | refine OWp.load (List.Mem.tail _ (List.Mem.tail _ (List.Mem.tail _ (List.Mem.head _)))) rfl rfl rfl rfl rfl ?_ | refine OWp.load (List.Mem.tail _ (List.Mem.tail _ (List.Mem.tail _ (List.Mem.tail _ (List.Mem.head _))))) rfl rfl rfl rfl rfl ?_ | refine OWp.load (List.Mem.tail _ (List.Mem.tail _ (List.Mem.tail _ (List.Mem.tail _ (List.Mem.tail _ (List.Mem.head _)))))) rfl rfl rfl rfl rfl ?_
    refine OWp.evs 1 rfl ?_
    refine OWp.step rfl (Step.store 0 rfl rfl rfl rfl rfl (by assumption) rfl (Nat.le_of_ble_eq_true rfl) (Unfz.zero _) rfl rfl ?_)
    refine OWp.nil ?_
    refine Wp.seq ?_
    refine Wp.drop (S' := S) subl ?_
    refine Wp.seq (Wp.region ?_)
    refine OWp.evs 7 rfl ?_
    refine OWp.nil ?_
    refine Wp.cond rfl (fun _ => ?_) (fun c => nomatch c)
    refine Wp.seq (Wp.region ?_)
    refine OWp.evs 1 rfl ?_
    refine OWp.nil ?_
    refine Wp.ret ⟨trivial, _, ⟨_, _, rfl, rfl, rfl⟩, ?_⟩
    exact hno (by omega)
  have h1c := of_decide_eq_false h1c
  refine Wp.seq (Wp.region ?_)
  refine OWp.evs 2 rfl ?_
  refine OWp.nil ?_
  refine Wp.cond rfl (fun h1d => ?_) (fun h1d => ?_)
  · have h1d := of_decide_eq_true h1d
    refine Wp.skip ?_
    refine Wp.seq (Wp.region ?_)
    refine OWp.evs 1 rfl ?_
    first | refine OWp.load (List.Mem.head _) rfl rfl rfl rfl rfl ?_ | refine OWp.load (List.Mem.tail _ (List.Mem.head _)) rfl rfl rfl rfl rfl ?_ | refine OWp.load (List.Mem.tail _ (List.Mem.tail _ (List.Mem.head _))) rfl rfl rfl rfl rfl ?_ | refine OWp.load (List.Mem.tail _ (List.Mem.tail _ (List.Mem.tail _ (List.Mem.head _)))) rfl rfl rfl rfl rfl ?_ | refine OWp.load (List.Mem.tail _ (List.Mem.tail _ (List.Mem.tail _ (List.Mem.tail _ (List.Mem.head _))))) rfl rfl rfl rfl rfl ?_ | refine OWp.load (List.Mem.tail _ (List.Mem.tail _ (List.Mem.tail _ (List.Mem.tail _ (List.Mem.tail _ (List.Mem.head _)))))) rfl rfl rfl rfl rfl ?_
    refine OWp.evs 1 rfl ?_
    refine OWp.step rfl (Step.store 0 rfl rfl rfl rfl rfl (by assumption) rfl (Nat.le_of_ble_eq_true rfl) (Unfz.zero _) rfl rfl ?_)
    refine OWp.nil ?_
    refine Wp.seq ?_
    refine Wp.seq (Wp.region ?_)
    refine OWp.evs 3 rfl ?_
    refine OWp.part 63 rfl (fun h2 => ?_) (fun h2 => ?_)
    · have h2 := ndT h2
      refine OWp.evs 4 rfl ?_
      refine OWp.nil ?_
      refine Wp.cond rfl (fun _ => ?_) (fun c => nomatch c)
      refine Wp.drop (S' := S) subl ?_
      refine Wp.seq (Wp.region ?_)
      refine OWp.evs 1 rfl ?_
      refine OWp.nil ?_
      refine Wp.ret ⟨trivial, _, ⟨_, _, rfl, rfl, rfl⟩, ?_⟩
      exact hno (by omega)
    have h2 := ndF h2
    first | refine OWp.load (List.Mem.head _) rfl rfl rfl rfl rfl ?_ | refine OWp.load (List.Mem.tail _ (List.Mem.head _)) rfl rfl rfl rfl rfl ?_ | refine OWp.load (List.Mem.tail _ (List.Mem.tail _ (List.Mem.head _))) rfl rfl rfl rfl rfl ?_ | refine OWp.load (List.Mem.tail _ (List.Mem.tail _ (List.Mem.tail _ (List.Mem.head _)))) rfl rfl rfl rfl rfl ?_ | refine OWp.load (List.Mem.tail _ (List.Mem.tail _ (List.Mem.tail _ (List.Mem.tail _ (List.Mem.head _))))) rfl rfl rfl rfl rfl ?_ | refine OWp.load (List.Mem.tail _ (List.Mem.tail _ (List.Mem.tail _ (List.Mem.tail _ (List.Mem.tail _ (List.Mem.head _)))))) rfl rfl rfl rfl rfl ?_
    first | refine OWp.load (List.Mem.head _) rfl rfl rfl rfl rfl ?_ | refine OWp.load (List.Mem.tail _ (List.Mem.head _)) rfl rfl rfl rfl rfl ?_ | refine OWp.load (List.Mem.tail _ (List.Mem.tail _ (List.Mem.head _))) rfl rfl rfl rfl rfl ?_ | refine OWp.load (List.Mem.tail _ (List.Mem.tail _ (List.Mem.tail _ (List.Mem.head _)))) rfl rfl rfl rfl rfl ?_ | refine OWp.load (List.Mem.tail _ (List.Mem.tail _ (List.Mem.tail _ (List.Mem.tail _ (List.Mem.head _))))) rfl rfl rfl rfl rfl ?_ | refine OWp.load (List.Mem.tail _ (List.Mem.tail _ (List.Mem.tail _ (List.Mem.tail _ (List.Mem.tail _ (List.Mem.head _)))))) rfl rfl rfl rfl rfl ?_
    refine OWp.g rfl rfl (Gives.neqStruct (r := eqHop x ⟨x.kind, 0, 0, 0, []⟩) 10 rfl rfl rfl rfl hopG (by rfl)) ?_
    refine OWp.evs 1 rfl ?_
    refine OWp.nil ?_
    refine Wp.cond rfl (fun h5 => ?_) (fun h5 => ?_)
    · skip
      refine Wp.drop (S' := S) subl ?_
      refine Wp.seq (Wp.region ?_)
      refine OWp.evs 1 rfl ?_
      refine OWp.nil ?_
      refine Wp.ret ⟨trivial, _, ⟨_, _, rfl, rfl, rfl⟩, ?_⟩
      refine hno fun hp => ?_
      have : eqHop x ⟨x.kind, 0, 0, 0, []⟩ = true := eqHop_iff.2 (Hop.ext rfl (by show x.node = 0; omega) (by show x.user = 0; omega) (by show x.delay = 0; omega) (nil_len.2 (by omega)))
      rw [this] at h5
      cases h5
    refine Wp.skip ?_
    refine Wp.drop (S' := S) subl ?_
    refine Wp.seq (Wp.region ?_)
    refine OWp.evs 1 rfl ?_
    refine OWp.nil ?_
    refine Wp.ret ⟨trivial, _, ⟨_, _, rfl, rfl, rfl⟩, ?_⟩
    have : eqHop x ⟨x.kind, 0, 0, 0, []⟩ = true := by simpa using h5
    have := eqHop_iff.1 this
    have e3 := congrArg Hop.node this
    have e4 := congrArg Hop.user this
    have e5 := congrArg Hop.delay this
    have e6 := nil_len.1 (congrArg Hop.id this)
    simp only at e3 e4 e5
    exact hyes (by omega)
  have h1d := of_decide_eq_false h1d
  refine Wp.drop (S' := S) subl ?_
  refine Wp.seq (Wp.region ?_)
  refine OWp.evs 1 rfl ?_
  refine OWp.nil ?_
  refine Wp.ret ⟨trivial, _, ⟨_, _, rfl, rfl, rfl⟩, ?_⟩
  exact hno (by omega)
end
end Go.Proofs.C

namespace Go.Proofs.C
open Go.Lg
set_option maxRecDepth 100000

def u8 (z : Int) : UInt8 := UInt8.ofNat (z % 256).toNat
theorem u8_wrap (z : Int) : IntKind.u8.wrap z = ((u8 z).toNat : Int) := by
  unfold u8
  rw [IntKind.wrap_u8, UInt8.toNat_ofNat']
  omega
theorem u8_nat {z : Int} (h0 : 0 ≤ z) (h1 : z < 256) : ((u8 z).toNat : Int) = z := by
  rw [← u8_wrap, IntKind.wrap_u8]; omega
theorem u8_mod (z : Int) : u8 (z % 256) = u8 z := by unfold u8; rw [Int.emod_emod_of_dvd _ (Int.dvd_refl 256)]
/-- A command's bytes. -/
def hopB (x : Hop) : List UInt8 := u8 x.kind :: u8 (x.node + x.user) :: u8 (x.delay / 256) :: u8 x.delay :: (x.id ++ List.replicate (20 - x.id.length) 0)
theorem hopB_len {x : Hop} (h : hopP x) : (hopB x).length = 24 := by
  unfold hopP at h
  simp only [hopB, List.length_cons, List.length_append, List.length_replicate]
  omega

theorem byteCells_append (a b : List UInt8) : byteCells (a ++ b) = byteCells a ++ byteCells b := by simp [byteCells]
theorem id_put {a b c d : UInt8} {id : List UInt8} : wr (byteCells (a :: b :: c :: d :: List.replicate 20 0)) 4 (byteCells id) = byteCells (a :: b :: c :: d :: (id ++ List.replicate (20 - id.length) 0)) := by
  have e : (List.replicate 20 (0 : UInt8)).drop id.length = List.replicate (20 - id.length) 0 := by rw [List.drop_replicate]
  unfold wr
  rw [byteCells_length]
  simp only [byteCells, ← List.map_take, ← List.map_drop, ← List.map_append]
  congr 1
  rw [show 4 + id.length = id.length + 4 by omega]
  show [a, b, c, d] ++ id ++ (List.replicate 20 (0 : UInt8)).drop id.length = _
  rw [e]
  simp

section
variable {B : Nat} {S R : Ents} {Q : Value → Ents → Prop}

theorem encode_no {x : Hop} (hp : ¬ hopP x) (h : Q (.tuple #[.string (str []), .int .i64 70]) S) : CallWp Tryz.prog B 28 #[.agg x.cells.toArray] Q S := by
  refine CallWp.enter (args := [_]) Tryz.func28 rfl Tryz.ntmps28 rfl ?_
  refine Wp.seq (Wp.region ?_)
  refine OWp.step rfl (Step.box rfl rfl rfl ?_); intro L1 hBL1 hLL1
  refine OWp.evs 2 rfl ?_
  refine OWp.nil ?_
  refine Wp.seq ?_
  refine Wp.seq (Wp.region ?_)
  first | refine OWp.load (List.Mem.head _) rfl rfl rfl rfl rfl ?_ | refine OWp.load (List.Mem.tail _ (List.Mem.head _)) rfl rfl rfl rfl rfl ?_ | refine OWp.load (List.Mem.tail _ (List.Mem.tail _ (List.Mem.head _))) rfl rfl rfl rfl rfl ?_ | refine OWp.load (List.Mem.tail _ (List.Mem.tail _ (List.Mem.tail _ (List.Mem.head _)))) rfl rfl rfl rfl rfl ?_ | refine OWp.load (List.Mem.tail _ (List.Mem.tail _ (List.Mem.tail _ (List.Mem.tail _ (List.Mem.head _))))) rfl rfl rfl rfl rfl ?_ | refine OWp.load (List.Mem.tail _ (List.Mem.tail _ (List.Mem.tail _ (List.Mem.tail _ (List.Mem.tail _ (List.Mem.head _)))))) rfl rfl rfl rfl rfl ?_
  refine OWp.step rfl (Step.call rfl rfl rfl rfl rfl rfl ((checkC (x := x) ?_)))
  rw [hopE_no hp]
  refine OWp.evs 1 rfl ?_
  refine OWp.nil ?_
  refine Wp.seq (Wp.region ?_)
  refine OWp.evs 2 rfl ?_
  refine OWp.nil ?_
  refine Wp.cond rfl (fun _ => ?_) (fun c => nomatch c)
  refine Wp.drop (S' := S) subl ?_
  refine Wp.seq (Wp.region ?_)
  refine OWp.evs 3 rfl ?_
  refine OWp.nil ?_
  refine Wp.ret ⟨trivial, _, ⟨_, _, rfl, rfl, _, _, rfl, rfl, rfl⟩, ?_⟩
  exact h
theorem encode_yes {x : Hop} (hp : hopP x) (h : Q (.tuple #[.string (str (hopB x)), .int .i64 0]) S) : CallWp Tryz.prog B 28 #[.agg x.cells.toArray] Q S := by
  have hid : x.id.length ≤ 20 := by unfold hopP at hp; omega
  have hmx : (if x.user > x.node then x.user else x.node) = x.node + x.user := by unfold hopP at hp; split <;> omega
  have e8 : (2 : Int) ^ (min 8 IntKind.i64.bits) = 256 := by decide
  have hd : x.delay.fdiv (2 ^ (min 8 IntKind.i64.bits)) = x.delay / 256 := by rw [e8]; exact Int.fdiv_eq_ediv_of_nonneg _ (by omega)
  refine CallWp.enter (args := [_]) Tryz.func28 rfl Tryz.ntmps28 rfl ?_
  refine Wp.seq (Wp.region ?_)
  refine OWp.step rfl (Step.box rfl rfl rfl ?_); intro L1 hBL1 hLL1
  refine OWp.evs 2 rfl ?_
  refine OWp.nil ?_
  refine Wp.seq ?_
  refine Wp.seq (Wp.region ?_)
  first | refine OWp.load (List.Mem.head _) rfl rfl rfl rfl rfl ?_ | refine OWp.load (List.Mem.tail _ (List.Mem.head _)) rfl rfl rfl rfl rfl ?_ | refine OWp.load (List.Mem.tail _ (List.Mem.tail _ (List.Mem.head _))) rfl rfl rfl rfl rfl ?_ | refine OWp.load (List.Mem.tail _ (List.Mem.tail _ (List.Mem.tail _ (List.Mem.head _)))) rfl rfl rfl rfl rfl ?_ | refine OWp.load (List.Mem.tail _ (List.Mem.tail _ (List.Mem.tail _ (List.Mem.tail _ (List.Mem.head _))))) rfl rfl rfl rfl rfl ?_ | refine OWp.load (List.Mem.tail _ (List.Mem.tail _ (List.Mem.tail _ (List.Mem.tail _ (List.Mem.tail _ (List.Mem.head _)))))) rfl rfl rfl rfl rfl ?_
  refine OWp.step rfl (Step.call rfl rfl rfl rfl rfl rfl ((checkC (x := x) ?_)))
  rw [hopE_yes hp]
  refine OWp.evs 1 rfl ?_
  refine OWp.nil ?_
  refine Wp.seq (Wp.region ?_)
  refine OWp.evs 2 rfl ?_
  refine OWp.nil ?_
  refine Wp.cond rfl (fun c => nomatch c) (fun _ => ?_)
  refine Wp.skip ?_
  refine Wp.seq (Wp.region ?_)
  refine OWp.step rfl (Step.alloc rfl rfl rfl ?_); intro L5 hBL5 hLL5
  refine OWp.nil ?_
  refine Wp.seq (Wp.regionDraw [0, 1, 2, 3, 4, 5, 6, 7, 8, 9, 10, 11, 12, 13, 14, 15] [11, 13, 15] rfl (by decide +kernel) ?_)
  refine DWp.evs 1 rfl ?_
  first | refine DWp.load (List.Mem.head _) rfl rfl rfl rfl rfl rfl rfl ?_ | refine DWp.load (List.Mem.tail _ (List.Mem.head _)) rfl rfl rfl rfl rfl rfl rfl ?_ | refine DWp.load (List.Mem.tail _ (List.Mem.tail _ (List.Mem.head _))) rfl rfl rfl rfl rfl rfl rfl ?_ | refine DWp.load (List.Mem.tail _ (List.Mem.tail _ (List.Mem.tail _ (List.Mem.head _)))) rfl rfl rfl rfl rfl rfl rfl ?_ | refine DWp.load (List.Mem.tail _ (List.Mem.tail _ (List.Mem.tail _ (List.Mem.tail _ (List.Mem.head _))))) rfl rfl rfl rfl rfl rfl rfl ?_ | refine DWp.load (List.Mem.tail _ (List.Mem.tail _ (List.Mem.tail _ (List.Mem.tail _ (List.Mem.tail _ (List.Mem.head _)))))) rfl rfl rfl rfl rfl rfl rfl ?_
  refine DWp.evs 2 rfl ?_
  first | refine DWp.load (List.Mem.head _) rfl rfl rfl rfl rfl rfl rfl ?_ | refine DWp.load (List.Mem.tail _ (List.Mem.head _)) rfl rfl rfl rfl rfl rfl rfl ?_ | refine DWp.load (List.Mem.tail _ (List.Mem.tail _ (List.Mem.head _))) rfl rfl rfl rfl rfl rfl rfl ?_ | refine DWp.load (List.Mem.tail _ (List.Mem.tail _ (List.Mem.tail _ (List.Mem.head _)))) rfl rfl rfl rfl rfl rfl rfl ?_ | refine DWp.load (List.Mem.tail _ (List.Mem.tail _ (List.Mem.tail _ (List.Mem.tail _ (List.Mem.head _))))) rfl rfl rfl rfl rfl rfl rfl ?_ | refine DWp.load (List.Mem.tail _ (List.Mem.tail _ (List.Mem.tail _ (List.Mem.tail _ (List.Mem.tail _ (List.Mem.head _)))))) rfl rfl rfl rfl rfl rfl rfl ?_
  refine DWp.evs 3 rfl ?_
  first | refine DWp.load (List.Mem.head _) rfl rfl rfl rfl rfl rfl rfl ?_ | refine DWp.load (List.Mem.tail _ (List.Mem.head _)) rfl rfl rfl rfl rfl rfl rfl ?_ | refine DWp.load (List.Mem.tail _ (List.Mem.tail _ (List.Mem.head _))) rfl rfl rfl rfl rfl rfl rfl ?_ | refine DWp.load (List.Mem.tail _ (List.Mem.tail _ (List.Mem.tail _ (List.Mem.head _)))) rfl rfl rfl rfl rfl rfl rfl ?_ | refine DWp.load (List.Mem.tail _ (List.Mem.tail _ (List.Mem.tail _ (List.Mem.tail _ (List.Mem.head _))))) rfl rfl rfl rfl rfl rfl rfl ?_ | refine DWp.load (List.Mem.tail _ (List.Mem.tail _ (List.Mem.tail _ (List.Mem.tail _ (List.Mem.tail _ (List.Mem.head _)))))) rfl rfl rfl rfl rfl rfl rfl ?_
  refine DWp.evs 1 rfl ?_
  refine DWp.g rfl rfl rfl rfl (Gives.indexAddrArr (0) rfl rfl rfl rfl rfl rfl (by decide)) ?_
  refine DWp.step rfl rfl rfl (Step.storeAs 0 (byteCells (u8 x.kind :: 0 :: 0 :: 0 :: List.replicate 20 0)) rfl rfl rfl rfl rfl (by assumption) rfl (Unfz.zero _) rfl (Nat.le_of_ble_eq_true rfl) (by rw [u8_wrap]; rfl) rfl ?_)
  refine prs ?_
  refine DWp.g rfl rfl rfl rfl (Gives.indexAddrArr (2) rfl rfl rfl rfl rfl rfl (by decide)) ?_
  refine DWp.step rfl rfl rfl (Step.storeAs 0 (byteCells (u8 x.kind :: 0 :: u8 (x.delay / 256) :: 0 :: List.replicate 20 0)) rfl rfl rfl rfl rfl (by assumption) rfl (Unfz.zero _) rfl (Nat.le_of_ble_eq_true rfl) (by rw [hd, u8_wrap]; rfl) rfl ?_)
  refine prs ?_
  refine DWp.g rfl rfl rfl rfl (Gives.indexAddrArr (3) rfl rfl rfl rfl rfl rfl (by decide)) ?_
  refine DWp.stepAll rfl rfl rfl rfl (Step.storeAs 0 (byteCells (u8 x.kind :: 0 :: u8 (x.delay / 256) :: u8 x.delay :: List.replicate 20 0)) rfl rfl rfl rfl rfl (by assumption) rfl (Unfz.zero _) rfl (Nat.le_of_ble_eq_true rfl) (by rw [u8_wrap]; rfl) rfl ?_)
  refine DWp.nil ?_
  refine Wp.seq (Wp.region ?_)
  refine OWp.evs 1 rfl ?_
  first | refine OWp.load (List.Mem.head _) rfl rfl rfl rfl rfl ?_ | refine OWp.load (List.Mem.tail _ (List.Mem.head _)) rfl rfl rfl rfl rfl ?_ | refine OWp.load (List.Mem.tail _ (List.Mem.tail _ (List.Mem.head _))) rfl rfl rfl rfl rfl ?_ | refine OWp.load (List.Mem.tail _ (List.Mem.tail _ (List.Mem.tail _ (List.Mem.head _)))) rfl rfl rfl rfl rfl ?_ | refine OWp.load (List.Mem.tail _ (List.Mem.tail _ (List.Mem.tail _ (List.Mem.tail _ (List.Mem.head _))))) rfl rfl rfl rfl rfl ?_ | refine OWp.load (List.Mem.tail _ (List.Mem.tail _ (List.Mem.tail _ (List.Mem.tail _ (List.Mem.tail _ (List.Mem.head _)))))) rfl rfl rfl rfl rfl ?_
  refine OWp.evs 1 rfl ?_
  first | refine OWp.load (List.Mem.head _) rfl rfl rfl rfl rfl ?_ | refine OWp.load (List.Mem.tail _ (List.Mem.head _)) rfl rfl rfl rfl rfl ?_ | refine OWp.load (List.Mem.tail _ (List.Mem.tail _ (List.Mem.head _))) rfl rfl rfl rfl rfl ?_ | refine OWp.load (List.Mem.tail _ (List.Mem.tail _ (List.Mem.tail _ (List.Mem.head _)))) rfl rfl rfl rfl rfl ?_ | refine OWp.load (List.Mem.tail _ (List.Mem.tail _ (List.Mem.tail _ (List.Mem.tail _ (List.Mem.head _))))) rfl rfl rfl rfl rfl ?_ | refine OWp.load (List.Mem.tail _ (List.Mem.tail _ (List.Mem.tail _ (List.Mem.tail _ (List.Mem.tail _ (List.Mem.head _)))))) rfl rfl rfl rfl rfl ?_
  refine OWp.evs 2 rfl ?_
  refine OWp.g rfl rfl (Gives.indexAddrArr (1) rfl rfl rfl rfl rfl rfl (by decide)) ?_
  refine OWp.step rfl (Step.storeAs 0 (byteCells (u8 x.kind :: u8 (x.node + x.user) :: u8 (x.delay / 256) :: u8 x.delay :: List.replicate 20 0)) rfl rfl rfl rfl rfl (by assumption) rfl (Unfz.zero _) rfl (Nat.le_of_ble_eq_true rfl) (by rw [hmx, u8_wrap]; rfl) rfl ?_)
  refine OWp.nil ?_
  refine Wp.seq (Wp.regionDraw [0, 1, 2, 3] [3] rfl (by decide +kernel) ?_)
  refine DWp.g rfl rfl rfl rfl (Gives.sliceArr (l := 4) (h' := 24) rfl rfl rfl rfl ⟨_, _, rfl, rfl⟩ rfl (by omega) (by omega) (by omega)) ?_
  refine DWp.evs 1 rfl ?_
  first | refine DWp.load (List.Mem.head _) rfl rfl rfl rfl rfl rfl rfl ?_ | refine DWp.load (List.Mem.tail _ (List.Mem.head _)) rfl rfl rfl rfl rfl rfl rfl ?_ | refine DWp.load (List.Mem.tail _ (List.Mem.tail _ (List.Mem.head _))) rfl rfl rfl rfl rfl rfl rfl ?_ | refine DWp.load (List.Mem.tail _ (List.Mem.tail _ (List.Mem.tail _ (List.Mem.head _)))) rfl rfl rfl rfl rfl rfl rfl ?_ | refine DWp.load (List.Mem.tail _ (List.Mem.tail _ (List.Mem.tail _ (List.Mem.tail _ (List.Mem.head _))))) rfl rfl rfl rfl rfl rfl rfl ?_ | refine DWp.load (List.Mem.tail _ (List.Mem.tail _ (List.Mem.tail _ (List.Mem.tail _ (List.Mem.tail _ (List.Mem.head _)))))) rfl rfl rfl rfl rfl rfl rfl ?_
  refine DWp.stepAll rfl rfl rfl rfl (Step.copyStr 0 (byteCells (hopB x)) rfl rfl rfl rfl rfl rfl rfl (by assumption) (Unfz.zero _) (by show 0 + 4 * 1 + min x.id.length 20 ≤ 24; omega) (by show wr _ (0 + 4 * 1) (byteCells (x.id.take (min x.id.length 20))) = _; rw [List.take_of_length_le (by omega)]; exact id_put) rfl ?_)
  refine DWp.nil ?_
  refine Wp.seq (Wp.region ?_)
  refine OWp.g rfl rfl (Gives.sliceArr (l := 0) (h' := 24) rfl rfl rfl rfl rfl rfl (by omega) (by omega) (by omega)) ?_
  refine OWp.gives rfl rfl (Gives.bytesToStr (F := (L5, cel (byteCells (hopB x)) 91) :: (L1, cel x.cells 32) :: S) (l := hopB x) (k := 24) rfl rfl rfl rfl rfl (by have := Reads.row (S := (L5, cel (byteCells (hopB x)) 91) :: (L1, cel x.cells 32) :: S) (sz := 1) (k := 24) (cap := 24) (.head _) (by rw [byteCells_length, hopB_len hp]; decide); rw [List.take_of_length_le (by rw [byteCells_length, hopB_len hp]; decide)] at this; exact this)) (fun _ h => h) ?_
  refine OWp.evs 2 rfl ?_
  refine OWp.nil ?_
  refine Wp.drop (S' := S) subl ?_
  refine Wp.ret ⟨trivial, _, ⟨_, _, rfl, rfl, _, _, rfl, rfl, rfl⟩, ?_⟩
  exact h
end
end Go.Proofs.C
