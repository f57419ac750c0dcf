/- What functions of the given program do, one after the other, told by that layer. -/
import Derived.Test.YtfimmdafjalonaaDoorBRef6
namespace Go.Proofs.D
open Go.Lg Go.Sha
set_option maxRecDepth 100000

def i64s (l : List Nat) : List Value := l.map fun (x : Nat) => .int .i64 (x : Int)
theorem i64s_length (l : List Nat) : (i64s l).length = l.length := by simp [i64s]
theorem i64s_get {l : List Nat} {i : Nat} (h : i < l.length) : (i64s l)[i]? = some (.int .i64 (l[i] : Nat)) := by simp [i64s, h]
theorem quo_byte (n : Nat) (h : n ≤ 281474976710656) : IntKind.u8.wrap (IntKind.i64.wrap (((n : Nat) : Int).tdiv 256)) = ((UInt8.ofNat (n / 256)).toNat : Int) := by
  rw [Int.tdiv_eq_ediv_of_nonneg (by omega), i64_id (by omega) (by omega), ← u8_lo]; rfl
theorem rem_byte (n : Nat) : IntKind.u8.wrap (((n : Nat) : Int).tmod 256) = ((UInt8.ofNat n).toNat : Int) := by
  rw [Int.tmod_eq_emod_of_nonneg (by omega), IntKind.wrap_u8, UInt8.toNat_ofNat']; omega
def mayR (n : Int) : Nat := if n < 64 then 3 else if 8192 < n then 2 else 0
theorem byte_ne {a : UInt8} (h : ¬ (a.toNat : Int) = 0) : a ≠ 0 := fun e => h (by rw [e]; rfl)
theorem byte_eq {a : UInt8} (h : (a.toNat : Int) = 0) : a = 0 := by
  apply UInt8.toNat.inj
  show a.toNat = 0
  omega
theorem all_range {l : List UInt8} {n : Nat} (hn : n ≤ l.length) (h : ∀ i, i < n → l.getD i 0 = 0) : (l.take n).all (· == 0) = true := by
  rw [List.all_eq_true]
  intro x hx
  obtain ⟨i, hi, rfl⟩ := List.mem_iff_getElem.1 hx
  rw [List.length_take] at hi
  have := h i (by omega)
  rw [List.getD_eq_getElem?_getD, List.getElem?_eq_getElem (by omega)] at this
  rw [List.getElem_take]
  simpa using this
theorem not_all {l : List UInt8} {i n : Nat} (hi : i < n) (hn : n ≤ l.length) (h : l.getD i 0 ≠ 0) : ¬ (l.take n).all (· == 0) = true := by
  intro ha
  have hm : l.getD i 0 ∈ l.take n := by
    rw [List.getD_eq_getElem?_getD, List.getElem?_eq_getElem (by omega)]
    exact List.mem_iff_getElem.2 ⟨i, by rw [List.length_take]; omega, by rw [List.getElem_take]; rfl⟩
  have := List.all_eq_true.1 ha _ hm
  exact h (by simpa using this)
theorem all_drop {l : List UInt8} {k : Nat} (h : ∀ i, k ≤ i → i < l.length → l.getD i 0 = 0) : (l.drop k).all (· == 0) = true := by
  rw [List.all_eq_true]
  intro x hx
  obtain ⟨i, hi, rfl⟩ := List.mem_iff_getElem.1 hx
  rw [List.length_drop] at hi
  have := h (k + i) (by omega) (by omega)
  rw [List.getD_eq_getElem?_getD, List.getElem?_eq_getElem (by omega)] at this
  rw [List.getElem_drop]
  simpa using this
theorem not_drop {l : List UInt8} {i k : Nat} (hk : k ≤ i) (hi : i < l.length) (h : l.getD i 0 ≠ 0) : ¬ (l.drop k).all (· == 0) = true := by
  intro ha
  have hm : l.getD i 0 ∈ l.drop k := by
    rw [List.getD_eq_getElem?_getD, List.getElem?_eq_getElem hi]
    exact List.mem_iff_getElem.2 ⟨i - k, by rw [List.length_drop]; omega, by rw [List.getElem_drop]; simp only [Option.getD_some]; congr 1; omega⟩
  have := List.all_eq_true.1 ha _ hm
  exact h (by simpa using this)

section
variable {B : Nat} {S R : Ents} {Q : Value → Ents → Prop}

theorem rmayC {n : Int} (H : Q (.int .i64 (mayR n : Nat)) S) : CallWp Tryd.prog B 37 #[.int .i64 n] Q S := by
  by_cases c1 : n < 64
  · have e : mayR n = 3 := by unfold mayR; rw [if_pos c1]
    rw [e] at H
    refine CallWp.enter (args := [_]) Tryd.func37 rfl Tryd.ntmps37 rfl ?_
    refine Wp.seq (Wp.region ?_)
    refine OWp.evs 1 rfl ?_
    refine OWp.nil ?_
    refine Wp.seq ?_
    refine Wp.seq (Wp.region ?_)
    refine OWp.evs 2 rfl ?_
    refine OWp.nil ?_
    refine Wp.cond rfl (fun cc1 => ?_) (fun cc1 => absurd (of_decide_eq_false cc1) (by omega))
    have cc1 := of_decide_eq_true cc1
    refine Wp.seq (Wp.region ?_)
    refine OWp.evs 1 rfl ?_
    refine OWp.nil ?_
    refine Wp.ret ⟨trivial, _, ⟨_, _, rfl, rfl, rfl⟩, ?_⟩
    exact H
  by_cases c2 : 8192 < n
  · have e : mayR n = 2 := by unfold mayR; rw [if_neg c1, if_pos c2]
    rw [e] at H
    refine CallWp.enter (args := [_]) Tryd.func37 rfl Tryd.ntmps37 rfl ?_
    refine Wp.seq (Wp.region ?_)
    refine OWp.evs 1 rfl ?_
    refine OWp.nil ?_
    refine Wp.seq ?_
    refine Wp.seq (Wp.region ?_)
    refine OWp.evs 2 rfl ?_
    refine OWp.nil ?_
    refine Wp.cond rfl (fun cc1 => absurd (of_decide_eq_true cc1) (by omega)) (fun cc1 => ?_)
    have cc1 := of_decide_eq_false cc1
    refine Wp.skip ?_
    refine Wp.seq ?_
    refine Wp.seq (Wp.region ?_)
    refine OWp.evs 2 rfl ?_
    refine OWp.nil ?_
    refine Wp.cond rfl (fun cc2 => ?_) (fun cc2 => absurd (of_decide_eq_false cc2) (by omega))
    have cc2 := of_decide_eq_true cc2
    refine Wp.seq (Wp.region ?_)
    refine OWp.evs 1 rfl ?_
    refine OWp.nil ?_
    refine Wp.ret ⟨trivial, _, ⟨_, _, rfl, rfl, rfl⟩, ?_⟩
    exact H
  have e : mayR n = 0 := by unfold mayR; rw [if_neg c1, if_neg c2]
  rw [e] at H
  refine CallWp.enter (args := [_]) Tryd.func37 rfl Tryd.ntmps37 rfl ?_
  refine Wp.seq (Wp.region ?_)
  refine OWp.evs 1 rfl ?_
  refine OWp.nil ?_
  refine Wp.seq ?_
  refine Wp.seq (Wp.region ?_)
  refine OWp.evs 2 rfl ?_
  refine OWp.nil ?_
  refine Wp.cond rfl (fun cc1 => absurd (of_decide_eq_true cc1) (by omega)) (fun cc1 => ?_)
  have cc1 := of_decide_eq_false cc1
  refine Wp.skip ?_
  refine Wp.seq ?_
  refine Wp.seq (Wp.region ?_)
  refine OWp.evs 2 rfl ?_
  refine OWp.nil ?_
  refine Wp.cond rfl (fun cc2 => absurd (of_decide_eq_true cc2) (by omega)) (fun cc2 => ?_)
  have cc2 := of_decide_eq_false cc2
  refine Wp.skip ?_
  refine Wp.seq (Wp.region ?_)
  refine OWp.evs 1 rfl ?_
  refine OWp.nil ?_
  refine Wp.ret ⟨trivial, _, ⟨_, _, rfl, rfl, rfl⟩, ?_⟩
  exact H
theorem rwithEqC {a b b' : List UInt8} (hbb : b' = b) (hl : a.length ≤ b.length) (ha : a.length ≤ 100000) (H : Q (.string (str (xors a b))) S) :
    CallWp Tryd.prog B 62 #[.string (str a), .string (str b')] Q S := by
  subst hbb; exact rwithC hl ha H

set_option maxHeartbeats 2000000 in
theorem rturnedC {key block : List UInt8} {v : Value} {l : List Nat} (hl : Reads S 1 v l.length (i64s l)) (h4 : ∀ i ∈ l, i < 4) (hll : l.length ≤ 1000) (hk : key.length + 2000 ≤ big) (h1 : 64 ≤ block.length) (h2 : block.length ≤ 8192) (H : Q (.string (str (whole (l.foldl (wstep key) (halves block))))) S) :
    CallWp Tryd.prog B 38 #[.string (str key), .string (str block), v] Q S := by
  have hb : big = 281474976710656 := rfl
  obtain ⟨va, vc, rfl⟩ := hl.form
  obtain ⟨dk, hdk⟩ : ∃ dk, dk = derive key wlabel 128 := ⟨_, rfl⟩
  have hdl : dk.length = 128 := by rw [hdk]; exact expand_len _ _ _
  have x0 := halves_halved (b := block) (by omega)
  refine CallWp.dropRet ?_
  refine CallWp.enter (args := [_, _, _]) Tryd.func38 rfl Tryd.ntmps38 rfl ?_
  refine Wp.seq (Wp.region ?_)
  refine OWp.evs 1 rfl ?_
  refine OWp.nil ?_
  refine Wp.seq (Wp.region ?_)
  refine OWp.evs 1 rfl ?_
  refine OWp.step rfl (Step.call rfl rfl rfl rfl rfl rfl ((rkeyC (label := wlabel) (n := 128) (by decide) hk (by rw [hb]; decide) ?_)))
  rw [← hdk]
  refine OWp.evs 1 rfl ?_
  refine OWp.nil ?_
  refine Wp.seq (Wp.regionDraw [0, 1, 2, 3, 4, 5] [] rfl (by decide +kernel) ?_)
  refine DWp.evs 1 rfl ?_
  refine DWp.g rfl rfl rfl rfl (Gives.sliceStr (l := 0) (h' := 32) rfl rfl rfl rfl ⟨_, _, rfl, rfl⟩ (by omega) (by omega)) ?_
  refine DWp.evs 1 rfl ?_
  refine DWp.g rfl rfl rfl rfl (Gives.sliceStr (l := 32) (h' := block.length) rfl rfl rfl ⟨_, _, rfl, rfl⟩ rfl (by omega) (by omega)) ?_
  refine DWp.evs 2 rfl ?_
  refine DWp.nil ?_
  refine Wp.seq ?_
  refine Wp.seq (Wp.region ?_)
  refine OWp.evs 1 rfl ?_
  refine OWp.nil ?_
  refine Wp.block ?_
  refine Wp.loopS (α := Nat × Ents) (fun y => l.length - y.1) (fun y => [(2, .slice va l.length vc), (7, .string (str dk)), (8, .string (str ((l.take y.1).foldl (wstep key) (halves block)).1)), (9, .string (str ((l.take y.1).foldl (wstep key) (halves block)).2)), (10, .int .i64 (y.1 : Int))]) (fun y => y.2 ++ S) (fun y => y.1 ≤ l.length) (0, []) ?_ (.refl _) (Nat.zero_le _) ?_
  · exact .cons rfl (.cons rfl (.cons rfl (.cons' rfl (by have : (block.drop 32).take (block.length - 32) = block.drop 32 := List.take_of_length_le (by rw [List.length_drop]; exact Nat.le_refl _); rw [this]; rfl) (.cons rfl (.nil _)))))
  rintro ⟨j, es⟩ hj
  simp only at hj ⊢
  refine Wp.seq ?_
  refine Wp.seq (Wp.region ?_)
  refine OWp.evs 4 rfl ?_
  refine OWp.nil ?_
  refine Wp.cond rfl (fun h5 => ?_) (fun h5 => ?_)
  · have h5 := of_decide_eq_true h5
    have hj2 : j < l.length := by omega
    have hxj := wfold_halved (key := key) (l.take j) x0
    have hnext : (l.take (j + 1)).foldl (wstep key) (halves block) = wstep key ((l.take j).foldl (wstep key) (halves block)) l[j] := by rw [List.take_succ_eq_append_getElem hj2, List.foldl_append]; rfl
    generalize (l.take j).foldl (wstep key) (halves block) = x at hxj hnext ⊢
    obtain ⟨b1, o1, c1, l1, t1, f1, hv1, hmem, _, hg1⟩ := hl.get1 (by omega)
    cases hv1
    have gi : l1[o1 + j * 1]? = some (.int .i64 (l[j] : Nat)) := (hg1 j hj2).trans (i64s_get hj2)
    have hs4 := h4 l[j] (List.getElem_mem hj2)
    generalize l[j] = s at gi hs4 hnext
    have e32 : IntKind.i64.wrap (32 * (s : Int)) = ((32 * s : Nat) : Int) := by rw [i64_id] <;> omega
    have hkl := wkey_len key hs4
    have hwk : (dk.drop (32 * s)).take (32 * s + 32 - 32 * s) = wkey key s := by rw [Nat.add_sub_cancel_left, hdk]; rfl
    have hl1' := hxj.1
    have hl2' := hxj.2
    refine Wp.skip ?_
    refine Wp.seq ?_
    refine Wp.block ?_
    refine Wp.seq (Wp.regionDraw [0, 1, 2, 3, 4, 5, 6, 7, 8, 9, 10, 11, 12, 13] [] rfl (by decide +kernel) ?_)
    refine DWp.evs 3 rfl ?_
    refine DWp.g rfl rfl rfl rfl (Gives.indexAddrSlice (j) rfl rfl rfl rfl rfl rfl (by omega)) ?_
    refine DWp.load (List.mem_append_right _ hmem) rfl rfl rfl rfl rfl rfl gi ?_
    refine DWp.evs 3 rfl ?_
    refine DWp.g rfl rfl rfl rfl (Gives.indexAddrSlice (j) rfl rfl rfl rfl rfl rfl (by omega)) ?_
    refine DWp.load (List.mem_append_right _ hmem) rfl rfl rfl rfl rfl rfl gi ?_
    refine DWp.evs 2 rfl ?_
    refine DWp.g rfl rfl rfl rfl (Gives.sliceStr (l := (32 * s)) (h' := (32 * s + 32)) rfl rfl rfl ⟨_, _, rfl, e32⟩ ⟨_, _, rfl, by rw [e32, i64_id] <;> omega⟩ (by omega) (by omega)) ?_
    rw [hwk]
    refine DWp.evs 1 rfl ?_
    refine DWp.nil ?_
    refine Wp.seq (Wp.region ?_)
    refine OWp.evs 2 rfl ?_
    refine OWp.g rfl rfl (Gives.indexAddrSlice (j) rfl rfl rfl rfl rfl rfl (by omega)) ?_
    refine OWp.load (List.mem_append_right _ hmem) rfl rfl rfl rfl gi ?_
    refine OWp.evs 2 rfl ?_
    refine OWp.nil ?_
    refine Wp.cond rfl (fun h6 => ?_) (fun h6 => ?_)
    · have h6 := of_decide_eq_true h6
      have hev : s % 2 = 0 := by
        have h7 : ((s : Int)).tmod 2 = 0 := h6
        rw [Int.tmod_eq_emod_of_nonneg (by omega)] at h7; omega
      have hw : wstep key x s = (x.1, xors x.2 (stream (xors x.1 (wkey key s)) zeros12 0 x.2.length)) := by unfold wstep wflow; rw [if_pos hev, xors_comm x.1]
      refine Wp.regionDraw [0, 1, 2, 6, 7, 11, 11, 11, 11, 11, 11] [3, 4, 8, 9] rfl (by decide +kernel) ?_
      refine DWp.evs 5 rfl ?_
      refine DWp.fork (i := 3) (j := 4) (r1 := [4, 5, 8, 9, 10]) (r2 := [5, 3, 8, 9, 10]) (by decide +kernel) rfl rfl rfl rfl (by decide +kernel) (by decide +kernel) rfl rfl ?_ ?_
      · skip
        refine (Step.call rfl rfl rfl rfl rfl rfl ((rwithC (a := x.1) (b := wkey key s) (by omega) (by omega) ?_)))
        refine ⟨fun _ hy => hy, ?_⟩
        refine DWp.stepAll rfl rfl rfl rfl (Step.makeSlice (len := 12) (cap := 12) rfl rfl rfl rfl rfl rfl (by decide) rfl rfl (Nat.le_refl _) (by decide) (by decide) ?_)
        intro Lz hBz _
        refine DWp.gives rfl rfl rfl rfl (Gives.bytesToStr (F := [(Lz, cel (zeros (cellsOf (Value.int .u8 0)) 12) 5)]) (l := zeros12) (k := 12) rfl rfl rfl rfl rfl (bc_reads (x := zeros12) rfl (.head _))) (mem1 (.head _)) ?_
        refine DWp.stepGrow rfl rfl rfl (Step.call rfl rfl rfl rfl rfl rfl ((rstreamC (nonce := zeros12) (n := x.2.length) (by rw [xors_len (by omega)]; exact hl1') rfl (by omega) (by omega) ?_)))
        refine ⟨fun _ hy => hy, ?_⟩
        refine DWp.stepGrow rfl rfl rfl (Step.call rfl rfl rfl rfl rfl rfl ((rwithC (a := x.2) (by rw [stream_len]; omega) (by omega) ?_)))
        refine ⟨fun _ hy => hy, ?_⟩
        refine DWp.evs 1 rfl ?_
        refine DWp.nil ?_
        refine Wp.region ?_
        refine OWp.evs 3 rfl ?_
        refine OWp.nil ?_
        exact ⟨(j + 1, _ :: es), by simp only; omega, by simp only; omega, .cons rfl (.cons rfl (.cons' rfl (by simp only; rw [hnext, hw]) (.cons' rfl (by simp only; rw [hnext, hw]) (.cons' rfl (int_eq (i64_inc (by omega))) (.nil _))))), .refl _⟩
      refine (Step.makeSlice (len := 12) (cap := 12) rfl rfl rfl rfl rfl rfl (by decide) rfl rfl (Nat.le_refl _) (by decide) (by decide) ?_)
      intro Lz hBz _
      refine ⟨fun _ hy => .tail _ hy, ?_⟩
      refine DWp.gives rfl rfl rfl rfl (Gives.bytesToStr (F := [(Lz, cel (zeros (cellsOf (Value.int .u8 0)) 12) 5)]) (l := zeros12) (k := 12) rfl rfl rfl rfl rfl (bc_reads (x := zeros12) rfl (.head _))) (mem1 (.head _)) ?_
      refine DWp.stepGrow rfl rfl rfl (Step.call rfl rfl rfl rfl rfl rfl ((rwithC (a := x.1) (b := wkey key s) (by omega) (by omega) ?_)))
      refine ⟨fun _ hy => hy, ?_⟩
      refine DWp.stepGrow rfl rfl rfl (Step.call rfl rfl rfl rfl rfl rfl ((rstreamC (nonce := zeros12) (n := x.2.length) (by rw [xors_len (by omega)]; exact hl1') rfl (by omega) (by omega) ?_)))
      refine ⟨fun _ hy => hy, ?_⟩
      refine DWp.stepGrow rfl rfl rfl (Step.call rfl rfl rfl rfl rfl rfl ((rwithC (a := x.2) (by rw [stream_len]; omega) (by omega) ?_)))
      refine ⟨fun _ hy => hy, ?_⟩
      refine DWp.evs 1 rfl ?_
      refine DWp.nil ?_
      refine Wp.region ?_
      refine OWp.evs 3 rfl ?_
      refine OWp.nil ?_
      exact ⟨(j + 1, _ :: es), by simp only; omega, by simp only; omega, .cons rfl (.cons rfl (.cons' rfl (by simp only; rw [hnext, hw]) (.cons' rfl (by simp only; rw [hnext, hw]) (.cons' rfl (int_eq (i64_inc (by omega))) (.nil _))))), .refl _⟩
    have h6 := of_decide_eq_false h6
    have hodd : ¬ s % 2 = 0 := fun e => h6 (by show ((s : Int)).tmod 2 = 0; rw [Int.tmod_eq_emod_of_nonneg (by omega)]; omega)
    have hw : wstep key x s = (xors x.1 (hmac (wkey key s) x.2), x.2) := by unfold wstep wpress; rw [if_neg hodd]
    refine Wp.region ?_
    refine OWp.evs 3 rfl ?_
    refine OWp.step rfl (Step.call rfl rfl rfl rfl rfl rfl ((rtagC (by rw [hkl, hb]; decide) (by rw [hb]; omega) ?_)))
    refine OWp.step rfl (Step.call rfl rfl rfl rfl rfl rfl ((rwithC (a := x.1) (by rw [hmac_len]; omega) (by omega) ?_)))
    refine OWp.evs 1 rfl ?_
    refine OWp.nil ?_
    refine Wp.region ?_
    refine OWp.evs 3 rfl ?_
    refine OWp.nil ?_
    exact ⟨(j + 1, es), by simp only; omega, by simp only; omega, .cons rfl (.cons rfl (.cons' rfl (by simp only; rw [hnext, hw]) (.cons' rfl (by simp only; rw [hnext, hw]) (.cons' rfl (int_eq (i64_inc (by omega))) (.nil _))))), .refl _⟩
  have h5 := of_decide_eq_false h5
  obtain rfl : j = l.length := by omega
  have hxj := wfold_halved (key := key) l x0
  have hl1' := hxj.1
  have hl2' := hxj.2
  rw [List.take_length]
  refine Wp.exit ?_
  refine Wp.seq (Wp.region ?_)
  refine OWp.evs 2 rfl ?_
  refine OWp.g rfl rfl (Gives.addStr rfl rfl rfl (by omega)) ?_
  refine OWp.evs 1 rfl ?_
  refine OWp.nil ?_
  refine Wp.ret ⟨trivial, _, ⟨_, _, rfl, rfl, rfl⟩, ?_⟩
  exact ⟨S, List.sublist_append_right _ _, H⟩
theorem rshutC {key block : List UInt8} (hk : key.length + 2000 ≤ big) (H : Q (.tuple #[.string (str (blockR (wshut key) block).1), .int .i64 ((blockR (wshut key) block).2 : Nat)]) S) :
    CallWp Tryd.prog B 15 #[.string (str key), .string (str block)] Q S := by
  by_cases c1 : block.length < 64
  · have e : mayR block.length = 3 := by unfold mayR; rw [if_pos (by omega)]
    rw [blockR_short c1] at H
    refine CallWp.enter (args := [_, _]) Tryd.func15 rfl Tryd.ntmps15 rfl ?_
    refine Wp.seq (Wp.region ?_)
    refine OWp.evs 2 rfl ?_
    refine OWp.nil ?_
    refine Wp.seq ?_
    refine Wp.seq (Wp.region ?_)
    refine OWp.evs 2 rfl ?_
    refine OWp.step rfl (Step.call rfl rfl rfl rfl rfl rfl ((rmayC ?_)))
    rw [e]
    refine OWp.evs 1 rfl ?_
    refine OWp.nil ?_
    refine Wp.seq (Wp.region ?_)
    refine OWp.evs 2 rfl ?_
    refine OWp.nil ?_
    refine Wp.cond rfl (fun cc1 => ?_) (fun cc1 => absurd (ndF cc1) (by decide))
    have cc1 := ndT cc1
    refine Wp.seq (Wp.region ?_)
    refine OWp.evs 3 rfl ?_
    refine OWp.nil ?_
    refine Wp.ret ⟨trivial, _, ⟨_, _, rfl, rfl, _, _, rfl, rfl, rfl⟩, ?_⟩
    exact H
  by_cases c2 : 8192 < block.length
  · have e : mayR block.length = 2 := by unfold mayR; rw [if_neg (by omega), if_pos (by omega)]
    rw [blockR_long c2] at H
    refine CallWp.enter (args := [_, _]) Tryd.func15 rfl Tryd.ntmps15 rfl ?_
    refine Wp.seq (Wp.region ?_)
    refine OWp.evs 2 rfl ?_
    refine OWp.nil ?_
    refine Wp.seq ?_
    refine Wp.seq (Wp.region ?_)
    refine OWp.evs 2 rfl ?_
    refine OWp.step rfl (Step.call rfl rfl rfl rfl rfl rfl ((rmayC ?_)))
    rw [e]
    refine OWp.evs 1 rfl ?_
    refine OWp.nil ?_
    refine Wp.seq (Wp.region ?_)
    refine OWp.evs 2 rfl ?_
    refine OWp.nil ?_
    refine Wp.cond rfl (fun cc1 => ?_) (fun cc1 => absurd (ndF cc1) (by decide))
    have cc1 := ndT cc1
    refine Wp.seq (Wp.region ?_)
    refine OWp.evs 3 rfl ?_
    refine OWp.nil ?_
    refine Wp.ret ⟨trivial, _, ⟨_, _, rfl, rfl, _, _, rfl, rfl, rfl⟩, ?_⟩
    exact H
  have e : mayR block.length = 0 := by unfold mayR; rw [if_neg (by omega), if_neg (by omega)]
  rw [blockR_ok (by omega) (by omega), wshut_fold] at H
  refine CallWp.enter (args := [_, _]) Tryd.func15 rfl Tryd.ntmps15 rfl ?_
  refine Wp.seq (Wp.region ?_)
  refine OWp.evs 2 rfl ?_
  refine OWp.nil ?_
  refine Wp.seq ?_
  refine Wp.seq (Wp.region ?_)
  refine OWp.evs 2 rfl ?_
  refine OWp.step rfl (Step.call rfl rfl rfl rfl rfl rfl ((rmayC ?_)))
  rw [e]
  refine OWp.evs 1 rfl ?_
  refine OWp.nil ?_
  refine Wp.seq (Wp.region ?_)
  refine OWp.evs 2 rfl ?_
  refine OWp.nil ?_
  refine Wp.cond rfl (fun cc1 => absurd (ndT cc1) (by decide)) (fun cc1 => ?_)
  have cc1 := ndF cc1
  refine Wp.skip ?_
  refine Wp.seq (Wp.region ?_)
  refine OWp.evs 2 rfl ?_
  refine OWp.step rfl (Step.buildSlice rfl rfl rfl ?_); intro L hBL hLL
  refine OWp.step rfl (Step.call rfl rfl rfl rfl rfl rfl ((rturnedC (l := [0, 1, 2, 3]) (Reads.row (k := 4) (sz := 1) (.head _) (Nat.le_of_ble_eq_true rfl)) (by decide) (by decide) hk (by omega) (by omega) ?_)))
  refine OWp.evs 2 rfl ?_
  refine OWp.nil ?_
  refine Wp.dropAt 0 rfl ?_
  refine Wp.ret ⟨trivial, _, ⟨_, _, rfl, rfl, _, _, rfl, rfl, rfl⟩, ?_⟩
  exact H
theorem ropenC {key block : List UInt8} (hk : key.length + 2000 ≤ big) (H : Q (.tuple #[.string (str (blockR (wopen key) block).1), .int .i64 ((blockR (wopen key) block).2 : Nat)]) S) :
    CallWp Tryd.prog B 17 #[.string (str key), .string (str block)] Q S := by
  by_cases c1 : block.length < 64
  · have e : mayR block.length = 3 := by unfold mayR; rw [if_pos (by omega)]
    rw [blockR_short c1] at H
    refine CallWp.enter (args := [_, _]) Tryd.func17 rfl Tryd.ntmps17 rfl ?_
    refine Wp.seq (Wp.region ?_)
    refine OWp.evs 2 rfl ?_
    refine OWp.nil ?_
    refine Wp.seq ?_
    refine Wp.seq (Wp.region ?_)
    refine OWp.evs 2 rfl ?_
    refine OWp.step rfl (Step.call rfl rfl rfl rfl rfl rfl ((rmayC ?_)))
    rw [e]
    refine OWp.evs 1 rfl ?_
    refine OWp.nil ?_
    refine Wp.seq (Wp.region ?_)
    refine OWp.evs 2 rfl ?_
    refine OWp.nil ?_
    refine Wp.cond rfl (fun cc1 => ?_) (fun cc1 => absurd (ndF cc1) (by decide))
    have cc1 := ndT cc1
    refine Wp.seq (Wp.region ?_)
    refine OWp.evs 3 rfl ?_
    refine OWp.nil ?_
    refine Wp.ret ⟨trivial, _, ⟨_, _, rfl, rfl, _, _, rfl, rfl, rfl⟩, ?_⟩
    exact H
  by_cases c2 : 8192 < block.length
  · have e : mayR block.length = 2 := by unfold mayR; rw [if_neg (by omega), if_pos (by omega)]
    rw [blockR_long c2] at H
    refine CallWp.enter (args := [_, _]) Tryd.func17 rfl Tryd.ntmps17 rfl ?_
    refine Wp.seq (Wp.region ?_)
    refine OWp.evs 2 rfl ?_
    refine OWp.nil ?_
    refine Wp.seq ?_
    refine Wp.seq (Wp.region ?_)
    refine OWp.evs 2 rfl ?_
    refine OWp.step rfl (Step.call rfl rfl rfl rfl rfl rfl ((rmayC ?_)))
    rw [e]
    refine OWp.evs 1 rfl ?_
    refine OWp.nil ?_
    refine Wp.seq (Wp.region ?_)
    refine OWp.evs 2 rfl ?_
    refine OWp.nil ?_
    refine Wp.cond rfl (fun cc1 => ?_) (fun cc1 => absurd (ndF cc1) (by decide))
    have cc1 := ndT cc1
    refine Wp.seq (Wp.region ?_)
    refine OWp.evs 3 rfl ?_
    refine OWp.nil ?_
    refine Wp.ret ⟨trivial, _, ⟨_, _, rfl, rfl, _, _, rfl, rfl, rfl⟩, ?_⟩
    exact H
  have e : mayR block.length = 0 := by unfold mayR; rw [if_neg (by omega), if_neg (by omega)]
  rw [blockR_ok (by omega) (by omega), wopen_fold] at H
  refine CallWp.enter (args := [_, _]) Tryd.func17 rfl Tryd.ntmps17 rfl ?_
  refine Wp.seq (Wp.region ?_)
  refine OWp.evs 2 rfl ?_
  refine OWp.nil ?_
  refine Wp.seq ?_
  refine Wp.seq (Wp.region ?_)
  refine OWp.evs 2 rfl ?_
  refine OWp.step rfl (Step.call rfl rfl rfl rfl rfl rfl ((rmayC ?_)))
  rw [e]
  refine OWp.evs 1 rfl ?_
  refine OWp.nil ?_
  refine Wp.seq (Wp.region ?_)
  refine OWp.evs 2 rfl ?_
  refine OWp.nil ?_
  refine Wp.cond rfl (fun cc1 => absurd (ndT cc1) (by decide)) (fun cc1 => ?_)
  have cc1 := ndF cc1
  refine Wp.skip ?_
  refine Wp.seq (Wp.region ?_)
  refine OWp.evs 2 rfl ?_
  refine OWp.step rfl (Step.buildSlice rfl rfl rfl ?_); intro L hBL hLL
  refine OWp.step rfl (Step.call rfl rfl rfl rfl rfl rfl ((rturnedC (l := [3, 2, 1, 0]) (Reads.row (k := 4) (sz := 1) (.head _) (Nat.le_of_ble_eq_true rfl)) (by decide) (by decide) hk (by omega) (by omega) ?_)))
  refine OWp.evs 2 rfl ?_
  refine OWp.nil ?_
  refine Wp.dropAt 0 rfl ?_
  refine Wp.ret ⟨trivial, _, ⟨_, _, rfl, rfl, _, _, rfl, rfl, rfl⟩, ?_⟩
  exact H
theorem rplainC {text : List UInt8} {n : Nat} (h1 : 64 ≤ n) (h2 : n ≤ 8192) (h3 : text.length + 34 ≤ n) (H : Q (.string (str (wplain text n))) S) :
    CallWp Tryd.prog B 40 #[.string (str text), .int .i64 (n : Int)] Q S := by
  refine CallWp.dropRet ?_
  refine CallWp.enter (args := [_, _]) Tryd.func40 rfl Tryd.ntmps40 rfl ?_
  refine Wp.seq (Wp.region ?_)
  refine OWp.evs 1 rfl ?_
  refine OWp.nil ?_
  refine Wp.seq (Wp.region ?_)
  refine OWp.evs 1 rfl ?_
  refine OWp.step rfl (Step.makeSlice (len := n) (cap := n) rfl rfl rfl rfl rfl rfl (by decide) rfl rfl (Nat.le_refl _) (by show 1 * n ≤ _; omega) (by omega) ?_)
  intro L hBL _
  have ez : zeros (cellsOf (Value.int .u8 0)) n = byteCells (List.replicate n 0) := zeros_u8 n
  rw [ez]
  refine OWp.evs 1 rfl ?_
  refine OWp.nil ?_
  refine Wp.seq (Wp.region ?_)
  refine OWp.evs 5 rfl ?_
  refine OWp.g rfl rfl (Gives.indexAddrSlice (32) rfl rfl rfl rfl rfl rfl (by omega)) ?_
  refine OWp.step rfl (Step.storeAs 0 (byteCells ((List.replicate n (0 : UInt8)).set 32 (UInt8.ofNat (text.length / 256)))) rfl rfl rfl rfl rfl hBL rfl (Unfz.zero _) rfl (by rw [byteCells_length, List.length_replicate]; show 0 + 32 * 1 + 1 ≤ _; omega) (bc_setN (by rw [List.length_replicate]; omega) (quo_byte _ (by omega)) rfl) rfl ?_)
  refine OWp.nil ?_
  refine Wp.seq (Wp.region ?_)
  refine OWp.evs 5 rfl ?_
  refine OWp.g rfl rfl (Gives.indexAddrSlice (33) rfl rfl rfl rfl rfl rfl (by omega)) ?_
  refine OWp.step rfl (Step.storeAs 0 (byteCells (plainAt text n 0)) rfl rfl rfl rfl rfl hBL rfl (Unfz.zero _) rfl (by rw [byteCells_length, List.length_set, List.length_replicate]; show 0 + 33 * 1 + 1 ≤ _; omega) (by rw [← plainAt_first text (by omega)]; exact bc_setN (by rw [List.length_set, List.length_replicate]; omega) (rem_byte _) rfl) rfl ?_)
  refine OWp.nil ?_
  refine Wp.seq ?_
  refine Wp.seq (Wp.region ?_)
  refine OWp.evs 1 rfl ?_
  refine OWp.nil ?_
  refine Wp.block ?_
  refine Wp.loopS (α := Nat) (fun i => text.length - i) (fun i => [(0, .string (str text)), (1, .int .i64 (n : Int)), (5, .slice (some ⟨L, 0, none⟩) n n), (6, .int .i64 (i : Int))]) (fun i => (L, cel (byteCells (plainAt text n i)) 5) :: S) (fun i => i ≤ text.length) 0 ?_ (.refl _) (Nat.zero_le _) ?_
  · exact .cons rfl (.cons rfl (.cons rfl (.cons rfl (.nil _))))
  intro i hi
  refine Wp.seq ?_
  refine Wp.seq (Wp.region ?_)
  refine OWp.evs 4 rfl ?_
  refine OWp.nil ?_
  refine Wp.cond rfl (fun h4 => ?_) (fun h4 => ?_)
  · have h4 := of_decide_eq_true h4
    have hi2 : i < text.length := by omega
    have hpl := plainAt_len hi h3
    refine Wp.skip ?_
    refine Wp.seq ?_
    refine Wp.block ?_
    refine Wp.region ?_
    refine OWp.evs 5 rfl ?_
    refine OWp.g rfl rfl (Gives.indexStr (b := (text.getD i 0)) rfl rfl rfl rfl (by omega) (getD_some (by omega))) ?_
    refine OWp.g rfl rfl (Gives.indexAddrSlice ((34 + i)) rfl rfl rfl rfl rfl (by rw [i64_id] <;> omega) (by omega)) ?_
    refine OWp.step rfl (Step.storeAs 0 (byteCells (plainAt text n (i + 1))) rfl rfl rfl rfl rfl hBL rfl (Unfz.zero _) rfl (by rw [byteCells_length, hpl]; show 0 + (34 + i) * 1 + 1 ≤ _; omega) (by rw [← plainAt_set hi2 h3]; exact bc_setN (by omega) rfl (by show 0 + (34 + i) * 1 = 34 + i; omega)) rfl ?_)
    refine OWp.nil ?_
    refine Wp.region ?_
    refine OWp.evs 3 rfl ?_
    refine OWp.nil ?_
    exact ⟨i + 1, by omega, by omega, .cons rfl (.cons rfl (.cons rfl (.cons' rfl (int_eq (i64_inc (by omega))) (.nil _)))), .refl _⟩
  have h4 := of_decide_eq_false h4
  obtain rfl : i = text.length := by omega
  rw [plainAt_all]
  refine Wp.exit ?_
  refine Wp.seq (Wp.region ?_)
  refine OWp.evs 1 rfl ?_
  refine OWp.gives rfl rfl (Gives.bytesToStr (F := [(L, cel (byteCells (wplain text n)) 5)]) (l := wplain text n) (k := n) rfl rfl rfl rfl rfl (bc_reads (wplain_len h3) (.head _))) (mem1 (.head _)) ?_
  refine OWp.evs 1 rfl ?_
  refine OWp.nil ?_
  refine Wp.ret ⟨trivial, _, ⟨_, _, rfl, rfl, rfl⟩, ?_⟩
  exact ⟨S, List.sublist_cons_self _ _, H⟩
def textT : Option (List UInt8) → List UInt8 × Bool
  | some t => (t, true)
  | none => ([], false)
theorem rtextC {o : List UInt8} (h1 : 64 ≤ o.length) (h2 : o.length ≤ 8192) (H : Q (.tuple #[.string (str (textT (wtext o)).1), .bool (textT (wtext o)).2]) S) :
    CallWp Tryd.prog B 42 #[.string (str o)] Q S := by
  obtain ⟨n, hn⟩ : ∃ n, n = (o.getD 32 0).toNat * 256 + (o.getD 33 0).toNat := ⟨_, rfl⟩
  have ha := (o.getD 32 0).toNat_lt
  have hb' := (o.getD 33 0).toNat_lt
  have hn2 : n < 65536 := by omega
  have en : IntKind.i64.wrap (34 + (n : Int)) = ((34 + n : Nat) : Int) := by rw [i64_id] <;> omega
  have e34 : IntKind.i64.wrap (IntKind.i64.wrap ((o.length : Int) - 32) - 2) = ((o.length - 34 : Nat) : Int) := by rw [i64_id (x := (o.length : Int) - 32) (by omega) (by omega), i64_id (by omega) (by omega)]; omega
  have hw : wtext o = if (o.take 32).all (· == 0) ∧ n ≤ o.length - 34 ∧ (o.drop (34 + n)).all (· == 0) then some ((o.drop 34).take n) else none := by
    unfold wtext; rw [hn]
  refine CallWp.enter (args := [_]) Tryd.func42 rfl Tryd.ntmps42 rfl ?_
  refine Wp.seq (Wp.region ?_)
  refine OWp.evs 2 rfl ?_
  refine OWp.nil ?_
  refine Wp.seq ?_
  refine Wp.seq (Wp.region ?_)
  refine OWp.evs 1 rfl ?_
  refine OWp.nil ?_
  refine Wp.block ?_
  refine Wp.loopS (α := Nat) (fun i => 32 - i) (fun i => [(0, .string (str o)), (4, .int .i64 (i : Int))]) (fun _ => S) (fun i => i ≤ 32 ∧ ∀ k, k < i → o.getD k 0 = 0) 0 ?_ (.refl _) ⟨Nat.zero_le _, fun _ h => by omega⟩ ?_
  · exact .cons rfl (.cons rfl (.nil _))
  rintro i ⟨hi, hz⟩
  refine Wp.seq ?_
  refine Wp.seq (Wp.region ?_)
  refine OWp.evs 2 rfl ?_
  refine OWp.nil ?_
  refine Wp.cond rfl (fun c1 => ?_) (fun c1 => ?_)
  · have c1 := of_decide_eq_true c1
    have hi2 : i < 32 := by omega
    refine Wp.skip ?_
    refine Wp.seq ?_
    refine Wp.block ?_
    refine Wp.seq (Wp.region ?_)
    refine OWp.evs 2 rfl ?_
    refine OWp.g rfl rfl (Gives.indexStr (b := (o.getD i 0)) rfl rfl rfl rfl (by omega) (getD_some (by omega))) ?_
    refine OWp.evs 1 rfl ?_
    refine OWp.nil ?_
    refine Wp.cond rfl (fun c2 => ?_) (fun c2 => ?_)
    · have c2 := ndT c2
      refine Wp.seq (Wp.region ?_)
      refine OWp.evs 2 rfl ?_
      refine OWp.nil ?_
      refine Wp.ret ⟨trivial, _, ⟨_, _, rfl, rfl, _, _, rfl, rfl, rfl⟩, ?_⟩
      rw [hw, if_neg (fun h => not_all hi2 (by omega) (byte_ne c2) h.1)] at H
      exact H
    have c2 := ndF c2
    refine Wp.skip ?_
    refine Wp.region ?_
    refine OWp.evs 3 rfl ?_
    refine OWp.nil ?_
    refine ⟨i + 1, by omega, ⟨by omega, fun k hk => ?_⟩, .cons rfl (.cons' rfl (int_eq (i64_inc (by omega))) (.nil _)), .refl _⟩
    rcases Nat.lt_or_ge k i with h | h
    · exact hz k h
    · obtain rfl : k = i := by omega
      exact byte_eq c2
  have c1 := of_decide_eq_false c1
  obtain rfl : i = 32 := by omega
  have hall := all_range (by omega) hz
  refine Wp.exit ?_
  refine Wp.seq (Wp.regionDraw [0, 1, 2, 3, 4, 5, 6, 7, 8] [] rfl (by decide +kernel) ?_)
  refine DWp.evs 1 rfl ?_
  refine DWp.g rfl rfl rfl rfl (Gives.indexStr (b := (o.getD 32 0)) rfl rfl rfl rfl (by decide) (getD_some (by omega))) ?_
  refine DWp.evs 3 rfl ?_
  refine DWp.g rfl rfl rfl rfl (Gives.indexStr (b := (o.getD 33 0)) rfl rfl rfl rfl (by decide) (getD_some (by omega))) ?_
  refine DWp.evs 3 rfl ?_
  refine DWp.nil ?_
  refine Wp.weaken (E' := [(0, .string (str o)), (5, .int .i64 (n : Int))]) (.cons rfl (.cons' rfl (int_eq (by
    show IntKind.i64.wrap (IntKind.i64.wrap (IntKind.i64.wrap ((o.getD 32 0).toNat : Int) * 256) + IntKind.i64.wrap ((o.getD 33 0).toNat : Int)) = _
    rw [i64_id (x := ((o.getD 32 0).toNat : Int)) (by omega) (by omega), i64_id (x := ((o.getD 33 0).toNat : Int)) (by omega) (by omega), i64_id (x := ((o.getD 32 0).toNat : Int) * 256) (by omega) (by omega), i64_id (by omega) (by omega), hn]; omega)) (.nil _))) (fun _ h => h) ?_
  refine Wp.seq ?_
  refine Wp.seq (Wp.region ?_)
  refine OWp.evs 6 rfl ?_
  refine OWp.nil ?_
  refine Wp.cond rfl (fun c3 => ?_) (fun c3 => ?_)
  · have c3 := of_decide_eq_true c3
    refine Wp.seq (Wp.region ?_)
    refine OWp.evs 2 rfl ?_
    refine OWp.nil ?_
    refine Wp.ret ⟨trivial, _, ⟨_, _, rfl, rfl, _, _, rfl, rfl, rfl⟩, ?_⟩
    rw [e34] at c3
    rw [hw, if_neg (fun h => by omega)] at H
    exact H
  have c3 := of_decide_eq_false c3
  rw [e34] at c3
  refine Wp.skip ?_
  refine Wp.seq ?_
  refine Wp.seq (Wp.region ?_)
  refine OWp.evs 3 rfl ?_
  refine OWp.nil ?_
  refine Wp.block ?_
  refine Wp.loopS (α := Nat) (fun i => o.length - i) (fun i => [(0, .string (str o)), (5, .int .i64 (n : Int)), (6, .int .i64 (i : Int))]) (fun _ => S) (fun i => 34 + n ≤ i ∧ i ≤ o.length ∧ ∀ k, 34 + n ≤ k → k < i → o.getD k 0 = 0) (34 + n) ?_ (.refl _) ⟨Nat.le_refl _, by omega, fun _ _ h => by omega⟩ ?_
  · exact .cons rfl (.cons rfl (.cons' rfl (int_eq en) (.nil _)))
  rintro i ⟨hi1, hi, hz2⟩
  refine Wp.seq ?_
  refine Wp.seq (Wp.region ?_)
  refine OWp.evs 4 rfl ?_
  refine OWp.nil ?_
  refine Wp.cond rfl (fun c4 => ?_) (fun c4 => ?_)
  · have c4 := of_decide_eq_true c4
    have hi2 : i < o.length := by omega
    refine Wp.skip ?_
    refine Wp.seq ?_
    refine Wp.block ?_
    refine Wp.seq (Wp.region ?_)
    refine OWp.evs 2 rfl ?_
    refine OWp.g rfl rfl (Gives.indexStr (b := (o.getD i 0)) rfl rfl rfl rfl (by omega) (getD_some (by omega))) ?_
    refine OWp.evs 1 rfl ?_
    refine OWp.nil ?_
    refine Wp.cond rfl (fun c5 => ?_) (fun c5 => ?_)
    · have c5 := ndT c5
      refine Wp.seq (Wp.region ?_)
      refine OWp.evs 2 rfl ?_
      refine OWp.nil ?_
      refine Wp.ret ⟨trivial, _, ⟨_, _, rfl, rfl, _, _, rfl, rfl, rfl⟩, ?_⟩
      rw [hw, if_neg (fun h => not_drop hi1 hi2 (byte_ne c5) h.2.2)] at H
      exact H
    have c5 := ndF c5
    refine Wp.skip ?_
    refine Wp.region ?_
    refine OWp.evs 3 rfl ?_
    refine OWp.nil ?_
    refine ⟨i + 1, by omega, ⟨by omega, by omega, fun k hk1 hk => ?_⟩, .cons rfl (.cons rfl (.cons' rfl (int_eq (i64_inc (by omega))) (.nil _))), .refl _⟩
    rcases Nat.lt_or_ge k i with h | h
    · exact hz2 k hk1 h
    · obtain rfl : k = i := by omega
      exact byte_eq c5
  have c4 := of_decide_eq_false c4
  obtain rfl : i = o.length := by omega
  have hall2 := all_drop (k := 34 + n) (fun k hk1 hk => hz2 k hk1 hk)
  refine Wp.exit ?_
  refine Wp.seq (Wp.region ?_)
  refine OWp.evs 3 rfl ?_
  refine OWp.g rfl rfl (Gives.sliceStr (l := 34) (h' := (34 + n)) rfl rfl rfl ⟨_, _, rfl, rfl⟩ ⟨_, _, rfl, en⟩ (by omega) (by omega)) ?_
  refine OWp.evs 2 rfl ?_
  refine OWp.nil ?_
  refine Wp.ret ⟨trivial, _, ⟨_, _, rfl, rfl, _, _, rfl, rfl, rfl⟩, ?_⟩
  rw [hw, if_pos ⟨hall, by omega, hall2⟩] at H
  rw [Nat.add_sub_cancel_left]
  exact H
end
end Go.Proofs.D
