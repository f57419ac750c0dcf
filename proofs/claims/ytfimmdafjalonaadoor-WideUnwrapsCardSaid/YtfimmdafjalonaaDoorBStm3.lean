/- What functions of the given program do, one after the other, told by that layer. -/
import Derived.Test.YtfimmdafjalonaaDoorBStm2
namespace Go.Proofs.D
open Go.Lg Go.Sha
set_option maxRecDepth 100000

theorem lewords_succ : ∀ (n : Nat) (l : List UInt8), lewords (n + 1) l = lewords n l ++ [le (l.drop (4 * n))]
  | 0, l => rfl
  | n + 1, l => by
    rw [lewords, lewords_succ n, lewords, List.drop_drop]
    rw [show 4 + 4 * n = 4 * (n + 1) by omega]; rfl
theorem set_mid {a b : List Nat} {x y : Nat} {k : Nat} (hk : k = a.length) : (a ++ x :: b).set k y = a ++ y :: b := by
  subst hk
  rw [List.set_append_right _ _ (Nat.le_refl _), Nat.sub_self, List.set_cons_zero]
def c4 : List Nat := [0x61707865, 0x3320646e, 0x79622d32, 0x6b206574]
def r1 (key : List UInt8) (c i : Nat) : List Nat := c4 ++ (lewords i key ++ (List.replicate (8 - i) 0 ++ (c :: List.replicate 3 0)))
theorem r1_len (key : List UInt8) (c : Nat) {i : Nat} (h : i ≤ 8) : (r1 key c i).length = 16 := by
  simp only [r1, c4, List.length_append, List.length_cons, List.length_nil, lewords_len, List.length_replicate]; omega
theorem r1_set (key : List UInt8) (c : Nat) {i : Nat} (h : i < 8) : (r1 key c i).set (4 + i) (le (key.drop (4 * i))) = r1 key c (i + 1) := by
  have e : 8 - i = (8 - (i + 1)) + 1 := by omega
  have a : ∀ z : List Nat, c4 ++ (lewords i key ++ z) = (c4 ++ lewords i key) ++ z := fun z => by simp
  unfold r1
  rw [e, List.replicate_succ, lewords_succ i, a, List.cons_append, set_mid (by simp only [c4, List.length_append, List.length_cons, List.length_nil, lewords_len])]
  simp
def r2 (key nonce : List UInt8) (c i : Nat) : List Nat := c4 ++ (lewords 8 key ++ (c :: (lewords i nonce ++ List.replicate (3 - i) 0)))
theorem r2_len (key nonce : List UInt8) (c : Nat) {i : Nat} (h : i ≤ 3) : (r2 key nonce c i).length = 16 := by
  simp only [r2, c4, List.length_append, List.length_cons, List.length_nil, lewords_len, List.length_replicate]; omega
theorem r2_set (key nonce : List UInt8) (c : Nat) {i : Nat} (h : i < 3) : (r2 key nonce c i).set (13 + i) (le (nonce.drop (4 * i))) = r2 key nonce c (i + 1) := by
  have e : 3 - i = (3 - (i + 1)) + 1 := by omega
  have a : ∀ z : List Nat, c4 ++ (lewords 8 key ++ (c :: (lewords i nonce ++ z))) = (c4 ++ (lewords 8 key ++ (c :: lewords i nonce))) ++ z := fun z => by simp
  unfold r2
  rw [e, List.replicate_succ, lewords_succ i, a, set_mid (by simp only [c4, List.length_append, List.length_cons, List.length_nil, lewords_len]; omega)]
  simp
theorem r1_r2 (key nonce : List UInt8) (c : Nat) : r1 key c 8 = r2 key nonce c 0 := rfl
theorem r2_start (key nonce : List UInt8) (c : Nat) : r2 key nonce c 3 = Go.Sha.start key nonce c := by
  simp [r2, Go.Sha.start, c4]
theorem le_lt (l : List UInt8) : le l < 4294967296 := by
  unfold le
  split
  · rename_i a b c d _
    have h1 := a.toNat_lt
    have h2 := b.toNat_lt
    have h3 := c.toNat_lt
    have h4 := d.toNat_lt
    omega
  · decide
theorem lewords_lt : ∀ (n : Nat) (l : List UInt8), ∀ x ∈ lewords n l, x < 4294967296
  | 0, _ => by simp [lewords]
  | n + 1, l => by
    intro x hx
    rw [lewords, List.mem_cons] at hx
    rcases hx with rfl | hx
    · exact le_lt l
    · exact lewords_lt n _ x hx
theorem start_good (key nonce : List UInt8) {c : Nat} (hc : c < 4294967296) : Good (Go.Sha.start key nonce c) := by
  refine ⟨start_len _ _ _, ?_⟩
  intro x hx
  unfold Go.Sha.start at hx
  simp only [List.mem_append, List.mem_cons] at hx
  rcases hx with (rfl | rfl | rfl | rfl | hx) | hx | rfl | hx
  · decide
  · decide
  · decide
  · decide
  · cases hx
  · exact lewords_lt _ _ x hx
  · exact hc
  · exact lewords_lt _ _ x hx

section
variable {B : Nat} {S R : Ents} {Q : Value → Ents → Prop}

theorem wordEqC {s t : List UInt8} (ht : t = s) (hs : 4 ≤ s.length) (H : Q (.int .u32 (le s : Nat)) S) :
    CallWp Tryd.prog B 138 #[.string (str t)] Q S := by
  subst ht; exact wordC hs H

set_option maxHeartbeats 1000000 in
theorem sbeginC {key nonce : List UInt8} {c : Nat} (hk : key.length = 32) (hn : nonce.length = 12) (_hc : c < 4294967296) (H : Q (.agg (u32s (Go.Sha.start key nonce c)).toArray) S) :
    CallWp Tryd.prog B 116 #[.string (str key), .string (str nonce), .int .u32 (c : Int)] Q S := by
  refine CallWp.dropRet ?_
  refine CallWp.enter (args := [_, _, _]) Tryd.func116 rfl Tryd.ntmps116 rfl ?_
  refine Wp.seq (Wp.region ?_)
  refine OWp.step rfl (Step.alloc rfl rfl rfl ?_); intro L1 hBL1 hLL1
  refine OWp.nil ?_
  refine Wp.seq (Wp.region ?_)
  refine OWp.evs 1 rfl ?_
  refine OWp.g rfl rfl (Gives.build rfl rfl) ?_
  refine OWp.step rfl (Step.alloc rfl rfl rfl ?_); intro L2 hBL2 hLL2
  refine OWp.step rfl (Step.storeAs 0 (u32s (r1 key c 0)) rfl rfl rfl rfl rfl hBL2 rfl (Unfz.zero _) rfl (Nat.le_of_ble_eq_true rfl) (by rfl) rfl ?_)
  refine OWp.nil ?_
  refine Wp.seq ?_
  refine Wp.seq (Wp.region ?_)
  refine OWp.evs 1 rfl ?_
  refine OWp.nil ?_
  refine Wp.block ?_
  refine Wp.loopS (α := Nat) (fun i => 8 - i) (fun i => [(0, .string (str key)), (1, .string (str nonce)), (6, pt L1), (7, pt L2), (12, .int .i64 (i : Int))]) (fun i => (L2, cel (u32s (r1 key c i)) 149) :: (L1, cel (u32s (List.replicate 16 0)) 149) :: S) (fun i => i ≤ 8) 0 ?_ (.refl _) (Nat.zero_le _) ?_
  · exact .cons rfl (.cons rfl (.cons rfl (.cons rfl (.cons rfl (.nil _)))))
  intro i hi
  refine Wp.seq (Wp.region ?_)
  refine OWp.evs 1 rfl ?_
  refine OWp.nil ?_
  refine Wp.seq ?_
  refine Wp.cond rfl (fun h1 => ?_) (fun h1 => ?_)
  · have h1 := of_decide_eq_true h1
    have hi2 : i < 8 := by omega
    refine Wp.skip ?_
    refine Wp.seq ?_
    refine Wp.block ?_
    refine Wp.seq (Wp.region ?_)
    refine OWp.evs 2 rfl ?_
    refine OWp.nil ?_
    refine Wp.region ?_
    refine OWp.evs 5 rfl ?_
    refine OWp.g rfl rfl (Gives.sliceStr (l := (4 * i)) (h' := key.length) rfl rfl rfl ⟨_, _, rfl, i64_mul (c := 4) (by omega)⟩ rfl (by omega) (by omega)) ?_
    refine OWp.step rfl (Step.call rfl rfl rfl rfl rfl rfl ((wordEqC (s := key.drop (4 * i)) (List.take_of_length_le (by rw [List.length_drop]; exact Nat.le_refl _)) (by rw [List.length_drop]; omega) ?_)))
    refine OWp.g rfl rfl (Gives.indexAddrArr ((4 + i)) rfl rfl rfl rfl rfl (by rw [i64_id (by omega) (by omega)]; rfl) (by omega)) ?_
    refine OWp.step rfl (Step.storeAs 0 (u32s (r1 key c (i + 1))) rfl rfl rfl rfl rfl hBL2 rfl (Unfz.zero _) rfl (by rw [u32s_length, r1_len key c (by omega)]; show 0 + (4 + i) * 1 + 1 ≤ 16; omega) (by rw [← r1_set key c (by omega)]; exact u32s_set (by rw [r1_len key c (by omega)]; omega) (by show 0 + (4 + i) * 1 = 4 + i; omega)) rfl ?_)
    refine OWp.nil ?_
    refine Wp.region ?_
    refine OWp.evs 2 rfl ?_
    refine OWp.nil ?_
    exact ⟨i + 1, by omega, by omega, .cons rfl (.cons rfl (.cons rfl (.cons rfl (.cons' rfl (int_eq (i64_inc (by omega))) (.nil _))))), .refl _⟩
  have h1 := of_decide_eq_false h1
  obtain rfl : i = 8 := by omega
  refine Wp.exit ?_
  refine Wp.seq ?_
  refine Wp.seq (Wp.region ?_)
  refine OWp.evs 1 rfl ?_
  refine OWp.nil ?_
  refine Wp.block ?_
  refine Wp.loopS (α := Nat) (fun i => 3 - i) (fun i => [(1, .string (str nonce)), (6, pt L1), (7, pt L2), (24, .int .i64 (i : Int))]) (fun i => (L2, cel (u32s (r2 key nonce c i)) 149) :: (L1, cel (u32s (List.replicate 16 0)) 149) :: S) (fun i => i ≤ 3) 0 ?_ (by rw [r1_r2 key nonce]) (Nat.zero_le _) ?_
  · exact .cons rfl (.cons rfl (.cons rfl (.cons rfl (.nil _))))
  intro i hi
  refine Wp.seq (Wp.region ?_)
  refine OWp.evs 1 rfl ?_
  refine OWp.nil ?_
  refine Wp.seq ?_
  refine Wp.cond rfl (fun h2 => ?_) (fun h2 => ?_)
  · have h2 := of_decide_eq_true h2
    have hi2 : i < 3 := by omega
    refine Wp.skip ?_
    refine Wp.seq ?_
    refine Wp.block ?_
    refine Wp.seq (Wp.region ?_)
    refine OWp.evs 2 rfl ?_
    refine OWp.nil ?_
    refine Wp.region ?_
    refine OWp.evs 5 rfl ?_
    refine OWp.g rfl rfl (Gives.sliceStr (l := (4 * i)) (h' := nonce.length) rfl rfl rfl ⟨_, _, rfl, i64_mul (c := 4) (by omega)⟩ rfl (by omega) (by omega)) ?_
    refine OWp.step rfl (Step.call rfl rfl rfl rfl rfl rfl ((wordEqC (s := nonce.drop (4 * i)) (List.take_of_length_le (by rw [List.length_drop]; exact Nat.le_refl _)) (by rw [List.length_drop]; omega) ?_)))
    refine OWp.g rfl rfl (Gives.indexAddrArr ((13 + i)) rfl rfl rfl rfl rfl (by rw [i64_id (by omega) (by omega)]; rfl) (by omega)) ?_
    refine OWp.step rfl (Step.storeAs 0 (u32s (r2 key nonce c (i + 1))) rfl rfl rfl rfl rfl hBL2 rfl (Unfz.zero _) rfl (by rw [u32s_length, r2_len key nonce c (by omega)]; show 0 + (13 + i) * 1 + 1 ≤ 16; omega) (by rw [← r2_set key nonce c (by omega)]; exact u32s_set (by rw [r2_len key nonce c (by omega)]; omega) (by show 0 + (13 + i) * 1 = 13 + i; omega)) rfl ?_)
    refine OWp.nil ?_
    refine Wp.region ?_
    refine OWp.evs 2 rfl ?_
    refine OWp.nil ?_
    exact ⟨i + 1, by omega, by omega, .cons rfl (.cons rfl (.cons rfl (.cons' rfl (int_eq (i64_inc (by omega))) (.nil _)))), .refl _⟩
  have h2 := of_decide_eq_false h2
  obtain rfl : i = 3 := by omega
  rw [r2_start]
  obtain ⟨x, hx⟩ : ∃ x, x = Go.Sha.start key nonce c := ⟨_, rfl⟩
  have hxl : x.length = 16 := by rw [hx]; exact start_len _ _ _
  rw [← hx] at H ⊢
  refine Wp.exit ?_
  refine Wp.seq (Wp.region ?_)
  refine OWp.load (.head _) rfl rfl rfl rfl (u32s_agg hxl) ?_
  refine OWp.step rfl (Step.storeAs 1 (u32s x) rfl rfl rfl rfl rfl hBL1 (by show some 16 = some (u32s x).length; rw [u32s_length, hxl]) (Unfz.zero _) (u32s_one x) (by rw [u32s_length]; show 0 + (u32s x).length ≤ _; rw [u32s_length, hxl, List.length_replicate]; exact Nat.le_refl _) (wr_all (X := u32s x) (by rw [u32s_length, u32s_length, hxl, List.length_replicate])) rfl ?_)
  have hp : Lg.partAt Tryd.prog 149 (u32s x) 0 = some (.agg (u32s x).toArray) := u32s_agg hxl
  refine OWp.nil ?_
  refine Wp.ret ⟨trivial, _, ⟨_, _, _, _, rfl, rfl, ⟨_, _, _, (by repeat (first | exact List.Mem.head _ | assumption | apply List.mem_cons_of_mem | apply List.mem_append_right)), (by first | assumption | rfl)⟩, rfl⟩, ?_⟩
  exact ⟨S, (by repeat (first | exact List.Sublist.refl _ | exact List.sublist_append_right _ _ | apply List.Sublist.cons)), H⟩
end
end Go.Proofs.D
