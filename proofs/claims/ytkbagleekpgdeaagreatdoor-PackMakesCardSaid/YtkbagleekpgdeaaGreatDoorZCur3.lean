/- What functions of the given program do, one after the other, told by that layer. -/
import Derived.Test.YtkbagleekpgdeaaGreatDoorZCur2
import Derived.Test.YtkbagleekpgdeaaGreatDoorEM2xe31d
namespace Go.Proofs.D
open Go.Lg Go.Cv Go.Nm
open Go.Proofs.C (zi zi_length zi_one zi_append)
set_option maxRecDepth 100000
theorem low7 {u : List UInt8} (h : u.length = 32) : leNat (u.set 31 (UInt8.ofNat ((u.getD 31 0).toNat % 128))) = leNat u % 2 ^ 255 := by
  apply Nat.eq_of_testBit_eq
  intro i
  rw [leNat_testBit, Nat.testBit_mod_two_pow, leNat_testBit, List.getD_eq_getElem?_getD, List.getElem?_set]
  by_cases h1 : 31 = i / 8
  · rw [if_pos h1, if_pos (by omega), ← h1]
    simp only [Option.getD_some]
    rw [UInt8.toNat_ofNat', show (128 : Nat) = 2 ^ 7 from rfl, Nat.testBit_mod_two_pow, Nat.testBit_mod_two_pow]
    have e1 : decide (i % 8 < 8) = true := by simp; omega
    rw [e1, Bool.true_and]
    have e2 : decide (i % 8 < 7) = decide (i < 255) := by
      congr 1
      apply propext
      omega
    rw [e2]
  · rw [if_neg h1, ← List.getD_eq_getElem?_getD]
    by_cases h2 : i / 8 < 31
    · have : decide (i < 255) = true := by simp; omega
      rw [this, Bool.true_and]
    · have e : u.getD (i / 8) 0 = 0 := by rw [List.getD_eq_getElem?_getD, List.getElem?_eq_none (by omega)]; rfl
      rw [e]
      simp
theorem clamp_lo {n : Nat} (h : n < 256) : IntKind.u8.wrap (IntKind.u8.wrap ((n : Int).tdiv (Int.ofNat (7 + 1))) * 8) = ((UInt8.ofNat (n / 8 * 8)).toNat : Int) := by
  have : ∀ n : Fin 256, IntKind.u8.wrap (IntKind.u8.wrap ((n.val : Int).tdiv (Int.ofNat (7 + 1))) * 8) = ((UInt8.ofNat (n.val / 8 * 8)).toNat : Int) := by decide +kernel
  exact this ⟨n, h⟩
theorem clamp_hi {n : Nat} (h : n < 256) : IntKind.u8.wrap ((n : Int).tmod (Int.ofNat (63 + 1)) + 64) = ((UInt8.ofNat (n % 64 + 64)).toNat : Int) := by
  have : ∀ n : Fin 256, IntKind.u8.wrap ((n.val : Int).tmod (Int.ofNat (63 + 1)) + 64) = ((UInt8.ofNat (n.val % 64 + 64)).toNat : Int) := by decide +kernel
  exact this ⟨n, h⟩
theorem mod_hi {n : Nat} : (n : Int).tmod (Int.ofNat (127 + 1)) = ((UInt8.ofNat (n % 128)).toNat : Int) := by
  rw [UInt8.toNat_ofNat']
  show (n : Int).tmod 128 = _
  rw [Int.tmod_eq_emod_of_nonneg (by omega)]
  omega
theorem byte_get {l : List UInt8} {g : List Value} {i : Nat} (h : i < l.length) : (byteCells l ++ g)[i]? = some (.int .u8 ((l.getD i 0).toNat : Int)) := by
  rw [bc_get h, List.getD_eq_getElem?_getD, List.getElem?_eq_getElem h]; rfl
theorem reads_bytes {S : Ents} {L n cap : Nat} {l : List UInt8} {g : List Value} {t : TypeId} {fz : Nat × Nat} (h : l.length = n) : Reads ((L, cel (byteCells l ++ g) t fz) :: S) 1 (.slice (some ⟨L, 0, none⟩) n cap) n (byteCells l) := by
  have := Reads.row (S := (L, cel (byteCells l ++ g) t fz) :: S) (sz := 1) (k := n) (cap := cap) (.head _) (by rw [List.length_append, byteCells_length]; omega)
  rw [Nat.mul_one, List.take_append_of_le_length (by rw [byteCells_length]; omega), List.take_of_length_le (by rw [byteCells_length]; omega)] at this
  exact this
attribute [local irreducible] dg le32
section
variable {B : Nat} {S R : Ents} {Q : Value → Ents → Prop}
set_option maxHeartbeats 1000000 in
theorem rclampedC {k : List UInt8} (hk : k.length = 32) (H : Q (.string (str (clampL k))) S) : CallWp Tryz.prog B 81 #[.string (str k)] Q S := by
  refine CallWp.dropRet ?_
  refine CallWp.enter (args := [_]) Tryz.func81 rfl Tryz.ntmps81 rfl ?_
  refine Wp.seq (Wp.region ?_)
  refine OWp.evs 1 rfl ?_
  refine OWp.nil ?_
  refine Wp.seq (Wp.region ?_)
  refine OWp.evs 1 rfl ?_
  refine OWp.step rfl (Step.strToBytes rfl rfl rfl rfl rfl rfl ?_); intro L g cap hBL hLL hcL
  have hk1 : (k.set 0 (UInt8.ofNat ((k.getD 0 0).toNat / 8 * 8))).length = 32 := by rw [List.length_set, hk]
  refine OWp.evs 1 rfl ?_
  refine OWp.nil ?_
  refine Wp.seq (Wp.region ?_)
  refine OWp.evs 2 rfl ?_
  refine OWp.g rfl rfl (Gives.indexAddrSlice (0) rfl rfl rfl rfl rfl rfl (by omega)) ?_
  refine OWp.load (.head _) rfl rfl rfl rfl (by show (byteCells k ++ g)[0]? = _; exact byte_get (by omega)) ?_
  refine OWp.evs 2 rfl ?_
  refine OWp.g rfl rfl (Gives.indexAddrSlice (0) rfl rfl rfl rfl rfl rfl (by omega)) ?_
  refine OWp.step rfl (Step.storeAs 0 (byteCells (k.set 0 (UInt8.ofNat ((k.getD 0 0).toNat / 8 * 8))) ++ g) rfl rfl rfl rfl rfl hBL rfl (.inr (by rw [← hcL]; exact Nat.le_refl _)) rfl (by rw [List.length_append, byteCells_length, hk]; show 0 + 0 * 1 + 1 ≤ _; omega) (bc_set (by omega) (clamp_lo (UInt8.toNat_lt _)) rfl) rfl ?_)
  refine OWp.nil ?_
  refine Wp.seq (Wp.region ?_)
  refine OWp.evs 2 rfl ?_
  refine OWp.g rfl rfl (Gives.indexAddrSlice (31) rfl rfl rfl rfl rfl rfl (by rw [hk]; decide)) ?_
  refine OWp.load (.head _) rfl rfl rfl rfl (by show (byteCells (k.set 0 (UInt8.ofNat ((k.getD 0 0).toNat / 8 * 8))) ++ g)[0 + 31 * 1]? = _; exact byte_get (i := 31) (by omega)) ?_
  refine OWp.evs 2 rfl ?_
  refine OWp.g rfl rfl (Gives.indexAddrSlice (31) rfl rfl rfl rfl rfl rfl (by rw [hk]; decide)) ?_
  refine OWp.step rfl (Step.storeAs 0 (byteCells (clampL k) ++ g) rfl rfl rfl rfl rfl hBL rfl (.inr (by rw [← hcL, List.length_append, List.length_append, byteCells_length, byteCells_length, hk1, hk]; exact Nat.le_refl _)) rfl (by rw [List.length_append, byteCells_length, hk1]; show 0 + 31 * 1 + 1 ≤ _; omega) (bc_set (i := 31) (by omega) (by have e : (k.set 0 (UInt8.ofNat ((k.getD 0 0).toNat / 8 * 8))).getD 31 0 = k.getD 31 0 := by { rw [List.getD_eq_getElem?_getD, List.getElem?_set_ne (by decide), ← List.getD_eq_getElem?_getD] }; rw [e]; exact clamp_hi (UInt8.toNat_lt _)) rfl) rfl ?_)
  have hcl := clampL_len hk
  refine OWp.nil ?_
  refine Wp.seq (Wp.region ?_)
  refine OWp.evs 1 rfl ?_
  refine OWp.gives rfl rfl (Gives.bytesToStr (F := (L, cel (byteCells (clampL k) ++ g) 5 (cap, cap + 1)) :: S) (l := (clampL k)) (k := k.length) rfl rfl rfl rfl rfl (reads_bytes (by omega))) (fun _ h => h) ?_
  refine OWp.evs 1 rfl ?_
  refine OWp.nil ?_
  refine Wp.ret ⟨trivial, _, ⟨_, _, rfl, rfl, rfl⟩, ?_⟩
  exact ⟨S, subl, H⟩
theorem rtimesUC {k u : List UInt8} (H : Q (.tuple #[.string (str (timesR k u).1), .int .i64 ((timesR k u).2 : Nat)]) S) : CallWp Tryz.prog B 51 #[.string (str k), .string (str u)] Q S := by
  refine CallWp.dropRet ?_
  refine CallWp.enter (args := [_, _]) Tryz.func51 rfl Tryz.ntmps51 rfl ?_
  refine Wp.seq (Wp.region ?_)
  by_cases h1 : k.length = 32
  · skip
    refine OWp.evs 2 rfl ?_
    refine OWp.nil ?_
    refine Wp.seq ?_
    refine Wp.seq (Wp.region ?_)
    refine OWp.evs 4 rfl ?_
    refine OWp.part 12 rfl (fun cc1 => absurd (ndT cc1) (by omega)) (fun cc1 => ?_)
    have cc1 := ndF cc1
    refine OWp.evs 4 rfl ?_
    refine OWp.nil ?_
    refine Wp.cond rfl (fun h2 => ?_) (fun h2 => ?_)
    · have h2 := ndT h2
      rw [show timesR k u = ([], 3) by unfold timesR; rw [if_neg (fun h => h2 (by rw [h.2]; rfl))]] at H
      refine Wp.seq (Wp.region ?_)
      refine OWp.evs 2 rfl ?_
      refine OWp.nil ?_
      refine Wp.ret ⟨trivial, _, ⟨_, _, rfl, rfl, _, _, rfl, rfl, rfl⟩, ?_⟩
      exact ⟨S, subl, H⟩
    have h2 := ndF h2
    have hu : u.length = 32 := by omega
    rw [timesR_eq h1 hu] at H
    refine Wp.skip ?_
    refine Wp.seq (Wp.region ?_)
    refine OWp.evs 1 rfl ?_
    refine OWp.step rfl (Step.strToBytes rfl rfl rfl rfl rfl rfl ?_); intro L g cap hBL hLL hcL
    have hu1 : (u.set 31 (UInt8.ofNat ((u.getD 31 0).toNat % 128))).length = 32 := by rw [List.length_set, hu]
    refine OWp.evs 1 rfl ?_
    refine OWp.nil ?_
    refine Wp.seq (Wp.region ?_)
    refine OWp.evs 2 rfl ?_
    refine OWp.g rfl rfl (Gives.indexAddrSlice (31) rfl rfl rfl rfl rfl rfl (by rw [hu]; decide)) ?_
    refine OWp.load (.head _) rfl rfl rfl rfl (by show (byteCells u ++ g)[0 + 31 * 1]? = _; exact byte_get (i := 31) (by omega)) ?_
    refine OWp.evs 1 rfl ?_
    refine OWp.g rfl rfl (Gives.indexAddrSlice (31) rfl rfl rfl rfl rfl rfl (by rw [hu]; decide)) ?_
    refine OWp.step rfl (Step.storeAs 0 (byteCells (u.set 31 (UInt8.ofNat ((u.getD 31 0).toNat % 128))) ++ g) rfl rfl rfl rfl rfl hBL rfl (.inr (by rw [← hcL]; exact Nat.le_refl _)) rfl (by rw [List.length_append, byteCells_length, hu]; show 0 + 31 * 1 + 1 ≤ _; omega) (bc_set (i := 31) (by omega) mod_hi rfl) rfl ?_)
    refine OWp.nil ?_
    refine Wp.seq (Wp.region ?_)
    refine OWp.evs 1 rfl ?_
    refine OWp.gives rfl rfl (Gives.bytesToStr (F := (L, cel (byteCells (u.set 31 (UInt8.ofNat ((u.getD 31 0).toNat % 128))) ++ g) 5 (cap, cap + 1)) :: S) (l := (u.set 31 (UInt8.ofNat ((u.getD 31 0).toNat % 128)))) (k := u.length) rfl rfl rfl rfl rfl (reads_bytes (by omega))) (fun _ h => h) ?_
    refine OWp.step rfl (Step.call rfl rfl rfl rfl rfl rfl ((rreduceC (by omega) ?_)))
    rw [low7 hu]
    refine OWp.evs 5 rfl ?_
    refine OWp.nil ?_
    refine Wp.seq (Wp.region ?_)
    refine OWp.evs 1 rfl ?_
    refine OWp.step rfl (Step.call rfl rfl rfl rfl rfl rfl ((rclampedC h1 ?_)))
    refine OWp.evs 1 rfl ?_
    refine OWp.step rfl (Step.call rfl rfl rfl rfl rfl rfl ((rofNC (len32 _) ?_)))
    rw [leNat_le32 (Nat.lt_of_lt_of_le (Nat.mod_lt _ q_pos) (by decide +kernel))]
    refine OWp.step rfl (Step.call rfl rfl rfl rfl rfl rfl ((rladderC (clampL_len h1) (Nat.mod_lt _ q_pos) ?_)))
    rw [leNat_clamp h1]
    refine OWp.step rfl (Step.call rfl rfl rfl rfl rfl rfl ((rbytesC (ladx_lt _ _) ?_)))
    refine OWp.evs 2 rfl ?_
    refine OWp.nil ?_
    refine Wp.ret ⟨trivial, _, ⟨_, _, rfl, rfl, _, _, rfl, rfl, rfl⟩, ?_⟩
    exact ⟨S, subl, H⟩
  refine OWp.evs 2 rfl ?_
  refine OWp.nil ?_
  refine Wp.seq ?_
  refine Wp.seq (Wp.region ?_)
  refine OWp.evs 4 rfl ?_
  refine OWp.part 12 rfl (fun cc2 => ?_) (fun cc2 => absurd (ndF cc2) (by omega))
  have cc2 := ndT cc2
  rw [show timesR k u = ([], 3) by unfold timesR; rw [if_neg (fun h => h1 h.1)]] at H
  refine OWp.evs 4 rfl ?_
  refine OWp.nil ?_
  refine Wp.cond rfl (fun _ => ?_) (fun c => nomatch c)
  refine Wp.seq (Wp.region ?_)
  refine OWp.evs 2 rfl ?_
  refine OWp.nil ?_
  refine Wp.ret ⟨trivial, _, ⟨_, _, rfl, rfl, _, _, rfl, rfl, rfl⟩, ?_⟩
  exact ⟨S, subl, H⟩
theorem rbytesEqC {n : Nat} {v : Value} (hv : v = nmV n) (hn : n < q) (H : Q (.string (str (le32 n))) S) : CallWp Tryz.prog B 78 #[v] Q S := by
  subst hv; exact rbytesC hn H
theorem rbaseC (H : Q (.string (str base9)) S) : CallWp Tryz.prog B 76 #[] Q S := by
  refine CallWp.enter (args := []) Tryz.func76 rfl Tryz.ntmps76 rfl ?_
  refine Wp.seq (Wp.region ?_)
  refine OWp.evs 1 rfl ?_
  refine OWp.nil ?_
  refine Wp.seq (Wp.region ?_)
  refine OWp.g rfl rfl (Gives.build rfl rfl) ?_
  refine OWp.step rfl (Step.call rfl rfl rfl rfl rfl rfl ((rbytesEqC (n := 9) (nmV_small (by decide)).symm (by decide +kernel) ?_)))
  refine OWp.evs 1 rfl ?_
  refine OWp.nil ?_
  refine Wp.ret ⟨trivial, _, ⟨_, _, rfl, rfl, rfl⟩, ?_⟩
  exact H
theorem rpublicC {k : List UInt8} (H : Q (.tuple #[.string (str (publicR k).1), .int .i64 ((publicR k).2 : Nat)]) S) : CallWp Tryz.prog B 40 #[.string (str k)] Q S := by
  refine CallWp.enter (args := [_]) Tryz.func40 rfl Tryz.ntmps40 rfl ?_
  refine Wp.seq (Wp.region ?_)
  refine OWp.evs 2 rfl ?_
  refine OWp.nil ?_
  refine Wp.seq (Wp.region ?_)
  refine OWp.evs 1 rfl ?_
  refine OWp.step rfl (Step.call rfl rfl rfl rfl rfl rfl ((rbaseC ?_)))
  refine OWp.step rfl (Step.call rfl rfl rfl rfl rfl rfl ((rtimesUC ?_)))
  refine OWp.evs 4 rfl ?_
  refine OWp.nil ?_
  refine Wp.ret ⟨trivial, _, ⟨_, _, rfl, rfl, _, _, rfl, rfl, rfl⟩, ?_⟩
  exact H
theorem rsharedC {k u : List UInt8} (H : Q (.tuple #[.string (str (sharedR k u).1), .int .i64 ((sharedR k u).2 : Nat)]) S) : CallWp Tryz.prog B 48 #[.string (str k), .string (str u)] Q S := by
  unfold sharedR at H
  refine CallWp.enter (args := [_, _]) Tryz.func48 rfl Tryz.ntmps48 rfl ?_
  refine Wp.seq (Wp.region ?_)
  refine OWp.evs 2 rfl ?_
  refine OWp.nil ?_
  refine Wp.seq (Wp.region ?_)
  refine OWp.evs 2 rfl ?_
  refine OWp.step rfl (Step.call rfl rfl rfl rfl rfl rfl ((rtimesUC ?_)))
  refine OWp.evs 5 rfl ?_
  refine OWp.nil ?_
  refine Wp.seq ?_
  refine Wp.seq (Wp.region ?_)
  refine OWp.evs 2 rfl ?_
  refine OWp.nil ?_
  refine Wp.cond rfl (fun h1 => ?_) (fun h1 => ?_)
  · have h1 := ndT h1
    rw [if_pos (by omega)] at H
    refine Wp.seq (Wp.region ?_)
    refine OWp.evs 3 rfl ?_
    refine OWp.nil ?_
    refine Wp.ret ⟨trivial, _, ⟨_, _, rfl, rfl, _, _, rfl, rfl, rfl⟩, ?_⟩
    exact H
  have h1 := ndF h1
  rw [if_neg (by omega)] at H
  refine Wp.skip ?_
  refine Wp.seq ?_
  refine Wp.seq (Wp.region ?_)
  refine OWp.evs 1 rfl ?_
  refine OWp.g rfl rfl (Gives.build rfl rfl) ?_
  refine OWp.step rfl (Step.call rfl rfl rfl rfl rfl rfl ((rbytesEqC (n := 0) (nmV_small (by decide)).symm (by decide +kernel) ?_)))
  refine OWp.evs 1 rfl ?_
  refine OWp.nil ?_
  refine Wp.cond rfl (fun h2 => ?_) (fun h2 => ?_)
  · have h2 := of_decide_eq_true h2
    rw [if_pos h2] at H
    refine Wp.seq (Wp.region ?_)
    refine OWp.evs 2 rfl ?_
    refine OWp.nil ?_
    refine Wp.ret ⟨trivial, _, ⟨_, _, rfl, rfl, _, _, rfl, rfl, rfl⟩, ?_⟩
    exact H
  have h2 := of_decide_eq_false h2
  rw [if_neg h2] at H
  have e : (timesR k u).2 = 0 := by omega
  rw [e] at H
  refine Wp.skip ?_
  refine Wp.seq (Wp.region ?_)
  refine OWp.evs 3 rfl ?_
  refine OWp.nil ?_
  refine Wp.ret ⟨trivial, _, ⟨_, _, rfl, rfl, _, _, rfl, rfl, rfl⟩, ?_⟩
  exact H
set_option maxHeartbeats 2000000 in
theorem rchainC {u : List UInt8} {ks : List (List UInt8)} {v : Value} (hr : Reads S 1 v ks.length (strs ks)) (hl : ks.length ≤ 1099511627776) (H : Q (.tuple #[.string (str (chainR u ks).1), .int .i64 ((chainR u ks).2 : Nat)]) S) : CallWp Tryz.prog B 72 #[.string (str u), v] Q S := by
  obtain ⟨va, vc, rfl⟩ := hr.form
  unfold chainR at H
  refine CallWp.enter (args := [_, _]) Tryz.func72 rfl Tryz.ntmps72 rfl ?_
  refine Wp.seq (Wp.region ?_)
  refine OWp.evs 2 rfl ?_
  refine OWp.nil ?_
  refine Wp.seq ?_
  refine Wp.seq (Wp.region ?_)
  refine OWp.evs 3 rfl ?_
  refine OWp.nil ?_
  refine Wp.cond rfl (fun h0 => ?_) (fun h0 => ?_)
  · have h0 := ndT h0
    rw [if_pos (fun h => h0 (by rw [h u (List.mem_cons_self ..)]; rfl))] at H
    refine Wp.seq (Wp.region ?_)
    refine OWp.evs 2 rfl ?_
    refine OWp.nil ?_
    refine Wp.ret ⟨trivial, _, ⟨_, _, rfl, rfl, _, _, rfl, rfl, rfl⟩, ?_⟩
    exact H
  have h0 := ndF h0
  have hu : u.length = 32 := by omega
  refine Wp.skip ?_
  refine Wp.seq ?_
  refine Wp.seq (Wp.region ?_)
  refine OWp.evs 1 rfl ?_
  refine OWp.nil ?_
  refine Wp.block ?_
  refine Wp.loopS (α := Nat) (fun i => ks.length - i) (fun i => [(0, .string (str u)), (1, .slice va ks.length vc), (6, .int .i64 (i : Int))]) (fun _ => S) (fun i => i ≤ ks.length ∧ ∀ s ∈ ks.take i, s.length = 32) 0 ?_ (.refl _) ⟨Nat.zero_le _, by simp⟩ ?_
  · exact .cons rfl (.cons rfl (.cons rfl (.nil _)))
  rintro i ⟨hi, hall⟩
  refine Wp.seq ?_
  refine Wp.seq (Wp.region ?_)
  refine OWp.evs 4 rfl ?_
  refine OWp.nil ?_
  refine Wp.cond rfl (fun h1 => ?_) (fun h1 => ?_)
  · have h1 := of_decide_eq_true h1
    have hi1 : i < ks.length := by omega
    obtain ⟨b2, o2, c2, l2, t2, f2, hv2, hm2, _, hg2⟩ := hr.get1 (by omega)
    cases hv2
    have hgi : l2[o2 + i * 1]? = some (.string (str ks[i])) := by rw [hg2 i hi1]; exact strs_at hi1
    refine Wp.skip ?_
    refine Wp.seq ?_
    refine Wp.block ?_
    refine Wp.seq (Wp.region ?_)
    refine OWp.evs 2 rfl ?_
    refine OWp.g rfl rfl (Gives.indexAddrSlice (i) rfl rfl rfl rfl rfl rfl (by omega)) ?_
    refine OWp.load hm2 rfl rfl rfl rfl hgi ?_
    refine OWp.evs 2 rfl ?_
    refine OWp.nil ?_
    refine Wp.cond rfl (fun h2 => ?_) (fun h2 => ?_)
    · have h2 := ndT h2
      have hno : ¬ ∀ s ∈ u :: ks, s.length = 32 := fun h => h2 (by have := h _ (List.mem_cons_of_mem _ (List.getElem_mem hi1)); omega)
      rw [if_pos hno] at H
      refine Wp.seq (Wp.region ?_)
      refine OWp.evs 2 rfl ?_
      refine OWp.nil ?_
      refine Wp.ret ⟨trivial, _, ⟨_, _, rfl, rfl, _, _, rfl, rfl, rfl⟩, ?_⟩
      exact H
    have h2 := ndF h2
    refine Wp.skip ?_
    refine Wp.region ?_
    refine OWp.evs 3 rfl ?_
    refine OWp.nil ?_
    refine ⟨i + 1, by omega, ⟨by omega, ?_⟩, .cons rfl (.cons rfl (.cons' rfl (int_eq (by rw [i64_id] <;> omega)) (.nil _))), .refl _⟩
    intro s hs
    rw [List.take_succ_eq_append_getElem hi1] at hs
    rcases List.mem_append.1 hs with hs | hs
    · exact hall s hs
    · rw [List.mem_singleton.1 hs]; omega
  have h1 := of_decide_eq_false h1
  obtain rfl : i = ks.length := by omega
  rw [List.take_length] at hall
  rw [if_neg (fun hx => hx fun s hs => by rcases List.mem_cons.1 hs with rfl | hs; exact hu; exact hall s hs)] at H
  refine Wp.exit ?_
  refine Wp.seq ?_
  refine Wp.seq (Wp.region ?_)
  refine OWp.evs 3 rfl ?_
  refine OWp.nil ?_
  refine Wp.cond rfl (fun h3 => ?_) (fun h3 => ?_)
  · have h3 := of_decide_eq_true h3
    rw [if_pos (by omega)] at H
    refine Wp.seq (Wp.region ?_)
    refine OWp.evs 2 rfl ?_
    refine OWp.nil ?_
    refine Wp.ret ⟨trivial, _, ⟨_, _, rfl, rfl, _, _, rfl, rfl, rfl⟩, ?_⟩
    exact H
  have h3 := of_decide_eq_false h3
  rw [if_neg (by omega)] at H
  refine Wp.skip ?_
  refine Wp.seq ?_
  refine Wp.seq (Wp.region ?_)
  refine OWp.evs 1 rfl ?_
  refine OWp.nil ?_
  refine Wp.block ?_
  refine Wp.loopS (α := Nat × List UInt8) (fun z => ks.length - z.1) (fun z => [(0, .string (str z.2)), (1, .slice va ks.length vc), (7, .int .i64 (z.1 : Int))]) (fun _ => S) (fun z => z.1 ≤ ks.length ∧ chainGo u ks = chainGo z.2 (ks.drop z.1)) (0, u) ?_ (.refl _) ⟨Nat.zero_le _, rfl⟩ ?_
  · exact .cons rfl (.cons rfl (.cons rfl (.nil _)))
  rintro ⟨i, x⟩ ⟨hi, hc⟩
  simp only at hi hc ⊢
  refine Wp.seq ?_
  refine Wp.seq (Wp.region ?_)
  refine OWp.evs 4 rfl ?_
  refine OWp.nil ?_
  refine Wp.cond rfl (fun h4 => ?_) (fun h4 => ?_)
  · have h4 := of_decide_eq_true h4
    have hi1 : i < ks.length := by omega
    have hcc := chainGo_take ks hi1 hc
    obtain ⟨b2, o2, c2, l2, t2, f2, hv2, hm2, _, hg2⟩ := hr.get1 (by omega)
    cases hv2
    have hgi : l2[o2 + i * 1]? = some (.string (str ks[i])) := by rw [hg2 i hi1]; exact strs_at hi1
    refine Wp.skip ?_
    refine Wp.seq ?_
    refine Wp.block ?_
    refine Wp.seq (Wp.region ?_)
    refine OWp.evs 2 rfl ?_
    refine OWp.g rfl rfl (Gives.indexAddrSlice (i) rfl rfl rfl rfl rfl rfl (by omega)) ?_
    refine OWp.load hm2 rfl rfl rfl rfl hgi ?_
    refine OWp.evs 1 rfl ?_
    refine OWp.step rfl (Step.call rfl rfl rfl rfl rfl rfl ((rsharedC ?_)))
    refine OWp.evs 5 rfl ?_
    refine OWp.nil ?_
    refine Wp.seq ?_
    refine Wp.seq (Wp.region ?_)
    refine OWp.evs 2 rfl ?_
    refine OWp.nil ?_
    refine Wp.cond rfl (fun h5 => ?_) (fun h5 => ?_)
    · have h5 := ndT h5
      rw [if_pos (by omega)] at hcc
      rw [hcc] at H
      refine Wp.seq (Wp.region ?_)
      refine OWp.evs 3 rfl ?_
      refine OWp.nil ?_
      refine Wp.ret ⟨trivial, _, ⟨_, _, rfl, rfl, _, _, rfl, rfl, rfl⟩, ?_⟩
      exact H
    have h5 := ndF h5
    rw [if_neg (by omega)] at hcc
    refine Wp.skip ?_
    refine Wp.region ?_
    refine OWp.evs 2 rfl ?_
    refine OWp.nil ?_
    refine Wp.region ?_
    refine OWp.evs 3 rfl ?_
    refine OWp.nil ?_
    exact ⟨(i + 1, (sharedR ks[i] x).1), by simp only; omega, ⟨by simp only; omega, hcc⟩, .cons rfl (.cons rfl (.cons' rfl (int_eq (by simp only; rw [i64_id] <;> omega)) (.nil _))), .refl _⟩
  have h4 := of_decide_eq_false h4
  obtain rfl : i = ks.length := by omega
  rw [List.drop_length] at hc
  rw [hc] at H
  refine Wp.exit ?_
  refine Wp.seq (Wp.region ?_)
  refine OWp.evs 3 rfl ?_
  refine OWp.nil ?_
  refine Wp.ret ⟨trivial, _, ⟨_, _, rfl, rfl, _, _, rfl, rfl, rfl⟩, ?_⟩
  exact H
end
end Go.Proofs.D
