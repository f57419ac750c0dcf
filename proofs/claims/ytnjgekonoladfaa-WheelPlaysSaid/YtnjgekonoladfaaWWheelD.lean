/- What functions of the given program do, one after the other, told by that layer. -/
import Derived.Test.YtnjgekonoladfaaWWheelC
namespace Go.Proofs.E
open Go.Lg Go.Whl
set_option maxRecDepth 100000

def tab8 : List UInt8 := [0, 1, 2, 2, 3, 3, 3, 3, 4, 4, 4, 4, 4, 4, 4, 4, 5, 5, 5, 5, 5, 5, 5, 5, 5, 5, 5, 5, 5, 5, 5, 5, 6, 6, 6, 6, 6, 6, 6, 6, 6, 6, 6, 6, 6, 6, 6, 6, 6, 6, 6, 6, 6, 6, 6, 6, 6, 6, 6, 6, 6, 6, 6, 6, 7, 7, 7, 7, 7, 7, 7, 7, 7, 7, 7, 7, 7, 7, 7, 7, 7, 7, 7, 7, 7, 7, 7, 7, 7, 7, 7, 7, 7, 7, 7, 7, 7, 7, 7, 7, 7, 7, 7, 7, 7, 7, 7, 7, 7, 7, 7, 7, 7, 7, 7, 7, 7, 7, 7, 7, 7, 7, 7, 7, 7, 7, 7, 7, 8, 8, 8, 8, 8, 8, 8, 8, 8, 8, 8, 8, 8, 8, 8, 8, 8, 8, 8, 8, 8, 8, 8, 8, 8, 8, 8, 8, 8, 8, 8, 8, 8, 8, 8, 8, 8, 8, 8, 8, 8, 8, 8, 8, 8, 8, 8, 8, 8, 8, 8, 8, 8, 8, 8, 8, 8, 8, 8, 8, 8, 8, 8, 8, 8, 8, 8, 8, 8, 8, 8, 8, 8, 8, 8, 8, 8, 8, 8, 8, 8, 8, 8, 8, 8, 8, 8, 8, 8, 8, 8, 8, 8, 8, 8, 8, 8, 8, 8, 8, 8, 8, 8, 8, 8, 8, 8, 8, 8, 8, 8, 8, 8, 8, 8, 8, 8, 8, 8, 8, 8, 8, 8, 8, 8, 8, 8, 8]
theorem tab8_at {z : Nat} (h : z < 256) : ∃ b, tab8[z]? = some b ∧ (z ≠ 0 → b.toNat ≠ 0) := by
  have : ∀ z, z < 256 → ((tab8[z]?).isSome && (z == 0 || (tab8.getD z 0).toNat != 0)) = true := by decide +kernel
  have h1 := this z h
  rw [Bool.and_eq_true] at h1
  obtain ⟨b, hb⟩ := Option.isSome_iff_exists.1 h1.1
  refine ⟨b, hb, fun hz => ?_⟩
  have h2 := h1.2
  rw [List.getD_eq_getElem?_getD, hb] at h2
  simpa [hz] using h2

section
variable {B : Nat} {S R : Ents} {Q : Value → Ents → Prop}

theorem bitsLenC {n : Nat} {zn : Int} (hzn : zn = (n : Int)) (hn : n ≤ 60000) (H : ∀ k : Int, (n = 0 ∨ k ≠ 0) → Q (.int .i64 k) S) : CallWp Try.prog B 47 #[.int .u64 zn] Q S := by
  subst hzn
  refine CallWp.enter (args := [_]) Try.func47 rfl Try.ntmps47 rfl ?_
  refine Wp.seq (Wp.region ?_)
  refine OWp.evs 1 rfl ?_
  refine OWp.nil ?_
  refine Wp.seq ?_
  refine Wp.seq (Wp.region ?_)
  refine OWp.evs 2 rfl ?_
  refine OWp.nil ?_
  refine Wp.cond rfl (fun cc1 => absurd (of_decide_eq_true cc1) (by omega)) (fun cc1 => ?_)
  have cc1 := of_decide_eq_false cc1
  refine Wp.skip ?_
  refine Wp.seq ?_
  refine Wp.seq (Wp.region ?_)
  refine OWp.evs 2 rfl ?_
  refine OWp.nil ?_
  refine Wp.cond rfl (fun cc2 => absurd (of_decide_eq_true cc2) (by omega)) (fun cc2 => ?_)
  have cc2 := of_decide_eq_false cc2
  refine Wp.skip ?_
  refine Wp.seqS (α := Nat × Nat) (fun z => [(0, .int .u64 (z.1 : Int)), (2, .int .i64 (z.2 : Int))]) (fun _ => S) (fun z => z.1 < 256 ∧ z.2 ≤ 8 ∧ (n = 0 ∨ z.1 ≠ 0)) ?_ ?_
  · skip
    refine Wp.seq (Wp.region ?_)
    refine OWp.evs 2 rfl ?_
    refine OWp.nil ?_
    refine Wp.cond rfl (fun h1 => ?_) (fun h1 => ?_)
    · have h1 := of_decide_eq_true h1
      refine Wp.seq (Wp.region ?_)
      refine OWp.evs 3 rfl ?_
      refine OWp.nil ?_
      refine Wp.region ?_
      refine OWp.evs 3 rfl ?_
      refine OWp.nil ?_
      refine ⟨(n / 256, 8), ⟨by simp only; omega, by simp only; omega, by simp only; omega⟩, .cons' rfl (int_eq ?_) (.cons' rfl (int_eq (by show IntKind.i64.wrap (0 + 8) = 8; decide)) (.nil _)), .refl _⟩
      rw [Int.fdiv_eq_ediv_of_nonneg _ (by decide)]; rfl
    have h1 := of_decide_eq_false h1
    refine Wp.skip ?_
    exact ⟨(n, 0), ⟨by simp only; omega, by simp only; omega, by simp only; omega⟩, .cons rfl (.cons rfl (.nil _)), .refl _⟩
  rintro ⟨z, k⟩ ⟨hz, hk, hnz⟩
  simp only at hz hk hnz ⊢
  obtain ⟨b, hb, hb0⟩ := tab8_at hz
  have hbl := b.toNat_lt
  have ez : IntKind.u8.wrap (z : Int) = (z : Int) := by rw [IntKind.wrap_u8]; omega
  refine Wp.seq (Wp.region ?_)
  refine OWp.evs 3 rfl ?_
  refine OWp.g rfl rfl (Gives.indexStr (b := b) rfl rfl rfl rfl (by rw [ez]; omega) (by rw [ez]; exact hb)) ?_
  refine OWp.evs 3 rfl ?_
  refine OWp.nil ?_
  refine Wp.ret ⟨trivial, _, ⟨_, _, rfl, rfl, rfl⟩, ?_⟩
  refine H _ ?_
  rcases hnz with h | h
  · exact .inl h
  · have := hb0 h
    right
    rw [i64_id (x := ((b.toNat : Nat) : Int)) (by omega) (by omega), i64_id (by omega) (by omega)]
    omega
theorem bitsLen0C {n : Nat} {zn : Int} (hzn : zn = (n : Int)) (hn : n ≤ 60000) (H : ∀ k : Int, (n = 0 ∨ k ≠ 0) → Q (.int .i64 k) S) : CallWp Try.prog B 37 #[.int .u64 zn] Q S := by
  subst hzn
  refine CallWp.enter (args := [_]) Try.func37 rfl Try.ntmps37 rfl ?_
  refine Wp.seq (Wp.region ?_)
  refine OWp.evs 1 rfl ?_
  refine OWp.nil ?_
  refine Wp.seq ?_
  refine Wp.cond rfl (fun c => nomatch c) (fun _ => ?_)
  refine Wp.skip ?_
  refine Wp.seq (Wp.region ?_)
  refine OWp.evs 1 rfl ?_
  refine OWp.step rfl (Step.call rfl rfl rfl rfl rfl rfl ((bitsLenC rfl hn ?_)))
  intro k hk
  refine OWp.evs 1 rfl ?_
  refine OWp.nil ?_
  refine Wp.ret ⟨trivial, _, ⟨_, _, rfl, rfl, rfl⟩, ?_⟩
  exact H k hk
theorem sortC {l : List T} {va : Option Addr} {vc : Nat} (hl : Reads S 3 (.slice va l.length vc) l.length (tcs l)) (ho : InOrder l) (hs : l.length ≤ 60000) (H : Q (.tuple #[]) S) :
    CallWp Try.prog B 35 #[.slice va l.length vc, ordV] Q S := by
  refine CallWp.enter (args := [_, _]) Try.func35 rfl Try.ntmps35 rfl ?_
  refine Wp.seq (Wp.region ?_)
  refine OWp.evs 3 rfl ?_
  refine OWp.nil ?_
  refine Wp.region ?_
  refine OWp.evs 4 rfl ?_
  refine OWp.step rfl (Step.call rfl rfl rfl rfl rfl rfl ((bitsLen0C (n := l.length) (by rw [IntKind.wrap_u64]; omega) hs ?_)))
  intro k hk
  refine OWp.evs 1 rfl ?_
  refine OWp.step rfl (Step.call rfl rfl rfl rfl rfl rfl ((pdqC (by omega) hl ho (by omega) ?_)))
  refine OWp.nil ?_
  refine ⟨trivial, [], rfl, ?_⟩
  exact H
theorem minC {l : List T} {va : Option Addr} {vc : Nat} (hl : Reads S 3 (.slice va l.length vc) l.length (tcs l)) (h0 : 0 < l.length) (hs : l.length ≤ 60000) (hsm : ∀ t ∈ l, Small t) (H : ∀ t ∈ l, (∀ u ∈ l, t.due ≤ u.due) → Q (.agg (tc t).toArray) S) :
    CallWp Try.prog B 33 #[.slice va l.length vc, ordV] Q S := by
  obtain ⟨b1, o1, c1, L, e, fz, hv, hm, hat⟩ := timer_at hl h0
  cases hv
  have h00 := hat 0 h0
  refine CallWp.dropRet ?_
  refine CallWp.enter (args := [_, _]) Try.func33 rfl Try.ntmps33 rfl ?_
  refine Wp.seq (Wp.region ?_)
  refine OWp.step rfl (Step.alloc rfl rfl rfl ?_); intro L4 hBL4 hLL4
  refine OWp.nil ?_
  refine Wp.seq ?_
  refine Wp.seq (Wp.region ?_)
  refine OWp.evs 3 rfl ?_
  refine OWp.nil ?_
  refine Wp.cond rfl (fun cc1 => absurd (of_decide_eq_true cc1) (by omega)) (fun cc1 => ?_)
  have cc1 := of_decide_eq_false cc1
  refine Wp.skip ?_
  refine Wp.seq (Wp.region ?_)
  refine OWp.evs 1 rfl ?_
  refine OWp.g rfl rfl (Gives.indexAddrSlice (0) rfl rfl rfl rfl rfl rfl (by omega)) ?_
  refine OWp.load (.tail _ hm) rfl rfl rfl rfl (hat 0 h0) ?_
  refine OWp.step rfl (Step.alloc rfl rfl rfl ?_); intro L5 hBL5 hLL5
  refine OWp.step rfl (Step.storeAs 0 (tc l[0]) rfl rfl rfl rfl rfl hBL5 rfl (Unfz.zero _) rfl (Nat.le_of_ble_eq_true rfl) rfl rfl ?_)
  refine OWp.nil ?_
  refine Wp.seq ?_
  refine Wp.seq (Wp.region ?_)
  refine OWp.evs 1 rfl ?_
  refine OWp.nil ?_
  refine Wp.block ?_
  refine Wp.loopS (α := Nat × T) (fun z => l.length - z.1) (fun z => [(0, .slice (some ⟨b1, o1, none⟩) l.length vc), (1, ordV), (4, pt L4), (5, pt L5), (6, .int .i64 (z.1 : Int))]) (fun z => (L5, cel (tc z.2) 59) :: (L4, cel [.int .i64 0, .int .i64 0, .int .i64 0] 59) :: S) (fun z => 1 ≤ z.1 ∧ z.1 ≤ l.length ∧ z.2 ∈ l ∧ ∀ k (hk : k < l.length), k < z.1 → z.2.due ≤ l[k].due) (1, l[0]) ?_ (.refl _) ⟨Nat.le_refl _, h0, List.getElem_mem h0, fun k hk h1 => by simp only at h1; obtain rfl : k = 0 := (by omega); exact Nat.le_refl _⟩ ?_
  · exact .cons rfl (.cons rfl (.cons rfl (.cons rfl (.cons rfl (.nil _)))))
  rintro ⟨i, t⟩ ⟨hi1, hi, ht, hmin⟩
  simp only at hi1 hi ht hmin ⊢
  refine Wp.seq ?_
  refine Wp.seq (Wp.region ?_)
  refine OWp.evs 4 rfl ?_
  refine OWp.nil ?_
  refine Wp.cond rfl (fun h1 => ?_) (fun h1 => ?_)
  · have h1 := of_decide_eq_true h1
    have hi2 : i < l.length := by omega
    have hli := hsm l[i] (List.getElem_mem hi2)
    have hlt := hsm t ht
    refine Wp.skip ?_
    refine Wp.seq ?_
    refine Wp.block ?_
    refine Wp.seq (Wp.regionDraw [0, 1, 2, 3, 4, 5, 6, 7] [6] rfl (by decide +kernel) ?_)
    refine DWp.evs 3 rfl ?_
    refine DWp.g rfl rfl rfl rfl (Gives.indexAddrSlice (i) rfl rfl rfl rfl rfl rfl (by omega)) ?_
    refine DWp.load (.tail _ (.tail _ hm)) rfl rfl rfl rfl rfl rfl (hat i hi2) ?_
    refine DWp.load (.head _) rfl rfl rfl rfl rfl rfl rfl ?_
    refine DWp.stepGrow rfl rfl rfl (Step.call rfl rfl rfl rfl rfl rfl ((orderC hli hlt ?_)))
    refine ⟨fun _ hy => hy, ?_⟩
    refine DWp.evs 1 rfl ?_
    refine DWp.nil ?_
    refine Wp.cond rfl (fun h2 => ?_) (fun h2 => ?_)
    · have h2 := of_decide_eq_true h2
      refine Wp.region ?_
      refine OWp.evs 2 rfl ?_
      refine OWp.g rfl rfl (Gives.indexAddrSlice (i) rfl rfl rfl rfl rfl rfl (by omega)) ?_
      refine OWp.load (.tail _ (.tail _ hm)) rfl rfl rfl rfl (hat i hi2) ?_
      refine OWp.step rfl (Step.storeAs 0 (tc l[i]) rfl rfl rfl rfl rfl hBL5 rfl (Unfz.zero _) rfl (Nat.le_of_ble_eq_true rfl) rfl rfl ?_)
      refine OWp.nil ?_
      refine Wp.region ?_
      refine OWp.evs 3 rfl ?_
      refine OWp.nil ?_
      have hle : l[i].due ≤ t.due := by unfold ordI at h2; split at h2 <;> omega
      refine ⟨(i + 1, l[i]), by simp only; omega, ⟨by simp only; omega, by simp only; omega, List.getElem_mem hi2, fun k hk hki => ?_⟩, .cons rfl (.cons rfl (.cons rfl (.cons rfl (.cons' rfl (int_eq (i64_inc (by omega))) (.nil _))))), .refl _⟩
      simp only at hki ⊢
      rcases Nat.lt_or_ge k i with h | h
      · exact Nat.le_trans hle (hmin k hk h)
      · obtain rfl : k = i := by omega
        exact Nat.le_refl _
    have h2 := of_decide_eq_false h2
    refine Wp.skip ?_
    refine Wp.region ?_
    refine OWp.evs 3 rfl ?_
    refine OWp.nil ?_
    have hle : t.due ≤ l[i].due := by unfold ordI at h2; split at h2 <;> omega
    refine ⟨(i + 1, t), by simp only; omega, ⟨by simp only; omega, by simp only; omega, ht, fun k hk hki => ?_⟩, .cons rfl (.cons rfl (.cons rfl (.cons rfl (.cons' rfl (int_eq (i64_inc (by omega))) (.nil _))))), .refl _⟩
    simp only at hki ⊢
    rcases Nat.lt_or_ge k i with h | h
    · exact hmin k hk h
    · obtain rfl : k = i := by omega
      exact hle
  have h1 := of_decide_eq_false h1
  obtain rfl : i = l.length := by omega
  refine Wp.exit ?_
  refine Wp.seq (Wp.region ?_)
  refine OWp.load (.head _) rfl rfl rfl rfl rfl ?_
  refine OWp.step rfl (Step.storeAs 1 (tc t) rfl rfl rfl rfl rfl hBL4 rfl (Unfz.zero _) rfl (Nat.le_of_ble_eq_true rfl) rfl rfl ?_)
  have hp : Lg.partAt Try.prog 59 (tc t) 0 = some (.agg (tc t).toArray) := rfl
  refine OWp.nil ?_
  refine Wp.ret ⟨trivial, _, ⟨_, _, _, _, rfl, rfl, ⟨_, _, _, (by repeat (first | exact List.Mem.head _ | assumption | apply List.mem_cons_of_mem | apply List.mem_append_right)), (by first | assumption | rfl)⟩, rfl⟩, ?_⟩
  refine ⟨S, (by repeat (first | exact List.Sublist.refl _ | exact List.sublist_append_right _ _ | apply List.Sublist.cons)), H t ht fun u hu => ?_⟩
  obtain ⟨k, hk, rfl⟩ := List.mem_iff_getElem.1 hu
  exact hmin k hk hk
abbrev isV (L : Nat) : Value := .func (.func 29) #[] #[pt L]
theorem isC {L : Nat} {t : T} {number : Int} (hm : (L, cel [.int .i64 number] 3) ∈ S) (H : Q (.bool (decide ((t.no : Int) = number))) S) : CallWp Try.prog B 29 #[.agg (tc t).toArray, pt L] Q S := by
  refine CallWp.dropRet ?_
  refine CallWp.enter (args := [_, _]) Try.func29 rfl Try.ntmps29 rfl ?_
  refine Wp.seq (Wp.region ?_)
  refine OWp.step rfl (Step.box rfl rfl rfl ?_); intro L2 hBL2 hLL2
  refine OWp.evs 1 rfl ?_
  refine OWp.nil ?_
  refine Wp.seq (Wp.region ?_)
  refine OWp.evs 1 rfl ?_
  refine OWp.load (.head _) rfl rfl rfl rfl rfl ?_
  refine OWp.load (.tail _ hm) rfl rfl rfl rfl rfl ?_
  refine OWp.evs 2 rfl ?_
  refine OWp.nil ?_
  refine Wp.ret ⟨trivial, _, ⟨_, _, rfl, rfl, rfl⟩, ?_⟩
  exact ⟨S, (by repeat (first | exact List.Sublist.refl _ | exact List.sublist_append_right _ _ | apply List.Sublist.cons)), H⟩
theorem indexC {l : List T} {va : Option Addr} {vc L : Nat} {number : Int} (hm : (L, cel [.int .i64 number] 3) ∈ S) (hl : Reads S 3 (.slice va l.length vc) l.length (tcs l)) (hs : l.length ≤ 60000)
    (H1 : ∀ i (hi : i < l.length), (l[i].no : Int) = number → Q (.int .i64 (i : Int)) S) (H2 : (∀ t ∈ l, (t.no : Int) ≠ number) → Q (.int .i64 (-1)) S) :
    CallWp Try.prog B 28 #[.slice va l.length vc, isV L] Q S := by
  refine CallWp.enter (args := [_, _]) Try.func28 rfl Try.ntmps28 rfl ?_
  refine Wp.seq (Wp.region ?_)
  refine OWp.evs 1 rfl ?_
  refine OWp.nil ?_
  refine Wp.seq ?_
  refine Wp.seq (Wp.region ?_)
  refine OWp.evs 3 rfl ?_
  refine OWp.nil ?_
  refine Wp.block ?_
  refine Wp.loopS (α := Nat) (fun i => l.length - i) (fun i => [(0, .slice va l.length vc), (1, isV L), (7, .int .i64 (l.length : Int)), (8, .int .i64 (i : Int))]) (fun _ => S) (fun i => i ≤ l.length ∧ ∀ k (hk : k < l.length), k < i → (l[k].no : Int) ≠ number) 0 ?_ (.refl _) ⟨Nat.zero_le _, fun _ _ h => by omega⟩ ?_
  · exact .cons rfl (.cons rfl (.cons rfl (.cons rfl (.nil _))))
  rintro i ⟨hi, hno⟩
  refine Wp.seq (Wp.region ?_)
  refine OWp.evs 1 rfl ?_
  refine OWp.nil ?_
  refine Wp.seq ?_
  refine Wp.cond rfl (fun h1 => ?_) (fun h1 => ?_)
  · have h1 := of_decide_eq_true h1
    have hi2 : i < l.length := by omega
    obtain ⟨b1, o1, c1, L1, e, fz, hv, hm1, hat⟩ := timer_at hl (by omega)
    cases hv
    refine Wp.skip ?_
    refine Wp.seq ?_
    refine Wp.block ?_
    refine Wp.seq (Wp.region ?_)
    refine OWp.evs 2 rfl ?_
    refine OWp.nil ?_
    refine Wp.seq (Wp.region ?_)
    refine OWp.evs 3 rfl ?_
    refine OWp.g rfl rfl (Gives.indexAddrSlice (i) rfl rfl rfl rfl rfl rfl (by omega)) ?_
    refine OWp.load hm1 rfl rfl rfl rfl (hat i hi2) ?_
    refine OWp.step rfl (Step.call rfl rfl rfl rfl rfl rfl ((isC hm ?_)))
    refine OWp.nil ?_
    refine Wp.cond rfl (fun h2 => ?_) (fun h2 => ?_)
    · have h2 := of_decide_eq_true h2
      refine Wp.seq (Wp.region ?_)
      refine OWp.evs 2 rfl ?_
      refine OWp.nil ?_
      refine Wp.ret ⟨trivial, _, ⟨_, _, rfl, rfl, rfl⟩, ?_⟩
      exact H1 i hi2 h2
    have h2 := of_decide_eq_false h2
    refine Wp.skip ?_
    refine Wp.region ?_
    refine OWp.evs 2 rfl ?_
    refine OWp.nil ?_
    refine ⟨i + 1, by omega, ⟨by omega, fun k hk hki => ?_⟩, .cons rfl (.cons rfl (.cons rfl (.cons' rfl (int_eq (i64_inc (by omega))) (.nil _)))), .refl _⟩
    rcases Nat.lt_or_ge k i with h | h
    · exact hno k hk h
    · obtain rfl : k = i := by omega
      exact h2
  have h1 := of_decide_eq_false h1
  obtain rfl : i = l.length := by omega
  refine Wp.exit ?_
  refine Wp.seq (Wp.region ?_)
  refine OWp.evs 1 rfl ?_
  refine OWp.nil ?_
  refine Wp.ret ⟨trivial, _, ⟨_, _, rfl, rfl, rfl⟩, ?_⟩
  refine H2 fun t ht => ?_
  obtain ⟨k, hk, rfl⟩ := List.mem_iff_getElem.1 ht
  exact hno k hk hk
set_option maxHeartbeats 1000000 in
theorem deleteC {l : List T} {v : Value} {es : Ents} {i : Nat} {zi : Int} (hzi : zi = ((i + 1 : Nat) : Int)) (hown : Own B 59 3 v l.length (tcs l) es) (hi : i < l.length) (hs : l.length ≤ 60000)
    (H : ∀ v' es', Own B 59 3 v' (l.length - 1) (tcs (l.take i ++ l.drop (i + 1))) es' → Q v' (es' ++ S)) :
    CallWp Try.prog B 30 #[v, .int .i64 (i : Int), .int .i64 zi] Q (es ++ S) := by
  subst hzi
  obtain ⟨hl, ⟨_, h0, _⟩ | ⟨b, cap, cur, rfl, rfl, hB, hk, hmx, hcl, htk⟩⟩ := hown
  · omega
  have h3 : l.length - 1 + 1 = l.length := by omega
  have hc3 : cur.length = cap * 3 := hcl
  have hdl : (l.drop (i + 1)).length = l.length - (i + 1) := List.length_drop
  have hcur : ∀ k, k ≤ l.length → cur.take (k * 3) = tcs (l.take k) := fun k hk2 => by
    have := congrArg (List.take (k * 3)) htk
    rw [List.take_take, Nat.min_eq_left (by omega), tcs_take] at this
    exact this
  have hnews : Reads ((b, cel cur 59) :: S) 3 (.slice (some ⟨b, if cap = i + 1 then 0 else 0 + (i + 1) * 3, none⟩) (l.length - (i + 1)) (cap - (i + 1))) (l.length - (i + 1)) (tcs (l.drop (i + 1))) := by
    refine ⟨by rw [tcs_len, hdl], ?_⟩
    by_cases hz : l.length - (i + 1) = 0
    · left; rw [hz]; exact ⟨⟨_, _, rfl⟩, rfl⟩
    · right
      rw [if_neg (by omega)]
      refine ⟨b, 0 + (i + 1) * 3, cap - (i + 1), cur, 59, (0, 0), rfl, .head _, by omega, ?_⟩
      rw [← tcs_drop, ← htk, List.drop_take, Nat.zero_add]
      congr 1
      omega
  obtain ⟨cur2, hcur2⟩ : ∃ cur2, cur2 = cur.take (i * 3) ++ tcs (l.drop (i + 1)) ++ cur.drop (i * 3 + (tcs (l.drop (i + 1))).length) := ⟨_, rfl⟩
  have hl2 : (cur.take (i * 3) ++ tcs (l.drop (i + 1))).length = (l.length - 1) * 3 := by
    rw [List.length_append, List.length_take, tcs_len, hdl, hc3]
    omega
  have hcl2 : cur2.length = cap * 3 := by
    rw [hcur2, List.length_append, hl2, List.length_drop, tcs_len, hdl, hc3]
    omega
  have htk2 : cur2.take ((l.length - 1) * 3) = tcs (l.take i ++ l.drop (i + 1)) := by
    rw [hcur2, List.take_left' hl2, hcur i (by omega), tcs_append]
  refine CallWp.enter (args := [_, _, _]) Try.func30 rfl Try.ntmps30 rfl ?_
  refine Wp.seq (Wp.region ?_)
  refine OWp.evs 1 rfl ?_
  refine OWp.nil ?_
  refine Wp.seq (Wp.region ?_)
  refine OWp.evs 5 rfl ?_
  refine OWp.g rfl rfl (Gives.sliceMax (l := i) (h' := i + 1) (m := l.length) rfl rfl rfl rfl ⟨_, _, rfl, rfl⟩ ⟨_, _, rfl, rfl⟩ ⟨_, _, rfl, rfl⟩ (by omega) (by omega) hk) ?_
  refine OWp.nil ?_
  refine Wp.seq ?_
  refine Wp.seq (Wp.region ?_)
  refine OWp.evs 3 rfl ?_
  refine OWp.nil ?_
  refine Wp.cond rfl (fun cc1 => absurd (of_decide_eq_true cc1) (by omega)) (fun cc1 => ?_)
  have cc1 := of_decide_eq_false cc1
  refine Wp.skip ?_
  refine Wp.seq (Wp.region ?_)
  refine OWp.evs 3 rfl ?_
  refine OWp.nil ?_
  refine Wp.seq (Wp.regionDraw [0, 1, 2, 3, 4, 5, 6, 7] [6] rfl (by decide +kernel) ?_)
  refine DWp.evs 2 rfl ?_
  refine DWp.g rfl rfl rfl rfl (Gives.sliceSlice (l := 0) (h' := i) rfl rfl rfl rfl rfl ⟨_, _, rfl, rfl⟩ (by omega) (by omega) (.inr rfl)) ?_
  refine DWp.evs 2 rfl ?_
  refine DWp.g rfl rfl rfl rfl (Gives.sliceEnd (l := i + 1) (h' := l.length) rfl rfl rfl rfl ⟨_, _, rfl, rfl⟩ rfl (by omega) hk) ?_
  refine DWp.stepAll rfl rfl rfl rfl (Step.appendRoom (k := i) (gcap := cap) (m := l.length - (i + 1)) (news := tcs (l.drop (i + 1))) (cur := cur) 0 rfl rfl rfl rfl rfl rfl rfl hB (by omega) hcl hnews (tcs_cells _) rfl ?_)
  refine DWp.evs 1 rfl ?_
  refine DWp.nil ?_
  have ee : i + (l.length - (i + 1)) = l.length - 1 := by omega
  rw [ee]
  show Wp _ _ _ _ _ _ ((b, cel (cur.take (i * 3) ++ tcs (l.drop (i + 1)) ++ cur.drop (i * 3 + (tcs (l.drop (i + 1))).length)) 59) :: S)
  rw [← hcur2]
  refine Wp.seq (Wp.region ?_)
  refine OWp.evs 4 rfl ?_
  refine OWp.g rfl rfl (Gives.sliceSlice (l := l.length - 1) (h' := l.length) rfl rfl rfl rfl ⟨_, _, rfl, rfl⟩ ⟨_, _, rfl, rfl⟩ (by omega) hk (by omega)) ?_
  refine OWp.step rfl (Step.clear (k := l.length - (l.length - 1)) 0 (wr cur2 (0 + (l.length - 1) * 3) (zeros [.int .i64 0, .int .i64 0, .int .i64 0] (l.length - (l.length - 1)))) rfl rfl rfl rfl (by decide) rfl rfl (by omega) rfl hB (Unfz.zero _) (by rw [hcl2]; show 0 + (l.length - 1) * 3 + (l.length - (l.length - 1)) * 3 ≤ _; omega) rfl rfl ?_)
  refine OWp.nil ?_
  refine Wp.seq (Wp.region ?_)
  refine OWp.evs 2 rfl ?_
  refine OWp.nil ?_
  refine Wp.ret ⟨trivial, _, ⟨_, _, rfl, rfl, rfl⟩, ?_⟩
  refine H _ [(b, cel (wr cur2 (0 + (l.length - 1) * 3) (zeros [.int .i64 0, .int .i64 0, .int .i64 0] (l.length - (l.length - 1)))) 59)] ⟨by rw [tcs_len, List.length_append, List.length_take, hdl]; omega, .inr ⟨b, cap, _, rfl, rfl, hB, by omega, hmx, ?_, ?_⟩⟩
  · show (wr _ _ _).length = cap * 3
    unfold wr
    have e3 : ([Value.int .i64 0, .int .i64 0, .int .i64 0] : List Value).length = 3 := rfl
    rw [List.length_append, List.length_append, List.length_take, List.length_drop, zeros_length, hcl2, e3]
    omega
  · unfold wr
    rw [List.append_assoc, List.take_left' (by rw [List.length_take, hcl2]; omega), Nat.zero_add]
    exact htk2
end
end Go.Proofs.E
