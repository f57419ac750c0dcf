/- What functions of the given program do, one after the other, told by that layer. -/
import Derived.Test.YtfimmdafjalonaaDoorBWid2
namespace Go.Proofs.D
open Go.Lg Go.Sha
set_option maxRecDepth 100000

theorem two_bytes {L : Nat} {t : TypeId} {S : Ents} {a b : Int} {x y : UInt8} (ha : a = (x.toNat : Int)) (hb : b = (y.toNat : Int)) :
    Reads ((L, cel [.int .u8 a, .int .u8 b] t) :: S) 1 (.slice (some ⟨L, 0, none⟩) 2 2) 2 (byteCells [x, y]) := by
  subst ha hb; exact Reads.row (k := 2) (sz := 1) (.head _) (Nat.le_of_ble_eq_true rfl)
theorem u8_lo (n : Nat) : IntKind.u8.wrap (n : Int) = ((UInt8.ofNat n).toNat : Int) := by rw [IntKind.wrap_u8, UInt8.toNat_ofNat']; omega
theorem u8_hi (n : Nat) : IntKind.u8.wrap ((n : Int).fdiv (2 ^ (min 8 IntKind.i64.bits))) = ((UInt8.ofNat (n / 256)).toNat : Int) := by
  rw [Int.fdiv_eq_ediv_of_nonneg _ (by decide), ← u8_lo]; rfl
theorem join_hl (a b : UInt8) : bits .or .i64 (IntKind.i64.wrap (IntKind.i64.wrap (a.toNat : Int) * 2 ^ (min 8 IntKind.i64.bits))) (IntKind.i64.wrap (b.toNat : Int)) = ((a.toNat * 256 + b.toNat : Nat) : Int) := by
  have ha := a.toNat_lt
  have hb := b.toNat_lt
  have e : (2 : Int) ^ (min 8 IntKind.i64.bits) = 256 := by decide
  rw [e, i64_id (x := (a.toNat : Int)) (by omega) (by omega), i64_id (x := (b.toNat : Int)) (by omega) (by omega), i64_id (by omega) (by omega)]
  rw [show (a.toNat : Int) * 256 = ((a.toNat * 256 : Nat) : Int) by omega, Go.Lg.i63_or (by omega) (by omega), Nat.or_comm, or_low (i := 8) (by omega), Nat.add_comm]
theorem getD_some {l : List UInt8} {i : Nat} (h : i < l.length) : l[i]? = some (l.getD i 0) := by
  rw [List.getD_eq_getElem?_getD, List.getElem?_eq_getElem h]; rfl

theorem wrapR_ok {key text : List UInt8} {n : Nat} (h1 : 64 ≤ n) (h2 : n ≤ 8192) (h3 : text.length + 34 ≤ n) : wrapR key text n = (wshut key (wplain text n), 0) := by
  unfold wrapR
  rw [if_neg (by omega), if_neg (by omega)]; rfl
theorem unwrapR_ok {key b t : List UInt8} (h1 : 64 ≤ b.length) (h2 : b.length ≤ 8192) (h3 : wtext (wopen key b) = some t) : unwrapR key b = (t, 0) := by
  unfold unwrapR
  rw [if_neg (by omega), if_neg (by omega), h3]; rfl
theorem unwrapR_no {key b : List UInt8} (h1 : 64 ≤ b.length) (h2 : b.length ≤ 8192) (h3 : wtext (wopen key b) = none) : unwrapR key b = ([], 90) := by
  unfold unwrapR
  rw [if_neg (by omega), if_neg (by omega), h3]; rfl
theorem blockR_ok {f : List UInt8 → List UInt8} {b : List UInt8} (h1 : 64 ≤ b.length) (h2 : b.length ≤ 8192) : blockR f b = (f b, 0) := by
  unfold blockR
  rw [if_neg (by omega), if_neg (by omega)]
theorem blockR_short {f : List UInt8 → List UInt8} {b : List UInt8} (h1 : b.length < 64) : blockR f b = ([], 3) := by
  unfold blockR
  rw [if_pos h1]
theorem blockR_long {f : List UInt8 → List UInt8} {b : List UInt8} (h2 : 8192 < b.length) : blockR f b = ([], 2) := by
  unfold blockR
  rw [if_neg (by omega), if_pos h2]

section
variable {B : Nat} {S R : Ents} {Q : Value → Ents → Prop}

theorem wwrapOkC {key text : List UInt8} {n : Nat} (hk : KsIn S) (h1 : key.length + 1000 ≤ big) (h2 : 64 ≤ n) (h3 : n ≤ 8192) (h4 : text.length + 34 ≤ n)
    (H : Q (.tuple #[.string (str (wshut key (wplain text n))), .int .i64 0]) S) :
    CallWp Tryd.prog B 19 #[.string (str key), .string (str text), .int .i64 (n : Int)] Q S := by
  have hb : big = 281474976710656 := rfl
  have e34 : IntKind.i64.wrap ((n : Int) - 34) = ((n - 34 : Nat) : Int) := by rw [i64_id] <;> omega
  have hpl := wplain_len h4
  refine CallWp.enter (args := [_, _, _]) Tryd.func19 rfl Tryd.ntmps19 rfl ?_
  refine Wp.seq (Wp.region ?_)
  refine OWp.evs 2 rfl ?_
  refine OWp.nil ?_
  refine Wp.seq ?_
  refine Wp.block ?_
  refine Wp.seq (Wp.region ?_)
  refine OWp.evs 3 rfl ?_
  refine OWp.nil ?_
  refine Wp.cond rfl (fun cc1 => absurd (of_decide_eq_true cc1) (by omega)) (fun cc1 => ?_)
  have cc1 := of_decide_eq_false cc1
  refine Wp.seq (Wp.region ?_)
  refine OWp.evs 3 rfl ?_
  refine OWp.part 15 rfl (fun cc2 => absurd (of_decide_eq_true cc2) (by omega)) (fun cc2 => ?_)
  have cc2 := of_decide_eq_false cc2
  refine OWp.evs 7 rfl ?_
  refine OWp.nil ?_
  refine Wp.cond rfl (fun cc3 => absurd (of_decide_eq_true cc3) (by rw [e34]; omega)) (fun cc3 => ?_)
  have cc3 := of_decide_eq_false cc3
  refine Wp.skip ?_
  refine Wp.seq (Wp.region ?_)
  refine OWp.evs 7 rfl ?_
  refine OWp.step rfl (Step.buildSlice rfl rfl rfl ?_); intro L hBL hLL
  refine OWp.gives rfl rfl (Gives.bytesToStr (F := (L, cel [.int .u8 (IntKind.u8.wrap ((text.length : Int).fdiv (2 ^ (min 8 IntKind.i64.bits)))), .int .u8 (IntKind.u8.wrap (text.length : Int))] 5) :: S) (l := [UInt8.ofNat (text.length / 256), UInt8.ofNat text.length]) (k := 2) rfl rfl rfl rfl rfl (two_bytes (u8_hi _) (u8_lo _))) (fun _ h => h) ?_
  refine OWp.evs 1 rfl ?_
  refine OWp.nil ?_
  refine Wp.dropAt 0 rfl ?_
  refine Wp.seq (Wp.region ?_)
  refine OWp.evs 1 rfl ?_
  refine OWp.step rfl (Step.call rfl rfl rfl rfl rfl rfl ((zerosEqC (n := 32) rfl (by decide) ?_)))
  refine OWp.evs 1 rfl ?_
  refine OWp.g rfl rfl (Gives.addStr rfl rfl rfl (by simp)) ?_
  refine OWp.evs 1 rfl ?_
  refine OWp.g rfl rfl (Gives.addStr rfl rfl rfl (by simp; omega)) ?_
  refine OWp.evs 5 rfl ?_
  refine OWp.step rfl (Step.call rfl rfl rfl rfl rfl rfl ((zerosEqC (n := n - 34 - text.length) (by rw [e34, i64_id] <;> omega) (by omega) ?_)))
  refine OWp.g rfl rfl (Gives.addStr rfl rfl rfl (by simp; omega)) ?_
  have ew : List.replicate 32 (0 : UInt8) ++ [UInt8.ofNat (text.length / 256), UInt8.ofNat text.length] ++ text ++ List.replicate (n - 34 - text.length) 0 = wplain text n := by simp [wplain]
  rw [ew]
  refine OWp.step rfl (Step.call rfl rfl rfl rfl rfl rfl ((wshutC hk h1 ?_)))
  rw [blockR_ok (by omega) (by omega)]
  refine OWp.evs 4 rfl ?_
  refine OWp.nil ?_
  refine Wp.ret ⟨trivial, _, ⟨_, _, rfl, rfl, _, _, rfl, rfl, rfl⟩, ?_⟩
  exact H
theorem wwrapC {key text : List UInt8} {n : Int} (hk : KsIn S) (h1 : key.length + 1000 ≤ big)
    (H : Q (.tuple #[.string (str (wrapR key text n).1), .int .i64 ((wrapR key text n).2 : Nat)]) S) :
    CallWp Tryd.prog B 19 #[.string (str key), .string (str text), .int .i64 n] Q S := by
  by_cases c1 : n < 64
  · have e : wrapR key text n = ([], 3) := by unfold wrapR; rw [if_pos c1]
    rw [e] at H
    refine CallWp.enter (args := [_, _, _]) Tryd.func19 rfl Tryd.ntmps19 rfl ?_
    refine Wp.seq (Wp.region ?_)
    refine OWp.evs 2 rfl ?_
    refine OWp.nil ?_
    refine Wp.seq ?_
    refine Wp.block ?_
    refine Wp.seq (Wp.region ?_)
    refine OWp.evs 3 rfl ?_
    refine OWp.nil ?_
    refine Wp.cond rfl (fun cc1 => ?_) (fun cc1 => absurd (of_decide_eq_false cc1) (by omega))
    have cc1 := of_decide_eq_true cc1
    refine Wp.seq (Wp.region ?_)
    refine OWp.evs 2 rfl ?_
    refine OWp.nil ?_
    refine Wp.ret ⟨trivial, _, ⟨_, _, rfl, rfl, _, _, rfl, rfl, rfl⟩, ?_⟩
    exact H
  by_cases c2 : 8192 < n
  · have e : wrapR key text n = ([], 2) := by unfold wrapR; rw [if_neg c1, if_pos (.inl c2)]
    rw [e] at H
    refine CallWp.enter (args := [_, _, _]) Tryd.func19 rfl Tryd.ntmps19 rfl ?_
    refine Wp.seq (Wp.region ?_)
    refine OWp.evs 2 rfl ?_
    refine OWp.nil ?_
    refine Wp.seq ?_
    refine Wp.block ?_
    refine Wp.seq (Wp.region ?_)
    refine OWp.evs 3 rfl ?_
    refine OWp.nil ?_
    refine Wp.cond rfl (fun cc1 => absurd (of_decide_eq_true cc1) (by omega)) (fun cc1 => ?_)
    have cc1 := of_decide_eq_false cc1
    refine Wp.seq (Wp.region ?_)
    refine OWp.evs 3 rfl ?_
    refine OWp.part 15 rfl (fun cc2 => ?_) (fun cc2 => absurd (of_decide_eq_false cc2) (by omega))
    have cc2 := of_decide_eq_true cc2
    refine OWp.evs 7 rfl ?_
    refine OWp.nil ?_
    refine Wp.cond rfl (fun _ => ?_) (fun c => nomatch c)
    refine Wp.seq (Wp.region ?_)
    refine OWp.evs 2 rfl ?_
    refine OWp.nil ?_
    refine Wp.ret ⟨trivial, _, ⟨_, _, rfl, rfl, _, _, rfl, rfl, rfl⟩, ?_⟩
    exact H
  obtain ⟨m, rfl⟩ : ∃ m : Nat, n = (m : Int) := ⟨n.toNat, by omega⟩
  by_cases c3 : (m : Int) - 34 < (text.length : Int)
  · have e : wrapR key text m = ([], 2) := by unfold wrapR; rw [if_neg c1, if_pos (.inr c3)]
    rw [e] at H
    have e34 : IntKind.i64.wrap ((m : Int) - 34) = (m : Int) - 34 := by rw [i64_id] <;> omega
    refine CallWp.enter (args := [_, _, _]) Tryd.func19 rfl Tryd.ntmps19 rfl ?_
    refine Wp.seq (Wp.region ?_)
    refine OWp.evs 2 rfl ?_
    refine OWp.nil ?_
    refine Wp.seq ?_
    refine Wp.block ?_
    refine Wp.seq (Wp.region ?_)
    refine OWp.evs 3 rfl ?_
    refine OWp.nil ?_
    refine Wp.cond rfl (fun cc1 => absurd (of_decide_eq_true cc1) (by omega)) (fun cc1 => ?_)
    have cc1 := of_decide_eq_false cc1
    refine Wp.seq (Wp.region ?_)
    refine OWp.evs 3 rfl ?_
    refine OWp.part 15 rfl (fun cc2 => absurd (of_decide_eq_true cc2) (by omega)) (fun cc2 => ?_)
    have cc2 := of_decide_eq_false cc2
    refine OWp.evs 7 rfl ?_
    refine OWp.nil ?_
    refine Wp.cond rfl (fun cc3 => ?_) (fun cc3 => absurd (of_decide_eq_false cc3) (by rw [e34]; omega))
    have cc3 := of_decide_eq_true cc3
    refine Wp.seq (Wp.region ?_)
    refine OWp.evs 2 rfl ?_
    refine OWp.nil ?_
    refine Wp.ret ⟨trivial, _, ⟨_, _, rfl, rfl, _, _, rfl, rfl, rfl⟩, ?_⟩
    exact H
  rw [wrapR_ok (by omega) (by omega) (by omega)] at H
  exact wwrapOkC hk h1 (by omega) (by omega) (by omega) H

theorem wunwrapC {key b : List UInt8} (hk : KsIn S) (h1 : key.length + 1000 ≤ big) 
    (H : Q (.tuple #[.string (str (unwrapR key b).1), .int .i64 ((unwrapR key b).2 : Nat)]) S) :
    CallWp Tryd.prog B 21 #[.string (str key), .string (str b)] Q S := by
  have hb : big = 281474976710656 := rfl
  by_cases c1 : b.length < 64
  · have e : unwrapR key b = ([], 3) := by unfold unwrapR; rw [if_pos c1]
    rw [e] at H
    refine CallWp.enter (args := [_, _]) Tryd.func21 rfl Tryd.ntmps21 rfl ?_
    refine Wp.seq (Wp.region ?_)
    refine OWp.evs 2 rfl ?_
    refine OWp.nil ?_
    refine Wp.seq (Wp.region ?_)
    refine OWp.evs 2 rfl ?_
    refine OWp.step rfl (Step.call rfl rfl rfl rfl rfl rfl ((wopenC hk h1 ?_)))
    rw [blockR_short c1]
    refine OWp.evs 5 rfl ?_
    refine OWp.nil ?_
    refine Wp.seq ?_
    refine Wp.seq (Wp.region ?_)
    refine OWp.evs 2 rfl ?_
    refine OWp.nil ?_
    refine Wp.cond rfl (fun cc1 => ?_) (fun cc1 => absurd (ndF cc1) (by decide))
    have cc1 := ndT cc1
    refine Wp.seq (Wp.region ?_)
    refine OWp.evs 3 rfl ?_
    refine OWp.nil ?_
    refine Wp.ret ⟨trivial, _, ⟨_, _, rfl, rfl, _, _, rfl, rfl, rfl⟩, ?_⟩
    exact H
  by_cases c2 : 8192 < b.length
  · have e : unwrapR key b = ([], 2) := by unfold unwrapR; rw [if_neg c1, if_pos c2]
    rw [e] at H
    refine CallWp.enter (args := [_, _]) Tryd.func21 rfl Tryd.ntmps21 rfl ?_
    refine Wp.seq (Wp.region ?_)
    refine OWp.evs 2 rfl ?_
    refine OWp.nil ?_
    refine Wp.seq (Wp.region ?_)
    refine OWp.evs 2 rfl ?_
    refine OWp.step rfl (Step.call rfl rfl rfl rfl rfl rfl ((wopenC hk h1 ?_)))
    rw [blockR_long c2]
    refine OWp.evs 5 rfl ?_
    refine OWp.nil ?_
    refine Wp.seq ?_
    refine Wp.seq (Wp.region ?_)
    refine OWp.evs 2 rfl ?_
    refine OWp.nil ?_
    refine Wp.cond rfl (fun cc1 => ?_) (fun cc1 => absurd (ndF cc1) (by decide))
    have cc1 := ndT cc1
    refine Wp.seq (Wp.region ?_)
    refine OWp.evs 3 rfl ?_
    refine OWp.nil ?_
    refine Wp.ret ⟨trivial, _, ⟨_, _, rfl, rfl, _, _, rfl, rfl, rfl⟩, ?_⟩
    exact H
  have e : unwrapR key b = unwrapT (wtext (wopen key b)) := by unfold unwrapR; rw [if_neg c1, if_neg c2]
  rw [e] at H
  clear e
  have hol := wopen_len key (b := b) (by omega)
  obtain ⟨o, ho⟩ : ∃ o, o = wopen key b := ⟨_, rfl⟩
  rw [← ho] at H hol
  obtain ⟨n, hn⟩ : ∃ n, n = (o.getD 32 0).toNat * 256 + (o.getD 33 0).toNat := ⟨_, rfl⟩
  have hn2 : n < 65536 := by have := (o.getD 32 0).toNat_lt; have := (o.getD 33 0).toNat_lt; omega
  have e34 : IntKind.i64.wrap ((o.length : Int) - 34) = ((o.length - 34 : Nat) : Int) := by rw [i64_id] <;> omega
  have en : IntKind.i64.wrap (34 + (n : Int)) = ((34 + n : Nat) : Int) := by rw [i64_id] <;> omega
  have hw : wtext o = if (o.take 32).all (· == 0) ∧ n ≤ o.length - 34 ∧ (o.drop (34 + n)).all (· == 0) then some ((o.drop 34).take n) else none := by
    unfold wtext; rw [hn]
  have hoff : ∀ l : List UInt8, l.length ≤ 8192 → l.length ≤ big := fun l h => by rw [hb]; omega
  refine CallWp.enter (args := [_, _]) Tryd.func21 rfl Tryd.ntmps21 rfl ?_
  refine Wp.seq (Wp.region ?_)
  refine OWp.evs 2 rfl ?_
  refine OWp.nil ?_
  refine Wp.seq (Wp.region ?_)
  refine OWp.evs 2 rfl ?_
  refine OWp.step rfl (Step.call rfl rfl rfl rfl rfl rfl ((wopenC hk h1 ?_)))
  rw [blockR_ok (by omega) (by omega), ← ho]
  dsimp only
  refine OWp.evs 5 rfl ?_
  refine OWp.nil ?_
  refine Wp.seq ?_
  refine Wp.seq (Wp.region ?_)
  refine OWp.evs 2 rfl ?_
  refine OWp.nil ?_
  refine Wp.cond rfl (fun cc1 => absurd (ndT cc1) (by decide)) (fun cc1 => ?_)
  have cc1 := ndF cc1
  refine Wp.skip ?_
  refine Wp.seq (Wp.regionDraw [0, 1, 2, 3, 4, 5, 6, 7, 8] [] rfl (by decide +kernel) ?_)
  refine DWp.evs 1 rfl ?_
  refine DWp.g rfl rfl rfl rfl (Gives.indexStr (b := (o.getD 32 0)) rfl rfl rfl rfl (by decide) (getD_some (by omega))) ?_
  refine DWp.evs 3 rfl ?_
  refine DWp.g rfl rfl rfl rfl (Gives.indexStr (b := (o.getD 33 0)) rfl rfl rfl rfl (by decide) (getD_some (by omega))) ?_
  refine DWp.evs 3 rfl ?_
  refine DWp.nil ?_
  refine Wp.weaken (E' := [(6, .string (str o)), (8, .int .i64 (n : Int))]) (.cons rfl (.cons' rfl (int_eq (by rw [hn]; exact join_hl _ _)) (.nil _))) (fun _ h => h) ?_
  refine Wp.seq ?_
  refine Wp.seq (Wp.region ?_)
  refine OWp.evs 1 rfl ?_
  refine OWp.g rfl rfl (Gives.sliceStr (l := 0) (h' := 32) rfl rfl rfl rfl ⟨_, _, rfl, rfl⟩ (by omega) (by omega)) ?_
  refine OWp.step rfl (Step.call rfl rfl rfl rfl rfl rfl ((trimC (l := o.take 32) (hoff _ (by rw [List.length_take]; omega)) ?_)))
  refine OWp.evs 2 rfl ?_
  refine OWp.part 30 rfl (fun k1 => ?_) (fun k1 => ?_)
  · have k1 := ndT k1
    refine OWp.evs 14 rfl ?_
    refine OWp.nil ?_
    refine Wp.cond rfl (fun _ => ?_) (fun c => nomatch c)
    refine Wp.seq (Wp.region ?_)
    refine OWp.evs 2 rfl ?_
    refine OWp.nil ?_
    refine Wp.ret ⟨trivial, _, ⟨_, _, rfl, rfl, _, _, rfl, rfl, rfl⟩, ?_⟩
    have : ¬ (o.take 32).all (· == 0) = true := fun h => k1 (trim_all h)
    rw [hw, if_neg (fun h => this h.1)] at H
    exact H
  have k1 := ndF k1
  have k1' := trim_nil.1 k1
  refine OWp.evs 7 rfl ?_
  refine OWp.part 37 rfl (fun k2 => ?_) (fun k2 => ?_)
  · have k2 := of_decide_eq_true k2
    refine OWp.evs 7 rfl ?_
    refine OWp.nil ?_
    refine Wp.cond rfl (fun _ => ?_) (fun c => nomatch c)
    refine Wp.seq (Wp.region ?_)
    refine OWp.evs 2 rfl ?_
    refine OWp.nil ?_
    refine Wp.ret ⟨trivial, _, ⟨_, _, rfl, rfl, _, _, rfl, rfl, rfl⟩, ?_⟩
    rw [e34] at k2
    rw [hw, if_neg (fun h => by omega)] at H
    exact H
  have k2 := of_decide_eq_false k2
  rw [e34] at k2
  refine OWp.evs 3 rfl ?_
  refine OWp.g rfl rfl (Gives.sliceStr (l := (34 + n)) (h' := o.length) rfl rfl rfl ⟨_, _, rfl, en⟩ rfl (by omega) (by omega)) ?_
  have ed : (o.drop (34 + n)).take (o.length - (34 + n)) = o.drop (34 + n) := List.take_of_length_le (by rw [List.length_drop]; exact Nat.le_refl _)
  rw [ed]
  refine OWp.step rfl (Step.call rfl rfl rfl rfl rfl rfl ((trimC (l := o.drop (34 + n)) (hoff _ (by rw [List.length_drop]; omega)) ?_)))
  refine OWp.evs 2 rfl ?_
  refine OWp.nil ?_
  refine Wp.cond rfl (fun k3 => ?_) (fun k3 => ?_)
  · have k3 := ndT k3
    refine Wp.seq (Wp.region ?_)
    refine OWp.evs 2 rfl ?_
    refine OWp.nil ?_
    refine Wp.ret ⟨trivial, _, ⟨_, _, rfl, rfl, _, _, rfl, rfl, rfl⟩, ?_⟩
    have : ¬ (o.drop (34 + n)).all (· == 0) = true := fun h => k3 (trim_all h)
    rw [hw, if_neg (fun h => this h.2.2)] at H
    exact H
  have k3 := ndF k3
  have k3' := trim_nil.1 k3
  refine Wp.skip ?_
  refine Wp.seq (Wp.region ?_)
  refine OWp.evs 3 rfl ?_
  refine OWp.g rfl rfl (Gives.sliceStr (l := 34) (h' := 34 + n) rfl rfl rfl ⟨_, _, rfl, rfl⟩ ⟨_, _, rfl, en⟩ (by omega) (by omega)) ?_
  refine OWp.evs 2 rfl ?_
  refine OWp.nil ?_
  refine Wp.ret ⟨trivial, _, ⟨_, _, rfl, rfl, _, _, rfl, rfl, rfl⟩, ?_⟩
  rw [hw, if_pos ⟨k1', by omega, k3'⟩] at H
  rw [Nat.add_sub_cancel_left]
  exact H
theorem wworksC (hk : KsIn S) (H : Q (.bool true) S) : CallWp Tryd.prog B 18 #[] Q S := by
  have hb : big = 281474976710656 := rfl
  have hpl : (wplain [104, 101, 108, 108, 111] 100).length = 100 := wplain_len (by decide)
  have hwl := wshut_len [107] (b := wplain [104, 101, 108, 108, 111] 100) (by rw [hpl]; decide)
  have ho := wopen_shut [107] (b := wplain [104, 101, 108, 108, 111] 100) (by rw [hpl]; decide)
  have hn := works_none
  rw [hpl] at hwl
  obtain ⟨w, hw⟩ : ∃ w, w = wshut [107] (wplain [104, 101, 108, 108, 111] 100) := ⟨_, rfl⟩
  rw [← hw] at hwl ho hn
  have e1 : unwrapR [107] w = ([104, 101, 108, 108, 111], 0) := unwrapR_ok (by omega) (by omega) (by rw [ho]; exact wtext_plain (by decide) (by decide))
  have e2 : unwrapR [108] w = ([], 90) := unwrapR_no (by omega) (by omega) (Option.isNone_iff_eq_none.1 hn)
  refine CallWp.enter (args := []) Tryd.func18 rfl Tryd.ntmps18 rfl ?_
  refine Wp.seq (Wp.region ?_)
  refine OWp.evs 1 rfl ?_
  refine OWp.nil ?_
  refine Wp.seq (Wp.region ?_)
  refine OWp.step rfl (Step.call rfl rfl rfl rfl rfl rfl ((wwrapOkC (key := [107]) (text := [104, 101, 108, 108, 111]) (n := 100) hk (by rw [hb]; decide) (by decide) (by decide) (by decide) ?_)))
  rw [← hw]
  refine OWp.evs 5 rfl ?_
  refine OWp.nil ?_
  refine Wp.seq (Wp.region ?_)
  refine OWp.evs 1 rfl ?_
  refine OWp.step rfl (Step.call rfl rfl rfl rfl rfl rfl ((wunwrapC (key := [107]) hk (by rw [hb]; decide) ?_)))
  rw [e1]
  refine OWp.evs 5 rfl ?_
  refine OWp.nil ?_
  refine Wp.seq (Wp.region ?_)
  refine OWp.evs 1 rfl ?_
  refine OWp.step rfl (Step.call rfl rfl rfl rfl rfl rfl ((wunwrapC (key := [108]) hk (by rw [hb]; decide) ?_)))
  rw [e2]
  refine OWp.evs 5 rfl ?_
  refine OWp.nil ?_
  refine Wp.seq (Wp.region ?_)
  refine OWp.evs 3 rfl ?_
  refine OWp.part 23 rfl (fun cc1 => ?_) (fun cc1 => absurd (of_decide_eq_false cc1) (by decide))
  have cc1 := of_decide_eq_true cc1
  refine OWp.evs 5 rfl ?_
  refine OWp.part 28 rfl (fun cc2 => ?_) (fun cc2 => absurd (of_decide_eq_false cc2) (by rw [hwl]; decide))
  have cc2 := of_decide_eq_true cc2
  refine OWp.evs 4 rfl ?_
  refine OWp.part 32 rfl (fun cc3 => ?_) (fun cc3 => absurd (of_decide_eq_false cc3) (by decide))
  have cc3 := of_decide_eq_true cc3
  refine OWp.evs 4 rfl ?_
  refine OWp.part 36 rfl (fun cc4 => ?_) (fun cc4 => absurd (of_decide_eq_false cc4) (by decide))
  have cc4 := of_decide_eq_true cc4
  refine OWp.evs 4 rfl ?_
  refine OWp.nil ?_
  refine Wp.ret ⟨trivial, _, ⟨_, _, rfl, rfl, rfl⟩, ?_⟩
  exact H
end
end Go.Proofs.D
