/- What functions of the given program do, one after the other, told by that layer. -/
import Derived.Test.YtfimmdafjalonaaDoorBKey
namespace Go.Proofs.D
open Go.Lg Go.Sha
set_option maxRecDepth 100000

theorem strs_one (l : List (List UInt8)) : (strs l).all (·.oneCell') = true := by
  rw [List.all_eq_true]
  intro v hv
  simp only [strs, List.mem_map] at hv
  obtain ⟨s, _, rfl⟩ := hv
  rfl
theorem keyPad_len (k : List UInt8) (y : UInt8) : (keyPad k y).length = 64 := by
  have : ∀ x : List UInt8, x.length ≤ 64 → ((x ++ List.replicate (64 - x.length) 0).map (· ^^^ y)).length = 64 := fun x h => by
    rw [List.length_map, List.length_append, List.length_replicate]; omega
  unfold keyPad
  refine this _ ?_
  split
  · rw [sha_len]; decide
  · omega

section
variable {B : Nat} {S R : Ents} {Q : Value → Ents → Prop}

theorem tagC {key : List UInt8} {v : Value} {n : Nat} {l : List (List UInt8)} (hl : Reads S 1 v n (strs l)) (hn : n ≤ 1099511627776) (hk : KsIn S) (hkl : key.length + 1000 ≤ big) (ht : l.flatten.length + 1000 ≤ big) (H : Q (.string (str (hmac key l.flatten))) S) :
    CallWp Tryd.prog B 31 #[.string (str key), v] Q S := by
  have hb : big = 281474976710656 := rfl
  have hm : maxLen = 9223372036854775807 := rfl
  rw [hb] at hkl ht
  refine CallWp.enter (args := [_, _]) Tryd.func31 rfl Tryd.ntmps31 rfl ?_
  refine Wp.seq (Wp.region ?_)
  refine OWp.evs 1 rfl ?_
  refine OWp.nil ?_
  refine Wp.seq (Wp.region ?_)
  refine OWp.evs 1 rfl ?_
  refine OWp.step rfl (Step.call rfl rfl rfl rfl rfl rfl ((paddedC (y := 54) hk (by rw [hb]; omega) ?_)))
  refine OWp.step rfl (Step.buildSlice rfl rfl rfl ?_); intro L hBL hLL
  refine OWp.evs 1 rfl ?_
  refine OWp.step rfl (Step.append (e := 9) (es := [(L, cel [.string (str (keyPad key 54))] 9)]) (R := S) rfl rfl rfl rfl rfl rfl (by decide) rfl rfl (fun _ h => h) (Own.row hBL rfl (by decide)) (hl.mono fun x hx => .tail _ hx) (strs_one l) (by show (1 + n) * 16 ≤ _; omega) (by rw [hm]; omega) ?_)
  intro v1 es1 ho1 _
  refine OWp.step rfl (Step.call rfl rfl rfl rfl rfl rfl ((sumC (l := keyPad key 54 :: l) (ho1.reads.mono fun x hx => List.mem_append_left _ hx) (by omega) (KsIn.append hk) (by rw [hb, List.flatten_cons, List.length_append, keyPad_len]; omega) ?_)))
  refine OWp.drop (List.sublist_append_right _ _) ?_
  refine OWp.evs 1 rfl ?_
  refine OWp.nil ?_
  refine Wp.seq (Wp.region ?_)
  refine OWp.evs 1 rfl ?_
  refine OWp.step rfl (Step.call rfl rfl rfl rfl rfl rfl ((paddedC (y := 92) hk (by rw [hb]; omega) ?_)))
  refine OWp.evs 1 rfl ?_
  refine OWp.step rfl (Step.buildSlice rfl rfl rfl ?_); intro L2 hBL2 hLL2
  refine OWp.step rfl (Step.call rfl rfl rfl rfl rfl rfl ((sumC (l := [keyPad key 92, sha (keyPad key 54 :: l).flatten]) (Reads.row (k := 2) (sz := 1) (.head _) (Nat.le_of_ble_eq_true rfl)) (by decide) hk.cons (by rw [hb]; simp [keyPad_len, sha_len]) ?_)))
  refine OWp.evs 1 rfl ?_
  refine OWp.nil ?_
  refine Wp.dropAt 0 rfl ?_
  refine Wp.ret ⟨trivial, _, ⟨_, _, rfl, rfl, rfl⟩, ?_⟩
  show Q (.string _) S
  simpa [hmac] using H
theorem extractC {salt' secret : List UInt8} (hk : KsIn S) (h1 : salt'.length + 1000 ≤ big) (h2 : secret.length + 1000 ≤ big) (H : Q (.string (str (hmac salt' secret))) S) :
    CallWp Tryd.prog B 79 #[.string (str salt'), .string (str secret)] Q S := by
  refine CallWp.enter (args := [_, _]) Tryd.func79 rfl Tryd.ntmps79 rfl ?_
  refine Wp.seq (Wp.region ?_)
  refine OWp.evs 1 rfl ?_
  refine OWp.nil ?_
  refine Wp.seq (Wp.region ?_)
  refine OWp.evs 2 rfl ?_
  refine OWp.step rfl (Step.buildSlice rfl rfl rfl ?_); intro L hBL hLL
  refine OWp.step rfl (Step.call rfl rfl rfl rfl rfl rfl ((tagC (l := [secret]) (Reads.row (k := 1) (sz := 1) (.head _) (Nat.le_of_ble_eq_true rfl)) (by decide) hk.cons h1 (by simpa using h2) ?_)))
  refine OWp.evs 1 rfl ?_
  refine OWp.nil ?_
  refine Wp.dropAt 0 rfl ?_
  refine Wp.ret ⟨trivial, _, ⟨_, _, rfl, rfl, rfl⟩, ?_⟩
  show Q (.string _) S
  simpa using H
theorem expandC {key info : List UInt8} {n : Nat} (hk : KsIn S) (hn : n ≤ 8160) (h1 : key.length + 1000 ≤ big) (h2 : info.length + 2000 ≤ big) (H : Q (.tuple #[.string (str (expand key info n)), .int .i64 0]) S) :
    CallWp Tryd.prog B 78 #[.string (str key), .string (str info), .int .i64 (n : Int)] Q S := by
  have hb : big = 281474976710656 := rfl
  obtain ⟨m, hm⟩ : ∃ m, m = (n + 31) / 32 := ⟨_, rfl⟩
  refine CallWp.enter (args := [_, _, _]) Tryd.func78 rfl Tryd.ntmps78 rfl ?_
  refine Wp.seq (Wp.region ?_)
  refine OWp.evs 2 rfl ?_
  refine OWp.nil ?_
  refine Wp.seq ?_
  refine Wp.seq (Wp.region ?_)
  refine OWp.evs 3 rfl ?_
  refine OWp.part 13 rfl (fun cc1 => absurd (of_decide_eq_true cc1) (by omega)) (fun cc1 => ?_)
  have cc1 := of_decide_eq_false cc1
  refine OWp.evs 3 rfl ?_
  refine OWp.nil ?_
  refine Wp.cond rfl (fun cc2 => absurd (of_decide_eq_true cc2) (by omega)) (fun cc2 => ?_)
  have cc2 := of_decide_eq_false cc2
  refine Wp.skip ?_
  refine Wp.seq (Wp.region ?_)
  refine OWp.step rfl (Step.alloc rfl rfl rfl ?_); intro L hBL hLL
  refine OWp.nil ?_
  refine Wp.seq (Wp.region ?_)
  refine OWp.evs 1 rfl ?_
  refine OWp.nil ?_
  refine Wp.seq ?_
  refine Wp.seq (Wp.region ?_)
  refine OWp.evs 1 rfl ?_
  refine OWp.nil ?_
  refine Wp.block ?_
  refine Wp.loopS (α := Nat × List UInt8 × List UInt8 × Ents) (fun z => m - z.1) (fun z => [(0, .string (str key)), (1, .string (str info)), (2, .int .i64 (n : Int)), (8, pt L), (9, .string (str z.2.1)), (10, .int .u8 ((UInt8.ofNat (z.1 + 1)).toNat : Int))]) (fun z => z.2.2.2 ++ S) (fun z => z.1 ≤ m ∧ z.2.1.length ≤ 32 ∧ z.2.2.1.length = 32 * z.1 ∧ z.2.2.1 ++ pieces key info (m - z.1) (z.1 + 1) z.2.1 = pieces key info m 1 [] ∧ Bd B L z.2.2.1 z.2.2.2) (0, [], [], [(L, cel [.pointer none, .slice none 0 0] 91)]) ?_ (.refl _) ⟨by omega, Nat.zero_le _, rfl, rfl, hBL, _, _, [], .inl rfl, rfl, OwnF.nil _ _⟩ ?_
  · exact .cons rfl (.cons rfl (.cons rfl (.cons rfl (.cons rfl (.cons rfl (.nil _))))))
  rintro ⟨j, last, built, es⟩ ⟨hj, hl, hbl, hp, hbd⟩
  simp only at hj hl hbl hp hbd ⊢
  refine Wp.seq ?_
  refine Wp.seq (Wp.region ?_)
  refine OWp.step rfl (Step.call rfl rfl rfl rfl rfl rfl ((bLenC hbd ?_)))
  rw [hbl]
  refine OWp.evs 2 rfl ?_
  refine OWp.nil ?_
  refine Wp.cond rfl (fun h5 => ?_) (fun h5 => ?_)
  · have h5 := of_decide_eq_true h5
    have hjm : j < m := by omega
    refine Wp.skip ?_
    refine Wp.seq ?_
    refine Wp.block ?_
    refine Wp.seq (Wp.region ?_)
    refine OWp.evs 4 rfl ?_
    refine OWp.step rfl (Step.buildSlice rfl rfl rfl ?_); intro L1 hBL1 hLL1
    refine OWp.gives rfl rfl (Gives.bytesToStr (F := (L1, cel [.int .u8 ((UInt8.ofNat (j + 1)).toNat : Int)] 5) :: (es ++ S)) (l := [UInt8.ofNat (j + 1)]) (k := 1) rfl rfl rfl rfl rfl (Reads.row (k := 1) (sz := 1) (.head _) (Nat.le_of_ble_eq_true rfl))) (fun _ h => h) ?_
    refine OWp.step rfl (Step.buildSlice rfl rfl rfl ?_); intro L2 hBL2 hLL2
    refine OWp.step rfl (Step.call rfl rfl rfl rfl rfl rfl ((tagC (l := [last, info, [UInt8.ofNat (j + 1)]]) (Reads.row (k := 3) (sz := 1) (.head _) (Nat.le_of_ble_eq_true rfl)) (by decide) (KsIn.append hk).cons.cons h1 (by rw [hb] at h2 ⊢; simp; omega) ?_)))
    refine OWp.drop (List.Sublist.cons _ (List.sublist_cons_self _ _)) ?_
    refine OWp.evs 1 rfl ?_
    refine OWp.nil ?_
    refine Wp.region ?_
    refine OWp.evs 1 rfl ?_
    refine OWp.step rfl (Step.call rfl rfl rfl rfl rfl rfl ((bWriteC hbd (by rw [hbl, hmac_len]; omega) ?_)))
    intro es2 hbd2
    refine OWp.nil ?_
    refine Wp.region ?_
    refine OWp.evs 3 rfl ?_
    refine OWp.nil ?_
    have ht : [last, info, [UInt8.ofNat (j + 1)]].flatten = last ++ info ++ [UInt8.ofNat (j + 1)] := by simp
    rw [ht] at hbd2 ⊢
    obtain ⟨q, hq⟩ : ∃ q, m - j = q + 1 := ⟨m - j - 1, by omega⟩
    rw [hq, pieces] at hp
    have hu : IntKind.u8.wrap (((UInt8.ofNat (j + 1)).toNat : Int) + 1) = ((UInt8.ofNat (j + 1 + 1)).toNat : Int) := by
      rw [IntKind.wrap_u8, UInt8.toNat_ofNat', UInt8.toNat_ofNat']; omega
    refine ⟨(j + 1, hmac key (last ++ info ++ [UInt8.ofNat (j + 1)]), built ++ hmac key (last ++ info ++ [UInt8.ofNat (j + 1)]), es2), by simp only; omega, ⟨by simp only; omega, by simp only [hmac_len]; omega, by simp only [List.length_append, hmac_len, hbl]; omega, ?_, hbd2⟩, .cons rfl (.cons rfl (.cons rfl (.cons rfl (.cons rfl (.cons' rfl (int_eq hu) (.nil _)))))), .refl _⟩
    simp only
    rw [show m - (j + 1) = q by omega, List.append_assoc]
    exact hp
  have h5 := of_decide_eq_false h5
  obtain rfl : j = m := by omega
  rw [Nat.sub_self, pieces, List.append_nil] at hp
  refine Wp.exit ?_
  refine Wp.seq (Wp.region ?_)
  refine OWp.step rfl (Step.call rfl rfl rfl rfl rfl rfl ((bStringC hbd ?_)))
  intro es2 hbd2
  refine OWp.evs 1 rfl ?_
  refine OWp.g rfl rfl (Gives.sliceStr (l := 0) (h' := n) rfl rfl rfl rfl ⟨_, _, rfl, rfl⟩ (by omega) (by rw [hbl]; omega)) ?_
  refine OWp.evs 2 rfl ?_
  refine OWp.nil ?_
  refine Wp.drop (List.sublist_append_right _ _) ?_
  refine Wp.ret ⟨trivial, _, ⟨_, _, rfl, rfl, _, _, rfl, rfl, rfl⟩, ?_⟩
  show Q (.tuple #[.string _, _]) S
  rw [hp, hm]; exact H
theorem deriveC {secret label : List UInt8} {n : Nat} (hk : KsIn S) (hn : n ≤ 8160) (h1 : secret.length + 1000 ≤ big) (h2 : label.length + 2000 ≤ big) (H : Q (.tuple #[.string (str (derive secret label n)), .int .i64 0]) S) :
    CallWp Tryd.prog B 43 #[.string (str secret), .string (str label), .int .i64 (n : Int)] Q S := by
  have hb : big = 281474976710656 := rfl
  refine CallWp.enter (args := [_, _, _]) Tryd.func43 rfl Tryd.ntmps43 rfl ?_
  refine Wp.seq (Wp.region ?_)
  refine OWp.evs 2 rfl ?_
  refine OWp.nil ?_
  refine Wp.seq (Wp.region ?_)
  refine OWp.evs 1 rfl ?_
  refine OWp.step rfl (Step.call rfl rfl rfl rfl rfl rfl ((extractC (salt' := salt) hk (by rw [hb]; decide) h1 ?_)))
  refine OWp.evs 2 rfl ?_
  refine OWp.step rfl (Step.call rfl rfl rfl rfl rfl rfl ((expandC hk hn (by rw [hmac_len, hb]; decide) h2 ?_)))
  refine OWp.evs 4 rfl ?_
  refine OWp.nil ?_
  refine Wp.ret ⟨trivial, _, ⟨_, _, rfl, rfl, _, _, rfl, rfl, rfl⟩, ?_⟩
  exact H
end
end Go.Proofs.D
