/- What functions of the given program do, one after the other, told by that layer. -/
import Derived.Test.YtkbagleekpgdeaaGreatDoorZCur3
import Derived.Test.YtkbagleekpgdeaaGreatDoorZM10x9e4f
import Derived.Test.YtkbagleekpgdeaaGreatDoorZM12xe059
import Derived.Test.YtkbagleekpgdeaaGreatDoorEHeadL
import Derived.Test.YtkbagleekpgdeaaGreatDoorZM6xf9cb
namespace Go.Proofs.D
open Go.Lg Go.Sha Go.Hd Go.Cv
open Go.Proofs.C (Hop hopP hopB parse pathE encB)
set_option maxRecDepth 100000
attribute [local irreducible] derive hmac stream chainR
section
variable {B : Nat} {S R : Ents} {Q : Value → Ents → Prop}
theorem rofC {s : List UInt8} (hs : s.length + 2000 ≤ big) (H : Q (.agg (keysOf s).cells.toArray) S) : CallWp Tryz.prog B 49 #[.string (str s)] Q S := by
  refine CallWp.dropRet ?_
  refine CallWp.enter (args := [_]) Tryz.func49 rfl Tryz.ntmps49 rfl ?_
  refine Wp.seq (Wp.region ?_)
  refine OWp.step rfl (Step.alloc rfl rfl rfl ?_); intro L2 hBL2 hLL2
  refine OWp.nil ?_
  refine Wp.seq (Wp.region ?_)
  refine OWp.evs 1 rfl ?_
  refine OWp.step rfl (Step.call rfl rfl rfl rfl rfl rfl ((rkeyC (n := 32) (by decide) hs (by decide) ?_)))
  refine OWp.evs 1 rfl ?_
  refine OWp.step rfl (Step.call rfl rfl rfl rfl rfl rfl ((rkeyC (n := 32) (by decide) hs (by decide) ?_)))
  refine OWp.evs 1 rfl ?_
  refine OWp.step rfl (Step.call rfl rfl rfl rfl rfl rfl ((rkeyC (n := 32) (by decide) hs (by decide) ?_)))
  refine OWp.evs 1 rfl ?_
  refine OWp.step rfl (Step.call rfl rfl rfl rfl rfl rfl ((rkeyC (n := 32) (by decide) hs (by decide) ?_)))
  refine OWp.evs 1 rfl ?_
  refine OWp.step rfl (Step.call rfl rfl rfl rfl rfl rfl ((rkeyC (n := 16) (by decide) hs (by decide) ?_)))
  refine OWp.g rfl rfl (Gives.build rfl rfl) ?_
  refine OWp.step rfl (Step.storeAs 0 ((keysOf s).cells) rfl rfl rfl rfl rfl (by assumption) rfl (Unfz.zero _) rfl (Nat.le_of_ble_eq_true rfl) rfl rfl ?_)
  refine OWp.nil ?_
  refine Wp.ret ⟨trivial, _, ⟨_, _, _, _, rfl, rfl, ⟨_, _, _, mems, (by first | assumption | rfl)⟩, rfl⟩, ?_⟩
  exact ⟨S, subl, H⟩
theorem rzerosC {n : Nat} (hn : n ≤ 65536) (H : Q (.string (str (List.replicate n 0))) S) : CallWp Tryz.prog B 34 #[.int .i64 (n : Int)] Q S := by
  refine CallWp.dropRet ?_
  refine CallWp.enter (args := [_]) Tryz.func34 rfl Tryz.ntmps34 rfl ?_
  refine Wp.seq (Wp.region ?_)
  refine OWp.evs 1 rfl ?_
  refine OWp.nil ?_
  refine Wp.seq (Wp.region ?_)
  refine OWp.evs 1 rfl ?_
  refine OWp.step rfl (Step.makeSlice (len := n) (cap := n) rfl rfl rfl rfl rfl rfl (by decide) rfl rfl (Nat.le_refl _) (by show 1 * n ≤ _; omega) (by omega) ?_)
  intro L hBL _
  have ez : zeros (cellsOf (Value.int .u8 0)) n = byteCells (List.replicate n 0) ++ [] := by rw [List.append_nil]; exact zeros_u8 n
  rw [ez]
  refine OWp.gives rfl rfl (Gives.bytesToStr (F := (L, cel (byteCells (List.replicate n 0) ++ []) 5) :: S) (l := (List.replicate n 0)) (k := n) rfl rfl rfl rfl rfl (reads_bytes (by simp))) (fun _ h => h) ?_
  refine OWp.evs 1 rfl ?_
  refine OWp.nil ?_
  refine Wp.ret ⟨trivial, _, ⟨_, _, rfl, rfl, rfl⟩, ?_⟩
  exact ⟨S, subl, H⟩
theorem rflowC {k : HK} (hk : k.flow.length = 32) (H : Q (.string (str (fl k))) S) : CallWp Tryz.prog B 37 #[.agg k.cells.toArray] Q S := by
  refine CallWp.dropRet ?_
  refine CallWp.enter (args := [_]) Tryz.func37 rfl Tryz.ntmps37 rfl ?_
  refine Wp.seq (Wp.region ?_)
  refine OWp.step rfl (Step.box rfl rfl rfl ?_); intro L1 hBL1 hLL1
  refine OWp.evs 1 rfl ?_
  refine OWp.nil ?_
  refine Wp.seq (Wp.regionDraw [0, 1, 2, 3, 4, 5] [2, 4] rfl (by decide +kernel) ?_)
  refine DWp.evs 1 rfl ?_
  refine DWp.load (.head _) rfl rfl rfl rfl rfl rfl rfl ?_
  refine DWp.stepGrow rfl rfl rfl (Step.makeSlice (len := 12) (cap := 12) rfl rfl rfl rfl rfl rfl (by decide) rfl rfl (Nat.le_refl _) (by decide) (by decide) ?_)
  intro L2 hBL2 _
  refine ⟨fun _ hy => .tail _ hy, ?_⟩
  have ez : zeros (cellsOf (Value.int .u8 0)) 12 = byteCells zeros12 ++ [] := by rw [List.append_nil]; exact zeros_u8 12
  rw [ez]
  refine DWp.gives rfl rfl rfl rfl (Gives.bytesToStr (F := (L2, cel (byteCells zeros12 ++ []) 5) :: (L1, cel k.cells 30) :: S) (l := zeros12) (k := 12) rfl rfl rfl rfl rfl (reads_bytes (by decide))) (fun _ h => h) ?_
  refine DWp.stepGrow rfl rfl rfl (Step.call rfl rfl rfl rfl rfl rfl ((rstreamC (n := 240) hk (by decide) (by decide) (by decide) ?_)))
  refine ⟨fun _ hy => hy, ?_⟩
  refine DWp.evs 1 rfl ?_
  refine DWp.nil ?_
  refine Wp.ret ⟨trivial, _, ⟨_, _, rfl, rfl, rfl⟩, ?_⟩
  exact ⟨S, subl, H⟩
theorem rmacC {k : HK} {l : List UInt8} (hk : k.mac.length = 32) (hl : l.length + 2000 ≤ big) (H : Q (.string (str (macX k l))) S) : CallWp Tryz.prog B 39 #[.agg k.cells.toArray, .string (str l)] Q S := by
  refine CallWp.dropRet ?_
  refine CallWp.enter (args := [_, _]) Tryz.func39 rfl Tryz.ntmps39 rfl ?_
  refine Wp.seq (Wp.region ?_)
  refine OWp.step rfl (Step.box rfl rfl rfl ?_); intro L1 hBL1 hLL1
  refine OWp.evs 1 rfl ?_
  refine OWp.nil ?_
  refine Wp.seq (Wp.region ?_)
  refine OWp.evs 1 rfl ?_
  refine OWp.load (.head _) rfl rfl rfl rfl rfl ?_
  refine OWp.evs 1 rfl ?_
  refine OWp.step rfl (Step.call rfl rfl rfl rfl rfl rfl ((rtagC (by rw [hk]; decide) hl ?_)))
  refine OWp.g rfl rfl (Gives.sliceStr (l := 0) (h' := 16) rfl rfl rfl rfl ⟨_, _, rfl, rfl⟩ (by decide) (by rw [hmac_len]; decide)) ?_
  refine OWp.evs 1 rfl ?_
  refine OWp.nil ?_
  refine Wp.ret ⟨trivial, _, ⟨_, _, rfl, rfl, rfl⟩, ?_⟩
  exact ⟨S, subl, H⟩
theorem keys_elem {S : Ents} {ks : List HK} {v : Value} (hr : Reads S 5 v ks.length (keysV ks)) (h0 : 0 < ks.length) : ∃ hb ho hcap hll ht hfz, v = .slice (some ⟨hb, ho, none⟩) ks.length hcap ∧ (hb, cel hll ht hfz) ∈ S ∧ ∀ i (h : i < ks.length), (hll.drop (ho + i * 5)).take 5 = (ks[i]).cells := by
  obtain ⟨hb, ho, hcap, hll, ht, hfz, hzv, hhm, hat⟩ := Reads.elem (sz := 5) (f := HK.cells) (xs := ks) hr (fun _ _ => rfl) h0
  exact ⟨hb, ho, hcap, hll, ht, hfz, hzv, hhm, hat⟩
theorem rfill0C {v : Value} {z : Int} (hz : z = 0) (H : Q (.string (str [])) S) : CallWp Tryz.prog B 38 #[v, .int .i64 z] Q S := by
  subst hz
  refine CallWp.enter (args := [_, _]) Tryz.func38 rfl Tryz.ntmps38 rfl ?_
  refine Wp.seq (Wp.region ?_)
  refine OWp.evs 1 rfl ?_
  refine OWp.nil ?_
  refine Wp.seq ?_
  refine Wp.seq (Wp.region ?_)
  refine OWp.evs 2 rfl ?_
  refine OWp.nil ?_
  refine Wp.cond rfl (fun _ => ?_) (fun c => nomatch c)
  refine Wp.seq (Wp.region ?_)
  refine OWp.evs 1 rfl ?_
  refine OWp.nil ?_
  refine Wp.ret ⟨trivial, _, ⟨_, _, rfl, rfl, rfl⟩, ?_⟩
  exact H
set_option maxHeartbeats 1000000 in
theorem rfillSC {ks : List HK} {v : Value} {m : Nat} {z : Int} (hz : z = ((m + 1 : Nat) : Int)) (hr : Reads S 5 v ks.length (keysV ks)) (hm : m < ks.length) (hm5 : m < 5) (hf : ∀ k ∈ ks, k.flow.length = 32)
    (ih : ∀ (y : Int) (Q : Value → Ents → Prop), y = (m : Int) → Q (.string (str (fillGo [] (ks.take m)))) S → CallWp Tryz.prog B 38 #[v, .int .i64 y] Q S) (H : Q (.string (str (fillGo [] (ks.take (m + 1))))) S) : CallWp Tryz.prog B 38 #[v, .int .i64 z] Q S := by
  subst hz
  obtain ⟨hb, ho, hcap, hll, ht, hfz, hzv, hhm, hat⟩ := keys_elem hr (by omega)
  subst hzv
  have hfl : (fillGo [] (ks.take m)).length = 40 * m := by rw [fillGo_len _ _ (by rw [List.length_take]; simp; omega), List.length_take]; simp; omega
  rw [List.take_succ_eq_append_getElem hm, fillGo_snoc] at H
  generalize hfg : fillGo [] (ks.take m) = f at *
  refine CallWp.enter (args := [_, _]) Tryz.func38 rfl Tryz.ntmps38 rfl ?_
  refine Wp.seq (Wp.region ?_)
  refine OWp.evs 1 rfl ?_
  refine OWp.nil ?_
  refine Wp.seq ?_
  refine Wp.seq (Wp.region ?_)
  refine OWp.evs 2 rfl ?_
  refine OWp.nil ?_
  refine Wp.cond rfl (fun cc1 => absurd (of_decide_eq_true cc1) (by omega)) (fun cc1 => ?_)
  have cc1 := of_decide_eq_false cc1
  refine Wp.skip ?_
  refine Wp.seq (Wp.region ?_)
  refine OWp.evs 3 rfl ?_
  refine OWp.step rfl (Step.call rfl rfl rfl rfl rfl rfl ((ih _ _ (by rw [i64_id] <;> omega) ?_)))
  refine OWp.step rfl (Step.call rfl rfl rfl rfl rfl rfl ((rzerosC (n := 40) (by decide) ?_)))
  refine OWp.g rfl rfl (Gives.addStr rfl rfl rfl (by rw [hfl, List.length_replicate]; omega)) ?_
  have hsl : (f ++ List.replicate 40 0).length = 40 * m + 40 := by rw [List.length_append, hfl, List.length_replicate]
  refine OWp.evs 1 rfl ?_
  refine OWp.nil ?_
  refine Wp.seq (Wp.region ?_)
  refine OWp.evs 3 rfl ?_
  refine OWp.g rfl rfl (Gives.indexAddrSlice (m) rfl rfl rfl rfl rfl (by rw [i64_id] <;> omega) hm) ?_
  refine OWp.load hhm rfl rfl rfl rfl (partAt_agg (hat m hm) rfl rfl rfl) ?_
  refine OWp.step rfl (Step.call rfl rfl rfl rfl rfl rfl ((rflowC (hf _ (List.getElem_mem hm)) ?_)))
  refine OWp.evs 1 rfl ?_
  refine OWp.nil ?_
  refine Wp.seq (Wp.region ?_)
  refine OWp.evs 5 rfl ?_
  refine OWp.g rfl rfl (Gives.sliceStr (l := (240 - (40 * m + 40))) (h' := (fl (ks[m]'hm)).length) rfl rfl rfl ⟨_, _, rfl, (by rw [hsl, i64_id] <;> omega)⟩ rfl (by rw [fl_len]; omega) (by rw [fl_len]; omega)) ?_
  rw [List.take_of_length_le (by rw [List.length_drop]; omega)]
  refine OWp.step rfl (Step.call rfl rfl rfl rfl rfl rfl ((rwithC (by rw [hsl, List.length_drop, fl_len]; omega) (by omega) ?_)))
  refine OWp.evs 1 rfl ?_
  refine OWp.nil ?_
  refine Wp.ret ⟨trivial, _, ⟨_, _, rfl, rfl, rfl⟩, ?_⟩
  rw [hfl, flowX_eq] at H
  exact H
theorem rfillC {ks : List HK} {v : Value} (hr : Reads S 5 v ks.length (keysV ks)) (hf : ∀ k ∈ ks, k.flow.length = 32) : ∀ (m : Nat) (z : Int) (Q : Value → Ents → Prop), m ≤ ks.length → m ≤ 5 → z = (m : Int) → Q (.string (str (fillGo [] (ks.take m)))) S → CallWp Tryz.prog B 38 #[v, .int .i64 z] Q S
  | 0, _, _, _, _, hz, H => rfill0C hz H
  | m + 1, _, _, h1, h2, hz, H => rfillSC hz hr (by omega) (by omega) hf (fun y Q hy HQ => rfillC hr hf m y Q (by omega) (by omega) hy HQ) H
theorem scal_take (seed : List UInt8) (ss : List (List UInt8)) {k : Nat} (h : k < ss.length) : strs (scal seed (ss.take (k + 1))) = strs (scal seed (ss.take k)) ++ [.string (str (keysOf ss[k]).blind)] := by
  rw [List.take_succ_eq_append_getElem h, ← scal_snoc, strs_snoc]
set_option maxHeartbeats 2000000 in
theorem rsecretsC {seed : List UInt8} {ps : List (List UInt8)} {v : Value} (hr : Reads S 1 v ps.length (strs ps)) (hl : ps.length ≤ 5) (hbad : (hopsGo [seed] ps).2 ≠ 0 → Q (.tuple #[.slice none 0 0, .int .i64 ((hopsGo [seed] ps).2 : Nat)]) S) (H : (hopsGo [seed] ps).2 = 0 → (hopsGo [seed] ps).1.length = ps.length → ∀ w es, Lg.Own B 30 5 w ps.length (keysV ((hopsGo [seed] ps).1.map keysOf)) es → Q (.tuple #[w, .int .i64 0]) (es ++ S)) : CallWp Tryz.prog B 32 #[.string (str seed), v] Q S := by
  obtain ⟨va, vc, rfl⟩ := hr.form
  refine CallWp.dropRet ?_
  refine CallWp.enter (args := [_, _]) Tryz.func32 rfl Tryz.ntmps32 rfl ?_
  refine Wp.seq (Wp.region ?_)
  refine OWp.evs 2 rfl ?_
  refine OWp.nil ?_
  refine Wp.seq (Wp.region ?_)
  refine OWp.evs 1 rfl ?_
  refine OWp.nil ?_
  refine Wp.seq ?_
  refine Wp.seq (Wp.region ?_)
  refine OWp.evs 1 rfl ?_
  refine OWp.nil ?_
  refine Wp.block ?_
  refine Wp.loopS (α := Nat × List (List UInt8) × Value × Ents) (fun z => ps.length - z.1) (fun z => [(0, .string (str seed)), (1, .slice va ps.length vc), (6, z.2.2.1), (7, .int .i64 (z.1 : Int))]) (fun z => z.2.2.2 ++ S) (fun z => z.1 ≤ ps.length ∧ z.2.1.length = z.1 ∧ Lg.Own B 30 5 z.2.2.1 z.1 (keysV (z.2.1.map keysOf)) z.2.2.2 ∧ hopsFin z.2.1 (hopsGo (scal seed z.2.1) (ps.drop z.1)) = hopsGo [seed] ps) (0, [], .slice none 0 0, []) ?_ (.refl _) ⟨Nat.zero_le _, rfl, Own.nil _ _ _, hopsFin_nil _ (hopsGo_err _ _)⟩ ?_
  · exact .cons rfl (.cons rfl (.cons rfl (.cons rfl (.nil _))))
  rintro ⟨i, ss, v6, e6⟩ ⟨hi, hss, ho6, hf⟩
  simp only at hi hss ho6 hf ⊢
  obtain ⟨a6, c6, rfl⟩ := ho6.reads.form
  refine Wp.seq ?_
  refine Wp.seq (Wp.region ?_)
  refine OWp.evs 4 rfl ?_
  refine OWp.nil ?_
  refine Wp.cond rfl (fun h1 => ?_) (fun h1 => ?_)
  · have h1 := of_decide_eq_true h1
    have hi1 : i < ps.length := by omega
    refine Wp.skip ?_
    refine Wp.seq ?_
    refine Wp.block ?_
    refine Wp.seq (Wp.region ?_)
    refine OWp.evs 1 rfl ?_
    refine OWp.step rfl (Step.buildSlice rfl rfl rfl ?_); intro L8 hBL8 hLL8
    refine OWp.evs 1 rfl ?_
    refine OWp.nil ?_
    refine Wp.seq ?_
    refine Wp.seq (Wp.region ?_)
    refine OWp.evs 1 rfl ?_
    refine OWp.nil ?_
    refine Wp.block ?_
    refine Wp.loopS (α := Nat × Value × Ents) (fun z => i - z.1) (fun z => [(0, .string (str seed)), (1, .slice va ps.length vc), (6, .slice a6 i c6), (7, .int .i64 (i : Int)), (8, z.2.1), (9, .int .i64 (z.1 : Int))]) (fun z => z.2.2 ++ (e6 ++ S)) (fun z => z.1 ≤ i ∧ Lg.Own B 9 1 z.2.1 (z.1 + 1) (strs (scal seed (ss.take z.1))) z.2.2) (0, .slice (some ⟨L8, 0, none⟩) 1 1, [(L8, cel [.string (str seed)] 9)]) ?_ (.refl _) ⟨Nat.zero_le _, Own.row (k := 1) (sz := 1) hBL8 rfl (by decide)⟩ ?_
    · exact .cons rfl (.cons rfl (.cons rfl (.cons rfl (.cons rfl (.cons rfl (.nil _))))))
    rintro ⟨k, v8, e8⟩ ⟨hk, ho8⟩
    simp only at hk ho8 ⊢
    refine Wp.seq ?_
    refine Wp.seq (Wp.region ?_)
    refine OWp.evs 3 rfl ?_
    refine OWp.nil ?_
    refine Wp.cond rfl (fun h2 => ?_) (fun h2 => ?_)
    · have h2 := of_decide_eq_true h2
      have hk1 : k < i := by omega
      obtain ⟨hb, ho, hcap, hll, ht, hfz, hzv, hhm, hat⟩ := keys_elem (S := e6) (ks := ss.map keysOf) (by rw [List.length_map, hss]; exact ho6.reads) (by rw [List.length_map]; omega)
      rw [List.length_map, hss] at hzv
      cases hzv
      have hak := hat k (by rw [List.length_map]; omega)
      rw [List.getElem_map] at hak
      refine Wp.skip ?_
      refine Wp.seq ?_
      refine Wp.block ?_
      refine Wp.region ?_
      refine OWp.evs 3 rfl ?_
      refine OWp.g rfl rfl (Gives.indexAddrSlice (k) rfl rfl rfl rfl rfl rfl (by omega)) ?_
      refine OWp.evs 1 rfl ?_
      refine OWp.load (List.mem_append_right _ (List.mem_append_left _ hhm)) rfl rfl rfl rfl ((partAt_in (m := 3) hak rfl (by decide) (by decide)).trans rfl) ?_
      refine OWp.step rfl (Step.buildSlice rfl rfl rfl ?_); intro Lp1 hBLp1 hLLp1
      refine OWp.step rfl (Step.appendAt [_] rfl rfl rfl rfl rfl rfl (by decide) rfl rfl ho8 (Reads.row (k := 1) (sz := 1) (.head _) (Nat.le_of_ble_eq_true rfl)) rfl (by show (_ + 1) * 16 ≤ _; omega) (by unfold maxLen; omega) ?_); intro v9 es9 ho9 _
      refine OWp.dropAt 0 rfl ?_
      refine OWp.evs 1 rfl ?_
      refine OWp.nil ?_
      refine Wp.region ?_
      refine OWp.evs 3 rfl ?_
      refine OWp.nil ?_
      refine ⟨(k + 1, v9, es9), by simp only; omega, ⟨by simp only; omega, ?_⟩, .cons rfl (.cons rfl (.cons rfl (.cons rfl (.cons rfl (.cons' rfl (int_eq (by simp only; rw [i64_id] <;> omega)) (.nil _)))))), .refl _⟩
      simp only
      rw [scal_take seed ss (by omega)]
      exact ho9
    have h2 := of_decide_eq_false h2
    obtain rfl : k = i := by omega
    rw [List.take_of_length_le (by omega)] at ho8
    have hbl : (scal seed ss).length = k + 1 := by simp [scal, hss]
    obtain ⟨b3, o3, c3, l3, t3, f3, hv3, hm3, _, hg3⟩ := hr.get1 (by omega)
    cases hv3
    have hgi : l3[o3 + k * 1]? = some (.string (str ps[k])) := by rw [hg3 k hi1]; exact strs_at hi1
    refine Wp.exit ?_
    refine Wp.seq (Wp.region ?_)
    refine OWp.evs 2 rfl ?_
    refine OWp.g rfl rfl (Gives.indexAddrSlice (k) rfl rfl rfl rfl rfl rfl (by omega)) ?_
    refine OWp.load (List.mem_append_right _ (List.mem_append_right _ hm3)) rfl rfl rfl rfl hgi ?_
    refine OWp.evs 1 rfl ?_
    refine OWp.step rfl (Step.call rfl rfl rfl rfl rfl rfl ((rchainC (u := ps[k]) (ks := scal seed ss) (by rw [hbl]; exact ho8.reads.mono fun x hx => List.mem_append_left _ hx) (by omega) ?_)))
    refine OWp.evs 5 rfl ?_
    refine OWp.nil ?_
    refine Wp.seq ?_
    refine Wp.seq (Wp.region ?_)
    refine OWp.evs 2 rfl ?_
    refine OWp.nil ?_
    refine Wp.cond rfl (fun h3 => ?_) (fun h3 => ?_)
    · have h3 := ndT h3
      have h4 := hopsFin_bad (seed := seed) (ss := ss) hi1 (by omega)
      rw [hf] at h4
      refine Wp.seq (Wp.region ?_)
      refine OWp.evs 3 rfl ?_
      refine OWp.nil ?_
      refine Wp.ret ⟨trivial, _, ⟨_, _, rfl, rfl, _, _, rfl, rfl, rfl⟩, ?_⟩
      refine ⟨S, (List.sublist_append_right _ _).trans (List.sublist_append_right _ _), ?_⟩
      rw [h4] at hbad
      exact hbad (by simp only; omega)
    have h3 := ndF h3
    have h3' : (chainR ps[k] (scal seed ss)).2 = 0 := by omega
    have h4 := hopsFin_good (seed := seed) (ss := ss) hi1 h3'
    rw [hf] at h4
    have hcl := chainR_len h3'
    generalize hc : (chainR ps[k] (scal seed ss)).1 = c at *
    refine Wp.skip ?_
    refine Wp.drop (List.sublist_append_right _ _) ?_
    refine Wp.region ?_
    refine OWp.evs 2 rfl ?_
    refine OWp.step rfl (Step.call rfl rfl rfl rfl rfl rfl ((rofC (by rw [hcl]; decide) ?_)))
    refine OWp.step rfl (Step.buildSlice rfl rfl rfl ?_); intro Lp2 hBLp2 hLLp2
    refine OWp.step rfl (Step.appendAt [_] rfl rfl rfl rfl rfl rfl (by decide) rfl rfl ho6 (Reads.row (k := 1) (sz := 5) (.head _) (Nat.le_of_ble_eq_true rfl)) rfl (by show (_ + 1) * 80 ≤ _; omega) (by unfold maxLen; omega) ?_); intro v7 es7 ho7 _
    refine OWp.dropAt 0 rfl ?_
    refine OWp.evs 1 rfl ?_
    refine OWp.nil ?_
    refine Wp.region ?_
    refine OWp.evs 3 rfl ?_
    refine OWp.nil ?_
    refine ⟨(k + 1, ss ++ [c], v7, es7), by simp only; omega, ⟨by simp only; omega, by simp only [List.length_append, List.length_cons, List.length_nil]; omega, ?_, h4.symm⟩, .cons rfl (.cons rfl (.cons rfl (.cons' rfl (int_eq (by simp only; rw [i64_id] <;> omega)) (.nil _)))), .refl _⟩
    simp only
    rw [List.map_append, List.map_cons, List.map_nil, keysV_snoc]
    exact ho7
  have h1 := of_decide_eq_false h1
  obtain rfl : i = ps.length := by omega
  rw [List.drop_length, hopsGo] at hf
  have hf2 : hopsGo [seed] ps = (ss, 0) := by rw [← hf]; unfold hopsFin; rw [if_neg (by simp)]; simp
  rw [hf2] at H
  refine Wp.exit ?_
  refine Wp.seq (Wp.region ?_)
  refine OWp.evs 3 rfl ?_
  refine OWp.nil ?_
  refine Wp.ret ⟨trivial, _, ⟨_, _, rfl, rfl, _, _, rfl, rfl, rfl⟩, ?_⟩
  exact ⟨_, .refl _, H rfl hss _ _ ho6⟩
end
end Go.Proofs.D

namespace Go.Proofs.D
open Go.Lg Go.Sha Go.Hd Go.Cv
open Go.Proofs.C (Hop hopP hopB parse pathE encB)
set_option maxRecDepth 100000
theorem encB_hopB {x : Hop} (h : hopP x) : encB x = hopB x := by unfold encB; rw [if_pos h]
theorem rest_mid {fill b : List UInt8} {k : HK} {p : List UInt8 × List UInt8} {m : Nat} (hm : m ≠ 0) (hb : b.length = 24) (h1 : p.1.length = 16) (h2 : p.2.length = 200) : restR fill b k p m = xors (b ++ p.1 ++ p.2.take 160) (fl k) := by
  unfold restR
  rw [if_neg hm, take_drop_app hb h1 h2, flowX_eq, List.drop_zero]
attribute [local irreducible] derive hmac stream chainR
section
variable {B : Nat} {S R : Ents} {Q : Value → Ents → Prop}
set_option maxHeartbeats 4000000 in
theorem rmakeC {seed : List UInt8} {ps : List (List UInt8)} {path : List Hop} {v w : Value} (hr : Reads S 1 v ps.length (strs ps)) (hr2 : Reads S 5 w path.length (path.flatMap Hop.cells)) (hlw2 : path.length ≤ 2932031007320) (hbad : (makeR seed ps path).2.2 ≠ 0 → Q (.tuple #[.string (str []), .slice none 0 0, .int .i64 (makeR seed ps path).2.2]) S) (H : (makeR seed ps path).2.2 = 0 → ∀ z es, Lg.Own B 30 5 z path.length (keysV (makeR seed ps path).2.1) es → Q (.tuple #[.string (str (makeR seed ps path).1), z, .int .i64 0]) (es ++ S)) : CallWp Tryz.prog B 11 #[.string (str seed), v, w] Q S := by
  obtain ⟨va, vc, rfl⟩ := hr.form
  obtain ⟨pa, pc, rfl⟩ := hr2.form
  refine CallWp.dropRet ?_
  refine CallWp.enter (args := [_, _, _]) Tryz.func11 rfl Tryz.ntmps11 rfl ?_
  refine Wp.seq (Wp.region ?_)
  refine OWp.evs 3 rfl ?_
  refine OWp.nil ?_
  refine Wp.seq ?_
  refine Wp.seq (Wp.region ?_)
  refine OWp.evs 1 rfl ?_
  refine OWp.step rfl (Step.call rfl rfl rfl rfl rfl rfl ((C.rpathC hr2 rfl (by unfold C.lim; omega) ?_)))
  refine OWp.evs 1 rfl ?_
  refine OWp.nil ?_
  refine Wp.seq (Wp.region ?_)
  refine OWp.evs 2 rfl ?_
  refine OWp.nil ?_
  refine Wp.cond rfl (fun h1 => ?_) (fun h1 => ?_)
  · have h1 := ndT h1
    have hE : makeR seed ps path = ([], [], pathE path) := by unfold makeR; rw [if_pos h1]
    rw [hE] at hbad
    refine Wp.seq (Wp.region ?_)
    refine OWp.evs 4 rfl ?_
    refine OWp.nil ?_
    refine Wp.ret ⟨trivial, _, ⟨_, _, rfl, rfl, _, _, rfl, rfl, _, _, rfl, rfl, rfl⟩, ?_⟩
    exact ⟨S, .refl _, hbad h1⟩
  have h1 := ndF h1
  have h1' : pathE path = 0 := by omega
  refine Wp.skip ?_
  refine Wp.seq ?_
  refine Wp.seq (Wp.region ?_)
  refine OWp.evs 5 rfl ?_
  refine OWp.nil ?_
  refine Wp.cond rfl (fun h2 => ?_) (fun h2 => ?_)
  · have h2 := ndT h2
    have hE : makeR seed ps path = ([], [], 4) := by unfold makeR; rw [if_neg (fun h => h h1), if_pos (by omega)]
    rw [hE] at hbad
    refine Wp.seq (Wp.region ?_)
    refine OWp.evs 3 rfl ?_
    refine OWp.nil ?_
    refine Wp.ret ⟨trivial, _, ⟨_, _, rfl, rfl, _, _, rfl, rfl, _, _, rfl, rfl, rfl⟩, ?_⟩
    exact ⟨S, .refl _, hbad (by decide)⟩
  have h2 := ndF h2
  have h2' : ps.length = path.length := by omega
  obtain ⟨hgood, hpos, hmost⟩ := pathE_ok h1'
  have hl : ps.length ≤ 5 := by omega
  refine Wp.skip ?_
  refine Wp.seq ?_
  refine Wp.seq (Wp.region ?_)
  refine OWp.evs 3 rfl ?_
  refine OWp.nil ?_
  refine Wp.cond rfl (fun h3 => ?_) (fun h3 => ?_)
  · have h3 := ndT h3
    have hno : ¬ ∀ s ∈ seed :: ps, s.length = 32 := fun h => h3 (by have := h _ (List.mem_cons_self ..); omega)
    have hE : makeR seed ps path = ([], [], 3) := by unfold makeR; rw [if_neg (fun h => h h1), if_neg (by omega), if_pos hno]
    rw [hE] at hbad
    refine Wp.seq (Wp.region ?_)
    refine OWp.evs 3 rfl ?_
    refine OWp.nil ?_
    refine Wp.ret ⟨trivial, _, ⟨_, _, rfl, rfl, _, _, rfl, rfl, _, _, rfl, rfl, rfl⟩, ?_⟩
    exact ⟨S, .refl _, hbad (by decide)⟩
  have h3 := ndF h3
  have hseed : seed.length = 32 := by omega
  refine Wp.skip ?_
  refine Wp.seq ?_
  refine Wp.seq (Wp.region ?_)
  refine OWp.evs 1 rfl ?_
  refine OWp.nil ?_
  refine Wp.block ?_
  refine Wp.loopS (α := Nat) (fun i => ps.length - i) (fun i => [(0, .string (str seed)), (1, .slice va ps.length vc), (2, .slice pa path.length pc), (10, .int .i64 (i : Int))]) (fun _ => S) (fun i => i ≤ ps.length ∧ ∀ s ∈ ps.take i, s.length = 32) 0 ?_ (.refl _) ⟨Nat.zero_le _, by simp⟩ ?_
  · exact .cons rfl (.cons rfl (.cons rfl (.cons rfl (.nil _))))
  rintro i ⟨hi, hall⟩
  refine Wp.seq ?_
  refine Wp.seq (Wp.region ?_)
  refine OWp.evs 4 rfl ?_
  refine OWp.nil ?_
  refine Wp.cond rfl (fun h4 => ?_) (fun h4 => ?_)
  · have h4 := of_decide_eq_true h4
    have hi1 : i < ps.length := by omega
    obtain ⟨b2, o2, c2, l2, t2, f2, hv2, hm2, _, hg2⟩ := hr.get1 (by omega)
    cases hv2
    have hgi : l2[o2 + i * 1]? = some (.string (str ps[i])) := by rw [hg2 i hi1]; exact strs_at hi1
    refine Wp.skip ?_
    refine Wp.seq ?_
    refine Wp.block ?_
    refine Wp.seq (Wp.region ?_)
    refine OWp.evs 2 rfl ?_
    refine OWp.g rfl rfl (Gives.indexAddrSlice (i) rfl rfl rfl rfl rfl rfl (by omega)) ?_
    refine OWp.load hm2 rfl rfl rfl rfl hgi ?_
    refine OWp.evs 2 rfl ?_
    refine OWp.nil ?_
    refine Wp.cond rfl (fun h5 => ?_) (fun h5 => ?_)
    · have h5 := ndT h5
      have hno : ¬ ∀ s ∈ seed :: ps, s.length = 32 := fun h => h5 (by have := h _ (List.mem_cons_of_mem _ (List.getElem_mem hi1)); omega)
      have hE : makeR seed ps path = ([], [], 3) := by unfold makeR; rw [if_neg (fun h => h h1), if_neg (by omega), if_pos hno]
      rw [hE] at hbad
      refine Wp.seq (Wp.region ?_)
      refine OWp.evs 3 rfl ?_
      refine OWp.nil ?_
      refine Wp.ret ⟨trivial, _, ⟨_, _, rfl, rfl, _, _, rfl, rfl, _, _, rfl, rfl, rfl⟩, ?_⟩
      exact ⟨S, .refl _, hbad (by decide)⟩
    have h5 := ndF h5
    refine Wp.skip ?_
    refine Wp.region ?_
    refine OWp.evs 3 rfl ?_
    refine OWp.nil ?_
    refine ⟨i + 1, by omega, ⟨by omega, ?_⟩, .cons rfl (.cons rfl (.cons rfl (.cons' rfl (int_eq (by rw [i64_id] <;> omega)) (.nil _)))), .refl _⟩
    intro s hs
    rw [List.take_succ_eq_append_getElem hi1] at hs
    rcases List.mem_append.1 hs with hs | hs
    · exact hall s hs
    · rw [List.mem_singleton.1 hs]; omega
  have h4 := of_decide_eq_false h4
  obtain rfl : i = ps.length := by omega
  rw [List.take_length] at hall
  have hall2 : ∀ s ∈ seed :: ps, s.length = 32 := fun s hs => by rcases List.mem_cons.1 hs with rfl | hs; exact hseed; exact hall s hs
  refine Wp.exit ?_
  refine Wp.seq (Wp.region ?_)
  refine OWp.evs 2 rfl ?_
  refine OWp.step rfl (Step.call rfl rfl rfl rfl rfl rfl ((rsecretsC hr hl ?_ ?_)))
  intro he
  · skip
    refine OWp.evs 5 rfl ?_
    refine OWp.nil ?_
    refine Wp.seq ?_
    refine Wp.seq (Wp.region ?_)
    refine OWp.evs 2 rfl ?_
    refine OWp.nil ?_
    refine Wp.cond rfl (fun cc1 => ?_) (fun cc1 => absurd (ndF cc1) (by omega))
    have cc1 := ndT cc1
    refine Wp.seq (Wp.region ?_)
    refine OWp.evs 4 rfl ?_
    refine OWp.nil ?_
    refine Wp.ret ⟨trivial, _, ⟨_, _, rfl, rfl, _, _, rfl, rfl, _, _, rfl, rfl, rfl⟩, ?_⟩
    have hE : makeR seed ps path = ([], [], (((hopsGo [seed] ps).2 : Nat) : Int)) := by unfold makeR; rw [if_neg (fun h => h h1), if_neg (by omega), if_neg (fun h => h hall2), if_pos he]
    rw [hE] at hbad
    exact ⟨S, .refl _, hbad (by simp only; omega)⟩
  intro he hlen zv es how
  have hE : makeR seed ps path = (headR seed ((hopsGo [seed] ps).1.map keysOf) (path.map encB), (hopsGo [seed] ps).1.map keysOf, 0) := by unfold makeR; rw [if_neg (fun h => h h1), if_neg (by omega), if_neg (fun h => h hall2), if_neg (by omega)]
  rw [hE] at H
  clear hbad hE
  generalize hss : (hopsGo [seed] ps).1 = ss at *
  refine OWp.evs 5 rfl ?_
  refine OWp.nil ?_
  refine Wp.seq ?_
  refine Wp.seq (Wp.region ?_)
  refine OWp.evs 2 rfl ?_
  refine OWp.nil ?_
  refine Wp.cond rfl (fun c => nomatch c) (fun _ => ?_)
  obtain ⟨ks, hks2⟩ : ∃ ks, ks = ss.map keysOf := ⟨_, rfl⟩
  rw [← hks2] at H how
  obtain ⟨n, hn⟩ : ∃ n, path.length = n + 1 := ⟨path.length - 1, by omega⟩
  have hkl : ks.length = n + 1 := by rw [hks2, List.length_map]; omega
  have hk32 : ∀ k ∈ ks, k.flow.length = 32 ∧ k.mac.length = 32 := fun k hk => by rw [hks2] at hk; obtain ⟨s, _, rfl⟩ := List.mem_map.1 hk; exact ⟨(keysOf_lens s).1, (keysOf_lens s).2.1⟩
  have how1 : Reads es 5 zv ks.length (keysV ks) := by have := how.reads; rw [h2', hn, ← hkl] at this; exact this
  obtain ⟨hb, ho, hcap, hll, ht, hfz, hzv, hhm, hat⟩ := keys_elem how1 (by omega)
  subst hzv
  obtain ⟨qb, qo, qcap, qll, qt, qfz, qzv, qhm, qat⟩ := Reads.elem (sz := 5) hr2 (C.hop_flat _) hpos
  cases qzv
  have w1 : IntKind.i64.wrap ((path.length : Int) - 1) = (n : Int) := by rw [hn, i64_id] <;> omega
  have w2 : IntKind.i64.wrap (40 * (n : Int)) = ((40 * n : Nat) : Int) := by rw [i64_id] <;> omega
  have w3 : IntKind.i64.wrap (200 - ((40 * n : Nat) : Int)) = ((200 - 40 * n : Nat) : Int) := by rw [i64_id] <;> omega
  obtain ⟨bb, hbb⟩ : ∃ b, b = encB (path[n]'(by omega)) := ⟨_, rfl⟩
  have he24 : bb.length = 24 := by rw [hbb]; exact encB_good (hgood _ (List.getElem_mem _))
  obtain ⟨pad, hpad⟩ : ∃ f, f = derive seed [112, 97, 100] 200 := ⟨_, rfl⟩
  have hpl : pad.length = 200 := by rw [hpad, derive_len]
  obtain ⟨fill, hfill⟩ : ∃ f, f = fillGo [] ks.dropLast := ⟨_, rfl⟩
  have hdl : ks.take n = ks.dropLast := by rw [List.dropLast_eq_take, hkl]; rfl
  have hfle : fill.length = 40 * n := by rw [hfill, fillGo_len _ _ (by simp; omega)]; simp; omega
  have hk0 : ∀ k ∈ ks, k.flow.length = 32 := fun k hk => (hk32 k hk).1
  refine Wp.skip ?_
  refine Wp.seq (Wp.region ?_)
  refine OWp.evs 3 rfl ?_
  refine OWp.nil ?_
  refine Wp.seq (Wp.region ?_)
  refine OWp.evs 5 rfl ?_
  refine OWp.nil ?_
  refine Wp.seq (Wp.region ?_)
  refine OWp.evs 3 rfl ?_
  refine OWp.g rfl rfl (Gives.indexAddrSlice (n) rfl rfl rfl rfl rfl w1 (by omega)) ?_
  refine OWp.load (List.mem_append_right _ qhm) rfl rfl rfl rfl (partAt_agg (qat n (by omega)) rfl rfl rfl) ?_
  refine OWp.step rfl (Step.call rfl rfl rfl rfl rfl rfl ((C.rbytesHop (hgood _ (List.getElem_mem _)) ?_)))
  rw [← encB_hopB (hgood _ (List.getElem_mem _)), ← hbb]
  refine OWp.step rfl (Step.call rfl rfl rfl rfl rfl rfl ((rzerosC (n := 16) (by decide) ?_)))
  refine OWp.g rfl rfl (Gives.addStr rfl rfl rfl (by rw [he24, List.length_replicate]; decide)) ?_
  refine OWp.evs 1 rfl ?_
  refine OWp.step rfl (Step.call rfl rfl rfl rfl rfl rfl ((rkeyC (n := 200) (label := [112, 97, 100]) (by decide) (by rw [hseed]; decide) (by decide) ?_)))
  rw [← hpad]
  refine OWp.g rfl rfl (Gives.addStr rfl rfl rfl (by rw [List.length_append, he24, List.length_replicate, hpl]; decide)) ?_
  have hX : (bb ++ List.replicate 16 0 ++ pad).length = 240 := by rw [List.length_append, List.length_append, he24, List.length_replicate, hpl]
  refine OWp.evs 1 rfl ?_
  refine OWp.nil ?_
  refine Wp.seq (Wp.regionDraw [0, 1, 2, 3, 4, 5, 6, 7, 10, 11, 12, 8, 9, 13, 14, 15] [8, 9, 13] rfl (by decide +kernel) ?_)
  refine DWp.evs 2 rfl ?_
  refine DWp.g rfl rfl rfl rfl (Gives.sliceStr (l := 0) (h' := 200 - 40 * n) rfl rfl rfl rfl ⟨_, _, rfl, (by rw [w1, w2, w3])⟩ (by omega) (by omega)) ?_
  rw [Nat.sub_zero, List.drop_zero]
  refine DWp.evs 3 rfl ?_
  refine DWp.g rfl rfl rfl rfl (Gives.indexAddrSlice (n) rfl rfl rfl rfl rfl w1 (by omega)) ?_
  refine DWp.load (List.mem_append_left _ hhm) rfl rfl rfl rfl rfl rfl (partAt_agg (hat n (by omega)) rfl rfl rfl) ?_
  refine DWp.evs 3 rfl ?_
  refine DWp.stepGrow rfl rfl rfl (Step.call rfl rfl rfl rfl rfl rfl ((rflowC (hk0 _ (List.getElem_mem _)) ?_)))
  refine ⟨fun _ hy => hy, ?_⟩
  refine DWp.stepGrow rfl rfl rfl (Step.call rfl rfl rfl rfl rfl rfl ((rwithC (by rw [List.length_take, fl_len]; omega) (by rw [List.length_take]; omega) ?_)))
  refine ⟨fun _ hy => hy, ?_⟩
  refine DWp.stepGrow rfl rfl rfl (Step.call rfl rfl rfl rfl rfl rfl ((rfillC (how1.mono fun x hx => List.mem_append_left _ hx) hk0 n _ _ (by omega) (by omega) w1 ?_)))
  refine ⟨fun _ hy => hy, ?_⟩
  rw [hdl, ← hfill]
  refine DWp.g rfl rfl rfl rfl (Gives.addStr rfl rfl rfl (by rw [Hd.xors_len, List.length_take, fl_len, hfle]; omega)) ?_
  obtain ⟨bk, hbk⟩ : ∃ b, b = (path.map encB).zip ks := ⟨_, rfl⟩
  have hbl : bk.length = n + 1 := by rw [hbk, List.length_zip, List.length_map, hkl]; omega
  have hbg : ∀ i (h2 : i < bk.length) (h3 : i < path.length) (h4 : i < ks.length), bk[i] = (encB path[i], ks[i]) := fun i h2 h3 h4 => by subst hbk; rw [List.getElem_zip, List.getElem_map]
  have hb24 : ∀ x ∈ bk, x.1.length = 24 := fun x hx => by rw [hbk] at hx; obtain ⟨y, hy, e⟩ := List.mem_map.1 (List.of_mem_zip hx).1; rw [← e]; exact encB_good (hgood _ hy)
  have hL := fun j => listR_len (pad := pad) (fill := fill) hpl (by omega) (bk.drop j) (fun x hx => hb24 x (List.mem_of_mem_drop hx))
  have hdrop : ∀ i (h3 : i < path.length) (h4 : i < ks.length), bk.drop i = (encB path[i], ks[i]) :: bk.drop (i + 1) := fun i h3 h4 => by rw [List.drop_eq_getElem_cons (by omega), hbg i (by omega) h3 h4]
  have hlast : xors ((bb ++ List.replicate 16 0 ++ pad).take (200 - 40 * n)) (fl (ks[n]'(by omega))) ++ fill = (listR pad fill (bk.drop n)).2 := by
    rw [hdrop n (by omega) (by omega), List.drop_of_length_le (by omega), listR_cons, ← hbb]
    unfold restR
    simp only [List.length_nil, if_true]
    rw [flowX_eq, List.drop_zero, hfle]
    rfl
  have hmacl : macX (ks[n]'(by omega)) (listR pad fill (bk.drop n)).2 = (listR pad fill (bk.drop n)).1 := by
    rw [hdrop n (by omega) (by omega), listR_cons]
  rw [hlast]
  refine DWp.evs 1 rfl ?_
  refine DWp.nil ?_
  refine Wp.seq (Wp.region ?_)
  refine OWp.evs 3 rfl ?_
  refine OWp.g rfl rfl (Gives.indexAddrSlice (n) rfl rfl rfl rfl rfl w1 (by omega)) ?_
  refine OWp.load (List.mem_append_left _ hhm) rfl rfl rfl rfl (partAt_agg (hat n (by omega)) rfl rfl rfl) ?_
  refine OWp.evs 1 rfl ?_
  refine OWp.step rfl (Step.call rfl rfl rfl rfl rfl rfl ((rmacC (hk32 _ (List.getElem_mem _)).2 (by rw [(hL n).2]; decide) ?_)))
  rw [hmacl]
  refine OWp.evs 1 rfl ?_
  refine OWp.nil ?_
  refine Wp.seq ?_
  refine Wp.seq (Wp.region ?_)
  refine OWp.evs 3 rfl ?_
  refine OWp.nil ?_
  refine Wp.block ?_
  refine Wp.loopS (α := Nat) (fun j => n + 1 - j) (fun j => [(0, .string (str seed)), (2, .slice (some ⟨qb, qo, none⟩) path.length pc), (11, .slice (some ⟨hb, ho, none⟩) ks.length hcap), (16, .string (str (listR pad fill (bk.drop (n - j))).2)), (17, .string (str (listR pad fill (bk.drop (n - j))).1)), (18, .int .i64 ((n : Int) - 1 - (j : Int)))]) (fun _ => es ++ S) (fun j => j ≤ n) 0 ?_ (.refl _) (Nat.zero_le _) ?_
  · exact .cons rfl (.cons rfl (.cons rfl (.cons rfl (.cons rfl (.cons' rfl (int_eq (by rw [hn, i64_id] <;> omega)) (.nil _))))))
  rintro j hj
  refine Wp.seq ?_
  refine Wp.seq (Wp.region ?_)
  refine OWp.evs 2 rfl ?_
  refine OWp.nil ?_
  refine Wp.cond rfl (fun h7 => ?_) (fun h7 => ?_)
  · have h7 := of_decide_eq_true h7
    have hj1 : j < n := by omega
    obtain ⟨i, hi⟩ : ∃ i, i = n - (j + 1) := ⟨_, rfl⟩
    have hi2 : n - j = i + 1 := by omega
    have hi3 : (n : Int) - 1 - (j : Int) = (i : Int) := by omega
    have hdr := hdrop i (by omega) (by omega)
    have hdl2 : (bk.drop (i + 1)).length ≠ 0 := by rw [List.length_drop, hbl]; omega
    have hLi := hL (i + 1)
    rw [hi2, hi3]
    obtain ⟨px, hpx⟩ : ∃ p, p = listR pad fill (bk.drop (i + 1)) := ⟨_, rfl⟩
    obtain ⟨bi, hbi⟩ : ∃ b, b = encB (path[i]'(by omega)) := ⟨_, rfl⟩
    have hi24 : bi.length = 24 := by rw [hbi]; exact encB_good (hgood _ (List.getElem_mem _))
    obtain ⟨ki, hki⟩ : ∃ k, k = ks[i]'(by omega) := ⟨_, rfl⟩
    have hkm : ki ∈ ks := by rw [hki]; exact List.getElem_mem _
    rw [← hpx] at hLi ⊢
    have hmid := rest_mid (fill := fill) (k := ki) hdl2 hi24 hLi.1 hLi.2
    have hrl := restR_len (k := ki) (m := (bk.drop (i + 1)).length) (fill := fill) (by omega) hi24 hLi.1 hLi.2
    refine Wp.skip ?_
    refine Wp.seq ?_
    refine Wp.block ?_
    refine Wp.seq (Wp.regionDraw [0, 1, 2, 3, 5, 7, 8, 4, 6, 9, 10] [4] rfl (by decide +kernel) ?_)
    refine DWp.evs 2 rfl ?_
    refine DWp.g rfl rfl rfl rfl (Gives.indexAddrSlice (i) rfl rfl rfl rfl rfl rfl (by omega)) ?_
    refine DWp.load (List.mem_append_right _ qhm) rfl rfl rfl rfl rfl rfl (partAt_agg (qat i (by omega)) rfl rfl rfl) ?_
    refine DWp.evs 2 rfl ?_
    refine DWp.g rfl rfl rfl rfl (Gives.sliceStr (l := 0) (h' := 160) rfl rfl rfl rfl ⟨_, _, rfl, rfl⟩ (by decide) (by rw [hLi.2]; decide)) ?_
    rw [Nat.sub_zero, List.drop_zero]
    refine DWp.stepGrow rfl rfl rfl (Step.call rfl rfl rfl rfl rfl rfl ((C.rbytesHop (hgood _ (List.getElem_mem _)) ?_)))
    refine ⟨fun _ hy => hy, ?_⟩
    rw [← encB_hopB (hgood _ (List.getElem_mem _)), ← hbi]
    refine DWp.g rfl rfl rfl rfl (Gives.addStr rfl rfl rfl (by rw [hi24, hLi.1]; decide)) ?_
    refine DWp.g rfl rfl rfl rfl (Gives.addStr rfl rfl rfl (by rw [List.length_append, hi24, hLi.1, List.length_take]; omega)) ?_
    refine DWp.evs 1 rfl ?_
    refine DWp.nil ?_
    refine Wp.seq (Wp.region ?_)
    refine OWp.evs 3 rfl ?_
    refine OWp.g rfl rfl (Gives.indexAddrSlice (i) rfl rfl rfl rfl rfl rfl (by omega)) ?_
    refine OWp.load (List.mem_append_left _ hhm) rfl rfl rfl rfl (partAt_agg (hat i (by omega)) rfl rfl rfl) ?_
    rw [← hki]
    refine OWp.step rfl (Step.call rfl rfl rfl rfl rfl rfl ((rflowC (hk0 _ hkm) ?_)))
    refine OWp.step rfl (Step.call rfl rfl rfl rfl rfl rfl ((rwithC (by rw [List.length_append, List.length_append, hi24, hLi.1, List.length_take, fl_len]; omega) (by rw [List.length_append, List.length_append, hi24, hLi.1, List.length_take]; omega) ?_)))
    rw [← hmid]
    refine OWp.evs 1 rfl ?_
    refine OWp.nil ?_
    refine Wp.region ?_
    refine OWp.evs 2 rfl ?_
    refine OWp.g rfl rfl (Gives.indexAddrSlice (i) rfl rfl rfl rfl rfl rfl (by omega)) ?_
    refine OWp.load (List.mem_append_left _ hhm) rfl rfl rfl rfl (partAt_agg (hat i (by omega)) rfl rfl rfl) ?_
    rw [← hki]
    refine OWp.evs 1 rfl ?_
    refine OWp.step rfl (Step.call rfl rfl rfl rfl rfl rfl ((rmacC (hk32 _ hkm).2 (by rw [hrl]; decide) ?_)))
    refine OWp.evs 1 rfl ?_
    refine OWp.nil ?_
    refine Wp.region ?_
    refine OWp.evs 3 rfl ?_
    refine OWp.nil ?_
    have hcons : listR pad fill (bk.drop (n - (j + 1))) = (macX ki (restR fill bi ki px (bk.drop (i + 1)).length), restR fill bi ki px (bk.drop (i + 1)).length) := by rw [← hi, hdr, listR_cons, ← hpx, ← hbi, ← hki]
    exact ⟨j + 1, by omega, by omega, .cons rfl (.cons rfl (.cons rfl (.cons' rfl (by rw [hcons]) (.cons' rfl (by rw [hcons]) (.cons' rfl (int_eq (by rw [i64_id] <;> omega)) (.nil _)))))), .refl _⟩
  have h7 := of_decide_eq_false h7
  obtain rfl : j = n := by omega
  have hL0 := hL 0
  rw [Nat.sub_self]
  refine Wp.exit ?_
  refine Wp.seq (Wp.region ?_)
  refine OWp.evs 1 rfl ?_
  refine OWp.step rfl (Step.call rfl rfl rfl rfl rfl rfl ((rpublicC ?_)))
  have hpub : (publicR seed).1.length = 32 := by rw [publicR_eq hseed]; exact len32 _
  refine OWp.evs 5 rfl ?_
  refine OWp.nil ?_
  refine Wp.seq (Wp.region ?_)
  refine OWp.evs 2 rfl ?_
  refine OWp.g rfl rfl (Gives.addStr rfl rfl rfl (by rw [hpub, hL0.1]; decide)) ?_
  refine OWp.evs 1 rfl ?_
  refine OWp.g rfl rfl (Gives.addStr rfl rfl rfl (by rw [List.length_append, hpub, hL0.1, hL0.2]; decide)) ?_
  have hfin : (publicR seed).1 ++ (listR pad fill (bk.drop 0)).1 ++ (listR pad fill (bk.drop 0)).2 = headR seed ks (path.map encB) := by rw [List.drop_zero, hbk, hpad, hfill]; rfl
  rw [hfin]
  refine OWp.evs 4 rfl ?_
  refine OWp.nil ?_
  refine Wp.ret ⟨trivial, _, ⟨_, _, rfl, rfl, _, _, rfl, rfl, _, _, rfl, rfl, rfl⟩, ?_⟩
  exact ⟨_, .refl _, H rfl _ es (by rw [← h2']; exact how)⟩
end
end Go.Proofs.D

namespace Go.Proofs.D
open Go.Lg Go.Sha Go.Hd Go.Cv
open Go.Proofs.C (Hop hopP hopB parse pathE encB)
set_option maxRecDepth 100000
attribute [local irreducible] derive hmac stream chainR sharedR timesR
section
variable {B : Nat} {S R : Ents} {Q : Value → Ents → Prop}
end
end Go.Proofs.D

/- Laws of wide blocks: the works, what is laid open, what is turned. -/
namespace Go.Sha

def wstep (key : List UInt8) (x : List UInt8 × List UInt8) (i : Nat) : List UInt8 × List UInt8 := if i % 2 = 0 then wflow key i x else wpress key i x
theorem wshut_fold (key b : List UInt8) : wshut key b = whole ([0, 1, 2, 3].foldl (wstep key) (halves b)) := rfl
theorem wstep_halved {m : Nat} {key : List UInt8} {i : Nat} {x : List UInt8 × List UInt8} (h : Halved m x) : Halved m (wstep key x i) := by
  unfold wstep
  split
  · exact wflow_halved h
  · exact wpress_halved h
theorem wfold_halved {m : Nat} {key : List UInt8} : ∀ (l : List Nat) {x : List UInt8 × List UInt8}, Halved m x → Halved m (l.foldl (wstep key) x)
  | [], _, h => h
  | i :: l, _, h => wfold_halved l (wstep_halved (i := i) h)
theorem xors_comm : ∀ a b : List UInt8, xors a b = xors b a
  | [], b => by cases b <;> rfl
  | x :: a, [] => rfl
  | x :: a, y :: b => by
    show (x ^^^ y) :: xors a b = (y ^^^ x) :: xors b a
    rw [xors_comm a b, UInt8.xor_comm]

/-- A block's answer, and why there is none. -/
def blockR (f : List UInt8 → List UInt8) (b : List UInt8) : List UInt8 × Nat :=
  if b.length < 64 then ([], 3) else if 8192 < b.length then ([], 2) else (f b, 0)
def wrapR (key text : List UInt8) (n : Int) : List UInt8 × Nat :=
  if n < 64 then ([], 3) else if 8192 < n ∨ n - 34 < (text.length : Int) then ([], 2) else (wshut key (wplain text n.toNat), 0)
def unwrapT : Option (List UInt8) → List UInt8 × Nat
  | some t => (t, 0)
  | none => ([], 90)
def unwrapR (key b : List UInt8) : List UInt8 × Nat :=
  if b.length < 64 then ([], 3) else if 8192 < b.length then ([], 2) else unwrapT (wtext (wopen key b))

/-- The bytes of a block as they are laid, text byte by text byte. -/
def plainAt (text : List UInt8) (n i : Nat) : List UInt8 :=
  List.replicate 32 0 ++ (UInt8.ofNat (text.length / 256) :: UInt8.ofNat text.length :: (text.take i ++ List.replicate (n - 34 - i) 0))
theorem plainAt_all (text : List UInt8) (n : Nat) : plainAt text n text.length = wplain text n := by simp [plainAt, wplain]
theorem plainAt_len {text : List UInt8} {n i : Nat} (hi : i ≤ text.length) (h : text.length + 34 ≤ n) : (plainAt text n i).length = n := by
  unfold plainAt
  simp only [List.length_append, List.length_cons, List.length_replicate, List.length_take]
  omega
theorem plainAt_set {text : List UInt8} {n i : Nat} (hi : i < text.length) (h : text.length + 34 ≤ n) : (plainAt text n i).set (34 + i) (text.getD i 0) = plainAt text n (i + 1) := by
  unfold plainAt
  rw [List.set_append_right _ _ (by rw [List.length_replicate]; omega), List.length_replicate, show 34 + i - 32 = i + 1 + 1 by omega, List.set_cons_succ, List.set_cons_succ]
  have e1 : (text.take i).length = i := by rw [List.length_take]; omega
  rw [List.set_append_right _ _ (by omega), e1, Nat.sub_self, show n - 34 - i = (n - 34 - (i + 1)) + 1 by omega, List.replicate_succ (n := n - 34 - (i + 1)), List.set_cons_zero]
  rw [List.take_add_one, List.append_assoc]
  congr 4
  rw [List.getElem?_eq_getElem hi, List.getD_eq_getElem?_getD, List.getElem?_eq_getElem hi]
  rfl
theorem plainAt_first (text : List UInt8) {n : Nat} (h : 34 ≤ n) :
    ((List.replicate n (0 : UInt8)).set 32 (UInt8.ofNat (text.length / 256))).set 33 (UInt8.ofNat text.length) = plainAt text n 0 := by
  have : n = 32 + (n - 34 + 1 + 1) := by omega
  obtain ⟨m, hm⟩ : ∃ m, m = n - 34 := ⟨_, rfl⟩
  have e : List.replicate n (0 : UInt8) = List.replicate 32 0 ++ (0 :: 0 :: List.replicate m 0) := by
    rw [this, ← hm, ← List.replicate_append_replicate]; rfl
  rw [e, List.set_append_right _ _ (by rw [List.length_replicate]; omega), List.length_replicate, List.set_append_right _ _ (by rw [List.length_replicate]; omega), List.length_replicate]
  unfold plainAt
  rw [List.take_zero, List.nil_append, Nat.sub_zero, ← hm]
  rfl
end Go.Sha

namespace Go.Proofs.D
open Go.Sha
theorem dropZ_nil {l : List UInt8} : l.dropWhile (· == 0) = [] ↔ l.all (· == 0) = true := by
  induction l with
  | nil => simp
  | cons a l ih =>
    rw [List.dropWhile_cons, List.all_cons]
    split
    · rename_i h; simp only [h, Bool.true_and]; exact ih
    · rename_i h; simp [h]
theorem trim_nil {l : List UInt8} : trim l = [] ↔ l.all (· == 0) = true := by
  unfold trim
  rw [dropZ_nil]
  constructor
  · intro h
    rw [List.all_reverse] at h
    have h2 : l.reverse.dropWhile (· == 0) = [] := by
      by_cases h3 : l.reverse.dropWhile (· == 0) = []
      · exact h3
      · have := List.head_dropWhile_not (p := (· == (0 : UInt8))) (w := h3)
        have h4 := List.all_eq_true.1 h _ (List.head_mem h3)
        simp_all
    have := dropZ_nil.1 h2
    rwa [List.all_reverse] at this
  · intro h
    have : l.reverse.dropWhile (· == 0) = [] := dropZ_nil.2 (by rw [List.all_reverse]; exact h)
    rw [this]; rfl
theorem trim_all {l : List UInt8} (h : l.all (· == 0) = true) : trim l = [] := trim_nil.2 h
end Go.Proofs.D
