/- What functions of the given program do, one after the other, told by that layer. -/
import Derived.Test.YtkbagleekpgdeaaGreatDoorZM14xf685
namespace Go.Proofs.D
open Go.Lg Go.Sha Go.Hd Go.Cv
open Go.Proofs.C (Hop hopP hopB parse pathE encB)
set_option maxRecDepth 100000
/-- What a hop has of a packet. -/
structure Pd where
  hop : Hop
  packet : List UInt8
  tag : List UInt8
  text : List UInt8
def Pd.cells (p : Pd) : List Value := p.hop.cells ++ [.string (str p.packet), .string (str p.tag), .string (str p.text)]
def Pd.zero : Pd := ⟨Hop.zero, [], [], []⟩
/-- The cells of the code's hand. -/
def handC (h : Hop) (next : List UInt8) (k : HK) (body : List UInt8) : List Value := k.cells ++ (h.cells ++ [.string (str next), .string (str body)])
def lastR (h : Hop) (tag : List UInt8) : Option (List UInt8) → Pd × Int
  | none => (Pd.zero, 90)
  | some t => (⟨h, [], tag, t⟩, 0)
def pkPeelR (priv packet : List UInt8) : Pd × Int :=
  if packet.length ≠ 504 then (Pd.zero, 3)
  else if (peelR priv (packet.take 248)).2.2.2 ≠ 0 then (Pd.zero, (peelR priv (packet.take 248)).2.2.2)
  else if (peelR priv (packet.take 248)).1.kind = 1 then (⟨(peelR priv (packet.take 248)).1, (peelR priv (packet.take 248)).2.1 ++ wopen (peelR priv (packet.take 248)).2.2.1.body (packet.drop 248), (peelR priv (packet.take 248)).2.2.1.tag, []⟩, 0)
  else lastR (peelR priv (packet.take 248)).1 (peelR priv (packet.take 248)).2.2.1.tag (wtext (wopen (peelR priv (packet.take 248)).2.2.1.body (packet.drop 248)))
theorem peel_ok {priv header : List UInt8} (h : (peelR priv header).2.2.2 = 0) : (∃ s, (peelR priv header).2.2.1 = keysOf s) ∧ (peelR priv header).2.1.length ≤ 248 := by
  unfold peelR at h ⊢
  split at h
  · cases h
  · rename_i h1
    split at h
    · rename_i h2; exact absurd (Int.ofNat.inj h) h2
    · rename_i h2
      split at h
      · cases h
      · rename_i h3
        rw [if_neg h1, if_neg h2, if_neg h3]
        have h1 := Classical.not_not.1 h1
        unfold openR at h ⊢
        simp only at h ⊢
        split at h
        · rename_i h4; exact absurd h h4
        · rename_i h4
          rw [if_neg h4]
          split at h
          · rename_i h5
            rw [if_pos h5]
            exact ⟨⟨_, rfl⟩, by simp⟩
          · rename_i h5
            rw [if_neg h5]
            refine ⟨⟨_, rfl⟩, ?_⟩
            have hk := (keysOf_lens (sharedR priv (header.take 32)).1).2.2.2.1
            generalize keysOf (sharedR priv (header.take 32)).1 = k at *
            have hp32 : (header.take 32).length = 32 := by rw [List.length_take]; omega
            have e1 : (timesR k.blind (header.take 32)).1.length = 32 := by rw [timesR_eq hk hp32]; exact len32 _
            have hz : (header.drop 48 ++ List.replicate 40 0).length = 240 := by rw [List.length_append, List.length_drop, List.length_replicate]; omega
            have e2 : (flowX k (header.drop 48 ++ List.replicate 40 0) 0).length = 240 := by rw [flowX_len _ (by omega), hz]
            generalize (timesR k.blind (header.take 32)).1 = a at *
            generalize flowX k (header.drop 48 ++ List.replicate 40 0) 0 = b at *
            show (a ++ b.drop 24).length ≤ 248
            rw [List.length_append, List.length_drop]
            omega
theorem hand_kb (h : Hop) (next : List UInt8) (k : HK) (body : List UInt8) : Lg.partAt Tryz.prog 9 (handC h next k body) 2 = some (.string (str k.body)) := rfl
theorem hand_b (h : Hop) (next : List UInt8) (k : HK) (body : List UInt8) : Lg.partAt Tryz.prog 9 (handC h next k body) 11 = some (.string (str body)) := rfl
theorem hand_k (h : Hop) (next : List UInt8) (k : HK) (body : List UInt8) : Lg.partAt Tryz.prog 3 (handC h next k body) 5 = some (.int .i64 h.kind) := rfl
theorem hand_h (h : Hop) (next : List UInt8) (k : HK) (body : List UInt8) : Lg.partAt Tryz.prog 32 (handC h next k body) 5 = some (.agg h.cells.toArray) := rfl
theorem hand_n (h : Hop) (next : List UInt8) (k : HK) (body : List UInt8) : Lg.partAt Tryz.prog 9 (handC h next k body) 10 = some (.string (str next)) := rfl
theorem hand_t (h : Hop) (next : List UInt8) (k : HK) (body : List UInt8) : Lg.partAt Tryz.prog 9 (handC h next k body) 4 = some (.string (str k.tag)) := rfl
attribute [local irreducible] derive hmac stream chainR makeR peelR wshut wopen wplain wtext
section
variable {B : Nat} {S R : Ents} {Q : Value → Ents → Prop}
theorem handOpenC {L : Nat} {h : Hop} {next body : List UInt8} {k : HK} (hB : B ≤ L) (hks : KsIn R) (hk : k.body.length = 32) (hb : body.length = 256) (H : Q (.tuple #[]) ((L, cel (handC h next k (wopen k.body body)) 83) :: R)) : CallWp Tryz.prog B 56 #[.pointer (some ⟨L, 0, none⟩)] Q ((L, cel (handC h next k body) 83) :: R) := by
  refine CallWp.enter (args := [_]) Tryz.func56 rfl Tryz.ntmps56 rfl ?_
  refine Wp.regionDraw [0, 1, 2, 3, 4, 5, 6, 7, 8, 9, 10, 11, 12, 13, 14, 15, 16] [10, 16] rfl (by decide +kernel) ?_
  refine DWp.evs 5 rfl ?_
  refine DWp.load (.head _) rfl rfl rfl rfl rfl rfl (hand_kb h next k body) ?_
  refine DWp.evs 3 rfl ?_
  refine DWp.load (.head _) rfl rfl rfl rfl rfl rfl (hand_b h next k body) ?_
  refine DWp.stepGrow rfl rfl rfl (Step.call rfl rfl rfl rfl rfl rfl ((wopenC (key := k.body) (block := body) hks.cons (by rw [hk]; decide) ?_)))
  refine ⟨fun _ hy => hy, ?_⟩
  rw [blockR_ok' hb]
  refine DWp.evs 5 rfl ?_
  refine DWp.stepAll rfl rfl rfl rfl (Step.storeAs 0 (handC h next k (wopen k.body body)) rfl rfl rfl rfl rfl (by assumption) rfl (Unfz.zero _) rfl (Nat.le_of_ble_eq_true rfl) rfl rfl ?_)
  refine DWp.nil ?_
  refine ⟨trivial, [], rfl, ?_⟩
  exact H
set_option maxHeartbeats 4000000 in
theorem pkPeelC {priv packet : List UInt8} (hks : KsIn S) (H : Q (.tuple #[.agg (pkPeelR priv packet).1.cells.toArray, .int .i64 (pkPeelR priv packet).2]) S) : CallWp Tryz.prog B 19 #[.string (str priv), .string (str packet)] Q S := by
  refine CallWp.dropRet ?_
  refine CallWp.enter (args := [_, _]) Tryz.func19 rfl Tryz.ntmps19 rfl ?_
  refine Wp.seq (Wp.region ?_)
  refine OWp.step rfl (Step.alloc rfl rfl rfl ?_); intro L4 hBL4 hLL4
  refine OWp.evs 1 rfl ?_
  refine OWp.nil ?_
  refine Wp.seq ?_
  refine Wp.seq (Wp.region ?_)
  refine OWp.evs 3 rfl ?_
  refine OWp.nil ?_
  refine Wp.cond rfl (fun h1 => ?_) (fun h1 => ?_)
  · have h1 := ndT h1
    rw [show pkPeelR priv packet = (Pd.zero, 3) by unfold pkPeelR; rw [if_pos (by omega)]] at H
    refine Wp.seq (Wp.region ?_)
    refine OWp.g rfl rfl (Gives.build rfl rfl) ?_
    refine OWp.step rfl (Step.storeAs 0 (Pd.zero.cells) rfl rfl rfl rfl rfl (by assumption) rfl (Unfz.zero _) rfl (Nat.le_of_ble_eq_true rfl) rfl rfl ?_)
    refine OWp.evs 1 rfl ?_
    refine OWp.nil ?_
    refine Wp.ret ⟨trivial, _, ⟨_, _, _, _, rfl, rfl, ⟨_, _, _, mems, (by first | assumption | rfl)⟩, ⟨_, _, rfl, rfl, rfl⟩⟩, ?_⟩
    exact ⟨S, subl, H⟩
  have h1 := ndF h1
  have hl : packet.length = 504 := by omega
  unfold pkPeelR at H
  rw [if_neg (by omega)] at H
  refine Wp.skip ?_
  refine Wp.seq (Wp.region ?_)
  refine OWp.evs 1 rfl ?_
  refine OWp.g rfl rfl (Gives.sliceStr (l := 248) (h' := packet.length) rfl rfl rfl ⟨_, _, rfl, rfl⟩ rfl (by omega) (by omega)) ?_
  rw [show (packet.drop 248).take (packet.length - 248) = packet.drop 248 by rw [List.take_of_length_le (by rw [List.length_drop]; omega)]]
  have hb : (packet.drop 248).length = 256 := by rw [List.length_drop]; omega
  generalize packet.drop 248 = body at *
  refine OWp.g rfl rfl (Gives.build rfl rfl) ?_
  refine OWp.step rfl (Step.alloc rfl rfl rfl ?_); intro L6 hBL6 hLL6
  refine OWp.step rfl (Step.storeAs 0 (handC Hop.zero [] HK.zero body) rfl rfl rfl rfl rfl (by assumption) rfl (Unfz.zero _) rfl (Nat.le_of_ble_eq_true rfl) rfl rfl ?_)
  refine OWp.nil ?_
  refine Wp.seq (Wp.region ?_)
  refine OWp.evs 1 rfl ?_
  refine OWp.nil ?_
  refine Wp.seq ?_
  refine Wp.seq (Wp.region ?_)
  refine OWp.evs 2 rfl ?_
  refine OWp.g rfl rfl (Gives.sliceStr (l := 0) (h' := 248) rfl rfl rfl rfl ⟨_, _, rfl, rfl⟩ (by decide) (by omega)) ?_
  rw [show (packet.drop 0).take (248 - 0) = packet.take 248 from rfl]
  refine OWp.step rfl (Step.call rfl rfl rfl rfl rfl rfl ((peelC hks.cons.cons ?_)))
  have hpk := peel_ok (priv := priv) (header := packet.take 248)
  generalize peelR priv (packet.take 248) = r at *
  obtain ⟨h, next, k, e⟩ := r
  simp only at H hpk ⊢
  refine OWp.evs 6 rfl ?_
  refine OWp.step rfl (Step.storeAs 0 (handC h [] HK.zero body) rfl rfl rfl rfl rfl (by assumption) rfl (Unfz.zero _) rfl (Nat.le_of_ble_eq_true rfl) rfl rfl ?_)
  refine OWp.evs 1 rfl ?_
  refine OWp.step rfl (Step.storeAs 0 (handC h next HK.zero body) rfl rfl rfl rfl rfl (by assumption) rfl (Unfz.zero _) rfl (Nat.le_of_ble_eq_true rfl) rfl rfl ?_)
  refine OWp.evs 1 rfl ?_
  refine OWp.step rfl (Step.storeAs 0 (handC h next k body) rfl rfl rfl rfl rfl (by assumption) rfl (Unfz.zero _) rfl (Nat.le_of_ble_eq_true rfl) rfl rfl ?_)
  refine OWp.evs 1 rfl ?_
  refine OWp.nil ?_
  refine Wp.seq (Wp.region ?_)
  refine OWp.evs 2 rfl ?_
  refine OWp.nil ?_
  refine Wp.cond rfl (fun h2 => ?_) (fun h2 => ?_)
  · have h2 := ndT h2
    rw [if_pos h2] at H
    refine Wp.seq (Wp.region ?_)
    refine OWp.g rfl rfl (Gives.build rfl rfl) ?_
    refine OWp.evs 1 rfl ?_
    refine OWp.step rfl (Step.storeAs 1 (Pd.zero.cells) rfl rfl rfl rfl rfl (by assumption) rfl (Unfz.zero _) rfl (Nat.le_of_ble_eq_true rfl) rfl rfl ?_)
    refine OWp.evs 1 rfl ?_
    refine OWp.nil ?_
    refine Wp.ret ⟨trivial, _, ⟨_, _, _, _, rfl, rfl, ⟨_, _, _, mems, (by first | assumption | rfl)⟩, ⟨_, _, rfl, rfl, rfl⟩⟩, ?_⟩
    exact ⟨S, subl, H⟩
  have h2 := ndF h2
  have h2' : e = 0 := by omega
  rw [if_neg (fun h => h h2)] at H
  obtain ⟨⟨s, hs⟩, hnl⟩ := hpk h2'
  have hkb : k.body.length = 32 := by rw [hs]; exact (keysOf_lens s).2.2.1
  refine Wp.skip ?_
  refine Wp.seq ?_
  refine Wp.seq (Wp.region ?_)
  refine OWp.evs 2 rfl ?_
  refine OWp.load (.head _) rfl rfl rfl rfl (hand_k h next k body) ?_
  refine OWp.evs 1 rfl ?_
  refine OWp.nil ?_
  refine Wp.cond rfl (fun h3 => ?_) (fun h3 => ?_)
  · have h3 := of_decide_eq_true h3
    rw [if_pos h3] at H
    refine Wp.seq (Wp.region ?_)
    refine OWp.step rfl (Step.call rfl rfl rfl rfl rfl rfl ((handOpenC hBL6 hks.cons hkb hb ?_)))
    refine OWp.nil ?_
    refine Wp.seq (Wp.region ?_)
    refine OWp.evs 1 rfl ?_
    refine OWp.load (.head _) rfl rfl rfl rfl (hand_h h next k (wopen k.body body)) ?_
    refine OWp.evs 1 rfl ?_
    refine OWp.load (.head _) rfl rfl rfl rfl (hand_n h next k (wopen k.body body)) ?_
    refine OWp.evs 1 rfl ?_
    refine OWp.load (.head _) rfl rfl rfl rfl (hand_b h next k (wopen k.body body)) ?_
    refine OWp.g rfl rfl (Gives.addStr rfl rfl rfl (by rw [wopen_len _ (by omega)]; omega)) ?_
    refine OWp.evs 2 rfl ?_
    refine OWp.load (.head _) rfl rfl rfl rfl (hand_t h next k (wopen k.body body)) ?_
    refine OWp.g rfl rfl (Gives.build rfl rfl) ?_
    refine OWp.step rfl (Step.storeAs 1 ((Pd.cells ⟨h, next ++ wopen k.body body, k.tag, []⟩)) rfl rfl rfl rfl rfl (by assumption) rfl (Unfz.zero _) rfl (Nat.le_of_ble_eq_true rfl) rfl rfl ?_)
    refine OWp.evs 1 rfl ?_
    refine OWp.nil ?_
    refine Wp.ret ⟨trivial, _, ⟨_, _, _, _, rfl, rfl, ⟨_, _, _, mems, (by first | assumption | rfl)⟩, ⟨_, _, rfl, rfl, rfl⟩⟩, ?_⟩
    exact ⟨S, subl, H⟩
  have h3 := of_decide_eq_false h3
  rw [if_neg h3] at H
  refine Wp.skip ?_
  refine Wp.seq (Wp.region ?_)
  refine OWp.evs 2 rfl ?_
  refine OWp.load (.head _) rfl rfl rfl rfl (hand_kb h next k body) ?_
  refine OWp.evs 1 rfl ?_
  refine OWp.load (.head _) rfl rfl rfl rfl (hand_b h next k body) ?_
  refine OWp.step rfl (Step.call rfl rfl rfl rfl rfl rfl ((wunwrapC (key := k.body) (b := body) hks.cons.cons (by rw [hkb]; decide) ?_)))
  have hun : unwrapR k.body body = unwrapT (wtext (wopen k.body body)) := by unfold unwrapR; rw [if_neg (by omega), if_neg (by omega)]
  rw [hun]
  cases hw : wtext (wopen k.body body)
  · skip
    rw [hw] at H
    simp only [unwrapT]
    refine OWp.evs 5 rfl ?_
    refine OWp.nil ?_
    refine Wp.seq ?_
    refine Wp.seq (Wp.region ?_)
    refine OWp.evs 2 rfl ?_
    refine OWp.nil ?_
    refine Wp.cond rfl (fun _ => ?_) (fun c => nomatch c)
    refine Wp.seq (Wp.region ?_)
    refine OWp.g rfl rfl (Gives.build rfl rfl) ?_
    refine OWp.evs 1 rfl ?_
    refine OWp.step rfl (Step.storeAs 1 (Pd.zero.cells) rfl rfl rfl rfl rfl (by assumption) rfl (Unfz.zero _) rfl (Nat.le_of_ble_eq_true rfl) rfl rfl ?_)
    refine OWp.evs 1 rfl ?_
    refine OWp.nil ?_
    refine Wp.ret ⟨trivial, _, ⟨_, _, _, _, rfl, rfl, ⟨_, _, _, mems, (by first | assumption | rfl)⟩, ⟨_, _, rfl, rfl, rfl⟩⟩, ?_⟩
    exact ⟨S, subl, H⟩
  rename_i t
  rw [hw] at H
  simp only [unwrapT]
  refine OWp.evs 5 rfl ?_
  refine OWp.nil ?_
  refine Wp.seq ?_
  refine Wp.seq (Wp.region ?_)
  refine OWp.evs 2 rfl ?_
  refine OWp.nil ?_
  refine Wp.cond rfl (fun c => nomatch c) (fun _ => ?_)
  refine Wp.skip ?_
  refine Wp.seq (Wp.region ?_)
  refine OWp.evs 1 rfl ?_
  refine OWp.load (.head _) rfl rfl rfl rfl (hand_h h next k body) ?_
  refine OWp.evs 2 rfl ?_
  refine OWp.load (.head _) rfl rfl rfl rfl (hand_t h next k body) ?_
  refine OWp.evs 1 rfl ?_
  refine OWp.g rfl rfl (Gives.build rfl rfl) ?_
  refine OWp.step rfl (Step.storeAs 1 ((Pd.cells ⟨h, [], k.tag, t⟩)) rfl rfl rfl rfl rfl (by assumption) rfl (Unfz.zero _) rfl (Nat.le_of_ble_eq_true rfl) rfl rfl ?_)
  refine OWp.evs 1 rfl ?_
  refine OWp.nil ?_
  refine Wp.ret ⟨trivial, _, ⟨_, _, _, _, rfl, rfl, ⟨_, _, _, mems, (by first | assumption | rfl)⟩, ⟨_, _, rfl, rfl, rfl⟩⟩, ?_⟩
  exact ⟨S, subl, H⟩
end
end Go.Proofs.D
