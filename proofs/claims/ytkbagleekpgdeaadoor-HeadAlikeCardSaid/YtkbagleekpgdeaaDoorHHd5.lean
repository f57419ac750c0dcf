/- What functions of the given program do, one after the other, told by that layer. -/
import Derived.Test.YtkbagleekpgdeaaDoorHM7x2de9
namespace Go.Proofs.D
open Go.Lg Go.Sha Go.Hd Go.Cv
open Go.Proofs.C (Hop hopP hopB parse)
set_option maxRecDepth 100000
def _root_.Go.Hd.HK.zero : HK := ⟨[], [], [], [], []⟩
/-- The command whose bytes these are, or none. -/
def decF (b : List UInt8) : Hop × Int := if hopP (parse true b) ∧ hopB (parse true b) = b then (parse true b, 0) else (Hop.zero, 70)
/-- What a hop sees of a header whose mac is right. -/
def openR (k : HK) (point list : List UInt8) : Hop × List UInt8 × HK × Int :=
  let plain := flowX k (list ++ List.replicate 40 0) 0
  if (decF (plain.take 24)).2 ≠ 0 then (Hop.zero, [], HK.zero, (decF (plain.take 24)).2)
  else if (decF (plain.take 24)).1.kind ≠ 1 then ((decF (plain.take 24)).1, [], k, 0)
  else ((decF (plain.take 24)).1, (timesR k.blind point).1 ++ plain.drop 24, k, 0)
def peelR (priv header : List UInt8) : Hop × List UInt8 × HK × Int :=
  if ¬ (priv.length = 32 ∧ header.length = 248) then (Hop.zero, [], HK.zero, 3)
  else if (sharedR priv (header.take 32)).2 ≠ 0 then (Hop.zero, [], HK.zero, ((sharedR priv (header.take 32)).2 : Nat))
  else if macX (keysOf (sharedR priv (header.take 32)).1) (header.drop 48) ≠ (header.drop 32).take 16 then (Hop.zero, [], HK.zero, 81)
  else openR (keysOf (sharedR priv (header.take 32)).1) (header.take 32) (header.drop 48)
attribute [local irreducible] derive hmac stream sharedR timesR
section
variable {B : Nat} {S R : Ents} {Q : Value → Ents → Prop}
theorem decodeF {b : List UInt8} (hb : b.length = 24) (H : Q (.tuple #[.agg (decF b).1.cells.toArray, .int .i64 (decF b).2]) S) : CallWp Tryd.prog B 27 #[.string (str b)] Q S := by
  refine C.decodeC hb ⟨fun x hx he => ?_, fun hn => ?_⟩
  · have e : parse true b = x := by rw [← he]; exact C.parse_hopB hx true
    unfold decF at H
    rw [e, if_pos ⟨hx, he⟩] at H
    exact H
  · unfold decF at H
    rw [if_neg (fun h => hn _ h.1 h.2)] at H
    exact H
theorem nil_agg : ((Hop.zero.cells) : List Value) = [.int .i64 0, .int .i64 0, .int .i64 0, .int .i64 0, .string (str [])] := rfl
set_option maxHeartbeats 4000000 in
theorem peelC {priv header : List UInt8} (hks : KsIn S) (H : Q (.tuple #[.agg (peelR priv header).1.cells.toArray, .string (str (peelR priv header).2.1), .agg (peelR priv header).2.2.1.cells.toArray, .int .i64 (peelR priv header).2.2.2]) S) : CallWp Tryd.prog B 11 #[.string (str priv), .string (str header)] Q S := by
  refine CallWp.dropRet ?_
  refine CallWp.enter (args := [_, _]) Tryd.func11 rfl Tryd.ntmps11 rfl ?_
  refine Wp.seq (Wp.region ?_)
  refine OWp.step rfl (Step.alloc rfl rfl rfl ?_); intro L4 hBL4 hLL4
  refine OWp.evs 1 rfl ?_
  refine OWp.step rfl (Step.alloc rfl rfl rfl ?_); intro L6 hBL6 hLL6
  refine OWp.evs 1 rfl ?_
  refine OWp.nil ?_
  refine Wp.seq ?_
  refine Wp.seq (Wp.region ?_)
  refine OWp.evs 4 rfl ?_
  refine OWp.part 17 rfl (fun h1 => ?_) (fun h1 => ?_)
  · have h1 := ndT h1
    have hE : peelR priv header = (Hop.zero, [], HK.zero, 3) := by unfold peelR; rw [if_pos (by omega)]
    rw [hE] at H
    refine OWp.evs 4 rfl ?_
    refine OWp.nil ?_
    refine Wp.cond rfl (fun _ => ?_) (fun c => nomatch c)
    refine Wp.seq (Wp.regionDraw [0, 1, 2, 3, 4, 5] [2, 4] rfl (by decide +kernel) ?_)
    refine DWp.load (.tail _ (.head _)) rfl rfl rfl rfl rfl rfl rfl ?_
    refine DWp.load (.head _) rfl rfl rfl rfl rfl rfl rfl ?_
    refine DWp.step rfl rfl rfl (Step.storeAs 1 (Hop.zero.cells) rfl rfl rfl rfl rfl (by assumption) rfl (Unfz.zero _) rfl (Nat.le_of_ble_eq_true rfl) rfl rfl ?_)
    refine ⟨by first | ((repeat (first | refine pr_kept ?_ | refine pr_free ?_ | (refine pr_cons ?_ ?_; (first | exact List.Mem.head _ | assumption | (repeat (first | exact List.Mem.head _ | assumption | apply List.mem_cons_of_mem | apply List.mem_append_right)))) | exact pr_nil)); done) | (repeat (first | exact pr_nil | refine pr_kept ?_ | refine pr_free ?_ | refine pr_cons (by repeat (first | exact List.Mem.head _ | assumption | exact List.mem_append_left _ (by assumption) | apply List.mem_cons_of_mem | apply List.mem_append_right)) ?_)), ?_⟩
    refine DWp.evs 1 rfl ?_
    refine DWp.stepAll rfl rfl rfl rfl (Step.storeAs 0 (HK.zero.cells) rfl rfl rfl rfl rfl (by assumption) rfl (Unfz.zero _) rfl (Nat.le_of_ble_eq_true rfl) rfl rfl ?_)
    refine DWp.evs 1 rfl ?_
    refine DWp.nil ?_
    refine Wp.ret ⟨trivial, _, ⟨_, _, _, _, rfl, rfl, ⟨_, _, _, (by repeat (first | exact List.Mem.head _ | assumption | exact List.mem_append_left _ (by assumption) | apply List.mem_cons_of_mem | apply List.mem_append_right)), (by first | assumption | rfl)⟩, ⟨_, _, rfl, rfl, ⟨_, _, _, _, rfl, rfl, ⟨_, _, _, (by repeat (first | exact List.Mem.head _ | assumption | exact List.mem_append_left _ (by assumption) | apply List.mem_cons_of_mem | apply List.mem_append_right)), (by first | assumption | rfl)⟩, ⟨_, _, rfl, rfl, rfl⟩⟩⟩⟩, ?_⟩
    exact ⟨S, (by repeat (first | exact List.Sublist.refl _ | exact List.sublist_append_right _ _ | apply List.Sublist.cons)), H⟩
  have h1 := ndF h1
  refine OWp.evs 4 rfl ?_
  refine OWp.nil ?_
  refine Wp.cond rfl (fun h2 => ?_) (fun h2 => ?_)
  · have h2 := ndT h2
    have hE : peelR priv header = (Hop.zero, [], HK.zero, 3) := by unfold peelR; rw [if_pos (by omega)]
    rw [hE] at H
    refine Wp.seq (Wp.regionDraw [0, 1, 2, 3, 4, 5] [2, 4] rfl (by decide +kernel) ?_)
    refine DWp.load (.tail _ (.head _)) rfl rfl rfl rfl rfl rfl rfl ?_
    refine DWp.load (.head _) rfl rfl rfl rfl rfl rfl rfl ?_
    refine DWp.step rfl rfl rfl (Step.storeAs 1 (Hop.zero.cells) rfl rfl rfl rfl rfl (by assumption) rfl (Unfz.zero _) rfl (Nat.le_of_ble_eq_true rfl) rfl rfl ?_)
    refine ⟨by first | ((repeat (first | refine pr_kept ?_ | refine pr_free ?_ | (refine pr_cons ?_ ?_; (first | exact List.Mem.head _ | assumption | (repeat (first | exact List.Mem.head _ | assumption | apply List.mem_cons_of_mem | apply List.mem_append_right)))) | exact pr_nil)); done) | (repeat (first | exact pr_nil | refine pr_kept ?_ | refine pr_free ?_ | refine pr_cons (by repeat (first | exact List.Mem.head _ | assumption | exact List.mem_append_left _ (by assumption) | apply List.mem_cons_of_mem | apply List.mem_append_right)) ?_)), ?_⟩
    refine DWp.evs 1 rfl ?_
    refine DWp.stepAll rfl rfl rfl rfl (Step.storeAs 0 (HK.zero.cells) rfl rfl rfl rfl rfl (by assumption) rfl (Unfz.zero _) rfl (Nat.le_of_ble_eq_true rfl) rfl rfl ?_)
    refine DWp.evs 1 rfl ?_
    refine DWp.nil ?_
    refine Wp.ret ⟨trivial, _, ⟨_, _, _, _, rfl, rfl, ⟨_, _, _, (by repeat (first | exact List.Mem.head _ | assumption | exact List.mem_append_left _ (by assumption) | apply List.mem_cons_of_mem | apply List.mem_append_right)), (by first | assumption | rfl)⟩, ⟨_, _, rfl, rfl, ⟨_, _, _, _, rfl, rfl, ⟨_, _, _, (by repeat (first | exact List.Mem.head _ | assumption | exact List.mem_append_left _ (by assumption) | apply List.mem_cons_of_mem | apply List.mem_append_right)), (by first | assumption | rfl)⟩, ⟨_, _, rfl, rfl, rfl⟩⟩⟩⟩, ?_⟩
    exact ⟨S, (by repeat (first | exact List.Sublist.refl _ | exact List.sublist_append_right _ _ | apply List.Sublist.cons)), H⟩
  have h2 := ndF h2
  have hp32 : priv.length = 32 := by omega
  have hh : header.length = 248 := by omega
  unfold peelR at H
  rw [if_neg (fun h => h ⟨hp32, hh⟩)] at H
  refine Wp.skip ?_
  refine Wp.seq (Wp.regionDraw [0, 1, 2, 3, 4, 5, 6, 7, 8] [] rfl (by decide +kernel) ?_)
  refine DWp.evs 1 rfl ?_
  refine DWp.g rfl rfl rfl rfl (Gives.sliceStr (l := 0) (h' := 32) rfl rfl rfl rfl ⟨_, _, rfl, rfl⟩ (by decide) (by omega)) ?_
  refine DWp.evs 1 rfl ?_
  refine DWp.g rfl rfl rfl rfl (Gives.sliceStr (l := 32) (h' := 48) rfl rfl rfl ⟨_, _, rfl, rfl⟩ ⟨_, _, rfl, rfl⟩ (by decide) (by omega)) ?_
  refine DWp.evs 1 rfl ?_
  refine DWp.g rfl rfl rfl rfl (Gives.sliceStr (l := 48) (h' := header.length) rfl rfl rfl ⟨_, _, rfl, rfl⟩ rfl (by omega) (by omega)) ?_
  obtain ⟨pt', hpt⟩ : ∃ p, p = header.take 32 := ⟨_, rfl⟩
  obtain ⟨tg, htg⟩ : ∃ p, p = (header.drop 32).take 16 := ⟨_, rfl⟩
  obtain ⟨ls, hls⟩ : ∃ p, p = header.drop 48 := ⟨_, rfl⟩
  have e1 : (header.drop 0).take (32 - 0) = pt' := hpt.symm
  have e2 : (header.drop 32).take (48 - 32) = tg := htg.symm
  have e3 : (header.drop 48).take (header.length - 48) = ls := by rw [hls, List.take_of_length_le (by rw [List.length_drop]; omega)]
  have htl : tg.length = 16 := by rw [htg, List.length_take, List.length_drop]; omega
  have hll : ls.length = 200 := by rw [hls, List.length_drop]; omega
  have hptl : pt'.length = 32 := by rw [hpt, List.length_take]; omega
  rw [← hpt, ← htg, ← hls] at H
  rw [e1, e2, e3]
  clear e1 e2 e3
  refine DWp.evs 3 rfl ?_
  refine DWp.nil ?_
  refine Wp.seq (Wp.region ?_)
  refine OWp.evs 2 rfl ?_
  refine OWp.step rfl (Step.call rfl rfl rfl rfl rfl rfl ((sharedC ?_)))
  refine OWp.evs 5 rfl ?_
  refine OWp.nil ?_
  refine Wp.seq ?_
  refine Wp.seq (Wp.region ?_)
  refine OWp.evs 2 rfl ?_
  refine OWp.nil ?_
  refine Wp.cond rfl (fun h3 => ?_) (fun h3 => ?_)
  · have h3 := ndT h3
    rw [if_pos (by omega)] at H
    refine Wp.seq (Wp.regionDraw [0, 1, 2, 3, 4, 5, 6] [3, 5] rfl (by decide +kernel) ?_)
    refine DWp.load (.tail _ (.head _)) rfl rfl rfl rfl rfl rfl rfl ?_
    refine DWp.load (.head _) rfl rfl rfl rfl rfl rfl rfl ?_
    refine DWp.evs 1 rfl ?_
    refine DWp.step rfl rfl rfl (Step.storeAs 1 (Hop.zero.cells) rfl rfl rfl rfl rfl (by assumption) rfl (Unfz.zero _) rfl (Nat.le_of_ble_eq_true rfl) rfl rfl ?_)
    refine ⟨by first | ((repeat (first | refine pr_kept ?_ | refine pr_free ?_ | (refine pr_cons ?_ ?_; (first | exact List.Mem.head _ | assumption | (repeat (first | exact List.Mem.head _ | assumption | apply List.mem_cons_of_mem | apply List.mem_append_right)))) | exact pr_nil)); done) | (repeat (first | exact pr_nil | refine pr_kept ?_ | refine pr_free ?_ | refine pr_cons (by repeat (first | exact List.Mem.head _ | assumption | exact List.mem_append_left _ (by assumption) | apply List.mem_cons_of_mem | apply List.mem_append_right)) ?_)), ?_⟩
    refine DWp.evs 1 rfl ?_
    refine DWp.stepAll rfl rfl rfl rfl (Step.storeAs 0 (HK.zero.cells) rfl rfl rfl rfl rfl (by assumption) rfl (Unfz.zero _) rfl (Nat.le_of_ble_eq_true rfl) rfl rfl ?_)
    refine DWp.evs 1 rfl ?_
    refine DWp.nil ?_
    refine Wp.ret ⟨trivial, _, ⟨_, _, _, _, rfl, rfl, ⟨_, _, _, (by repeat (first | exact List.Mem.head _ | assumption | exact List.mem_append_left _ (by assumption) | apply List.mem_cons_of_mem | apply List.mem_append_right)), (by first | assumption | rfl)⟩, ⟨_, _, rfl, rfl, ⟨_, _, _, _, rfl, rfl, ⟨_, _, _, (by repeat (first | exact List.Mem.head _ | assumption | exact List.mem_append_left _ (by assumption) | apply List.mem_cons_of_mem | apply List.mem_append_right)), (by first | assumption | rfl)⟩, ⟨_, _, rfl, rfl, rfl⟩⟩⟩⟩, ?_⟩
    exact ⟨S, (by repeat (first | exact List.Sublist.refl _ | exact List.sublist_append_right _ _ | apply List.Sublist.cons)), H⟩
  have h3 := ndF h3
  have h3' : (sharedR priv pt').2 = 0 := by omega
  rw [if_neg (by omega)] at H
  have hsl := sharedR_len h3'
  generalize (sharedR priv pt').1 = sec at *
  refine Wp.skip ?_
  refine Wp.seq (Wp.region ?_)
  refine OWp.evs 1 rfl ?_
  refine OWp.step rfl (Step.call rfl rfl rfl rfl rfl rfl ((madeC hks.cons.cons (by rw [hsl]; decide) ?_)))
  refine OWp.step rfl (Step.alloc rfl rfl rfl ?_); intro L12 hBL12 hLL12
  refine OWp.step rfl (Step.storeAs 0 (hopC sec (keysOf sec)) rfl rfl rfl rfl rfl (by assumption) rfl (Unfz.zero _) rfl (Nat.le_of_ble_eq_true rfl) rfl rfl ?_)
  obtain ⟨hkf, hkm, hkb, hkbl, hkt⟩ := keysOf_lens sec
  have hhop : hopC sec (keysOf sec) = .string (str sec) :: (keysOf sec).cells := rfl
  generalize hk : keysOf sec = k at *
  refine OWp.nil ?_
  refine Wp.seq ?_
  refine Wp.seq (Wp.region ?_)
  refine OWp.load (.head _) rfl rfl rfl rfl rfl ?_
  refine OWp.evs 1 rfl ?_
  refine OWp.step rfl (Step.call rfl rfl rfl rfl rfl rfl ((hmacC (k := k) hks.cons.cons.cons (by rw [hkm]; decide) (by rw [hll]; decide) ?_)))
  refine OWp.evs 1 rfl ?_
  refine OWp.step rfl (Step.call rfl rfl rfl rfl rfl rfl ((sameC (by rw [macX_len, htl]) (by rw [macX_len]; decide) ?_)))
  refine OWp.evs 1 rfl ?_
  refine OWp.nil ?_
  refine Wp.cond rfl (fun h4 => ?_) (fun h4 => ?_)
  · skip
    rw [if_pos (by simpa using h4)] at H
    refine Wp.seq (Wp.regionDraw [0, 1, 2, 3, 4, 5] [2, 4] rfl (by decide +kernel) ?_)
    refine DWp.load (.tail _ (.tail _ (.head _))) rfl rfl rfl rfl rfl rfl rfl ?_
    refine DWp.load (.tail _ (.head _)) rfl rfl rfl rfl rfl rfl rfl ?_
    refine DWp.step rfl rfl rfl (Step.storeAs 2 (Hop.zero.cells) rfl rfl rfl rfl rfl (by assumption) rfl (Unfz.zero _) rfl (Nat.le_of_ble_eq_true rfl) rfl rfl ?_)
    refine ⟨by first | ((repeat (first | refine pr_kept ?_ | refine pr_free ?_ | (refine pr_cons ?_ ?_; (first | exact List.Mem.head _ | assumption | (repeat (first | exact List.Mem.head _ | assumption | apply List.mem_cons_of_mem | apply List.mem_append_right)))) | exact pr_nil)); done) | (repeat (first | exact pr_nil | refine pr_kept ?_ | refine pr_free ?_ | refine pr_cons (by repeat (first | exact List.Mem.head _ | assumption | exact List.mem_append_left _ (by assumption) | apply List.mem_cons_of_mem | apply List.mem_append_right)) ?_)), ?_⟩
    refine DWp.evs 1 rfl ?_
    refine DWp.stepAll rfl rfl rfl rfl (Step.storeAs 1 (HK.zero.cells) rfl rfl rfl rfl rfl (by assumption) rfl (Unfz.zero _) rfl (Nat.le_of_ble_eq_true rfl) rfl rfl ?_)
    refine DWp.evs 1 rfl ?_
    refine DWp.nil ?_
    refine Wp.ret ⟨trivial, _, ⟨_, _, _, _, rfl, rfl, ⟨_, _, _, (by repeat (first | exact List.Mem.head _ | assumption | exact List.mem_append_left _ (by assumption) | apply List.mem_cons_of_mem | apply List.mem_append_right)), (by first | assumption | rfl)⟩, ⟨_, _, rfl, rfl, ⟨_, _, _, _, rfl, rfl, ⟨_, _, _, (by repeat (first | exact List.Mem.head _ | assumption | exact List.mem_append_left _ (by assumption) | apply List.mem_cons_of_mem | apply List.mem_append_right)), (by first | assumption | rfl)⟩, ⟨_, _, rfl, rfl, rfl⟩⟩⟩⟩, ?_⟩
    exact ⟨S, (by repeat (first | exact List.Sublist.refl _ | exact List.sublist_append_right _ _ | apply List.Sublist.cons)), H⟩
  rw [if_neg (by simpa using h4)] at H
  refine Wp.skip ?_
  refine Wp.seq (Wp.regionDraw [0, 1, 2, 3, 4, 5] [2, 4] rfl (by decide +kernel) ?_)
  refine DWp.load (.head _) rfl rfl rfl rfl rfl rfl rfl ?_
  refine DWp.evs 1 rfl ?_
  refine DWp.stepGrow rfl rfl rfl (Step.call rfl rfl rfl rfl rfl rfl ((hzerosC (n := 40) (by decide) ?_)))
  refine ⟨fun _ hy => hy, ?_⟩
  refine DWp.g rfl rfl rfl rfl (Gives.addStr rfl rfl rfl (by rw [hll, List.length_replicate]; decide)) ?_
  refine DWp.stepAll rfl rfl rfl rfl (Step.call rfl rfl rfl rfl rfl rfl ((hflowC (a := 0) hkf (by rw [List.length_append, hll, List.length_replicate]; decide) ?_)))
  have hpl : (flowX k (ls ++ List.replicate 40 0) 0).length = 240 := by rw [flowX_len _ (by rw [List.length_append, hll, List.length_replicate]; decide), List.length_append, hll, List.length_replicate]
  unfold openR at H
  simp only at H
  generalize flowX k (ls ++ List.replicate 40 0) 0 = pl at *
  refine DWp.evs 1 rfl ?_
  refine DWp.nil ?_
  refine Wp.seq ?_
  refine Wp.seq (Wp.region ?_)
  refine OWp.evs 1 rfl ?_
  refine OWp.g rfl rfl (Gives.sliceStr (l := 0) (h' := 24) rfl rfl rfl rfl ⟨_, _, rfl, rfl⟩ (by decide) (by omega)) ?_
  rw [show (pl.drop 0).take (24 - 0) = pl.take 24 from rfl]
  refine OWp.step rfl (Step.call rfl rfl rfl rfl rfl rfl ((decodeF (by rw [List.length_take]; omega) ?_)))
  generalize decF (pl.take 24) = d at *
  obtain ⟨hop, de⟩ := d
  simp only at H ⊢
  refine OWp.evs 3 rfl ?_
  refine OWp.step rfl (Step.storeAs 2 (hop.cells) rfl rfl rfl rfl rfl (by assumption) rfl (Unfz.zero _) rfl (Nat.le_of_ble_eq_true rfl) rfl rfl ?_)
  refine OWp.evs 1 rfl ?_
  refine OWp.nil ?_
  refine Wp.seq (Wp.region ?_)
  refine OWp.evs 2 rfl ?_
  refine OWp.nil ?_
  refine Wp.cond rfl (fun h5 => ?_) (fun h5 => ?_)
  · have h5 := ndT h5
    rw [if_pos (by omega)] at H
    refine Wp.seq (Wp.regionDraw [0, 1, 2, 3, 4, 5, 6] [3, 5] rfl (by decide +kernel) ?_)
    refine DWp.g rfl rfl rfl rfl (Gives.build rfl rfl) ?_
    refine DWp.load (.tail _ (.head _)) rfl rfl rfl rfl rfl rfl rfl ?_
    refine DWp.evs 1 rfl ?_
    refine DWp.step rfl rfl rfl (Step.storeAs 2 (Hop.zero.cells) rfl rfl rfl rfl rfl (by assumption) rfl (Unfz.zero _) rfl (Nat.le_of_ble_eq_true rfl) rfl rfl ?_)
    refine ⟨by first | ((repeat (first | refine pr_kept ?_ | refine pr_free ?_ | (refine pr_cons ?_ ?_; (first | exact List.Mem.head _ | assumption | (repeat (first | exact List.Mem.head _ | assumption | apply List.mem_cons_of_mem | apply List.mem_append_right)))) | exact pr_nil)); done) | (repeat (first | exact pr_nil | refine pr_kept ?_ | refine pr_free ?_ | refine pr_cons (by repeat (first | exact List.Mem.head _ | assumption | exact List.mem_append_left _ (by assumption) | apply List.mem_cons_of_mem | apply List.mem_append_right)) ?_)), ?_⟩
    refine DWp.evs 1 rfl ?_
    refine DWp.stepAll rfl rfl rfl rfl (Step.storeAs 1 (HK.zero.cells) rfl rfl rfl rfl rfl (by assumption) rfl (Unfz.zero _) rfl (Nat.le_of_ble_eq_true rfl) rfl rfl ?_)
    refine DWp.evs 1 rfl ?_
    refine DWp.nil ?_
    refine Wp.ret ⟨trivial, _, ⟨_, _, _, _, rfl, rfl, ⟨_, _, _, (by repeat (first | exact List.Mem.head _ | assumption | exact List.mem_append_left _ (by assumption) | apply List.mem_cons_of_mem | apply List.mem_append_right)), (by first | assumption | rfl)⟩, ⟨_, _, rfl, rfl, ⟨_, _, _, _, rfl, rfl, ⟨_, _, _, (by repeat (first | exact List.Mem.head _ | assumption | exact List.mem_append_left _ (by assumption) | apply List.mem_cons_of_mem | apply List.mem_append_right)), (by first | assumption | rfl)⟩, ⟨_, _, rfl, rfl, rfl⟩⟩⟩⟩, ?_⟩
    exact ⟨S, (by repeat (first | exact List.Sublist.refl _ | exact List.sublist_append_right _ _ | apply List.Sublist.cons)), H⟩
  have h5 := ndF h5
  rw [if_neg (by omega)] at H
  refine Wp.skip ?_
  refine Wp.seq ?_
  refine Wp.seq (Wp.region ?_)
  refine OWp.evs 1 rfl ?_
  refine OWp.load (.tail _ (.tail _ (.head _))) rfl rfl rfl rfl rfl ?_
  refine OWp.evs 1 rfl ?_
  refine OWp.nil ?_
  refine Wp.cond rfl (fun h6 => ?_) (fun h6 => ?_)
  · have h6 := ndT h6
    rw [if_pos (by omega)] at H
    refine Wp.seq (Wp.regionDraw [0, 1, 2, 3, 4, 5, 6] [3, 5] rfl (by decide +kernel) ?_)
    refine DWp.load (.tail _ (.tail _ (.head _))) rfl rfl rfl rfl rfl rfl rfl ?_
    refine DWp.evs 1 rfl ?_
    refine DWp.load (.head _) rfl rfl rfl rfl rfl rfl rfl ?_
    refine DWp.step rfl rfl rfl (Step.storeAs 2 (hop.cells) rfl rfl rfl rfl rfl (by assumption) rfl (Unfz.zero _) rfl (Nat.le_of_ble_eq_true rfl) rfl rfl ?_)
    refine ⟨by first | ((repeat (first | refine pr_kept ?_ | refine pr_free ?_ | (refine pr_cons ?_ ?_; (first | exact List.Mem.head _ | assumption | (repeat (first | exact List.Mem.head _ | assumption | apply List.mem_cons_of_mem | apply List.mem_append_right)))) | exact pr_nil)); done) | (repeat (first | exact pr_nil | refine pr_kept ?_ | refine pr_free ?_ | refine pr_cons (by repeat (first | exact List.Mem.head _ | assumption | exact List.mem_append_left _ (by assumption) | apply List.mem_cons_of_mem | apply List.mem_append_right)) ?_)), ?_⟩
    refine DWp.evs 1 rfl ?_
    refine DWp.stepAll rfl rfl rfl rfl (Step.storeAs 1 (k.cells) rfl rfl rfl rfl rfl (by assumption) rfl (Unfz.zero _) rfl (Nat.le_of_ble_eq_true rfl) rfl rfl ?_)
    refine DWp.evs 1 rfl ?_
    refine DWp.nil ?_
    refine Wp.ret ⟨trivial, _, ⟨_, _, _, _, rfl, rfl, ⟨_, _, _, (by repeat (first | exact List.Mem.head _ | assumption | exact List.mem_append_left _ (by assumption) | apply List.mem_cons_of_mem | apply List.mem_append_right)), (by first | assumption | rfl)⟩, ⟨_, _, rfl, rfl, ⟨_, _, _, _, rfl, rfl, ⟨_, _, _, (by repeat (first | exact List.Mem.head _ | assumption | exact List.mem_append_left _ (by assumption) | apply List.mem_cons_of_mem | apply List.mem_append_right)), (by first | assumption | rfl)⟩, ⟨_, _, rfl, rfl, rfl⟩⟩⟩⟩, ?_⟩
    exact ⟨S, (by repeat (first | exact List.Sublist.refl _ | exact List.sublist_append_right _ _ | apply List.Sublist.cons)), H⟩
  have h6 := ndF h6
  rw [if_neg (by omega)] at H
  refine Wp.skip ?_
  refine Wp.seq (Wp.region ?_)
  refine OWp.evs 2 rfl ?_
  refine OWp.load (.head _) rfl rfl rfl rfl rfl ?_
  refine OWp.evs 1 rfl ?_
  refine OWp.step rfl (Step.call rfl rfl rfl rfl rfl rfl ((timesCC ?_)))
  have htn : (timesR k.blind pt').1.length = 32 := timesR_len (by unfold timesR; rw [if_pos ⟨hkbl, hptl⟩])
  refine OWp.evs 4 rfl ?_
  refine OWp.nil ?_
  refine Wp.seq (Wp.regionDraw [0, 1, 2, 3, 4, 5, 6, 7, 8, 9, 10] [7, 9] rfl (by decide +kernel) ?_)
  refine DWp.load (.tail _ (.tail _ (.head _))) rfl rfl rfl rfl rfl rfl rfl ?_
  refine DWp.evs 2 rfl ?_
  refine DWp.g rfl rfl rfl rfl (Gives.sliceStr (l := 24) (h' := pl.length) rfl rfl rfl ⟨_, _, rfl, rfl⟩ rfl (by omega) (by omega)) ?_
  rw [show (pl.drop 24).take (pl.length - 24) = pl.drop 24 by rw [List.take_of_length_le (by rw [List.length_drop]; omega)]]
  refine DWp.g rfl rfl rfl rfl (Gives.addStr rfl rfl rfl (by rw [htn, List.length_drop]; omega)) ?_
  refine DWp.evs 1 rfl ?_
  refine DWp.load (.head _) rfl rfl rfl rfl rfl rfl rfl ?_
  refine DWp.step rfl rfl rfl (Step.storeAs 2 (hop.cells) rfl rfl rfl rfl rfl (by assumption) rfl (Unfz.zero _) rfl (Nat.le_of_ble_eq_true rfl) rfl rfl ?_)
  refine ⟨by first | ((repeat (first | refine pr_kept ?_ | refine pr_free ?_ | (refine pr_cons ?_ ?_; (first | exact List.Mem.head _ | assumption | (repeat (first | exact List.Mem.head _ | assumption | apply List.mem_cons_of_mem | apply List.mem_append_right)))) | exact pr_nil)); done) | (repeat (first | exact pr_nil | refine pr_kept ?_ | refine pr_free ?_ | refine pr_cons (by repeat (first | exact List.Mem.head _ | assumption | exact List.mem_append_left _ (by assumption) | apply List.mem_cons_of_mem | apply List.mem_append_right)) ?_)), ?_⟩
  refine DWp.evs 1 rfl ?_
  refine DWp.stepAll rfl rfl rfl rfl (Step.storeAs 1 (k.cells) rfl rfl rfl rfl rfl (by assumption) rfl (Unfz.zero _) rfl (Nat.le_of_ble_eq_true rfl) rfl rfl ?_)
  refine DWp.evs 1 rfl ?_
  refine DWp.nil ?_
  refine Wp.ret ⟨trivial, _, ⟨_, _, _, _, rfl, rfl, ⟨_, _, _, (by repeat (first | exact List.Mem.head _ | assumption | exact List.mem_append_left _ (by assumption) | apply List.mem_cons_of_mem | apply List.mem_append_right)), (by first | assumption | rfl)⟩, ⟨_, _, rfl, rfl, ⟨_, _, _, _, rfl, rfl, ⟨_, _, _, (by repeat (first | exact List.Mem.head _ | assumption | exact List.mem_append_left _ (by assumption) | apply List.mem_cons_of_mem | apply List.mem_append_right)), (by first | assumption | rfl)⟩, ⟨_, _, rfl, rfl, rfl⟩⟩⟩⟩, ?_⟩
  exact ⟨S, (by repeat (first | exact List.Sublist.refl _ | exact List.sublist_append_right _ _ | apply List.Sublist.cons)), H⟩
end
end Go.Proofs.D
