/- What functions of the given program do, one after the other, told by that layer. -/
import Derived.Test.YtlfhhkdjahcglaaGreatDoorKM14x8410
/- A client is made. -/
namespace Go.Proofs.D
open Go.Lg Go.Sha Go.Hd Go.Cv
open Go.Proofs.C (Hop hopP hopB parse pathE encB tp word TIn Nd ndc St stc TownOk HostOf IsHost wayR mayP TownOk belowR WayIn LooseOf HomeOf NodesIn)
set_option maxRecDepth 100000
def Ck.laid (c : Ck) (p px pj pl : Nat) (hv mv sv : Value) : Ck := { c with p := p, px := px, pj := pj, pl := pl, hv := hv, mv := mv, sv := sv }
/-- The next slots, as far as they are drawn. -/
def nxs (c : Ck) (i : Nat) : List Nat := [if 0 < i then waitN c 0 0 else 0, if 1 < i then waitN c 1 4 else 0, if 2 < i then waitN c 2 8 else 0, if 3 < i then waitN c 3 12 else 0]
def newCs (c : Ck) : Cs := if c.s.length < 16 then ⟨0, [0, 0, 0, 0], [], [], 0, 0, true⟩ else ⟨16, nxs c 4, [], [], 0, 0, false⟩
theorem nxs_set (c : Ck) {i : Nat} (h : i < 4) : (nxs c i).set i (waitN c i (4 * i)) = nxs c (i + 1) := by
 rcases i with _ | _ | _ | _ | _ <;> first | rfl | omega
theorem newCs_ok (c : Ck) (hs : c.s.length ≤ 8000) : CsOk c (newCs c) := by
 unfold newCs
 split
 ·refine ⟨Nat.zero_le _, rfl, ?_, Int.le_refl 0, ?_, by simp, by simp, by simp, by simp only; omega⟩
  ·intro i hi; rcases i with _ | _ | _ | _ | _ <;> first | exact Int.le_refl 0 | omega
  ·intro i hi; rcases i with _ | _ | _ | _ | _ <;> first | decide | omega
 ·have h1 := dl_le255 c 0 0
  have h2 := dl_le255 c 1 4
  have h3 := dl_le255 c 2 8
  have h4 := dl_le255 c 3 12
  refine ⟨by simp only; omega, rfl, ?_, Int.le_refl 0, ?_, by simp, by simp, by simp, by simp only; omega⟩
  ·intro i hi; exact Int.natCast_nonneg _
  ·intro i hi
   rcases i with _ | _ | _ | _ | _
   ·show waitN c 0 0 ≤ _; omega
   ·show waitN c 1 4 ≤ _; omega
   ·show waitN c 2 8 ≤ _; omega
   ·show waitN c 3 12 ≤ _; omega
   ·omega
theorem HbOk.mono {R R' : Ents} {c : Ck} {hv mv sv : Value} (h : HbOk R c hv mv sv) (hs : ∀ x ∈ R, x ∈ R') : HbOk R' c hv mv sv := { h with ks := KsIn_of h.ks hs, town := h.town.mono hs }
/-- A client's cells while it is made. -/
def clc0 (c : Ck) (hv mv sv : Value) (px : Nat) (f0 : Value) (k0 : Int) (f1 : Value) (k1 : Int) (f2 : Value) (k2 : Int) (f3 : Value) (k3 : Int) (pj : Value) (pl : Nat) (dry : Bool) : List Value :=
  [.int .i64 (c.user : Int), .string (str c.key), hv, mv, sv, .int .i64 (c.mn.getD 0 0), .int .i64 (c.mn.getD 1 0), .int .i64 (c.mn.getD 2 0), .int .i64 (c.mn.getD 3 0), .int .i64 c.mean, .int .i64 c.most, .int .i64 c.wd, .int .i64 c.dl, .int .i64 c.th, .string (str c.s),
   pt px, .slice none 0 0, .int .i64 0, .int .i64 0, .int .i64 0, .int .i64 0, f0, .int .i64 k0, f1, .int .i64 k1, f2, .int .i64 k2, f3, .int .i64 k3, pj, pt pl, .int .i64 0, .int .i64 0, .int .i64 0, .bool dry]
section
variable {B : Nat} {S R : Ents} {Q : Value → Ents → Prop} {c : Ck} {hv mv sv : Value}
set_option maxHeartbeats 4000000 in
theorem cnewC (h : HbOk S c hv mv sv) (H : ∀ p px pj pl hv' mv' sv' W X, (∀ R', KsIn R' → CkOk B (X ++ R') (c.laid p px pj pl hv' mv' sv')) → CliIn B (c.laid p px pj pl hv' mv' sv') (newCs c) 0 0 W → B ≤ pj → Q (.tuple #[pt p, .int .i64 0]) (W ++ ((pj, cel [.int .i64 16, .slice none 0 0, .int .i64 64, .slice none 0 0] 156) :: (X ++ S)))) :
  CallWp Tryz.prog B 9 #[.agg (hbc c hv mv sv).toArray] Q S := by
 have hs : c.s.length ≤ C.lim := by have := h.sl; unfold C.lim; omega
 have hnl : c.ms.length ≤ 3 := by have := h.ok.1.2.1; simp only [List.length_cons] at this; omega
 obtain ⟨b1, d1, b2, d2, b3, d3, rfl, rfl, rfl⟩ := h.town.forms
 refine C.subRet ?_
 refine CallWp.enter (args := [_]) Tryz.func9 rfl Tryz.ntmps9 rfl ?_
 refine Wp.seq (Wp.region ?_)
 refine OWp.step rfl (Step.box rfl rfl rfl ?_); intro L1 hBL1 hLL1
 refine OWp.evs 2 rfl ?_
 refine OWp.nil ?_
 refine Wp.seq ?_
 refine Wp.seq (Wp.region ?_)
 refine OWp.load (.head _) rfl rfl rfl rfl rfl ?_
 refine OWp.step rfl (Step.call rfl rfl rfl rfl rfl rfl ((cwrongC (h.mono fun _ h => .tail _ h) ?_)))
 refine OWp.evs 1 rfl ?_
 refine OWp.nil ?_
 refine Wp.seq (Wp.region ?_)
 refine OWp.evs 2 rfl ?_
 refine OWp.nil ?_
 refine Wp.cond rfl (fun cc1 => absurd (ndT cc1) (by exact fun h => h rfl)) (fun cc1 => ?_)
 have cc1 := ndF cc1
 refine Wp.skip ?_
 refine Wp.seq (Wp.region ?_)
 refine OWp.evs 1 rfl ?_
 refine OWp.load (.head _) rfl rfl rfl rfl rfl ?_
 refine OWp.evs 1 rfl ?_
 refine OWp.load (.head _) rfl rfl rfl rfl rfl ?_
 refine OWp.evs 1 rfl ?_
 refine OWp.load (.head _) rfl rfl rfl rfl rfl ?_
 refine OWp.step rfl (Step.call rfl rfl rfl rfl rfl rfl ((lnewC h.lp ?_)))
 intro pl hBpl hLpl
 refine OWp.evs 5 rfl ?_
 refine OWp.nil ?_
 refine Wp.seq ?_
 refine Wp.seq (Wp.region ?_)
 refine OWp.evs 2 rfl ?_
 refine OWp.nil ?_
 refine Wp.cond rfl (fun cc2 => absurd (ndT cc2) (by exact fun h => h rfl)) (fun cc2 => ?_)
 have cc2 := ndF cc2
 refine Wp.skip ?_
 refine Wp.seq (Wp.region ?_)
 refine OWp.evs 1 rfl ?_
 refine OWp.load (.tail _ (.head _)) rfl rfl rfl rfl rfl ?_
 refine OWp.step rfl (Step.call rfl rfl rfl rfl rfl rfl ((ccopiedC (h.town.mono fun _ h => .tail _ (.tail _ h)) h.ok ?_)))
 intro hv' mv' sv' W hT
 obtain ⟨a1, c1, a2, c2, a3, c3, rfl, rfl, rfl⟩ := hT.forms
 refine OWp.permS (permBy [W, [(pl, cel (lgc c.wd c.dl c.th 0 (.slice none 0 0)) 147)], [(L1, cel (hbc c (.slice b1 c.h0.length d1) (.slice b2 c.ms.length d2) (.slice b3 c.ss.length d3)) 33)]] S [0, 1, 2] [2, 1, 0] (by decide)) ?_
 obtain ⟨hb, hhb⟩ : ∃ x, x = hbc c (.slice a1 c.h0.length c1) (.slice a2 c.ms.length c2) (.slice a3 c.ss.length c3) := ⟨_, rfl⟩
 refine OWp.evs 1 rfl ?_
 refine OWp.step rfl (Step.storeAs 0 (hbc c (.slice a1 c.h0.length c1) (.slice a2 c.ms.length c2) (.slice a3 c.ss.length c3)) rfl rfl rfl rfl rfl (by assumption) rfl (Unfz.zero _) rfl (Nat.le_of_ble_eq_true rfl) rfl rfl ?_)
 refine OWp.nil ?_
 refine Wp.seq (Wp.regionDraw [0, 1, 2, 4, 3, 5, 6, 7] [3, 6] rfl (by decide +kernel) ?_)
 refine DWp.load (.head _) rfl rfl rfl rfl rfl rfl rfl ?_
 refine DWp.evs 1 rfl ?_
 refine DWp.load (.head _) rfl rfl rfl rfl rfl rfl rfl ?_
 refine DWp.evs 1 rfl ?_
 refine DWp.step rfl rfl rfl (Step.call rfl rfl rfl rfl rfl rfl ((C.tapeNew (s := c.s) ?_)))
 intro px hBpx hLpx
 refine prs ?_
 refine DWp.g rfl rfl rfl rfl (Gives.build rfl rfl) ?_
 refine DWp.stepGrow rfl rfl rfl (Step.box rfl rfl rfl ?_); intro p hBp hLp; refine ⟨fun _ hy => .tail _ hy, ?_⟩
 refine DWp.evs 1 rfl ?_
 refine DWp.nil ?_
 refine Wp.seq (Wp.region ?_)
 refine OWp.evs 1 rfl ?_
 refine OWp.step rfl (Step.call rfl rfl rfl rfl rfl rfl ((pnewC (a := 16) (b := 64) (by decide) (by decide) (by decide) ?_)))
 intro pj hBpj hLpj
 refine OWp.evs 5 rfl ?_
 refine OWp.step rfl (Step.storeAs 1 (clc0 c (.slice a1 c.h0.length c1) (.slice a2 c.ms.length c2) (.slice a3 c.ss.length c3) px .nilFunc 0 .nilFunc 0 .nilFunc 0 .nilFunc 0 (pt pj) pl false) rfl rfl rfl rfl rfl hBp rfl (Unfz.zero _) rfl (Nat.le_of_ble_eq_true rfl) rfl rfl ?_)
 refine OWp.nil ?_
 refine Wp.seq (Wp.region ?_)
 refine OWp.evs 1 rfl ?_
 refine OWp.load (.tail _ (.tail _ (.tail _ (.head _)))) rfl rfl rfl rfl rfl ?_
 refine OWp.step rfl (Step.call rfl rfl rfl rfl rfl rfl ((C.wordsC (hT.mono fun x hx => (by (repeat (first | assumption | exact List.Mem.head _ | exact List.mem_append_left _ (by assumption) | apply List.mem_cons_of_mem | apply List.mem_append_right)))) ?_)))
 intro n hn
 obtain rfl : n = 2 * (c.ms.length : Int) + 1 := by
  rcases hn with ⟨_, hn⟩ | ⟨hn, _⟩
  ·simpa using hn
  ·exact absurd h.ok hn
 have w0 : IntKind.i64.wrap (4 * (2 * (c.ms.length : Int) + 1)) = ((c.w : Nat) : Int) := by rw [i64_id (by omega) (by omega)]; unfold Ck.w; omega
 have hw9 : c.w ≤ 1000 := by unfold Ck.w; omega
 have w1 : ∀ m : Int, 0 ≤ m → m ≤ 1000 → IntKind.i64.wrap (m + ((c.w : Nat) : Int)) = m + ((c.w : Nat) : Int) := fun m h1 h2 => i64_id (by omega) (by omega)
 refine OWp.evs 2 rfl ?_
 refine OWp.nil ?_
 refine Wp.seq (Wp.region ?_)
 refine OWp.evs 5 rfl ?_
 refine OWp.g rfl rfl (Gives.build rfl rfl) ?_
 refine OWp.evs 4 rfl ?_
 refine OWp.g rfl rfl (Gives.build rfl rfl) ?_
 refine OWp.evs 4 rfl ?_
 refine OWp.g rfl rfl (Gives.build rfl rfl) ?_
 refine OWp.evs 2 rfl ?_
 refine OWp.g rfl rfl (Gives.build rfl rfl) ?_
 refine OWp.g rfl rfl (Gives.build rfl rfl) ?_
 refine OWp.evs 2 rfl ?_
 refine OWp.step rfl (Step.storeAs 1 (clc0 c (.slice a1 c.h0.length c1) (.slice a2 c.ms.length c2) (.slice a3 c.ss.length c3) px (.func (.func 32) #[pt p] #[]) ((56 + c.w : Nat) : Int) (.func (.func 33) #[pt p] #[]) ((40 + c.w : Nat) : Int) (.func (.func 34) #[pt p] #[]) ((52 + c.w : Nat) : Int) (.func (.func 35) #[pt p] #[]) 4 (pt pj) pl false) rfl rfl rfl rfl rfl hBp rfl (Unfz.zero _) rfl (Nat.le_of_ble_eq_true rfl) (by show wr _ _ [_, Value.int .i64 (IntKind.i64.wrap (56 + IntKind.i64.wrap (4 * (2 * (c.ms.length : Int) + 1)))), _, Value.int .i64 (IntKind.i64.wrap (40 + IntKind.i64.wrap (4 * (2 * (c.ms.length : Int) + 1)))), _, Value.int .i64 (IntKind.i64.wrap (52 + IntKind.i64.wrap (4 * (2 * (c.ms.length : Int) + 1)))), _, _] = _; rw [w0, w1 _ (by decide) (by decide), w1 _ (by decide) (by decide), w1 _ (by decide) (by decide)]; simp only [Int.natCast_add]; rfl) rfl ?_)
 refine OWp.nil ?_
 refine Wp.seq ?_
 refine Wp.seq (Wp.region ?_)
 refine OWp.evs 4 rfl ?_
 refine OWp.load (.tail _ (.head _)) rfl rfl rfl rfl rfl ?_
 refine OWp.evs 2 rfl ?_
 refine OWp.step rfl (Step.call rfl rfl rfl rfl rfl rfl ((C.left (s := c.s) (k := 0) (.tail _ (.tail _ (.head _))) (Nat.zero_le _) hs ?_)))
 have hck0 : ∀ R', KsIn R' → CkOk B (W ++ R') (c.laid p px pj pl (.slice a1 c.h0.length c1) (.slice a2 c.ms.length c2) (.slice a3 c.ss.length c3)) := fun R' hR' => { hp := hBp, hpx := hBpx, hpl := hBpl, ks := KsIn_of hR' fun x hx => List.mem_append_right _ hx, town := hT.mono fun x hx => List.mem_append_left _ hx, ok := h.ok, on := h.on, host := h.host, user := h.user, key := h.key, mn := h.mn, may := h.may, lp := h.lp, sl := h.sl }
 have hck := hck0 S h.ks
 by_cases hdry : c.s.length < 16
 ·skip
  refine OWp.evs 3 rfl ?_
  refine OWp.step rfl (Step.storeAs 1 (clc0 c (.slice a1 c.h0.length c1) (.slice a2 c.ms.length c2) (.slice a3 c.ss.length c3) px (.func (.func 32) #[pt p] #[]) ((56 + c.w : Nat) : Int) (.func (.func 33) #[pt p] #[]) ((40 + c.w : Nat) : Int) (.func (.func 34) #[pt p] #[]) ((52 + c.w : Nat) : Int) (.func (.func 35) #[pt p] #[]) 4 (pt pj) pl true) rfl rfl rfl rfl rfl hBp rfl (Unfz.zero _) rfl (Nat.le_of_ble_eq_true rfl) (by rw [show decide (((c.s.length - 0 : Nat) : Int) < 16) = true from decide_eq_true (by omega)]; rfl) rfl ?_)
  refine OWp.nil ?_
  refine Wp.seq (Wp.region ?_)
  refine OWp.evs 3 rfl ?_
  refine OWp.load (.tail _ (.head _)) rfl rfl rfl rfl rfl ?_
  refine OWp.evs 1 rfl ?_
  refine OWp.nil ?_
  refine Wp.cond rfl (fun c => nomatch c) (fun _ => ?_)
  refine Wp.skip ?_
  refine Wp.seq (Wp.region ?_)
  refine OWp.evs 3 rfl ?_
  refine OWp.nil ?_
  refine Wp.ret ⟨trivial, _, ⟨_, _, rfl, rfl, _, _, rfl, rfl, rfl⟩, ?_⟩
  have e : newCs c = ⟨0, [0, 0, 0, 0], [], [], 0, 0, true⟩ := if_pos hdry
  refine ⟨_, _, (show List.Perm ((pj, cel [.int .i64 16, .slice none 0 0, .int .i64 64, .slice none 0 0] 156) :: cle (c.laid p px pj pl (.slice a1 c.h0.length c1) (.slice a2 c.ms.length c2) (.slice a3 c.ss.length c3)) (.slice none 0 0) [0, 0, 0, 0] 0 0 0 true :: tp px c.s 0 :: (L1, cel (hbc c (.slice a1 c.h0.length c1) (.slice a2 c.ms.length c2) (.slice a3 c.ss.length c3)) 33) :: lde (c.laid p px pj pl (.slice a1 c.h0.length c1) (.slice a2 c.ms.length c2) (.slice a3 c.ss.length c3)) 0 (.slice none 0 0) :: (W ++ S)) ((L1, cel (hbc c (.slice a1 c.h0.length c1) (.slice a2 c.ms.length c2) (.slice a3 c.ss.length c3)) 33) :: cle (c.laid p px pj pl (.slice a1 c.h0.length c1) (.slice a2 c.ms.length c2) (.slice a3 c.ss.length c3)) (.slice none 0 0) [0, 0, 0, 0] 0 0 0 true :: tp px c.s 0 :: lde (c.laid p px pj pl (.slice a1 c.h0.length c1) (.slice a2 c.ms.length c2) (.slice a3 c.ss.length c3)) 0 (.slice none 0 0) :: (pj, cel [.int .i64 16, .slice none 0 0, .int .i64 64, .slice none 0 0] 156) :: (W ++ S)) from permBy [[(pj, cel [.int .i64 16, .slice none 0 0, .int .i64 64, .slice none 0 0] 156)], [cle (c.laid p px pj pl (.slice a1 c.h0.length c1) (.slice a2 c.ms.length c2) (.slice a3 c.ss.length c3)) (.slice none 0 0) [0, 0, 0, 0] 0 0 0 true, tp px c.s 0], [(L1, cel (hbc c (.slice a1 c.h0.length c1) (.slice a2 c.ms.length c2) (.slice a3 c.ss.length c3)) 33)], [lde (c.laid p px pj pl (.slice a1 c.h0.length c1) (.slice a2 c.ms.length c2) (.slice a3 c.ss.length c3)) 0 (.slice none 0 0)]] (W ++ S) [0, 1, 2, 3] [2, 1, 3, 0] (by decide)), .cons _ (.refl _), ?_⟩
  exact H p px pj pl _ _ _ [cle (c.laid p px pj pl (.slice a1 c.h0.length c1) (.slice a2 c.ms.length c2) (.slice a3 c.ss.length c3)) (.slice none 0 0) [0, 0, 0, 0] 0 0 0 true, tp px c.s 0, lde (c.laid p px pj pl (.slice a1 c.h0.length c1) (.slice a2 c.ms.length c2) (.slice a3 c.ss.length c3)) 0 (.slice none 0 0)] W hck0 (by rw [e]; exact ⟨_, [], _, [], rfl, (Own.nil _ _ _).at, Own.nil _ _ _⟩) hBpj
 refine OWp.evs 3 rfl ?_
 refine OWp.step rfl (Step.storeAs 1 (clc0 c (.slice a1 c.h0.length c1) (.slice a2 c.ms.length c2) (.slice a3 c.ss.length c3) px (.func (.func 32) #[pt p] #[]) ((56 + c.w : Nat) : Int) (.func (.func 33) #[pt p] #[]) ((40 + c.w : Nat) : Int) (.func (.func 34) #[pt p] #[]) ((52 + c.w : Nat) : Int) (.func (.func 35) #[pt p] #[]) 4 (pt pj) pl false) rfl rfl rfl rfl rfl hBp rfl (Unfz.zero _) rfl (Nat.le_of_ble_eq_true rfl) (by rw [show decide (((c.s.length - 0 : Nat) : Int) < 16) = false from decide_eq_false (by omega)]; rfl) rfl ?_)
 refine OWp.nil ?_
 refine Wp.seq (Wp.region ?_)
 refine OWp.evs 3 rfl ?_
 refine OWp.load (.tail _ (.head _)) rfl rfl rfl rfl rfl ?_
 refine OWp.evs 1 rfl ?_
 refine OWp.nil ?_
 refine Wp.cond rfl (fun _ => ?_) (fun c => nomatch c)
 refine Wp.seq (Wp.region ?_)
 refine OWp.evs 1 rfl ?_
 refine OWp.nil ?_
 refine Wp.block ?_
 refine Wp.loopS (α := Nat) (fun i => 4 - i) (fun i => [(7, pt p), (88, .int .i64 (i : Int))]) (fun i => cle (c.laid p px pj pl (.slice a1 c.h0.length c1) (.slice a2 c.ms.length c2) (.slice a3 c.ss.length c3)) (.slice none 0 0) (nxs (c.laid p px pj pl (.slice a1 c.h0.length c1) (.slice a2 c.ms.length c2) (.slice a3 c.ss.length c3)) i) 0 0 0 false :: tp px c.s (4 * i) :: (pj, cel [.int .i64 16, .slice none 0 0, .int .i64 64, .slice none 0 0] 156) :: (L1, cel (hbc c (.slice a1 c.h0.length c1) (.slice a2 c.ms.length c2) (.slice a3 c.ss.length c3)) 33) :: lde (c.laid p px pj pl (.slice a1 c.h0.length c1) (.slice a2 c.ms.length c2) (.slice a3 c.ss.length c3)) 0 (.slice none 0 0) :: (W ++ S)) (fun i => i ≤ 4) 0 ?_ (show List.Perm ((pj, cel [.int .i64 16, .slice none 0 0, .int .i64 64, .slice none 0 0] 156) :: cle (c.laid p px pj pl (.slice a1 c.h0.length c1) (.slice a2 c.ms.length c2) (.slice a3 c.ss.length c3)) (.slice none 0 0) [0, 0, 0, 0] 0 0 0 false :: tp px c.s 0 :: (L1, cel (hbc c (.slice a1 c.h0.length c1) (.slice a2 c.ms.length c2) (.slice a3 c.ss.length c3)) 33) :: lde (c.laid p px pj pl (.slice a1 c.h0.length c1) (.slice a2 c.ms.length c2) (.slice a3 c.ss.length c3)) 0 (.slice none 0 0) :: (W ++ S)) (cle (c.laid p px pj pl (.slice a1 c.h0.length c1) (.slice a2 c.ms.length c2) (.slice a3 c.ss.length c3)) (.slice none 0 0) [0, 0, 0, 0] 0 0 0 false :: tp px c.s 0 :: (pj, cel [.int .i64 16, .slice none 0 0, .int .i64 64, .slice none 0 0] 156) :: (L1, cel (hbc c (.slice a1 c.h0.length c1) (.slice a2 c.ms.length c2) (.slice a3 c.ss.length c3)) 33) :: lde (c.laid p px pj pl (.slice a1 c.h0.length c1) (.slice a2 c.ms.length c2) (.slice a3 c.ss.length c3)) 0 (.slice none 0 0) :: (W ++ S)) from permBy [[(pj, cel [.int .i64 16, .slice none 0 0, .int .i64 64, .slice none 0 0] 156)], [cle (c.laid p px pj pl (.slice a1 c.h0.length c1) (.slice a2 c.ms.length c2) (.slice a3 c.ss.length c3)) (.slice none 0 0) [0, 0, 0, 0] 0 0 0 false, tp px c.s 0]] ((L1, cel (hbc c (.slice a1 c.h0.length c1) (.slice a2 c.ms.length c2) (.slice a3 c.ss.length c3)) 33) :: lde (c.laid p px pj pl (.slice a1 c.h0.length c1) (.slice a2 c.ms.length c2) (.slice a3 c.ss.length c3)) 0 (.slice none 0 0) :: (W ++ S)) [0, 1] [1, 0] (by decide)) (Nat.zero_le _) ?_
 ·exact .cons rfl (.cons rfl (.nil _))
 intro i hi
 refine Wp.seq (Wp.region ?_)
 refine OWp.evs 1 rfl ?_
 refine OWp.nil ?_
 refine Wp.seq ?_
 refine Wp.cond rfl (fun c5 => ?_) (fun c5 => ?_)
 ·have c5 := of_decide_eq_true c5
  have hlt : i < 4 := by omega
  have hwl := dl_le255 (c.laid p px pj pl (.slice a1 c.h0.length c1) (.slice a2 c.ms.length c2) (.slice a3 c.ss.length c3)) i (4 * i)
  refine Wp.skip ?_
  refine Wp.seq ?_
  refine Wp.block ?_
  refine Wp.seq (Wp.region ?_)
  refine OWp.evs 2 rfl ?_
  refine OWp.nil ?_
  refine Wp.regionDraw [0, 1, 2, 3, 5, 6, 4, 7, 8] [4, 8] rfl (by decide +kernel) ?_
  refine DWp.evs 6 rfl ?_
  refine DWp.stepAll rfl rfl rfl rfl (Step.call rfl rfl rfl rfl rfl rfl (CallWp.focus 1 rfl ((cwaitC (c := (c.laid p px pj pl (.slice a1 c.h0.length c1) (.slice a2 c.ms.length c2) (.slice a3 c.ss.length c3))) hck (.head _) hlt (by show 4 * i + 4 ≤ c.s.length; omega) ?_))))
  refine DWp.g rfl rfl rfl rfl (Gives.indexAddrArr (i) rfl rfl rfl rfl rfl rfl hlt) ?_
  refine DWp.stepAll rfl rfl rfl rfl (Step.storeAs 1 (clc (c.laid p px pj pl (.slice a1 c.h0.length c1) (.slice a2 c.ms.length c2) (.slice a3 c.ss.length c3)) (.slice none 0 0) (nxs (c.laid p px pj pl (.slice a1 c.h0.length c1) (.slice a2 c.ms.length c2) (.slice a3 c.ss.length c3)) (i + 1)) 0 0 0 false) rfl rfl rfl rfl rfl hBp rfl (Unfz.zero _) rfl (by show 0 + 17 + i * 1 + 1 ≤ 35; omega) (by rw [← nxs_set (c.laid p px pj pl (.slice a1 c.h0.length c1) (.slice a2 c.ms.length c2) (.slice a3 c.ss.length c3)) hlt]; exact nx_set rfl hlt (by show 0 + 17 + i * 1 = 17 + i; omega)) rfl ?_)
  refine DWp.nil ?_
  refine Wp.region ?_
  refine OWp.evs 2 rfl ?_
  refine OWp.nil ?_
  exact ⟨i + 1, by omega, by omega, .cons rfl (.cons' rfl (int_eq (i64_inc (by omega))) (.nil _)), List.Perm.swap _ _ _⟩
 have c5 := of_decide_eq_false c5
 obtain rfl : i = 4 := by omega
 refine Wp.exit ?_
 refine Wp.seq (Wp.region ?_)
 refine OWp.evs 3 rfl ?_
 refine OWp.nil ?_
 refine Wp.ret ⟨trivial, _, ⟨_, _, rfl, rfl, _, _, rfl, rfl, rfl⟩, ?_⟩
 have e : newCs c = ⟨16, nxs (c.laid p px pj pl (.slice a1 c.h0.length c1) (.slice a2 c.ms.length c2) (.slice a3 c.ss.length c3)) 4, [], [], 0, 0, false⟩ := if_neg hdry
 refine ⟨_, _, (show List.Perm (cle (c.laid p px pj pl (.slice a1 c.h0.length c1) (.slice a2 c.ms.length c2) (.slice a3 c.ss.length c3)) (.slice none 0 0) (nxs (c.laid p px pj pl (.slice a1 c.h0.length c1) (.slice a2 c.ms.length c2) (.slice a3 c.ss.length c3)) 4) 0 0 0 false :: tp px c.s 16 :: (pj, cel [.int .i64 16, .slice none 0 0, .int .i64 64, .slice none 0 0] 156) :: (L1, cel (hbc c (.slice a1 c.h0.length c1) (.slice a2 c.ms.length c2) (.slice a3 c.ss.length c3)) 33) :: lde (c.laid p px pj pl (.slice a1 c.h0.length c1) (.slice a2 c.ms.length c2) (.slice a3 c.ss.length c3)) 0 (.slice none 0 0) :: (W ++ S)) ((L1, cel (hbc c (.slice a1 c.h0.length c1) (.slice a2 c.ms.length c2) (.slice a3 c.ss.length c3)) 33) :: cle (c.laid p px pj pl (.slice a1 c.h0.length c1) (.slice a2 c.ms.length c2) (.slice a3 c.ss.length c3)) (.slice none 0 0) (nxs (c.laid p px pj pl (.slice a1 c.h0.length c1) (.slice a2 c.ms.length c2) (.slice a3 c.ss.length c3)) 4) 0 0 0 false :: tp px c.s 16 :: lde (c.laid p px pj pl (.slice a1 c.h0.length c1) (.slice a2 c.ms.length c2) (.slice a3 c.ss.length c3)) 0 (.slice none 0 0) :: (pj, cel [.int .i64 16, .slice none 0 0, .int .i64 64, .slice none 0 0] 156) :: (W ++ S)) from permBy [[cle (c.laid p px pj pl (.slice a1 c.h0.length c1) (.slice a2 c.ms.length c2) (.slice a3 c.ss.length c3)) (.slice none 0 0) (nxs (c.laid p px pj pl (.slice a1 c.h0.length c1) (.slice a2 c.ms.length c2) (.slice a3 c.ss.length c3)) 4) 0 0 0 false, tp px c.s 16], [(pj, cel [.int .i64 16, .slice none 0 0, .int .i64 64, .slice none 0 0] 156)], [(L1, cel (hbc c (.slice a1 c.h0.length c1) (.slice a2 c.ms.length c2) (.slice a3 c.ss.length c3)) 33)], [lde (c.laid p px pj pl (.slice a1 c.h0.length c1) (.slice a2 c.ms.length c2) (.slice a3 c.ss.length c3)) 0 (.slice none 0 0)]] (W ++ S) [0, 1, 2, 3] [2, 0, 3, 1] (by decide)), .cons _ (.refl _), ?_⟩
 exact H p px pj pl _ _ _ [cle (c.laid p px pj pl (.slice a1 c.h0.length c1) (.slice a2 c.ms.length c2) (.slice a3 c.ss.length c3)) (.slice none 0 0) (nxs (c.laid p px pj pl (.slice a1 c.h0.length c1) (.slice a2 c.ms.length c2) (.slice a3 c.ss.length c3)) 4) 0 0 0 false, tp px c.s 16, lde (c.laid p px pj pl (.slice a1 c.h0.length c1) (.slice a2 c.ms.length c2) (.slice a3 c.ss.length c3)) 0 (.slice none 0 0)] W hck0 (by rw [e]; exact ⟨_, [], _, [], rfl, (Own.nil _ _ _).at, Own.nil _ _ _⟩) hBpj
end
end Go.Proofs.D

/- A client: what is submitted. -/
namespace Go.Proofs.D
open Go.Lg Go.Sha Go.Hd Go.Cv
open Go.Proofs.C (Hop hopP hopB parse pathE encB tp word TIn Nd ndc St stc TownOk HostOf IsHost wayR mayP TownOk belowR WayIn LooseOf HomeOf NodesIn)
set_option maxRecDepth 100000
def msgW : List UInt8 := [109, 101, 115, 115, 97, 103, 101]
def subId (c : Ck) (many : Nat) : List UInt8 := (hmac c.key (msgW ++ tail8 (many + 1))).take 8
/-- The parts that a message is cut into, for a user. -/
def subP (c : Ck) (many : Nat) (to : Int) (body : List UInt8) : List Nd := (partsB (subId c many) body).map fun t => (to, t)
theorem subId_len (c : Ck) (many : Nat) : (subId c many).length = 8 := by unfold subId; rw [List.length_take, hmac_len]; rfl
theorem subP_len (c : Ck) (many : Nat) (to : Int) (body : List UInt8) : (subP c many to body).length = partN body := by unfold subP; rw [List.length_map, partsB_len]
theorem subP_ok {c : Ck} {many : Nat} {to : Int} {body : List UInt8} {b : Nd} (hb : HostOf (c.h0 :: c.ms) c.ss to b 0) (h0 : 0 ≤ to) (h1 : to < 64) : ∀ x ∈ subP c many to body, PartOk c x ∧ 16 ≤ x.2.length := by
 intro x hx
 unfold subP at hx
 obtain ⟨t, ht, rfl⟩ := List.mem_map.1 hx
 obtain ⟨l1, l2⟩ := partsB_lens (subId_len c many) t ht
 exact ⟨⟨⟨b, hb⟩, h0, h1, by show t.length ≤ 222; omega⟩, l1⟩
attribute [local irreducible] hmac sha partsB
section
variable {B : Nat} {S R : Ents} {Q : Value → Ents → Prop} {c : Ck} {qv : Value} {nx : List Nat} {now : Int} {many seq : Nat} {dry : Bool}
set_option maxHeartbeats 4000000 in
theorem csubmitC {q : List Nd} {qes : Ents} {to : Int} {b : Nd} {body : List UInt8} (ho : CkOk B R c) (hR : ∀ x ∈ R, x ∈ S) (hq : OwnAt B 165 2 qv q.length (q.flatMap ndc) qes) (hb : HostOf (c.h0 :: c.ms) c.ss to b 0) (hbl : body.length ≤ 2048) (hql : q.length ≤ 256) (hmany : many ≤ 1000000)
  (H0 : 256 < q.length + partN body → Q (.tuple #[.string (str []), .int .i64 180]) (cle c qv nx now many seq dry :: (qes ++ S)))
  (H1 : q.length + partN body ≤ 256 → ∀ qv' qes', OwnAt B 165 2 qv' (q ++ subP c many to body).length ((q ++ subP c many to body).flatMap ndc) qes' → Q (.tuple #[.string (str (subId c many)), .int .i64 0]) (cle c qv' nx now (many + 1) seq dry :: (qes' ++ S))) :
  CallWp Tryz.prog B 38 #[pt c.p, .int .i64 to, .string (str body)] Q (cle c qv nx now many seq dry :: (qes ++ S)) := by
 obtain ⟨a0, c0, rfl⟩ := hq.form
 have hpn : 1 ≤ partN body ∧ partN body ≤ 11 := by unfold partN; omega
 refine C.subRet ?_
 refine CallWp.enter (args := [_, _, _]) Tryz.func38 rfl Tryz.ntmps38 rfl ?_
 refine Wp.seq (Wp.region ?_)
 refine OWp.evs 2 rfl ?_
 refine OWp.nil ?_
 refine Wp.seq ?_
 refine Wp.seq (Wp.region ?_)
 refine OWp.evs 4 rfl ?_
 refine OWp.load (.head _) rfl rfl rfl rfl rfl ?_
 refine OWp.evs 1 rfl ?_
 refine OWp.step rfl (Step.call rfl rfl rfl rfl rfl rfl ((C.hostC (ho.town.mono fun x hx => .tail _ (List.mem_append_right _ (hR x hx))) ?_)))
 intro n e he
 obtain ⟨rfl, rfl⟩ := C.hostOf_one hb he
 refine OWp.evs 3 rfl ?_
 refine OWp.step rfl (Step.alloc rfl rfl rfl ?_); intro L8 hBL8 hLL8
 refine OWp.step rfl (Step.storeAs 0 (ndc b) rfl rfl rfl rfl rfl (by assumption) rfl (Unfz.zero _) rfl (Nat.le_of_ble_eq_true rfl) rfl rfl ?_)
 refine OWp.evs 1 rfl ?_
 refine OWp.nil ?_
 refine Wp.seq (Wp.region ?_)
 refine OWp.evs 2 rfl ?_
 refine OWp.nil ?_
 refine Wp.cond rfl (fun cc1 => absurd (ndT cc1) (by exact fun h => h rfl)) (fun cc1 => ?_)
 have cc1 := ndF cc1
 refine Wp.skip ?_
 refine Wp.seq (Wp.region ?_)
 refine OWp.evs 3 rfl ?_
 refine OWp.load (.tail _ (.head _)) rfl rfl rfl rfl rfl ?_
 refine OWp.evs 3 rfl ?_
 refine OWp.nil ?_
 refine Wp.seq (Wp.region ?_)
 refine OWp.step rfl (Step.alloc rfl rfl rfl ?_); intro L11 hBL11 hLL11
 refine OWp.nil ?_
 refine Wp.seq ?_
 refine Wp.seq (Wp.region ?_)
 refine OWp.evs 1 rfl ?_
 refine OWp.nil ?_
 refine Wp.block ?_
 refine Wp.loopS (α := Nat) (fun i => 8 - i) (fun i => [(0, pt c.p), (1, .int .i64 to), (2, .string (str body)), (10, .int .u64 ((many + 1 : Nat) : Int)), (11, pt L11), (35, .int .i64 (i : Int))]) (fun i => (L11, cel (byteCells ((List.range i).map (fun j => UInt8.ofNat ((many + 1) / 2 ^ (56 - 8 * j))) ++ List.replicate (8 - i) 0)) 171) :: (L8, cel (ndc b) 135) :: cle c (.slice a0 q.length c0) nx now many seq dry :: (qes ++ S)) (fun i => i ≤ 8) 0 ?_ (.refl _) (Nat.zero_le _) ?_
 ·exact .cons rfl (.cons rfl (.cons rfl (.cons' rfl (int_eq (by rw [i64_id (by omega) (by omega), IntKind.wrap_u64]; omega)) (.cons rfl (.cons rfl (.nil _))))))
 intro i hi
 refine Wp.seq (Wp.region ?_)
 refine OWp.evs 1 rfl ?_
 refine OWp.nil ?_
 refine Wp.seq ?_
 refine Wp.cond rfl (fun h1 => ?_) (fun h1 => ?_)
 ·have h1 := of_decide_eq_true h1
  have hlt : i < 8 := by omega
  refine Wp.skip ?_
  refine Wp.seq ?_
  refine Wp.block ?_
  refine Wp.seq (Wp.region ?_)
  refine OWp.evs 2 rfl ?_
  refine OWp.nil ?_
  refine Wp.region ?_
  refine OWp.evs 5 rfl ?_
  refine OWp.g rfl rfl (Gives.shr (m := 56 - 8 * i) rfl rfl rfl (by rw [i64_id (x := 8 * (i : Int)) (by omega) (by omega), i64_id (by omega) (by omega)]; omega)) ?_
  refine OWp.evs 1 rfl ?_
  refine OWp.g rfl rfl (Gives.indexAddrArr (i) rfl rfl rfl rfl rfl rfl (by omega)) ?_
  refine OWp.step rfl (Step.storeAs 0 (byteCells ((List.range (i + 1)).map (fun j => UInt8.ofNat ((many + 1) / 2 ^ (56 - 8 * j))) ++ List.replicate (8 - (i + 1)) 0)) rfl rfl rfl rfl rfl (by assumption) rfl (Unfz.zero _) rfl (by rw [byteCells_length]; simp only [List.length_append, List.length_map, List.length_range, List.length_replicate]; show 0 + i * 1 + 1 ≤ _; omega) (by rw [eight_step (many + 1) i hlt]; exact row_set (fun j => UInt8.ofNat ((many + 1) / 2 ^ (56 - 8 * j))) hlt (by show 0 + i * 1 = i; omega)) rfl ?_)
  refine OWp.nil ?_
  refine Wp.region ?_
  refine OWp.evs 2 rfl ?_
  refine OWp.nil ?_
  refine ⟨i + 1, by omega, by omega, ?_, .refl _⟩
  exact .cons rfl (.cons rfl (.cons rfl (.cons rfl (.cons rfl (.cons' rfl (int_eq (i64_inc (by omega))) (.nil _))))))
 have h1 := of_decide_eq_false h1
 obtain rfl : i = 8 := by omega
 refine Wp.exit ?_
 refine Wp.seq (Wp.regionDraw [0, 1, 2, 3, 4, 5, 6, 7, 8, 9, 10] [7, 8] rfl (by decide +kernel) ?_)
 refine DWp.evs 4 rfl ?_
 refine DWp.load (.tail _ (.tail _ (.head _))) rfl rfl rfl rfl rfl rfl rfl ?_
 refine DWp.g rfl rfl rfl rfl (Gives.sliceArr (l := 0) (h' := 8) rfl rfl rfl rfl rfl rfl (by omega) (by omega) (by omega)) ?_
 refine DWp.gives rfl rfl rfl rfl (Gives.bytesToStr (F := (L11, cel (byteCells (tail8 (many + 1))) 171) :: (L8, cel (ndc b) 135) :: cle c (.slice a0 q.length c0) nx now many seq dry :: (qes ++ S)) (l := tail8 (many + 1)) (k := 8) rfl rfl rfl rfl rfl (Reads.row (k := 8) (sz := 1) (cap := 8) (b := L11) (l := byteCells (tail8 (many + 1))) (e := 171) (fz := (0, 0)) (.head _) (by rw [byteCells_length]; simp [tail8]))) (fun _ h => h) ?_
 refine DWp.stepGrow rfl rfl rfl (Step.buildSlice rfl rfl rfl ?_); intro L54 hBL54 hLL54; refine ⟨fun _ hy => .tail _ hy, ?_⟩
 refine DWp.stepAll rfl rfl rfl rfl (Step.call rfl rfl rfl rfl rfl rfl ((tagC (l := [msgW, tail8 (many + 1)]) (Reads.row (k := 2) (sz := 1) (.head _) (Nat.le_of_ble_eq_true rfl)) (by decide) (KsIn_of ho.ks fun x hx => .tail _ (.tail _ (.tail _ (.tail _ (List.mem_append_right _ (hR x hx)))))) (by rw [ho.key]; decide) (by simp [msgW, tail8, big]) ?_)))
 have hid : (hmac c.key ([msgW, tail8 (many + 1)] : List (List UInt8)).flatten) = hmac c.key (msgW ++ tail8 (many + 1)) := by simp
 rw [hid]
 refine DWp.g rfl rfl rfl rfl (Gives.sliceStr (l := 0) (h' := 8) rfl rfl rfl rfl ⟨_, _, rfl, rfl⟩ (by omega) (by rw [hmac_len]; omega)) ?_
 refine DWp.evs 1 rfl ?_
 refine DWp.nil ?_
 refine Wp.seq (Wp.region ?_)
 refine OWp.evs 2 rfl ?_
 refine OWp.step rfl (Step.call rfl rfl rfl rfl rfl rfl ((cutC (id := subId c many) (KsIn_of ho.ks fun x hx => .tail _ (.tail _ (.tail _ (.tail _ (List.mem_append_right _ (hR x hx)))))) (subId_len c many) hbl ?_)))
 intro pv pes hp
 refine OWp.permS (show List.Perm (pes ++ ((L54, cel [.string (str msgW), .string (str (tail8 (many + 1)))] 9) :: (L11, cel (byteCells (tail8 (many + 1))) 171) :: (L8, cel (ndc b) 135) :: cle c (.slice a0 q.length c0) nx now many seq dry :: (qes ++ S))) ((L54, cel [.string (str msgW), .string (str (tail8 (many + 1)))] 9) :: (L11, cel (byteCells (tail8 (many + 1))) 171) :: (L8, cel (ndc b) 135) :: cle c (.slice a0 q.length c0) nx now many seq dry :: (qes ++ (pes ++ S))) from permBy [pes, [(L54, cel [.string (str msgW), .string (str (tail8 (many + 1)))] 9), (L11, cel (byteCells (tail8 (many + 1))) 171), (L8, cel (ndc b) 135), cle c (.slice a0 q.length c0) nx now many seq dry], qes] S [0, 1, 2] [1, 2, 0] (by decide)) ?_
 refine OWp.drop (.cons _ (.cons _ (.cons _ (.refl _)))) ?_
 refine OWp.evs 5 rfl ?_
 refine OWp.nil ?_
 refine Wp.seq ?_
 refine Wp.seq (Wp.region ?_)
 refine OWp.evs 2 rfl ?_
 refine OWp.nil ?_
 refine Wp.cond rfl (fun cc2 => absurd (ndT cc2) (by exact fun h => h rfl)) (fun cc2 => ?_)
 have cc2 := ndF cc2
 refine Wp.skip ?_
 refine Wp.seq ?_
 refine Wp.seq (Wp.region ?_)
 refine OWp.evs 3 rfl ?_
 refine OWp.load (.head _) rfl rfl rfl rfl rfl ?_
 obtain ⟨pa, pc, rfl⟩ := hp.reads.form
 refine OWp.evs 5 rfl ?_
 refine OWp.nil ?_
 refine Wp.cond rfl (fun c4 => ?_) (fun c4 => ?_)
 ·have c4 := of_decide_eq_true c4
  rw [i64_id (by omega) (by omega)] at c4
  refine Wp.seq (Wp.region ?_)
  refine OWp.evs 2 rfl ?_
  refine OWp.nil ?_
  refine Wp.ret ⟨trivial, _, ⟨_, _, rfl, rfl, _, _, rfl, rfl, rfl⟩, ?_⟩
  exact ⟨_, _, .refl _, .cons_cons _ (.append (.refl _) (List.sublist_append_right _ _)), H0 (by omega)⟩
 have c4 := of_decide_eq_false c4
 rw [i64_id (by omega) (by omega)] at c4
 refine Wp.skip ?_
 refine Wp.seq (Wp.region ?_)
 refine OWp.evs 3 rfl ?_
 refine OWp.load (.head _) rfl rfl rfl rfl rfl ?_
 refine OWp.evs 3 rfl ?_
 refine OWp.step rfl (Step.storeAs 0 (clc c (.slice a0 q.length c0) nx now (many + 1) seq dry) rfl rfl rfl rfl rfl ho.hp rfl (Unfz.zero _) rfl (Nat.le_of_ble_eq_true rfl) (by rw [i64_inc (by omega)]; rfl) rfl ?_)
 refine OWp.nil ?_
 show Wp _ _ _ _ _ _ _
 obtain ⟨ps, hps⟩ : ∃ x, x = partsB (subId c many) body := ⟨_, rfl⟩
 have hpl : ps.length = partN body := by rw [hps, partsB_len]
 have hP : subP c many to body = ps.map fun t => (to, t) := by rw [hps]; rfl
 rw [← hps] at hp
 obtain ⟨n, hn⟩ : ∃ n, n = partN body := ⟨_, rfl⟩
 rw [← hn] at hp hpl c4 hpn H1
 obtain ⟨b5, o5, cc5, l5, t5, f5, hv5, hm5, _, hg5⟩ := hp.reads.get1 (by omega)
 obtain ⟨rfl, rfl⟩ : pa = some ⟨b5, o5, none⟩ ∧ pc = cc5 := by simpa using hv5
 refine Wp.seq ?_
 refine Wp.seq (Wp.region ?_)
 refine OWp.evs 3 rfl ?_
 refine OWp.nil ?_
 refine Wp.block ?_
 refine Wp.loopS (α := Nat × Value × Ents) (fun z => n - z.1) (fun z => [(0, pt c.p), (1, .int .i64 to), (6, .string (str (subId c many))), (82, .slice (some ⟨b5, o5, none⟩) n pc), (83, .int .i64 (n : Int)), (84, .int .i64 (z.1 : Int))]) (fun z => cle c z.2.1 nx now (many + 1) seq dry :: (z.2.2 ++ (pes ++ S))) (fun z => z.1 ≤ n ∧ OwnAt B 165 2 z.2.1 (q.length + z.1) ((q ++ (ps.take z.1).map fun t => (to, t)).flatMap ndc) z.2.2) (0, .slice a0 q.length c0, qes) ?_ (.refl _) ⟨Nat.zero_le _, by simpa using hq⟩ ?_
 ·exact .cons rfl (.cons rfl (.cons rfl (.cons' rfl (by rw [hn]) (.cons' rfl (by rw [hn]) (.cons rfl (.nil _))))))
 rintro ⟨i, qv1, qes1⟩ ⟨hi, hq1⟩
 simp only at hi hq1 ⊢
 refine Wp.seq (Wp.region ?_)
 refine OWp.evs 1 rfl ?_
 refine OWp.nil ?_
 refine Wp.seq ?_
 refine Wp.cond rfl (fun c5 => ?_) (fun c5 => ?_)
 ·have c5 := of_decide_eq_true c5
  have hlt : i < n := by omega
  have x1 : ps[i]? = some ps[i] := by simp
  refine Wp.skip ?_
  refine Wp.seq ?_
  refine Wp.block ?_
  refine Wp.seq (Wp.region ?_)
  refine OWp.g rfl rfl (Gives.indexAddrSlice (i) rfl rfl rfl rfl rfl rfl hlt) ?_
  refine OWp.load (.tail _ (List.mem_append_right _ (List.mem_append_left _ hm5))) rfl rfl rfl rfl ((hg5 i hlt).trans (by rw [strs, List.getElem?_map, x1]; rfl)) ?_
  refine OWp.evs 1 rfl ?_
  refine OWp.nil ?_
  refine Wp.region ?_
  refine OWp.evs 4 rfl ?_
  refine OWp.load (.head _) rfl rfl rfl rfl rfl ?_
  refine OWp.evs 2 rfl ?_
  refine OWp.g rfl rfl (Gives.build rfl rfl) ?_
  refine OWp.step rfl (Step.buildSlice rfl rfl rfl ?_); intro L96 hBL96 hLL96
  refine OWp.step rfl (Step.appendQ [_, _] rfl rfl rfl rfl rfl rfl (by decide) rfl rfl hq1 (Reads.row (k := 1) (sz := 2) (.head _) (Nat.le_of_ble_eq_true rfl)) rfl (by show (_ + 1) * 24 ≤ _; omega) (by unfold maxLen; omega) ?_)
  intro qv2 qes2 hq2
  obtain ⟨qa2, qc2, rfl⟩ := hq2.form
  refine OWp.evs 2 rfl ?_
  refine OWp.step rfl (Step.storeAs 1 (clc c (.slice qa2 (q.length + i + 1) qc2) nx now (many + 1) seq dry) rfl rfl rfl rfl rfl ho.hp rfl (Unfz.zero _) rfl (Nat.le_of_ble_eq_true rfl) rfl rfl ?_)
  refine OWp.nil ?_
  refine Wp.drop (S' := cle c (.slice qa2 (q.length + i + 1) qc2) nx now (many + 1) seq dry :: (qes2 ++ (pes ++ S))) (List.sublist_cons_self _ _) ?_
  refine Wp.region ?_
  refine OWp.evs 2 rfl ?_
  refine OWp.nil ?_
  refine ⟨(i + 1, .slice qa2 (q.length + i + 1) qc2, qes2), by simp only; omega, ⟨hlt, ?_⟩, .cons rfl (.cons rfl (.cons rfl (.cons rfl (.cons rfl (.cons' rfl (int_eq (i64_inc (by omega))) (.nil _)))))), .refl _⟩
  simp only
  have e : (q ++ (ps.take (i + 1)).map fun t => (to, t)).flatMap ndc = (q ++ (ps.take i).map fun t => (to, t)).flatMap ndc ++ ndc (to, ps[i]) := by
   rw [List.take_succ_eq_append_getElem (show i < ps.length by omega), List.map_append, List.map_singleton, ← List.append_assoc, List.flatMap_append, List.flatMap_singleton]
  rw [e]
  exact hq2
 have c5 := of_decide_eq_false c5
 obtain rfl : i = n := by omega
 refine Wp.exit ?_
 refine Wp.seq (Wp.region ?_)
 refine OWp.evs 3 rfl ?_
 refine OWp.nil ?_
 refine Wp.ret ⟨trivial, _, ⟨_, _, rfl, rfl, _, _, rfl, rfl, rfl⟩, ?_⟩
 rw [List.take_of_length_le (by omega)] at hq1
 have h := H1 (by omega) qv1 qes1 (by rw [hP, List.length_append, List.length_map, hpl]; exact hq1)
 exact ⟨_, _, .refl _, .cons_cons _ (.append (.refl _) (List.sublist_append_right _ _)), h⟩
end
end Go.Proofs.D
