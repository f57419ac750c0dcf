/- What functions of the given program do, one after the other, told by that layer. -/
import Derived.Test.YtlfhhkdjahcglaaGreatDoorKM15x801e
import Derived.Test.YtlfhhkdjahcglaaGreatDoorEHeadW
import Derived.Test.YtlfhhkdjahcglaaGreatDoorKHead
import Derived.Test.YtlfhhkdjahcglaaGreatDoorRows
import Derived.LaidMore
import Derived.LaidHandle
import Derived.Lib.LaidTab
import Derived.Stop.LaidErr
import Derived.MakeChecks
import Derived.Test.YtlfhhkdjahcglaaGreatDoorLgM2x22d9
/- The laws of the client's chapter: their town, habit, tape. -/
namespace Go.Proofs.D
open Go.Lg Go.Sha Go.Hd Go.Cv
open Go.Proofs.C (Hop hopP hopB parse pathE encB tp word TIn Nd ndc St stc TownOk HostOf IsHost wayR mayP TownOk belowR WayIn LooseOf HomeOf NodesIn)
set_option maxRecDepth 100000
def townW : List UInt8 := [116, 111, 119, 110]
def tapeW : List UInt8 := [116, 97, 112, 101]
def pr25 (i : Nat) : List UInt8 := privR townW i
def pt25 (i : Nat) : List UInt8 := (publicR (pr25 i)).1
def h25 : List Nd := [(0, pt25 0), (1, pt25 1)]
def m25 : List (List Nd) := [[(2, pt25 2), (3, pt25 3)]]
def s25 : List St := [(3, 0), (4, 1)]
theorem pr25_len (i : Nat) : (pr25 i).length = 32 := derive_len _ _ _
theorem pt25_on (i : Nat) : OnB (pt25 i) := by unfold pt25; rw [publicR_eq (pr25_len i)]; exact onB_9.x _
theorem pt25_len (i : Nat) : (pt25 i).length = 32 := (pt25_on i).1
theorem ok25 : TownOk (h25 :: m25) s25 := by
 have hp := pt25_len
 refine ⟨⟨by decide, by decide, ?_⟩, ⟨?_, by decide⟩, ⟨?_, by decide⟩⟩
 ·intro l hl
  simp only [m25, List.mem_cons, List.mem_nil_iff, or_false] at hl
  rcases hl with rfl | rfl
  ·exact List.cons_ne_nil _ _
  ·exact List.cons_ne_nil _ _
 ·intro x hx
  simp only [C.lay, h25, m25, List.zipIdx, List.flatMap_cons, List.flatMap_nil, List.map_cons, List.map_nil, List.append_nil, List.cons_append, List.nil_append, List.mem_cons, List.mem_nil_iff, or_false] at hx
  rcases hx with rfl | rfl | rfl | rfl
  ·exact ⟨by decide, by decide, hp 0⟩
  ·exact ⟨by decide, by decide, hp 1⟩
  ·exact ⟨by decide, by decide, hp 2⟩
  ·exact ⟨by decide, by decide, hp 3⟩
 ·intro s hs
  simp only [s25, List.mem_cons, List.mem_nil_iff, or_false] at hs
  rcases hs with rfl | rfl
  ·exact ⟨⟨(0, (0, pt25 0)), rfl, by decide⟩, by decide, by decide⟩
  ·exact ⟨⟨(0, (1, pt25 1)), rfl, by decide⟩, by decide, by decide⟩
theorem on25 : OnT h25 m25 := by
 intro x hx
 simp only [C.lay, h25, m25, List.zipIdx, List.flatMap_cons, List.flatMap_nil, List.map_cons, List.map_nil, List.append_nil, List.cons_append, List.nil_append, List.mem_cons, List.mem_nil_iff, or_false] at hx
 rcases hx with rfl | rfl | rfl | rfl
 ·exact pt25_on 0
 ·exact pt25_on 1
 ·exact pt25_on 2
 ·exact pt25_on 3
theorem host3 : HostOf (h25 :: m25) s25 3 (0, pt25 0) 0 := .inl ⟨ok25, .inl ⟨(3, 0), 0, rfl, rfl, by decide, rfl⟩⟩
theorem host4 : HostOf (h25 :: m25) s25 4 (1, pt25 1) 0 := .inl ⟨ok25, .inl ⟨(4, 1), 0, rfl, rfl, by decide, rfl⟩⟩
/-- The client of the laws, of any means and tape. -/
def c25 (mn : List Int) (s : List UInt8) : Ck :=
 { p := 0, px := 0, pj := 0, pl := 0, user := 3, key := pr25 9, h0 := h25, ms := m25, ss := s25, hv := .pointer none, mv := .pointer none, sv := .pointer none, mn := mn, mean := 1, most := 5, wd := 20, dl := 20, th := 1, s := s, a := (0, pt25 0) }
def mn25 : List Int := [1, 2, 2, 3]
def tp25 (seed : List UInt8) (n : Nat) : List UInt8 := derive seed tapeW n
theorem mayP_of {most m : Int} (h0 : 0 ≤ most) (h1 : most ≤ 4096) (h2 : 0 ≤ m) (h3 : m ≤ 4096) : mayP most [m] := ⟨h0, h1, fun x hx => by rw [List.mem_singleton.1 hx]; exact ⟨h2, h3⟩⟩
theorem hb25 {S : Ents} {mn : List Int} {s : List UInt8} {hv mv sv : Value} (hks : KsIn S) (hT : TIn S hv mv sv h25 m25 s25) (hm : ∀ i, mayP 255 [mn.getD i 0]) (hs : s.length ≤ 8000) : HbOk S (c25 mn s) hv mv sv :=
 { ks := hks, town := hT, ok := ok25, on := on25, host := host3, user := (by show (3 : Nat) < 64; decide), key := pr25_len 9, mn := hm, may := (show mayP 5 [1] from mayP_of (by decide) (by decide) (by decide) (by decide)), lp := (show lpP 20 20 1 from ⟨by decide, by decide, by decide, by decide, by decide, by decide⟩), sl := hs }
theorem getD_all {p : Int → Prop} : ∀ {l : List Int}, p 0 → (∀ x ∈ l, p x) → ∀ i, p (l.getD i 0)
 | [], h0, _, _ => by simpa using h0
 | x :: l, _, h, 0 => h x (.head _)
 | x :: l, h0, h, i + 1 => getD_all (l := l) h0 (fun y hy => h y (.tail _ hy)) i
attribute [local irreducible] derive hmac publicR
section
variable {B : Nat} {S R : Ents} {Q : Value → Ents → Prop}
theorem private25C {i : Nat} (hks : KsIn S) (hi : i < 100) (H : Q (.string (str (pr25 i))) S) : CallWp Tryz.prog B 23 #[.int .i64 (i : Int)] Q S := by
 refine CallWp.dropRet ?_
 refine CallWp.enter (args := [_]) Tryz.func23 rfl Tryz.ntmps23 rfl ?_
 refine Wp.seq (Wp.region ?_)
 refine OWp.evs 1 rfl ?_
 refine OWp.nil ?_
 refine Wp.seq (Wp.region ?_)
 refine OWp.evs 3 rfl ?_
 refine OWp.step rfl (Step.buildSlice rfl rfl rfl ?_); intro L hBL hLL
 refine OWp.gives rfl rfl (Gives.bytesToStr (l := [UInt8.ofNat (48 + i)]) (k := 1) rfl rfl rfl rfl rfl (one_byte2 (by rw [i64_id (by omega) (by omega)]; exact u8c _ _ (by omega)))) (fun _ h => h) ?_
 refine OWp.g rfl rfl (Gives.addStr rfl rfl rfl (by simp only [List.length_cons, List.length_nil]; omega)) ?_
 refine OWp.step rfl (Step.call rfl rfl rfl rfl rfl rfl ((deriveC (secret := townW) (label := [112, 114, 105, 118, 97, 116, 101, UInt8.ofNat (48 + i)]) hks.cons (by decide) (by decide) (by simp [big]) ?_)))
 refine OWp.evs 5 rfl ?_
 refine OWp.nil ?_
 refine Wp.seq (Wp.region ?_)
 refine OWp.evs 2 rfl ?_
 refine OWp.nil ?_
 refine Wp.ret ⟨trivial, _, ⟨_, _, rfl, rfl, rfl⟩, ?_⟩
 exact ⟨S, subl, H⟩
theorem point25C {i : Nat} (hks : KsIn S) (hi : i < 100) (H : Q (.string (str (pt25 i))) S) : CallWp Tryz.prog B 54 #[.int .i64 (i : Int)] Q S := by
 refine CallWp.enter (args := [_]) Tryz.func54 rfl Tryz.ntmps54 rfl ?_
 refine Wp.seq (Wp.region ?_)
 refine OWp.evs 1 rfl ?_
 refine OWp.nil ?_
 refine Wp.seq (Wp.region ?_)
 refine OWp.evs 1 rfl ?_
 refine OWp.step rfl (Step.call rfl rfl rfl rfl rfl rfl ((private25C hks hi ?_)))
 refine OWp.step rfl (Step.call rfl rfl rfl rfl rfl rfl ((publicC ?_)))
 refine OWp.evs 5 rfl ?_
 refine OWp.nil ?_
 refine Wp.seq (Wp.region ?_)
 refine OWp.evs 2 rfl ?_
 refine OWp.nil ?_
 refine Wp.ret ⟨trivial, _, ⟨_, _, rfl, rfl, rfl⟩, ?_⟩
 exact H
theorem town25C (hks : KsIn S) (H : ∀ hv mv sv W, TIn W hv mv sv h25 m25 s25 → Q (.agg #[hv, mv, sv]) (W ++ S)) : CallWp Tryz.prog B 24 #[] Q S := by
 refine CallWp.dropRet ?_
 refine CallWp.enter (args := []) Tryz.func24 rfl Tryz.ntmps24 rfl ?_
 refine Wp.seq (Wp.region ?_)
 refine OWp.step rfl (Step.alloc rfl rfl rfl ?_); intro L0 hBL0 hLL0
 refine OWp.nil ?_
 refine Wp.seq (Wp.region ?_)
 refine OWp.step rfl (Step.call rfl rfl rfl rfl rfl rfl ((point25C (i := 0) hks.cons (by decide) ?_)))
 refine OWp.g rfl rfl (Gives.build rfl rfl) ?_
 refine OWp.step rfl (Step.call rfl rfl rfl rfl rfl rfl ((point25C (i := 1) hks.cons (by decide) ?_)))
 refine OWp.g rfl rfl (Gives.build rfl rfl) ?_
 refine OWp.step rfl (Step.buildSlice rfl rfl rfl ?_); intro L5 hBL5 hLL5
 refine OWp.step rfl (Step.call rfl rfl rfl rfl rfl rfl ((point25C (i := 2) hks.cons.cons (by decide) ?_)))
 refine OWp.g rfl rfl (Gives.build rfl rfl) ?_
 refine OWp.step rfl (Step.call rfl rfl rfl rfl rfl rfl ((point25C (i := 3) hks.cons.cons (by decide) ?_)))
 refine OWp.g rfl rfl (Gives.build rfl rfl) ?_
 refine OWp.step rfl (Step.buildSlice rfl rfl rfl ?_); intro L10 hBL10 hLL10
 refine OWp.step rfl (Step.buildSlice rfl rfl rfl ?_); intro L11 hBL11 hLL11
 refine OWp.g rfl rfl (Gives.build rfl rfl) ?_
 refine OWp.g rfl rfl (Gives.build rfl rfl) ?_
 refine OWp.step rfl (Step.buildSlice rfl rfl rfl ?_); intro L14 hBL14 hLL14
 refine OWp.g rfl rfl (Gives.build rfl rfl) ?_
 refine OWp.step rfl (Step.storeAs 4 ([.slice (some ⟨L5, 0, none⟩) 2 2, .slice (some ⟨L11, 0, none⟩) 1 1, .slice (some ⟨L14, 0, none⟩) 2 2]) rfl rfl rfl rfl rfl hBL0 rfl (Unfz.zero _) rfl (Nat.le_of_ble_eq_true rfl) rfl rfl ?_)
 refine OWp.focus 4 rfl ?_
 refine OWp.nil ?_
 refine Wp.ret ⟨trivial, _, ⟨_, _, _, _, rfl, rfl, ⟨_, _, _, mems, (by first | assumption | rfl)⟩, rfl⟩, ?_⟩
 refine ⟨[(L14, cel (s25.flatMap stc) 137), (L11, cel [.slice (some ⟨L10, 0, none⟩) 2 2] 24), (L10, cel [.int .i64 2, .string (str (pt25 2)), .int .i64 3, .string (str (pt25 3))] 135), (L5, cel (h25.flatMap ndc) 135)] ++ S, .cons _ (.refl _), H _ _ _ _ ⟨[.slice (some ⟨L10, 0, none⟩) 2 2], Reads.row (k := 1) (sz := 1) (.tail _ (.head _)) (Nat.le_refl 1), rfl, ⟨rfl, ?_⟩, (show 1 ≤ C.lim by decide), Reads.row (k := 2) (sz := 2) (.head _) (Nat.le_refl 4), by decide⟩⟩
 intro j v l h1 h2
 rcases j with _ | _ | j
 ·cases h1; cases h2
  exact ⟨Reads.row (k := 2) (sz := 2) (l := h25.flatMap ndc) (.tail _ (.tail _ (.tail _ (.head _)))) (Nat.le_refl 4), by decide⟩
 ·cases h1; cases h2
  exact ⟨Reads.row (k := 2) (sz := 2) (l := [.int .i64 2, .string (str (pt25 2)), .int .i64 3, .string (str (pt25 3))]) (.tail _ (.tail _ (.head _))) (Nat.le_refl 4), by decide⟩
 ·cases h1
theorem deriveEqC {secret label : List UInt8} {m : Nat} {z : Int} (hz : z = (m : Int)) (hk : KsIn S) (hn : m ≤ 8160) (h1 : secret.length + 1000 ≤ big) (h2 : label.length + 2000 ≤ big) (H : Q (.tuple #[.string (str (derive secret label m)), .int .i64 0]) S) : CallWp Tryz.prog B 25 #[.string (str secret), .string (str label), .int .i64 z] Q S := by
 subst hz; exact deriveC hk hn h1 h2 H
theorem tape25C {seed : List UInt8} {n : Nat} (hks : KsIn S) (hs : seed.length + 1000 ≤ big) (hn : n ≤ 8000) (H : Q (.string (str (tp25 seed n))) S) : CallWp Tryz.prog B 8 #[.string (str seed), .int .i64 (n : Int)] Q S := by
 refine CallWp.enter (args := [_, _]) Tryz.func8 rfl Tryz.ntmps8 rfl ?_
 refine Wp.seq (Wp.region ?_)
 refine OWp.evs 1 rfl ?_
 refine OWp.nil ?_
 refine Wp.seq (Wp.region ?_)
 refine OWp.evs 3 rfl ?_
 refine OWp.step rfl (Step.call rfl rfl rfl rfl rfl rfl ((deriveEqC (m := n) (by split <;> omega) hks (by omega) hs (by decide) ?_)))
 refine OWp.evs 5 rfl ?_
 refine OWp.nil ?_
 refine Wp.seq (Wp.region ?_)
 refine OWp.evs 2 rfl ?_
 refine OWp.nil ?_
 refine Wp.ret ⟨trivial, _, ⟨_, _, rfl, rfl, rfl⟩, ?_⟩
 exact H
theorem habit25C {s : List UInt8} (hks : KsIn S) (H : ∀ hv mv sv W, TIn W hv mv sv h25 m25 s25 → Q (.agg (hbc (c25 mn25 s) hv mv sv).toArray) (W ++ S)) : CallWp Tryz.prog B 7 #[.string (str s)] Q S := by
 refine CallWp.dropRet ?_
 refine CallWp.enter (args := [_]) Tryz.func7 rfl Tryz.ntmps7 rfl ?_
 refine Wp.seq (Wp.region ?_)
 refine OWp.step rfl (Step.alloc rfl rfl rfl ?_); intro L2 hBL2 hLL2
 refine OWp.nil ?_
 refine Wp.seq (Wp.region ?_)
 refine OWp.step rfl (Step.call rfl rfl rfl rfl rfl rfl ((private25C (i := 9) hks.cons (by decide) ?_)))
 refine OWp.step rfl (Step.call rfl rfl rfl rfl rfl rfl ((town25C hks.cons ?_)))
 intro hv mv sv W hT
 obtain ⟨a1, c1, a2, c2, a3, c3, rfl, rfl, rfl⟩ := hT.forms
 refine OWp.permS (List.perm_middle) ?_
 refine OWp.g rfl rfl (Gives.build rfl rfl) ?_
 refine OWp.g rfl rfl (Gives.build rfl rfl) ?_
 refine OWp.evs 1 rfl ?_
 refine OWp.g rfl rfl (Gives.build rfl rfl) ?_
 refine OWp.step rfl (Step.storeAs 0 (hbc (c25 mn25 s) (.slice a1 h25.length c1) (.slice a2 m25.length c2) (.slice a3 s25.length c3)) rfl rfl rfl rfl rfl hBL2 rfl (Unfz.zero _) rfl (Nat.le_of_ble_eq_true rfl) rfl rfl ?_)
 refine OWp.nil ?_
 refine Wp.ret ⟨trivial, _, ⟨_, _, _, _, rfl, rfl, ⟨_, _, _, mems, (by first | assumption | rfl)⟩, rfl⟩, ?_⟩
 exact ⟨W ++ S, subl, H _ _ _ W hT⟩
theorem among25C {x : Int} {m : Nat} (hm : 0 < m) (hl : m ≤ 2147483648) (h : Q (.int .i64 (x % (m : Int))) S) : CallWp Tryz.prog B 10 #[.int .i64 x, .int .i64 (m : Int)] Q S := by
 refine CallWp.enter (args := [_, _]) Tryz.func10 rfl Tryz.ntmps10 rfl ?_
 refine Wp.seq (Wp.region ?_)
 refine OWp.evs 1 rfl ?_
 refine OWp.nil ?_
 refine Wp.seq (Wp.region ?_)
 refine OWp.evs 2 rfl ?_
 refine OWp.g rfl rfl (Gives.rem rfl rfl rfl (by omega)) ?_
 refine OWp.evs 3 rfl ?_
 refine OWp.g rfl rfl (Gives.rem rfl rfl rfl (by omega)) ?_
 refine OWp.evs 1 rfl ?_
 refine OWp.nil ?_
 refine Wp.ret ⟨trivial, _, ⟨_, _, rfl, rfl, rfl⟩, ?_⟩
 have h1 : -(m : Int) < x.tmod m := by
  rcases Int.le_total 0 x with h0 | h0
  ·have := Int.tmod_nonneg (m : Int) h0; omega
  ·have h3 := Int.tmod_lt_of_pos (-x) (show (0 : Int) < m by omega)
   rw [Int.neg_tmod] at h3; omega
 have h2 : x.tmod m < m := Int.tmod_lt_of_pos x (by omega)
 have e : (IntKind.i64.wrap (x.tmod (m : Int) + (m : Int))).tmod (m : Int) = x % (m : Int) := by
  rw [i64_id (by omega) (by omega)]
  rw [Int.tmod_eq_emod_of_nonneg (by omega), Int.add_emod_right]
  rw [Int.tmod_def, Int.sub_mul_emod_self_left]
 exact (congrArg (fun z => Q (.int .i64 z) S) e).mpr h
end
end Go.Proofs.D

/- What a tick sends: how long, of which kinds. -/
namespace Go.Proofs.D
open Go.Lg Go.Sha Go.Hd Go.Cv
open Go.Proofs.C (Hop hopP hopB parse pathE encB tp word TIn Nd ndc St stc TownOk HostOf IsHost wayR mayP TownOk belowR WayIn LooseOf HomeOf NodesIn)
open Go.Cl (first firstOf needs)
set_option maxRecDepth 100000
def kLen (kind : Nat) : Nat := if kind = 3 then 38 else 505
theorem pkB_len {seed txt : List UInt8} {w : WayV} (h : (packR seed w.1 txt w.2.1).1.length = 504) : (pkB seed txt w).length = 505 := by unfold pkB packB; rw [List.length_cons, h]
attribute [local irreducible] wayR packR hmac
section
variable {B : Nat} {S R : Ents} {c : Ck}
theorem doT_len {x : Cs} {kind : Nat} (ho : CkOk B R c) (hq : ∀ p ∈ x.q, PartOk c p) (h4 : kind < 4) (hk : x.k + needs c.w kind ≤ c.s.length) : (doT c x kind).length = kLen kind := by
 rcases (show kind = 0 ∨ kind = 1 ∨ kind = 2 ∨ kind = 3 by omega) with rfl | rfl | rfl | rfl
 ·have hn : needs c.w 0 = 56 + c.w := rfl
  show (payT c x.k x.q).length = 505
  cases hx : x.q with
  | nil => exact pkB_len (way_pk (s := c.s) (seed := seedAt c.s x.k) (txt := []) (k := x.k + 52) (h := dropH) ho.ok ho.on (IsHost.ofHost ho.host) (hostNd_is (h0_pos ho)) ho.may (.inr (.inr (.inr ⟨rfl, rfl, rfl, rfl, rfl⟩))) (by decide) (seedAt_len (by omega)) (by decide) (by show x.k + 52 + c.w ≤ _; omega)).2
  | cons p r =>
   obtain ⟨⟨b, hb⟩, x1, x2, x3⟩ := hq p (by rw [hx]; exact .head _)
   have e := (way_pk (s := c.s) (seed := seedAt c.s x.k) (txt := p.2) (k := x.k + 52) (h := homeH p.1 (idAt c.s x.k)) ho.ok ho.on (IsHost.ofHost ho.host) (IsHost.ofHost hb) ho.may (.inr (.inl ⟨rfl, x1, by show p.1 ≤ 63; omega, Int.le_refl 0, by show (0 : Int) ≤ 4096; decide, rfl, idAt_len (by omega)⟩)) (show (2 : Int) ≠ 1 by decide) (seedAt_len (by omega)) x3 (by show x.k + 52 + c.w ≤ _; omega)).2
   show (pkB (seedAt c.s x.k) p.2 (wayR c.s (x.k + 52) c.a (hostU (c.h0 :: c.ms) c.ss p.1) c.ms (homeH p.1 (idAt c.s x.k)) c.mean c.most)).length = 505
   rw [hostU_is hb]
   exact pkB_len e
 ·have hn : needs c.w 1 = 40 + c.w := rfl
  exact pkB_len (way_pk (s := c.s) (seed := seedAt c.s x.k) (txt := []) (k := x.k + 36) (h := dropH) ho.ok ho.on (IsHost.ofHost ho.host) (hostNd_is (h0_pos ho)) ho.may (.inr (.inr (.inr ⟨rfl, rfl, rfl, rfl, rfl⟩))) (by decide) (seedAt_len (by omega)) (by decide) (by show x.k + 36 + c.w ≤ _; omega)).2
 ·have hn : needs c.w 2 = 52 + c.w := rfl
  have hh := ho.user
  exact pkB_len (way_pk (s := c.s) (seed := seedAt c.s x.k) (txt := []) (k := x.k + 48) (h := homeH c.user (idAt c.s x.k)) ho.ok ho.on (IsHost.ofHost ho.host) (IsHost.ofHost ho.host) ho.may (.inr (.inl ⟨rfl, Int.natCast_nonneg _, by show (c.user : Int) ≤ 63; omega, Int.le_refl 0, by show (0 : Int) ≤ 4096; decide, rfl, idAt_len (by omega)⟩)) (show (2 : Int) ≠ 1 by decide) (seedAt_len (by omega)) (by decide) (by show x.k + 48 + c.w ≤ _; omega)).2
 ·exact pullB_len (hmac_len _ _)
theorem runT_all {to m : Nat} (ho : CkOk B R c) (ht : to ≤ 1099511627776) : ∀ (f : Nat) (x : Cs), CsOk c x → (∀ i, i < 4 → m ≤ x.nx.getD i 0) → ∀ y ∈ (runT c to f x).1, m ≤ y.1 ∧ y.1 ≤ to ∧ y.2.1 < 4 ∧ y.2.2.length = kLen y.2.1
 | 0, _, _, _, _, h => nomatch h
 | f + 1, x, hx, hm, y, hy => by
  rw [runT] at hy
  split at hy
  ·cases hy
  ·rename_i h1
   split at hy
   ·cases hy
   ·rename_i h2
    have hp := Cl.needs_pos c.w (first x.nx)
    have hf : first x.nx < 4 := by have := Cl.first_lt (nx := x.nx) (by rw [hx.nx]; decide); rwa [hx.nx] at this
    have hk := hx.k
    have hat : atN x ≤ to := by
     rcases Nat.lt_or_ge to (atN x) with h3 | h3
     ·exact absurd (.inr h3) h1
     ·exact h3
    rcases List.mem_cons.1 hy with rfl | hy
    ·exact ⟨hm _ hf, hat, hf, doT_len ho hx.q hf (by omega)⟩
    ·refine runT_all ho ht f (nextS c x) (hx.next ht h1 h2) ?_ y hy
     intro i hi
     unfold nextS
     simp only
     rw [List.getD_eq_getElem?_getD, List.getElem?_set]
     have h5 : m ≤ atN x := hm _ hf
     by_cases e : first x.nx = i
     ·subst e
      rw [if_pos rfl, if_pos (by rw [hx.nx]; exact hf)]
      show m ≤ atN x + _
      omega
     ·rw [if_neg e, ← List.getD_eq_getElem?_getD]
      exact hm i hi
theorem runT_many {to : Nat} : ∀ (f : Nat) (x : Cs), x.q.length + x.k ≤ (runT c to f x).2.q.length + (runT c to f x).2.k
 | 0, _ => Nat.le_refl _
 | f + 1, x => by
  rw [runT]
  split
  ·exact Nat.le_refl _
  ·split
   ·exact Nat.le_refl _
   ·have ih := runT_many (to := to) f (nextS c x)
    have hp := Cl.needs_pos c.w (first x.nx)
    have e : x.q.length + x.k ≤ (nextS c x).q.length + (nextS c x).k := by
     unfold nextS qA
     simp only
     split
     ·rw [List.length_tail]; omega
     ·omega
    exact Nat.le_trans e ih
theorem nx_one {i : Nat} (hs : ¬ c.s.length < 16) (h : i < 4) : 1 ≤ (newCs c).nx.getD i 0 := by
 unfold newCs
 rw [if_neg hs]
 rcases i with _ | _ | _ | _ | _
 ·show 1 ≤ waitN c 0 0; unfold waitN; omega
 ·show 1 ≤ waitN c 1 4; unfold waitN; omega
 ·show 1 ≤ waitN c 2 8; unfold waitN; omega
 ·show 1 ≤ waitN c 3 12; unfold waitN; omega
 ·omega
end
/-- The example: there is a pull at the first tick. -/
def mnX : List Int := [255, 255, 255, 0]
def xTape : List UInt8 := tp25 [120] 400
def xRun : List (Nat × Nat) × Cl.Ct := Cl.run 400 12 (waitN (c25 mnX xTape)) 1 401 ⟨16, nxs (c25 mnX xTape) 4, false⟩
end Go.Proofs.D

/- The laws of the client's chapter: the works, what is submitted. -/
namespace Go.Proofs.D
open Go.Lg Go.Sha Go.Hd Go.Cv
open Go.Proofs.C (Hop hopP hopB parse pathE encB tp word TIn Nd ndc St stc TownOk HostOf IsHost wayR mayP TownOk belowR WayIn LooseOf HomeOf NodesIn)
open Go.Cl (first firstOf needs)
set_option maxRecDepth 1000000
theorem xrun_has : (xRun.1.any fun y => y == (1, 3)) = true := by decide +kernel
set_option maxRecDepth 100000
theorem rdStr25 {S : Ents} {t : ByteArray} (h : Rd Tryz.prog S 9 [.string t]) : ∃ s : List UInt8, t = str s ∧ s.length + 5000 ≤ big := by
 obtain ⟨l, hl, hw⟩ := h.open_str Tryz.underlying9
 cases hl
 exact ⟨l, rfl, by unfold reachBytes at hw; unfold big; omega⟩
abbrev Say := Int × Int × Bool
def sayc (x : Say) : List Value := [.int .i64 x.1, .int .i64 x.2.1, .bool x.2.2]
theorem say_flat (l : List Say) : ∀ x ∈ l, (sayc x).length = 3 := fun _ _ => rfl
theorem rdSay {S : Ents} {v : Value} (h : Rd Tryz.prog S 22 [v]) : ∃ l : List Say, Reads S 3 v l.length (l.flatMap sayc) ∧ l.length ≤ 1099511627776000 := by
 obtain ⟨l, hr, hw, _, _⟩ := h.rows (f := sayc) (p := fun _ => True) Tryz.underlying22 (sz := 3) rfl (fun r hr => by
  obtain ⟨hl, hf⟩ := hr.open_struct Tryz.underlying107
  have h3 : r.length = 3 := hl
  match r, h3 with
  | [a, b, d], _ =>
   obtain ⟨n1, e1, _⟩ := (hf _ (.head _)).open_int (cs := [a]) Tryz.underlying3
   obtain ⟨n2, e2, _⟩ := (hf _ (.tail _ (.head _))).open_int (cs := [b]) Tryz.underlying3
   obtain ⟨n3, e3⟩ := (hf _ (.tail _ (.tail _ (.head _)))).open_bool (cs := [d]) Tryz.underlying4
   cases e1; cases e2; cases e3
   exact ⟨(n1, n2, n3), rfl, trivial⟩)
 refine ⟨l, hr, ?_⟩
 have : l.length * 24 ≤ reachBytes := hw
 unfold reachBytes at this; omega
theorem zeros_read {L n : Nat} {S : Ents} (h : (L, cel (zeros (cellsOf (Value.int .u8 0)) n) 5) ∈ S) : Reads S 1 (.slice (some ⟨L, 0, none⟩) n n) n (byteCells (List.replicate n 0)) := by
 have e : ∀ n, zeros (cellsOf (Value.int .u8 0)) n = byteCells (List.replicate n 0) := by
  intro n
  induction n with
  | zero => rfl
  | succ n ih => rw [List.replicate_succ]; show Value.int .u8 0 :: zeros _ n = _; rw [ih]; rfl
 rw [e] at h
 have hl : (byteCells (List.replicate n 0)).length = n := by rw [byteCells_length, List.length_replicate]
 have := Reads.row (k := n) (sz := 1) (cap := n) (l := byteCells (List.replicate n 0)) h (by omega)
 rwa [Nat.mul_one, List.take_of_length_le (by omega)] at this
attribute [local irreducible] derive hmac publicR partsB sha
section
variable {B : Nat} {S R : Ents} {Q : Value → Ents → Prop} {c : Ck}
theorem cdryC {x : Cs} {now : Int} {many : Nat} {W : Ents} (hW : CliIn B c x now many W) (hs : ∀ y ∈ W, y ∈ S) (H : Q (.bool x.dry) S) : CallWp Tryz.prog B 13 #[pt c.p] Q S := by
 obtain ⟨qv, qes, lv, les, rfl, _, _⟩ := hW
 refine CallWp.enter (args := [_]) Tryz.func13 rfl Tryz.ntmps13 rfl ?_
 refine Wp.seq (Wp.region ?_)
 refine OWp.evs 1 rfl ?_
 refine OWp.nil ?_
 refine Wp.seq (Wp.region ?_)
 refine OWp.evs 3 rfl ?_
 refine OWp.load (hs _ (.head _)) rfl rfl rfl rfl rfl ?_
 refine OWp.evs 1 rfl ?_
 refine OWp.nil ?_
 refine Wp.ret ⟨trivial, _, ⟨_, _, rfl, rfl, rfl⟩, ?_⟩
 exact H
theorem cnowC {x : Cs} {now : Int} {many : Nat} {W : Ents} (hW : CliIn B c x now many W) (hs : ∀ y ∈ W, y ∈ S) (H : Q (.int .i64 now) S) : CallWp Tryz.prog B 22 #[pt c.p] Q S := by
 obtain ⟨qv, qes, lv, les, rfl, _, _⟩ := hW
 refine CallWp.enter (args := [_]) Tryz.func22 rfl Tryz.ntmps22 rfl ?_
 refine Wp.seq (Wp.region ?_)
 refine OWp.evs 1 rfl ?_
 refine OWp.nil ?_
 refine Wp.seq (Wp.region ?_)
 refine OWp.evs 3 rfl ?_
 refine OWp.load (hs _ (.head _)) rfl rfl rfl rfl rfl ?_
 refine OWp.evs 1 rfl ?_
 refine OWp.nil ?_
 refine Wp.ret ⟨trivial, _, ⟨_, _, rfl, rfl, rfl⟩, ?_⟩
 exact H
/-- A message is submitted, or there is no room. -/
theorem csubW {x : Cs} {now to : Int} {many : Nat} {W : Ents} {b : Nd} {body : List UInt8} (ho : CkOk B R c) (hR : ∀ y ∈ R, y ∈ S) (hx : CsOk c x) (hmq : many ≤ x.q.length + x.k) (hW : CliIn B c x now many W) (hb : HostOf (c.h0 :: c.ms) c.ss to b 0) (h0 : 0 ≤ to) (h1 : to < 64) (hbl : body.length ≤ 2048)
  (H : ∀ v q' many' W', (∃ ps, q' = x.q ++ ps ∧ ∀ p ∈ ps, 16 ≤ p.2.length) → CsOk c { x with q := q' } → many' ≤ q'.length + x.k → CliIn B c { x with q := q' } now many' W' → Q v (W' ++ S)) :
  CallWp Tryz.prog B 38 #[pt c.p, .int .i64 to, .string (str body)] Q (W ++ S) := by
 obtain ⟨qv, qes, lv, les, rfl, hq, hl⟩ := hW
 have hpn : 1 ≤ partN body ∧ partN body ≤ 11 := by unfold partN; omega
 have hk := hx.k
 have hsl := ho.sl
 have hql := hx.ql
 have e0 : ∀ (qv : Value) (qes : Ents) (many : Nat), (cle c qv x.nx now many x.seq x.dry :: tp c.px c.s x.k :: (qes ++ (lde c x.lnow lv :: les))) ++ S = cle c qv x.nx now many x.seq x.dry :: tp c.px c.s x.k :: (qes ++ (lde c x.lnow lv :: (les ++ S))) := fun _ _ _ => by simp
 rw [e0]
 have pm : ∀ (qv : Value) (qes : Ents) (many : Nat), List.Perm (cle c qv x.nx now many x.seq x.dry :: tp c.px c.s x.k :: (qes ++ (lde c x.lnow lv :: (les ++ S)))) (cle c qv x.nx now many x.seq x.dry :: (qes ++ (tp c.px c.s x.k :: lde c x.lnow lv :: (les ++ S)))) := fun qv qes many => permBy [[cle c qv x.nx now many x.seq x.dry], [tp c.px c.s x.k], qes] (lde c x.lnow lv :: (les ++ S)) [0, 1, 2] [0, 2, 1] (by decide)
 refine CallWp.permS (pm qv qes many) (C.subRet (csubmitC (S := tp c.px c.s x.k :: lde c x.lnow lv :: (les ++ S)) ho (fun y hy => .tail _ (.tail _ (List.mem_append_right _ (hR y hy)))) hq hb hbl hql (by omega) ?_ ?_))
 ·intro _
  have h := H (.tuple #[.string (str []), .int .i64 180]) x.q many _ ⟨[], by simp, by simp⟩ hx hmq ⟨qv, qes, lv, les, rfl, hq, hl⟩
  exact ⟨_, _, (pm qv qes many).symm, .refl _, by rw [← e0]; exact h⟩
 ·intro hle qv' qes' hq'
  have hP := subP_ok (c := c) (many := many) (body := body) hb h0 h1
  have hlen : (x.q ++ subP c many to body).length = x.q.length + partN body := by rw [List.length_append, subP_len]
  have hx' : CsOk c { x with q := x.q ++ subP c many to body } := { hx with q := fun p hp => (List.mem_append.1 hp).elim (hx.q p) (fun h => (hP p h).1), ql := by rw [hlen]; exact hle }
  have h := H (.tuple #[.string (str (subId c many)), .int .i64 0]) (x.q ++ subP c many to body) (many + 1) _ ⟨subP c many to body, rfl, fun p hp => (hP p hp).2⟩ hx' (by rw [hlen]; omega) ⟨qv', qes', lv, les, rfl, hq', hl⟩
  exact ⟨_, _, (pm qv' qes' (many + 1)).symm, .refl _, by rw [← e0]; exact h⟩
set_option maxHeartbeats 4000000 in
/-- All that is said up to a tick. -/
theorem sub25C {x : Cs} {now : Int} {many frm at_ t : Nat} {W : Ents} {lv : Value} {l : List Say} (ho : CkOk B R c) (hR : ∀ y ∈ R, y ∈ S) (hh : c.h0 = h25 ∧ c.ms = m25 ∧ c.ss = s25) (hx : CsOk c x) (hmq : many ≤ x.q.length + x.k) (hW : CliIn B c x now many W) (hlr : Reads S 3 lv l.length (l.flatMap sayc)) (hll : l.length ≤ 1099511627776000) (ht : t ≤ 1000) (hf : frm ≤ l.length) (ha : at_ ≤ 1000)
  (H : ∀ q' many' W' (f a : Nat), (∃ ps, q' = x.q ++ ps ∧ ∀ p ∈ ps, 16 ≤ p.2.length) → CsOk c { x with q := q' } → many' ≤ q'.length + x.k → CliIn B c { x with q := q' } now many' W' → f ≤ l.length → a ≤ 1000 → Q (.tuple #[.int .i64 (f : Int), .int .i64 (a : Int)]) (W' ++ S)) :
  CallWp Tryz.prog B 11 #[pt c.p, lv, .int .i64 (frm : Int), .int .i64 (at_ : Int), .int .i64 (t : Int)] Q (W ++ S) := by
 obtain ⟨la, lc, rfl⟩ := hlr.form
 have hb3 : HostOf (c.h0 :: c.ms) c.ss 3 (0, pt25 0) 0 := by rw [hh.1, hh.2.1, hh.2.2]; exact host3
 have hb4 : HostOf (c.h0 :: c.ms) c.ss 4 (1, pt25 1) 0 := by rw [hh.1, hh.2.1, hh.2.2]; exact host4
 refine CallWp.enter (args := [_, _, _, _, _]) Tryz.func11 rfl Tryz.ntmps11 rfl ?_
 refine Wp.seq (Wp.region ?_)
 refine OWp.evs 2 rfl ?_
 refine OWp.nil ?_
 refine Wp.seq ?_
 refine Wp.block ?_
 refine Wp.loopS (α := Nat × Nat × List Nd × Nat × Ents) (fun z => l.length - z.1) (fun z => [(0, pt c.p), (1, .slice la l.length lc), (2, .int .i64 (z.1 : Int)), (3, .int .i64 (z.2.1 : Int)), (4, .int .i64 (t : Int))]) (fun z => z.2.2.2.2 ++ S) (fun z => z.1 ≤ l.length ∧ z.2.1 ≤ 1000 ∧ (∃ ps, z.2.2.1 = x.q ++ ps ∧ ∀ p ∈ ps, 16 ≤ p.2.length) ∧ CsOk c { x with q := z.2.2.1 } ∧ z.2.2.2.1 ≤ z.2.2.1.length + x.k ∧ CliIn B c { x with q := z.2.2.1 } now z.2.2.2.1 z.2.2.2.2) (frm, at_, x.q, many, W) ?_ (.refl _) ⟨hf, ha, ⟨[], by simp, by simp⟩, hx, hmq, hW⟩ ?_
 ·exact .cons rfl (.cons rfl (.cons rfl (.cons rfl (.cons rfl (.nil _)))))
 rintro ⟨f, a, q, m, W1⟩ ⟨hf1, ha1, hps, hx1, hm1, hW1⟩
 simp only at hf1 ha1 hps hx1 hm1 hW1 ⊢
 refine Wp.seq ?_
 refine Wp.seq (Wp.region ?_)
 refine OWp.evs 5 rfl ?_
 refine OWp.part 17 rfl (fun c1 => ?_) (fun c1 => ?_)
 ·have c1 := of_decide_eq_true c1
  have hlt : f < l.length := by omega
  obtain ⟨b, o, cap', l', e, fz, hv, hm', hat⟩ := hlr.elem (sz := 3) (say_flat l) (by omega)
  obtain ⟨rfl, rfl⟩ : la = some ⟨b, o, none⟩ ∧ lc = cap' := by simpa using hv
  refine OWp.evs 3 rfl ?_
  refine OWp.g rfl rfl (Gives.indexAddrSlice (f) rfl rfl rfl rfl rfl rfl (by omega)) ?_
  refine OWp.evs 1 rfl ?_
  refine OWp.load (List.mem_append_right _ hm') rfl rfl rfl rfl ((partAt_in (m := 0) (hat f hlt) rfl (by decide) (by decide)).trans rfl) ?_
  refine OWp.step rfl (Step.call rfl rfl rfl rfl rfl rfl ((among25C (m := 8) (by decide) (by decide) ?_)))
  obtain ⟨g, hg, hg8⟩ : ∃ g : Nat, l[f].1 % ((8 : Nat) : Int) = (g : Int) ∧ g < 8 := ⟨(l[f].1 % 8).toNat, by omega, by omega⟩
  rw [hg]
  refine OWp.evs 4 rfl ?_
  refine OWp.nil ?_
  refine Wp.cond rfl (fun c2 => ?_) (fun c2 => ?_)
  ·have c2 := of_decide_eq_true c2
   rw [i64_id (by omega) (by omega)] at c2
   refine Wp.skip ?_
   refine Wp.block ?_
   refine Wp.seq (Wp.region ?_)
   refine OWp.evs 3 rfl ?_
   refine OWp.g rfl rfl (Gives.indexAddrSlice (f) rfl rfl rfl rfl rfl rfl (by omega)) ?_
   refine OWp.evs 1 rfl ?_
   refine OWp.load (List.mem_append_right _ hm') rfl rfl rfl rfl ((partAt_in (m := 0) (hat f hlt) rfl (by decide) (by decide)).trans rfl) ?_
   refine OWp.step rfl (Step.call rfl rfl rfl rfl rfl rfl ((among25C (m := 8) (by decide) (by decide) ?_)))
   rw [hg]
   refine OWp.evs 2 rfl ?_
   refine OWp.nil ?_
   refine Wp.seq (Wp.region ?_)
   refine OWp.evs 1 rfl ?_
   refine OWp.nil ?_
   refine Wp.seqS (α := Int × Nd) (fun y => [(0, pt c.p), (1, .slice (some ⟨b, o, none⟩) l.length lc), (2, .int .i64 (f : Int)), (3, .int .i64 ((a + g : Nat) : Int)), (4, .int .i64 (t : Int)), (12, .int .i64 y.1)]) (fun _ => W1 ++ S) (fun y => HostOf (c.h0 :: c.ms) c.ss y.1 y.2 0 ∧ 0 ≤ y.1 ∧ y.1 < 64) ?_ ?_
   ·skip
    refine Wp.seq (Wp.region ?_)
    refine OWp.evs 2 rfl ?_
    refine OWp.g rfl rfl (Gives.indexAddrSlice (f) rfl rfl rfl rfl rfl rfl (by omega)) ?_
    refine OWp.evs 1 rfl ?_
    refine OWp.load (List.mem_append_right _ hm') rfl rfl rfl rfl ((partAt_in (m := 2) (hat f hlt) rfl (by decide) (by decide)).trans rfl) ?_
    cases l[f].2.2
    ·skip
     refine OWp.nil ?_
     refine Wp.cond rfl (fun c => nomatch c) (fun _ => ?_)
     refine Wp.skip ?_
     exact ⟨(3, (0, pt25 0)), ⟨hb3, by decide, by decide⟩, .cons rfl (.cons rfl (.cons rfl (.cons' rfl (int_eq (by rw [i64_id] <;> omega)) (.cons rfl (.cons rfl (.nil _)))))), .refl _⟩
    refine OWp.nil ?_
    refine Wp.cond rfl (fun _ => ?_) (fun c => nomatch c)
    refine Wp.region ?_
    refine OWp.evs 1 rfl ?_
    refine OWp.nil ?_
    exact ⟨(4, (1, pt25 1)), ⟨hb4, by decide, by decide⟩, .cons rfl (.cons rfl (.cons rfl (.cons' rfl (int_eq (by rw [i64_id] <;> omega)) (.cons rfl (.cons rfl (.nil _)))))), .refl _⟩
   rintro ⟨to, bn⟩ ⟨hbn, hto0, hto1⟩
   simp only at hbn hto0 hto1 ⊢
   refine Wp.seq (Wp.region ?_)
   refine OWp.evs 4 rfl ?_
   refine OWp.g rfl rfl (Gives.indexAddrSlice (f) rfl rfl rfl rfl rfl rfl (by omega)) ?_
   refine OWp.evs 1 rfl ?_
   refine OWp.load (List.mem_append_right _ hm') rfl rfl rfl rfl ((partAt_in (m := 1) (hat f hlt) rfl (by decide) (by decide)).trans rfl) ?_
   refine OWp.step rfl (Step.call rfl rfl rfl rfl rfl rfl ((among25C (m := 500) (by decide) (by decide) ?_)))
   obtain ⟨n, hn, hn5⟩ : ∃ n : Nat, l[f].2.1 % ((500 : Nat) : Int) = (n : Int) ∧ n < 500 := ⟨(l[f].2.1 % 500).toNat, by omega, by omega⟩
   rw [hn]
   refine OWp.step rfl (Step.makeSlice (len := n) (cap := n) rfl rfl rfl rfl rfl rfl (by decide) rfl rfl (Nat.le_refl _) (by show 1 * n ≤ _; omega) (by omega) ?_)
   intro L50 hB50 hL50
   refine OWp.gives rfl rfl (Gives.bytesToStr (l := List.replicate n 0) (k := n) rfl rfl rfl rfl rfl (zeros_read (.head _))) (fun _ h => h) ?_
   refine OWp.drop (S' := W1 ++ S) (List.sublist_cons_self _ _) ?_
   refine OWp.step rfl (Step.call rfl rfl rfl rfl rfl rfl ((csubW ho hR hx1 hm1 hW1 hbn hto0 hto1 (by rw [List.length_replicate]; omega) ?_)))
   rintro v q2 m2 W2 ⟨ps2, hq2, hps2⟩ hx2 hm2 hW2
   refine OWp.nil ?_
   refine Wp.region ?_
   refine OWp.evs 3 rfl ?_
   refine OWp.nil ?_
   obtain ⟨ps, hq, hps⟩ := hps
   refine ⟨(f + 1, a + g, q2, m2, W2), by simp only; omega, ⟨hlt, by simp only; omega, ⟨ps ++ ps2, by rw [hq2, hq, List.append_assoc], fun p hp => (List.mem_append.1 hp).elim (hps p) (hps2 p)⟩, hx2, hm2, hW2⟩, .cons rfl (.cons rfl (.cons' rfl (int_eq (show IntKind.i64.wrap ((f : Int) + 1) = ((f + 1 : Nat) : Int) by rw [i64_id] <;> omega)) (.cons rfl (.cons rfl (.nil _))))), .refl _⟩
  have c2 := of_decide_eq_false c2
  refine Wp.exit ?_
  refine Wp.seq (Wp.region ?_)
  refine OWp.evs 4 rfl ?_
  refine OWp.nil ?_
  refine Wp.ret ⟨trivial, _, ⟨_, _, rfl, rfl, _, _, rfl, rfl, rfl⟩, ?_⟩
  exact H q m W1 f a hps hx1 hm1 hW1 hf1 ha1
 have c1 := of_decide_eq_false c1
 refine OWp.evs 11 rfl ?_
 refine OWp.nil ?_
 refine Wp.cond rfl (fun c => nomatch c) (fun _ => ?_)
 refine Wp.exit ?_
 refine Wp.seq (Wp.region ?_)
 refine OWp.evs 4 rfl ?_
 refine OWp.nil ?_
 refine Wp.ret ⟨trivial, _, ⟨_, _, rfl, rfl, _, _, rfl, rfl, rfl⟩, ?_⟩
 exact H q m W1 f a hps hx1 hm1 hW1 hf1 ha1
end
end Go.Proofs.D

/- The laws of the client's chapter: the example. -/
namespace Go.Proofs.D
open Go.Lg Go.Sha Go.Hd Go.Cv
open Go.Proofs.C (Hop hopP hopB parse pathE encB tp word TIn Nd ndc St stc TownOk HostOf IsHost wayR mayP TownOk belowR WayIn LooseOf HomeOf NodesIn)
open Go.Cl (first firstOf needs)
set_option maxRecDepth 100000
theorem tp25_len (seed : List UInt8) (n : Nat) : (tp25 seed n).length = n := derive_len _ _ _
theorem xs_new (c : Ck) (h : ¬ c.s.length < 16) : newCs c = ⟨16, nxs c 4, [], [], 0, 0, false⟩ := if_neg h
theorem mnX_may : ∀ i, mayP 255 [mnX.getD i 0] := getD_all (p := fun m => mayP 255 [m]) (mayP_of (by decide) (by decide) (by decide) (by decide)) (fun x hx => by
 simp only [mnX, List.mem_cons, List.mem_nil_iff, or_false] at hx
 rcases hx with rfl | rfl | rfl | rfl <;> exact mayP_of (by decide) (by decide) (by decide) (by decide))
theorem mn25_may : ∀ i, mayP 255 [mn25.getD i 0] := getD_all (p := fun m => mayP 255 [m]) (mayP_of (by decide) (by decide) (by decide) (by decide)) (fun x hx => by
 simp only [mn25, List.mem_cons, List.mem_nil_iff, or_false] at hx
 rcases hx with rfl | rfl | rfl | rfl <;> exact mayP_of (by decide) (by decide) (by decide) (by decide))
theorem outs_small {B : Nat} {v : Value} {outs : List Snt} {es : Ents} (h : Lg.Own B 47 3 v outs.length (outs.flatMap sntc) es) : outs.length ≤ 9223372036854775807 := by
 have hm : maxLen = 9223372036854775807 := rfl
 obtain ⟨_, ⟨_, h, _⟩ | ⟨b, cap, cur, _, _, _, h1, h2, _⟩⟩ := h
 ·omega
 ·omega
theorem snt_at {S : Ents} {v : Value} {l : List Snt} (h : Reads S 3 v l.length (l.flatMap sntc)) (h0 : 0 < l.length) : ∃ b o cap L e fz, v = .slice (some ⟨b, o, none⟩) l.length cap ∧ (b, cel L e fz) ∈ S ∧ ∀ i (h : i < l.length), (L.drop (o + i * 3)).take 3 = sntc l[i] := h.elem (sz := 3) (snt_flat l) h0
attribute [local irreducible] derive hmac publicR partsB sha
section
variable {B : Nat} {S R : Ents} {Q : Value → Ents → Prop} {c : Ck}
set_option maxHeartbeats 4000000 in
theorem works25C (hks : KsIn S) (H : Q (.bool true) S) : CallWp Tryz.prog B 6 #[] Q S := by
 have hxl : xTape.length = 400 := tp25_len _ _
 refine CallWp.dropRet ?_
 refine CallWp.enter (args := []) Tryz.func6 rfl Tryz.ntmps6 rfl ?_
 refine Wp.seq (Wp.region ?_)
 refine OWp.evs 1 rfl ?_
 refine OWp.nil ?_
 refine Wp.seq (Wp.region ?_)
 refine OWp.step rfl (Step.call rfl rfl rfl rfl rfl rfl ((tape25C (seed := [120]) (n := 400) hks (by decide) (by decide) ?_)))
 refine OWp.step rfl (Step.call rfl rfl rfl rfl rfl rfl ((habit25C hks ?_)))
 intro hv mv sv W hT
 obtain ⟨a1, c1, a2, c2, a3, c3, rfl, rfl, rfl⟩ := hT.forms
 refine OWp.step rfl (Step.alloc rfl rfl rfl ?_); intro L1 hBL1 hLL1
 refine OWp.step rfl (Step.storeAs 0 (hbc (c25 mn25 xTape) (.slice a1 h25.length c1) (.slice a2 m25.length c2) (.slice a3 s25.length c3)) rfl rfl rfl rfl rfl (by assumption) rfl (Unfz.zero _) rfl (Nat.le_of_ble_eq_true rfl) rfl rfl ?_)
 refine OWp.nil ?_
 refine Wp.seq (Wp.region ?_)
 refine OWp.g rfl rfl (Gives.build rfl rfl) ?_
 refine OWp.evs 1 rfl ?_
 refine OWp.step rfl (Step.storeAs 0 (hbc (c25 mnX xTape) (.slice a1 h25.length c1) (.slice a2 m25.length c2) (.slice a3 s25.length c3)) rfl rfl rfl rfl rfl (by assumption) rfl (Unfz.zero _) rfl (Nat.le_of_ble_eq_true rfl) rfl rfl ?_)
 refine OWp.nil ?_
 refine Wp.seq (Wp.region ?_)
 refine OWp.load (.head _) rfl rfl rfl rfl rfl ?_
 refine OWp.step rfl (Step.call rfl rfl rfl rfl rfl rfl ((cnewC (c := c25 mnX xTape) (hb25 (KsIn_of hks fun x hx => .tail _ (List.mem_append_right _ hx)) (hT.mono fun x hx => .tail _ (List.mem_append_left _ hx)) mnX_may (by rw [hxl]; decide)) ?_)))
 intro p px pj pl hv' mv' sv' Wc X hck0 hin hpj
 have hck := hck0 ((L1, cel (hbc (c25 mnX xTape) (.slice a1 h25.length c1) (.slice a2 m25.length c2) (.slice a3 s25.length c3)) 33) :: (W ++ S)) (KsIn_of hks fun x hx => .tail _ (List.mem_append_right _ hx))
 obtain ⟨c, hc⟩ : ∃ x, x = (c25 mnX xTape).laid p px pj pl hv' mv' sv' := ⟨_, rfl⟩
 rw [← hc] at hck hin
 have hcs : c.s.length = 400 := by rw [hc]; exact hxl
 have hnew := newCs_ok c (by omega)
 have hnc : newCs (c25 mnX xTape) = newCs c := by rw [hc]; rfl
 rw [hnc] at hin
 have hcp : pt p = pt c.p := by rw [hc]; rfl
 rw [hcp]
 refine OWp.evs 5 rfl ?_
 refine OWp.nil ?_
 refine Wp.seq ?_
 refine Wp.seq (Wp.region ?_)
 refine OWp.evs 3 rfl ?_
 refine OWp.evs 3 rfl ?_
 refine OWp.nil ?_
 refine Wp.cond rfl (fun cc1 => absurd (ndT cc1) (by exact fun h => h rfl)) (fun cc1 => ?_)
 have cc1 := ndF cc1
 refine Wp.skip ?_
 refine Wp.seq (Wp.region ?_)
 refine OWp.evs 1 rfl ?_
 refine OWp.step rfl (Step.call rfl rfl rfl rfl rfl rfl ((tickC (to := 1) hck (fun y hy => .tail _ hy) hnew hin (by decide) (by decide) (by decide) (by decide) ?_)))
 intro W2 ov oes hin2 hov hok2
 obtain ⟨outs, houts⟩ : ∃ x, x = (tickT c 1 (newCs c)).1 := ⟨_, rfl⟩
 rw [← houts] at hov
 have hall : ∀ y ∈ outs, 1 ≤ y.1 ∧ y.1 ≤ 1 ∧ y.2.1 < 4 ∧ y.2.2.length = kLen y.2.1 := by rw [houts]; exact runT_all hck (by decide) _ _ hnew (fun i hi => nx_one (by omega) hi)
 have hmap : outs.map (fun y => (y.1, y.2.1)) = xRun.1 := by
  rw [houts]
  have h1 := (runT_run (c := c) (to := 1) (c.s.length + 1) (newCs c)).1
  unfold tickT
  rw [h1, xs_new c (by omega), hcs]
  rw [hc]
  rfl
 have hex : ∃ y ∈ outs, y.2.1 = 3 := by
  obtain ⟨z, hz, hz2⟩ := List.any_eq_true.1 xrun_has
  rw [← hmap] at hz
  obtain ⟨y, hy, rfl⟩ := List.mem_map.1 hz
  have := of_decide_eq_true (show decide ((y.1, y.2.1) = (1, 3)) = true by simpa using hz2)
  exact ⟨y, hy, congrArg Prod.snd this⟩
 have hol := outs_small hov
 have hpos : 0 < outs.length := by obtain ⟨y, hy, _⟩ := hex; exact List.length_pos_of_mem hy
 obtain ⟨b, o, oc, l', e, fz, rfl, hm', hat⟩ := snt_at (hov.reads.mono (S' := W2 ++ (oes ++ ((pj, cel [.int .i64 16, .slice none 0 0, .int .i64 64, .slice none 0 0] 156) :: (X ++ ((L1, cel (hbc (c25 mnX xTape) (.slice a1 h25.length c1) (.slice a2 m25.length c2) (.slice a3 s25.length c3)) 33) :: (W ++ S)))))) fun x hx => List.mem_append_right _ (List.mem_append_left _ hx)) hpos
 refine OWp.evs 5 rfl ?_
 refine OWp.nil ?_
 refine Wp.seq ?_
 refine Wp.seq (Wp.region ?_)
 refine OWp.evs 3 rfl ?_
 refine OWp.nil ?_
 refine Wp.block ?_
 refine Wp.loopS (α := Nat) (fun i => outs.length - i) (fun i => [(2, pt c.p), (3, .int .i64 0), (27, .slice (some ⟨b, o, none⟩) outs.length oc), (28, .int .i64 (outs.length : Int)), (29, .int .i64 (i : Int))]) (fun _ => W2 ++ (oes ++ ((pj, cel [.int .i64 16, .slice none 0 0, .int .i64 64, .slice none 0 0] 156) :: (X ++ ((L1, cel (hbc (c25 mnX xTape) (.slice a1 h25.length c1) (.slice a2 m25.length c2) (.slice a3 s25.length c3)) 33) :: (W ++ S)))))) (fun i => i ≤ outs.length ∧ ∀ j (h : j < outs.length), j < i → outs[j].2.1 ≠ 3) 0 ?_ (.refl _) ⟨Nat.zero_le _, fun _ _ h => by omega⟩ ?_
 ·exact .cons rfl (.cons rfl (.cons rfl (.cons rfl (.cons rfl (.nil _)))))
 rintro i ⟨hi, hno⟩
 refine Wp.seq (Wp.region ?_)
 refine OWp.evs 1 rfl ?_
 refine OWp.nil ?_
 refine Wp.seq ?_
 refine Wp.cond rfl (fun d1 => ?_) (fun d1 => ?_)
 ·have d1 := of_decide_eq_true d1
  have hlt : i < outs.length := by omega
  obtain ⟨h1, h2, h3, h4⟩ := hall _ (List.getElem_mem hlt)
  refine Wp.skip ?_
  refine Wp.seq ?_
  refine Wp.block ?_
  refine Wp.seq (Wp.region ?_)
  refine OWp.g rfl rfl (Gives.indexAddrSlice (i) rfl rfl rfl rfl rfl rfl (by omega)) ?_
  refine OWp.load hm' rfl rfl rfl rfl (partAt_agg (hat i hlt) rfl rfl rfl) ?_
  refine OWp.step rfl (Step.alloc rfl rfl rfl ?_); intro L6 hBL6 hLL6
  refine OWp.step rfl (Step.storeAs 0 (sntc outs[i]) rfl rfl rfl rfl rfl (by assumption) rfl (Unfz.zero _) rfl (Nat.le_of_ble_eq_true rfl) rfl rfl ?_)
  refine OWp.nil ?_
  refine Wp.seq (Wp.region ?_)
  refine OWp.evs 1 rfl ?_
  refine OWp.load (.head _) rfl rfl rfl rfl rfl ?_
  refine OWp.evs 1 rfl ?_
  refine OWp.nil ?_
  refine Wp.cond rfl (fun d2 => ?_) (fun d2 => ?_)
  ·have d2 := of_decide_eq_true d2
   have hk3 : outs[i].2.1 = 3 := by omega
   refine Wp.seq (Wp.regionDraw [0, 1, 2, 3, 4, 5, 6, 7, 8, 9, 10, 11, 12, 13, 14, 15, 16, 17, 18, 19] [11, 16] rfl (by decide +kernel) ?_)
   refine DWp.evs 3 rfl ?_
   refine DWp.part 38 rfl (fun cc2 => ?_) (fun cc2 => absurd (of_decide_eq_false cc2) (by exact fun h => h rfl))
   have cc2 := of_decide_eq_true cc2
   refine DWp.evs 1 rfl ?_
   refine DWp.load (.head _) rfl rfl rfl rfl rfl rfl rfl ?_
   refine DWp.evs 3 rfl ?_
   refine DWp.part 43 rfl (fun cc3 => ?_) (fun cc3 => absurd (of_decide_eq_false cc3) (by omega))
   have cc3 := of_decide_eq_true cc3
   refine DWp.evs 1 rfl ?_
   refine DWp.load (.head _) rfl rfl rfl rfl rfl rfl rfl ?_
   refine DWp.evs 1 rfl ?_
   refine DWp.stepGrow rfl rfl rfl (Step.call rfl rfl rfl rfl rfl rfl ((mlongC (n := 38) (.inr (.inl ⟨rfl, rfl⟩)) ?_)))
   refine ⟨fun _ hy => hy, ?_⟩
   refine DWp.evs 3 rfl ?_
   refine DWp.part 50 rfl (fun cc4 => ?_) (fun cc4 => absurd (of_decide_eq_false cc4) (by exact fun h => h (by rw [h4, hk3]; rfl)))
   have cc4 := of_decide_eq_true cc4
   refine DWp.evs 1 rfl ?_
   refine DWp.stepGrow rfl rfl rfl (Step.call rfl rfl rfl rfl rfl rfl ((cnowC hin2 (fun y hy => .tail _ (List.mem_append_left _ hy)) ?_)))
   refine ⟨fun _ hy => hy, ?_⟩
   refine DWp.evs 3 rfl ?_
   refine DWp.nil ?_
   refine Wp.ret ⟨trivial, _, ⟨_, _, rfl, rfl, rfl⟩, ?_⟩
   exact ⟨S, (by repeat (first | exact List.Sublist.refl _ | exact List.sublist_append_right _ _ | apply List.Sublist.cons | refine List.Sublist.trans ?_ (List.sublist_append_right _ _))), H⟩
  have d2 := of_decide_eq_false d2
  refine Wp.skip ?_
  refine Wp.drop (S' := W2 ++ (oes ++ ((pj, cel [.int .i64 16, .slice none 0 0, .int .i64 64, .slice none 0 0] 156) :: (X ++ ((L1, cel (hbc (c25 mnX xTape) (.slice a1 h25.length c1) (.slice a2 m25.length c2) (.slice a3 s25.length c3)) 33) :: (W ++ S)))))) (List.sublist_cons_self _ _) ?_
  refine Wp.region ?_
  refine OWp.evs 2 rfl ?_
  refine OWp.nil ?_
  refine ⟨i + 1, by omega, ⟨by omega, fun j hj hji => ?_⟩, .cons rfl (.cons rfl (.cons rfl (.cons rfl (.cons' rfl (int_eq (show IntKind.i64.wrap ((i : Int) + 1) = ((i + 1 : Nat) : Int) by rw [i64_id] <;> omega)) (.nil _))))), .refl _⟩
  by_cases e : j = i
  ·subst e; omega
  ·exact hno j hj (by omega)
 have d1 := of_decide_eq_false d1
 refine Wp.exit ?_
 refine Wp.seq (Wp.region ?_)
 refine OWp.evs 1 rfl ?_
 refine OWp.nil ?_
 refine Wp.ret ⟨trivial, _, ⟨_, _, rfl, rfl, rfl⟩, ?_⟩
 exfalso
 obtain ⟨y, hy, hy3⟩ := hex
 obtain ⟨j, hj, rfl⟩ := List.mem_iff_getElem.1 hy
 exact hno j hj (by omega) hy3
end
end Go.Proofs.D

/- CliEven: two clients of one habit. -/
namespace Go.Proofs.D
open Go.Lg Go.Sha Go.Hd Go.Cv
open Go.Proofs.C (Hop hopP hopB parse pathE encB tp word TIn Nd ndc St stc TownOk HostOf IsHost wayR mayP TownOk belowR WayIn LooseOf HomeOf NodesIn)
open Go.Cl (first firstOf needs)
set_option maxRecDepth 100000
/-- Two clients' next slots are the same. -/
def Even (x y : Cs) : Prop := x.k = y.k ∧ x.nx = y.nx ∧ x.dry = y.dry
theorem even_tick {c d : Ck} {to : Nat} {x y : Cs} (h1 : c.s = d.s) (h2 : c.ms = d.ms) (h3 : c.mn = d.mn) (h : Even x y) :
  (tickT c to x).1.map (fun z => (z.1, z.2.1)) = (tickT d to y).1.map (fun z => (z.1, z.2.1)) ∧ Even (tickT c to x).2 (tickT d to y).2 := by
 obtain ⟨e1, e2, e3⟩ := h
 obtain ⟨a1, a2⟩ := runT_run (c := c) (to := to) (c.s.length + 1) x
 obtain ⟨b1, b2⟩ := runT_run (c := d) (to := to) (d.s.length + 1) y
 have hw : waitN c = waitN d := by funext i k; unfold waitN; rw [h1, h3]
 have hc : c.w = d.w := by unfold Ck.w; rw [h2]
 rw [h1, hw, hc, e1, e2, e3] at a1 a2
 unfold tickT
 refine ⟨by rw [h1, a1, b1], ?_⟩
 have e : (⟨(runT c to (d.s.length + 1) x).2.k, (runT c to (d.s.length + 1) x).2.nx, (runT c to (d.s.length + 1) x).2.dry⟩ : Cl.Ct) = ⟨(runT d to (d.s.length + 1) y).2.k, (runT d to (d.s.length + 1) y).2.nx, (runT d to (d.s.length + 1) y).2.dry⟩ := a2.trans b2.symm
 rw [h1]
 exact ⟨congrArg Cl.Ct.k e, congrArg Cl.Ct.nx e, congrArg Cl.Ct.dry e⟩
theorem map_at {x y : List Snt} (h : x.map (fun z => (z.1, z.2.1)) = y.map (fun z => (z.1, z.2.1))) {i : Nat} (hx : i < x.length) (hy : i < y.length) : x[i].1 = y[i].1 ∧ x[i].2.1 = y[i].2.1 := by
 have h2 : (x.map (fun z => (z.1, z.2.1)))[i]? = (y.map (fun z => (z.1, z.2.1)))[i]? := by rw [h]
 rw [List.getElem?_map, List.getElem?_map, List.getElem?_eq_getElem hx, List.getElem?_eq_getElem hy] at h2
 have h3 : (x[i].1, x[i].2.1) = (y[i].1, y[i].2.1) := Option.some.inj h2
 exact Prod.mk.inj h3
theorem bxor_ne (d : Bool) : ¬ ((!(d == d)) = true) := by cases d <;> decide
attribute [local irreducible] derive hmac publicR partsB sha
section
variable {B : Nat} {S R : Ents} {Q : Value → Ents → Prop} {c : Ck}
set_option maxHeartbeats 8000000 in
theorem cliEvenW {S : Ents} {a0 : ByteArray} {a1 : Option Addr} {len1 cap1 : Nat} {a2 : Int} (hks : KsIn S) (rd0 : Rd Tryz.prog S 9 [.string a0]) (rd1 : Rd Tryz.prog S 22 [.slice a1 len1 cap1]) (_rd2 : Rd Tryz.prog S 3 [.int .i64 a2]) :
  CallWp Tryz.prog B 3 #[.string a0, .slice a1 len1 cap1, .int .i64 a2] (fun v _ => v = .bool true) S := by
 obtain ⟨seed, rfl, hsl⟩ := rdStr25 rd0
 obtain ⟨l, hlr, hll⟩ := rdSay rd1
 have hxl : (tp25 seed 400).length = 400 := tp25_len _ _
 refine CallWp.enter (args := [_, _, _]) Tryz.func3 rfl Tryz.ntmps3 rfl ?_
 refine Wp.seq (Wp.region ?_)
 refine OWp.evs 1 rfl ?_
 refine OWp.nil ?_
 refine Wp.seq ?_
 refine Wp.seq (Wp.region ?_)
 refine OWp.step rfl (Step.call rfl rfl rfl rfl rfl rfl ((works25C hks ?_)))
 refine OWp.evs 1 rfl ?_
 refine OWp.nil ?_
 refine Wp.cond rfl (fun c => nomatch c) (fun _ => ?_)
 refine Wp.skip ?_
 refine Wp.seq (Wp.region ?_)
 refine OWp.evs 1 rfl ?_
 refine OWp.step rfl (Step.call rfl rfl rfl rfl rfl rfl ((tape25C (n := 400) hks (by omega) (by decide) ?_)))
 refine OWp.step rfl (Step.call rfl rfl rfl rfl rfl rfl ((habit25C hks ?_)))
 intro hv mv sv W hT
 obtain ⟨a1', c1, a2', c2, a3, c3, rfl, rfl, rfl⟩ := hT.forms
 refine OWp.step rfl (Step.alloc rfl rfl rfl ?_); intro L7 hBL7 hLL7
 refine OWp.step rfl (Step.storeAs 0 (hbc (c25 mn25 (tp25 seed 400)) (.slice a1' h25.length c1) (.slice a2' m25.length c2) (.slice a3 s25.length c3)) rfl rfl rfl rfl rfl (by assumption) rfl (Unfz.zero _) rfl (Nat.le_of_ble_eq_true rfl) rfl rfl ?_)
 obtain ⟨R0, hR0⟩ : ∃ x, x = (L7, cel (hbc (c25 mn25 (tp25 seed 400)) (.slice a1' h25.length c1) (.slice a2' m25.length c2) (.slice a3 s25.length c3)) 33) :: (W ++ S) := ⟨_, rfl⟩
 have h7 : (L7, cel (hbc (c25 mn25 (tp25 seed 400)) (.slice a1' h25.length c1) (.slice a2' m25.length c2) (.slice a3 s25.length c3)) 33) ∈ R0 := by rw [hR0]; exact .head _
 have hk0 : KsIn R0 := by rw [hR0]; exact KsIn_of hks fun x hx => .tail _ (List.mem_append_right _ hx)
 have hT0 : TIn R0 (.slice a1' h25.length c1) (.slice a2' m25.length c2) (.slice a3 s25.length c3) h25 m25 s25 := by rw [hR0]; exact hT.mono fun x hx => .tail _ (List.mem_append_left _ hx)
 have hl0 : Reads R0 3 (.slice a1 len1 cap1) l.length (l.flatMap sayc) := by rw [hR0]; exact hlr.mono fun x hx => .tail _ (List.mem_append_right _ hx)
 rw [← hR0]
 refine OWp.nil ?_
 refine Wp.seq (Wp.region ?_)
 refine OWp.load h7 rfl rfl rfl rfl rfl ?_
 refine OWp.step rfl (Step.call rfl rfl rfl rfl rfl rfl ((cnewC (c := c25 mn25 (tp25 seed 400)) (hb25 hk0 hT0 mn25_may (by rw [hxl]; decide)) ?_)))
 intro pa pxa pja pla hva mva sva Wa Xa hcka0 hina hpja
 obtain ⟨Za, hZa⟩ : ∃ x, x = (pja, cel [.int .i64 16, .slice none 0 0, .int .i64 64, .slice none 0 0] 156) :: (Xa ++ R0) := ⟨_, rfl⟩
 have hZR : ∀ x ∈ R0, x ∈ Za := fun x hx => by rw [hZa]; exact .tail _ (List.mem_append_right _ hx)
 have hZX : ∀ x ∈ Xa ++ R0, x ∈ Za := fun x hx => by rw [hZa]; exact .tail _ hx
 rw [← hZa]
 refine OWp.evs 5 rfl ?_
 refine OWp.nil ?_
 refine Wp.seq (Wp.region ?_)
 refine OWp.load (List.mem_append_right _ (hZR _ h7)) rfl rfl rfl rfl rfl ?_
 refine OWp.step rfl (Step.call rfl rfl rfl rfl rfl rfl ((cnewC (c := c25 mn25 (tp25 seed 400)) (hb25 (KsIn_of hk0 fun x hx => List.mem_append_right _ (hZR x hx)) (hT0.mono fun x hx => List.mem_append_right _ (hZR x hx)) mn25_may (by rw [hxl]; decide)) ?_)))
 intro pb pxb pjb plb hvb mvb svb Wb Xb hckb0 hinb hpjb
 obtain ⟨ca, hca⟩ : ∃ x, x = (c25 mn25 (tp25 seed 400)).laid pa pxa pja pla hva mva sva := ⟨_, rfl⟩
 obtain ⟨cb, hcb⟩ : ∃ x, x = (c25 mn25 (tp25 seed 400)).laid pb pxb pjb plb hvb mvb svb := ⟨_, rfl⟩
 have hcka := hcka0 R0 hk0
 have hckb := hckb0 Za (KsIn_of hk0 hZR)
 rw [← hca] at hcka hina
 rw [← hcb] at hckb hinb
 have hna : newCs (c25 mn25 (tp25 seed 400)) = newCs ca := by rw [hca]; rfl
 have hnb : newCs (c25 mn25 (tp25 seed 400)) = newCs cb := by rw [hcb]; rfl
 have hsa : ca.s.length = 400 := by rw [hca]; exact hxl
 have hsb : cb.s.length = 400 := by rw [hcb]; exact hxl
 have hoa := newCs_ok ca (by omega)
 have hob := newCs_ok cb (by omega)
 rw [show pt pa = pt ca.p by rw [hca]; rfl, show pt pb = pt cb.p by rw [hcb]; rfl]
 obtain ⟨Z, hZ⟩ : ∃ x, x = (pjb, cel [.int .i64 16, .slice none 0 0, .int .i64 64, .slice none 0 0] 156) :: (Xb ++ Za) := ⟨_, rfl⟩
 have hRa : ∀ x ∈ Xa ++ R0, x ∈ Z := fun x hx => by rw [hZ]; exact .tail _ (List.mem_append_right _ (hZX x hx))
 have hRb : ∀ x ∈ Xb ++ Za, x ∈ Z := fun x hx => by rw [hZ]; exact .tail _ hx
 have hlZ : Reads Z 3 (.slice a1 len1 cap1) l.length (l.flatMap sayc) := hl0.mono fun x hx => hRa x (List.mem_append_right _ hx)
 rw [hna] at hina
 rw [hnb] at hinb
 have hm1 : ca.mn = cb.mn := by rw [hca, hcb]; rfl
 have hm2 : ca.ms = cb.ms := by rw [hca, hcb]; rfl
 have hm3 : ca.s = cb.s := by rw [hca, hcb]; rfl
 have hm4 : ca.h0 = h25 ∧ ca.ms = m25 ∧ ca.ss = s25 := by rw [hca]; exact ⟨rfl, rfl, rfl⟩
 have hev : Even (newCs ca) (newCs cb) := by rw [← hna, ← hnb]; exact ⟨rfl, rfl, rfl⟩
 have hma : 0 ≤ (newCs ca).q.length + (newCs ca).k := Nat.zero_le _
 refine OWp.evs 5 rfl ?_
 refine OWp.nil ?_
 refine Wp.seq ?_
 refine Wp.seq (Wp.region ?_)
 refine OWp.evs 3 rfl ?_
 refine OWp.evs 4 rfl ?_
 refine OWp.evs 4 rfl ?_
 refine OWp.part 45 rfl (fun cc1 => absurd (ndT cc1) (by exact fun h => h rfl)) (fun cc1 => ?_)
 have cc1 := ndF cc1
 refine OWp.evs 3 rfl ?_
 refine OWp.nil ?_
 refine Wp.cond rfl (fun cc2 => absurd (ndT cc2) (by exact fun h => h rfl)) (fun cc2 => ?_)
 have cc2 := ndF cc2
 refine Wp.skip ?_
 refine Wp.permS (show List.Perm (Wb ++ ((pjb, cel [.int .i64 16, .slice none 0 0, .int .i64 64, .slice none 0 0] 156) :: (Xb ++ (Wa ++ Za)))) (Wa ++ (Wb ++ Z)) from by rw [hZ]; exact permBy [Wb, [(pjb, cel [.int .i64 16, .slice none 0 0, .int .i64 64, .slice none 0 0] 156)], Xb, Wa] Za [0, 1, 2, 3] [3, 0, 1, 2] (by decide)) ?_
 refine Wp.seq (Wp.region ?_)
 refine OWp.evs 2 rfl ?_
 refine OWp.nil ?_
 refine Wp.seq ?_
 refine Wp.seq (Wp.region ?_)
 refine OWp.evs 1 rfl ?_
 refine OWp.nil ?_
 refine Wp.block ?_
 refine Wp.loopS (α := Nat × (Nat × Nat) × (Cs × Nat × Ents) × (Cs × Ents)) (fun z => 40 - z.1) (fun z => [(1, .slice a1 len1 cap1), (2, .int .i64 a2), (8, pt ca.p), (10, pt cb.p), (12, .int .i64 (z.2.1.1 : Int)), (13, .int .i64 (z.2.1.2 : Int)), (14, .int .i64 (z.1 : Int))]) (fun z => z.2.2.1.2.2 ++ (z.2.2.2.2 ++ Z)) (fun z => 1 ≤ z.1 ∧ z.1 ≤ 31 ∧ z.2.1.1 ≤ l.length ∧ z.2.1.2 ≤ 1000 ∧ CsOk ca z.2.2.1.1 ∧ z.2.2.1.2.1 ≤ z.2.2.1.1.q.length + z.2.2.1.1.k ∧ CliIn B ca z.2.2.1.1 ((z.1 - 1 : Nat) : Int) z.2.2.1.2.1 z.2.2.1.2.2 ∧ CsOk cb z.2.2.2.1 ∧ CliIn B cb z.2.2.2.1 ((z.1 - 1 : Nat) : Int) 0 z.2.2.2.2 ∧ Even z.2.2.1.1 z.2.2.2.1) (1, (0, 0), (newCs ca, 0, Wa), (newCs cb, Wb)) ?_ (.refl _) ⟨(show (1 : Nat) ≤ 1 by decide), (show (1 : Nat) ≤ 31 by decide), Nat.zero_le _, (show (0 : Nat) ≤ 1000 by decide), hoa, hma, hina, hob, hinb, hev⟩ ?_
 ·exact .cons rfl (.cons rfl (.cons rfl (.cons rfl (.cons rfl (.cons rfl (.cons rfl (.nil _)))))))
 rintro ⟨t, ⟨f, a⟩, ⟨xa, ma, Wa1⟩, ⟨xb, Wb1⟩⟩ ⟨ht1, ht31, hf, ha, hxa, hmq, hWa, hxb, hWb, hev1⟩
 simp only at ht1 ht31 hf ha hxa hmq hWa hxb hWb hev1 ⊢
 refine Wp.seq ?_
 refine Wp.seq (Wp.region ?_)
 refine OWp.evs 2 rfl ?_
 refine OWp.step rfl (Step.call rfl rfl rfl rfl rfl rfl ((among25C (m := 30) (by decide) (by decide) ?_)))
 obtain ⟨n, hn, hn30⟩ : ∃ n : Nat, a2 % ((30 : Nat) : Int) = (n : Int) ∧ n < 30 := ⟨(a2 % 30).toNat, by omega, by omega⟩
 rw [hn]
 refine OWp.evs 1 rfl ?_
 refine OWp.nil ?_
 refine Wp.cond rfl (fun c1 => ?_) (fun c1 => ?_)
 ·have c1 := of_decide_eq_true c1
  have htn : t ≤ n := by omega
  have hlen : l.length = len1 := hlr.len.symm
  refine Wp.skip ?_
  refine Wp.seq ?_
  refine Wp.block ?_
  refine Wp.seq (Wp.region ?_)
  refine OWp.evs 5 rfl ?_
  refine OWp.step rfl (Step.call rfl rfl rfl rfl rfl rfl ((sub25C (W := Wa1) (S := Wb1 ++ Z) (t := t) hcka (fun y hy => List.mem_append_right _ (hRa y hy)) hm4 hxa hmq hWa (hlZ.mono fun y hy => List.mem_append_right _ hy) hll (by omega) hf ha ?_)))
  intro q2 ma2 Wa2 f2 at2 _ hxa2 hmq2 hWa2 hf2 ha2
  obtain ⟨xa2, hxe⟩ : ∃ x : Cs, x = { xa with q := q2 } := ⟨_, rfl⟩
  have hmq3 : ma2 ≤ xa2.q.length + xa2.k := by rw [hxe]; exact hmq2
  have hev2 : Even xa2 xb := by rw [hxe]; exact hev1
  rw [← hxe] at hxa2 hWa2
  refine OWp.evs 5 rfl ?_
  refine OWp.nil ?_
  refine Wp.seq (Wp.region ?_)
  refine OWp.evs 2 rfl ?_
  refine OWp.step rfl (Step.call rfl rfl rfl rfl rfl rfl ((tickC (c := ca) (W := Wa2) (S := Wb1 ++ Z) (to := t) hcka (fun y hy => List.mem_append_right _ (hRa y hy)) hxa2 hWa2 (by omega) (by omega) (by omega) (by omega) ?_)))
  intro Wa3 ova oesa hina3 hova hoka
  obtain ⟨oa, hoae⟩ : ∃ x, x = (tickT ca t xa2).1 := ⟨_, rfl⟩
  obtain ⟨ya, hya⟩ : ∃ x, x = (tickT ca t xa2).2 := ⟨_, rfl⟩
  refine OWp.evs 5 rfl ?_
  refine OWp.nil ?_
  refine Wp.seq (Wp.region ?_)
  refine OWp.evs 2 rfl ?_
  refine OWp.step rfl (Step.call rfl rfl rfl rfl rfl rfl ((CallWp.permS (show List.Perm (Wa3 ++ (oesa ++ (Wb1 ++ Z))) (Wb1 ++ (Wa3 ++ (oesa ++ Z))) from permBy [Wa3, oesa, Wb1] Z [0, 1, 2] [2, 0, 1] (by decide)) (tickC (c := cb) (W := Wb1) (S := Wa3 ++ (oesa ++ Z)) (to := t) hckb (fun y hy => List.mem_append_right _ (List.mem_append_right _ (hRb y hy))) hxb hWb (by omega) (by omega) (by omega) (by omega) ?_))))
  intro Wb3 ovb oesb hinb3 hovb hokb
  obtain ⟨ob, hobe⟩ : ∃ x, x = (tickT cb t xb).1 := ⟨_, rfl⟩
  obtain ⟨yb, hyb⟩ : ∃ x, x = (tickT cb t xb).2 := ⟨_, rfl⟩
  obtain ⟨hmap, hev3⟩ := even_tick (to := t) hm3 hm2 hm1 hev2
  have hla : ∀ y ∈ oa, y.2.2.length = kLen y.2.1 := by rw [hoae]; exact fun y hy => (runT_all (m := 0) hcka (by omega) _ _ hxa2 (fun _ _ => Nat.zero_le _) y hy).2.2.2
  have hlb : ∀ y ∈ ob, y.2.2.length = kLen y.2.1 := by rw [hobe]; exact fun y hy => (runT_all (m := 0) hckb (by omega) _ _ hxb (fun _ _ => Nat.zero_le _) y hy).2.2.2
  have hmany : ma2 ≤ ya.q.length + ya.k := by rw [hya]; have := runT_many (c := ca) (to := t) (ca.s.length + 1) xa2; unfold tickT; omega
  rw [← hoae] at hova hmap
  rw [← hobe] at hovb hmap
  rw [← hya] at hina3 hoka hev3
  rw [← hyb] at hinb3 hokb hev3
  have hlab : oa.length = ob.length := by have := congrArg List.length hmap; simpa using this
  obtain ⟨pa1, ca1, rfl⟩ := hova.reads.form
  obtain ⟨pb1, cb1, rfl⟩ := hovb.reads.form
  rw [← hlab] at hovb
  refine OWp.evs 5 rfl ?_
  refine OWp.nil ?_
  refine Wp.seq ?_
  refine Wp.seq (Wp.region ?_)
  refine OWp.evs 3 rfl ?_
  refine OWp.part 78 rfl (fun cc3 => absurd (ndT cc3) (by exact fun h => h rfl)) (fun cc3 => ?_)
  have cc3 := ndF cc3
  refine OWp.evs 4 rfl ?_
  refine OWp.part 82 rfl (fun cc4 => absurd (ndT cc4) (by exact fun h => h rfl)) (fun cc4 => ?_)
  have cc4 := ndF cc4
  refine OWp.evs 7 rfl ?_
  refine OWp.part 89 rfl (fun cc5 => absurd (ndT cc5) (by exact fun h => h (by rw [hlab]))) (fun cc5 => ?_)
  have cc5 := ndF cc5
  refine OWp.evs 1 rfl ?_
  refine OWp.step rfl (Step.call rfl rfl rfl rfl rfl rfl ((cdryC hina3 (fun y hy => List.mem_append_right _ (List.mem_append_right _ (List.mem_append_left _ hy))) ?_)))
  refine OWp.evs 1 rfl ?_
  refine OWp.step rfl (Step.call rfl rfl rfl rfl rfl rfl ((cdryC hinb3 (fun y hy => List.mem_append_left _ hy) ?_)))
  rw [hev3.2.2]
  refine OWp.evs 2 rfl ?_
  refine OWp.nil ?_
  refine Wp.cond rfl (fun cc6 => (by exact absurd (by assumption) (bxor_ne _))) (fun cc6 => ?_)
  refine Wp.skip ?_
  refine Wp.seq (Wp.region ?_)
  refine OWp.evs 3 rfl ?_
  refine OWp.nil ?_
  refine Wp.block ?_
  refine Wp.loopS (α := Nat) (fun i => oa.length - i) (fun i => [(1, .slice a1 len1 cap1), (2, .int .i64 a2), (8, pt ca.p), (10, pt cb.p), (12, .int .i64 (f2 : Int)), (13, .int .i64 (at2 : Int)), (14, .int .i64 (t : Int)), (15, .slice pa1 oa.length ca1), (17, .slice pb1 oa.length cb1), (97, .int .i64 (oa.length : Int)), (98, .int .i64 (i : Int))]) (fun _ => Wb3 ++ (oesb ++ (Wa3 ++ (oesa ++ Z)))) (fun i => i ≤ oa.length) 0 ?_ (.refl _) (Nat.zero_le _) ?_
  ·exact .cons rfl (.cons rfl (.cons rfl (.cons rfl (.cons rfl (.cons rfl (.cons rfl (.cons rfl (.cons' rfl (by rw [hlab]) (.cons rfl (.cons rfl (.nil _)))))))))))
  intro i hi
  refine Wp.seq (Wp.region ?_)
  refine OWp.evs 1 rfl ?_
  refine OWp.nil ?_
  refine Wp.seq ?_
  refine Wp.cond rfl (fun d1 => ?_) (fun d1 => ?_)
  ·have d1 := of_decide_eq_true d1
   have hlt : i < oa.length := by omega
   have hlt2 : i < ob.length := by omega
   obtain ⟨m1, m2⟩ := map_at hmap hlt hlt2
   have hol := outs_small hova
   obtain ⟨b1, o1, k1, l1, e1, fz1, hv1, hm1', hat1⟩ := snt_at (hova.reads.mono (S' := Wb3 ++ (oesb ++ (Wa3 ++ (oesa ++ Z)))) fun x hx => List.mem_append_right _ (List.mem_append_right _ (List.mem_append_right _ (List.mem_append_left _ hx)))) (by omega)
   obtain ⟨rfl, rfl⟩ : pa1 = some ⟨b1, o1, none⟩ ∧ ca1 = k1 := by simpa using hv1
   rw [hlab] at hovb
   obtain ⟨b2, o2, k2, l2, e2, fz2, hv2, hm2', hat2⟩ := snt_at (hovb.reads.mono (S' := Wb3 ++ (oesb ++ (Wa3 ++ (oesa ++ Z)))) fun x hx => List.mem_append_right _ (List.mem_append_left _ hx)) (by omega)
   obtain ⟨rfl, rfl⟩ : pb1 = some ⟨b2, o2, none⟩ ∧ cb1 = k2 := by simpa using hv2
   refine Wp.skip ?_
   refine Wp.seq ?_
   refine Wp.block ?_
   refine Wp.seq (Wp.region ?_)
   refine OWp.evs 2 rfl ?_
   refine OWp.nil ?_
   refine Wp.seq (Wp.regionDraw [0, 1, 2, 3, 4, 5, 6, 7, 8, 9, 10, 11, 12, 13, 14, 15, 16, 17, 18, 19, 20, 21, 22, 23, 24, 25, 26, 27, 28, 29, 30, 31, 32, 33, 34, 35, 36, 37, 38] [] rfl (by decide +kernel) ?_)
   refine DWp.evs 2 rfl ?_
   refine DWp.g rfl rfl rfl rfl (Gives.indexAddrSlice (i) rfl rfl rfl rfl rfl rfl (by omega)) ?_
   refine DWp.evs 1 rfl ?_
   refine DWp.load hm1' rfl rfl rfl rfl rfl rfl ((partAt_in (m := 0) (hat1 i hlt) rfl (by decide) (by decide)).trans rfl) ?_
   refine DWp.evs 2 rfl ?_
   refine DWp.g rfl rfl rfl rfl (Gives.indexAddrSlice (i) rfl rfl rfl rfl rfl rfl (by omega)) ?_
   refine DWp.evs 1 rfl ?_
   refine DWp.load hm2' rfl rfl rfl rfl rfl rfl ((partAt_in (m := 0) (hat2 i hlt2) rfl (by decide) (by decide)).trans rfl) ?_
   refine DWp.evs 2 rfl ?_
   refine DWp.part 112 rfl (fun cc7 => absurd (ndT cc7) (by exact fun h => h (by rw [m1]))) (fun cc7 => ?_)
   have cc7 := ndF cc7
   refine DWp.evs 2 rfl ?_
   refine DWp.g rfl rfl rfl rfl (Gives.indexAddrSlice (i) rfl rfl rfl rfl rfl rfl (by omega)) ?_
   refine DWp.evs 1 rfl ?_
   refine DWp.load hm1' rfl rfl rfl rfl rfl rfl ((partAt_in (m := 1) (hat1 i hlt) rfl (by decide) (by decide)).trans rfl) ?_
   refine DWp.evs 2 rfl ?_
   refine DWp.g rfl rfl rfl rfl (Gives.indexAddrSlice (i) rfl rfl rfl rfl rfl rfl (by omega)) ?_
   refine DWp.evs 1 rfl ?_
   refine DWp.load hm2' rfl rfl rfl rfl rfl rfl ((partAt_in (m := 1) (hat2 i hlt2) rfl (by decide) (by decide)).trans rfl) ?_
   refine DWp.evs 3 rfl ?_
   refine DWp.part 125 rfl (fun cc8 => absurd (ndT cc8) (by exact fun h => h (by rw [m2]))) (fun cc8 => ?_)
   have cc8 := ndF cc8
   refine DWp.evs 2 rfl ?_
   refine DWp.g rfl rfl rfl rfl (Gives.indexAddrSlice (i) rfl rfl rfl rfl rfl rfl (by omega)) ?_
   refine DWp.evs 1 rfl ?_
   refine DWp.load hm1' rfl rfl rfl rfl rfl rfl ((partAt_in (m := 2) (hat1 i hlt) rfl (by decide) (by decide)).trans rfl) ?_
   refine DWp.evs 3 rfl ?_
   refine DWp.g rfl rfl rfl rfl (Gives.indexAddrSlice (i) rfl rfl rfl rfl rfl rfl (by omega)) ?_
   refine DWp.evs 1 rfl ?_
   refine DWp.load hm2' rfl rfl rfl rfl rfl rfl ((partAt_in (m := 2) (hat2 i hlt2) rfl (by decide) (by decide)).trans rfl) ?_
   refine DWp.evs 3 rfl ?_
   refine DWp.nil ?_
   refine Wp.cond rfl (fun cc9 => absurd (ndT cc9) (by exact fun h => h (by rw [hla _ (List.getElem_mem hlt), hlb _ (List.getElem_mem hlt2), m2]))) (fun cc9 => ?_)
   have cc9 := ndF cc9
   refine Wp.skip ?_
   refine Wp.region ?_
   refine OWp.evs 2 rfl ?_
   refine OWp.nil ?_
   exact ⟨i + 1, by omega, by omega, .cons rfl (.cons rfl (.cons rfl (.cons rfl (.cons rfl (.cons rfl (.cons rfl (.cons rfl (.cons rfl (.cons rfl (.cons' rfl (int_eq (show IntKind.i64.wrap ((i : Int) + 1) = ((i + 1 : Nat) : Int) by rw [i64_id] <;> omega)) (.nil _))))))))))), .refl _⟩
  have d1 := of_decide_eq_false d1
  refine Wp.exit ?_
  refine Wp.permS (show List.Perm (Wb3 ++ (oesb ++ (Wa3 ++ (oesa ++ Z)))) (oesb ++ (oesa ++ (Wa3 ++ (Wb3 ++ Z)))) from permBy [Wb3, oesb, Wa3, oesa] Z [0, 1, 2, 3] [1, 3, 2, 0] (by decide)) ?_
  refine Wp.drop (S' := Wa3 ++ (Wb3 ++ Z)) ((List.sublist_append_right _ _).trans (List.sublist_append_right _ _)) ?_
  refine Wp.region ?_
  refine OWp.evs 3 rfl ?_
  refine OWp.nil ?_
  exact ⟨(t + 1, (f2, at2), (ya, ma2, Wa3), (yb, Wb3)), by simp only; omega, ⟨by simp only; omega, by simp only; omega, hf2, ha2, hoka, hmany, (by simp only [Nat.add_sub_cancel]; exact hina3), hokb, (by simp only [Nat.add_sub_cancel]; exact hinb3), hev3⟩, .cons rfl (.cons rfl (.cons rfl (.cons rfl (.cons rfl (.cons rfl (.cons' rfl (int_eq (i64_inc (by omega))) (.nil _))))))), .refl _⟩
 have c1 := of_decide_eq_false c1
 refine Wp.exit ?_
 refine Wp.seq (Wp.region ?_)
 refine OWp.evs 1 rfl ?_
 refine OWp.nil ?_
 refine Wp.ret ⟨trivial, _, ⟨_, _, rfl, rfl, rfl⟩, ?_⟩
 rfl
end
end Go.Proofs.D

/- The tables that the rows list: what they give to a walk, and a world in which they lie. -/
namespace Go.Proofs.D
open Go.Lg Go.Sha
set_option maxRecDepth 100000

def Laid : List (String × DataW Unit) := [("unicode/utf8.acceptRanges", YtlfhhkdjahcglaaGreatDoor.Rows.laid_unicode_utf8_acceptRanges), ("dovecote/hash.ks", YtlfhhkdjahcglaaGreatDoor.Rows.laid_dovecote_hash_ks), ("unicode/utf8.first", YtlfhhkdjahcglaaGreatDoor.Rows.laid_unicode_utf8_first)]
def Laid1 : List (String × DataW Unit) := [("dovecote/hash.ks", YtlfhhkdjahcglaaGreatDoor.Rows.laid_dovecote_hash_ks)]
def ksZ : List Int := ks.map fun (n : Nat) => (n : Int)
theorem ks_is : (YtlfhhkdjahcglaaGreatDoor.Rows.laid_dovecote_hash_ks : DataW Unit) = Lib.tabData .u32 ksZ := by rfl
theorem ksZ_get (i : Nat) (h : i < 64) : ksZ.getD i 0 = ((ks.getD i 0 : Nat) : Int) := by
 have hl : i < ks.length := h
 unfold ksZ
 rw [List.getD_eq_getElem?_getD, List.getElem?_map, List.getD_eq_getElem?_getD, List.getElem?_eq_getElem hl]
 rfl
theorem ks_at {W : World} {r : List (String × DataW Unit)} (h : laidMet Tryz.prog (("dovecote/hash.ks", YtlfhhkdjahcglaaGreatDoor.Rows.laid_dovecote_hash_ks) :: r) W) : KsIn (All W) := by
 rw [ks_is] at h
 have ht := Lib.tabIs_of_head (g := 0) (n := 64) (by kernel_rfl) (t := 308) (by kernel_rfl) Tryz.underlying308 Tryz.underlying267 (by kernel_rfl) (by kernel_rfl) h
 have hc : ∀ i, i < 64 → W.cell? ⟨0, i, none⟩ = some (.int .u32 (ks.getD i 0 : Nat)) := by
  intro i hi
  have := ht.cell (g := 0) (by kernel_rfl) i (by rw [show ksZ.length = 64 from rfl]; exact hi)
  rw [ksZ_get i hi] at this
  exact this
 have h0 := hc 0 (by decide)
 have : ∃ l e fz, W.heap[0]? = some (.cells l e fz) := by
  unfold World.cell? at h0
  split at h0
  ·rename_i c0 e0 f0 hb; exact ⟨c0, e0, f0, hb⟩
  ·simp at h0
 obtain ⟨l, e, fz, hl⟩ := this
 refine ⟨l.toList, e, fz, All.mem hl, fun i hi => ?_⟩
 have := hc i hi
 unfold World.cell? at this
 simp only [hl] at this
 simpa using this
theorem of_laid1 {W : World} (h : laidMetH Tryz.prog Laid1 W) : KsIn (All W) := by
 rw [MakeChecks.laidMetH_plain _ _ _ (by kernel_rfl)] at h
 exact ks_at h
noncomputable def laidWorld (os : Os) : World :=
 let w0 := World.doorLaid Tryz.prog 24 os
 { w0 with heap := w0.heap.modify 2 fun
   | .cells _ t frozen => .cells (Go.Pinned.utf8FirstZ.map fun (n : Nat) => Value.int .u8 (n : Int)).toArray t frozen
   | o => o }
theorem laid_met1 (os : Os) (args : Array Value) : laidMetH Tryz.prog Laid1 ((laidWorld os).forCall (fun _ _ => 0) ⟨#[], args, []⟩).memory :=
 laidMetH_of_parts3 (fuel := 8) (laidMet_of_run' 8 (by kernel_rfl) (by kernel_rfl)) (by kernel_rfl) (by kernel_rfl)
theorem laid_shaped (os : Os) (args : Array Value) : ((laidWorld os).forCall (fun _ _ => 0) ⟨#[], args, []⟩).Shaped Tryz.prog :=
 World.shaped_of_RefB (by kernel_rfl) (by kernel_rfl)
end Go.Proofs.D
