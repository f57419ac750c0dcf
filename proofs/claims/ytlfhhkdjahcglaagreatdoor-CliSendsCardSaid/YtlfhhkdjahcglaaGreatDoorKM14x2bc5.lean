/- What functions of the given program do, one after the other, told by that layer. -/
import Derived.Test.YtlfhhkdjahcglaaGreatDoorKM13x2a7e
import Derived.Test.YtlfhhkdjahcglaaGreatDoorEHeadW
import Derived.Test.YtlfhhkdjahcglaaGreatDoorKM11x8ff7
import Derived.Test.YtlfhhkdjahcglaaGreatDoorLgM5xae9c
/- The laws of the client's chapter: their town, habit, tape. -/
namespace Go.Proofs.D
open Go.Lg Go.Sha Go.Hd Go.Cv
open Go.Proofs.C (Hop hopP hopB parse pathE encB tp word TIn Nd ndc St stc TownOk HostOf IsHost wayR mayP TownOk belowR WayIn LooseOf HomeOf NodesIn)
set_option maxRecDepth 100000
def townW : List UInt8 := [116, 111, 119, 110]
def tapeW : List UInt8 := [116, 97, 112, 101]
def pr25 (i : Nat) : List UInt8 := privR townW i
def pt25 (i : Nat) : List UInt8 := (publicR (pr25 i)).1
def h25 : List Nd := [(0, pt25 0), (1, pt25 1)]
def m25 : List (List Nd) := [[(2, pt25 2), (3, pt25 3)]]
def s25 : List St := [(3, 0), (4, 1)]
theorem pr25_len (i : Nat) : (pr25 i).length = 32 := derive_len _ _ _
theorem pt25_on (i : Nat) : OnB (pt25 i) := by unfold pt25; rw [publicR_eq (pr25_len i)]; exact onB_9.x _
theorem pt25_len (i : Nat) : (pt25 i).length = 32 := (pt25_on i).1
theorem ok25 : TownOk (h25 :: m25) s25 := by
 have hp := pt25_len
 refine ⟨⟨by decide, by decide, ?_⟩, ⟨?_, by decide⟩, ⟨?_, by decide⟩⟩
 ·intro l hl
  simp only [m25, List.mem_cons, List.mem_nil_iff, or_false] at hl
  rcases hl with rfl | rfl
  ·exact List.cons_ne_nil _ _
  ·exact List.cons_ne_nil _ _
 ·intro x hx
  simp only [C.lay, h25, m25, List.zipIdx, List.flatMap_cons, List.flatMap_nil, List.map_cons, List.map_nil, List.append_nil, List.cons_append, List.nil_append, List.mem_cons, List.mem_nil_iff, or_false] at hx
  rcases hx with rfl | rfl | rfl | rfl
  ·exact ⟨by decide, by decide, hp 0⟩
  ·exact ⟨by decide, by decide, hp 1⟩
  ·exact ⟨by decide, by decide, hp 2⟩
  ·exact ⟨by decide, by decide, hp 3⟩
 ·intro s hs
  simp only [s25, List.mem_cons, List.mem_nil_iff, or_false] at hs
  rcases hs with rfl | rfl
  ·exact ⟨⟨(0, (0, pt25 0)), rfl, by decide⟩, by decide, by decide⟩
  ·exact ⟨⟨(0, (1, pt25 1)), rfl, by decide⟩, by decide, by decide⟩
theorem on25 : OnT h25 m25 := by
 intro x hx
 simp only [C.lay, h25, m25, List.zipIdx, List.flatMap_cons, List.flatMap_nil, List.map_cons, List.map_nil, List.append_nil, List.cons_append, List.nil_append, List.mem_cons, List.mem_nil_iff, or_false] at hx
 rcases hx with rfl | rfl | rfl | rfl
 ·exact pt25_on 0
 ·exact pt25_on 1
 ·exact pt25_on 2
 ·exact pt25_on 3
theorem host3 : HostOf (h25 :: m25) s25 3 (0, pt25 0) 0 := .inl ⟨ok25, .inl ⟨(3, 0), 0, rfl, rfl, by decide, rfl⟩⟩
theorem host4 : HostOf (h25 :: m25) s25 4 (1, pt25 1) 0 := .inl ⟨ok25, .inl ⟨(4, 1), 0, rfl, rfl, by decide, rfl⟩⟩
/-- The client of the laws, of any means and tape. -/
def c25 (mn : List Int) (s : List UInt8) : Ck :=
 { p := 0, px := 0, pj := 0, pl := 0, user := 3, key := pr25 9, h0 := h25, ms := m25, ss := s25, hv := .pointer none, mv := .pointer none, sv := .pointer none, mn := mn, mean := 1, most := 5, wd := 20, dl := 20, th := 1, s := s, a := (0, pt25 0) }
def mn25 : List Int := [1, 2, 2, 3]
def tp25 (seed : List UInt8) (n : Nat) : List UInt8 := derive seed tapeW n
theorem mayP_of {most m : Int} (h0 : 0 ≤ most) (h1 : most ≤ 4096) (h2 : 0 ≤ m) (h3 : m ≤ 4096) : mayP most [m] := ⟨h0, h1, fun x hx => by rw [List.mem_singleton.1 hx]; exact ⟨h2, h3⟩⟩
theorem hb25 {S : Ents} {mn : List Int} {s : List UInt8} {hv mv sv : Value} (hks : KsIn S) (hT : TIn S hv mv sv h25 m25 s25) (hm : ∀ i, mayP 255 [mn.getD i 0]) (hs : s.length ≤ 8000) : HbOk S (c25 mn s) hv mv sv :=
 { ks := hks, town := hT, ok := ok25, on := on25, host := host3, user := (by show (3 : Nat) < 64; decide), key := pr25_len 9, mn := hm, may := (show mayP 5 [1] from mayP_of (by decide) (by decide) (by decide) (by decide)), lp := (show lpP 20 20 1 from ⟨by decide, by decide, by decide, by decide, by decide, by decide⟩), sl := hs }
theorem getD_all {p : Int → Prop} : ∀ {l : List Int}, p 0 → (∀ x ∈ l, p x) → ∀ i, p (l.getD i 0)
 | [], h0, _, _ => by simpa using h0
 | x :: l, _, h, 0 => h x (.head _)
 | x :: l, h0, h, i + 1 => getD_all (l := l) h0 (fun y hy => h y (.tail _ hy)) i
attribute [local irreducible] derive hmac publicR
section
variable {B : Nat} {S R : Ents} {Q : Value → Ents → Prop}
theorem private25C {i : Nat} (hks : KsIn S) (hi : i < 100) (H : Q (.string (str (pr25 i))) S) : CallWp Tryz.prog B 23 #[.int .i64 (i : Int)] Q S := by
 refine CallWp.dropRet ?_
 refine Yx (args := [_]) Tryz.func23 Tryz.ntmps23 ?_
 refine Yn 1 rfl ?_
 refine Yg 3 rfl ?_
 refine OWp.step rfl (Step.buildSlice rfl rfl rfl ?_); intro L hBL hLL
 refine OWp.gives rfl rfl (Gives.bytesToStr (l := [UInt8.ofNat (48 + i)]) (k := 1) rfl rfl rfl rfl rfl (one_byte2 (by rw [i64_id (by omega) (by omega)]; exact u8c _ _ (by omega)))) (fun _ h => h) ?_
 refine OWp.g rfl rfl (Gives.addStr rfl rfl rfl (by simp only [List.length_cons, List.length_nil]; omega)) ?_
 refine Yc rfl rfl (deriveC (secret := townW) (label := [112, 114, 105, 118, 97, 116, 101, UInt8.ofNat (48 + i)]) hks.cons (by decide) (by decide) (by simp [big]) ?_)
 refine Yz 5 rfl ?_
 refine Yn 2 rfl ?_
 refine Wp.ret ⟨trivial, _, ⟨_, _, rfl, rfl, rfl⟩, ?_⟩
 exact ⟨S, subl, H⟩
theorem point25C {i : Nat} (hks : KsIn S) (hi : i < 100) (H : Q (.string (str (pt25 i))) S) : CallWp Tryz.prog B 54 #[.int .i64 (i : Int)] Q S := by
 refine Yx (args := [_]) Tryz.func54 Tryz.ntmps54 ?_
 refine Yn 1 rfl ?_
 refine Yg 1 rfl ?_
 refine Yc rfl rfl (private25C hks hi ?_)
 refine Yc rfl rfl (publicC ?_)
 refine Yz 5 rfl ?_
 refine Yn 2 rfl ?_
 refine Wp.ret ⟨trivial, _, ⟨_, _, rfl, rfl, rfl⟩, ?_⟩
 exact H
theorem town25C (hks : KsIn S) (H : ∀ hv mv sv W, TIn W hv mv sv h25 m25 s25 → Q (.agg #[hv, mv, sv]) (W ++ S)) : CallWp Tryz.prog B 24 #[] Q S := by
 refine CallWp.dropRet ?_
 refine Yx (args := []) Tryz.func24 Tryz.ntmps24 ?_
 refine Yq ?_
 refine Ya rfl rfl rfl rfl fun L0 hBL0 hLL0 => ?_
 refine OWp.nil ?_
 refine Yq ?_
 refine Yc rfl rfl (point25C (i := 0) hks.cons (by decide) ?_)
 refine OWp.g rfl rfl (Gives.build rfl rfl) ?_
 refine Yc rfl rfl (point25C (i := 1) hks.cons (by decide) ?_)
 refine OWp.g rfl rfl (Gives.build rfl rfl) ?_
 refine OWp.step rfl (Step.buildSlice rfl rfl rfl ?_); intro L5 hBL5 hLL5
 refine Yc rfl rfl (point25C (i := 2) hks.cons.cons (by decide) ?_)
 refine OWp.g rfl rfl (Gives.build rfl rfl) ?_
 refine Yc rfl rfl (point25C (i := 3) hks.cons.cons (by decide) ?_)
 refine OWp.g rfl rfl (Gives.build rfl rfl) ?_
 refine OWp.step rfl (Step.buildSlice rfl rfl rfl ?_); intro L10 hBL10 hLL10
 refine OWp.step rfl (Step.buildSlice rfl rfl rfl ?_); intro L11 hBL11 hLL11
 refine OWp.g rfl rfl (Gives.build rfl rfl) ?_
 refine OWp.g rfl rfl (Gives.build rfl rfl) ?_
 refine OWp.step rfl (Step.buildSlice rfl rfl rfl ?_); intro L14 hBL14 hLL14
 refine OWp.g rfl rfl (Gives.build rfl rfl) ?_
 refine OWp.step rfl (Step.storeAs 4 ([.slice (some ⟨L5, 0, none⟩) 2 2, .slice (some ⟨L11, 0, none⟩) 1 1, .slice (some ⟨L14, 0, none⟩) 2 2]) rfl rfl rfl rfl rfl hBL0 rfl (Unfz.zero _) rfl (Nat.le_of_ble_eq_true rfl) rfl rfl ?_)
 refine OWp.focus 4 rfl ?_
 refine OWp.nil ?_
 refine Wp.ret ⟨trivial, _, ⟨_, _, _, _, rfl, rfl, ⟨_, _, _, mems, (by first | assumption | rfl)⟩, rfl⟩, ?_⟩
 refine ⟨[(L14, cel (s25.flatMap stc) 137), (L11, cel [.slice (some ⟨L10, 0, none⟩) 2 2] 24), (L10, cel [.int .i64 2, .string (str (pt25 2)), .int .i64 3, .string (str (pt25 3))] 135), (L5, cel (h25.flatMap ndc) 135)] ++ S, .cons _ (.refl _), H _ _ _ _ ⟨[.slice (some ⟨L10, 0, none⟩) 2 2], Reads.row (k := 1) (sz := 1) (.tail _ (.head _)) (Nat.le_refl 1), rfl, ⟨rfl, ?_⟩, (show 1 ≤ C.lim by decide), Reads.row (k := 2) (sz := 2) (.head _) (Nat.le_refl 4), by decide⟩⟩
 intro j v l h1 h2
 rcases j with _ | _ | j
 ·cases h1; cases h2
  exact ⟨Reads.row (k := 2) (sz := 2) (l := h25.flatMap ndc) (.tail _ (.tail _ (.tail _ (.head _)))) (Nat.le_refl 4), by decide⟩
 ·cases h1; cases h2
  exact ⟨Reads.row (k := 2) (sz := 2) (l := [.int .i64 2, .string (str (pt25 2)), .int .i64 3, .string (str (pt25 3))]) (.tail _ (.tail _ (.head _))) (Nat.le_refl 4), by decide⟩
 ·cases h1
theorem deriveEqC {secret label : List UInt8} {m : Nat} {z : Int} (hz : z = (m : Int)) (hk : KsIn S) (hn : m ≤ 8160) (h1 : secret.length + 1000 ≤ big) (h2 : label.length + 2000 ≤ big) (H : Q (.tuple #[.string (str (derive secret label m)), .int .i64 0]) S) : CallWp Tryz.prog B 25 #[.string (str secret), .string (str label), .int .i64 z] Q S := by
 subst hz; exact deriveC hk hn h1 h2 H
theorem tape25C {seed : List UInt8} {n : Nat} (hks : KsIn S) (hs : seed.length + 1000 ≤ big) (hn : n ≤ 8000) (H : Q (.string (str (tp25 seed n))) S) : CallWp Tryz.prog B 8 #[.string (str seed), .int .i64 (n : Int)] Q S := by
 refine Yx (args := [_, _]) Tryz.func8 Tryz.ntmps8 ?_
 refine Yn 1 rfl ?_
 refine Yg 3 rfl ?_
 refine Yc rfl rfl (deriveEqC (m := n) (by split <;> omega) hks (by omega) hs (by decide) ?_)
 refine Yz 5 rfl ?_
 refine Yn 2 rfl ?_
 refine Wp.ret ⟨trivial, _, ⟨_, _, rfl, rfl, rfl⟩, ?_⟩
 exact H
theorem habit25C {s : List UInt8} (hks : KsIn S) (H : ∀ hv mv sv W, TIn W hv mv sv h25 m25 s25 → Q (.agg (hbc (c25 mn25 s) hv mv sv).toArray) (W ++ S)) : CallWp Tryz.prog B 7 #[.string (str s)] Q S := by
 refine CallWp.dropRet ?_
 refine Yx (args := [_]) Tryz.func7 Tryz.ntmps7 ?_
 refine Yq ?_
 refine Ya rfl rfl rfl rfl fun L2 hBL2 hLL2 => ?_
 refine OWp.nil ?_
 refine Yq ?_
 refine Yc rfl rfl (private25C (i := 9) hks.cons (by decide) ?_)
 refine Yc rfl rfl (town25C hks.cons ?_)
 intro hv mv sv W hT
 obtain ⟨a1, c1, a2, c2, a3, c3, rfl, rfl, rfl⟩ := hT.forms
 refine OWp.permS (List.perm_middle) ?_
 refine OWp.g rfl rfl (Gives.build rfl rfl) ?_
 refine OWp.g rfl rfl (Gives.build rfl rfl) ?_
 refine Ye 1 rfl ?_
 refine OWp.g rfl rfl (Gives.build rfl rfl) ?_
 refine OWp.step rfl (Step.storeAs 0 (hbc (c25 mn25 s) (.slice a1 h25.length c1) (.slice a2 m25.length c2) (.slice a3 s25.length c3)) rfl rfl rfl rfl rfl hBL2 rfl (Unfz.zero _) rfl (Nat.le_of_ble_eq_true rfl) rfl rfl ?_)
 refine OWp.nil ?_
 refine Wp.ret ⟨trivial, _, ⟨_, _, _, _, rfl, rfl, ⟨_, _, _, mems, (by first | assumption | rfl)⟩, rfl⟩, ?_⟩
 exact ⟨W ++ S, subl, H _ _ _ W hT⟩
theorem among25C {x : Int} {m : Nat} (hm : 0 < m) (hl : m ≤ 2147483648) (h : Q (.int .i64 (x % (m : Int))) S) : CallWp Tryz.prog B 10 #[.int .i64 x, .int .i64 (m : Int)] Q S := by
 refine Yx (args := [_, _]) Tryz.func10 Tryz.ntmps10 ?_
 refine Yn 1 rfl ?_
 refine Yg 2 rfl ?_
 refine OWp.g rfl rfl (Gives.rem rfl rfl rfl (by omega)) ?_
 refine Ye 3 rfl ?_
 refine OWp.g rfl rfl (Gives.rem rfl rfl rfl (by omega)) ?_
 refine Yz 1 rfl ?_
 refine Wp.ret ⟨trivial, _, ⟨_, _, rfl, rfl, rfl⟩, ?_⟩
 have h1 : -(m : Int) < x.tmod m := by
  rcases Int.le_total 0 x with h0 | h0
  ·have := Int.tmod_nonneg (m : Int) h0; omega
  ·have h3 := Int.tmod_lt_of_pos (-x) (show (0 : Int) < m by omega)
   rw [Int.neg_tmod] at h3; omega
 have h2 : x.tmod m < m := Int.tmod_lt_of_pos x (by omega)
 have e : (IntKind.i64.wrap (x.tmod (m : Int) + (m : Int))).tmod (m : Int) = x % (m : Int) := by
  rw [i64_id (by omega) (by omega)]
  rw [Int.tmod_eq_emod_of_nonneg (by omega), Int.add_emod_right]
  rw [Int.tmod_def, Int.sub_mul_emod_self_left]
 exact (congrArg (fun z => Q (.int .i64 z) S) e).mpr h
end
end Go.Proofs.D

/- What a tick sends: how long, of which kinds. -/
namespace Go.Proofs.D
open Go.Lg Go.Sha Go.Hd Go.Cv
open Go.Proofs.C (Hop hopP hopB parse pathE encB tp word TIn Nd ndc St stc TownOk HostOf IsHost wayR mayP TownOk belowR WayIn LooseOf HomeOf NodesIn)
open Go.Cl (first firstOf needs)
set_option maxRecDepth 100000
def kLen (kind : Nat) : Nat := if kind = 3 then 38 else 505
theorem pkB_len {seed txt : List UInt8} {w : WayV} (h : (packR seed w.1 txt w.2.1).1.length = 504) : (pkB seed txt w).length = 505 := by unfold pkB packB; rw [List.length_cons, h]
attribute [local irreducible] wayR packR hmac
section
variable {B : Nat} {S R : Ents} {c : Ck}
theorem doT_len {x : Cs} {kind : Nat} (ho : CkOk B R c) (hq : ∀ p ∈ x.q, PartOk c p) (h4 : kind < 4) (hk : x.k + needs c.w kind ≤ c.s.length) : (doT c x kind).length = kLen kind := by
 rcases (show kind = 0 ∨ kind = 1 ∨ kind = 2 ∨ kind = 3 by omega) with rfl | rfl | rfl | rfl
 ·have hn : needs c.w 0 = 56 + c.w := rfl
  show (payT c x.k x.q).length = 505
  cases hx : x.q with
  | nil => exact pkB_len (way_pk (s := c.s) (seed := seedAt c.s x.k) (txt := []) (k := x.k + 52) (h := dropH) ho.ok ho.on (IsHost.ofHost ho.host) (hostNd_is (h0_pos ho)) ho.may (.inr (.inr (.inr ⟨rfl, rfl, rfl, rfl, rfl⟩))) (by decide) (seedAt_len (by omega)) (by decide) (by show x.k + 52 + c.w ≤ _; omega)).2
  | cons p r =>
   obtain ⟨⟨b, hb⟩, x1, x2, x3⟩ := hq p (by rw [hx]; exact .head _)
   have e := (way_pk (s := c.s) (seed := seedAt c.s x.k) (txt := p.2) (k := x.k + 52) (h := homeH p.1 (idAt c.s x.k)) ho.ok ho.on (IsHost.ofHost ho.host) (IsHost.ofHost hb) ho.may (.inr (.inl ⟨rfl, x1, by show p.1 ≤ 63; omega, Int.le_refl 0, by show (0 : Int) ≤ 4096; decide, rfl, idAt_len (by omega)⟩)) (show (2 : Int) ≠ 1 by decide) (seedAt_len (by omega)) x3 (by show x.k + 52 + c.w ≤ _; omega)).2
   show (pkB (seedAt c.s x.k) p.2 (wayR c.s (x.k + 52) c.a (hostU (c.h0 :: c.ms) c.ss p.1) c.ms (homeH p.1 (idAt c.s x.k)) c.mean c.most)).length = 505
   rw [hostU_is hb]
   exact pkB_len e
 ·have hn : needs c.w 1 = 40 + c.w := rfl
  exact pkB_len (way_pk (s := c.s) (seed := seedAt c.s x.k) (txt := []) (k := x.k + 36) (h := dropH) ho.ok ho.on (IsHost.ofHost ho.host) (hostNd_is (h0_pos ho)) ho.may (.inr (.inr (.inr ⟨rfl, rfl, rfl, rfl, rfl⟩))) (by decide) (seedAt_len (by omega)) (by decide) (by show x.k + 36 + c.w ≤ _; omega)).2
 ·have hn : needs c.w 2 = 52 + c.w := rfl
  have hh := ho.user
  exact pkB_len (way_pk (s := c.s) (seed := seedAt c.s x.k) (txt := []) (k := x.k + 48) (h := homeH c.user (idAt c.s x.k)) ho.ok ho.on (IsHost.ofHost ho.host) (IsHost.ofHost ho.host) ho.may (.inr (.inl ⟨rfl, Int.natCast_nonneg _, by show (c.user : Int) ≤ 63; omega, Int.le_refl 0, by show (0 : Int) ≤ 4096; decide, rfl, idAt_len (by omega)⟩)) (show (2 : Int) ≠ 1 by decide) (seedAt_len (by omega)) (by decide) (by show x.k + 48 + c.w ≤ _; omega)).2
 ·exact pullB_len (hmac_len _ _)
theorem runT_all {to m : Nat} (ho : CkOk B R c) (ht : to ≤ 1099511627776) : ∀ (f : Nat) (x : Cs), CsOk c x → (∀ i, i < 4 → m ≤ x.nx.getD i 0) → ∀ y ∈ (runT c to f x).1, m ≤ y.1 ∧ y.1 ≤ to ∧ y.2.1 < 4 ∧ y.2.2.length = kLen y.2.1
 | 0, _, _, _, _, h => nomatch h
 | f + 1, x, hx, hm, y, hy => by
  rw [runT] at hy
  split at hy
  ·cases hy
  ·rename_i h1
   split at hy
   ·cases hy
   ·rename_i h2
    have hp := Cl.needs_pos c.w (first x.nx)
    have hf : first x.nx < 4 := by have := Cl.first_lt (nx := x.nx) (by rw [hx.nx]; decide); rwa [hx.nx] at this
    have hk := hx.k
    have hat : atN x ≤ to := by
     rcases Nat.lt_or_ge to (atN x) with h3 | h3
     ·exact absurd (.inr h3) h1
     ·exact h3
    rcases List.mem_cons.1 hy with rfl | hy
    ·exact ⟨hm _ hf, hat, hf, doT_len ho hx.q hf (by omega)⟩
    ·refine runT_all ho ht f (nextS c x) (hx.next ht h1 h2) ?_ y hy
     intro i hi
     unfold nextS
     simp only
     rw [List.getD_eq_getElem?_getD, List.getElem?_set]
     have h5 : m ≤ atN x := hm _ hf
     by_cases e : first x.nx = i
     ·subst e
      rw [if_pos rfl, if_pos (by rw [hx.nx]; exact hf)]
      show m ≤ atN x + _
      omega
     ·rw [if_neg e, ← List.getD_eq_getElem?_getD]
      exact hm i hi
theorem nx_one {i : Nat} (hs : ¬ c.s.length < 16) (h : i < 4) : 1 ≤ (newCs c).nx.getD i 0 := by
 unfold newCs
 rw [if_neg hs]
 rcases i with _ | _ | _ | _ | _
 ·show 1 ≤ waitN c 0 0; unfold waitN; omega
 ·show 1 ≤ waitN c 1 4; unfold waitN; omega
 ·show 1 ≤ waitN c 2 8; unfold waitN; omega
 ·show 1 ≤ waitN c 3 12; unfold waitN; omega
 ·omega
end
/-- The example: there is a pull at the first tick. -/
def mnX : List Int := [255, 255, 255, 0]
def xTape : List UInt8 := tp25 [120] 400
def xRun : List (Nat × Nat) × Cl.Ct := Cl.run 400 12 (waitN (c25 mnX xTape)) 1 401 ⟨16, nxs (c25 mnX xTape) 4, false⟩
end Go.Proofs.D

/- The laws of the client's chapter: the works, what is submitted. -/
namespace Go.Proofs.D
open Go.Lg Go.Sha Go.Hd Go.Cv
open Go.Proofs.C (Hop hopP hopB parse pathE encB tp word TIn Nd ndc St stc TownOk HostOf IsHost wayR mayP TownOk belowR WayIn LooseOf HomeOf NodesIn)
open Go.Cl (first firstOf needs)
set_option maxRecDepth 1000000
theorem xrun_has : (xRun.1.any fun y => y == (1, 3)) = true := by decide +kernel
set_option maxRecDepth 100000
theorem rdStr25 {S : Ents} {t : ByteArray} (h : Rd Tryz.prog S 9 [.string t]) : ∃ s : List UInt8, t = str s ∧ s.length + 5000 ≤ big := by
 obtain ⟨l, hl, hw⟩ := h.open_str Tryz.underlying9
 cases hl
 exact ⟨l, rfl, by unfold reachBytes at hw; unfold big; omega⟩
abbrev Say := Int × Int × Bool
def sayc (x : Say) : List Value := [.int .i64 x.1, .int .i64 x.2.1, .bool x.2.2]
theorem say_flat (l : List Say) : ∀ x ∈ l, (sayc x).length = 3 := fun _ _ => rfl
theorem rdSay {S : Ents} {v : Value} (h : Rd Tryz.prog S 22 [v]) : ∃ l : List Say, Reads S 3 v l.length (l.flatMap sayc) ∧ l.length ≤ 1099511627776000 := by
 obtain ⟨l, hr, hw, _, _⟩ := h.rows (f := sayc) (p := fun _ => True) Tryz.underlying22 (sz := 3) rfl (fun r hr => by
  obtain ⟨hl, hf⟩ := hr.open_struct Tryz.underlying107
  have h3 : r.length = 3 := hl
  match r, h3 with
  | [a, b, d], _ =>
   obtain ⟨n1, e1, _⟩ := (hf _ (.head _)).open_int (cs := [a]) Tryz.underlying3
   obtain ⟨n2, e2, _⟩ := (hf _ (.tail _ (.head _))).open_int (cs := [b]) Tryz.underlying3
   obtain ⟨n3, e3⟩ := (hf _ (.tail _ (.tail _ (.head _)))).open_bool (cs := [d]) Tryz.underlying4
   cases e1; cases e2; cases e3
   exact ⟨(n1, n2, n3), rfl, trivial⟩)
 refine ⟨l, hr, ?_⟩
 have : l.length * 24 ≤ reachBytes := hw
 unfold reachBytes at this; omega
theorem zeros_read {L n : Nat} {S : Ents} (h : (L, cel (zeros (cellsOf (Value.int .u8 0)) n) 5) ∈ S) : Reads S 1 (.slice (some ⟨L, 0, none⟩) n n) n (byteCells (List.replicate n 0)) := by
 have e : ∀ n, zeros (cellsOf (Value.int .u8 0)) n = byteCells (List.replicate n 0) := by
  intro n
  induction n with
  | zero => rfl
  | succ n ih => rw [List.replicate_succ]; show Value.int .u8 0 :: zeros _ n = _; rw [ih]; rfl
 rw [e] at h
 have hl : (byteCells (List.replicate n 0)).length = n := by rw [byteCells_length, List.length_replicate]
 have := Reads.row (k := n) (sz := 1) (cap := n) (l := byteCells (List.replicate n 0)) h (by omega)
 rwa [Nat.mul_one, List.take_of_length_le (by omega)] at this
attribute [local irreducible] derive hmac publicR partsB sha
section
variable {B : Nat} {S R : Ents} {Q : Value → Ents → Prop} {c : Ck}
theorem cnowC {x : Cs} {now : Int} {many : Nat} {W : Ents} (hW : CliIn B c x now many W) (hs : ∀ y ∈ W, y ∈ S) (H : Q (.int .i64 now) S) : CallWp Tryz.prog B 22 #[pt c.p] Q S := by
 obtain ⟨qv, qes, lv, les, rfl, _, _⟩ := hW
 refine Yx (args := [_]) Tryz.func22 Tryz.ntmps22 ?_
 refine Yn 1 rfl ?_
 refine Yg 3 rfl ?_
 refine Yl (hs _ (.head _)) ?_
 refine Yz 1 rfl ?_
 refine Wp.ret ⟨trivial, _, ⟨_, _, rfl, rfl, rfl⟩, ?_⟩
 exact H
/-- A message is submitted, or there is no room. -/
theorem csubW {x : Cs} {now to : Int} {many : Nat} {W : Ents} {b : Nd} {body : List UInt8} (ho : CkOk B R c) (hR : ∀ y ∈ R, y ∈ S) (hx : CsOk c x) (hmq : many ≤ x.q.length + x.k) (hW : CliIn B c x now many W) (hb : HostOf (c.h0 :: c.ms) c.ss to b 0) (h0 : 0 ≤ to) (h1 : to < 64) (hbl : body.length ≤ 2048)
  (H : ∀ v q' many' W', (∃ ps, q' = x.q ++ ps ∧ ∀ p ∈ ps, 16 ≤ p.2.length) → CsOk c { x with q := q' } → many' ≤ q'.length + x.k → CliIn B c { x with q := q' } now many' W' → Q v (W' ++ S)) :
  CallWp Tryz.prog B 38 #[pt c.p, .int .i64 to, .string (str body)] Q (W ++ S) := by
 obtain ⟨qv, qes, lv, les, rfl, hq, hl⟩ := hW
 have hpn : 1 ≤ partN body ∧ partN body ≤ 11 := by unfold partN; omega
 have hk := hx.k
 have hsl := ho.sl
 have hql := hx.ql
 have e0 : ∀ (qv : Value) (qes : Ents) (many : Nat), (cle c qv x.nx now many x.seq x.dry :: tp c.px c.s x.k :: (qes ++ (lde c x.lnow lv :: les))) ++ S = cle c qv x.nx now many x.seq x.dry :: tp c.px c.s x.k :: (qes ++ (lde c x.lnow lv :: (les ++ S))) := fun _ _ _ => by simp
 rw [e0]
 have pm : ∀ (qv : Value) (qes : Ents) (many : Nat), List.Perm (cle c qv x.nx now many x.seq x.dry :: tp c.px c.s x.k :: (qes ++ (lde c x.lnow lv :: (les ++ S)))) (cle c qv x.nx now many x.seq x.dry :: (qes ++ (tp c.px c.s x.k :: lde c x.lnow lv :: (les ++ S)))) := fun qv qes many => permBy [[cle c qv x.nx now many x.seq x.dry], [tp c.px c.s x.k], qes] (lde c x.lnow lv :: (les ++ S)) [0, 1, 2] [0, 2, 1] (by decide)
 refine CallWp.permS (pm qv qes many) (C.subRet (csubmitC (S := tp c.px c.s x.k :: lde c x.lnow lv :: (les ++ S)) ho (fun y hy => .tail _ (.tail _ (List.mem_append_right _ (hR y hy)))) hq hb hbl hql (by omega) ?_ ?_))
 ·intro _
  have h := H (.tuple #[.string (str []), .int .i64 180]) x.q many _ ⟨[], by simp, by simp⟩ hx hmq ⟨qv, qes, lv, les, rfl, hq, hl⟩
  exact ⟨_, _, (pm qv qes many).symm, .refl _, by rw [← e0]; exact h⟩
 ·intro hle qv' qes' hq'
  have hP := subP_ok (c := c) (many := many) (body := body) hb h0 h1
  have hlen : (x.q ++ subP c many to body).length = x.q.length + partN body := by rw [List.length_append, subP_len]
  have hx' : CsOk c { x with q := x.q ++ subP c many to body } := { hx with q := fun p hp => (List.mem_append.1 hp).elim (hx.q p) (fun h => (hP p h).1), ql := by rw [hlen]; exact hle }
  have h := H (.tuple #[.string (str (subId c many)), .int .i64 0]) (x.q ++ subP c many to body) (many + 1) _ ⟨subP c many to body, rfl, fun p hp => (hP p hp).2⟩ hx' (by rw [hlen]; omega) ⟨qv', qes', lv, les, rfl, hq', hl⟩
  exact ⟨_, _, (pm qv' qes' (many + 1)).symm, .refl _, by rw [← e0]; exact h⟩
set_option maxHeartbeats 4000000 in
/-- All that is said up to a tick. -/
theorem sub25C {x : Cs} {now : Int} {many frm at_ t : Nat} {W : Ents} {lv : Value} {l : List Say} (ho : CkOk B R c) (hR : ∀ y ∈ R, y ∈ S) (hh : c.h0 = h25 ∧ c.ms = m25 ∧ c.ss = s25) (hx : CsOk c x) (hmq : many ≤ x.q.length + x.k) (hW : CliIn B c x now many W) (hlr : Reads S 3 lv l.length (l.flatMap sayc)) (hll : l.length ≤ 1099511627776000) (ht : t ≤ 1000) (hf : frm ≤ l.length) (ha : at_ ≤ 1000)
  (H : ∀ q' many' W' (f a : Nat), (∃ ps, q' = x.q ++ ps ∧ ∀ p ∈ ps, 16 ≤ p.2.length) → CsOk c { x with q := q' } → many' ≤ q'.length + x.k → CliIn B c { x with q := q' } now many' W' → f ≤ l.length → a ≤ 1000 → Q (.tuple #[.int .i64 (f : Int), .int .i64 (a : Int)]) (W' ++ S)) :
  CallWp Tryz.prog B 11 #[pt c.p, lv, .int .i64 (frm : Int), .int .i64 (at_ : Int), .int .i64 (t : Int)] Q (W ++ S) := by
 obtain ⟨la, lc, rfl⟩ := hlr.form
 have hb3 : HostOf (c.h0 :: c.ms) c.ss 3 (0, pt25 0) 0 := by rw [hh.1, hh.2.1, hh.2.2]; exact host3
 have hb4 : HostOf (c.h0 :: c.ms) c.ss 4 (1, pt25 1) 0 := by rw [hh.1, hh.2.1, hh.2.2]; exact host4
 refine Yx (args := [_, _, _, _, _]) Tryz.func11 Tryz.ntmps11 ?_
 refine Yn 2 rfl ?_
 refine Wp.seq ?_
 refine Wp.block ?_
 refine Wp.loopS (α := Nat × Nat × List Nd × Nat × Ents) (fun z => l.length - z.1) (fun z => [(0, pt c.p), (1, .slice la l.length lc), (2, .int .i64 (z.1 : Int)), (3, .int .i64 (z.2.1 : Int)), (4, .int .i64 (t : Int))]) (fun z => z.2.2.2.2 ++ S) (fun z => z.1 ≤ l.length ∧ z.2.1 ≤ 1000 ∧ (∃ ps, z.2.2.1 = x.q ++ ps ∧ ∀ p ∈ ps, 16 ≤ p.2.length) ∧ CsOk c { x with q := z.2.2.1 } ∧ z.2.2.2.1 ≤ z.2.2.1.length + x.k ∧ CliIn B c { x with q := z.2.2.1 } now z.2.2.2.1 z.2.2.2.2) (frm, at_, x.q, many, W) ?_ (.refl _) ⟨hf, ha, ⟨[], by simp, by simp⟩, hx, hmq, hW⟩ ?_
 ·exact .cons rfl (.cons rfl (.cons rfl (.cons rfl (.cons rfl (.nil _)))))
 rintro ⟨f, a, q, m, W1⟩ ⟨hf1, ha1, hps, hx1, hm1, hW1⟩
 simp only at hf1 ha1 hps hx1 hm1 hW1 ⊢
 refine Wp.seq ?_
 refine Yg 5 rfl ?_
 refine OWp.part 17 rfl (fun c1 => ?_) (fun c1 => ?_)
 ·have c1 := of_decide_eq_true c1
  have hlt : f < l.length := by omega
  obtain ⟨b, o, cap', l', e, fz, hv, hm', hat⟩ := hlr.elem (sz := 3) (say_flat l) (by omega)
  obtain ⟨rfl, rfl⟩ : la = some ⟨b, o, none⟩ ∧ lc = cap' := by simpa using hv
  refine Ye 3 rfl ?_
  refine OWp.g rfl rfl (Gives.indexAddrSlice (f) rfl rfl rfl rfl rfl rfl (by omega)) ?_
  refine Ye 1 rfl ?_
  refine OWp.load (List.mem_append_right _ hm') rfl rfl rfl rfl ((partAt_in (m := 0) (hat f hlt) rfl (by decide) (by decide)).trans rfl) ?_
  refine Yc rfl rfl (among25C (m := 8) (by decide) (by decide) ?_)
  obtain ⟨g, hg, hg8⟩ : ∃ g : Nat, l[f].1 % ((8 : Nat) : Int) = (g : Int) ∧ g < 8 := ⟨(l[f].1 % 8).toNat, by omega, by omega⟩
  rw [hg]
  refine Yz 4 rfl ?_
  refine Wp.cond rfl (fun c2 => ?_) (fun c2 => ?_)
  ·have c2 := of_decide_eq_true c2
   rw [i64_id (by omega) (by omega)] at c2
   refine Wp.skip ?_
   refine Wp.block ?_
   refine Yg 3 rfl ?_
   refine OWp.g rfl rfl (Gives.indexAddrSlice (f) rfl rfl rfl rfl rfl rfl (by omega)) ?_
   refine Ye 1 rfl ?_
   refine OWp.load (List.mem_append_right _ hm') rfl rfl rfl rfl ((partAt_in (m := 0) (hat f hlt) rfl (by decide) (by decide)).trans rfl) ?_
   refine Yc rfl rfl (among25C (m := 8) (by decide) (by decide) ?_)
   rw [hg]
   refine Yz 2 rfl ?_
   refine Yn 1 rfl ?_
   refine Wp.seqS (α := Int × Nd) (fun y => [(0, pt c.p), (1, .slice (some ⟨b, o, none⟩) l.length lc), (2, .int .i64 (f : Int)), (3, .int .i64 ((a + g : Nat) : Int)), (4, .int .i64 (t : Int)), (12, .int .i64 y.1)]) (fun _ => W1 ++ S) (fun y => HostOf (c.h0 :: c.ms) c.ss y.1 y.2 0 ∧ 0 ≤ y.1 ∧ y.1 < 64) ?_ ?_
   ·skip
    refine Yg 2 rfl ?_
    refine OWp.g rfl rfl (Gives.indexAddrSlice (f) rfl rfl rfl rfl rfl rfl (by omega)) ?_
    refine Ye 1 rfl ?_
    refine OWp.load (List.mem_append_right _ hm') rfl rfl rfl rfl ((partAt_in (m := 2) (hat f hlt) rfl (by decide) (by decide)).trans rfl) ?_
    cases l[f].2.2
    ·skip
     refine OWp.nil ?_
     refine Cn rfl ?_
     refine Wp.skip ?_
     exact ⟨(3, (0, pt25 0)), ⟨hb3, by decide, by decide⟩, .cons rfl (.cons rfl (.cons rfl (.cons' rfl (int_eq (by rw [i64_id] <;> omega)) (.cons rfl (.cons rfl (.nil _)))))), .refl _⟩
    refine OWp.nil ?_
    refine Cy rfl ?_
    refine Wp.region ?_
    refine Yz 1 rfl ?_
    exact ⟨(4, (1, pt25 1)), ⟨hb4, by decide, by decide⟩, .cons rfl (.cons rfl (.cons rfl (.cons' rfl (int_eq (by rw [i64_id] <;> omega)) (.cons rfl (.cons rfl (.nil _)))))), .refl _⟩
   rintro ⟨to, bn⟩ ⟨hbn, hto0, hto1⟩
   simp only at hbn hto0 hto1 ⊢
   refine Yg 4 rfl ?_
   refine OWp.g rfl rfl (Gives.indexAddrSlice (f) rfl rfl rfl rfl rfl rfl (by omega)) ?_
   refine Ye 1 rfl ?_
   refine OWp.load (List.mem_append_right _ hm') rfl rfl rfl rfl ((partAt_in (m := 1) (hat f hlt) rfl (by decide) (by decide)).trans rfl) ?_
   refine Yc rfl rfl (among25C (m := 500) (by decide) (by decide) ?_)
   obtain ⟨n, hn, hn5⟩ : ∃ n : Nat, l[f].2.1 % ((500 : Nat) : Int) = (n : Int) ∧ n < 500 := ⟨(l[f].2.1 % 500).toNat, by omega, by omega⟩
   rw [hn]
   refine OWp.step rfl (Step.makeSlice (len := n) (cap := n) rfl rfl rfl rfl rfl rfl (by decide) rfl rfl (Nat.le_refl _) (by show 1 * n ≤ _; omega) (by omega) ?_)
   intro L50 hB50 hL50
   refine OWp.gives rfl rfl (Gives.bytesToStr (l := List.replicate n 0) (k := n) rfl rfl rfl rfl rfl (zeros_read (.head _))) (fun _ h => h) ?_
   refine OWp.drop (S' := W1 ++ S) (List.sublist_cons_self _ _) ?_
   refine Yc rfl rfl (csubW ho hR hx1 hm1 hW1 hbn hto0 hto1 (by rw [List.length_replicate]; omega) ?_)
   rintro v q2 m2 W2 ⟨ps2, hq2, hps2⟩ hx2 hm2 hW2
   refine OWp.nil ?_
   refine Wp.region ?_
   refine Yz 3 rfl ?_
   obtain ⟨ps, hq, hps⟩ := hps
   refine ⟨(f + 1, a + g, q2, m2, W2), by simp only; omega, ⟨hlt, by simp only; omega, ⟨ps ++ ps2, by rw [hq2, hq, List.append_assoc], fun p hp => (List.mem_append.1 hp).elim (hps p) (hps2 p)⟩, hx2, hm2, hW2⟩, .cons rfl (.cons rfl (.cons' rfl (int_eq (show IntKind.i64.wrap ((f : Int) + 1) = ((f + 1 : Nat) : Int) by rw [i64_id] <;> omega)) (.cons rfl (.cons rfl (.nil _))))), .refl _⟩
  have c2 := of_decide_eq_false c2
  refine Wp.exit ?_
  refine Yn 4 rfl ?_
  refine Wp.ret ⟨trivial, _, ⟨_, _, rfl, rfl, _, _, rfl, rfl, rfl⟩, ?_⟩
  exact H q m W1 f a hps hx1 hm1 hW1 hf1 ha1
 have c1 := of_decide_eq_false c1
 refine Yz 11 rfl ?_
 refine Cn rfl ?_
 refine Wp.exit ?_
 refine Yn 4 rfl ?_
 refine Wp.ret ⟨trivial, _, ⟨_, _, rfl, rfl, _, _, rfl, rfl, rfl⟩, ?_⟩
 exact H q m W1 f a hps hx1 hm1 hW1 hf1 ha1
end
end Go.Proofs.D

/- The laws of the client's chapter: the example. -/
namespace Go.Proofs.D
open Go.Lg Go.Sha Go.Hd Go.Cv
open Go.Proofs.C (Hop hopP hopB parse pathE encB tp word TIn Nd ndc St stc TownOk HostOf IsHost wayR mayP TownOk belowR WayIn LooseOf HomeOf NodesIn)
open Go.Cl (first firstOf needs)
set_option maxRecDepth 100000
theorem tp25_len (seed : List UInt8) (n : Nat) : (tp25 seed n).length = n := derive_len _ _ _
theorem xs_new (c : Ck) (h : ¬ c.s.length < 16) : newCs c = ⟨16, nxs c 4, [], [], 0, 0, false⟩ := if_neg h
theorem mnX_may : ∀ i, mayP 255 [mnX.getD i 0] := getD_all (p := fun m => mayP 255 [m]) (mayP_of (by decide) (by decide) (by decide) (by decide)) (fun x hx => by
 simp only [mnX, List.mem_cons, List.mem_nil_iff, or_false] at hx
 rcases hx with rfl | rfl | rfl | rfl <;> exact mayP_of (by decide) (by decide) (by decide) (by decide))
theorem mn25_may : ∀ i, mayP 255 [mn25.getD i 0] := getD_all (p := fun m => mayP 255 [m]) (mayP_of (by decide) (by decide) (by decide) (by decide)) (fun x hx => by
 simp only [mn25, List.mem_cons, List.mem_nil_iff, or_false] at hx
 rcases hx with rfl | rfl | rfl | rfl <;> exact mayP_of (by decide) (by decide) (by decide) (by decide))
theorem outs_small {B : Nat} {v : Value} {outs : List Snt} {es : Ents} (h : Lg.Own B 47 3 v outs.length (outs.flatMap sntc) es) : outs.length ≤ 9223372036854775807 := by
 have hm : maxLen = 9223372036854775807 := rfl
 obtain ⟨_, ⟨_, h, _⟩ | ⟨b, cap, cur, _, _, _, h1, h2, _⟩⟩ := h
 ·omega
 ·omega
theorem snt_at {S : Ents} {v : Value} {l : List Snt} (h : Reads S 3 v l.length (l.flatMap sntc)) (h0 : 0 < l.length) : ∃ b o cap L e fz, v = .slice (some ⟨b, o, none⟩) l.length cap ∧ (b, cel L e fz) ∈ S ∧ ∀ i (h : i < l.length), (L.drop (o + i * 3)).take 3 = sntc l[i] := h.elem (sz := 3) (snt_flat l) h0
attribute [local irreducible] derive hmac publicR partsB sha
section
variable {B : Nat} {S R : Ents} {Q : Value → Ents → Prop} {c : Ck}
set_option maxHeartbeats 4000000 in
theorem works25C (hks : KsIn S) (H : Q (.bool true) S) : CallWp Tryz.prog B 6 #[] Q S := by
 have hxl : xTape.length = 400 := tp25_len _ _
 refine CallWp.dropRet ?_
 refine Yx (args := []) Tryz.func6 Tryz.ntmps6 ?_
 refine Yn 1 rfl ?_
 refine Yq ?_
 refine Yc rfl rfl (tape25C (seed := [120]) (n := 400) hks (by decide) (by decide) ?_)
 refine Yc rfl rfl (habit25C hks ?_)
 intro hv mv sv W hT
 obtain ⟨a1, c1, a2, c2, a3, c3, rfl, rfl, rfl⟩ := hT.forms
 refine Ya rfl rfl rfl rfl fun L1 hBL1 hLL1 => ?_
 refine OWp.step rfl (Step.storeAs 0 (hbc (c25 mn25 xTape) (.slice a1 h25.length c1) (.slice a2 m25.length c2) (.slice a3 s25.length c3)) rfl rfl rfl rfl rfl (by assumption) rfl (Unfz.zero _) rfl (Nat.le_of_ble_eq_true rfl) rfl rfl ?_)
 refine OWp.nil ?_
 refine Yq ?_
 refine OWp.g rfl rfl (Gives.build rfl rfl) ?_
 refine Ye 1 rfl ?_
 refine OWp.step rfl (Step.storeAs 0 (hbc (c25 mnX xTape) (.slice a1 h25.length c1) (.slice a2 m25.length c2) (.slice a3 s25.length c3)) rfl rfl rfl rfl rfl (by assumption) rfl (Unfz.zero _) rfl (Nat.le_of_ble_eq_true rfl) rfl rfl ?_)
 refine OWp.nil ?_
 refine Yq ?_
 refine Yl m0 ?_
 refine Yc rfl rfl (cnewC (c := c25 mnX xTape) (hb25 (KsIn_of hks fun x hx => .tail _ (List.mem_append_right _ hx)) (hT.mono fun x hx => .tail _ (List.mem_append_left _ hx)) mnX_may (by rw [hxl]; decide)) ?_)
 intro p px pj pl hv' mv' sv' Wc X hck0 hin hpj
 have hck := hck0 ((L1, cel (hbc (c25 mnX xTape) (.slice a1 h25.length c1) (.slice a2 m25.length c2) (.slice a3 s25.length c3)) 33) :: (W ++ S)) (KsIn_of hks fun x hx => .tail _ (List.mem_append_right _ hx))
 obtain ⟨c, hc⟩ : ∃ x, x = (c25 mnX xTape).laid p px pj pl hv' mv' sv' := ⟨_, rfl⟩
 rw [← hc] at hck hin
 have hcs : c.s.length = 400 := by rw [hc]; exact hxl
 have hnew := newCs_ok c (by omega)
 have hnc : newCs (c25 mnX xTape) = newCs c := by rw [hc]; rfl
 rw [hnc] at hin
 have hcp : pt p = pt c.p := by rw [hc]; rfl
 rw [hcp]
 refine Yz 5 rfl ?_
 refine Wp.seq ?_
 refine Yg 3 rfl ?_
 refine Yz 3 rfl ?_
 refine Cu rfl (by exact fun h => h rfl) fun cc1 => ?_
 refine Wp.skip ?_
 refine Yg 1 rfl ?_
 refine Yc rfl rfl (tickC (to := 1) hck (fun y hy => .tail _ hy) hnew hin (by decide) (by decide) (by decide) (by decide) ?_)
 intro W2 ov oes hin2 hov hok2
 obtain ⟨outs, houts⟩ : ∃ x, x = (tickT c 1 (newCs c)).1 := ⟨_, rfl⟩
 rw [← houts] at hov
 have hall : ∀ y ∈ outs, 1 ≤ y.1 ∧ y.1 ≤ 1 ∧ y.2.1 < 4 ∧ y.2.2.length = kLen y.2.1 := by rw [houts]; exact runT_all hck (by decide) _ _ hnew (fun i hi => nx_one (by omega) hi)
 have hmap : outs.map (fun y => (y.1, y.2.1)) = xRun.1 := by
  rw [houts]
  have h1 := (runT_run (c := c) (to := 1) (c.s.length + 1) (newCs c)).1
  unfold tickT
  rw [h1, xs_new c (by omega), hcs]
  rw [hc]
  rfl
 have hex : ∃ y ∈ outs, y.2.1 = 3 := by
  obtain ⟨z, hz, hz2⟩ := List.any_eq_true.1 xrun_has
  rw [← hmap] at hz
  obtain ⟨y, hy, rfl⟩ := List.mem_map.1 hz
  have := of_decide_eq_true (show decide ((y.1, y.2.1) = (1, 3)) = true by simpa using hz2)
  exact ⟨y, hy, congrArg Prod.snd this⟩
 have hol := outs_small hov
 have hpos : 0 < outs.length := by obtain ⟨y, hy, _⟩ := hex; exact List.length_pos_of_mem hy
 obtain ⟨b, o, oc, l', e, fz, rfl, hm', hat⟩ := snt_at (hov.reads.mono (S' := W2 ++ (oes ++ ((pj, cel [.int .i64 16, .slice none 0 0, .int .i64 64, .slice none 0 0] 156) :: (X ++ ((L1, cel (hbc (c25 mnX xTape) (.slice a1 h25.length c1) (.slice a2 m25.length c2) (.slice a3 s25.length c3)) 33) :: (W ++ S)))))) fun x hx => List.mem_append_right _ (List.mem_append_left _ hx)) hpos
 refine Yz 5 rfl ?_
 refine Wp.seq ?_
 refine Yn 3 rfl ?_
 refine Wp.block ?_
 refine Wp.loopS (α := Nat) (fun i => outs.length - i) (fun i => [(2, pt c.p), (3, .int .i64 0), (27, .slice (some ⟨b, o, none⟩) outs.length oc), (28, .int .i64 (outs.length : Int)), (29, .int .i64 (i : Int))]) (fun _ => W2 ++ (oes ++ ((pj, cel [.int .i64 16, .slice none 0 0, .int .i64 64, .slice none 0 0] 156) :: (X ++ ((L1, cel (hbc (c25 mnX xTape) (.slice a1 h25.length c1) (.slice a2 m25.length c2) (.slice a3 s25.length c3)) 33) :: (W ++ S)))))) (fun i => i ≤ outs.length ∧ ∀ j (h : j < outs.length), j < i → outs[j].2.1 ≠ 3) 0 ?_ (.refl _) ⟨Nat.zero_le _, fun _ _ h => by omega⟩ ?_
 ·exact .cons rfl (.cons rfl (.cons rfl (.cons rfl (.cons rfl (.nil _)))))
 rintro i ⟨hi, hno⟩
 refine Yn 1 rfl ?_
 refine Wp.seq ?_
 refine Wp.cond rfl (fun d1 => ?_) (fun d1 => ?_)
 ·have d1 := of_decide_eq_true d1
  have hlt : i < outs.length := by omega
  obtain ⟨h1, h2, h3, h4⟩ := hall _ (List.getElem_mem hlt)
  refine Wp.skip ?_
  refine Wp.seq ?_
  refine Wp.block ?_
  refine Yq ?_
  refine OWp.g rfl rfl (Gives.indexAddrSlice (i) rfl rfl rfl rfl rfl rfl (by omega)) ?_
  refine OWp.load hm' rfl rfl rfl rfl (partAt_agg (hat i hlt) rfl rfl rfl) ?_
  refine Ya rfl rfl rfl rfl fun L6 hBL6 hLL6 => ?_
  refine OWp.step rfl (Step.storeAs 0 (sntc outs[i]) rfl rfl rfl rfl rfl (by assumption) rfl (Unfz.zero _) rfl (Nat.le_of_ble_eq_true rfl) rfl rfl ?_)
  refine OWp.nil ?_
  refine Yg 1 rfl ?_
  refine Yl m0 ?_
  refine Yz 1 rfl ?_
  refine Wp.cond rfl (fun d2 => ?_) (fun d2 => ?_)
  ·have d2 := of_decide_eq_true d2
   have hk3 : outs[i].2.1 = 3 := by omega
   refine Wp.seq (Wp.regionDraw [0, 1, 2, 3, 4, 5, 6, 7, 8, 9, 10, 11, 12, 13, 14, 15, 16, 17, 18, 19] [11, 16] rfl (by decide +kernel) ?_)
   refine DWp.evs 3 rfl ?_
   refine DWp.part 38 rfl (fun cc2 => ?_) (fun cc2 => absurd (of_decide_eq_false cc2) (by exact fun h => h rfl))
   have cc2 := of_decide_eq_true cc2
   refine DWp.evs 1 rfl ?_
   refine Yd m0 ?_
   refine DWp.evs 3 rfl ?_
   refine DWp.part 43 rfl (fun cc3 => ?_) (fun cc3 => absurd (of_decide_eq_false cc3) (by omega))
   have cc3 := of_decide_eq_true cc3
   refine DWp.evs 1 rfl ?_
   refine Yd m0 ?_
   refine DWp.evs 1 rfl ?_
   refine DWp.stepGrow rfl rfl rfl (Step.call rfl rfl rfl rfl rfl rfl ((mlongC (n := 38) (.inr (.inl ⟨rfl, rfl⟩)) ?_)))
   refine ⟨fun _ hy => hy, ?_⟩
   refine DWp.evs 3 rfl ?_
   refine DWp.part 50 rfl (fun cc4 => ?_) (fun cc4 => absurd (of_decide_eq_false cc4) (by exact fun h => h (by rw [h4, hk3]; rfl)))
   have cc4 := of_decide_eq_true cc4
   refine DWp.evs 1 rfl ?_
   refine DWp.stepGrow rfl rfl rfl (Step.call rfl rfl rfl rfl rfl rfl ((cnowC hin2 (fun y hy => .tail _ (List.mem_append_left _ hy)) ?_)))
   refine ⟨fun _ hy => hy, ?_⟩
   refine DWp.evs 3 rfl ?_
   refine DWp.nil ?_
   refine Wp.ret ⟨trivial, _, ⟨_, _, rfl, rfl, rfl⟩, ?_⟩
   exact ⟨S, (by repeat (first | exact List.Sublist.refl _ | exact List.sublist_append_right _ _ | apply List.Sublist.cons | refine List.Sublist.trans ?_ (List.sublist_append_right _ _))), H⟩
  have d2 := of_decide_eq_false d2
  refine Wp.skip ?_
  refine Wp.drop (S' := W2 ++ (oes ++ ((pj, cel [.int .i64 16, .slice none 0 0, .int .i64 64, .slice none 0 0] 156) :: (X ++ ((L1, cel (hbc (c25 mnX xTape) (.slice a1 h25.length c1) (.slice a2 m25.length c2) (.slice a3 s25.length c3)) 33) :: (W ++ S)))))) (List.sublist_cons_self _ _) ?_
  refine Wp.region ?_
  refine Yz 2 rfl ?_
  refine ⟨i + 1, by omega, ⟨by omega, fun j hj hji => ?_⟩, .cons rfl (.cons rfl (.cons rfl (.cons rfl (.cons' rfl (int_eq (show IntKind.i64.wrap ((i : Int) + 1) = ((i + 1 : Nat) : Int) by rw [i64_id] <;> omega)) (.nil _))))), .refl _⟩
  by_cases e : j = i
  ·subst e; omega
  ·exact hno j hj (by omega)
 have d1 := of_decide_eq_false d1
 refine Wp.exit ?_
 refine Yn 1 rfl ?_
 refine Wp.ret ⟨trivial, _, ⟨_, _, rfl, rfl, rfl⟩, ?_⟩
 exfalso
 obtain ⟨y, hy, hy3⟩ := hex
 obtain ⟨j, hj, rfl⟩ := List.mem_iff_getElem.1 hy
 exact hno j hj (by omega) hy3
end
end Go.Proofs.D

/- Messages: replies may be; how they are written. -/
namespace Go.Proofs.D
open Go.Lg Go.Sha Go.Hd Go.Cv
set_option maxRecDepth 100000
/-- The first n are entries, the others are empty. -/
def fillN (l : List Slot) (n : Nat) : Prop := n ≤ l.length ∧ (∀ i (h : i < l.length), i < n → entP l[i]) ∧ ∀ i (h : i < l.length), n ≤ i → l[i] = ([], [])
theorem flat_drop2 : ∀ (l : List Slot) (n : Nat), (l.flatMap slc).drop (n * 2) = (l.drop n).flatMap slc
 | _, 0 => by simp
 | [], _ + 1 => by simp
 | x :: l, n + 1 => by
  rw [List.drop_succ_cons, ← flat_drop2 l n, Nat.succ_mul]
  rfl
theorem no_ent : ¬ entP (([], []) : Slot) := by decide
theorem slotG : Tryz.prog.eqGuardType Tryz.prog.depth 64 = false := by decide +kernel
def eqSl (x y : Slot) : Bool := decide (x.1 = y.1) && (decide (x.2 = y.2) && true)
theorem slHeld : Tryz.prog.stoodInHeld 64 = false := by decide +kernel
theorem slEq (x y : Slot) : eqIn Tryz.prog 10 64 (.agg (slc x).toArray) (.agg (slc y).toArray) = some (eqSl x y) := by
 unfold eqIn
 rw [Tryz.underlying64, slHeld]
 show eqFs Tryz.prog 9 (slc x) (slc y) _ = _
 rfl
/-- What is read of a slice's end. -/
theorem tailSl {S : Ents} {b o k cap n : Nat} {l : List Slot} (h : Reads S 2 (.slice (some ⟨b, o, none⟩) k cap) k (l.flatMap slc)) (hk : k = l.length) (hn : n ≤ k) (hc : k ≤ cap) : Reads S 2 (.slice (some ⟨b, if cap = n then o else o + n * 2, none⟩) (k - n) (cap - n)) (k - n) ((l.drop n).flatMap slc) := by
 by_cases e : n = k
 ·subst e
  rw [show n - n = 0 by omega, hk, List.drop_length]
  exact Reads.empty _ _ _ _
 rw [if_neg (by omega)]
 obtain ⟨hl, ⟨_, h0⟩ | ⟨b', o', cap', l', e', fz, hv, hm, hle, hx⟩⟩ := h
 ·omega
 cases hv
 refine ⟨?_, .inr ⟨_, _, _, l', e', fz, rfl, hm, ?_, ?_⟩⟩
 ·rw [← flat_drop2, List.length_drop, hl, Nat.sub_mul]
 ·have : n * 2 + (k - n) * 2 = k * 2 := by omega
  omega
 ·rw [← flat_drop2, ← hx, List.drop_take, List.drop_drop, Nat.sub_mul]
section
variable {B : Nat} {S R : Ents} {Q : Value → Ents → Prop}
theorem filled1C {x : Slot} (H : Q (.bool (!eqSl x ([], []))) S) : CallWp Tryz.prog B 119 #[.agg (slc x).toArray] Q S := by
 refine CallWp.dropRet ?_
 refine Yx (args := [_]) Tryz.func119 Tryz.ntmps119 ?_
 refine Yq ?_
 refine Yb rfl rfl rfl rfl fun L1 hBL1 hLL1 => ?_
 refine Yz 1 rfl ?_
 refine Yq ?_
 refine Yl m0 ?_
 refine OWp.g rfl rfl (Gives.build rfl rfl) ?_
 refine OWp.g rfl rfl (Gives.neqStruct (r := eqSl x ([], [])) 10 rfl rfl rfl rfl slotG (slEq x ([], []))) ?_
 refine Yz 1 rfl ?_
 refine Wp.ret ⟨trivial, _, ⟨_, _, rfl, rfl, rfl⟩, ?_⟩
 exact ⟨S, subl, H⟩
theorem filledC {v : Value} {l : List Slot} {n : Nat} (hl : Reads S 2 v l.length (l.flatMap slc)) (hcap : ∀ a m c, v = .slice a m c → m ≤ c) (h4 : l.length = 4) (hf : fillN l n) (H : Q (.bool true) S) : CallWp Tryz.prog B 78 #[v] Q S := by
 obtain ⟨f1, f2, f3⟩ := hf
 obtain ⟨b, o, cap', l', e, fz, hv, hm', hat⟩ := hl.elem (sz := 2) (sl_flat l) (by omega)
 cases hv
 have hc := hcap _ _ _ rfl
 refine Yx (args := [_]) Tryz.func78 Tryz.ntmps78 ?_
 refine Yn 1 rfl ?_
 refine Yn 1 rfl ?_
 refine Wp.seq ?_
 refine Wp.block ?_
 refine Wp.loopS (α := Nat) (fun i => l.length - i) (fun i => [(0, .slice (some ⟨b, o, none⟩) l.length cap'), (3, .int .i64 (i : Int))]) (fun _ => S) (fun i => i ≤ n) 0 ?_ (.refl _) (Nat.zero_le _) ?_
 ·exact .cons rfl (.cons rfl (.nil _))
 rintro i hi
 refine Wp.seq ?_
 refine Yg 5 rfl ?_
 refine OWp.part 8 rfl (fun h1 => ?_) (fun h1 => ?_)
 ·have h1 := of_decide_eq_true h1
  have h1' : i < l.length := by omega
  refine Ye 2 rfl ?_
  refine OWp.g rfl rfl (Gives.indexAddrSlice (i) rfl rfl rfl rfl rfl rfl (by omega)) ?_
  refine OWp.load hm' rfl rfl rfl rfl (partAt_agg (hat i h1') rfl rfl rfl) ?_
  refine Yc rfl rfl (entryC ?_)
  by_cases h2 : i < n
  ·skip
   rw [decide_eq_true (f2 i h1' h2)]
   refine Yz 1 rfl ?_
   refine Cy rfl ?_
   refine Wp.skip ?_
   refine Wp.block ?_
   refine Wp.region ?_
   refine Yz 3 rfl ?_
   exact ⟨i + 1, by omega, by omega, .cons rfl (.cons' rfl (int_eq (i64_inc (by omega))) (.nil _)), .refl _⟩
  obtain rfl : i = n := by omega
  rw [f3 i h1' (by omega), decide_eq_false no_ent]
  refine Yz 1 rfl ?_
  refine Cn rfl ?_
  refine Wp.exit ?_
  refine Yg 4 rfl ?_
  refine Dv 20 rfl (by omega) fun cc1 => ?_
  refine Ye 2 rfl ?_
  refine OWp.g rfl rfl ((Gives.sliceEnd (l := i) (h' := l.length) rfl rfl rfl rfl ⟨_, _, rfl, rfl⟩ rfl (by omega) hc)) ?_
  refine Yc rfl rfl (hasSlC (bnd := #[]) (f := fun s => !eqSl s ([], [])) rfl (tailSl hl rfl (by omega) hc) (by rw [List.length_drop]) (by omega) (fun s _ Q' h => filled1C h) ?_)
  rw [show ((l.drop i).any fun s => !eqSl s ([], [])) = false from List.any_eq_false.2 fun x hx => by
   obtain ⟨j, hj, rfl⟩ := List.getElem_of_mem hx
   rw [List.getElem_drop, f3 (i + j) (by rw [List.length_drop] at hj; omega) (by omega)]
   decide]
  refine Yz 3 rfl ?_
  refine Wp.ret ⟨trivial, _, ⟨_, _, rfl, rfl, rfl⟩, ?_⟩
  exact H
 have h1 := of_decide_eq_false h1
 obtain rfl : i = n := by omega
 refine Yz 6 rfl ?_
 refine Cn rfl ?_
 refine Wp.exit ?_
 refine Yg 4 rfl ?_
 refine Dv 20 rfl (by omega) fun cc2 => ?_
 refine Ye 2 rfl ?_
 refine OWp.g rfl rfl ((Gives.sliceEnd (l := i) (h' := l.length) rfl rfl rfl rfl ⟨_, _, rfl, rfl⟩ rfl (by omega) hc)) ?_
 refine Yc rfl rfl (hasSlC (bnd := #[]) (f := fun s => !eqSl s ([], [])) rfl (tailSl hl rfl (by omega) hc) (by rw [List.length_drop]) (by omega) (fun s _ Q' h => filled1C h) ?_)
 rw [show ((l.drop i).any fun s => !eqSl s ([], [])) = false from List.any_eq_false.2 fun x hx => by
  obtain ⟨j, hj, rfl⟩ := List.getElem_of_mem hx
  rw [List.getElem_drop, f3 (i + j) (by rw [List.length_drop] at hj; omega) (by omega)]
  decide]
 refine Yz 3 rfl ?_
 refine Wp.ret ⟨trivial, _, ⟨_, _, rfl, rfl, rfl⟩, ?_⟩
 exact H
/-- The bytes of a slot, of a reply. -/
def slotB (x : Slot) : List UInt8 := x.1 ++ List.replicate (16 - x.1.length) 0 ++ ([UInt8.ofNat x.2.length] ++ (x.2 ++ List.replicate (222 - x.2.length) 0))
def repB (user seq : Nat) (l : List Slot) : List UInt8 := 3 :: (whoB user seq ++ (l.map slotB).flatten)
def slotP (x : Slot) : Prop := x.1.length ≤ 16 ∧ x.2.length ≤ 222
theorem slotB_len {x : Slot} (h : slotP x) : (slotB x).length = 239 := by
 obtain ⟨h1, h2⟩ := h
 simp only [slotB, List.length_append, List.length_replicate, List.length_cons, List.length_nil]
 omega
theorem fill_slotP {l : List Slot} {n : Nat} (h : fillN l n) : ∀ x ∈ l, slotP x := by
 intro x hx
 obtain ⟨i, hi, rfl⟩ := List.getElem_of_mem hx
 by_cases c : i < n
 ·have := h.2.1 i hi c
  exact ⟨Nat.le_of_eq this.1.1, this.2⟩
 ·rw [h.2.2 i hi (by omega)]
  exact ⟨by decide, by decide⟩
theorem checkRepC {user seq : Int} {sv : Value} {l : List Slot} {n : Nat} (hw : whoP user seq) (hl : Reads S 2 sv l.length (l.flatMap slc)) (hcap : ∀ a m c, sv = .slice a m c → m ≤ c) (h4 : l.length = 4) (hf : fillN l n) (H : Q (.int .i64 0) S) : CallWp Tryz.prog B 46 #[.agg (mlc 3 user seq [] [] sv (.slice none 0 0)).toArray] Q S := by
 obtain ⟨w1, w2, w3, w4⟩ := hw
 obtain ⟨ia, ic, rfl⟩ := hl.form
 refine CallWp.dropRet ?_
 refine Yx (args := [_]) Tryz.func46 Tryz.ntmps46 ?_
 refine Yq ?_
 refine Yb rfl rfl rfl rfl fun L1 hBL1 hLL1 => ?_
 refine Yz 1 rfl ?_
 refine Yg 1 rfl ?_
 refine Yl m0 ?_
 refine Ye 2 rfl ?_
 refine Dv 12 rfl (by omega) fun cc1 => ?_
 refine Ye 1 rfl ?_
 refine Yl m0 ?_
 refine Ye 3 rfl ?_
 refine Dv 17 rfl (by omega) fun cc2 => ?_
 refine Ye 1 rfl ?_
 refine Yl m0 ?_
 refine Ye 3 rfl ?_
 refine Dv 22 rfl (by omega) fun cc3 => ?_
 refine Ye 1 rfl ?_
 refine Yl m0 ?_
 refine Yz 3 rfl ?_
 refine Yg 1 rfl ?_
 refine Yl m0 ?_
 refine Ye 2 rfl ?_
 refine OWp.part 30 rfl (fun u0 => ?_) (fun u0 => ?_)
 ·have u0 := of_decide_eq_true u0
  refine Ye 1 rfl ?_
  refine Yl m0 ?_
  refine Yz 3 rfl ?_
  refine Wp.seq (Wp.regionDraw [0, 1, 2, 3, 4, 5, 6, 7, 8, 9, 10, 11, 12, 13, 14, 15, 16, 17] [] rfl (by decide +kernel) ?_)
  refine DWp.evs 1 rfl ?_
  refine Yd m0 ?_
  refine DWp.evs 2 rfl ?_
  refine Yd m0 ?_
  refine DWp.evs 2 rfl ?_
  refine Yd m0 ?_
  refine DWp.evs 3 rfl ?_
  refine Yd m0 ?_
  refine DWp.evs 6 rfl ?_
  refine DWp.nil ?_
  refine Wp.seq ?_
  refine Yg 1 rfl ?_
  refine Yl m0 ?_
  refine OWp.nil ?_
  refine Wp.block ?_
  refine Yn 2 rfl ?_
  refine Ct rfl (by decide) fun cc4 => ?_
  refine Yn 2 rfl ?_
  refine Ct rfl (by decide) fun cc5 => ?_
  refine Yn 2 rfl ?_
  refine Cv rfl (by decide) fun cc6 => ?_
  refine Wp.region ?_
  refine Ye 1 rfl ?_
  refine Yl m0 ?_
  refine Yc rfl rfl (filledC (l := l) (hl.mono fun x h => .tail _ h) hcap h4 hf ?_)
  refine Yz 1 rfl ?_
  refine Wp.seq ?_
  refine Yg 3 rfl ?_
  refine Du 87 rfl (by exact fun h => h w4) fun cc7 => ?_
  refine Ye 4 rfl ?_
  refine Du 91 rfl (by exact fun h => h rfl) fun cc8 => ?_
  refine Ye 4 rfl ?_
  refine Du 95 rfl (by exact fun h => h rfl) fun cc9 => ?_
  refine Ye 4 rfl ?_
  refine Yz 3 rfl ?_
  refine Cu rfl (by exact fun h => h rfl) fun cc10 => ?_
  refine Wp.skip ?_
  refine Yn 1 rfl ?_
  refine Wp.ret ⟨trivial, _, ⟨_, _, rfl, rfl, rfl⟩, ?_⟩
  exact ⟨S, subl, H⟩
 have u0 := of_decide_eq_false u0
 refine Yz 5 rfl ?_
 refine Wp.seq (Wp.regionDraw [0, 1, 2, 3, 4, 5, 6, 7, 8, 9, 10, 11, 12, 13, 14, 15, 16, 17] [] rfl (by decide +kernel) ?_)
 refine DWp.evs 1 rfl ?_
 refine Yd m0 ?_
 refine DWp.evs 2 rfl ?_
 refine Yd m0 ?_
 refine DWp.evs 2 rfl ?_
 refine Yd m0 ?_
 refine DWp.evs 3 rfl ?_
 refine Yd m0 ?_
 refine DWp.evs 6 rfl ?_
 refine DWp.nil ?_
 refine Wp.seq ?_
 refine Yg 1 rfl ?_
 refine Yl m0 ?_
 refine OWp.nil ?_
 refine Wp.block ?_
 refine Yn 2 rfl ?_
 refine Ct rfl (by decide) fun cc11 => ?_
 refine Yn 2 rfl ?_
 refine Ct rfl (by decide) fun cc12 => ?_
 refine Yn 2 rfl ?_
 refine Cv rfl (by decide) fun cc13 => ?_
 refine Wp.region ?_
 refine Ye 1 rfl ?_
 refine Yl m0 ?_
 refine Yc rfl rfl (filledC (l := l) (hl.mono fun x h => .tail _ h) hcap h4 hf ?_)
 refine Yz 1 rfl ?_
 refine Wp.seq ?_
 refine Yg 3 rfl ?_
 refine Du 87 rfl (by exact fun h => h w4) fun cc14 => ?_
 refine Ye 4 rfl ?_
 refine Du 91 rfl (by exact fun h => h rfl) fun cc15 => ?_
 refine Ye 4 rfl ?_
 refine Du 95 rfl (by exact fun h => h rfl) fun cc16 => ?_
 refine Ye 4 rfl ?_
 refine Yz 3 rfl ?_
 refine Cu rfl (by exact fun h => h rfl) fun cc17 => ?_
 refine Wp.skip ?_
 refine Yn 1 rfl ?_
 refine Wp.ret ⟨trivial, _, ⟨_, _, rfl, rfl, rfl⟩, ?_⟩
 exact ⟨S, subl, H⟩
theorem four_len (a b c d : List UInt8) : ([a, b, c, d] : List (List UInt8)).flatten.length = a.length + (b.length + (c.length + d.length)) := by simp
theorem mapB_succ {l : List Slot} {i : Nat} (h : i < l.length) : ((l.take (i + 1)).map slotB).flatten = ((l.take i).map slotB).flatten ++ slotB l[i] := by
 rw [List.take_succ_eq_append_getElem h, List.map_append, List.flatten_append]
 simp
theorem mapB_len : ∀ {l : List Slot}, (∀ x ∈ l, slotP x) → (l.map slotB).flatten.length = l.length * 239
 | [], _ => rfl
 | x :: l, h => by
  rw [List.map_cons, List.flatten_cons, List.length_append, slotB_len (h x (.head _)), mapB_len fun y hy => h y (.tail _ hy), List.length_cons]
  omega
theorem encRepC {user seq n : Nat} {sv : Value} {l : List Slot} (hu : user < 64) (h1 : 1 ≤ seq) (h2 : seq ≤ 2147483647) (hl : Reads S 2 sv l.length (l.flatMap slc)) (hcap : ∀ a m c, sv = .slice a m c → m ≤ c) (h4 : l.length = 4) (hf : fillN l n) (H : Q (.tuple #[.string (str (repB user seq l)), .int .i64 0]) S) : CallWp Tryz.prog B 17 #[.agg (mlc 3 user seq [] [] sv (.slice none 0 0)).toArray] Q S := by
 have hsp := fill_slotP hf
 obtain ⟨b, o, cap', l', e, fz, hv, hm', hat⟩ := hl.elem (sz := 2) (sl_flat l) (by omega)
 subst hv
 refine CallWp.dropRet ?_
 refine Yx (args := [_]) Tryz.func17 Tryz.ntmps17 ?_
 refine Yq ?_
 refine Yb rfl rfl rfl rfl fun L1 hBL1 hLL1 => ?_
 refine Yz 2 rfl ?_
 refine Wp.seq ?_
 refine Yq ?_
 refine Yl m0 ?_
 refine Yc rfl rfl (checkRepC ⟨by omega, by omega, by omega, by omega⟩ (hl.mono fun x h => .tail _ h) hcap h4 hf ?_)
 refine Yz 1 rfl ?_
 refine Yn 2 rfl ?_
 refine Cu rfl (by exact fun h => h rfl) fun cc1 => ?_
 refine Wp.skip ?_
 refine Yg 1 rfl ?_
 refine Yl m0 ?_
 refine Ye 1 rfl ?_
 refine OWp.step rfl (Step.buildSlice rfl rfl rfl ?_); intro L2 hBL2 hLL2
 refine OWp.gives rfl rfl (Gives.bytesToStr (l := [(3 : UInt8)]) (k := 1) rfl rfl rfl rfl rfl (one_byte2 (by decide))) (fun _ h => h) ?_
 refine Yz 1 rfl ?_
 refine Wp.seq ?_
 refine Yg 1 rfl ?_
 refine Yl m1 ?_
 refine Yz 1 rfl ?_
 refine Ct rfl (by decide) fun cc2 => ?_
 refine Wp.skip ?_
 refine Yg 1 rfl ?_
 refine Yl m1 ?_
 refine Ye 2 rfl ?_
 refine Yl m1 ?_
 refine Ye 3 rfl ?_
 refine Yl m1 ?_
 refine Ye 3 rfl ?_
 refine Yl m1 ?_
 refine Ye 3 rfl ?_
 refine Yl m1 ?_
 refine Ye 1 rfl ?_
 refine OWp.step rfl (Step.buildSlice rfl rfl rfl ?_); intro L3 hBL3 hLL3
 refine OWp.gives rfl rfl (Gives.bytesToStr (l := whoB user seq) (k := 5) rfl rfl rfl rfl rfl (whoReads (.head _))) (fun _ h => h) ?_
 refine Yz 1 rfl ?_
 refine Yg 3 rfl ?_
 refine Yl m2 ?_
 refine OWp.step rfl (Step.buildSlice rfl rfl rfl ?_); intro L4 hBL4 hLL4
 refine Yc rfl rfl (mjoinC (l := [[3], whoB user seq, []]) (Reads.row (k := 3) (sz := 1) (.head _) (Nat.le_of_ble_eq_true rfl)) (by rintro a m c h; cases h; exact Nat.le_refl _) (by decide) (by simp [whoB]) (fun _ => by simp) ?_)
 refine Yz 1 rfl ?_
 refine Wp.seq ?_
 refine Yg 1 rfl ?_
 refine Yl m3 ?_
 refine Yz 2 rfl ?_
 show Wp _ _ _ _ _ _ _
 refine Wp.drop (S' := (L1, cel (mlc 3 user seq [] [] (.slice (some ⟨b, o, none⟩) l.length cap') (.slice none 0 0)) 58) :: S) subl ?_
 obtain ⟨hd, hhd, hdl⟩ : ∃ x : List UInt8, ([[3], whoB user seq, []] : List (List UInt8)).flatten = x ∧ x.length = 6 := ⟨_, rfl, by simp [whoB]⟩
 rw [hhd]
 refine Wp.block ?_
 refine Wp.loopS (α := Nat) (fun i => l.length - i) (fun i => [(1, pt L1), (7, .string (str (hd ++ ((l.take i).map slotB).flatten))), (55, .slice (some ⟨b, o, none⟩) l.length cap'), (56, .int .i64 (l.length : Int)), (57, .int .i64 (i : Int))]) (fun _ => (L1, cel (mlc 3 user seq [] [] (.slice (some ⟨b, o, none⟩) l.length cap') (.slice none 0 0)) 58) :: S) (fun i => i ≤ l.length) 0 ?_ (.refl _) (Nat.zero_le _) ?_
 ·exact .cons rfl (.cons' rfl (by simp) (.cons rfl (.cons rfl (.cons rfl (.nil _)))))
 rintro i hi
 refine Yn 1 rfl ?_
 refine Wp.seq ?_
 refine Wp.cond rfl (fun c1 => ?_) (fun c1 => ?_)
 ·have c1 := of_decide_eq_true c1
  have hlt : i < l.length := by omega
  have hx := hsp _ (List.getElem_mem hlt)
  have hml := mapB_len (l := l.take i) fun x h => hsp x (List.mem_of_mem_take h)
  rw [List.length_take] at hml
  have hxb := slotB_len hx
  have hx1 := hx.1
  have hx2 := hx.2
  refine Wp.skip ?_
  refine Wp.seq ?_
  refine Wp.block ?_
  refine Yq ?_
  refine OWp.g rfl rfl (Gives.indexAddrSlice (i) rfl rfl rfl rfl rfl rfl (by omega)) ?_
  refine OWp.load (.tail _ hm') rfl rfl rfl rfl (partAt_agg (hat i hlt) rfl rfl rfl) ?_
  refine Ya rfl rfl rfl rfl fun L9 hBL9 hLL9 => ?_
  refine OWp.step rfl (Step.storeAs 0 (slc l[i]) rfl rfl rfl rfl rfl (by assumption) rfl (Unfz.zero _) rfl (Nat.le_of_ble_eq_true rfl) rfl rfl ?_)
  refine OWp.nil ?_
  refine Wp.regionDraw [0, 1, 2, 4, 5, 6, 7, 10, 11, 16, 16, 16, 16, 16, 16, 16] [3, 8, 12, 13, 14] rfl (by decide +kernel) ?_
  refine DWp.evs 2 rfl ?_
  refine Yd (show (L9, cel (slc l[i]) 64) ∈ _ from by repeat (first | exact List.Mem.head _ | assumption | exact List.mem_append_left _ (by assumption) | apply List.mem_cons_of_mem | apply List.mem_append_right)) ?_
  refine DWp.evs 1 rfl ?_
  refine Yd (show (L9, cel (slc l[i]) 64) ∈ _ from by repeat (first | exact List.Mem.head _ | assumption | exact List.mem_append_left _ (by assumption) | apply List.mem_cons_of_mem | apply List.mem_append_right)) ?_
  refine DWp.evs 3 rfl ?_
  refine Yd (show (L9, cel (slc l[i]) 64) ∈ _ from by repeat (first | exact List.Mem.head _ | assumption | exact List.mem_append_left _ (by assumption) | apply List.mem_cons_of_mem | apply List.mem_append_right)) ?_
  refine DWp.forkTo [3, 8] (by decide +kernel) (by simp) ?_
  intro xx hxx
  simp only [List.mem_cons, List.mem_nil_iff, or_false] at hxx
  rcases hxx with rfl | rfl
  ·refine ⟨_, [16, 16, 16, 16, 16, 16], rfl, rfl, by decide +kernel, rfl, ?_⟩
   refine (Step.call rfl rfl rfl rfl rfl rfl (padC (n := 16) hx1 (by decide) ?_))
   refine prs ?_
   refine DWp.forkTo [8, 12] (by decide +kernel) (by simp) ?_
   intro xx hxx
   simp only [List.mem_cons, List.mem_nil_iff, or_false] at hxx
   rcases hxx with rfl | rfl
   ·refine ⟨_, [9, 12, 13, 14, 15], rfl, rfl, by decide +kernel, rfl, ?_⟩
    refine (Step.buildSlice rfl rfl rfl ?_); intro L10 hBL10 hLL10
    refine prs ?_
    refine DWp.gives rfl rfl rfl rfl (Gives.bytesToStr (l := [UInt8.ofNat l[i].2.length]) (k := 1) rfl rfl rfl rfl rfl (one_byte2 (S := []) (u8c _ _ rfl))) (fun x h => by (repeat (first | assumption | exact List.Mem.head _ | exact List.mem_append_left _ (by assumption) | apply List.mem_cons_of_mem | apply List.mem_append_right))) ?_
    refine DWp.step rfl rfl rfl (Step.call rfl rfl rfl rfl rfl rfl (padC (n := 222) hx2 (by decide) ?_))
    refine prs ?_
    refine DWp.step rfl rfl rfl (Step.buildSlice rfl rfl rfl ?_); intro L11 hBL11 hLL11
    refine prs ?_
    refine DWp.step rfl rfl rfl (Step.call rfl rfl rfl rfl rfl rfl (mjoinC (l := [hd ++ ((l.take i).map slotB).flatten, l[i].1 ++ List.replicate (16 - l[i].1.length) 0, [UInt8.ofNat l[i].2.length], l[i].2 ++ List.replicate (222 - l[i].2.length) 0]) (Reads.row (k := 4) (sz := 1) (.head _) (Nat.le_of_ble_eq_true rfl)) (by rintro a m c h; cases h; exact Nat.le_refl _) (by decide) (by rw [four_len]; simp only [List.length_append, List.length_replicate, List.length_cons, List.length_nil]; omega) (fun _ => by rw [four_len]; simp only [List.length_append, List.length_replicate, List.length_cons, List.length_nil]; omega) ?_))
    refine prs ?_
    refine DWp.evs 1 rfl ?_
    refine DWp.nil ?_
    refine Wp.drop (S' := (L1, cel (mlc 3 user seq [] [] (.slice (some ⟨b, o, none⟩) l.length cap') (.slice none 0 0)) 58) :: S) subl ?_
    refine Wp.region ?_
    refine Yz 2 rfl ?_
    exact ⟨i + 1, by omega, by omega, .cons rfl (.cons' rfl (by rw [mapB_succ hlt]; simp [slotB]) (.cons rfl (.cons rfl (.cons' rfl (int_eq (i64_inc (by omega))) (.nil _))))), .refl _⟩
   ·refine ⟨_, [8, 9, 13, 14, 15], rfl, rfl, by decide +kernel, rfl, ?_⟩
    refine (Step.call rfl rfl rfl rfl rfl rfl (padC (n := 222) hx2 (by decide) ?_))
    refine prs ?_
    refine DWp.step rfl rfl rfl (Step.buildSlice rfl rfl rfl ?_); intro L10 hBL10 hLL10
    refine prs ?_
    refine DWp.gives rfl rfl rfl rfl (Gives.bytesToStr (l := [UInt8.ofNat l[i].2.length]) (k := 1) rfl rfl rfl rfl rfl (one_byte2 (S := []) (u8c _ _ rfl))) (fun x h => by (repeat (first | assumption | exact List.Mem.head _ | exact List.mem_append_left _ (by assumption) | apply List.mem_cons_of_mem | apply List.mem_append_right))) ?_
    refine DWp.step rfl rfl rfl (Step.buildSlice rfl rfl rfl ?_); intro L11 hBL11 hLL11
    refine prs ?_
    refine DWp.step rfl rfl rfl (Step.call rfl rfl rfl rfl rfl rfl (mjoinC (l := [hd ++ ((l.take i).map slotB).flatten, l[i].1 ++ List.replicate (16 - l[i].1.length) 0, [UInt8.ofNat l[i].2.length], l[i].2 ++ List.replicate (222 - l[i].2.length) 0]) (Reads.row (k := 4) (sz := 1) (.head _) (Nat.le_of_ble_eq_true rfl)) (by rintro a m c h; cases h; exact Nat.le_refl _) (by decide) (by rw [four_len]; simp only [List.length_append, List.length_replicate, List.length_cons, List.length_nil]; omega) (fun _ => by rw [four_len]; simp only [List.length_append, List.length_replicate, List.length_cons, List.length_nil]; omega) ?_))
    refine prs ?_
    refine DWp.evs 1 rfl ?_
    refine DWp.nil ?_
    refine Wp.drop (S' := (L1, cel (mlc 3 user seq [] [] (.slice (some ⟨b, o, none⟩) l.length cap') (.slice none 0 0)) 58) :: S) subl ?_
    refine Wp.region ?_
    refine Yz 2 rfl ?_
    exact ⟨i + 1, by omega, by omega, .cons rfl (.cons' rfl (by rw [mapB_succ hlt]; simp [slotB]) (.cons rfl (.cons rfl (.cons' rfl (int_eq (i64_inc (by omega))) (.nil _))))), .refl _⟩
  ·refine ⟨_, [9, 3, 12, 13, 14, 15], rfl, rfl, by decide +kernel, rfl, ?_⟩
   refine (Step.buildSlice rfl rfl rfl ?_); intro L10 hBL10 hLL10
   refine prs ?_
   refine DWp.gives rfl rfl rfl rfl (Gives.bytesToStr (l := [UInt8.ofNat l[i].2.length]) (k := 1) rfl rfl rfl rfl rfl (one_byte2 (S := []) (u8c _ _ rfl))) (fun x h => by (repeat (first | assumption | exact List.Mem.head _ | exact List.mem_append_left _ (by assumption) | apply List.mem_cons_of_mem | apply List.mem_append_right))) ?_
   refine DWp.step rfl rfl rfl (Step.call rfl rfl rfl rfl rfl rfl (padC (n := 16) hx1 (by decide) ?_))
   refine prs ?_
   refine DWp.step rfl rfl rfl (Step.call rfl rfl rfl rfl rfl rfl (padC (n := 222) hx2 (by decide) ?_))
   refine prs ?_
   refine DWp.step rfl rfl rfl (Step.buildSlice rfl rfl rfl ?_); intro L11 hBL11 hLL11
   refine prs ?_
   refine DWp.step rfl rfl rfl (Step.call rfl rfl rfl rfl rfl rfl (mjoinC (l := [hd ++ ((l.take i).map slotB).flatten, l[i].1 ++ List.replicate (16 - l[i].1.length) 0, [UInt8.ofNat l[i].2.length], l[i].2 ++ List.replicate (222 - l[i].2.length) 0]) (Reads.row (k := 4) (sz := 1) (.head _) (Nat.le_of_ble_eq_true rfl)) (by rintro a m c h; cases h; exact Nat.le_refl _) (by decide) (by rw [four_len]; simp only [List.length_append, List.length_replicate, List.length_cons, List.length_nil]; omega) (fun _ => by rw [four_len]; simp only [List.length_append, List.length_replicate, List.length_cons, List.length_nil]; omega) ?_))
   refine prs ?_
   refine DWp.evs 1 rfl ?_
   refine DWp.nil ?_
   refine Wp.drop (S' := (L1, cel (mlc 3 user seq [] [] (.slice (some ⟨b, o, none⟩) l.length cap') (.slice none 0 0)) 58) :: S) subl ?_
   refine Wp.region ?_
   refine Yz 2 rfl ?_
   exact ⟨i + 1, by omega, by omega, .cons rfl (.cons' rfl (by rw [mapB_succ hlt]; simp [slotB]) (.cons rfl (.cons rfl (.cons' rfl (int_eq (i64_inc (by omega))) (.nil _))))), .refl _⟩
 have c1 := of_decide_eq_false c1
 obtain rfl : i = l.length := by omega
 rw [List.take_length]
 obtain ⟨ac, hac, hal⟩ : ∃ x, (l.map slotB).flatten = x ∧ x.length = 956 := ⟨_, rfl, by rw [mapB_len hsp, h4]⟩
 rw [hac]
 refine Wp.exit ?_
 refine Wp.seq (Wp.regionDraw [0, 1, 2, 6, 7, 3, 4, 5, 8, 9, 10, 11] [3, 4, 5, 8, 9] rfl (by decide +kernel) ?_)
 refine DWp.evs 2 rfl ?_
 refine Yd m0 ?_
 refine DWp.evs 1 rfl ?_
 refine Yd m0 ?_
 refine DWp.stepGrow rfl rfl rfl (Step.call rfl rfl rfl rfl rfl rfl ((mjoinC (l := []) (Reads.nil _ _) (by rintro a m c h; cases h; exact Nat.le_refl _) (by decide) (by decide) (fun h => by omega) ?_)))
 refine ⟨fun _ hy => hy, ?_⟩
 refine DWp.stepGrow rfl rfl rfl (Step.buildSlice rfl rfl rfl ?_); intro L5 hBL5 hLL5; refine ⟨fun _ hy => .tail _ hy, ?_⟩
 refine DWp.stepGrow rfl rfl rfl (Step.call rfl rfl rfl rfl rfl rfl ((mjoinC (l := [hd ++ ac, []]) (Reads.row (k := 2) (sz := 1) (.head _) (Nat.le_of_ble_eq_true rfl)) (by rintro a m c h; cases h; exact Nat.le_refl _) (by decide) (by simp [hdl, hal]) (fun _ => by simp [hdl, hal]) ?_)))
 refine ⟨fun _ hy => hy, ?_⟩
 refine DWp.stepGrow rfl rfl rfl (Step.call rfl rfl rfl rfl rfl rfl ((mlongC (n := 962) (.inr (.inr (.inl ⟨rfl, rfl⟩))) ?_)))
 refine ⟨fun _ hy => hy, ?_⟩
 refine DWp.stepGrow rfl rfl rfl (Step.call rfl rfl rfl rfl rfl rfl ((padC (n := 962) (by simp [hdl, hal]) (by decide) ?_)))
 refine ⟨fun _ hy => hy, ?_⟩
 refine DWp.evs 2 rfl ?_
 refine DWp.nil ?_
 refine Wp.ret ⟨trivial, _, ⟨_, _, rfl, rfl, _, _, rfl, rfl, rfl⟩, ?_⟩
 refine ⟨S, subl, ?_⟩
 rw [← hhd]
 have e : (([[[3], whoB user seq, []].flatten ++ ac, []] : List (List UInt8)).flatten ++ List.replicate (962 - ([[[3], whoB user seq, []].flatten ++ ac, []] : List (List UInt8)).flatten.length) 0) = repB user seq l := by
  have h1 : (([[[3], whoB user seq, []].flatten ++ ac, []] : List (List UInt8)).flatten) = repB user seq l := by simp [repB, hac]
  rw [h1, show (repB user seq l).length = 962 by simp only [repB, hac, List.length_cons, List.length_append, hal]; rfl]
  simp
 rw [e]
 exact H
end
end Go.Proofs.D
