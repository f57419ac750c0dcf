/- What functions of the given program do, one after the other, told by that layer. -/
import Derived.Test.YtlfhhkdjahcglaaGreatDoorKM13x2a7e
import Derived.Test.YtlfhhkdjahcglaaGreatDoorEHeadW
import Derived.Test.YtlfhhkdjahcglaaGreatDoorKM11x7e1e
import Derived.Test.YtlfhhkdjahcglaaGreatDoorLgM5xae9c
/- The laws of the client's chapter: their town, habit, tape. -/
namespace Go.Proofs.D
open Go.Lg Go.Sha Go.Hd Go.Cv
open Go.Proofs.C (Hop hopP hopB parse pathE encB tp word TIn Nd ndc St stc TownOk HostOf IsHost wayR mayP TownOk belowR WayIn LooseOf HomeOf NodesIn)
set_option maxRecDepth 100000
def townW : List UInt8 := [116, 111, 119, 110]
def tapeW : List UInt8 := [116, 97, 112, 101]
def pr25 (i : Nat) : List UInt8 := privR townW i
def pt25 (i : Nat) : List UInt8 := (publicR (pr25 i)).1
def h25 : List Nd := [(0, pt25 0), (1, pt25 1)]
def m25 : List (List Nd) := [[(2, pt25 2), (3, pt25 3)]]
def s25 : List St := [(3, 0), (4, 1)]
theorem pr25_len (i : Nat) : (pr25 i).length = 32 := derive_len _ _ _
theorem pt25_on (i : Nat) : OnB (pt25 i) := by unfold pt25; rw [publicR_eq (pr25_len i)]; exact onB_9.x _
theorem pt25_len (i : Nat) : (pt25 i).length = 32 := (pt25_on i).1
theorem ok25 : TownOk (h25 :: m25) s25 := by
 have hp := pt25_len
 refine ⟨⟨by decide, by decide, ?_⟩, ⟨?_, by decide⟩, ⟨?_, by decide⟩⟩
 ·intro l hl
  simp only [m25, List.mem_cons, List.mem_nil_iff, or_false] at hl
  rcases hl with rfl | rfl
  ·exact List.cons_ne_nil _ _
  ·exact List.cons_ne_nil _ _
 ·intro x hx
  simp only [C.lay, h25, m25, List.zipIdx, List.flatMap_cons, List.flatMap_nil, List.map_cons, List.map_nil, List.append_nil, List.cons_append, List.nil_append, List.mem_cons, List.mem_nil_iff, or_false] at hx
  rcases hx with rfl | rfl | rfl | rfl
  ·exact ⟨by decide, by decide, hp 0⟩
  ·exact ⟨by decide, by decide, hp 1⟩
  ·exact ⟨by decide, by decide, hp 2⟩
  ·exact ⟨by decide, by decide, hp 3⟩
 ·intro s hs
  simp only [s25, List.mem_cons, List.mem_nil_iff, or_false] at hs
  rcases hs with rfl | rfl
  ·exact ⟨⟨(0, (0, pt25 0)), rfl, by decide⟩, by decide, by decide⟩
  ·exact ⟨⟨(0, (1, pt25 1)), rfl, by decide⟩, by decide, by decide⟩
theorem on25 : OnT h25 m25 := by
 intro x hx
 simp only [C.lay, h25, m25, List.zipIdx, List.flatMap_cons, List.flatMap_nil, List.map_cons, List.map_nil, List.append_nil, List.cons_append, List.nil_append, List.mem_cons, List.mem_nil_iff, or_false] at hx
 rcases hx with rfl | rfl | rfl | rfl
 ·exact pt25_on 0
 ·exact pt25_on 1
 ·exact pt25_on 2
 ·exact pt25_on 3
theorem host3 : HostOf (h25 :: m25) s25 3 (0, pt25 0) 0 := .inl ⟨ok25, .inl ⟨(3, 0), 0, rfl, rfl, by decide, rfl⟩⟩
/-- The client of the laws, of any means and tape. -/
def c25 (mn : List Int) (s : List UInt8) : Ck :=
 { p := 0, px := 0, pj := 0, pl := 0, user := 3, key := pr25 9, h0 := h25, ms := m25, ss := s25, hv := .pointer none, mv := .pointer none, sv := .pointer none, mn := mn, mean := 1, most := 5, wd := 20, dl := 20, th := 1, s := s, a := (0, pt25 0) }
def mn25 : List Int := [1, 2, 2, 3]
def tp25 (seed : List UInt8) (n : Nat) : List UInt8 := derive seed tapeW n
theorem mayP_of {most m : Int} (h0 : 0 ≤ most) (h1 : most ≤ 4096) (h2 : 0 ≤ m) (h3 : m ≤ 4096) : mayP most [m] := ⟨h0, h1, fun x hx => by rw [List.mem_singleton.1 hx]; exact ⟨h2, h3⟩⟩
theorem hb25 {S : Ents} {mn : List Int} {s : List UInt8} {hv mv sv : Value} (hks : KsIn S) (hT : TIn S hv mv sv h25 m25 s25) (hm : ∀ i, mayP 255 [mn.getD i 0]) (hs : s.length ≤ 8000) : HbOk S (c25 mn s) hv mv sv :=
 { ks := hks, town := hT, ok := ok25, on := on25, host := host3, user := (by show (3 : Nat) < 64; decide), key := pr25_len 9, mn := hm, may := (show mayP 5 [1] from mayP_of (by decide) (by decide) (by decide) (by decide)), lp := (show lpP 20 20 1 from ⟨by decide, by decide, by decide, by decide, by decide, by decide⟩), sl := hs }
theorem getD_all {p : Int → Prop} : ∀ {l : List Int}, p 0 → (∀ x ∈ l, p x) → ∀ i, p (l.getD i 0)
 | [], h0, _, _ => by simpa using h0
 | x :: l, _, h, 0 => h x (.head _)
 | x :: l, h0, h, i + 1 => getD_all (l := l) h0 (fun y hy => h y (.tail _ hy)) i
attribute [local irreducible] derive hmac publicR
section
variable {B : Nat} {S R : Ents} {Q : Value → Ents → Prop}
theorem private25C {i : Nat} (hks : KsIn S) (hi : i < 100) (H : Q (.string (str (pr25 i))) S) : CallWp Tryz.prog B 23 #[.int .i64 (i : Int)] Q S := by
 refine CallWp.dropRet ?_
 refine Yx (args := [_]) Tryz.func23 Tryz.ntmps23 ?_
 refine Yn 1 rfl ?_
 refine Yg 3 rfl ?_
 refine OWp.step rfl (Step.buildSlice rfl rfl rfl ?_); intro L hBL hLL
 refine OWp.gives rfl rfl (Gives.bytesToStr (l := [UInt8.ofNat (48 + i)]) (k := 1) rfl rfl rfl rfl rfl (one_byte2 (by rw [i64_id (by omega) (by omega)]; exact u8c _ _ (by omega)))) (fun _ h => h) ?_
 refine OWp.g rfl rfl (Gives.addStr rfl rfl rfl (by simp only [List.length_cons, List.length_nil]; omega)) ?_
 refine OWp.step rfl (Step.call rfl rfl rfl rfl rfl rfl ((deriveC (secret := townW) (label := [112, 114, 105, 118, 97, 116, 101, UInt8.ofNat (48 + i)]) hks.cons (by decide) (by decide) (by simp [big]) ?_)))
 refine Yz 5 rfl ?_
 refine Yn 2 rfl ?_
 refine Wp.ret ⟨trivial, _, ⟨_, _, rfl, rfl, rfl⟩, ?_⟩
 exact ⟨S, subl, H⟩
theorem point25C {i : Nat} (hks : KsIn S) (hi : i < 100) (H : Q (.string (str (pt25 i))) S) : CallWp Tryz.prog B 54 #[.int .i64 (i : Int)] Q S := by
 refine Yx (args := [_]) Tryz.func54 Tryz.ntmps54 ?_
 refine Yn 1 rfl ?_
 refine Yg 1 rfl ?_
 refine OWp.step rfl (Step.call rfl rfl rfl rfl rfl rfl ((private25C hks hi ?_)))
 refine OWp.step rfl (Step.call rfl rfl rfl rfl rfl rfl ((publicC ?_)))
 refine Yz 5 rfl ?_
 refine Yn 2 rfl ?_
 refine Wp.ret ⟨trivial, _, ⟨_, _, rfl, rfl, rfl⟩, ?_⟩
 exact H
theorem town25C (hks : KsIn S) (H : ∀ hv mv sv W, TIn W hv mv sv h25 m25 s25 → Q (.agg #[hv, mv, sv]) (W ++ S)) : CallWp Tryz.prog B 24 #[] Q S := by
 refine CallWp.dropRet ?_
 refine Yx (args := []) Tryz.func24 Tryz.ntmps24 ?_
 refine Yq ?_
 refine Ya rfl rfl rfl rfl fun L0 hBL0 hLL0 => ?_
 refine OWp.nil ?_
 refine Yq ?_
 refine OWp.step rfl (Step.call rfl rfl rfl rfl rfl rfl ((point25C (i := 0) hks.cons (by decide) ?_)))
 refine OWp.g rfl rfl (Gives.build rfl rfl) ?_
 refine OWp.step rfl (Step.call rfl rfl rfl rfl rfl rfl ((point25C (i := 1) hks.cons (by decide) ?_)))
 refine OWp.g rfl rfl (Gives.build rfl rfl) ?_
 refine OWp.step rfl (Step.buildSlice rfl rfl rfl ?_); intro L5 hBL5 hLL5
 refine OWp.step rfl (Step.call rfl rfl rfl rfl rfl rfl ((point25C (i := 2) hks.cons.cons (by decide) ?_)))
 refine OWp.g rfl rfl (Gives.build rfl rfl) ?_
 refine OWp.step rfl (Step.call rfl rfl rfl rfl rfl rfl ((point25C (i := 3) hks.cons.cons (by decide) ?_)))
 refine OWp.g rfl rfl (Gives.build rfl rfl) ?_
 refine OWp.step rfl (Step.buildSlice rfl rfl rfl ?_); intro L10 hBL10 hLL10
 refine OWp.step rfl (Step.buildSlice rfl rfl rfl ?_); intro L11 hBL11 hLL11
 refine OWp.g rfl rfl (Gives.build rfl rfl) ?_
 refine OWp.g rfl rfl (Gives.build rfl rfl) ?_
 refine OWp.step rfl (Step.buildSlice rfl rfl rfl ?_); intro L14 hBL14 hLL14
 refine OWp.g rfl rfl (Gives.build rfl rfl) ?_
 refine OWp.step rfl (Step.storeAs 4 ([.slice (some ⟨L5, 0, none⟩) 2 2, .slice (some ⟨L11, 0, none⟩) 1 1, .slice (some ⟨L14, 0, none⟩) 2 2]) rfl rfl rfl rfl rfl hBL0 rfl (Unfz.zero _) rfl (Nat.le_of_ble_eq_true rfl) rfl rfl ?_)
 refine OWp.focus 4 rfl ?_
 refine OWp.nil ?_
 refine Wp.ret ⟨trivial, _, ⟨_, _, _, _, rfl, rfl, ⟨_, _, _, mems, (by first | assumption | rfl)⟩, rfl⟩, ?_⟩
 refine ⟨[(L14, cel (s25.flatMap stc) 137), (L11, cel [.slice (some ⟨L10, 0, none⟩) 2 2] 24), (L10, cel [.int .i64 2, .string (str (pt25 2)), .int .i64 3, .string (str (pt25 3))] 135), (L5, cel (h25.flatMap ndc) 135)] ++ S, .cons _ (.refl _), H _ _ _ _ ⟨[.slice (some ⟨L10, 0, none⟩) 2 2], Reads.row (k := 1) (sz := 1) (.tail _ (.head _)) (Nat.le_refl 1), rfl, ⟨rfl, ?_⟩, (show 1 ≤ C.lim by decide), Reads.row (k := 2) (sz := 2) (.head _) (Nat.le_refl 4), by decide⟩⟩
 intro j v l h1 h2
 rcases j with _ | _ | j
 ·cases h1; cases h2
  exact ⟨Reads.row (k := 2) (sz := 2) (l := h25.flatMap ndc) (.tail _ (.tail _ (.tail _ (.head _)))) (Nat.le_refl 4), by decide⟩
 ·cases h1; cases h2
  exact ⟨Reads.row (k := 2) (sz := 2) (l := [.int .i64 2, .string (str (pt25 2)), .int .i64 3, .string (str (pt25 3))]) (.tail _ (.tail _ (.head _))) (Nat.le_refl 4), by decide⟩
 ·cases h1
theorem deriveEqC {secret label : List UInt8} {m : Nat} {z : Int} (hz : z = (m : Int)) (hk : KsIn S) (hn : m ≤ 8160) (h1 : secret.length + 1000 ≤ big) (h2 : label.length + 2000 ≤ big) (H : Q (.tuple #[.string (str (derive secret label m)), .int .i64 0]) S) : CallWp Tryz.prog B 25 #[.string (str secret), .string (str label), .int .i64 z] Q S := by
 subst hz; exact deriveC hk hn h1 h2 H
theorem tape25C {seed : List UInt8} {n : Nat} (hks : KsIn S) (hs : seed.length + 1000 ≤ big) (hn : n ≤ 8000) (H : Q (.string (str (tp25 seed n))) S) : CallWp Tryz.prog B 8 #[.string (str seed), .int .i64 (n : Int)] Q S := by
 refine Yx (args := [_, _]) Tryz.func8 Tryz.ntmps8 ?_
 refine Yn 1 rfl ?_
 refine Yg 3 rfl ?_
 refine OWp.step rfl (Step.call rfl rfl rfl rfl rfl rfl ((deriveEqC (m := n) (by split <;> omega) hks (by omega) hs (by decide) ?_)))
 refine Yz 5 rfl ?_
 refine Yn 2 rfl ?_
 refine Wp.ret ⟨trivial, _, ⟨_, _, rfl, rfl, rfl⟩, ?_⟩
 exact H
theorem habit25C {s : List UInt8} (hks : KsIn S) (H : ∀ hv mv sv W, TIn W hv mv sv h25 m25 s25 → Q (.agg (hbc (c25 mn25 s) hv mv sv).toArray) (W ++ S)) : CallWp Tryz.prog B 7 #[.string (str s)] Q S := by
 refine CallWp.dropRet ?_
 refine Yx (args := [_]) Tryz.func7 Tryz.ntmps7 ?_
 refine Yq ?_
 refine Ya rfl rfl rfl rfl fun L2 hBL2 hLL2 => ?_
 refine OWp.nil ?_
 refine Yq ?_
 refine OWp.step rfl (Step.call rfl rfl rfl rfl rfl rfl ((private25C (i := 9) hks.cons (by decide) ?_)))
 refine OWp.step rfl (Step.call rfl rfl rfl rfl rfl rfl ((town25C hks.cons ?_)))
 intro hv mv sv W hT
 obtain ⟨a1, c1, a2, c2, a3, c3, rfl, rfl, rfl⟩ := hT.forms
 refine OWp.permS (List.perm_middle) ?_
 refine OWp.g rfl rfl (Gives.build rfl rfl) ?_
 refine OWp.g rfl rfl (Gives.build rfl rfl) ?_
 refine Ye 1 rfl ?_
 refine OWp.g rfl rfl (Gives.build rfl rfl) ?_
 refine OWp.step rfl (Step.storeAs 0 (hbc (c25 mn25 s) (.slice a1 h25.length c1) (.slice a2 m25.length c2) (.slice a3 s25.length c3)) rfl rfl rfl rfl rfl hBL2 rfl (Unfz.zero _) rfl (Nat.le_of_ble_eq_true rfl) rfl rfl ?_)
 refine OWp.nil ?_
 refine Wp.ret ⟨trivial, _, ⟨_, _, _, _, rfl, rfl, ⟨_, _, _, mems, (by first | assumption | rfl)⟩, rfl⟩, ?_⟩
 exact ⟨W ++ S, subl, H _ _ _ W hT⟩
theorem among25C {x : Int} {m : Nat} (hm : 0 < m) (hl : m ≤ 2147483648) (h : Q (.int .i64 (x % (m : Int))) S) : CallWp Tryz.prog B 10 #[.int .i64 x, .int .i64 (m : Int)] Q S := by
 refine Yx (args := [_, _]) Tryz.func10 Tryz.ntmps10 ?_
 refine Yn 1 rfl ?_
 refine Yg 2 rfl ?_
 refine OWp.g rfl rfl (Gives.rem rfl rfl rfl (by omega)) ?_
 refine Ye 3 rfl ?_
 refine OWp.g rfl rfl (Gives.rem rfl rfl rfl (by omega)) ?_
 refine Yz 1 rfl ?_
 refine Wp.ret ⟨trivial, _, ⟨_, _, rfl, rfl, rfl⟩, ?_⟩
 have h1 : -(m : Int) < x.tmod m := by
  rcases Int.le_total 0 x with h0 | h0
  ·have := Int.tmod_nonneg (m : Int) h0; omega
  ·have h3 := Int.tmod_lt_of_pos (-x) (show (0 : Int) < m by omega)
   rw [Int.neg_tmod] at h3; omega
 have h2 : x.tmod m < m := Int.tmod_lt_of_pos x (by omega)
 have e : (IntKind.i64.wrap (x.tmod (m : Int) + (m : Int))).tmod (m : Int) = x % (m : Int) := by
  rw [i64_id (by omega) (by omega)]
  rw [Int.tmod_eq_emod_of_nonneg (by omega), Int.add_emod_right]
  rw [Int.tmod_def, Int.sub_mul_emod_self_left]
 exact (congrArg (fun z => Q (.int .i64 z) S) e).mpr h
end
end Go.Proofs.D

/- What a tick sends: how long, of which kinds. -/
namespace Go.Proofs.D
open Go.Lg Go.Sha Go.Hd Go.Cv
open Go.Proofs.C (Hop hopP hopB parse pathE encB tp word TIn Nd ndc St stc TownOk HostOf IsHost wayR mayP TownOk belowR WayIn LooseOf HomeOf NodesIn)
open Go.Cl (first firstOf needs)
set_option maxRecDepth 100000
def kLen (kind : Nat) : Nat := if kind = 3 then 38 else 505
theorem pkB_len {seed txt : List UInt8} {w : WayV} (h : (packR seed w.1 txt w.2.1).1.length = 504) : (pkB seed txt w).length = 505 := by unfold pkB packB; rw [List.length_cons, h]
attribute [local irreducible] wayR packR hmac
section
variable {B : Nat} {S R : Ents} {c : Ck}
theorem doT_len {x : Cs} {kind : Nat} (ho : CkOk B R c) (hq : ∀ p ∈ x.q, PartOk c p) (h4 : kind < 4) (hk : x.k + needs c.w kind ≤ c.s.length) : (doT c x kind).length = kLen kind := by
 rcases (show kind = 0 ∨ kind = 1 ∨ kind = 2 ∨ kind = 3 by omega) with rfl | rfl | rfl | rfl
 ·have hn : needs c.w 0 = 56 + c.w := rfl
  show (payT c x.k x.q).length = 505
  cases hx : x.q with
  | nil => exact pkB_len (way_pk (s := c.s) (seed := seedAt c.s x.k) (txt := []) (k := x.k + 52) (h := dropH) ho.ok ho.on (IsHost.ofHost ho.host) (hostNd_is (h0_pos ho)) ho.may (.inr (.inr (.inr ⟨rfl, rfl, rfl, rfl, rfl⟩))) (by decide) (seedAt_len (by omega)) (by decide) (by show x.k + 52 + c.w ≤ _; omega)).2
  | cons p r =>
   obtain ⟨⟨b, hb⟩, x1, x2, x3⟩ := hq p (by rw [hx]; exact .head _)
   have e := (way_pk (s := c.s) (seed := seedAt c.s x.k) (txt := p.2) (k := x.k + 52) (h := homeH p.1 (idAt c.s x.k)) ho.ok ho.on (IsHost.ofHost ho.host) (IsHost.ofHost hb) ho.may (.inr (.inl ⟨rfl, x1, by show p.1 ≤ 63; omega, Int.le_refl 0, by show (0 : Int) ≤ 4096; decide, rfl, idAt_len (by omega)⟩)) (show (2 : Int) ≠ 1 by decide) (seedAt_len (by omega)) x3 (by show x.k + 52 + c.w ≤ _; omega)).2
   show (pkB (seedAt c.s x.k) p.2 (wayR c.s (x.k + 52) c.a (hostU (c.h0 :: c.ms) c.ss p.1) c.ms (homeH p.1 (idAt c.s x.k)) c.mean c.most)).length = 505
   rw [hostU_is hb]
   exact pkB_len e
 ·have hn : needs c.w 1 = 40 + c.w := rfl
  exact pkB_len (way_pk (s := c.s) (seed := seedAt c.s x.k) (txt := []) (k := x.k + 36) (h := dropH) ho.ok ho.on (IsHost.ofHost ho.host) (hostNd_is (h0_pos ho)) ho.may (.inr (.inr (.inr ⟨rfl, rfl, rfl, rfl, rfl⟩))) (by decide) (seedAt_len (by omega)) (by decide) (by show x.k + 36 + c.w ≤ _; omega)).2
 ·have hn : needs c.w 2 = 52 + c.w := rfl
  have hh := ho.user
  exact pkB_len (way_pk (s := c.s) (seed := seedAt c.s x.k) (txt := []) (k := x.k + 48) (h := homeH c.user (idAt c.s x.k)) ho.ok ho.on (IsHost.ofHost ho.host) (IsHost.ofHost ho.host) ho.may (.inr (.inl ⟨rfl, Int.natCast_nonneg _, by show (c.user : Int) ≤ 63; omega, Int.le_refl 0, by show (0 : Int) ≤ 4096; decide, rfl, idAt_len (by omega)⟩)) (show (2 : Int) ≠ 1 by decide) (seedAt_len (by omega)) (by decide) (by show x.k + 48 + c.w ≤ _; omega)).2
 ·exact pullB_len (hmac_len _ _)
theorem runT_all {to m : Nat} (ho : CkOk B R c) (ht : to ≤ 1099511627776) : ∀ (f : Nat) (x : Cs), CsOk c x → (∀ i, i < 4 → m ≤ x.nx.getD i 0) → ∀ y ∈ (runT c to f x).1, m ≤ y.1 ∧ y.1 ≤ to ∧ y.2.1 < 4 ∧ y.2.2.length = kLen y.2.1
 | 0, _, _, _, _, h => nomatch h
 | f + 1, x, hx, hm, y, hy => by
  rw [runT] at hy
  split at hy
  ·cases hy
  ·rename_i h1
   split at hy
   ·cases hy
   ·rename_i h2
    have hp := Cl.needs_pos c.w (first x.nx)
    have hf : first x.nx < 4 := by have := Cl.first_lt (nx := x.nx) (by rw [hx.nx]; decide); rwa [hx.nx] at this
    have hk := hx.k
    have hat : atN x ≤ to := by
     rcases Nat.lt_or_ge to (atN x) with h3 | h3
     ·exact absurd (.inr h3) h1
     ·exact h3
    rcases List.mem_cons.1 hy with rfl | hy
    ·exact ⟨hm _ hf, hat, hf, doT_len ho hx.q hf (by omega)⟩
    ·refine runT_all ho ht f (nextS c x) (hx.next ht h1 h2) ?_ y hy
     intro i hi
     unfold nextS
     simp only
     rw [List.getD_eq_getElem?_getD, List.getElem?_set]
     have h5 : m ≤ atN x := hm _ hf
     by_cases e : first x.nx = i
     ·subst e
      rw [if_pos rfl, if_pos (by rw [hx.nx]; exact hf)]
      show m ≤ atN x + _
      omega
     ·rw [if_neg e, ← List.getD_eq_getElem?_getD]
      exact hm i hi
theorem nx_one {i : Nat} (hs : ¬ c.s.length < 16) (h : i < 4) : 1 ≤ (newCs c).nx.getD i 0 := by
 unfold newCs
 rw [if_neg hs]
 rcases i with _ | _ | _ | _ | _
 ·show 1 ≤ waitN c 0 0; unfold waitN; omega
 ·show 1 ≤ waitN c 1 4; unfold waitN; omega
 ·show 1 ≤ waitN c 2 8; unfold waitN; omega
 ·show 1 ≤ waitN c 3 12; unfold waitN; omega
 ·omega
end
/-- The example: there is a pull at the first tick. -/
def mnX : List Int := [255, 255, 255, 0]
def xTape : List UInt8 := tp25 [120] 400
def xRun : List (Nat × Nat) × Cl.Ct := Cl.run 400 12 (waitN (c25 mnX xTape)) 1 401 ⟨16, nxs (c25 mnX xTape) 4, false⟩
end Go.Proofs.D

/- The laws of the client's chapter: the works, what is submitted. -/
namespace Go.Proofs.D
open Go.Lg Go.Sha Go.Hd Go.Cv
open Go.Proofs.C (Hop hopP hopB parse pathE encB tp word TIn Nd ndc St stc TownOk HostOf IsHost wayR mayP TownOk belowR WayIn LooseOf HomeOf NodesIn)
open Go.Cl (first firstOf needs)
set_option maxRecDepth 1000000
theorem xrun_has : (xRun.1.any fun y => y == (1, 3)) = true := by decide +kernel
set_option maxRecDepth 100000
theorem rdStr25 {S : Ents} {t : ByteArray} (h : Rd Tryz.prog S 9 [.string t]) : ∃ s : List UInt8, t = str s ∧ s.length + 5000 ≤ big := by
 obtain ⟨l, hl, hw⟩ := h.open_str Tryz.underlying9
 cases hl
 exact ⟨l, rfl, by unfold reachBytes at hw; unfold big; omega⟩
abbrev Say := Int × Int × Bool
def sayc (x : Say) : List Value := [.int .i64 x.1, .int .i64 x.2.1, .bool x.2.2]
theorem zeros_read {L n : Nat} {S : Ents} (h : (L, cel (zeros (cellsOf (Value.int .u8 0)) n) 5) ∈ S) : Reads S 1 (.slice (some ⟨L, 0, none⟩) n n) n (byteCells (List.replicate n 0)) := by
 have e : ∀ n, zeros (cellsOf (Value.int .u8 0)) n = byteCells (List.replicate n 0) := by
  intro n
  induction n with
  | zero => rfl
  | succ n ih => rw [List.replicate_succ]; show Value.int .u8 0 :: zeros _ n = _; rw [ih]; rfl
 rw [e] at h
 have hl : (byteCells (List.replicate n 0)).length = n := by rw [byteCells_length, List.length_replicate]
 have := Reads.row (k := n) (sz := 1) (cap := n) (l := byteCells (List.replicate n 0)) h (by omega)
 rwa [Nat.mul_one, List.take_of_length_le (by omega)] at this
attribute [local irreducible] derive hmac publicR partsB sha
section
variable {B : Nat} {S R : Ents} {Q : Value → Ents → Prop} {c : Ck}
theorem cnowC {x : Cs} {now : Int} {many : Nat} {W : Ents} (hW : CliIn B c x now many W) (hs : ∀ y ∈ W, y ∈ S) (H : Q (.int .i64 now) S) : CallWp Tryz.prog B 22 #[pt c.p] Q S := by
 obtain ⟨qv, qes, lv, les, rfl, _, _⟩ := hW
 refine Yx (args := [_]) Tryz.func22 Tryz.ntmps22 ?_
 refine Yn 1 rfl ?_
 refine Yg 3 rfl ?_
 refine Yl (hs _ (.head _)) ?_
 refine Yz 1 rfl ?_
 refine Wp.ret ⟨trivial, _, ⟨_, _, rfl, rfl, rfl⟩, ?_⟩
 exact H
end
end Go.Proofs.D

/- The laws of the client's chapter: the example. -/
namespace Go.Proofs.D
open Go.Lg Go.Sha Go.Hd Go.Cv
open Go.Proofs.C (Hop hopP hopB parse pathE encB tp word TIn Nd ndc St stc TownOk HostOf IsHost wayR mayP TownOk belowR WayIn LooseOf HomeOf NodesIn)
open Go.Cl (first firstOf needs)
set_option maxRecDepth 100000
theorem tp25_len (seed : List UInt8) (n : Nat) : (tp25 seed n).length = n := derive_len _ _ _
theorem xs_new (c : Ck) (h : ¬ c.s.length < 16) : newCs c = ⟨16, nxs c 4, [], [], 0, 0, false⟩ := if_neg h
theorem mnX_may : ∀ i, mayP 255 [mnX.getD i 0] := getD_all (p := fun m => mayP 255 [m]) (mayP_of (by decide) (by decide) (by decide) (by decide)) (fun x hx => by
 simp only [mnX, List.mem_cons, List.mem_nil_iff, or_false] at hx
 rcases hx with rfl | rfl | rfl | rfl <;> exact mayP_of (by decide) (by decide) (by decide) (by decide))
theorem outs_small {B : Nat} {v : Value} {outs : List Snt} {es : Ents} (h : Lg.Own B 47 3 v outs.length (outs.flatMap sntc) es) : outs.length ≤ 9223372036854775807 := by
 have hm : maxLen = 9223372036854775807 := rfl
 obtain ⟨_, ⟨_, h, _⟩ | ⟨b, cap, cur, _, _, _, h1, h2, _⟩⟩ := h
 ·omega
 ·omega
theorem snt_at {S : Ents} {v : Value} {l : List Snt} (h : Reads S 3 v l.length (l.flatMap sntc)) (h0 : 0 < l.length) : ∃ b o cap L e fz, v = .slice (some ⟨b, o, none⟩) l.length cap ∧ (b, cel L e fz) ∈ S ∧ ∀ i (h : i < l.length), (L.drop (o + i * 3)).take 3 = sntc l[i] := h.elem (sz := 3) (snt_flat l) h0
attribute [local irreducible] derive hmac publicR partsB sha
section
variable {B : Nat} {S R : Ents} {Q : Value → Ents → Prop} {c : Ck}
set_option maxHeartbeats 4000000 in
theorem works25C (hks : KsIn S) (H : Q (.bool true) S) : CallWp Tryz.prog B 6 #[] Q S := by
 have hxl : xTape.length = 400 := tp25_len _ _
 refine CallWp.dropRet ?_
 refine Yx (args := []) Tryz.func6 Tryz.ntmps6 ?_
 refine Yn 1 rfl ?_
 refine Yq ?_
 refine OWp.step rfl (Step.call rfl rfl rfl rfl rfl rfl ((tape25C (seed := [120]) (n := 400) hks (by decide) (by decide) ?_)))
 refine OWp.step rfl (Step.call rfl rfl rfl rfl rfl rfl ((habit25C hks ?_)))
 intro hv mv sv W hT
 obtain ⟨a1, c1, a2, c2, a3, c3, rfl, rfl, rfl⟩ := hT.forms
 refine Ya rfl rfl rfl rfl fun L1 hBL1 hLL1 => ?_
 refine OWp.step rfl (Step.storeAs 0 (hbc (c25 mn25 xTape) (.slice a1 h25.length c1) (.slice a2 m25.length c2) (.slice a3 s25.length c3)) rfl rfl rfl rfl rfl (by assumption) rfl (Unfz.zero _) rfl (Nat.le_of_ble_eq_true rfl) rfl rfl ?_)
 refine OWp.nil ?_
 refine Yq ?_
 refine OWp.g rfl rfl (Gives.build rfl rfl) ?_
 refine Ye 1 rfl ?_
 refine OWp.step rfl (Step.storeAs 0 (hbc (c25 mnX xTape) (.slice a1 h25.length c1) (.slice a2 m25.length c2) (.slice a3 s25.length c3)) rfl rfl rfl rfl rfl (by assumption) rfl (Unfz.zero _) rfl (Nat.le_of_ble_eq_true rfl) rfl rfl ?_)
 refine OWp.nil ?_
 refine Yq ?_
 refine Yl m0 ?_
 refine OWp.step rfl (Step.call rfl rfl rfl rfl rfl rfl ((cnewC (c := c25 mnX xTape) (hb25 (KsIn_of hks fun x hx => .tail _ (List.mem_append_right _ hx)) (hT.mono fun x hx => .tail _ (List.mem_append_left _ hx)) mnX_may (by rw [hxl]; decide)) ?_)))
 intro p px pj pl hv' mv' sv' Wc X hck0 hin hpj
 have hck := hck0 ((L1, cel (hbc (c25 mnX xTape) (.slice a1 h25.length c1) (.slice a2 m25.length c2) (.slice a3 s25.length c3)) 33) :: (W ++ S)) (KsIn_of hks fun x hx => .tail _ (List.mem_append_right _ hx))
 obtain ⟨c, hc⟩ : ∃ x, x = (c25 mnX xTape).laid p px pj pl hv' mv' sv' := ⟨_, rfl⟩
 rw [← hc] at hck hin
 have hcs : c.s.length = 400 := by rw [hc]; exact hxl
 have hnew := newCs_ok c (by omega)
 have hnc : newCs (c25 mnX xTape) = newCs c := by rw [hc]; rfl
 rw [hnc] at hin
 have hcp : pt p = pt c.p := by rw [hc]; rfl
 rw [hcp]
 refine Yz 5 rfl ?_
 refine Wp.seq ?_
 refine Yg 3 rfl ?_
 refine Yz 3 rfl ?_
 refine Wp.cond rfl (fun cc1 => absurd (ndT cc1) (by exact fun h => h rfl)) (fun cc1 => ?_)
 have cc1 := ndF cc1
 refine Wp.skip ?_
 refine Yg 1 rfl ?_
 refine OWp.step rfl (Step.call rfl rfl rfl rfl rfl rfl ((tickC (to := 1) hck (fun y hy => .tail _ hy) hnew hin (by decide) (by decide) (by decide) (by decide) ?_)))
 intro W2 ov oes hin2 hov hok2
 obtain ⟨outs, houts⟩ : ∃ x, x = (tickT c 1 (newCs c)).1 := ⟨_, rfl⟩
 rw [← houts] at hov
 have hall : ∀ y ∈ outs, 1 ≤ y.1 ∧ y.1 ≤ 1 ∧ y.2.1 < 4 ∧ y.2.2.length = kLen y.2.1 := by rw [houts]; exact runT_all hck (by decide) _ _ hnew (fun i hi => nx_one (by omega) hi)
 have hmap : outs.map (fun y => (y.1, y.2.1)) = xRun.1 := by
  rw [houts]
  have h1 := (runT_run (c := c) (to := 1) (c.s.length + 1) (newCs c)).1
  unfold tickT
  rw [h1, xs_new c (by omega), hcs]
  rw [hc]
  rfl
 have hex : ∃ y ∈ outs, y.2.1 = 3 := by
  obtain ⟨z, hz, hz2⟩ := List.any_eq_true.1 xrun_has
  rw [← hmap] at hz
  obtain ⟨y, hy, rfl⟩ := List.mem_map.1 hz
  have := of_decide_eq_true (show decide ((y.1, y.2.1) = (1, 3)) = true by simpa using hz2)
  exact ⟨y, hy, congrArg Prod.snd this⟩
 have hol := outs_small hov
 have hpos : 0 < outs.length := by obtain ⟨y, hy, _⟩ := hex; exact List.length_pos_of_mem hy
 obtain ⟨b, o, oc, l', e, fz, rfl, hm', hat⟩ := snt_at (hov.reads.mono (S' := W2 ++ (oes ++ ((pj, cel [.int .i64 16, .slice none 0 0, .int .i64 64, .slice none 0 0] 156) :: (X ++ ((L1, cel (hbc (c25 mnX xTape) (.slice a1 h25.length c1) (.slice a2 m25.length c2) (.slice a3 s25.length c3)) 33) :: (W ++ S)))))) fun x hx => List.mem_append_right _ (List.mem_append_left _ hx)) hpos
 refine Yz 5 rfl ?_
 refine Wp.seq ?_
 refine Yn 3 rfl ?_
 refine Wp.block ?_
 refine Wp.loopS (α := Nat) (fun i => outs.length - i) (fun i => [(2, pt c.p), (3, .int .i64 0), (27, .slice (some ⟨b, o, none⟩) outs.length oc), (28, .int .i64 (outs.length : Int)), (29, .int .i64 (i : Int))]) (fun _ => W2 ++ (oes ++ ((pj, cel [.int .i64 16, .slice none 0 0, .int .i64 64, .slice none 0 0] 156) :: (X ++ ((L1, cel (hbc (c25 mnX xTape) (.slice a1 h25.length c1) (.slice a2 m25.length c2) (.slice a3 s25.length c3)) 33) :: (W ++ S)))))) (fun i => i ≤ outs.length ∧ ∀ j (h : j < outs.length), j < i → outs[j].2.1 ≠ 3) 0 ?_ (.refl _) ⟨Nat.zero_le _, fun _ _ h => by omega⟩ ?_
 ·exact .cons rfl (.cons rfl (.cons rfl (.cons rfl (.cons rfl (.nil _)))))
 rintro i ⟨hi, hno⟩
 refine Yn 1 rfl ?_
 refine Wp.seq ?_
 refine Wp.cond rfl (fun d1 => ?_) (fun d1 => ?_)
 ·have d1 := of_decide_eq_true d1
  have hlt : i < outs.length := by omega
  obtain ⟨h1, h2, h3, h4⟩ := hall _ (List.getElem_mem hlt)
  refine Wp.skip ?_
  refine Wp.seq ?_
  refine Wp.block ?_
  refine Yq ?_
  refine OWp.g rfl rfl (Gives.indexAddrSlice (i) rfl rfl rfl rfl rfl rfl (by omega)) ?_
  refine OWp.load hm' rfl rfl rfl rfl (partAt_agg (hat i hlt) rfl rfl rfl) ?_
  refine Ya rfl rfl rfl rfl fun L6 hBL6 hLL6 => ?_
  refine OWp.step rfl (Step.storeAs 0 (sntc outs[i]) rfl rfl rfl rfl rfl (by assumption) rfl (Unfz.zero _) rfl (Nat.le_of_ble_eq_true rfl) rfl rfl ?_)
  refine OWp.nil ?_
  refine Yg 1 rfl ?_
  refine Yl m0 ?_
  refine Yz 1 rfl ?_
  refine Wp.cond rfl (fun d2 => ?_) (fun d2 => ?_)
  ·have d2 := of_decide_eq_true d2
   have hk3 : outs[i].2.1 = 3 := by omega
   refine Wp.seq (Wp.regionDraw [0, 1, 2, 3, 4, 5, 6, 7, 8, 9, 10, 11, 12, 13, 14, 15, 16, 17, 18, 19] [11, 16] rfl (by decide +kernel) ?_)
   refine DWp.evs 3 rfl ?_
   refine DWp.part 38 rfl (fun cc2 => ?_) (fun cc2 => absurd (of_decide_eq_false cc2) (by exact fun h => h rfl))
   have cc2 := of_decide_eq_true cc2
   refine DWp.evs 1 rfl ?_
   refine Yd m0 ?_
   refine DWp.evs 3 rfl ?_
   refine DWp.part 43 rfl (fun cc3 => ?_) (fun cc3 => absurd (of_decide_eq_false cc3) (by omega))
   have cc3 := of_decide_eq_true cc3
   refine DWp.evs 1 rfl ?_
   refine Yd m0 ?_
   refine DWp.evs 1 rfl ?_
   refine DWp.stepGrow rfl rfl rfl (Step.call rfl rfl rfl rfl rfl rfl ((mlongC (n := 38) (.inr (.inl ⟨rfl, rfl⟩)) ?_)))
   refine ⟨fun _ hy => hy, ?_⟩
   refine DWp.evs 3 rfl ?_
   refine DWp.part 50 rfl (fun cc4 => ?_) (fun cc4 => absurd (of_decide_eq_false cc4) (by exact fun h => h (by rw [h4, hk3]; rfl)))
   have cc4 := of_decide_eq_true cc4
   refine DWp.evs 1 rfl ?_
   refine DWp.stepGrow rfl rfl rfl (Step.call rfl rfl rfl rfl rfl rfl ((cnowC hin2 (fun y hy => .tail _ (List.mem_append_left _ hy)) ?_)))
   refine ⟨fun _ hy => hy, ?_⟩
   refine DWp.evs 3 rfl ?_
   refine DWp.nil ?_
   refine Wp.ret ⟨trivial, _, ⟨_, _, rfl, rfl, rfl⟩, ?_⟩
   exact ⟨S, (by repeat (first | exact List.Sublist.refl _ | exact List.sublist_append_right _ _ | apply List.Sublist.cons | refine List.Sublist.trans ?_ (List.sublist_append_right _ _))), H⟩
  have d2 := of_decide_eq_false d2
  refine Wp.skip ?_
  refine Wp.drop (S' := W2 ++ (oes ++ ((pj, cel [.int .i64 16, .slice none 0 0, .int .i64 64, .slice none 0 0] 156) :: (X ++ ((L1, cel (hbc (c25 mnX xTape) (.slice a1 h25.length c1) (.slice a2 m25.length c2) (.slice a3 s25.length c3)) 33) :: (W ++ S)))))) (List.sublist_cons_self _ _) ?_
  refine Wp.region ?_
  refine Yz 2 rfl ?_
  refine ⟨i + 1, by omega, ⟨by omega, fun j hj hji => ?_⟩, .cons rfl (.cons rfl (.cons rfl (.cons rfl (.cons' rfl (int_eq (show IntKind.i64.wrap ((i : Int) + 1) = ((i + 1 : Nat) : Int) by rw [i64_id] <;> omega)) (.nil _))))), .refl _⟩
  by_cases e : j = i
  ·subst e; omega
  ·exact hno j hj (by omega)
 have d1 := of_decide_eq_false d1
 refine Wp.exit ?_
 refine Yn 1 rfl ?_
 refine Wp.ret ⟨trivial, _, ⟨_, _, rfl, rfl, rfl⟩, ?_⟩
 exfalso
 obtain ⟨y, hy, hy3⟩ := hex
 obtain ⟨j, hj, rfl⟩ := List.mem_iff_getElem.1 hy
 exact hno j hj (by omega) hy3
end
end Go.Proofs.D

/- Messages: replies may be; how they are written. -/
namespace Go.Proofs.D
open Go.Lg Go.Sha Go.Hd Go.Cv
set_option maxRecDepth 100000
/-- The first n are entries, the others are empty. -/
def fillN (l : List Slot) (n : Nat) : Prop := n ≤ l.length ∧ (∀ i (h : i < l.length), i < n → entP l[i]) ∧ ∀ i (h : i < l.length), n ≤ i → l[i] = ([], [])
theorem flat_drop2 : ∀ (l : List Slot) (n : Nat), (l.flatMap slc).drop (n * 2) = (l.drop n).flatMap slc
 | _, 0 => by simp
 | [], _ + 1 => by simp
 | x :: l, n + 1 => by
  rw [List.drop_succ_cons, ← flat_drop2 l n, Nat.succ_mul]
  rfl
theorem no_ent : ¬ entP (([], []) : Slot) := by decide
theorem slotG : Tryz.prog.eqGuardType Tryz.prog.depth 64 = false := by decide +kernel
def eqSl (x y : Slot) : Bool := decide (x.1 = y.1) && (decide (x.2 = y.2) && true)
theorem slHeld : Tryz.prog.stoodInHeld 64 = false := by decide +kernel
theorem slEq (x y : Slot) : eqIn Tryz.prog 10 64 (.agg (slc x).toArray) (.agg (slc y).toArray) = some (eqSl x y) := by
 unfold eqIn
 rw [Tryz.underlying64, slHeld]
 show eqFs Tryz.prog 9 (slc x) (slc y) _ = _
 rfl
/-- What is read of a slice's end. -/
theorem tailSl {S : Ents} {b o k cap n : Nat} {l : List Slot} (h : Reads S 2 (.slice (some ⟨b, o, none⟩) k cap) k (l.flatMap slc)) (hk : k = l.length) (hn : n ≤ k) (hc : k ≤ cap) : Reads S 2 (.slice (some ⟨b, if cap = n then o else o + n * 2, none⟩) (k - n) (cap - n)) (k - n) ((l.drop n).flatMap slc) := by
 by_cases e : n = k
 ·subst e
  rw [show n - n = 0 by omega, hk, List.drop_length]
  exact Reads.empty _ _ _ _
 rw [if_neg (by omega)]
 obtain ⟨hl, ⟨_, h0⟩ | ⟨b', o', cap', l', e', fz, hv, hm, hle, hx⟩⟩ := h
 ·omega
 cases hv
 refine ⟨?_, .inr ⟨_, _, _, l', e', fz, rfl, hm, ?_, ?_⟩⟩
 ·rw [← flat_drop2, List.length_drop, hl, Nat.sub_mul]
 ·have : n * 2 + (k - n) * 2 = k * 2 := by omega
  omega
 ·rw [← flat_drop2, ← hx, List.drop_take, List.drop_drop, Nat.sub_mul]
section
variable {B : Nat} {S R : Ents} {Q : Value → Ents → Prop}
theorem filled1C {x : Slot} (H : Q (.bool (!eqSl x ([], []))) S) : CallWp Tryz.prog B 119 #[.agg (slc x).toArray] Q S := by
 refine CallWp.dropRet ?_
 refine Yx (args := [_]) Tryz.func119 Tryz.ntmps119 ?_
 refine Yq ?_
 refine Yb rfl rfl rfl rfl fun L1 hBL1 hLL1 => ?_
 refine Yz 1 rfl ?_
 refine Yq ?_
 refine Yl m0 ?_
 refine OWp.g rfl rfl (Gives.build rfl rfl) ?_
 refine OWp.g rfl rfl (Gives.neqStruct (r := eqSl x ([], [])) 10 rfl rfl rfl rfl slotG (slEq x ([], []))) ?_
 refine Yz 1 rfl ?_
 refine Wp.ret ⟨trivial, _, ⟨_, _, rfl, rfl, rfl⟩, ?_⟩
 exact ⟨S, subl, H⟩
theorem filledC {v : Value} {l : List Slot} {n : Nat} (hl : Reads S 2 v l.length (l.flatMap slc)) (hcap : ∀ a m c, v = .slice a m c → m ≤ c) (h4 : l.length = 4) (hf : fillN l n) (H : Q (.bool true) S) : CallWp Tryz.prog B 78 #[v] Q S := by
 obtain ⟨f1, f2, f3⟩ := hf
 obtain ⟨b, o, cap', l', e, fz, hv, hm', hat⟩ := hl.elem (sz := 2) (sl_flat l) (by omega)
 cases hv
 have hc := hcap _ _ _ rfl
 refine Yx (args := [_]) Tryz.func78 Tryz.ntmps78 ?_
 refine Yn 1 rfl ?_
 refine Yn 1 rfl ?_
 refine Wp.seq ?_
 refine Wp.block ?_
 refine Wp.loopS (α := Nat) (fun i => l.length - i) (fun i => [(0, .slice (some ⟨b, o, none⟩) l.length cap'), (3, .int .i64 (i : Int))]) (fun _ => S) (fun i => i ≤ n) 0 ?_ (.refl _) (Nat.zero_le _) ?_
 ·exact .cons rfl (.cons rfl (.nil _))
 rintro i hi
 refine Wp.seq ?_
 refine Yg 5 rfl ?_
 refine OWp.part 8 rfl (fun h1 => ?_) (fun h1 => ?_)
 ·have h1 := of_decide_eq_true h1
  have h1' : i < l.length := by omega
  refine Ye 2 rfl ?_
  refine OWp.g rfl rfl (Gives.indexAddrSlice (i) rfl rfl rfl rfl rfl rfl (by omega)) ?_
  refine OWp.load hm' rfl rfl rfl rfl (partAt_agg (hat i h1') rfl rfl rfl) ?_
  refine OWp.step rfl (Step.call rfl rfl rfl rfl rfl rfl ((entryC ?_)))
  by_cases h2 : i < n
  ·skip
   rw [decide_eq_true (f2 i h1' h2)]
   refine Yz 1 rfl ?_
   refine Wp.cond rfl (fun _ => ?_) (fun c => nomatch c)
   refine Wp.skip ?_
   refine Wp.block ?_
   refine Wp.region ?_
   refine Yz 3 rfl ?_
   exact ⟨i + 1, by omega, by omega, .cons rfl (.cons' rfl (int_eq (i64_inc (by omega))) (.nil _)), .refl _⟩
  obtain rfl : i = n := by omega
  rw [f3 i h1' (by omega), decide_eq_false no_ent]
  refine Yz 1 rfl ?_
  refine Wp.cond rfl (fun c => nomatch c) (fun _ => ?_)
  refine Wp.exit ?_
  refine Yg 4 rfl ?_
  refine OWp.part 20 rfl (fun cc1 => ?_) (fun cc1 => absurd (of_decide_eq_false cc1) (by omega))
  have cc1 := of_decide_eq_true cc1
  refine Ye 2 rfl ?_
  refine OWp.g rfl rfl ((Gives.sliceEnd (l := i) (h' := l.length) rfl rfl rfl rfl ⟨_, _, rfl, rfl⟩ rfl (by omega) hc)) ?_
  refine OWp.step rfl (Step.call rfl rfl rfl rfl rfl rfl ((hasSlC (bnd := #[]) (f := fun s => !eqSl s ([], [])) rfl (tailSl hl rfl (by omega) hc) (by rw [List.length_drop]) (by omega) (fun s _ Q' h => filled1C h) ?_)))
  rw [show ((l.drop i).any fun s => !eqSl s ([], [])) = false from List.any_eq_false.2 fun x hx => by
   obtain ⟨j, hj, rfl⟩ := List.getElem_of_mem hx
   rw [List.getElem_drop, f3 (i + j) (by rw [List.length_drop] at hj; omega) (by omega)]
   decide]
  refine Yz 3 rfl ?_
  refine Wp.ret ⟨trivial, _, ⟨_, _, rfl, rfl, rfl⟩, ?_⟩
  exact H
 have h1 := of_decide_eq_false h1
 obtain rfl : i = n := by omega
 refine Yz 6 rfl ?_
 refine Wp.cond rfl (fun c => nomatch c) (fun _ => ?_)
 refine Wp.exit ?_
 refine Yg 4 rfl ?_
 refine OWp.part 20 rfl (fun cc2 => ?_) (fun cc2 => absurd (of_decide_eq_false cc2) (by omega))
 have cc2 := of_decide_eq_true cc2
 refine Ye 2 rfl ?_
 refine OWp.g rfl rfl ((Gives.sliceEnd (l := i) (h' := l.length) rfl rfl rfl rfl ⟨_, _, rfl, rfl⟩ rfl (by omega) hc)) ?_
 refine OWp.step rfl (Step.call rfl rfl rfl rfl rfl rfl ((hasSlC (bnd := #[]) (f := fun s => !eqSl s ([], [])) rfl (tailSl hl rfl (by omega) hc) (by rw [List.length_drop]) (by omega) (fun s _ Q' h => filled1C h) ?_)))
 rw [show ((l.drop i).any fun s => !eqSl s ([], [])) = false from List.any_eq_false.2 fun x hx => by
  obtain ⟨j, hj, rfl⟩ := List.getElem_of_mem hx
  rw [List.getElem_drop, f3 (i + j) (by rw [List.length_drop] at hj; omega) (by omega)]
  decide]
 refine Yz 3 rfl ?_
 refine Wp.ret ⟨trivial, _, ⟨_, _, rfl, rfl, rfl⟩, ?_⟩
 exact H
/-- The bytes of a slot, of a reply. -/
def slotB (x : Slot) : List UInt8 := x.1 ++ List.replicate (16 - x.1.length) 0 ++ ([UInt8.ofNat x.2.length] ++ (x.2 ++ List.replicate (222 - x.2.length) 0))
def repB (user seq : Nat) (l : List Slot) : List UInt8 := 3 :: (whoB user seq ++ (l.map slotB).flatten)
def slotP (x : Slot) : Prop := x.1.length ≤ 16 ∧ x.2.length ≤ 222
theorem slotB_len {x : Slot} (h : slotP x) : (slotB x).length = 239 := by
 obtain ⟨h1, h2⟩ := h
 simp only [slotB, List.length_append, List.length_replicate, List.length_cons, List.length_nil]
 omega
theorem fill_slotP {l : List Slot} {n : Nat} (h : fillN l n) : ∀ x ∈ l, slotP x := by
 intro x hx
 obtain ⟨i, hi, rfl⟩ := List.getElem_of_mem hx
 by_cases c : i < n
 ·have := h.2.1 i hi c
  exact ⟨Nat.le_of_eq this.1.1, this.2⟩
 ·rw [h.2.2 i hi (by omega)]
  exact ⟨by decide, by decide⟩
theorem checkRepC {user seq : Int} {sv : Value} {l : List Slot} {n : Nat} (hw : whoP user seq) (hl : Reads S 2 sv l.length (l.flatMap slc)) (hcap : ∀ a m c, sv = .slice a m c → m ≤ c) (h4 : l.length = 4) (hf : fillN l n) (H : Q (.int .i64 0) S) : CallWp Tryz.prog B 46 #[.agg (mlc 3 user seq [] [] sv (.slice none 0 0)).toArray] Q S := by
 obtain ⟨w1, w2, w3, w4⟩ := hw
 obtain ⟨ia, ic, rfl⟩ := hl.form
 refine CallWp.dropRet ?_
 refine Yx (args := [_]) Tryz.func46 Tryz.ntmps46 ?_
 refine Yq ?_
 refine Yb rfl rfl rfl rfl fun L1 hBL1 hLL1 => ?_
 refine Yz 1 rfl ?_
 refine Yg 1 rfl ?_
 refine Yl m0 ?_
 refine Ye 2 rfl ?_
 refine OWp.part 12 rfl (fun cc1 => ?_) (fun cc1 => absurd (of_decide_eq_false cc1) (by omega))
 have cc1 := of_decide_eq_true cc1
 refine Ye 1 rfl ?_
 refine Yl m0 ?_
 refine Ye 3 rfl ?_
 refine OWp.part 17 rfl (fun cc2 => ?_) (fun cc2 => absurd (of_decide_eq_false cc2) (by omega))
 have cc2 := of_decide_eq_true cc2
 refine Ye 1 rfl ?_
 refine Yl m0 ?_
 refine Ye 3 rfl ?_
 refine OWp.part 22 rfl (fun cc3 => ?_) (fun cc3 => absurd (of_decide_eq_false cc3) (by omega))
 have cc3 := of_decide_eq_true cc3
 refine Ye 1 rfl ?_
 refine Yl m0 ?_
 refine Yz 3 rfl ?_
 refine Yg 1 rfl ?_
 refine Yl m0 ?_
 refine Ye 2 rfl ?_
 refine OWp.part 30 rfl (fun u0 => ?_) (fun u0 => ?_)
 ·have u0 := of_decide_eq_true u0
  refine Ye 1 rfl ?_
  refine Yl m0 ?_
  refine Yz 3 rfl ?_
  refine Wp.seq (Wp.regionDraw [0, 1, 2, 3, 4, 5, 6, 7, 8, 9, 10, 11, 12, 13, 14, 15, 16, 17] [] rfl (by decide +kernel) ?_)
  refine DWp.evs 1 rfl ?_
  refine Yd m0 ?_
  refine DWp.evs 2 rfl ?_
  refine Yd m0 ?_
  refine DWp.evs 2 rfl ?_
  refine Yd m0 ?_
  refine DWp.evs 3 rfl ?_
  refine Yd m0 ?_
  refine DWp.evs 6 rfl ?_
  refine DWp.nil ?_
  refine Wp.seq ?_
  refine Yg 1 rfl ?_
  refine Yl m0 ?_
  refine OWp.nil ?_
  refine Wp.block ?_
  refine Yn 2 rfl ?_
  refine Wp.cond rfl (fun cc4 => absurd (of_decide_eq_true cc4) (by decide)) (fun cc4 => ?_)
  have cc4 := of_decide_eq_false cc4
  refine Yn 2 rfl ?_
  refine Wp.cond rfl (fun cc5 => absurd (of_decide_eq_true cc5) (by decide)) (fun cc5 => ?_)
  have cc5 := of_decide_eq_false cc5
  refine Yn 2 rfl ?_
  refine Wp.cond rfl (fun cc6 => ?_) (fun cc6 => absurd (of_decide_eq_false cc6) (by decide))
  have cc6 := of_decide_eq_true cc6
  refine Wp.region ?_
  refine Ye 1 rfl ?_
  refine Yl m0 ?_
  refine OWp.step rfl (Step.call rfl rfl rfl rfl rfl rfl ((filledC (l := l) (hl.mono fun x h => .tail _ h) hcap h4 hf ?_)))
  refine Yz 1 rfl ?_
  refine Wp.seq ?_
  refine Yg 3 rfl ?_
  refine OWp.part 87 rfl (fun cc7 => absurd (ndT cc7) (by exact fun h => h w4)) (fun cc7 => ?_)
  have cc7 := ndF cc7
  refine Ye 4 rfl ?_
  refine OWp.part 91 rfl (fun cc8 => absurd (ndT cc8) (by exact fun h => h rfl)) (fun cc8 => ?_)
  have cc8 := ndF cc8
  refine Ye 4 rfl ?_
  refine OWp.part 95 rfl (fun cc9 => absurd (ndT cc9) (by exact fun h => h rfl)) (fun cc9 => ?_)
  have cc9 := ndF cc9
  refine Ye 4 rfl ?_
  refine Yz 3 rfl ?_
  refine Wp.cond rfl (fun cc10 => absurd (ndT cc10) (by exact fun h => h rfl)) (fun cc10 => ?_)
  have cc10 := ndF cc10
  refine Wp.skip ?_
  refine Yn 1 rfl ?_
  refine Wp.ret ⟨trivial, _, ⟨_, _, rfl, rfl, rfl⟩, ?_⟩
  exact ⟨S, subl, H⟩
 have u0 := of_decide_eq_false u0
 refine Yz 5 rfl ?_
 refine Wp.seq (Wp.regionDraw [0, 1, 2, 3, 4, 5, 6, 7, 8, 9, 10, 11, 12, 13, 14, 15, 16, 17] [] rfl (by decide +kernel) ?_)
 refine DWp.evs 1 rfl ?_
 refine Yd m0 ?_
 refine DWp.evs 2 rfl ?_
 refine Yd m0 ?_
 refine DWp.evs 2 rfl ?_
 refine Yd m0 ?_
 refine DWp.evs 3 rfl ?_
 refine Yd m0 ?_
 refine DWp.evs 6 rfl ?_
 refine DWp.nil ?_
 refine Wp.seq ?_
 refine Yg 1 rfl ?_
 refine Yl m0 ?_
 refine OWp.nil ?_
 refine Wp.block ?_
 refine Yn 2 rfl ?_
 refine Wp.cond rfl (fun cc11 => absurd (of_decide_eq_true cc11) (by decide)) (fun cc11 => ?_)
 have cc11 := of_decide_eq_false cc11
 refine Yn 2 rfl ?_
 refine Wp.cond rfl (fun cc12 => absurd (of_decide_eq_true cc12) (by decide)) (fun cc12 => ?_)
 have cc12 := of_decide_eq_false cc12
 refine Yn 2 rfl ?_
 refine Wp.cond rfl (fun cc13 => ?_) (fun cc13 => absurd (of_decide_eq_false cc13) (by decide))
 have cc13 := of_decide_eq_true cc13
 refine Wp.region ?_
 refine Ye 1 rfl ?_
 refine Yl m0 ?_
 refine OWp.step rfl (Step.call rfl rfl rfl rfl rfl rfl ((filledC (l := l) (hl.mono fun x h => .tail _ h) hcap h4 hf ?_)))
 refine Yz 1 rfl ?_
 refine Wp.seq ?_
 refine Yg 3 rfl ?_
 refine OWp.part 87 rfl (fun cc14 => absurd (ndT cc14) (by exact fun h => h w4)) (fun cc14 => ?_)
 have cc14 := ndF cc14
 refine Ye 4 rfl ?_
 refine OWp.part 91 rfl (fun cc15 => absurd (ndT cc15) (by exact fun h => h rfl)) (fun cc15 => ?_)
 have cc15 := ndF cc15
 refine Ye 4 rfl ?_
 refine OWp.part 95 rfl (fun cc16 => absurd (ndT cc16) (by exact fun h => h rfl)) (fun cc16 => ?_)
 have cc16 := ndF cc16
 refine Ye 4 rfl ?_
 refine Yz 3 rfl ?_
 refine Wp.cond rfl (fun cc17 => absurd (ndT cc17) (by exact fun h => h rfl)) (fun cc17 => ?_)
 have cc17 := ndF cc17
 refine Wp.skip ?_
 refine Yn 1 rfl ?_
 refine Wp.ret ⟨trivial, _, ⟨_, _, rfl, rfl, rfl⟩, ?_⟩
 exact ⟨S, subl, H⟩
theorem four_len (a b c d : List UInt8) : ([a, b, c, d] : List (List UInt8)).flatten.length = a.length + (b.length + (c.length + d.length)) := by simp
theorem mapB_succ {l : List Slot} {i : Nat} (h : i < l.length) : ((l.take (i + 1)).map slotB).flatten = ((l.take i).map slotB).flatten ++ slotB l[i] := by
 rw [List.take_succ_eq_append_getElem h, List.map_append, List.flatten_append]
 simp
theorem mapB_len : ∀ {l : List Slot}, (∀ x ∈ l, slotP x) → (l.map slotB).flatten.length = l.length * 239
 | [], _ => rfl
 | x :: l, h => by
  rw [List.map_cons, List.flatten_cons, List.length_append, slotB_len (h x (.head _)), mapB_len fun y hy => h y (.tail _ hy), List.length_cons]
  omega
theorem encRepC {user seq n : Nat} {sv : Value} {l : List Slot} (hu : user < 64) (h1 : 1 ≤ seq) (h2 : seq ≤ 2147483647) (hl : Reads S 2 sv l.length (l.flatMap slc)) (hcap : ∀ a m c, sv = .slice a m c → m ≤ c) (h4 : l.length = 4) (hf : fillN l n) (H : Q (.tuple #[.string (str (repB user seq l)), .int .i64 0]) S) : CallWp Tryz.prog B 17 #[.agg (mlc 3 user seq [] [] sv (.slice none 0 0)).toArray] Q S := by
 have hsp := fill_slotP hf
 obtain ⟨b, o, cap', l', e, fz, hv, hm', hat⟩ := hl.elem (sz := 2) (sl_flat l) (by omega)
 subst hv
 refine CallWp.dropRet ?_
 refine Yx (args := [_]) Tryz.func17 Tryz.ntmps17 ?_
 refine Yq ?_
 refine Yb rfl rfl rfl rfl fun L1 hBL1 hLL1 => ?_
 refine Yz 2 rfl ?_
 refine Wp.seq ?_
 refine Yq ?_
 refine Yl m0 ?_
 refine OWp.step rfl (Step.call rfl rfl rfl rfl rfl rfl ((checkRepC ⟨by omega, by omega, by omega, by omega⟩ (hl.mono fun x h => .tail _ h) hcap h4 hf ?_)))
 refine Yz 1 rfl ?_
 refine Yn 2 rfl ?_
 refine Wp.cond rfl (fun cc1 => absurd (ndT cc1) (by exact fun h => h rfl)) (fun cc1 => ?_)
 have cc1 := ndF cc1
 refine Wp.skip ?_
 refine Yg 1 rfl ?_
 refine Yl m0 ?_
 refine Ye 1 rfl ?_
 refine OWp.step rfl (Step.buildSlice rfl rfl rfl ?_); intro L2 hBL2 hLL2
 refine OWp.gives rfl rfl (Gives.bytesToStr (l := [(3 : UInt8)]) (k := 1) rfl rfl rfl rfl rfl (one_byte2 (by decide))) (fun _ h => h) ?_
 refine Yz 1 rfl ?_
 refine Wp.seq ?_
 refine Yg 1 rfl ?_
 refine Yl m1 ?_
 refine Yz 1 rfl ?_
 refine Wp.cond rfl (fun cc2 => absurd (of_decide_eq_true cc2) (by decide)) (fun cc2 => ?_)
 have cc2 := of_decide_eq_false cc2
 refine Wp.skip ?_
 refine Yg 1 rfl ?_
 refine Yl m1 ?_
 refine Ye 2 rfl ?_
 refine Yl m1 ?_
 refine Ye 3 rfl ?_
 refine Yl m1 ?_
 refine Ye 3 rfl ?_
 refine Yl m1 ?_
 refine Ye 3 rfl ?_
 refine Yl m1 ?_
 refine Ye 1 rfl ?_
 refine OWp.step rfl (Step.buildSlice rfl rfl rfl ?_); intro L3 hBL3 hLL3
 refine OWp.gives rfl rfl (Gives.bytesToStr (l := whoB user seq) (k := 5) rfl rfl rfl rfl rfl (whoReads (.head _))) (fun _ h => h) ?_
 refine Yz 1 rfl ?_
 refine Yg 3 rfl ?_
 refine Yl m2 ?_
 refine OWp.step rfl (Step.buildSlice rfl rfl rfl ?_); intro L4 hBL4 hLL4
 refine OWp.step rfl (Step.call rfl rfl rfl rfl rfl rfl ((mjoinC (l := [[3], whoB user seq, []]) (Reads.row (k := 3) (sz := 1) (.head _) (Nat.le_of_ble_eq_true rfl)) (by rintro a m c h; cases h; exact Nat.le_refl _) (by decide) (by simp [whoB]) (fun _ => by simp) ?_)))
 refine Yz 1 rfl ?_
 refine Wp.seq ?_
 refine Yg 1 rfl ?_
 refine Yl m3 ?_
 refine Yz 2 rfl ?_
 show Wp _ _ _ _ _ _ _
 refine Wp.drop (S' := (L1, cel (mlc 3 user seq [] [] (.slice (some ⟨b, o, none⟩) l.length cap') (.slice none 0 0)) 58) :: S) subl ?_
 obtain ⟨hd, hhd, hdl⟩ : ∃ x : List UInt8, ([[3], whoB user seq, []] : List (List UInt8)).flatten = x ∧ x.length = 6 := ⟨_, rfl, by simp [whoB]⟩
 rw [hhd]
 refine Wp.block ?_
 refine Wp.loopS (α := Nat) (fun i => l.length - i) (fun i => [(1, pt L1), (7, .string (str (hd ++ ((l.take i).map slotB).flatten))), (55, .slice (some ⟨b, o, none⟩) l.length cap'), (56, .int .i64 (l.length : Int)), (57, .int .i64 (i : Int))]) (fun _ => (L1, cel (mlc 3 user seq [] [] (.slice (some ⟨b, o, none⟩) l.length cap') (.slice none 0 0)) 58) :: S) (fun i => i ≤ l.length) 0 ?_ (.refl _) (Nat.zero_le _) ?_
 ·exact .cons rfl (.cons' rfl (by simp) (.cons rfl (.cons rfl (.cons rfl (.nil _)))))
 rintro i hi
 refine Yn 1 rfl ?_
 refine Wp.seq ?_
 refine Wp.cond rfl (fun c1 => ?_) (fun c1 => ?_)
 ·have c1 := of_decide_eq_true c1
  have hlt : i < l.length := by omega
  have hx := hsp _ (List.getElem_mem hlt)
  have hml := mapB_len (l := l.take i) fun x h => hsp x (List.mem_of_mem_take h)
  rw [List.length_take] at hml
  have hxb := slotB_len hx
  have hx1 := hx.1
  have hx2 := hx.2
  refine Wp.skip ?_
  refine Wp.seq ?_
  refine Wp.block ?_
  refine Yq ?_
  refine OWp.g rfl rfl (Gives.indexAddrSlice (i) rfl rfl rfl rfl rfl rfl (by omega)) ?_
  refine OWp.load (.tail _ hm') rfl rfl rfl rfl (partAt_agg (hat i hlt) rfl rfl rfl) ?_
  refine Ya rfl rfl rfl rfl fun L9 hBL9 hLL9 => ?_
  refine OWp.step rfl (Step.storeAs 0 (slc l[i]) rfl rfl rfl rfl rfl (by assumption) rfl (Unfz.zero _) rfl (Nat.le_of_ble_eq_true rfl) rfl rfl ?_)
  refine OWp.nil ?_
  refine Wp.regionDraw [0, 1, 2, 4, 5, 6, 7, 10, 11, 16, 16, 16, 16, 16, 16, 16] [3, 8, 12, 13, 14] rfl (by decide +kernel) ?_
  refine DWp.evs 2 rfl ?_
  refine Yd (show (L9, cel (slc l[i]) 64) ∈ _ from by repeat (first | exact List.Mem.head _ | assumption | exact List.mem_append_left _ (by assumption) | apply List.mem_cons_of_mem | apply List.mem_append_right)) ?_
  refine DWp.evs 1 rfl ?_
  refine Yd (show (L9, cel (slc l[i]) 64) ∈ _ from by repeat (first | exact List.Mem.head _ | assumption | exact List.mem_append_left _ (by assumption) | apply List.mem_cons_of_mem | apply List.mem_append_right)) ?_
  refine DWp.evs 3 rfl ?_
  refine Yd (show (L9, cel (slc l[i]) 64) ∈ _ from by repeat (first | exact List.Mem.head _ | assumption | exact List.mem_append_left _ (by assumption) | apply List.mem_cons_of_mem | apply List.mem_append_right)) ?_
  refine DWp.forkTo [3, 8] (by decide +kernel) (by simp) ?_
  intro xx hxx
  simp only [List.mem_cons, List.mem_nil_iff, or_false] at hxx
  rcases hxx with rfl | rfl
  ·refine ⟨_, [16, 16, 16, 16, 16, 16], rfl, rfl, by decide +kernel, rfl, ?_⟩
   refine (Step.call rfl rfl rfl rfl rfl rfl (padC (n := 16) hx1 (by decide) ?_))
   refine prs ?_
   refine DWp.forkTo [8, 12] (by decide +kernel) (by simp) ?_
   intro xx hxx
   simp only [List.mem_cons, List.mem_nil_iff, or_false] at hxx
   rcases hxx with rfl | rfl
   ·refine ⟨_, [9, 12, 13, 14, 15], rfl, rfl, by decide +kernel, rfl, ?_⟩
    refine (Step.buildSlice rfl rfl rfl ?_); intro L10 hBL10 hLL10
    refine prs ?_
    refine DWp.gives rfl rfl rfl rfl (Gives.bytesToStr (l := [UInt8.ofNat l[i].2.length]) (k := 1) rfl rfl rfl rfl rfl (one_byte2 (S := []) (u8c _ _ rfl))) (fun x h => by (repeat (first | assumption | exact List.Mem.head _ | exact List.mem_append_left _ (by assumption) | apply List.mem_cons_of_mem | apply List.mem_append_right))) ?_
    refine DWp.step rfl rfl rfl (Step.call rfl rfl rfl rfl rfl rfl (padC (n := 222) hx2 (by decide) ?_))
    refine prs ?_
    refine DWp.step rfl rfl rfl (Step.buildSlice rfl rfl rfl ?_); intro L11 hBL11 hLL11
    refine prs ?_
    refine DWp.step rfl rfl rfl (Step.call rfl rfl rfl rfl rfl rfl (mjoinC (l := [hd ++ ((l.take i).map slotB).flatten, l[i].1 ++ List.replicate (16 - l[i].1.length) 0, [UInt8.ofNat l[i].2.length], l[i].2 ++ List.replicate (222 - l[i].2.length) 0]) (Reads.row (k := 4) (sz := 1) (.head _) (Nat.le_of_ble_eq_true rfl)) (by rintro a m c h; cases h; exact Nat.le_refl _) (by decide) (by rw [four_len]; simp only [List.length_append, List.length_replicate, List.length_cons, List.length_nil]; omega) (fun _ => by rw [four_len]; simp only [List.length_append, List.length_replicate, List.length_cons, List.length_nil]; omega) ?_))
    refine prs ?_
    refine DWp.evs 1 rfl ?_
    refine DWp.nil ?_
    refine Wp.drop (S' := (L1, cel (mlc 3 user seq [] [] (.slice (some ⟨b, o, none⟩) l.length cap') (.slice none 0 0)) 58) :: S) subl ?_
    refine Wp.region ?_
    refine Yz 2 rfl ?_
    exact ⟨i + 1, by omega, by omega, .cons rfl (.cons' rfl (by rw [mapB_succ hlt]; simp [slotB]) (.cons rfl (.cons rfl (.cons' rfl (int_eq (i64_inc (by omega))) (.nil _))))), .refl _⟩
   ·refine ⟨_, [8, 9, 13, 14, 15], rfl, rfl, by decide +kernel, rfl, ?_⟩
    refine (Step.call rfl rfl rfl rfl rfl rfl (padC (n := 222) hx2 (by decide) ?_))
    refine prs ?_
    refine DWp.step rfl rfl rfl (Step.buildSlice rfl rfl rfl ?_); intro L10 hBL10 hLL10
    refine prs ?_
    refine DWp.gives rfl rfl rfl rfl (Gives.bytesToStr (l := [UInt8.ofNat l[i].2.length]) (k := 1) rfl rfl rfl rfl rfl (one_byte2 (S := []) (u8c _ _ rfl))) (fun x h => by (repeat (first | assumption | exact List.Mem.head _ | exact List.mem_append_left _ (by assumption) | apply List.mem_cons_of_mem | apply List.mem_append_right))) ?_
    refine DWp.step rfl rfl rfl (Step.buildSlice rfl rfl rfl ?_); intro L11 hBL11 hLL11
    refine prs ?_
    refine DWp.step rfl rfl rfl (Step.call rfl rfl rfl rfl rfl rfl (mjoinC (l := [hd ++ ((l.take i).map slotB).flatten, l[i].1 ++ List.replicate (16 - l[i].1.length) 0, [UInt8.ofNat l[i].2.length], l[i].2 ++ List.replicate (222 - l[i].2.length) 0]) (Reads.row (k := 4) (sz := 1) (.head _) (Nat.le_of_ble_eq_true rfl)) (by rintro a m c h; cases h; exact Nat.le_refl _) (by decide) (by rw [four_len]; simp only [List.length_append, List.length_replicate, List.length_cons, List.length_nil]; omega) (fun _ => by rw [four_len]; simp only [List.length_append, List.length_replicate, List.length_cons, List.length_nil]; omega) ?_))
    refine prs ?_
    refine DWp.evs 1 rfl ?_
    refine DWp.nil ?_
    refine Wp.drop (S' := (L1, cel (mlc 3 user seq [] [] (.slice (some ⟨b, o, none⟩) l.length cap') (.slice none 0 0)) 58) :: S) subl ?_
    refine Wp.region ?_
    refine Yz 2 rfl ?_
    exact ⟨i + 1, by omega, by omega, .cons rfl (.cons' rfl (by rw [mapB_succ hlt]; simp [slotB]) (.cons rfl (.cons rfl (.cons' rfl (int_eq (i64_inc (by omega))) (.nil _))))), .refl _⟩
  ·refine ⟨_, [9, 3, 12, 13, 14, 15], rfl, rfl, by decide +kernel, rfl, ?_⟩
   refine (Step.buildSlice rfl rfl rfl ?_); intro L10 hBL10 hLL10
   refine prs ?_
   refine DWp.gives rfl rfl rfl rfl (Gives.bytesToStr (l := [UInt8.ofNat l[i].2.length]) (k := 1) rfl rfl rfl rfl rfl (one_byte2 (S := []) (u8c _ _ rfl))) (fun x h => by (repeat (first | assumption | exact List.Mem.head _ | exact List.mem_append_left _ (by assumption) | apply List.mem_cons_of_mem | apply List.mem_append_right))) ?_
   refine DWp.step rfl rfl rfl (Step.call rfl rfl rfl rfl rfl rfl (padC (n := 16) hx1 (by decide) ?_))
   refine prs ?_
   refine DWp.step rfl rfl rfl (Step.call rfl rfl rfl rfl rfl rfl (padC (n := 222) hx2 (by decide) ?_))
   refine prs ?_
   refine DWp.step rfl rfl rfl (Step.buildSlice rfl rfl rfl ?_); intro L11 hBL11 hLL11
   refine prs ?_
   refine DWp.step rfl rfl rfl (Step.call rfl rfl rfl rfl rfl rfl (mjoinC (l := [hd ++ ((l.take i).map slotB).flatten, l[i].1 ++ List.replicate (16 - l[i].1.length) 0, [UInt8.ofNat l[i].2.length], l[i].2 ++ List.replicate (222 - l[i].2.length) 0]) (Reads.row (k := 4) (sz := 1) (.head _) (Nat.le_of_ble_eq_true rfl)) (by rintro a m c h; cases h; exact Nat.le_refl _) (by decide) (by rw [four_len]; simp only [List.length_append, List.length_replicate, List.length_cons, List.length_nil]; omega) (fun _ => by rw [four_len]; simp only [List.length_append, List.length_replicate, List.length_cons, List.length_nil]; omega) ?_))
   refine prs ?_
   refine DWp.evs 1 rfl ?_
   refine DWp.nil ?_
   refine Wp.drop (S' := (L1, cel (mlc 3 user seq [] [] (.slice (some ⟨b, o, none⟩) l.length cap') (.slice none 0 0)) 58) :: S) subl ?_
   refine Wp.region ?_
   refine Yz 2 rfl ?_
   exact ⟨i + 1, by omega, by omega, .cons rfl (.cons' rfl (by rw [mapB_succ hlt]; simp [slotB]) (.cons rfl (.cons rfl (.cons' rfl (int_eq (i64_inc (by omega))) (.nil _))))), .refl _⟩
 have c1 := of_decide_eq_false c1
 obtain rfl : i = l.length := by omega
 rw [List.take_length]
 obtain ⟨ac, hac, hal⟩ : ∃ x, (l.map slotB).flatten = x ∧ x.length = 956 := ⟨_, rfl, by rw [mapB_len hsp, h4]⟩
 rw [hac]
 refine Wp.exit ?_
 refine Wp.seq (Wp.regionDraw [0, 1, 2, 6, 7, 3, 4, 5, 8, 9, 10, 11] [3, 4, 5, 8, 9] rfl (by decide +kernel) ?_)
 refine DWp.evs 2 rfl ?_
 refine Yd m0 ?_
 refine DWp.evs 1 rfl ?_
 refine Yd m0 ?_
 refine DWp.stepGrow rfl rfl rfl (Step.call rfl rfl rfl rfl rfl rfl ((mjoinC (l := []) (Reads.nil _ _) (by rintro a m c h; cases h; exact Nat.le_refl _) (by decide) (by decide) (fun h => by omega) ?_)))
 refine ⟨fun _ hy => hy, ?_⟩
 refine DWp.stepGrow rfl rfl rfl (Step.buildSlice rfl rfl rfl ?_); intro L5 hBL5 hLL5; refine ⟨fun _ hy => .tail _ hy, ?_⟩
 refine DWp.stepGrow rfl rfl rfl (Step.call rfl rfl rfl rfl rfl rfl ((mjoinC (l := [hd ++ ac, []]) (Reads.row (k := 2) (sz := 1) (.head _) (Nat.le_of_ble_eq_true rfl)) (by rintro a m c h; cases h; exact Nat.le_refl _) (by decide) (by simp [hdl, hal]) (fun _ => by simp [hdl, hal]) ?_)))
 refine ⟨fun _ hy => hy, ?_⟩
 refine DWp.stepGrow rfl rfl rfl (Step.call rfl rfl rfl rfl rfl rfl ((mlongC (n := 962) (.inr (.inr (.inl ⟨rfl, rfl⟩))) ?_)))
 refine ⟨fun _ hy => hy, ?_⟩
 refine DWp.stepGrow rfl rfl rfl (Step.call rfl rfl rfl rfl rfl rfl ((padC (n := 962) (by simp [hdl, hal]) (by decide) ?_)))
 refine ⟨fun _ hy => hy, ?_⟩
 refine DWp.evs 2 rfl ?_
 refine DWp.nil ?_
 refine Wp.ret ⟨trivial, _, ⟨_, _, rfl, rfl, _, _, rfl, rfl, rfl⟩, ?_⟩
 refine ⟨S, subl, ?_⟩
 rw [← hhd]
 have e : (([[[3], whoB user seq, []].flatten ++ ac, []] : List (List UInt8)).flatten ++ List.replicate (962 - ([[[3], whoB user seq, []].flatten ++ ac, []] : List (List UInt8)).flatten.length) 0) = repB user seq l := by
  have h1 : (([[[3], whoB user seq, []].flatten ++ ac, []] : List (List UInt8)).flatten) = repB user seq l := by simp [repB, hac]
  rw [h1, show (repB user seq l).length = 962 by simp only [repB, hac, List.length_cons, List.length_append, hal]; rfl]
  simp
 rw [e]
 exact H
end
end Go.Proofs.D

/- Messages: how they are read. -/
namespace Go.Lg
theorem DWp.drop0 {P : Program} {B n : Nat} {ops : Array Oper} {Q : Exit → Env → Ents → Prop} {E : Env} {S S' : Ents} {muts : List Nat} {l : Array Bool} {rest : List Nat} (h : S'.Sublist S) (hc : DWp P B n ops muts l rest [] Q E S') : DWp P B n ops muts l rest [] Q E S :=
 fun hgo a w hS hA => hc ⟨hgo.closed, hgo.ok, hgo.sel, fun _ hx => nomatch hx⟩ a w (hS.sublist h) hA
end Go.Lg
namespace Go.Proofs.D
open Go.Lg Go.Sha Go.Hd Go.Cv
set_option maxRecDepth 100000
section
variable {B : Nat} {S R : Ents} {Q : Value → Ents → Prop}
theorem mcutC {L n : Nat} {s : List UInt8} (hB : B ≤ L) (hn : n ≤ s.length) (hm : n ≤ 4294967296) (H : Q (.string (str (s.take n))) ((L, cel [.string (str (s.drop n))] 9) :: S)) : CallWp Tryz.prog B 41 #[pt L, .int .i64 (n : Int)] Q ((L, cel [.string (str s)] 9) :: S) := by
 refine Yx (args := [_, _]) Tryz.func41 Tryz.ntmps41 ?_
 refine Yn 1 rfl ?_
 refine Yg 2 rfl ?_
 refine Yl m0 ?_
 refine Ye 1 rfl ?_
 refine OWp.g rfl rfl (Gives.sliceStr (l := 0) (h' := n) rfl rfl rfl rfl ⟨_, _, rfl, rfl⟩ (by omega) (by omega)) ?_
 refine Yz 1 rfl ?_
 refine Yg 3 rfl ?_
 refine Yl m0 ?_
 refine Ye 1 rfl ?_
 refine OWp.g rfl rfl (Gives.sliceStr (l := n) (h' := s.length) rfl rfl rfl ⟨_, _, rfl, rfl⟩ rfl (by omega) (by omega)) ?_
 rw [show (s.drop n).take (s.length - n) = s.drop n from List.take_of_length_le (by rw [List.length_drop]; omega)]
 refine Ye 1 rfl ?_
 refine OWp.step rfl (Step.storeAs 0 ([.string (str (s.drop n))]) rfl rfl rfl rfl rfl (by assumption) rfl (Unfz.zero _) rfl (Nat.le_of_ble_eq_true rfl) rfl rfl ?_)
 refine OWp.nil ?_
 refine Yn 2 rfl ?_
 refine Wp.ret ⟨trivial, _, ⟨_, _, rfl, rfl, rfl⟩, ?_⟩
 exact H
theorem decPackC {text : List UInt8} (ht : text.length = 504) (H : Q (.tuple #[.agg (mlc 1 0 0 text [] (.slice none 0 0) (.slice none 0 0)).toArray, .int .i64 0]) S) : CallWp Tryz.prog B 15 #[.string (str (packB text))] Q S := by
 refine CallWp.dropRet ?_
 refine Yx (args := [_]) Tryz.func15 Tryz.ntmps15 ?_
 refine Yq ?_
 refine Ya rfl rfl rfl rfl fun L2 hBL2 hLL2 => ?_
 refine Yz 1 rfl ?_
 refine Wp.seq ?_
 refine Yg 3 rfl ?_
 refine OWp.part 15 rfl (fun cc1 => absurd (of_decide_eq_true cc1) (by exact fun h => nomatch h)) (fun cc1 => ?_)
 have cc1 := of_decide_eq_false cc1
 refine Ye 3 rfl ?_
 refine OWp.g rfl rfl (Gives.indexStr (b := 1) rfl rfl rfl rfl (by decide) rfl) ?_
 refine Ye 1 rfl ?_
 refine OWp.step rfl (Step.call rfl rfl rfl rfl rfl rfl ((mlongC (n := 505) (.inl ⟨rfl, rfl⟩) ?_)))
 refine Yz 2 rfl ?_
 refine Wp.cond rfl (fun cc2 => absurd (ndT cc2) (by simp [packB, ht])) (fun cc2 => ?_)
 have cc2 := ndF cc2
 refine Wp.skip ?_
 refine Yg 1 rfl ?_
 refine Ya rfl rfl rfl rfl fun L4 hBL4 hLL4 => ?_
 refine OWp.step rfl (Step.storeAs 0 ([.string (str (packB text))]) rfl rfl rfl rfl rfl (by assumption) rfl (Unfz.zero _) rfl (Nat.le_of_ble_eq_true rfl) rfl rfl ?_)
 refine OWp.nil ?_
 refine Yq ?_
 refine OWp.step rfl (Step.call rfl rfl rfl rfl rfl rfl ((mcutC hBL4 (by simp [packB]) (by decide) ?_)))
 refine OWp.g rfl rfl (Gives.indexStr (b := 1) rfl rfl rfl rfl (by decide) rfl) ?_
 refine Ye 1 rfl ?_
 refine OWp.g rfl rfl (Gives.build rfl rfl) ?_
 refine Ya rfl rfl rfl rfl fun L5 hBL5 hLL5 => ?_
 refine OWp.step rfl (Step.storeAs 0 ((mlc 1 0 0 [] [] (.slice none 0 0) (.slice none 0 0))) rfl rfl rfl rfl rfl (by assumption) rfl (Unfz.zero _) rfl (Nat.le_of_ble_eq_true rfl) rfl rfl ?_)
 refine OWp.nil ?_
 refine Wp.seq ?_
 refine Yg 1 rfl ?_
 refine Yl m0 ?_
 refine Yz 1 rfl ?_
 refine Wp.cond rfl (fun cc3 => ?_) (fun cc3 => absurd (of_decide_eq_false cc3) (by decide))
 have cc3 := of_decide_eq_true cc3
 refine Yq ?_
 refine Yl m1 ?_
 refine Ye 1 rfl ?_
 refine OWp.step rfl (Step.storeAs 0 ((mlc 1 0 0 text [] (.slice none 0 0) (.slice none 0 0))) rfl rfl rfl rfl rfl (by assumption) rfl (Unfz.zero _) rfl (Nat.le_of_ble_eq_true rfl) rfl rfl ?_)
 refine OWp.nil ?_
 refine Yq ?_
 refine Yl m0 ?_
 refine OWp.step rfl (Step.storeAs 2 ((mlc 1 0 0 text [] (.slice none 0 0) (.slice none 0 0))) rfl rfl rfl rfl rfl hBL2 rfl (Unfz.zero _) rfl (Nat.le_of_ble_eq_true rfl) rfl rfl ?_)
 refine Yz 1 rfl ?_
 refine Wp.ret ⟨trivial, _, ⟨_, _, _, _, rfl, rfl, ⟨_, _, _, mems, (by first | assumption | rfl)⟩, ⟨_, _, rfl, rfl, rfl⟩⟩, ?_⟩
 exact ⟨S, subl, H⟩
theorem u8i {n : Nat} (h : n < 256) : IntKind.i64.wrap ((UInt8.ofNat n).toNat : Int) = (n : Int) := by
 rw [UInt8.toNat_ofNat', i64_id] <;> omega
/-- The number that the first bytes make. -/
def sq (seq i : Nat) : Nat := seq / 2 ^ (8 * (4 - i))
theorem or256 {a b : Nat} (h : b < 256) : (a * 256) ||| b = a * 256 + b := by
 have := Nat.two_pow_add_eq_or_of_lt (i := 8) (b := b) (by simpa using h) a
 rw [Nat.mul_comm a 256]
 exact this.symm
theorem sq_or {q a : Nat} (hq : q ≤ 2147483647) (ha : a = q / 256) : bits .or .i64 (IntKind.i64.wrap ((a : Int) * 2 ^ (min 8 IntKind.i64.bits))) (IntKind.i64.wrap ((UInt8.ofNat q).toNat : Int)) = (q : Int) := by
 subst ha
 have e1 : IntKind.i64.wrap (((q / 256 : Nat) : Int) * 2 ^ (min 8 IntKind.i64.bits)) = ((q / 256 * 256 : Nat) : Int) := by
  rw [show (2 : Int) ^ (min 8 IntKind.i64.bits) = 256 from rfl, i64_id] <;> omega
 have e2 : IntKind.i64.wrap ((UInt8.ofNat q).toNat : Int) = ((q % 256 : Nat) : Int) := by
  rw [UInt8.toNat_ofNat', i64_id] <;> omega
 rw [e1, e2, i63_or (by omega) (by omega), or256 (by omega)]
 omega
theorem sq_div {seq i : Nat} (hi : i < 4) : sq seq i = sq seq (i + 1) / 256 := by
 unfold sq
 rw [show 8 * (4 - i) = 8 * (4 - (i + 1)) + 8 by omega, Nat.pow_add, Nat.div_div_eq_div_mul]
theorem sq_le {seq i : Nat} : sq seq i ≤ seq := Nat.div_le_self _ _
theorem sq_zero {seq : Nat} (h : seq ≤ 2147483647) : sq seq 0 = 0 := by
 unfold sq
 exact Nat.div_eq_of_lt (by omega)
theorem sq_four {seq : Nat} : sq seq 4 = seq := by simp [sq]
def seqB (seq : Nat) : List UInt8 := [UInt8.ofNat (seq / 16777216), UInt8.ofNat (seq / 65536), UInt8.ofNat (seq / 256), UInt8.ofNat seq]
theorem seqB_get {seq i : Nat} (hi : i < 4) : (seqB seq)[i]? = some (UInt8.ofNat (sq seq (i + 1))) := by
 match i, hi with
 | 0, _ => rfl
 | 1, _ => rfl
 | 2, _ => rfl
 | 3, _ => simp [seqB, sq]
theorem seqB_cell {seq i : Nat} (hi : i < 4) (g : List Value) : (byteCells (seqB seq) ++ g)[0 + i * 1]? = some (.int .u8 ((UInt8.ofNat (sq seq (i + 1))).toNat : Int)) := by
 rw [show 0 + i * 1 = i by omega, List.getElem?_append_left (by simp [byteCells, seqB]; omega), byteCells, List.getElem?_map, seqB_get hi]
 rfl
/-- What stands behind the user and the number: a tag, slots, ids. -/
def restP (k : UInt8) (r tag : List UInt8) (l : List Slot) (ids : List (List UInt8)) : Prop :=
 (k = 2 ∧ r = tag ∧ tag.length = 32 ∧ l = [] ∧ ids = []) ∨
 (k = 3 ∧ tag = [] ∧ r = (l.map slotB).flatten ∧ l.length = 4 ∧ (∃ n, fillN l n) ∧ ids = []) ∨
 (k = 4 ∧ r = tag ++ (ids.flatten ++ List.replicate (64 - ids.flatten.length) 0) ∧ tag.length = 32 ∧ l = [] ∧ ids.length ≤ 4 ∧ ∀ s ∈ ids, idP s)
def mailN (k : UInt8) : Nat := if k = 2 then 38 else if k = 3 then 962 else 102
theorem rest_len {k : UInt8} {r tag : List UInt8} {l : List Slot} {ids : List (List UInt8)} (h : restP k r tag l ids) : r.length + 6 = mailN k := by
 rcases h with ⟨rfl, rfl, h, _⟩ | ⟨rfl, _, rfl, h, ⟨n, hn⟩, _⟩ | ⟨rfl, rfl, h, _, h4, hi⟩
 ·rw [h]; rfl
 ·rw [mapB_len (fill_slotP hn), h]; rfl
 ·have := ids_len fun s hs => (hi s hs).1
  rw [List.length_append, List.length_append, List.length_replicate, h, this]
  show _ = 102
  omega
theorem rest_k {k : UInt8} {r tag : List UInt8} {l : List Slot} {ids : List (List UInt8)} (h : restP k r tag l ids) : k = 2 ∨ k = 3 ∨ k = 4 := by
 rcases h with ⟨h, _⟩ | ⟨h, _⟩ | ⟨h, _⟩ <;> simp [h]
def idB (x : Slot) : List UInt8 := x.1 ++ List.replicate (16 - x.1.length) 0
def txB (x : Slot) : List UInt8 := x.2 ++ List.replicate (222 - x.2.length) 0
theorem slotB_eq (x : Slot) (r : List UInt8) : slotB x ++ r = idB x ++ (UInt8.ofNat x.2.length :: (txB x ++ r)) := by simp [slotB, idB, txB]
theorem idB_len {x : Slot} (h : slotP x) : (idB x).length = 16 := by
 have := h.1
 rw [idB, List.length_append, List.length_replicate]
 omega
theorem txB_len {x : Slot} (h : slotP x) : (txB x).length = 222 := by
 have := h.2
 rw [txB, List.length_append, List.length_replicate]
 omega
def restB (l : List Slot) (i : Nat) : List UInt8 := ((l.drop i).map slotB).flatten
theorem restB_succ {l : List Slot} {i : Nat} (h : i < l.length) : restB l i = idB l[i] ++ (UInt8.ofNat l[i].2.length :: (txB l[i] ++ restB l (i + 1))) := by
 rw [restB, List.drop_eq_getElem_cons h, List.map_cons, List.flatten_cons, slotB_eq]
 rfl
theorem sl_take {l : List Slot} {i : Nat} (h : i < l.length) : (l.take (i + 1)).flatMap slc = (l.take i).flatMap slc ++ slc l[i] := by
 rw [List.take_succ_eq_append_getElem h, List.flatMap_append]
 simp
def pdI (ids : List (List UInt8)) : List (List UInt8) := ids ++ List.replicate (4 - ids.length) noId
def restI (ids : List (List UInt8)) (i : Nat) : List UInt8 := ((pdI ids).drop i).flatten
theorem restI_zero {ids : List (List UInt8)} (h : ∀ s ∈ ids, idP s) : ids.flatten ++ List.replicate (64 - ids.flatten.length) 0 = restI ids 0 := by
 rw [restI, List.drop_zero, pdI, List.flatten_append, noId, List.flatten_replicate_replicate, ids_len fun s hs => (h s hs).1, show 64 - ids.length * 16 = (4 - ids.length) * 16 by omega]
theorem pdI_len {ids : List (List UInt8)} (h : ids.length ≤ 4) : (pdI ids).length = 4 := by
 rw [pdI, List.length_append, List.length_replicate]
 omega
theorem restI_succ {ids : List (List UInt8)} {i : Nat} (h : i < (pdI ids).length) : restI ids i = (pdI ids)[i] ++ restI ids (i + 1) := by
 rw [restI, List.drop_eq_getElem_cons h, List.flatten_cons]
 rfl
theorem restI_in {ids : List (List UInt8)} {i : Nat} (h : i < ids.length) : restI ids i = ids[i] ++ restI ids (i + 1) := by
 rw [restI_succ (by rw [pdI, List.length_append]; omega)]
 simp only [pdI, List.getElem_append_left h]
theorem restI_out {ids : List (List UInt8)} {i : Nat} (h : ids.length ≤ i) (h4 : i < 4) : restI ids i = noId ++ restI ids (i + 1) := by
 rw [restI_succ (by rw [pdI, List.length_append, List.length_replicate]; omega)]
 simp only [pdI, List.getElem_append_right h, List.getElem_replicate]
theorem strs_take {l : List (List UInt8)} {i : Nat} (h : i < l.length) : strs (l.take (i + 1)) = strs (l.take i) ++ [.string (str l[i])] := by
 rw [List.take_succ_eq_append_getElem h, strs, List.map_append]
 rfl
def mailB (k : UInt8) (user seq : Nat) (r : List UInt8) : List UInt8 := k :: UInt8.ofNat user :: (seqB seq ++ r)
set_option maxHeartbeats 1000000 in
theorem decWhoC {k : UInt8} {user seq : Nat} {r tag : List UInt8} {l : List Slot} {ids : List (List UInt8)} (hu : user < 64) (h1 : 1 ≤ seq) (h2 : seq ≤ 2147483647) (hr : restP k r tag l ids)
  (H : ∀ sv iv es fs, Lg.Own B 64 2 sv l.length (l.flatMap slc) es → Lg.Own B 9 1 iv ids.length (strs ids) fs → (k ≠ 3 → sv = .slice none 0 0 ∧ es = []) → (k ≠ 4 → iv = .slice none 0 0 ∧ fs = []) → Q (.tuple #[.agg (mlc k.toNat user seq [] tag sv iv).toArray, .int .i64 0]) (es ++ (fs ++ S))) : CallWp Tryz.prog B 15 #[.string (str (mailB k user seq r))] Q S := by
 have hlen := rest_len hr
 have hk := rest_k hr
 have hki : IntKind.i64.wrap (k.toNat : Int) = (k.toNat : Int) := by rcases hk with rfl | rfl | rfl <;> decide
 have hN : mailN k = 38 ∨ mailN k = 962 ∨ mailN k = 102 := by rcases hk with rfl | rfl | rfl <;> decide
 refine C.subRet ?_
 refine Yx (args := [_]) Tryz.func15 Tryz.ntmps15 ?_
 refine Yq ?_
 refine Ya rfl rfl rfl rfl fun L2 hBL2 hLL2 => ?_
 refine Yz 1 rfl ?_
 refine Wp.seq ?_
 refine Yg 3 rfl ?_
 refine OWp.part 15 rfl (fun cc1 => absurd (of_decide_eq_true cc1) (by exact fun h => nomatch h)) (fun cc1 => ?_)
 have cc1 := of_decide_eq_false cc1
 refine Ye 3 rfl ?_
 refine OWp.g rfl rfl (Gives.indexStr (b := k) rfl rfl rfl rfl (by decide) rfl) ?_
 refine Ye 1 rfl ?_
 refine OWp.step rfl (Step.call rfl rfl rfl rfl rfl rfl ((mlongC (n := mailN k) (by rw [hki]; rcases hk with rfl | rfl | rfl <;> decide) ?_)))
 refine Yz 2 rfl ?_
 refine Wp.cond rfl (fun cc2 => absurd (ndT cc2) (by simp [mailB, seqB]; omega)) (fun cc2 => ?_)
 have cc2 := ndF cc2
 refine Wp.skip ?_
 refine Yg 1 rfl ?_
 refine Ya rfl rfl rfl rfl fun L4 hBL4 hLL4 => ?_
 refine OWp.step rfl (Step.storeAs 0 ([.string (str (mailB k user seq r))]) rfl rfl rfl rfl rfl (by assumption) rfl (Unfz.zero _) rfl (Nat.le_of_ble_eq_true rfl) rfl rfl ?_)
 refine OWp.nil ?_
 refine Yq ?_
 refine OWp.step rfl (Step.call rfl rfl rfl rfl rfl rfl ((mcutC hBL4 (by simp [mailB]) (by decide) ?_)))
 refine OWp.g rfl rfl (Gives.indexStr (b := k) rfl rfl rfl rfl (by decide) rfl) ?_
 refine Ye 1 rfl ?_
 refine OWp.g rfl rfl (Gives.build rfl rfl) ?_
 refine Ya rfl rfl rfl rfl fun L5 hBL5 hLL5 => ?_
 refine OWp.step rfl (Step.storeAs 0 ((mlc k.toNat 0 0 [] [] (.slice none 0 0) (.slice none 0 0))) rfl rfl rfl rfl rfl (by assumption) rfl (Unfz.zero _) rfl (Nat.le_of_ble_eq_true rfl) (by rw [hki]; rfl) rfl ?_)
 refine OWp.nil ?_
 refine Wp.seq ?_
 refine Yg 1 rfl ?_
 refine Yl m0 ?_
 refine Yz 1 rfl ?_
 refine Wp.cond rfl (fun cc3 => absurd (of_decide_eq_true cc3) (by rcases hk with rfl | rfl | rfl <;> decide)) (fun cc3 => ?_)
 have cc3 := of_decide_eq_false cc3
 refine Wp.skip ?_
 refine Wp.permS (.swap ..) ?_
 refine Yq ?_
 refine OWp.step rfl (Step.call rfl rfl rfl rfl rfl rfl ((mcutC hBL4 (by simp [mailB]) (by decide) ?_)))
 refine OWp.g rfl rfl (Gives.indexStr (b := UInt8.ofNat user) rfl rfl rfl rfl (by simp) rfl) ?_
 refine Ye 2 rfl ?_
 refine OWp.step rfl (Step.storeAs 1 ((mlc k.toNat user 0 [] [] (.slice none 0 0) (.slice none 0 0))) rfl rfl rfl rfl rfl hBL5 rfl (Unfz.zero _) rfl (Nat.le_of_ble_eq_true rfl) (by rw [u8i (by omega)]; rfl) rfl ?_)
 refine OWp.nil ?_
 refine Wp.seq ?_
 refine Yq ?_
 refine OWp.step rfl (Step.call rfl rfl rfl rfl rfl rfl ((mcutC hBL4 (by simp [mailB, seqB]) (by decide) ?_)))
 show OWp _ _ _ _ _ _ _ _
 refine OWp.step rfl (Step.strToBytes rfl rfl rfl rfl rfl rfl ?_); intro L41 g41 cap41 hBL41 hLL41 hcL41
 refine Yz 2 rfl ?_
 refine Wp.block ?_
 refine Wp.loopS (α := Nat) (fun i => 4 - i) (fun i => [(0, .string (str (mailB k user seq r))), (2, pt L2), (3, .int .i64 0), (4, pt L4), (5, pt L5), (41, .slice (some ⟨L41, 0, none⟩) 4 cap41), (42, .int .i64 4), (43, .int .i64 (i : Int))]) (fun i => (L5, cel (mlc k.toNat user (sq seq i : Nat) [] [] (.slice none 0 0) (.slice none 0 0)) 58) :: (L41, cel (byteCells (seqB seq) ++ g41) 5 (cap41, cap41 + 1)) :: (L4, cel [.string (str r)] 9) :: (L2, cel (mlc 0 0 0 [] [] (.slice none 0 0) (.slice none 0 0)) 58) :: S) (fun i => i ≤ 4) 0 ?_ ?_ (Nat.zero_le _) ?_
 ·exact .cons rfl (.cons rfl (.cons rfl (.cons rfl (.cons rfl (.cons rfl (.cons rfl (.cons rfl (.nil _))))))))
 ·rw [sq_zero h2]; exact (List.Perm.cons _ (.swap ..)).trans (.swap ..)
 rintro i hi
 refine Yn 1 rfl ?_
 refine Wp.seq ?_
 refine Wp.cond rfl (fun c1 => ?_) (fun c1 => ?_)
 ·have c1 := of_decide_eq_true c1
  have hlt : i < 4 := by omega
  refine Wp.skip ?_
  refine Wp.seq ?_
  refine Wp.block ?_
  refine Yq ?_
  refine OWp.g rfl rfl (Gives.indexAddrSlice (i) rfl rfl rfl rfl rfl rfl (by omega)) ?_
  refine OWp.load (.tail _ (.head _)) rfl rfl rfl rfl (seqB_cell hlt g41) ?_
  refine Yz 1 rfl ?_
  refine Wp.region ?_
  refine Ye 1 rfl ?_
  refine Yl m0 ?_
  refine Ye 5 rfl ?_
  refine OWp.step rfl (Step.storeAs 0 ((mlc k.toNat user (sq seq (i + 1) : Nat) [] [] (.slice none 0 0) (.slice none 0 0))) rfl rfl rfl rfl rfl hBL5 rfl (Unfz.zero _) rfl (Nat.le_of_ble_eq_true rfl) (by rw [sq_or (Nat.le_trans sq_le h2) (sq_div hlt)]; rfl) rfl ?_)
  refine OWp.nil ?_
  refine Wp.region ?_
  refine Yz 2 rfl ?_
  exact ⟨i + 1, by omega, by omega, .cons rfl (.cons rfl (.cons rfl (.cons rfl (.cons rfl (.cons rfl (.cons rfl (.cons' rfl (int_eq (i64_inc (by omega))) (.nil _)))))))), .refl _⟩
 have c1 := of_decide_eq_false c1
 obtain rfl : i = 4 := by omega
 rw [sq_four]
 refine Wp.exit ?_
 refine Wp.seq ?_
 refine Yg 1 rfl ?_
 refine Yl m0 ?_
 rcases hr with ⟨rfl, rfl, ht, rfl, rfl⟩ | ⟨rfl, rfl, rfl, h4, ⟨fn, hfn⟩, rfl⟩ | ⟨rfl, rfl, ht, rfl, h4, hid⟩
 ·skip
  refine Yz 1 rfl ?_
  refine Wp.cond rfl (fun cc4 => ?_) (fun cc4 => absurd (ndF cc4) (by decide))
  have cc4 := ndT cc4
  refine Wp.permS ((List.Perm.cons _ (.swap ..)).trans (.swap ..)) (Wp.drop (S' := (L4, cel [.string (str r)] 9) :: (L5, cel (mlc (2 : UInt8).toNat user seq [] [] (.slice none 0 0) (.slice none 0 0)) 58) :: (L2, cel (mlc 0 0 0 [] [] (.slice none 0 0) (.slice none 0 0)) 58) :: S) (((List.sublist_cons_self _ _).cons_cons _).cons_cons _) ?_)
  refine Wp.region ?_
  refine OWp.step rfl (Step.call rfl rfl rfl rfl rfl rfl ((mcutC (n := 32) (s := r) hBL4 (Nat.le_of_eq ht.symm) (by decide) ?_)))
  rw [List.take_of_length_le (Nat.le_of_eq ht), List.drop_of_length_le (Nat.le_of_eq ht)]
  refine Ye 1 rfl ?_
  refine OWp.step rfl (Step.storeAs 1 ((mlc (2 : UInt8).toNat user seq [] r (.slice none 0 0) (.slice none 0 0))) rfl rfl rfl rfl rfl hBL5 rfl (Unfz.zero _) rfl (Nat.le_of_ble_eq_true rfl) rfl rfl ?_)
  refine OWp.nil ?_
  refine Wp.seq ?_
  refine Wp.block ?_
  refine Wp.loopS (α := Unit) (fun _ => 0) (fun _ => [(0, .string (str (mailB 2 user seq r))), (2, pt L2), (3, .int .i64 0), (4, pt L4), (5, pt L5)]) (fun _ => (L4, cel [.string (str [])] 9) :: (L5, cel (mlc (2 : UInt8).toNat user seq [] r (.slice none 0 0) (.slice none 0 0)) 58) :: (L2, cel (mlc 0 0 0 [] [] (.slice none 0 0) (.slice none 0 0)) 58) :: S) (fun _ => True) () ?_ (.refl _) trivial ?_
  ·exact .cons rfl (.cons rfl (.cons rfl (.cons rfl (.cons rfl (.nil _)))))
  rintro _ _
  refine Wp.seq ?_
  refine Yq ?_
  refine Yl m0 ?_
  refine Yz 1 rfl ?_
  refine Wp.cond rfl (fun cc5 => absurd (ndT cc5) (by decide)) (fun cc5 => ?_)
  have cc5 := ndF cc5
  refine Wp.exit ?_
  refine Wp.seq ?_
  refine Yq ?_
  refine Yl m1 ?_
  refine OWp.step rfl (Step.call rfl rfl rfl rfl rfl rfl ((encPullC hu h1 h2 ht ?_)))
  rw [show pullB user seq r = mailB 2 user seq r from rfl]
  refine Yz 5 rfl ?_
  refine Yg 3 rfl ?_
  refine OWp.part 100 rfl (fun cc6 => absurd (ndT cc6) (by exact fun h => h rfl)) (fun cc6 => ?_)
  have cc6 := ndF cc6
  refine Yz 4 rfl ?_
  refine Wp.cond rfl (fun cc7 => absurd (ndT cc7) (by exact fun h => h rfl)) (fun cc7 => ?_)
  have cc7 := ndF cc7
  refine Wp.skip ?_
  refine Yq ?_
  refine Yl m1 ?_
  refine OWp.step rfl (Step.storeAs 2 ((mlc (2 : UInt8).toNat user seq [] r (.slice none 0 0) (.slice none 0 0))) rfl rfl rfl rfl rfl hBL2 rfl (Unfz.zero _) rfl (Nat.le_of_ble_eq_true rfl) rfl rfl ?_)
  refine Yz 1 rfl ?_
  refine Wp.ret ⟨trivial, _, ⟨_, _, _, _, rfl, rfl, ⟨_, _, _, mems, (by first | assumption | rfl)⟩, ⟨_, _, rfl, rfl, rfl⟩⟩, ?_⟩
  exact ⟨_, S, .refl _, subl, H _ _ [] [] (Own.nil _ _ _) (Own.nil _ _ _) (fun _ => ⟨rfl, rfl⟩) (fun _ => ⟨rfl, rfl⟩)⟩
 skip
 ·skip
  refine Yz 1 rfl ?_
  refine Wp.cond rfl (fun cc8 => absurd (ndT cc8) (by decide)) (fun cc8 => ?_)
  have cc8 := ndF cc8
  have hsp := fill_slotP hfn
  show Wp _ _ _ _ _ _ _
  refine Wp.permS ((List.Perm.cons _ (.swap ..)).trans (.swap ..)) (Wp.drop (S' := (L4, cel [.string (str (restB l 0))] 9) :: (L5, cel (mlc (3 : UInt8).toNat user seq [] [] (.slice none 0 0) (.slice none 0 0)) 58) :: (L2, cel (mlc 0 0 0 [] [] (.slice none 0 0) (.slice none 0 0)) 58) :: S) (((List.sublist_cons_self _ _).cons_cons _).cons_cons _) ?_)
  refine Wp.skip ?_
  refine Wp.seq ?_
  refine Wp.block ?_
  refine Wp.loopS (α := Nat × Value × Ents) (fun z => 4 - z.1) (fun z => [(0, .string (str (mailB 3 user seq (restB l 0)))), (2, pt L2), (3, .int .i64 0), (4, pt L4), (5, pt L5)]) (fun z => (L4, cel [.string (str (restB l z.1))] 9) :: (L5, cel (mlc (3 : UInt8).toNat user seq [] [] z.2.1 (.slice none 0 0)) 58) :: (z.2.2 ++ ((L2, cel (mlc 0 0 0 [] [] (.slice none 0 0) (.slice none 0 0)) 58) :: S))) (fun z => z.1 ≤ 4 ∧ Lg.Own B 64 2 z.2.1 z.1 ((l.take z.1).flatMap slc) z.2.2) (0, .slice none 0 0, []) ?_ (.refl _) ⟨Nat.zero_le _, Own.nil _ _ _⟩ ?_
  ·exact .cons rfl (.cons rfl (.cons rfl (.cons rfl (.cons rfl (.nil _)))))
  rintro ⟨i, sv, es⟩ ⟨hi, ho⟩
  simp only at hi ho ⊢
  refine Wp.seq ?_
  refine Yq ?_
  refine Yl m0 ?_
  by_cases hi4 : i < 4
  ·skip
   have hlt : i < l.length := by omega
   have hs := hsp _ (List.getElem_mem hlt)
   rw [restB_succ hlt]
   refine Yz 1 rfl ?_
   refine Wp.cond rfl (fun cc9 => ?_) (fun cc9 => absurd (ndF cc9) (by simp [idB_len hs, ← List.length_eq_zero_iff]))
   have cc9 := ndT cc9
   refine Wp.skip ?_
   refine Wp.block ?_
   refine Yq ?_
   refine OWp.step rfl (Step.call rfl rfl rfl rfl rfl rfl ((mcutC (n := 16) hBL4 (by rw [List.length_append, idB_len hs]; omega) (by decide) ?_)))
   rw [List.take_left' (idB_len hs), List.drop_left' (idB_len hs)]
   refine Yz 1 rfl ?_
   refine Wp.seqS (α := Unit) (fun _ => [(0, .string (str (mailB 3 user seq (restB l 0)))), (2, pt L2), (3, .int .i64 0), (4, pt L4), (5, pt L5), (8, .string (str l[i].1))]) (fun _ => (L4, cel [.string (str (UInt8.ofNat l[i].2.length :: (txB l[i] ++ restB l (i + 1))))] 9) :: (L5, cel (mlc (3 : UInt8).toNat user seq [] [] sv (.slice none 0 0)) 58) :: (es ++ ((L2, cel (mlc 0 0 0 [] [] (.slice none 0 0) (.slice none 0 0)) 58) :: S))) (fun _ => True) ?_ ?_
   ·skip
    refine Yq ?_
    by_cases hf : i < fn
    ·skip
     have he := hfn.2.1 i hlt hf
     rw [show idB l[i] = l[i].1 by simp [idB, he.1.1]]
     refine Yz 2 rfl ?_
     refine Wp.cond rfl (fun cc10 => absurd (of_decide_eq_true cc10) (by exact fun h => he.1.2 h)) (fun cc10 => ?_)
     have cc10 := of_decide_eq_false cc10
     refine Wp.skip ?_
     exact ⟨(), trivial, .cons rfl (.cons rfl (.cons rfl (.cons rfl (.cons rfl (.cons rfl (.nil _)))))), .refl _⟩
    have h0 := hfn.2.2 i hlt (by omega)
    rw [h0]
    refine Yz 2 rfl ?_
    refine Wp.cond rfl (fun cc11 => ?_) (fun cc11 => absurd (of_decide_eq_false cc11) (by exact fun h => h rfl))
    have cc11 := of_decide_eq_true cc11
    refine Wp.region ?_
    refine Yz 1 rfl ?_
    exact ⟨(), trivial, .cons rfl (.cons rfl (.cons rfl (.cons rfl (.cons rfl (.cons rfl (.nil _)))))), .refl _⟩
   rintro _ _
   refine Wp.block ?_
   refine Yg 1 rfl ?_
   refine Yl m1 ?_
   refine Yz 2 rfl ?_
   refine Wp.cond rfl (fun cc12 => ?_) (fun cc12 => absurd (of_decide_eq_false cc12) (by decide))
   have cc12 := of_decide_eq_true cc12
   refine Yq ?_
   refine OWp.step rfl (Step.call rfl rfl rfl rfl rfl rfl ((mcutC (n := 1) hBL4 (by simp) (by decide) ?_)))
   refine OWp.g rfl rfl (Gives.indexStr (b := UInt8.ofNat l[i].2.length) rfl rfl rfl rfl (by decide) rfl) ?_
   refine Yz 2 rfl ?_
   refine Yq ?_
   refine OWp.step rfl (Step.call rfl rfl rfl rfl rfl rfl ((mcutC (n := 222) (s := txB l[i] ++ restB l (i + 1)) hBL4 (by rw [List.length_append, txB_len hs]; omega) (by decide) ?_)))
   rw [List.take_left' (txB_len hs), List.drop_left' (txB_len hs)]
   refine Yz 1 rfl ?_
   refine Wp.regionDraw [0, 1, 2, 3, 4, 5, 6, 7, 8, 9, 10, 11] [8, 9, 11] rfl (by decide +kernel) ?_
   refine DWp.evs 1 rfl ?_
   refine Yd m1 ?_
   refine DWp.evs 4 rfl ?_
   refine DWp.g rfl rfl rfl rfl (Gives.sliceStr (l := 0) (h' := l[i].2.length) rfl rfl rfl rfl ⟨_, _, rfl, (by rw [u8i (by have := hs.2; omega)]; have := hs.2; omega)⟩ (by omega) (by rw [txB_len hs]; exact hs.2)) ?_
   rw [show ((txB l[i]).drop 0).take (l[i].2.length - 0) = l[i].2 by simp [txB]]
   refine DWp.g rfl rfl rfl rfl (Gives.build rfl rfl) ?_
   refine DWp.stepGrow rfl rfl rfl (Step.buildSlice rfl rfl rfl ?_); intro Lp13 hBLp13 hLLp13; refine ⟨fun _ hy => .tail _ hy, ?_⟩
   refine DWp.stepAll rfl rfl rfl rfl (Step.appendAt [_, _, _] rfl rfl rfl rfl rfl rfl (by decide) rfl rfl ho (Reads.row (k := 1) (sz := 2) (.head _) (Nat.le_of_ble_eq_true rfl)) rfl (by show (_ + 1) * 32 ≤ _; omega) (by unfold maxLen; omega) ?_); intro sv2 es2 ho2 _
   refine DWp.drop0 (List.sublist_cons_self _ _) ?_
   have ho3 : Lg.Own B 64 2 sv2 (i + 1) ((l.take (i + 1)).flatMap slc) es2 := by rw [sl_take hlt]; exact ho2
   obtain ⟨sa, sc, rfl⟩ := ho3.reads.form
   refine DWp.evs 1 rfl ?_
   refine DWp.stepAll rfl rfl rfl rfl (Step.storeAs 1 ((mlc (3 : UInt8).toNat user seq [] [] (.slice sa (i + 1) sc) (.slice none 0 0))) rfl rfl rfl rfl rfl hBL5 rfl (Unfz.zero _) rfl (Nat.le_of_ble_eq_true rfl) rfl rfl ?_)
   refine DWp.nil ?_
   exact ⟨(i + 1, .slice sa (i + 1) sc, es2), by simp only; omega, ⟨by simp only; omega, ho3⟩, .cons rfl (.cons rfl (.cons rfl (.cons rfl (.cons rfl (.nil _))))), .refl _⟩
  obtain rfl : i = 4 := by omega
  have hr0 : restB l 4 = [] := by rw [restB, ← h4, List.drop_length]; rfl
  rw [hr0]
  refine Yz 1 rfl ?_
  refine Wp.cond rfl (fun cc14 => absurd (ndT cc14) (by exact fun h => h rfl)) (fun cc14 => ?_)
  have cc14 := ndF cc14
  rw [← h4, List.take_length] at ho
  refine Wp.exit ?_
  refine Wp.seq ?_
  refine Yq ?_
  refine Yl m1 ?_
  refine OWp.step rfl (Step.call rfl rfl rfl rfl rfl rfl ((encRepC (n := fn) hu h1 h2 (ho.reads.mono fun x h => .tail _ (.tail _ (List.mem_append_left _ h))) (fun a m c hv => own_cap ho hv) h4 hfn ?_)))
  rw [show repB user seq l = mailB 3 user seq (restB l 0) from rfl]
  refine Yz 5 rfl ?_
  refine Yg 3 rfl ?_
  refine OWp.part 100 rfl (fun cc15 => absurd (ndT cc15) (by exact fun h => h rfl)) (fun cc15 => ?_)
  have cc15 := ndF cc15
  refine Yz 4 rfl ?_
  refine Wp.cond rfl (fun cc16 => absurd (ndT cc16) (by exact fun h => h rfl)) (fun cc16 => ?_)
  have cc16 := ndF cc16
  refine Wp.skip ?_
  refine Yq ?_
  refine Yl m1 ?_
  obtain ⟨sa, sc, rfl⟩ := ho.reads.form
  refine OWp.permS (.trans (.cons _ (.cons _ List.perm_middle)) (.trans (.cons _ (.swap ..)) (.swap ..))) ?_
  refine OWp.step rfl (Step.storeAs 0 ((mlc (3 : UInt8).toNat user seq [] [] (.slice sa l.length sc) (.slice none 0 0))) rfl rfl rfl rfl rfl hBL2 rfl (Unfz.zero _) rfl (Nat.le_of_ble_eq_true rfl) rfl rfl ?_)
  refine Yz 1 rfl ?_
  refine Wp.ret ⟨trivial, _, ⟨_, _, _, _, rfl, rfl, ⟨_, _, _, mems, (by first | assumption | rfl)⟩, ⟨_, _, rfl, rfl, rfl⟩⟩, ?_⟩
  exact ⟨_, es ++ S, .refl _, subl, H _ _ es [] ho (Own.nil _ _ _) (fun h => absurd rfl h) (fun _ => ⟨rfl, rfl⟩)⟩
 refine Yz 1 rfl ?_
 refine Wp.cond rfl (fun cc17 => ?_) (fun cc17 => absurd (ndF cc17) (by decide))
 have cc17 := ndT cc17
 have hr0 := restI_zero hid
 refine Wp.permS ((List.Perm.cons _ (.swap ..)).trans (.swap ..)) (Wp.drop (S' := (L4, cel [.string (str (tag ++ (ids.flatten ++ List.replicate (64 - ids.flatten.length) 0)))] 9) :: (L5, cel (mlc (4 : UInt8).toNat user seq [] [] (.slice none 0 0) (.slice none 0 0)) 58) :: (L2, cel (mlc 0 0 0 [] [] (.slice none 0 0) (.slice none 0 0)) 58) :: S) (((List.sublist_cons_self _ _).cons_cons _).cons_cons _) ?_)
 refine Wp.region ?_
 refine OWp.step rfl (Step.call rfl rfl rfl rfl rfl rfl ((mcutC (n := 32) (s := tag ++ (ids.flatten ++ List.replicate (64 - ids.flatten.length) 0)) hBL4 (by rw [List.length_append, ht]; omega) (by decide) ?_)))
 rw [List.take_left' ht, List.drop_left' ht, hr0]
 refine Ye 1 rfl ?_
 refine OWp.step rfl (Step.storeAs 1 ((mlc (4 : UInt8).toNat user seq [] tag (.slice none 0 0) (.slice none 0 0))) rfl rfl rfl rfl rfl hBL5 rfl (Unfz.zero _) rfl (Nat.le_of_ble_eq_true rfl) rfl rfl ?_)
 refine OWp.nil ?_
 refine Wp.seq ?_
 refine Wp.block ?_
 refine Wp.loopS (α := Nat × Value × Ents) (fun z => 4 - z.1) (fun z => [(0, .string (str (mailB 4 user seq (tag ++ restI ids 0)))), (2, pt L2), (3, .int .i64 0), (4, pt L4), (5, pt L5)]) (fun z => (L4, cel [.string (str (restI ids z.1))] 9) :: (L5, cel (mlc (4 : UInt8).toNat user seq [] tag (.slice none 0 0) z.2.1) 58) :: (z.2.2 ++ ((L2, cel (mlc 0 0 0 [] [] (.slice none 0 0) (.slice none 0 0)) 58) :: S))) (fun z => z.1 ≤ 4 ∧ Lg.Own B 9 1 z.2.1 (ids.take z.1).length (strs (ids.take z.1)) z.2.2) (0, .slice none 0 0, []) ?_ (.refl _) ⟨Nat.zero_le _, Own.nil _ _ _⟩ ?_
 ·exact .cons rfl (.cons rfl (.cons rfl (.cons rfl (.cons rfl (.nil _)))))
 rintro ⟨i, iv, fs⟩ ⟨hi, ho⟩
 simp only at hi ho ⊢
 refine Wp.seq ?_
 refine Yq ?_
 refine Yl m0 ?_
 by_cases hi4 : i < 4
 ·skip
  by_cases hii : i < ids.length
  ·skip
   have he := hid _ (List.getElem_mem hii)
   rw [restI_in hii]
   refine Yz 1 rfl ?_
   refine Wp.cond rfl (fun cc18 => ?_) (fun cc18 => absurd (ndF cc18) (by simp [he.1, ← List.length_eq_zero_iff]))
   have cc18 := ndT cc18
   refine Wp.skip ?_
   refine Wp.block ?_
   refine Yq ?_
   refine OWp.step rfl (Step.call rfl rfl rfl rfl rfl rfl ((mcutC (n := 16) hBL4 (by rw [List.length_append, he.1]; omega) (by decide) ?_)))
   rw [List.take_left' he.1, List.drop_left' he.1]
   refine Yz 1 rfl ?_
   refine Wp.seq ?_
   refine Yn 2 rfl ?_
   refine Wp.cond rfl (fun cc19 => absurd (of_decide_eq_true cc19) (by exact fun h => he.2 h)) (fun cc19 => ?_)
   have cc19 := of_decide_eq_false cc19
   refine Wp.skip ?_
   refine Wp.block ?_
   refine Yg 1 rfl ?_
   refine Yl m1 ?_
   refine Yz 2 rfl ?_
   refine Wp.cond rfl (fun cc20 => absurd (of_decide_eq_true cc20) (by decide)) (fun cc20 => ?_)
   have cc20 := of_decide_eq_false cc20
   refine Yn 3 rfl ?_
   refine Wp.cond rfl (fun cc21 => ?_) (fun cc21 => absurd (ndF cc21) (by simp [he.1, ← List.length_eq_zero_iff]))
   have cc21 := ndT cc21
   refine Wp.region ?_
   refine Ye 1 rfl ?_
   refine Yl m1 ?_
   have htl : (ids.take i).length ≤ 4 := by rw [List.length_take]; omega
   refine Ye 1 rfl ?_
   refine OWp.step rfl (Step.buildSlice rfl rfl rfl ?_); intro Lp22 hBLp22 hLLp22
   refine OWp.step rfl (Step.appendAt [_, _, _] rfl rfl rfl rfl rfl rfl (by decide) rfl rfl ho (Reads.row (k := 1) (sz := 1) (.head _) (Nat.le_of_ble_eq_true rfl)) rfl (by show (_ + 1) * 16 ≤ _; omega) (by unfold maxLen; omega) ?_); intro iv2 fs2 ho2 _
   refine OWp.dropAt 0 rfl ?_
   have ho3 : Lg.Own B 9 1 iv2 (ids.take (i + 1)).length (strs (ids.take (i + 1))) fs2 := by rw [strs_take hii, show (ids.take (i + 1)).length = (ids.take i).length + 1 by simp; omega]; exact ho2
   obtain ⟨sa, sc, hsv⟩ := ho3.reads.form
   subst hsv
   refine Ye 1 rfl ?_
   refine OWp.step rfl (Step.storeAs 1 ((mlc (4 : UInt8).toNat user seq [] tag (.slice none 0 0) (.slice sa (ids.take (i + 1)).length sc))) rfl rfl rfl rfl rfl hBL5 rfl (Unfz.zero _) rfl (Nat.le_of_ble_eq_true rfl) rfl rfl ?_)
   refine OWp.nil ?_
   exact ⟨(i + 1, _, fs2), by simp only; omega, ⟨by simp only; omega, ho3⟩, .cons rfl (.cons rfl (.cons rfl (.cons rfl (.cons rfl (.nil _))))), .refl _⟩
  rw [restI_out (Nat.le_of_not_lt hii) hi4]
  refine Yz 1 rfl ?_
  refine Wp.cond rfl (fun cc23 => ?_) (fun cc23 => absurd (ndF cc23) (by simp [noId]))
  have cc23 := ndT cc23
  refine Wp.skip ?_
  refine Wp.block ?_
  refine Yq ?_
  refine OWp.step rfl (Step.call rfl rfl rfl rfl rfl rfl ((mcutC (n := 16) hBL4 (by rw [List.length_append]; exact Nat.le_add_right 16 _) (by decide) ?_)))
  rw [List.take_left' (show noId.length = 16 from rfl), List.drop_left' (show noId.length = 16 from rfl)]
  refine Yz 1 rfl ?_
  refine Wp.seq ?_
  refine Yn 2 rfl ?_
  refine Wp.cond rfl (fun cc24 => ?_) (fun cc24 => absurd (of_decide_eq_false cc24) (by exact fun h => h rfl))
  have cc24 := of_decide_eq_true cc24
  refine Wp.region ?_
  refine Yz 1 rfl ?_
  refine Wp.block ?_
  refine Yg 1 rfl ?_
  refine Yl m1 ?_
  refine Yz 2 rfl ?_
  refine Wp.cond rfl (fun cc25 => absurd (of_decide_eq_true cc25) (by decide)) (fun cc25 => ?_)
  have cc25 := of_decide_eq_false cc25
  refine Yn 3 rfl ?_
  refine Wp.cond rfl (fun cc26 => absurd (ndT cc26) (by decide)) (fun cc26 => ?_)
  have cc26 := ndF cc26
  refine Wp.skip ?_
  exact ⟨(i + 1, iv, fs), by simp only; omega, ⟨by simp only; omega, by rw [List.take_of_length_le (by omega)] at ho ⊢; exact ho⟩, .cons rfl (.cons rfl (.cons rfl (.cons rfl (.cons rfl (.nil _))))), .refl _⟩
 obtain rfl : i = 4 := by omega
 have hr4 : restI ids 4 = [] := by rw [restI, List.drop_of_length_le (by rw [pdI_len h4]; decide)]; rfl
 rw [hr4]
 refine Yz 1 rfl ?_
 refine Wp.cond rfl (fun cc27 => absurd (ndT cc27) (by exact fun h => h rfl)) (fun cc27 => ?_)
 have cc27 := ndF cc27
 rw [List.take_of_length_le h4] at ho
 refine Wp.exit ?_
 refine Wp.seq ?_
 refine Yq ?_
 refine Yl m1 ?_
 refine OWp.step rfl (Step.call rfl rfl rfl rfl rfl rfl ((encAckC hu h1 h2 ht (ho.reads.mono fun x h => .tail _ (.tail _ (List.mem_append_left _ h))) (fun a m c hv => own_cap ho hv) h4 hid ?_)))
 rw [show ackB user seq tag ids = mailB 4 user seq (tag ++ restI ids 0) by simp [ackB, mailB, whoB, seqB, ← hr0]]
 refine Yz 5 rfl ?_
 refine Yg 3 rfl ?_
 refine OWp.part 100 rfl (fun cc28 => absurd (ndT cc28) (by exact fun h => h rfl)) (fun cc28 => ?_)
 have cc28 := ndF cc28
 refine Yz 4 rfl ?_
 refine Wp.cond rfl (fun cc29 => absurd (ndT cc29) (by exact fun h => h rfl)) (fun cc29 => ?_)
 have cc29 := ndF cc29
 refine Wp.skip ?_
 refine Yq ?_
 refine Yl m1 ?_
 obtain ⟨sa, sc, rfl⟩ := ho.reads.form
 refine OWp.permS (.trans (.cons _ (.cons _ List.perm_middle)) (.trans (.cons _ (.swap ..)) (.swap ..))) ?_
 refine OWp.step rfl (Step.storeAs 0 ((mlc (4 : UInt8).toNat user seq [] tag (.slice none 0 0) (.slice sa ids.length sc))) rfl rfl rfl rfl rfl hBL2 rfl (Unfz.zero _) rfl (Nat.le_of_ble_eq_true rfl) rfl rfl ?_)
 refine Yz 1 rfl ?_
 refine Wp.ret ⟨trivial, _, ⟨_, _, _, _, rfl, rfl, ⟨_, _, _, mems, (by first | assumption | rfl)⟩, ⟨_, _, rfl, rfl, rfl⟩⟩, ?_⟩
 exact ⟨_, fs ++ S, .refl _, subl, H _ _ [] fs (Own.nil _ _ _) ho (fun _ => ⟨rfl, rfl⟩) (fun h => absurd rfl h)⟩
end
end Go.Proofs.D
