/- A mix: begun, and the time goes on. -/
import Derived.Test.YtkjaehdfmmcgmaaGreatDoorMM11x3a2b
import Derived.Test.YtkjaehdfmmcgmaaGreatDoorEMixP
namespace Go.Proofs.D
open Go.Lg Go.Sha Go.Hd Go.Cv Go.Mx
open Go.Proofs.C (Hop)
open Go.Whl (T told left srt)
open Go.Proofs.E (Wh putW nowW newW advW zi)
set_option maxRecDepth 100000
def nst0 : Nst := ⟨[], 0, 0, [], 0, 0, 0, 0⟩
theorem nst0_ok : NOk nst0 := ⟨.refl _, List.Pairwise.nil, (fun _ h => nomatch h), (fun _ h => nomatch h), by decide, by decide, by decide, by decide, by decide, by decide⟩
section
variable {B : Nat} {S R : Ents} {Q : Value → Ents → Prop} {pm pn ps pw pool mp pd pr size total n w : Nat} {tags : List (List UInt8)} {key packet nxt tag : List UInt8} {x : Nst} {W Ww : Ents}
theorem mbeginC (hk : KsIn S) {D : List UInt8} (h : DkIn B pd pr total D n W) (hc : (D = zer (64 * total) ∧ tags = [] ∧ n = 0) ∨ D = diskM total (tags.map putB)) (hsz : size = total / 2) (h2 : 2 ≤ size) (hu : tags.length + 1 ≤ size) (h5 : ∀ t ∈ tags, t.length = 16) (hnd : tags.Nodup) (hp1 : 1 ≤ pool) (hp2 : pool ≤ 4096)
  (H : ∀ pn W', NdIn B pn pd pr size total pool tags nst0 n W' → Q (.tuple #[pt pn, .int .i64 0]) (W' ++ S)) :
  CallWp Tryz.prog B 20 #[pt pd, .int .i64 (pool : Int)] Q (W ++ S) := by
 refine subRet ?_
 refine Yx (args := [_, _]) Tryz.func20 Tryz.ntmps20 ?_
 refine Yn 2 rfl ?_
 refine Wp.seq ?_
 refine Yg 3 rfl ?_
 refine Dt 10 rfl (by omega) fun cc1 => ?_
 refine Yz 3 rfl ?_
 refine Ct rfl (by omega) fun cc2 => ?_
 refine Wp.skip ?_
 refine Yg 1 rfl ?_
 refine Yc rfl rfl (sopenC (most := 4096) hk h hc hsz h2 hu h5 hnd (by decide) (by decide) ?_)
 intro ps Ws hs
 refine Yz 5 rfl ?_
 refine Wp.seq ?_
 refine Yn 2 rfl ?_
 refine Cu rfl (by exact fun h => h rfl) fun cc3 => ?_
 refine Wp.skip ?_
 refine Yg 1 rfl ?_
 refine OWp.g rfl rfl (Gives.build rfl rfl) ?_
 refine Yc rfl rfl (newW (B := B) ?_)
 intro pw Ww hw
 refine OWp.g rfl rfl (Gives.build rfl rfl) ?_
 refine Ye 1 rfl ?_
 refine OWp.step rfl (Step.makeMapS rfl rfl ?_)
 intro mp hmp _
 refine OWp.g rfl rfl (Gives.build rfl rfl) ?_
 refine Yb rfl rfl rfl rfl fun L29 hBL29 hLL29 => ?_
 refine Yz 2 rfl ?_
 refine Wp.ret ⟨trivial, _, ⟨_, _, rfl, rfl, _, _, rfl, rfl, rfl⟩, ?_⟩
 have hh := H L29 (nde L29 ps pw pool mp nst0 :: (mp, mapS nst0.L nst0.bc) :: (Ws ++ Ww)) ⟨hBL29, nst0_ok, ps, pw, mp, Ws, Ww, hmp, hs, hw, rfl⟩
 rw [List.cons_append, List.cons_append, List.append_assoc] at hh
 exact ⟨_, _, permBy [[nde L29 ps pw pool mp nst0, (mp, mapS nst0.L nst0.bc)], Ww, Ws] S [0, 1, 2] [0, 2, 1] (by decide), .refl _, hh⟩
theorem mnewC (hk : KsIn S) {D : List UInt8} (hkl : key.length = 32) (h : DkIn B pd pr total D n W) (hc : (D = zer (64 * total) ∧ tags = [] ∧ n = 0) ∨ D = diskM total (tags.map putB)) (hsz : size = total / 2) (h2 : 2 ≤ size) (hu : tags.length + 1 ≤ size) (h5 : ∀ t ∈ tags, t.length = 16) (hnd : tags.Nodup) (hp1 : 1 ≤ pool) (hp2 : pool ≤ 4096)
  (H : ∀ pm pn W', NdIn B pn pd pr size total pool tags nst0 n W' → Q (.tuple #[pt pm, .int .i64 0]) (mxe pm pn key :: (W' ++ S))) :
  CallWp Tryz.prog B 8 #[.string (str key), pt pd, .int .i64 (pool : Int)] Q (W ++ S) := by
 refine Yx (args := [_, _, _]) Tryz.func8 Tryz.ntmps8 ?_
 refine Yn 2 rfl ?_
 refine Wp.seq ?_
 refine Yn 3 rfl ?_
 refine Cu rfl (by exact fun h => h (by rw [hkl]; rfl)) fun cc1 => ?_
 refine Wp.skip ?_
 refine Yg 2 rfl ?_
 refine Yc rfl rfl (mbeginC hk h hc hsz h2 hu h5 hnd hp1 hp2 ?_)
 intro pn W' h'
 refine Yz 5 rfl ?_
 refine Wp.seq ?_
 refine Yn 2 rfl ?_
 refine Cu rfl (by exact fun h => h rfl) fun cc2 => ?_
 refine Wp.skip ?_
 refine Yg 2 rfl ?_
 refine OWp.g rfl rfl (Gives.build rfl rfl) ?_
 refine Yb rfl rfl rfl rfl fun L25 hBL25 hLL25 => ?_
 refine Yz 2 rfl ?_
 refine Wp.ret ⟨trivial, _, ⟨_, _, rfl, rfl, _, _, rfl, rfl, rfl⟩, ?_⟩
 exact H L25 pn W' h'
end
end Go.Proofs.D
