/- What functions of the given program do, one after the other, told by that layer. -/
import Derived.Test.YtlfhhkdjahcglaaGreatDoorKM15x9d94
import Derived.Test.YtlfhhkdjahcglaaGreatDoorKM14x2bc5
import Derived.Test.YtlfhhkdjahcglaaGreatDoorKHead
import Derived.Test.YtlfhhkdjahcglaaGreatDoorRows
import Derived.LaidMore
import Derived.LaidHandle
import Derived.Lib.LaidTab
import Derived.Stop.LaidErr
import Derived.MakeChecks
import Derived.Test.YtlfhhkdjahcglaaGreatDoorLgM2x52c3
/- CliSends: each part goes out once, in order. -/
namespace Go.Proofs.D
open Go.Lg Go.Sha Go.Hd Go.Cv
open Go.Proofs.C (Hop hopP hopB parse pathE encB tp word TIn Nd ndc St stc TownOk HostOf IsHost wayR mayP TownOk belowR WayIn LooseOf HomeOf NodesIn)
open Go.Cl (first firstOf needs)
set_option maxRecDepth 100000
attribute [local irreducible] derive hmac publicR partsB sha
section
variable {B : Nat} {S R : Ents} {Q : Value → Ents → Prop} {c : Ck}
set_option maxHeartbeats 8000000 in
theorem cliSendsW {S : Ents} {a0 : ByteArray} {a1 : Option Addr} {len1 cap1 : Nat} (hks : KsIn S) (rd0 : Rd Tryz.prog S 9 [.string a0]) (rd1 : Rd Tryz.prog S 22 [.slice a1 len1 cap1]) :
  CallWp Tryz.prog B 5 #[.string a0, .slice a1 len1 cap1] (fun v _ => v = .bool true) S := by
 obtain ⟨seed, rfl, hsl⟩ := rdStr25 rd0
 have hcp := rd1.cap_le Tryz.underlying22
 obtain ⟨l, hlr, hll⟩ := rdSay rd1
 obtain rfl : len1 = l.length := hlr.len
 refine Yx (args := [_, _]) Tryz.func5 Tryz.ntmps5 ?_
 refine Yn 1 rfl ?_
 refine Wp.seq ?_
 refine Yq ?_
 refine Yc rfl rfl (works25C hks ?_)
 refine Yz 1 rfl ?_
 refine Cn rfl ?_
 refine Wp.skip ?_
 refine Yg 1 rfl ?_
 refine Yc rfl rfl (tape25C (n := 500) hks (by omega) (by decide) ?_)
 refine Yc rfl rfl (habit25C hks ?_)
 intro hv mv sv W hT
 obtain ⟨R0, hR0⟩ : ∃ x, x = W ++ S := ⟨_, rfl⟩
 have hk0 : KsIn R0 := by rw [hR0]; exact KsIn_of hks fun x hx => List.mem_append_right _ hx
 have hT0 : TIn R0 hv mv sv h25 m25 s25 := by rw [hR0]; exact hT.mono fun x hx => List.mem_append_left _ hx
 have hl0 : Reads R0 3 (.slice a1 l.length cap1) l.length (l.flatMap sayc) := by rw [hR0]; exact hlr.mono fun x hx => List.mem_append_right _ hx
 rw [← hR0]
 refine Yc rfl rfl (cnewC (c := c25 mn25 (tp25 seed 500)) (hb25 hk0 hT0 mn25_may (by rw [tp25_len]; decide)) ?_)
 intro p px pj pl hva mva sva Wa Xa hck0 hin hpj
 obtain ⟨Za, hZa⟩ : ∃ x, x = (pj, cel [.int .i64 16, .slice none 0 0, .int .i64 64, .slice none 0 0] 156) :: (Xa ++ R0) := ⟨_, rfl⟩
 have hZR : ∀ x ∈ R0, x ∈ Za := fun x hx => by rw [hZa]; exact .tail _ (List.mem_append_right _ hx)
 have hZX : ∀ x ∈ Xa ++ R0, x ∈ Za := fun x hx => by rw [hZa]; exact .tail _ hx
 obtain ⟨ca, hca⟩ : ∃ x, x = (c25 mn25 (tp25 seed 500)).laid p px pj pl hva mva sva := ⟨_, rfl⟩
 have hck := hck0 R0 hk0
 rw [← hca] at hck hin
 have hna : newCs (c25 mn25 (tp25 seed 500)) = newCs ca := by rw [hca]; rfl
 have hsa : ca.s.length = 500 := by rw [hca]; exact tp25_len _ _
 have hoa := newCs_ok ca (by omega)
 have hcu : ca.user = 3 := by rw [hca]; rfl
 have hka : ca.a = (0, pt25 0) := by rw [hca]; rfl
 have hm4 : ca.h0 = h25 ∧ ca.ms = m25 ∧ ca.ss = s25 := by rw [hca]; exact ⟨rfl, rfl, rfl⟩
 have hns : newCs ca = ⟨16, nxs ca 4, [], [], 0, 0, false⟩ := xs_new ca (by omega)
 rw [hna] at hin
 rw [show pt p = pt ca.p by rw [hca]; rfl]
 rw [← hZa]
 refine Yz 5 rfl ?_
 refine Wp.seq ?_
 refine Yg 3 rfl ?_
 refine Yz 3 rfl ?_
 refine Cu rfl (by exact fun h => h rfl) fun cc1 => ?_
 obtain ⟨k, hk, hk4, hkl⟩ : ∃ k : Nat, k = min l.length 4 ∧ k ≤ 4 ∧ k ≤ l.length := ⟨_, rfl, Nat.min_le_right _ _, Nat.min_le_left _ _⟩
 refine Wp.skip ?_
 refine Yg 5 rfl ?_
 refine OWp.g rfl rfl (Gives.slicePre (h' := k) rfl rfl rfl rfl ⟨_, _, rfl, by subst hk; omega⟩ (by omega)) ?_
 refine Yc rfl rfl (sub25C (W := Wa) (S := Za) (t := 100) (frm := 0) (at_ := 0) (x := newCs ca) (l := l.take k) hck hZX hm4 hoa (Nat.zero_le _) hin (by rw [List.length_take, Nat.min_eq_left hkl, say_take]; exact hl0.pre hkl |>.mono hZR) (by rw [List.length_take]; omega) (by decide) (Nat.zero_le _) (by decide) ?_)
 intro q2 many2 W2 f2 at2 hps hx2 hmq2 hin2 _ _
 obtain ⟨x2, hx2e⟩ : ∃ x : Cs, x = { newCs ca with q := q2 } := ⟨_, rfl⟩
 rw [← hx2e] at hx2 hin2
 have h16 : ∀ p ∈ x2.q, 16 ≤ p.2.length := by
  obtain ⟨ps, e, h⟩ := hps
  rw [hx2e]
  intro p hp
  simp only [e, hns, List.nil_append] at hp
  exact h p hp
 refine OWp.nil ?_
 refine Yg 1 rfl ?_
 refine Yc rfl rfl (cwaitsC hin2 (fun y hy => List.mem_append_left _ hy) ?_)
 refine Yz 1 rfl ?_
 refine Yg 1 rfl ?_
 refine Yc rfl rfl (tickC (c := ca) (W := W2) (S := Za) (to := 7) hck hZX hx2 hin2 (by decide) (by decide) (by decide) (by decide) ?_)
 intro W3 ov oes hin3 hov hok3
 obtain ⟨outs, houts⟩ : ∃ x, x = (tickT ca 7 x2).1 := ⟨_, rfl⟩
 obtain ⟨y, hy⟩ : ∃ x, x = (tickT ca 7 x2).2 := ⟨_, rfl⟩
 rw [← houts] at hov
 rw [← hy] at hin3 hok3
 have hall : ∀ z ∈ outs, 0 ≤ z.1 ∧ z.1 ≤ 7 ∧ z.2.1 < 4 ∧ z.2.2.length = kLen z.2.1 := by rw [houts]; exact runT_all hck (by decide) _ _ hx2 (fun _ _ => Nat.zero_le _)
 obtain ⟨oa, oc, rfl⟩ := hov.reads.form
 refine Yz 5 rfl ?_
 refine Wp.seq ?_
 refine Yn 2 rfl ?_
 refine Cu rfl (by exact fun h => h rfl) fun cc2 => ?_
 refine Wp.skip ?_
 refine Wp.seq ?_
 refine Yn 3 rfl ?_
 refine Wp.block ?_
 refine Wp.loopS (α := Nat × Nat × Cs) (fun z => outs.length - z.1) (fun z => [(5, pt ca.p), (7, .int .i64 (z.2.2.q.length : Int)), (8, .slice oa outs.length oc), (46, .slice oa outs.length oc), (47, .int .i64 (outs.length : Int)), (48, .int .i64 (z.1 : Int))]) (fun _ => W3 ++ (oes ++ Za)) (fun z => z.1 ≤ outs.length ∧ z.1 ≤ 8 ∧ outs.drop z.1 = (runT ca 7 z.2.1 z.2.2).1 ∧ y.q = (runT ca 7 z.2.1 z.2.2).2.q ∧ CsOk ca z.2.2 ∧ ∀ p ∈ z.2.2.q, 16 ≤ p.2.length) (0, ca.s.length + 1, x2) ?_ (.refl _) ⟨Nat.zero_le _, (show (0 : Nat) ≤ 8 by decide), houts, by rw [hy]; rfl, hx2, h16⟩ ?_
 ·exact .cons rfl (.cons rfl (.cons rfl (.cons rfl (.cons rfl (.cons rfl (.nil _))))))
 rintro ⟨i, f, x⟩ ⟨hi, hi8, hdr, hyq, hx, hx16⟩
 simp only at hi hi8 hdr hyq hx hx16 ⊢
 refine Yn 1 rfl ?_
 refine Wp.seq ?_
 refine Wp.cond rfl (fun d1 => ?_) (fun d1 => ?_)
 ·have d1 := of_decide_eq_true d1
  have hlt : i < outs.length := by omega
  have hol := outs_small hov
  obtain ⟨b, o, oc', l', e, fz, hv', hm', hat⟩ := snt_at hov.reads (by omega)
  obtain ⟨rfl, rfl⟩ : oa = some ⟨b, o, none⟩ ∧ oc = oc' := by simpa using hv'
  obtain ⟨_, _, hz3, hz4⟩ := hall _ (List.getElem_mem hlt)
  rw [List.drop_eq_getElem_cons hlt] at hdr
  obtain ⟨g, e1, e2, e3, g1, g2⟩ := runT_cons hdr.symm
  have hxn := hx.next (by decide) g1 g2
  have hxk := hx.k
  have hy2 : y.q = (runT ca 7 g (nextS ca x)).2.q := by rw [hyq, e3]
  have eq1 : outs[i].2.1 = first x.nx := by rw [e1]
  have eq2 : outs[i].2.2 = doT ca x outs[i].2.1 := by rw [e1]
  have hq' : (nextS ca x).q = qA outs[i].2.1 x.q := by rw [eq1]; rfl
  have hn16 : ∀ p ∈ (nextS ca x).q, 16 ≤ p.2.length := by
   rw [hq']
   unfold qA
   intro p hp
   split at hp
   ·exact hx16 p (List.mem_of_mem_tail hp)
   ·exact hx16 p hp
  rw [← eq1] at g2
  refine Wp.skip ?_
  refine Wp.seq ?_
  refine Wp.block ?_
  refine Yg 1 rfl ?_
  refine OWp.g rfl rfl (Gives.indexAddrSlice (i) rfl rfl rfl rfl rfl rfl (by omega)) ?_
  refine OWp.load (List.mem_append_right _ (List.mem_append_left _ hm')) rfl rfl rfl rfl (partAt_agg (hat i hlt) rfl rfl rfl) ?_
  refine Ya rfl rfl rfl rfl fun L10 hBL10 hLL10 => ?_
  refine Ye 1 rfl ?_
  refine OWp.step rfl (Step.storeAs 0 (sntc outs[i]) rfl rfl rfl rfl rfl (by assumption) rfl (Unfz.zero _) rfl (Nat.le_of_ble_eq_true rfl) rfl rfl ?_)
  refine OWp.nil ?_
  refine Wp.seq ?_
  refine Yn 2 rfl ?_
  refine Wp.cond rfl (fun d2 => ?_) (fun d2 => ?_)
  ·have d2 := of_decide_eq_true d2
   refine Yn 1 rfl ?_
   refine Wp.ret ⟨trivial, _, ⟨_, _, rfl, rfl, rfl⟩, ?_⟩
   rfl
  have d2 := of_decide_eq_false d2
  refine Wp.skip ?_
  refine Wp.seq ?_
  refine Yg 1 rfl ?_
  refine Yl m0 ?_
  by_cases hk3 : outs[i].2.1 = 3
  ·skip
   refine Yz 1 rfl ?_
   refine Cv rfl (by omega) fun cc3 => ?_
   refine Yg 1 rfl ?_
   refine Yl m0 ?_
   refine Yc rfl rfl (decPullE (user := 3) (seq := x.seq + 1) (tag := pullT ca.key 3 (x.seq + 1)) (eq2.trans (by rw [hk3]; show pullB ca.user _ (pullT ca.key ca.user _) = _; rw [hcu])) (by decide) (by omega) (by have := hx.seq; omega) (hmac_len _ _) ?_)
   refine Ye 3 rfl ?_
   refine Ya rfl rfl rfl rfl fun L11 hBL11 hLL11 => ?_
   refine OWp.step rfl (Step.storeAs 0 (mlc 2 (3 : Nat) (x.seq + 1 : Nat) [] (pullT ca.key 3 (x.seq + 1)) (.slice none 0 0) (.slice none 0 0)) rfl rfl rfl rfl rfl (by assumption) rfl (Unfz.zero _) rfl (Nat.le_of_ble_eq_true rfl) rfl rfl ?_)
   refine Yz 1 rfl ?_
   refine Wp.seq ?_
   refine Yg 3 rfl ?_
   refine Du 66 rfl (by exact fun h => h rfl) fun cc4 => ?_
   refine Ye 1 rfl ?_
   refine Yl m0 ?_
   refine Ye 3 rfl ?_
   refine Du 71 rfl (by decide) fun cc5 => ?_
   refine Ye 1 rfl ?_
   refine Yl m0 ?_
   refine Yz 2 rfl ?_
   refine Cu rfl (by decide) fun cc6 => ?_
   refine Wp.skip ?_
   refine Wp.exit ?_
   refine Wp.drop (S' := W3 ++ (oes ++ Za)) (.cons _ (.cons _ (.refl _))) ?_
   refine Wp.region ?_
   refine Yz 2 rfl ?_
   exact ⟨(i + 1, g, nextS ca x), by simp only; omega, ⟨by simp only; omega, by simp only; omega, e2, hy2, hxn, hn16⟩, .cons rfl (.cons' rfl (int_eq (by rw [hq', hk3]; rfl)) (.cons rfl (.cons rfl (.cons rfl (.cons' rfl (int_eq (show IntKind.i64.wrap ((i : Int) + 1) = ((i + 1 : Nat) : Int) by rw [i64_id] <;> omega)) (.nil _)))))), .refl _⟩
  refine Yz 1 rfl ?_
  refine Ct rfl (by omega) fun cc7 => ?_
  refine Wp.skip ?_
  refine Yg 1 rfl ?_
  refine Yl m0 ?_
  obtain ⟨sd, txt, w, h, N, s1, s2, s3, s4, s5⟩ := sent25 hck hm4.1 hm4.2.1 hka hx (show outs[i].2.1 < 3 by omega) (by omega)
  have hkl5 : kLen outs[i].2.1 = 505 := if_neg hk3
  have hk1 : h.kind ≠ 1 := by
   rcases s5 with ⟨_, ⟨_, hh⟩ | ⟨_, _, _, hh, _⟩⟩ | ⟨_, hh⟩ | ⟨_, hh, _⟩ <;> omega
  refine Yc rfl rfl (end25C (eq2.trans s1) (KsIn_of hk0 fun x hx => .tail _ (List.mem_append_right _ (List.mem_append_right _ (hZR _ hx)))) s4 s2 s3 (by rw [hz4, hkl5]) hk1 ?_)
  intro tag
  refine Ye 3 rfl ?_
  refine Ya rfl rfl rfl rfl fun L13 hBL13 hLL13 => ?_
  refine OWp.step rfl (Step.storeAs 0 ((Pd.cells ⟨h, [], tag, txt⟩)) rfl rfl rfl rfl rfl (by assumption) rfl (Unfz.zero _) rfl (Nat.le_of_ble_eq_true rfl) rfl rfl ?_)
  refine Yz 1 rfl ?_
  refine Wp.seq ?_
  refine Yn 2 rfl ?_
  refine Cn rfl ?_
  refine Wp.skip ?_
  refine Wp.block ?_
  refine Yg 1 rfl ?_
  refine Yl m1 ?_
  rcases s5 with ⟨h0, ⟨hq0, hh⟩ | ⟨p1, r1, hq0, hh, hxt⟩⟩ | ⟨h0, hh⟩ | ⟨h0, hh, hu, hxt⟩
  ·skip
   refine Ye 2 rfl ?_
   refine Dv 88 rfl (by omega) fun cc8 => ?_
   refine Yz 4 rfl ?_
   refine Ct rfl (by rw [hq0]; decide) fun cc9 => ?_
   refine Yg 1 rfl ?_
   refine Yl m1 ?_
   refine Yz 2 rfl ?_
   refine Ct rfl (by omega) fun cc10 => ?_
   refine Yg 2 rfl ?_
   refine Yl m0 ?_
   refine Yz 2 rfl ?_
   refine Cu rfl (by exact fun e => e hh) fun cc11 => ?_
   refine Wp.skip ?_
   refine Wp.drop (S' := W3 ++ (oes ++ Za)) (.cons _ (.cons _ (.refl _))) ?_
   refine Wp.region ?_
   refine Yz 2 rfl ?_
   exact ⟨(i + 1, g, nextS ca x), by simp only; omega, ⟨by simp only; omega, by simp only; omega, e2, hy2, hxn, hn16⟩, .cons rfl (.cons' rfl (int_eq (by rw [hq', h0, hq0]; rfl)) (.cons rfl (.cons rfl (.cons rfl (.cons' rfl (int_eq (show IntKind.i64.wrap ((i : Int) + 1) = ((i + 1 : Nat) : Int) by rw [i64_id] <;> omega)) (.nil _)))))), .refl _⟩
  skip
  ·skip
   refine Ye 2 rfl ?_
   refine Dv 88 rfl (by omega) fun cc12 => ?_
   refine Yz 4 rfl ?_
   refine Cv rfl (by rw [hq0]; simp) fun cc13 => ?_
   refine Yn 3 rfl ?_
   refine Yg 2 rfl ?_
   refine Yl m0 ?_
   refine Ye 2 rfl ?_
   refine Du 98 rfl (by exact fun e => e hh) fun cc14 => ?_
   refine Ye 1 rfl ?_
   refine Yl m0 ?_
   refine Yz 3 rfl ?_
   refine Ct rfl (by have := hx16 p1 (by rw [hq0]; exact .head _); rw [hxt]; simp only; omega) fun cc15 => ?_
   refine Wp.skip ?_
   refine Wp.drop (S' := W3 ++ (oes ++ Za)) (.cons _ (.cons _ (.refl _))) ?_
   refine Wp.region ?_
   refine Yz 2 rfl ?_
   exact ⟨(i + 1, g, nextS ca x), by simp only; omega, ⟨by simp only; omega, by simp only; omega, e2, hy2, hxn, hn16⟩, .cons rfl (.cons' rfl (int_eq (by have hql := hx.ql; rw [hq0, List.length_cons] at hql; rw [hq', h0, hq0]; show IntKind.i64.wrap ((((p1 :: r1).length : Nat) : Int) - 1) = ((r1.length : Nat) : Int); rw [List.length_cons, i64_id] <;> omega)) (.cons rfl (.cons rfl (.cons rfl (.cons' rfl (int_eq (show IntKind.i64.wrap ((i : Int) + 1) = ((i + 1 : Nat) : Int) by rw [i64_id] <;> omega)) (.nil _)))))), .refl _⟩
  skip
  ·skip
   refine Ye 2 rfl ?_
   refine Dt 88 rfl (by omega) fun cc16 => ?_
   refine Yz 4 rfl ?_
   refine Cn rfl ?_
   refine Yg 1 rfl ?_
   refine Yl m1 ?_
   refine Yz 2 rfl ?_
   refine Ct rfl (by omega) fun cc17 => ?_
   refine Yg 2 rfl ?_
   refine Yl m0 ?_
   refine Yz 2 rfl ?_
   refine Cu rfl (by exact fun e => e hh) fun cc18 => ?_
   refine Wp.skip ?_
   refine Wp.drop (S' := W3 ++ (oes ++ Za)) (.cons _ (.cons _ (.refl _))) ?_
   refine Wp.region ?_
   refine Yz 2 rfl ?_
   exact ⟨(i + 1, g, nextS ca x), by simp only; omega, ⟨by simp only; omega, by simp only; omega, e2, hy2, hxn, hn16⟩, .cons rfl (.cons' rfl (int_eq (by rw [hq', h0]; rfl)) (.cons rfl (.cons rfl (.cons rfl (.cons' rfl (int_eq (show IntKind.i64.wrap ((i : Int) + 1) = ((i + 1 : Nat) : Int) by rw [i64_id] <;> omega)) (.nil _)))))), .refl _⟩
  refine Ye 2 rfl ?_
  refine Dt 88 rfl (by omega) fun cc19 => ?_
  refine Yz 4 rfl ?_
  refine Cn rfl ?_
  refine Yg 1 rfl ?_
  refine Yl m1 ?_
  refine Yz 2 rfl ?_
  refine Cv rfl (by omega) fun cc20 => ?_
  refine Yg 2 rfl ?_
  refine Yl m0 ?_
  refine Ye 2 rfl ?_
  refine Du 112 rfl (by exact fun e => e hh) fun cc21 => ?_
  refine Ye 2 rfl ?_
  refine Yl m0 ?_
  refine Ye 3 rfl ?_
  refine Du 118 rfl (by exact fun e => e (by rw [hu, hcu]; rfl)) fun cc22 => ?_
  refine Ye 1 rfl ?_
  refine Yl m0 ?_
  refine Yz 2 rfl ?_
  refine Cu rfl (by exact fun e => e hxt) fun cc23 => ?_
  refine Wp.skip ?_
  refine Wp.drop (S' := W3 ++ (oes ++ Za)) (.cons _ (.cons _ (.refl _))) ?_
  refine Wp.region ?_
  refine Yz 2 rfl ?_
  exact ⟨(i + 1, g, nextS ca x), by simp only; omega, ⟨by simp only; omega, by simp only; omega, e2, hy2, hxn, hn16⟩, .cons rfl (.cons' rfl (int_eq (by rw [hq', h0]; rfl)) (.cons rfl (.cons rfl (.cons rfl (.cons' rfl (int_eq (show IntKind.i64.wrap ((i : Int) + 1) = ((i + 1 : Nat) : Int) by rw [i64_id] <;> omega)) (.nil _)))))), .refl _⟩
 have d1 := of_decide_eq_false d1
 obtain rfl : i = outs.length := by omega
 rw [List.drop_length] at hdr
 have hq3 := runT_none hdr.symm
 refine Wp.exit ?_
 refine Yg 4 rfl ?_
 refine Dt 132 rfl (by omega) fun cc24 => ?_
 refine Ye 1 rfl ?_
 refine Yc rfl rfl (cwaitsC hin3 (fun y hy => List.mem_append_left _ hy) ?_)
 refine Yz 4 rfl ?_
 refine Wp.ret ⟨trivial, _, ⟨_, _, rfl, rfl, rfl⟩, ?_⟩
 exact congrArg Value.bool (decide_eq_true (by rw [hyq, hq3]))
end
end Go.Proofs.D

/- The tables that the rows list: what they give to a walk, and a world in which they lie. -/
namespace Go.Proofs.D
open Go.Lg Go.Sha
set_option maxRecDepth 100000

def Laid : List (String × DataW Unit) := [("unicode/utf8.acceptRanges", YtlfhhkdjahcglaaGreatDoor.Rows.laid_unicode_utf8_acceptRanges), ("dovecote/hash.ks", YtlfhhkdjahcglaaGreatDoor.Rows.laid_dovecote_hash_ks), ("unicode/utf8.first", YtlfhhkdjahcglaaGreatDoor.Rows.laid_unicode_utf8_first)]
def Laid1 : List (String × DataW Unit) := [("dovecote/hash.ks", YtlfhhkdjahcglaaGreatDoor.Rows.laid_dovecote_hash_ks)]
def ksZ : List Int := ks.map fun (n : Nat) => (n : Int)
theorem ks_is : (YtlfhhkdjahcglaaGreatDoor.Rows.laid_dovecote_hash_ks : DataW Unit) = Lib.tabData .u32 ksZ := by rfl
theorem ksZ_get (i : Nat) (h : i < 64) : ksZ.getD i 0 = ((ks.getD i 0 : Nat) : Int) := by
 have hl : i < ks.length := h
 unfold ksZ
 rw [List.getD_eq_getElem?_getD, List.getElem?_map, List.getD_eq_getElem?_getD, List.getElem?_eq_getElem hl]
 rfl
theorem ks_at {W : World} {r : List (String × DataW Unit)} (h : laidMet Tryz.prog (("dovecote/hash.ks", YtlfhhkdjahcglaaGreatDoor.Rows.laid_dovecote_hash_ks) :: r) W) : KsIn (All W) := by
 rw [ks_is] at h
 have ht := Lib.tabIs_of_head (g := 0) (n := 64) (by kernel_rfl) (t := 308) (by kernel_rfl) Tryz.underlying308 Tryz.underlying267 (by kernel_rfl) (by kernel_rfl) h
 have hc : ∀ i, i < 64 → W.cell? ⟨0, i, none⟩ = some (.int .u32 (ks.getD i 0 : Nat)) := by
  intro i hi
  have := ht.cell (g := 0) (by kernel_rfl) i (by rw [show ksZ.length = 64 from rfl]; exact hi)
  rw [ksZ_get i hi] at this
  exact this
 have h0 := hc 0 (by decide)
 have : ∃ l e fz, W.heap[0]? = some (.cells l e fz) := by
  unfold World.cell? at h0
  split at h0
  ·rename_i c0 e0 f0 hb; exact ⟨c0, e0, f0, hb⟩
  ·simp at h0
 obtain ⟨l, e, fz, hl⟩ := this
 refine ⟨l.toList, e, fz, All.mem hl, fun i hi => ?_⟩
 have := hc i hi
 unfold World.cell? at this
 simp only [hl] at this
 simpa using this
theorem of_laid {W : World} (h : laidMetH Tryz.prog Laid W) : KsIn (All W) := by
 rw [MakeChecks.laidMetH_plain _ _ _ (by kernel_rfl)] at h
 exact ks_at h.tail
noncomputable def laidWorld (os : Os) : World :=
 let w0 := World.doorLaid Tryz.prog 24 os
 { w0 with heap := w0.heap.modify 2 fun
   | .cells _ t frozen => .cells (Go.Pinned.utf8FirstZ.map fun (n : Nat) => Value.int .u8 (n : Int)).toArray t frozen
   | o => o }
theorem laid_met (os : Os) (args : Array Value) : laidMetH Tryz.prog Laid ((laidWorld os).forCall (fun _ _ => 0) ⟨#[], args, []⟩).memory :=
 laidMetH_of_parts3 (fuel := 8) (laidMet_of_run' 8 (by kernel_rfl) (by kernel_rfl)) (by kernel_rfl) (by kernel_rfl)
theorem laid_shaped (os : Os) (args : Array Value) : ((laidWorld os).forCall (fun _ _ => 0) ⟨#[], args, []⟩).Shaped Tryz.prog :=
 World.shaped_of_RefB (by kernel_rfl) (by kernel_rfl)
end Go.Proofs.D
