/- What functions of the given program do, one after the other, told by that layer. -/
import Derived.Test.YtlfhhkdjahcglaaGreatDoorKM15x741c
import Derived.Test.YtlfhhkdjahcglaaGreatDoorKM14xb10a
import Derived.Test.YtlfhhkdjahcglaaGreatDoorKHead
import Derived.Test.YtlfhhkdjahcglaaGreatDoorRows
import Derived.LaidMore
import Derived.LaidHandle
import Derived.Lib.LaidTab
import Derived.Stop.LaidErr
import Derived.MakeChecks
import Derived.Test.YtlfhhkdjahcglaaGreatDoorLgM2x9fc6
/- CliAcks: replies are answered by acks. -/
namespace Go.Proofs.D
open Go.Lg Go.Sha Go.Hd Go.Cv
open Go.Proofs.C (Hop hopP hopB parse pathE encB tp word TIn Nd ndc St stc TownOk HostOf IsHost wayR mayP TownOk belowR WayIn LooseOf HomeOf NodesIn)
open Go.Cl (first firstOf needs)
set_option maxRecDepth 100000
attribute [local irreducible] derive hmac publicR partsB sha
/-- The reply that is made. -/
abbrev m18 (L18 L112 user sq : Nat) : Nat × Obj := (L18, cel (mlc 3 user sq [] [] (.slice (some ⟨L112, 0, none⟩) 4 4) (.slice none 0 0)) 58)
theorem slots_read {S : Ents} {L : Nat} {l : List Slot} (h4 : l.length = 4) (h : (L, cel (l.flatMap slc) 64) ∈ S) : Reads S 2 (.slice (some ⟨L, 0, none⟩) 4 4) l.length (l.flatMap slc) := by
 have := Reads.row (k := 4) (sz := 2) (cap := 4) (l := l.flatMap slc) h (by rw [sl_len8 h4]; decide)
 rw [h4]
 rwa [List.take_of_length_le (by rw [sl_len8 h4]; decide)] at this
section
variable {B : Nat} {S R : Ents} {Q : Value → Ents → Prop} {c : Ck}
set_option maxHeartbeats 8000000 in
theorem cliAcksW {S : Ents} {a0 : ByteArray} {a1 : Option Addr} {len1 cap1 : Nat} {a2 : Int} (hks : KsIn S) (rd0 : Rd Tryz.prog S 9 [.string a0]) (rd1 : Rd Tryz.prog S 49 [.slice a1 len1 cap1]) (_rd2 : Rd Tryz.prog S 3 [.int .i64 a2]) :
  CallWp Tryz.prog B 4 #[.string a0, .slice a1 len1 cap1, .int .i64 a2] (fun v _ => v = .bool true) S := by
 obtain ⟨seed, rfl, hsl⟩ := rdStr25 rd0
 obtain ⟨ids, hlr, hll, _⟩ := rdStrs25 rd1
 obtain rfl : len1 = ids.length := hlr.len
 refine Yx (args := [_, _, _]) Tryz.func4 Tryz.ntmps4 ?_
 refine Yn 1 rfl ?_
 refine Wp.seq ?_
 refine Yq ?_
 refine OWp.step rfl (Step.call rfl rfl rfl rfl rfl rfl ((works25C hks ?_)))
 refine Yz 1 rfl ?_
 refine Wp.cond rfl (fun c => nomatch c) (fun _ => ?_)
 refine Wp.skip ?_
 refine Yg 1 rfl ?_
 refine OWp.step rfl (Step.call rfl rfl rfl rfl rfl rfl ((tape25C (n := 900) hks (by omega) (by decide) ?_)))
 refine OWp.step rfl (Step.call rfl rfl rfl rfl rfl rfl ((habit25C hks ?_)))
 intro hv mv sv W hT
 obtain ⟨a1', c1, a2', c2, a3, c3, rfl, rfl, rfl⟩ := hT.forms
 refine Ya rfl rfl rfl rfl fun L7 hBL7 hLL7 => ?_
 refine OWp.step rfl (Step.storeAs 0 (hbc (c25 mn25 (tp25 seed 900)) (.slice a1' h25.length c1) (.slice a2' m25.length c2) (.slice a3 s25.length c3)) rfl rfl rfl rfl rfl (by assumption) rfl (Unfz.zero _) rfl (Nat.le_of_ble_eq_true rfl) rfl rfl ?_)
 refine OWp.nil ?_
 refine Yq ?_
 refine OWp.g rfl rfl (Gives.build rfl rfl) ?_
 refine Ye 1 rfl ?_
 refine OWp.step rfl (Step.storeAs 0 (hbc (c25 mnA (tp25 seed 900)) (.slice a1' h25.length c1) (.slice a2' m25.length c2) (.slice a3 s25.length c3)) rfl rfl rfl rfl rfl (by assumption) rfl (Unfz.zero _) rfl (Nat.le_of_ble_eq_true rfl) rfl rfl ?_)
 obtain ⟨R0, hR0⟩ : ∃ x, x = (L7, cel (hbc (c25 mnA (tp25 seed 900)) (.slice a1' h25.length c1) (.slice a2' m25.length c2) (.slice a3 s25.length c3)) 33) :: (W ++ S) := ⟨_, rfl⟩
 have h7 : (L7, cel (hbc (c25 mnA (tp25 seed 900)) (.slice a1' h25.length c1) (.slice a2' m25.length c2) (.slice a3 s25.length c3)) 33) ∈ R0 := by rw [hR0]; exact .head _
 have hk0 : KsIn R0 := by rw [hR0]; exact KsIn_of hks fun x hx => .tail _ (List.mem_append_right _ hx)
 have hT0 : TIn R0 (.slice a1' h25.length c1) (.slice a2' m25.length c2) (.slice a3 s25.length c3) h25 m25 s25 := by rw [hR0]; exact hT.mono fun x hx => .tail _ (List.mem_append_left _ hx)
 have hl0 : Reads R0 1 (.slice a1 ids.length cap1) ids.length (strs ids) := by rw [hR0]; exact hlr.mono fun x hx => .tail _ (List.mem_append_right _ hx)
 rw [← hR0]
 refine OWp.nil ?_
 refine Yq ?_
 refine Yl h7 ?_
 refine OWp.step rfl (Step.call rfl rfl rfl rfl rfl rfl ((cnewC (c := c25 mnA (tp25 seed 900)) (hb25 hk0 hT0 mnA_may (by rw [tp25_len]; decide)) ?_)))
 intro p px pj pl hva mva sva Wa Xa hck0 hin hpj
 obtain ⟨Za, hZa⟩ : ∃ x, x = (pj, cel [.int .i64 16, .slice none 0 0, .int .i64 64, .slice none 0 0] 156) :: (Xa ++ R0) := ⟨_, rfl⟩
 have hZR : ∀ x ∈ R0, x ∈ Za := fun x hx => by rw [hZa]; exact .tail _ (List.mem_append_right _ hx)
 have hZX : ∀ x ∈ Xa ++ R0, x ∈ Za := fun x hx => by rw [hZa]; exact .tail _ hx
 rw [← hZa]
 refine Yz 5 rfl ?_
 refine Yg 1 rfl ?_
 refine Yl (List.mem_append_right _ (hZR _ h7)) ?_
 refine OWp.g rfl rfl (Gives.build rfl rfl) ?_
 refine OWp.step rfl (Step.buildSlice rfl rfl rfl ?_); intro L51 hBL51 hLL51
 refine OWp.step rfl (Step.call rfl rfl rfl rfl rfl rfl ((gnewC (user := 3) (key := pr25 9) (.head _) (by decide) (pr25_len 9) ?_)))
 intro g sg gv ges hBg hBsg hog
 obtain ⟨ca, hca⟩ : ∃ x, x = (c25 mnA (tp25 seed 900)).laid p px pj pl hva mva sva := ⟨_, rfl⟩
 have hck := hck0 R0 hk0
 rw [← hca] at hck hin
 have hna : newCs (c25 mnA (tp25 seed 900)) = newCs ca := by rw [hca]; rfl
 have hsa : ca.s.length = 900 := by rw [hca]; exact tp25_len _ _
 have hoa := newCs_ok ca (by omega)
 have hcu : ca.user = 3 := by rw [hca]; rfl
 have hk9 : ca.key = pr25 9 := by rw [hca]; rfl
 have hns : (newCs ca).seq = 0 := by rw [xs_new ca (by omega)]
 have hnl : (newCs ca).lnow = 0 := by rw [xs_new ca (by omega)]
 rw [hna] at hin
 rw [show pt p = pt ca.p by rw [hca]; rfl]
 obtain ⟨Z, hZ⟩ : ∃ x, x = (g, cel [gv] 114) :: (ges ++ ((L51, cel [.int .i64 3, .string (str (pr25 9))] 54) :: Za)) := ⟨_, rfl⟩
 have hZ2 : ∀ x ∈ Za, x ∈ Z := fun x hx => by rw [hZ]; exact .tail _ (List.mem_append_right _ (.tail _ hx))
 have hgZ : (g, cel [gv] 114) ∈ Z := by rw [hZ]; exact .head _
 have hgv : Reads Z 1 gv 1 [pt sg] := by rw [hZ]; exact hog.reads.mono fun x hx => .tail _ (List.mem_append_left _ hx)
 refine Yz 5 rfl ?_
 refine Wp.seq ?_
 refine Yg 3 rfl ?_
 refine Ye 4 rfl ?_
 refine Ye 4 rfl ?_
 refine OWp.part 65 rfl (fun cc1 => absurd (ndT cc1) (by exact fun h => h rfl)) (fun cc1 => ?_)
 have cc1 := ndF cc1
 refine Yz 3 rfl ?_
 refine Wp.cond rfl (fun cc2 => absurd (ndT cc2) (by exact fun h => h rfl)) (fun cc2 => ?_)
 have cc2 := ndF cc2
 refine Wp.skip ?_
 refine Wp.permS (show List.Perm ((sg, cel (sgc 3 (pr25 9) (0 : Nat)) 117) :: ((g, cel [gv] 114) :: (ges ++ ((L51, cel [.int .i64 3, .string (str (pr25 9))] 54) :: (Wa ++ Za))))) (Wa ++ ((sg, cel (sgc 3 (pr25 9) (0 : Nat)) 117) :: Z)) from by rw [hZ]; exact permBy [[(sg, cel (sgc 3 (pr25 9) (0 : Nat)) 117), (g, cel [gv] 114)], ges, [(L51, cel [.int .i64 3, .string (str (pr25 9))] 54)], Wa] Za [0, 1, 2, 3] [3, 0, 1, 2] (by decide)) ?_
 refine Yg 1 rfl ?_
 refine OWp.step rfl (Step.call rfl rfl rfl rfl rfl rfl ((tickC (c := ca) (W := Wa) (S := (sg, cel (sgc 3 (pr25 9) (0 : Nat)) 117) :: Z) (to := 2) hck (fun y hy => .tail _ (hZ2 _ (hZX _ hy))) hoa hin (by decide) (by decide) (by decide) (by decide) ?_)))
 intro W2 ov oes hin2 hov hok2
 obtain ⟨outs, houts⟩ : ∃ x, x = (tickT ca 2 (newCs ca)).1 := ⟨_, rfl⟩
 obtain ⟨y, hy⟩ : ∃ x, x = (tickT ca 2 (newCs ca)).2 := ⟨_, rfl⟩
 have hall : ∀ z ∈ outs, 0 ≤ z.1 ∧ z.1 ≤ 2 ∧ z.2.1 < 4 ∧ z.2.2.length = kLen z.2.1 := by rw [houts]; exact runT_all hck (by decide) _ _ hoa (fun _ _ => Nat.zero_le _)
 have hpk : ∀ z ∈ outs, z.2.1 < 3 → ∃ t, z.2.2 = packB t := by rw [houts]; exact runT_pack _ _
 have hpl : ∀ (i : Nat) (h : i < outs.length), outs[i].2.1 = 3 → outs[i].2.2 = pullB 3 (nP (outs.take (i + 1))) (pullT (pr25 9) 3 (nP (outs.take (i + 1)))) := by
  subst houts
  intro i h h3
  have := runT_pull (c := ca) (to := 2) (ca.s.length + 1) (newCs ca) i h h3
  rw [hcu, hk9, hns, Nat.zero_add] at this
  exact this
 have hsq : y.seq = nP outs := by have := runT_seq (c := ca) (to := 2) (ca.s.length + 1) (newCs ca); rw [hns, Nat.zero_add] at this; rw [hy, houts]; exact this
 have hln2 : y.lnow ≤ 2 := by rw [hy]; exact runT_lnow _ _ (by rw [hnl]; decide)
 rw [← houts] at hov
 rw [← hy] at hin2 hok2
 have hmost := hok2.seq
 obtain ⟨oa, oc, rfl⟩ := hov.reads.form
 refine Yz 5 rfl ?_
 refine Wp.seq ?_
 refine Yg 3 rfl ?_
 refine OWp.part 76 rfl (fun cc3 => absurd (ndT cc3) (by exact fun h => h rfl)) (fun cc3 => ?_)
 have cc3 := ndF cc3
 refine Yz 4 rfl ?_
 refine Wp.cond rfl (fun q1 => ?_) (fun q1 => ?_)
 ·have q1 := of_decide_eq_true q1
  refine Yn 3 rfl ?_
  refine Wp.ret ⟨trivial, _, ⟨_, _, rfl, rfl, rfl⟩, ?_⟩
  rfl
 have q1 := of_decide_eq_false q1
 have hpos : 0 < outs.length := by omega
 have hol := outs_small hov
 obtain ⟨b, o, oc', l', e, fz, hv', hm', hat⟩ := snt_at hov.reads hpos
 obtain ⟨rfl, rfl⟩ : oa = some ⟨b, o, none⟩ ∧ oc = oc' := by simpa using hv'
 refine Wp.skip ?_
 refine Yn 1 rfl ?_
 refine Wp.seq ?_
 refine Yn 3 rfl ?_
 refine Wp.block ?_
 refine Wp.loopS (α := Nat) (fun i => outs.length - i) (fun i => [(1, .slice a1 ids.length cap1), (2, .int .i64 a2), (8, pt ca.p), (10, pt g), (13, .int .i64 (nP (outs.take i) : Nat)), (83, .slice (some ⟨b, o, none⟩) outs.length oc), (84, .int .i64 (outs.length : Int)), (85, .int .i64 (i : Int))]) (fun i => (sg, cel (sgc 3 (pr25 9) (nP (outs.take i) : Nat)) 117) :: (W2 ++ (oes ++ Z))) (fun i => i ≤ outs.length) 0 ?_ (permBy [W2, oes, [(sg, cel (sgc 3 (pr25 9) (0 : Nat)) 117)]] Z [0, 1, 2] [2, 0, 1] (by decide)) (Nat.zero_le _) ?_
 ·exact .cons rfl (.cons rfl (.cons rfl (.cons rfl (.cons rfl (.cons rfl (.cons rfl (.cons rfl (.nil _))))))))
 intro i hi
 refine Yn 1 rfl ?_
 refine Wp.seq ?_
 refine Wp.cond rfl (fun d1 => ?_) (fun d1 => ?_)
 ·have d1 := of_decide_eq_true d1
  have hlt : i < outs.length := by omega
  obtain ⟨_, _, hz3, hz4⟩ := hall _ (List.getElem_mem hlt)
  have hnt := nP_take hlt
  have hnl2 := nP_le outs (i + 1)
  refine Wp.skip ?_
  refine Wp.seq ?_
  refine Wp.block ?_
  refine Yq ?_
  refine OWp.g rfl rfl (Gives.indexAddrSlice (i) rfl rfl rfl rfl rfl rfl (by omega)) ?_
  refine OWp.load (.tail _ (List.mem_append_right _ (List.mem_append_left _ hm'))) rfl rfl rfl rfl (partAt_agg (hat i hlt) rfl rfl rfl) ?_
  refine Ya rfl rfl rfl rfl fun L15 hBL15 hLL15 => ?_
  refine OWp.step rfl (Step.storeAs 0 (sntc outs[i]) rfl rfl rfl rfl rfl (by assumption) rfl (Unfz.zero _) rfl (Nat.le_of_ble_eq_true rfl) rfl rfl ?_)
  refine OWp.nil ?_
  refine Yg 1 rfl ?_
  refine Yl m0 ?_
  by_cases hk3 : outs[i].2.1 = 3
  ·skip
   rw [if_pos hk3] at hnt
   refine OWp.step rfl (Step.call rfl rfl rfl rfl rfl rfl ((decPullE (user := 3) (seq := nP (outs.take (i + 1))) (hpl i hlt hk3) (by decide) (by omega) (by omega) (hmac_len _ _) ?_)))
   refine Ye 3 rfl ?_
   refine Ya rfl rfl rfl rfl fun L16 hBL16 hLL16 => ?_
   refine OWp.step rfl (Step.storeAs 0 (mlc 2 (3 : Nat) (nP (outs.take (i + 1)) : Nat) [] (pullT (pr25 9) 3 (nP (outs.take (i + 1)))) (.slice none 0 0) (.slice none 0 0)) rfl rfl rfl rfl rfl (by assumption) rfl (Unfz.zero _) rfl (Nat.le_of_ble_eq_true rfl) rfl rfl ?_)
   refine Yz 1 rfl ?_
   refine Yg 3 rfl ?_
   refine Ye 1 rfl ?_
   refine Yl m0 ?_
   refine Yz 2 rfl ?_
   refine Wp.cond rfl (fun _ => ?_) (fun c => nomatch c)
   refine Yg 1 rfl ?_
   refine Yl m0 ?_
   refine Yz 1 rfl ?_
   refine Yg 1 rfl ?_
   refine Yl m0 ?_
   refine OWp.step rfl (Step.call rfl rfl rfl rfl rfl rfl ((CallWp.focus 2 rfl (admitPullC (user := 3) (key := pr25 9) (KsIn_of hk0 fun x hx => .tail _ (.tail _ (List.mem_append_right _ (List.mem_append_right _ (hZ2 _ (hZR _ hx)))))) (pr25_len 9) (by decide) (by omega) (by omega) (by omega) hBsg (.tail _ (.tail _ (List.mem_append_right _ (List.mem_append_right _ hgZ)))) (hgv.mono fun x hx => .tail _ (.tail _ (List.mem_append_right _ (List.mem_append_right _ hx)))) ?_))))
   refine Yz 1 rfl ?_
   refine Wp.cond rfl (fun cc4 => absurd (ndT cc4) (by exact fun h => h rfl)) (fun cc4 => ?_)
   have cc4 := ndF cc4
   refine Wp.skip ?_
   refine Wp.drop (S' := (sg, cel (sgc 3 (pr25 9) (nP (outs.take (i + 1)) : Nat)) 117) :: (W2 ++ (oes ++ Z))) (.cons_cons _ (.cons _ (.cons _ (.refl _)))) ?_
   refine Wp.region ?_
   refine Yz 2 rfl ?_
   exact ⟨i + 1, by omega, by omega, .cons rfl (.cons rfl (.cons rfl (.cons rfl (.cons rfl (.cons rfl (.cons rfl (.cons' rfl (int_eq (show IntKind.i64.wrap ((i : Int) + 1) = ((i + 1 : Nat) : Int) by rw [i64_id] <;> omega)) (.nil _)))))))), .refl _⟩
  rw [if_neg hk3] at hnt
  obtain ⟨tx, htx⟩ := hpk _ (List.getElem_mem hlt) (by omega)
  have hkl : kLen outs[i].2.1 = 505 := if_neg hk3
  refine OWp.step rfl (Step.call rfl rfl rfl rfl rfl rfl ((decPackE htx (by rw [hz4, hkl]) ?_)))
  refine Ye 3 rfl ?_
  refine Ya rfl rfl rfl rfl fun L16 hBL16 hLL16 => ?_
  refine OWp.step rfl (Step.storeAs 0 (mlc 1 (0 : Nat) (0 : Nat) tx [] (.slice none 0 0) (.slice none 0 0)) rfl rfl rfl rfl rfl (by assumption) rfl (Unfz.zero _) rfl (Nat.le_of_ble_eq_true rfl) rfl rfl ?_)
  refine Yz 1 rfl ?_
  refine Yg 3 rfl ?_
  refine Ye 1 rfl ?_
  refine Yl m0 ?_
  refine Yz 2 rfl ?_
  refine Wp.cond rfl (fun cc5 => absurd (of_decide_eq_true cc5) (by decide)) (fun cc5 => ?_)
  have cc5 := of_decide_eq_false cc5
  refine Wp.skip ?_
  refine Wp.drop (S' := (sg, cel (sgc 3 (pr25 9) (nP (outs.take i) : Nat)) 117) :: (W2 ++ (oes ++ Z))) (.cons _ (.cons _ (.refl _))) ?_
  refine Wp.region ?_
  refine Yz 2 rfl ?_
  exact ⟨i + 1, by omega, by omega, .cons rfl (.cons rfl (.cons rfl (.cons rfl (.cons' rfl (by rw [hnt, Nat.add_zero]) (.cons rfl (.cons rfl (.cons' rfl (int_eq (show IntKind.i64.wrap ((i : Int) + 1) = ((i + 1 : Nat) : Int) by rw [i64_id] <;> omega)) (.nil _)))))))), by rw [hnt, Nat.add_zero]⟩
 have d1 := of_decide_eq_false d1
 obtain rfl : i = outs.length := by omega
 rw [List.take_length, ← hsq]
 refine Wp.exit ?_
 refine Wp.seq ?_
 refine Yn 2 rfl ?_
 refine Wp.cond rfl (fun q2 => ?_) (fun q2 => ?_)
 ·have q2 := of_decide_eq_true q2
  refine Yn 1 rfl ?_
  refine Wp.ret ⟨trivial, _, ⟨_, _, rfl, rfl, rfl⟩, ?_⟩
  rfl
 have q2 := of_decide_eq_false q2
 have hn1 : 1 ≤ y.seq := by omega
 obtain ⟨qv, qes, lv, les, rfl, hqv, hlv⟩ := hin2
 obtain ⟨Y, hY⟩ : ∃ x, x = (sg, cel (sgc 3 (pr25 9) (y.seq : Nat)) 117) :: tp ca.px ca.s y.k :: (qes ++ (oes ++ Z)) := ⟨_, rfl⟩
 have hYZ : ∀ x ∈ Za, x ∈ Y := fun x hx => by rw [hY]; exact .tail _ (.tail _ (List.mem_append_right _ (List.mem_append_right _ (hZ2 _ hx))))
 have eW : (cle ca qv y.nx ((2 : Nat) : Int) 0 y.seq y.dry :: tp ca.px ca.s y.k :: (qes ++ (lde ca y.lnow lv :: les))) ++ (oes ++ Z) = cle ca qv y.nx ((2 : Nat) : Int) 0 y.seq y.dry :: tp ca.px ca.s y.k :: (qes ++ (lde ca y.lnow lv :: (les ++ (oes ++ Z)))) := by simp
 rw [eW]
 obtain ⟨C, hC⟩ : ∃ x, x = cle ca qv y.nx ((2 : Nat) : Int) 0 y.seq y.dry := ⟨_, rfl⟩
 refine Wp.skip ?_
 refine Wp.permS (show List.Perm ((sg, cel (sgc 3 (pr25 9) (y.seq : Nat)) 117) :: (cle ca qv y.nx ((2 : Nat) : Int) 0 y.seq y.dry :: tp ca.px ca.s y.k :: (qes ++ (lde ca y.lnow lv :: (les ++ (oes ++ Z)))))) (C :: (lde ca y.lnow lv :: (les ++ Y))) from by rw [hY, hC]; exact permBy [[(sg, cel (sgc 3 (pr25 9) (y.seq : Nat)) 117)], [cle ca qv y.nx ((2 : Nat) : Int) 0 y.seq y.dry], [tp ca.px ca.s y.k], qes, [lde ca y.lnow lv], les, oes] Z [0, 1, 2, 3, 4, 5, 6] [1, 4, 5, 0, 2, 3, 6] (by decide)) ?_
 refine Yg 1 rfl ?_
 refine OWp.step rfl (Step.makeSlice (len := 4) (cap := 4) rfl rfl rfl rfl rfl rfl (by decide) rfl rfl (Nat.le_refl _) (by decide) (by decide) ?_)
 intro L112 hB112 hL112
 refine OWp.g rfl rfl (Gives.build rfl rfl) ?_
 refine Ya rfl rfl rfl rfl fun L18 hBL18 hLL18 => ?_
 refine OWp.step rfl (Step.storeAs 0 (mlc 3 (3 : Nat) (y.seq : Nat) [] [] (.slice (some ⟨L112, 0, none⟩) 4 4) (.slice none 0 0)) rfl rfl rfl rfl rfl (by assumption) rfl (Unfz.zero _) rfl (Nat.le_of_ble_eq_true rfl) rfl rfl ?_)
 refine OWp.nil ?_
 refine Yn 1 rfl ?_
 refine Wp.seqS (α := Nat × List Slot) (fun z => [(2, .int .i64 a2), (8, pt ca.p), (10, pt g), (13, .int .i64 (y.seq : Int)), (18, pt L18), (19, .int .i64 (z.1 : Int))]) (fun z => m18 L18 L112 3 y.seq :: (L112, cel (z.2.flatMap slc) 64) :: C :: (lde ca y.lnow lv :: (les ++ Y))) (fun z => fillN z.2 z.1 ∧ z.2.length = 4 ∧ ∀ x ∈ z.2, x.2 = []) ?_ ?_
 ·skip
  refine Yn 1 rfl ?_
  refine Wp.block ?_
  refine Wp.loopS (α := Nat × Nat × List Slot) (fun z => ids.length - z.1) (fun z => [(1, .slice a1 ids.length cap1), (2, .int .i64 a2), (8, pt ca.p), (10, pt g), (13, .int .i64 (y.seq : Int)), (18, pt L18), (19, .int .i64 (z.2.1 : Int)), (20, .int .i64 (z.1 : Int))]) (fun z => m18 L18 L112 3 y.seq :: (L112, cel (z.2.2.flatMap slc) 64) :: C :: (lde ca y.lnow lv :: (les ++ Y))) (fun z => z.1 ≤ ids.length ∧ fillN z.2.2 z.2.1 ∧ z.2.2.length = 4 ∧ ∀ x ∈ z.2.2, x.2 = []) (0, 0, [([], []), ([], []), ([], []), ([], [])]) ?_ (.refl _) ⟨Nat.zero_le _, fill_nil, rfl, by simp⟩ ?_
  ·exact .cons rfl (.cons rfl (.cons rfl (.cons rfl (.cons rfl (.cons rfl (.cons rfl (.cons rfl (.nil _))))))))
  rintro ⟨i, n, l⟩ ⟨hi2, hf, h4, htx⟩
  simp only at hi2 hf h4 htx ⊢
  refine Wp.seq ?_
  refine Yg 5 rfl ?_
  refine OWp.part 118 rfl (fun r1 => ?_) (fun r1 => ?_)
  ·have r1 := of_decide_eq_true r1
   refine Yz 3 rfl ?_
   refine Wp.cond rfl (fun r2 => ?_) (fun r2 => ?_)
   ·have r2 := of_decide_eq_true r2
    have hlt : i < ids.length := by omega
    obtain ⟨b2, o2, c2', l2, e2, fz2, hv2, hm2, _, hg2⟩ := hl0.get1 (by omega)
    obtain ⟨rfl, rfl⟩ : a1 = some ⟨b2, o2, none⟩ ∧ cap1 = c2' := by simpa using hv2
    have x1 : ids[i]? = some ids[i] := by simp
    have hmm : ∀ X Y' : Nat × Obj, (b2, cel l2 e2 fz2) ∈ X :: Y' :: C :: (lde ca y.lnow lv :: (les ++ Y)) := fun _ _ => .tail _ (.tail _ (.tail _ (.tail _ (List.mem_append_right _ (hYZ _ (hZR _ hm2))))))
    refine Wp.skip ?_
    refine Wp.seq ?_
    refine Wp.block ?_
    refine Wp.seq (Wp.regionDraw [0, 1, 2, 3, 4, 5, 6, 7, 8, 9, 10, 11, 12, 13, 14] [11] rfl (by decide +kernel) ?_)
    refine DWp.evs 2 rfl ?_
    refine DWp.g rfl rfl rfl rfl (Gives.indexAddrSlice (i) rfl rfl rfl rfl rfl rfl (by omega)) ?_
    refine DWp.load (show (b2, cel l2 e2 fz2) ∈ _ from hmm _ _) rfl rfl rfl rfl rfl rfl ((hg2 i hlt).trans (by rw [strs, List.getElem?_map, x1]; rfl)) ?_
    refine DWp.evs 3 rfl ?_
    refine DWp.part 130 rfl (fun r3 => ?_) (fun r3 => ?_)
    ·have r3 := of_decide_eq_true r3
     refine DWp.evs 2 rfl ?_
     refine DWp.g rfl rfl rfl rfl (Gives.indexAddrSlice (i) rfl rfl rfl rfl rfl rfl (by omega)) ?_
     refine DWp.load (show (b2, cel l2 e2 fz2) ∈ _ from hmm _ _) rfl rfl rfl rfl rfl rfl ((hg2 i hlt).trans (by rw [strs, List.getElem?_map, x1]; rfl)) ?_
     refine DWp.stepGrow rfl rfl rfl (Step.makeSlice (len := 16) (cap := 16) rfl rfl rfl rfl rfl rfl (by decide) rfl rfl (Nat.le_refl _) (by decide) (by decide) ?_)
     intro L135 hB135 hL135
     refine ⟨fun _ hy => .tail _ hy, ?_⟩
     refine DWp.gives rfl rfl rfl rfl (Gives.bytesToStr (F := _) (l := (List.replicate 16 0)) (k := 16) rfl rfl rfl rfl rfl (zeros_read (.head _))) (fun _ h => h) ?_
     refine DWp.evs 2 rfl ?_
     refine DWp.nil ?_
     refine Wp.cond rfl (fun r4 => ?_) (fun r4 => ?_)
     ·skip
      refine Wp.seq (Wp.regionDraw [0, 1, 2, 3, 4, 5, 6, 7, 8, 9] [9] rfl (by decide +kernel) ?_)
      refine DWp.evs 1 rfl ?_
      refine Yd (show m18 L18 L112 3 y.seq ∈ _ from .tail _ (.head _)) ?_
      refine DWp.evs 3 rfl ?_
      refine DWp.g rfl rfl rfl rfl (Gives.indexAddrSlice (i) rfl rfl rfl rfl rfl rfl (by omega)) ?_
      refine DWp.load (show (b2, cel l2 e2 fz2) ∈ _ from .tail _ (hmm _ _)) rfl rfl rfl rfl rfl rfl ((hg2 i hlt).trans (by rw [strs, List.getElem?_map, x1]; rfl)) ?_
      refine DWp.g rfl rfl rfl rfl (Gives.indexAddrSlice (n) rfl rfl rfl rfl rfl rfl (by omega)) ?_
      refine DWp.evs 1 rfl ?_
      refine DWp.step rfl rfl rfl (Step.storeAs 2 (((l.set n (ids[i], [])).flatMap slc)) rfl rfl rfl rfl rfl hB112 rfl (Unfz.zero _) rfl (by show 0 + n * 2 + 1 ≤ (l.flatMap slc).length; rw [sl_len8 h4]; omega) (slot_wr h4 htx (by omega) (by show 0 + n * 2 = n * 2; omega)) rfl ?_)
      refine prs ?_
      refine DWp.nil ?_
      refine Wp.drop (S' := m18 L18 L112 3 y.seq :: (L112, cel ((l.set n (ids[i], [])).flatMap slc) 64) :: C :: (lde ca y.lnow lv :: (les ++ Y))) (List.sublist_cons_self _ _) ?_
      refine Wp.region ?_
      refine Yz 3 rfl ?_
      refine Wp.region ?_
      refine Yz 3 rfl ?_
      exact ⟨(i + 1, n + 1, l.set n (ids[i], [])), by simp only; omega, ⟨by simp only; omega, fill_set hf (by omega) ⟨by omega, fun h => by rw [decide_eq_true (show ids[i] = List.replicate 16 0 from h)] at r4; exact absurd r4 (by decide)⟩, by rw [List.length_set]; exact h4, text_set htx⟩, .cons rfl (.cons rfl (.cons rfl (.cons rfl (.cons rfl (.cons rfl (.cons' rfl (int_eq (i64_inc (by omega))) (.cons' rfl (int_eq (i64_inc (by omega))) (.nil _)))))))), .refl _⟩
     refine Wp.skip ?_
     refine Wp.drop (S' := m18 L18 L112 3 y.seq :: (L112, cel (l.flatMap slc) 64) :: C :: (lde ca y.lnow lv :: (les ++ Y))) (List.sublist_cons_self _ _) ?_
     refine Wp.region ?_
     refine Yz 3 rfl ?_
     exact ⟨(i + 1, n, l), by simp only; omega, ⟨by simp only; omega, hf, h4, htx⟩, .cons rfl (.cons rfl (.cons rfl (.cons rfl (.cons rfl (.cons rfl (.cons rfl (.cons' rfl (int_eq (i64_inc (by omega))) (.nil _)))))))), .refl _⟩
    have r3 := of_decide_eq_false r3
    refine DWp.evs 4 rfl ?_
    refine DWp.stepSkip rfl rfl rfl rfl ?_
    refine DWp.evs 3 rfl ?_
    refine DWp.nil ?_
    refine Wp.cond rfl (fun c => nomatch c) (fun _ => ?_)
    refine Wp.skip ?_
    refine Wp.region ?_
    refine Yz 3 rfl ?_
    exact ⟨(i + 1, n, l), by simp only; omega, ⟨by simp only; omega, hf, h4, htx⟩, .cons rfl (.cons rfl (.cons rfl (.cons rfl (.cons rfl (.cons rfl (.cons rfl (.cons' rfl (int_eq (i64_inc (by omega))) (.nil _)))))))), .refl _⟩
   have r2 := of_decide_eq_false r2
   refine Wp.exit ?_
   exact ⟨(n, l), ⟨hf, h4, htx⟩, .cons rfl (.cons rfl (.cons rfl (.cons rfl (.cons rfl (.cons rfl (.nil _)))))), .refl _⟩
  have r1 := of_decide_eq_false r1
  refine Yz 3 rfl ?_
  refine Wp.cond rfl (fun c => nomatch c) (fun _ => ?_)
  refine Wp.exit ?_
  exact ⟨(n, l), ⟨hf, h4, htx⟩, .cons rfl (.cons rfl (.cons rfl (.cons rfl (.cons rfl (.cons rfl (.nil _)))))), .refl _⟩
 rintro ⟨n, l⟩ ⟨hf, h4, htx⟩
 simp only at hf h4 htx ⊢
 subst hC
 have hnl3 : n ≤ 4 := by have := hf.1; omega
 refine Yq ?_
 refine Yl m0 ?_
 refine Ya rfl rfl rfl rfl fun L21 hBL21 hLL21 => ?_
 refine OWp.step rfl (Step.storeAs 0 (mlc 3 (3 : Nat) (y.seq : Nat) [] [] (.slice (some ⟨L112, 0, none⟩) 4 4) (.slice none 0 0)) rfl rfl rfl rfl rfl (by assumption) rfl (Unfz.zero _) rfl (Nat.le_of_ble_eq_true rfl) rfl rfl ?_)
 refine OWp.nil ?_
 refine Yg 1 rfl ?_
 refine OWp.step rfl (Step.call rfl rfl rfl rfl rfl rfl ((among25C (m := 50) (by decide) (by decide) ?_)))
 obtain ⟨r, hr, hr50⟩ : ∃ r : Nat, a2 % ((50 : Nat) : Int) = (r : Int) ∧ r < 50 := ⟨(a2 % 50).toNat, by omega, by omega⟩
 rw [hr]
 refine Ye 2 rfl ?_
 refine OWp.step rfl (Step.storeAs 0 (mlc 3 (4 + r : Nat) (y.seq : Nat) [] [] (.slice (some ⟨L112, 0, none⟩) 4 4) (.slice none 0 0)) rfl rfl rfl rfl rfl (by assumption) rfl (Unfz.zero _) rfl (Nat.le_of_ble_eq_true rfl) (by rw [i64_id (by omega) (by omega), show (4 : Int) + (r : Int) = ((4 + r : Nat) : Int) by omega]; rfl) rfl ?_)
 refine OWp.nil ?_
 refine Yq ?_
 refine Yl m1 ?_
 refine Ya rfl rfl rfl rfl fun L22 hBL22 hLL22 => ?_
 refine OWp.step rfl (Step.storeAs 0 (mlc 3 (3 : Nat) (y.seq : Nat) [] [] (.slice (some ⟨L112, 0, none⟩) 4 4) (.slice none 0 0)) rfl rfl rfl rfl rfl (by assumption) rfl (Unfz.zero _) rfl (Nat.le_of_ble_eq_true rfl) rfl rfl ?_)
 refine OWp.nil ?_
 refine Yg 3 rfl ?_
 refine OWp.step rfl (Step.storeAs 0 (mlc 3 (3 : Nat) (y.seq + 1 : Nat) [] [] (.slice (some ⟨L112, 0, none⟩) 4 4) (.slice none 0 0)) rfl rfl rfl rfl rfl (by assumption) rfl (Unfz.zero _) rfl (Nat.le_of_ble_eq_true rfl) (by rw [i64_inc (by omega)]; rfl) rfl ?_)
 refine OWp.nil ?_
 refine Wp.seq ?_
 refine Yq ?_
 refine Yl m1 ?_
 refine Yl m0 ?_
 refine OWp.step rfl (Step.buildSlice rfl rfl rfl ?_); intro L161 hBL161 hLL161
 refine Yz 2 rfl ?_
 refine Wp.block ?_
 refine Wp.loopS (α := Nat) (fun i => 2 - i) (fun i => [(8, pt ca.p), (10, pt g), (18, pt L18), (19, .int .i64 (n : Int)), (161, .slice (some ⟨L161, 0, none⟩) 2 2), (162, .int .i64 2), (163, .int .i64 (i : Int))]) (fun _ => cle ca qv y.nx ((2 : Nat) : Int) 0 y.seq y.dry :: (L161, cel (mlc 3 (4 + r : Nat) (y.seq : Nat) [] [] (.slice (some ⟨L112, 0, none⟩) 4 4) (.slice none 0 0) ++ mlc 3 (3 : Nat) (y.seq + 1 : Nat) [] [] (.slice (some ⟨L112, 0, none⟩) 4 4) (.slice none 0 0)) 58) :: m18 L22 L112 3 (y.seq + 1) :: m18 L21 L112 (4 + r) y.seq :: m18 L18 L112 3 y.seq :: (L112, cel (l.flatMap slc) 64) :: (lde ca y.lnow lv :: (les ++ Y))) (fun i => i ≤ 2) 0 ?_ (permBy [[(L161, cel (mlc 3 (4 + r : Nat) (y.seq : Nat) [] [] (.slice (some ⟨L112, 0, none⟩) 4 4) (.slice none 0 0) ++ mlc 3 (3 : Nat) (y.seq + 1 : Nat) [] [] (.slice (some ⟨L112, 0, none⟩) 4 4) (.slice none 0 0)) 58), m18 L22 L112 3 (y.seq + 1), m18 L21 L112 (4 + r) y.seq, m18 L18 L112 3 y.seq, (L112, cel (l.flatMap slc) 64)], [cle ca qv y.nx ((2 : Nat) : Int) 0 y.seq y.dry]] (lde ca y.lnow lv :: (les ++ Y)) [0, 1] [1, 0] (by decide)) (Nat.zero_le _) ?_
 ·exact .cons rfl (.cons rfl (.cons rfl (.cons rfl (.cons rfl (.cons rfl (.cons rfl (.nil _)))))))
 rintro i hi3
 refine Yn 1 rfl ?_
 refine Wp.seq ?_
 refine Wp.cond rfl (fun d2 => ?_) (fun d2 => ?_)
 ·have d2 := of_decide_eq_true d2
  obtain ⟨u, sq', hu, h1', h2', hno, hat2⟩ : ∃ u sq' : Nat, u < 64 ∧ 1 ≤ sq' ∧ sq' ≤ 2147483647 ∧ (u ≠ ca.user ∨ y.seq < sq') ∧ Lg.partAt Tryz.prog 58 (mlc 3 (4 + r : Nat) (y.seq : Nat) [] [] (.slice (some ⟨L112, 0, none⟩) 4 4) (.slice none 0 0) ++ mlc 3 (3 : Nat) (y.seq + 1 : Nat) [] [] (.slice (some ⟨L112, 0, none⟩) 4 4) (.slice none 0 0)) (0 + i * 7) = some (.agg (mlc 3 u sq' [] [] (.slice (some ⟨L112, 0, none⟩) 4 4) (.slice none 0 0)).toArray) := by
   rcases (show i = 0 ∨ i = 1 by omega) with rfl | rfl
   ·exact ⟨4 + r, y.seq, by omega, hn1, by omega, .inl (by omega), rfl⟩
   ·exact ⟨3, y.seq + 1, by decide, by omega, by omega, .inr (by omega), rfl⟩
  refine Wp.skip ?_
  refine Wp.seq ?_
  refine Wp.block ?_
  refine Yq ?_
  refine OWp.g rfl rfl (Gives.indexAddrSlice (i) rfl rfl rfl rfl rfl rfl (by omega)) ?_
  refine OWp.load (.tail _ (.head _)) rfl rfl rfl rfl hat2 ?_
  refine Ya rfl rfl rfl rfl fun L24 hBL24 hLL24 => ?_
  refine OWp.step rfl (Step.storeAs 0 (mlc 3 u sq' [] [] (.slice (some ⟨L112, 0, none⟩) 4 4) (.slice none 0 0)) rfl rfl rfl rfl rfl (by assumption) rfl (Unfz.zero _) rfl (Nat.le_of_ble_eq_true rfl) rfl rfl ?_)
  refine OWp.nil ?_
  refine Yq ?_
  refine Yl m0 ?_
  refine OWp.step rfl (Step.call rfl rfl rfl rfl rfl rfl ((encRepC (user := u) (seq := sq') (l := l) (n := n) hu h1' h2' (slots_read h4 (.tail _ (.tail _ (.tail _ (.tail _ (.tail _ (.tail _ (.head _)))))))) (fun a m d hd => by cases hd; exact Nat.le_refl _) h4 hf ?_)))
  rw [show repB u sq' l = mailB 3 u sq' (restB l 0) from rfl]
  refine Yz 5 rfl ?_
  refine Yg 2 rfl ?_
  refine OWp.step rfl (Step.call rfl rfl rfl rfl rfl rfl (CallWp.focus 1 rfl ((ctakeNoC hu h1' h2' h4 hf hno ?_))))
  refine Yz 7 rfl ?_
  refine Yg 3 rfl ?_
  refine OWp.part 181 rfl (fun cc6 => absurd (ndT cc6) (by exact fun h => h rfl)) (fun cc6 => ?_)
  have cc6 := ndF cc6
  refine Yz 3 rfl ?_
  refine Wp.cond rfl (fun cc7 => absurd (ndT cc7) (by exact fun h => h rfl)) (fun cc7 => ?_)
  have cc7 := ndF cc7
  refine Wp.skip ?_
  refine Wp.drop (S' := cle ca qv y.nx ((2 : Nat) : Int) 0 y.seq y.dry :: (L161, cel (mlc 3 (4 + r : Nat) (y.seq : Nat) [] [] (.slice (some ⟨L112, 0, none⟩) 4 4) (.slice none 0 0) ++ mlc 3 (3 : Nat) (y.seq + 1 : Nat) [] [] (.slice (some ⟨L112, 0, none⟩) 4 4) (.slice none 0 0)) 58) :: m18 L22 L112 3 (y.seq + 1) :: m18 L21 L112 (4 + r) y.seq :: m18 L18 L112 3 y.seq :: (L112, cel (l.flatMap slc) 64) :: (lde ca y.lnow lv :: (les ++ Y))) (.cons_cons _ (.cons _ (.refl _))) ?_
  refine Wp.region ?_
  refine Yz 2 rfl ?_
  exact ⟨i + 1, by omega, by omega, .cons rfl (.cons rfl (.cons rfl (.cons rfl (.cons rfl (.cons rfl (.cons' rfl (int_eq (i64_inc (by omega))) (.nil _))))))), .refl _⟩
 have d2 := of_decide_eq_false d2
 refine Wp.exit ?_
 refine Yq ?_
 refine Yl (show m18 L18 L112 3 y.seq ∈ _ from .tail _ (.tail _ (.tail _ (.tail _ (.head _))))) ?_
 refine OWp.step rfl (Step.call rfl rfl rfl rfl rfl rfl ((encRepC (user := 3) (seq := y.seq) (l := l) (n := n) (by decide) hn1 (by omega) (slots_read h4 (.tail _ (.tail _ (.tail _ (.tail _ (.tail _ (.head _))))))) (fun a m d hd => by cases hd; exact Nat.le_refl _) h4 hf ?_)))
 rw [show repB 3 y.seq l = mailB 3 ca.user y.seq (restB l 0) by rw [hcu]; rfl]
 refine Yz 5 rfl ?_
 refine Yg 2 rfl ?_
 refine OWp.step rfl (Step.call rfl rfl rfl rfl rfl rfl ((CallWp.permS (permBy [[cle ca qv y.nx ((2 : Nat) : Int) 0 y.seq y.dry], [(L161, cel (mlc 3 (4 + r : Nat) (y.seq : Nat) [] [] (.slice (some ⟨L112, 0, none⟩) 4 4) (.slice none 0 0) ++ mlc 3 (3 : Nat) (y.seq + 1 : Nat) [] [] (.slice (some ⟨L112, 0, none⟩) 4 4) (.slice none 0 0)) 58), m18 L22 L112 3 (y.seq + 1), m18 L21 L112 (4 + r) y.seq, m18 L18 L112 3 y.seq, (L112, cel (l.flatMap slc) 64)], [lde ca y.lnow lv], les] Y [0, 1, 2, 3] [0, 2, 3, 1] (by decide)) (ctakeC (fn := n) hck (fun x hx => .tail _ (.tail _ (.tail _ (.tail _ (.tail _ (hYZ _ (hZX _ hx))))))) hn1 (Nat.le_refl _) (by omega) h4 hf htx hok2.pos hln2 (by decide) hlv hok2.L ?_))))
 intro A ln lv2 L2 les2 hA hln3 hln4 hL2 hlv2
 rw [hcu, hk9]
 obtain ⟨hA1, hA2, hA3⟩ := hA
 refine Yz 7 rfl ?_
 refine Wp.seq ?_
 refine Yg 3 rfl ?_
 refine OWp.part 200 rfl (fun cc8 => absurd (ndT cc8) (by exact fun h => h rfl)) (fun cc8 => ?_)
 have cc8 := ndF cc8
 refine Ye 5 rfl ?_
 refine OWp.part 205 rfl (fun cc9 => absurd (ndT cc9) (by exact fun h => h rfl)) (fun cc9 => ?_)
 have cc9 := ndF cc9
 refine Ye 2 rfl ?_
 refine OWp.step rfl (Step.call rfl rfl rfl rfl rfl rfl ((mlongC (n := 102) (.inr (.inr (.inr ⟨rfl, rfl⟩))) ?_)))
 refine Yz 2 rfl ?_
 refine Wp.cond rfl (fun cc10 => absurd (ndT cc10) (by exact fun h => h (by rw [ackB_len (show (ackT (pr25 9) 3 (y.seq + 1) A).length = 32 from hmac_len _ _) hA2 (by omega)]))) (fun cc10 => ?_)
 have cc10 := ndF cc10
 subst hY
 refine Wp.skip ?_
 refine Wp.drop (S' := m18 L18 L112 3 y.seq :: (L112, cel (l.flatMap slc) 64) :: (sg, cel (sgc 3 (pr25 9) (y.seq : Nat)) 117) :: Z) (.cons _ (.cons _ (List.Sublist.trans (.cons _ (.cons _ (.cons _ (.cons_cons _ (.cons_cons _ (.cons_cons _ (.cons _ ((List.sublist_append_right oes Z).trans (List.sublist_append_right qes (oes ++ Z)))))))))) (List.sublist_append_right les2 _)))) ?_
 refine Yg 1 rfl ?_
 refine OWp.step rfl (Step.call rfl rfl rfl rfl rfl rfl ((decAckE (user := 3) (seq := y.seq + 1) (by decide) (by omega) (by omega) (hmac_len _ _) (by omega) hA2 ?_)))
 intro iv fs hiv
 obtain ⟨ia, ic, rfl⟩ := hiv.reads.form
 refine Ye 3 rfl ?_
 refine Ya rfl rfl rfl rfl fun L34 hBL34 hLL34 => ?_
 refine OWp.step rfl (Step.storeAs 0 (mlc 4 (3 : Nat) (y.seq + 1 : Nat) [] (ackT (pr25 9) 3 (y.seq + 1) A) (.slice none 0 0) (.slice ia A.length ic)) rfl rfl rfl rfl rfl (by assumption) rfl (Unfz.zero _) rfl (Nat.le_of_ble_eq_true rfl) rfl rfl ?_)
 refine Yz 1 rfl ?_
 refine Wp.seq (Wp.regionDraw [0, 1, 2, 3, 4, 5, 6, 7, 8, 9, 10, 11, 12, 13, 14, 15, 16, 17, 18, 19, 20, 21, 22, 23, 24, 25, 26, 27, 28, 29, 30, 31, 32, 33, 34, 35, 36, 37, 38, 39, 40, 41, 42] [10] rfl (by decide +kernel) ?_)
 refine DWp.evs 3 rfl ?_
 refine DWp.evs 1 rfl ?_
 refine Yd (show (L34, cel (mlc 4 (3 : Nat) (y.seq + 1 : Nat) [] (ackT (pr25 9) 3 (y.seq + 1) A) (.slice none 0 0) (.slice ia A.length ic)) 58) ∈ _ from .head _) ?_
 refine DWp.evs 3 rfl ?_
 refine DWp.evs 1 rfl ?_
 refine Yd (show (L34, cel (mlc 4 (3 : Nat) (y.seq + 1 : Nat) [] (ackT (pr25 9) 3 (y.seq + 1) A) (.slice none 0 0) (.slice ia A.length ic)) 58) ∈ _ from .head _) ?_
 refine DWp.step rfl rfl rfl (Step.call rfl rfl rfl rfl rfl rfl ((CallWp.permS (Pc (Pd (Pc (Pc .rfl)))) (admitAckC (user := 3) (key := pr25 9) (last := y.seq) (KsIn_of hk0 fun x hx => .tail _ (List.mem_append_right _ (.tail _ (.tail _ (hZ2 _ (hZR _ hx)))))) (pr25_len 9) (by decide) (by omega) (by omega) (by omega) hBsg (.tail _ (List.mem_append_right _ (.tail _ (.tail _ hgZ)))) (hgv.mono fun x hx => .tail _ (List.mem_append_right _ (.tail _ (.tail _ hx)))) (hiv.reads.mono fun x hx => .tail _ (List.mem_append_left _ hx)) (fun a m d hd => own_cap hiv hd) (by omega) hA2 ?_))))
 refine prs ?_
 refine DWp.evs 3 rfl ?_
 refine DWp.evs 1 rfl ?_
 refine Yd (show (L34, cel (mlc 4 (3 : Nat) (y.seq + 1 : Nat) [] (ackT (pr25 9) 3 (y.seq + 1) A) (.slice none 0 0) (.slice ia A.length ic)) 58) ∈ _ from .tail _ (.head _)) ?_
 refine DWp.evs 5 rfl ?_
 refine DWp.part 236 rfl (fun cc11 => ?_) (fun cc11 => absurd (of_decide_eq_false cc11) (by omega))
 have cc11 := of_decide_eq_true cc11
 refine DWp.evs 3 rfl ?_
 refine DWp.part 239 rfl (fun z0 => ?_) (fun z0 => ?_)
 ·have z0 := of_decide_eq_true z0
  refine DWp.evs 19 rfl ?_
  refine DWp.nil ?_
  refine Wp.ret ⟨trivial, _, ⟨_, _, rfl, rfl, rfl⟩, ?_⟩
  rfl
 have z0 := of_decide_eq_false z0
 have hA4 := hA3 (by omega)
 obtain ⟨y1, y2, y3, y4, rfl⟩ := slots4 h4
 have hlen : 0 < A.length := by
  cases A with
  | nil => simp at hA4
  | cons a r => exact Nat.succ_pos _
 have hA5 : A[0] = y1.1 := by
  rw [List.head?_eq_getElem?, List.getElem?_eq_getElem hlen] at hA4
  simpa using hA4
 have hA6 : A[0]? = some A[0] := by simp
 obtain ⟨bi, oi, ci, li, ei, fi, hvi, hmi, _, hgi⟩ := hiv.reads.get1 hlen
 obtain ⟨rfl, rfl⟩ : ia = some ⟨bi, oi, none⟩ ∧ ic = ci := by simpa using hvi
 refine DWp.evs 1 rfl ?_
 refine Yd (show (L34, cel (mlc 4 (3 : Nat) (y.seq + 1 : Nat) [] (ackT (pr25 9) 3 (y.seq + 1) A) (.slice none 0 0) (.slice (some ⟨bi, oi, none⟩) A.length ic)) 58) ∈ _ from .tail _ (.head _)) ?_
 refine DWp.evs 3 rfl ?_
 refine DWp.part 244 rfl (fun cc12 => ?_) (fun cc12 => absurd (of_decide_eq_false cc12) (by omega))
 have cc12 := of_decide_eq_true cc12
 refine DWp.evs 1 rfl ?_
 refine Yd (show (L34, cel (mlc 4 (3 : Nat) (y.seq + 1 : Nat) [] (ackT (pr25 9) 3 (y.seq + 1) A) (.slice none 0 0) (.slice (some ⟨bi, oi, none⟩) A.length ic)) 58) ∈ _ from .tail _ (.head _)) ?_
 refine DWp.g rfl rfl rfl rfl (Gives.indexAddrSlice (0) rfl rfl rfl rfl rfl rfl (by omega)) ?_
 refine DWp.load (show (bi, cel li ei fi) ∈ _ from .tail _ (.tail _ (List.mem_append_left _ hmi))) rfl rfl rfl rfl rfl rfl ((hgi 0 hlen).trans (by rw [strs, List.getElem?_map, hA6]; rfl)) ?_
 refine DWp.evs 1 rfl ?_
 refine Yd (show m18 L18 L112 3 y.seq ∈ _ from .tail _ (.tail _ (List.mem_append_right _ (.head _)))) ?_
 refine DWp.g rfl rfl rfl rfl (Gives.indexAddrSlice (0) rfl rfl rfl rfl rfl rfl (by omega)) ?_
 refine DWp.evs 1 rfl ?_
 refine Yd (show (L112, cel ([y1, y2, y3, y4].flatMap slc) 64) ∈ _ from .tail _ (.tail _ (List.mem_append_right _ (.tail _ (.head _))))) ?_
 refine DWp.evs 5 rfl ?_
 refine DWp.nil ?_
 refine Wp.ret ⟨trivial, _, ⟨_, _, rfl, rfl, rfl⟩, ?_⟩
 exact congrArg Value.bool (decide_eq_true hA5)
end
end Go.Proofs.D

/- The tables that the rows list: what they give to a walk, and a world in which they lie. -/
namespace Go.Proofs.D
open Go.Lg Go.Sha
set_option maxRecDepth 100000

def Laid : List (String × DataW Unit) := [("unicode/utf8.acceptRanges", YtlfhhkdjahcglaaGreatDoor.Rows.laid_unicode_utf8_acceptRanges), ("dovecote/hash.ks", YtlfhhkdjahcglaaGreatDoor.Rows.laid_dovecote_hash_ks), ("unicode/utf8.first", YtlfhhkdjahcglaaGreatDoor.Rows.laid_unicode_utf8_first)]
def Laid1 : List (String × DataW Unit) := [("dovecote/hash.ks", YtlfhhkdjahcglaaGreatDoor.Rows.laid_dovecote_hash_ks)]
def ksZ : List Int := ks.map fun (n : Nat) => (n : Int)
theorem ks_is : (YtlfhhkdjahcglaaGreatDoor.Rows.laid_dovecote_hash_ks : DataW Unit) = Lib.tabData .u32 ksZ := by rfl
theorem ksZ_get (i : Nat) (h : i < 64) : ksZ.getD i 0 = ((ks.getD i 0 : Nat) : Int) := by
 have hl : i < ks.length := h
 unfold ksZ
 rw [List.getD_eq_getElem?_getD, List.getElem?_map, List.getD_eq_getElem?_getD, List.getElem?_eq_getElem hl]
 rfl
theorem ks_at {W : World} {r : List (String × DataW Unit)} (h : laidMet Tryz.prog (("dovecote/hash.ks", YtlfhhkdjahcglaaGreatDoor.Rows.laid_dovecote_hash_ks) :: r) W) : KsIn (All W) := by
 rw [ks_is] at h
 have ht := Lib.tabIs_of_head (g := 0) (n := 64) (by kernel_rfl) (t := 308) (by kernel_rfl) Tryz.underlying308 Tryz.underlying267 (by kernel_rfl) (by kernel_rfl) h
 have hc : ∀ i, i < 64 → W.cell? ⟨0, i, none⟩ = some (.int .u32 (ks.getD i 0 : Nat)) := by
  intro i hi
  have := ht.cell (g := 0) (by kernel_rfl) i (by rw [show ksZ.length = 64 from rfl]; exact hi)
  rw [ksZ_get i hi] at this
  exact this
 have h0 := hc 0 (by decide)
 have : ∃ l e fz, W.heap[0]? = some (.cells l e fz) := by
  unfold World.cell? at h0
  split at h0
  ·rename_i c0 e0 f0 hb; exact ⟨c0, e0, f0, hb⟩
  ·simp at h0
 obtain ⟨l, e, fz, hl⟩ := this
 refine ⟨l.toList, e, fz, All.mem hl, fun i hi => ?_⟩
 have := hc i hi
 unfold World.cell? at this
 simp only [hl] at this
 simpa using this
theorem of_laid1 {W : World} (h : laidMetH Tryz.prog Laid1 W) : KsIn (All W) := by
 rw [MakeChecks.laidMetH_plain _ _ _ (by kernel_rfl)] at h
 exact ks_at h
noncomputable def laidWorld (os : Os) : World :=
 let w0 := World.doorLaid Tryz.prog 24 os
 { w0 with heap := w0.heap.modify 2 fun
   | .cells _ t frozen => .cells (Go.Pinned.utf8FirstZ.map fun (n : Nat) => Value.int .u8 (n : Int)).toArray t frozen
   | o => o }
theorem laid_met1 (os : Os) (args : Array Value) : laidMetH Tryz.prog Laid1 ((laidWorld os).forCall (fun _ _ => 0) ⟨#[], args, []⟩).memory :=
 laidMetH_of_parts3 (fuel := 8) (laidMet_of_run' 8 (by kernel_rfl) (by kernel_rfl)) (by kernel_rfl) (by kernel_rfl)
theorem laid_shaped (os : Os) (args : Array Value) : ((laidWorld os).forCall (fun _ _ => 0) ⟨#[], args, []⟩).Shaped Tryz.prog :=
 World.shaped_of_RefB (by kernel_rfl) (by kernel_rfl)
end Go.Proofs.D
