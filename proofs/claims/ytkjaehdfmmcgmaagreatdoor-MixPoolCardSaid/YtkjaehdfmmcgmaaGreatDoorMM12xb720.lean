/- What functions of the given program do, one after the other, told by that layer. -/
import Derived.Test.YtkjaehdfmmcgmaaGreatDoorMMix4
import Derived.Test.YtkjaehdfmmcgmaaGreatDoorEMapP
import Derived.Test.YtkjaehdfmmcgmaaGreatDoorMM9xc501
import Derived.Test.YtkjaehdfmmcgmaaGreatDoorEM3x2952
/- A mix: the time goes on. -/
namespace Go.Proofs.D
open Go.Lg Go.Sha Go.Hd Go.Cv Go.Mx
open Go.Proofs.C (Hop)
open Go.Whl (T told left srt srt_perm)
open Go.Proofs.E (Wh putW nowW newW advW zi zi_get)
set_option maxRecDepth 100000
def Nst.ticked (x : Nst) (to : Nat) : Nst := { x with M := left x.M to, now := to, L := (told x.M to).foldl (fun L k => delL k L) x.L }
theorem told_split (M : List T) (to : Nat) : (M.map (·.id)).Perm (told M to ++ (left M to).map (·.id)) := by
  unfold told left
  have h1 : ((srt M).filter fun t => decide (t.due ≤ to)).Perm (M.filter fun t => decide (t.due ≤ to)) := (srt_perm M).filter _
  have h2 := (List.filter_append_perm (fun t : T => decide (t.due ≤ to)) M).symm
  have e : (fun t : T => !decide (t.due ≤ to)) = fun t => decide (to < t.due) := by
    funext t
    by_cases h : t.due ≤ to
    · simp [h, Nat.not_lt.2 h]
    · simp [h, Nat.lt_of_not_le h]
  rw [e] at h2
  have h3 := h2.map (·.id)
  rw [List.map_append] at h3
  exact h3.trans ((h1.map (·.id)).symm.append_right _)
theorem NOk.keys2 {x : Nst} (h : NOk x) (to : Nat) : (x.L.map (·.1)).Perm (told x.M to ++ (left x.M to).map (·.id)) := h.keys.trans (told_split x.M to)
theorem NOk.ticked {x : Nst} {to : Nat} (h : NOk x) (ht : to ≤ 100000) : NOk (x.ticked to) := by
  have hk := dels_keys _ x.L _ (h.keys2 to)
  have hs := dels_sub (told x.M to) x.L
  refine ⟨hk, ?_, fun k hk2 => ?_, fun y hy => h.vals y (hs.subset hy), Nat.le_trans hs.length_le h.len, h.pt, ht, h.cnt⟩
  · exact (h.nd.sublist (hs.map _))
  · exact h.low k ((hs.map (fun y : MEnt => y.1)).subset hk2)
def outc (p : List UInt8) : List Value := [.int .i64 7, .string (str p)]
section
variable {B : Nat} {S R : Ents} {Q : Value → Ents → Prop} {pm pn ps pw pool mp pd pr size total n w : Nat} {tags : List (List UInt8)} {x : Nst} {W Ww : Ents}
set_option maxHeartbeats 4000000 in
theorem mtickC {to : Nat} (h : NdIn B pn pd pr size total pool tags x n W) (h1 : x.now ≤ to) (h2 : to ≤ 100000)
    (H : ∀ W' ov oes (ps : List (List UInt8)), NdIn B pn pd pr size total pool tags (x.ticked to) n W' → Lg.Own B 82 2 ov ps.length (ps.flatMap outc) oes → ps.length = (told x.M to).length → (∀ p ∈ ps, p.length = 504) → Q (.tuple #[ov, .int .i64 0]) (W' ++ (oes ++ S))) :
    CallWp Tryz.prog B 16 #[pt pn, .int .i64 (to : Int)] Q (W ++ S) := by
  obtain ⟨g1, g2, ps, pw, mp, Ws, Ww, g3, g4, g5, rfl⟩ := h
  have hpt := g2.pt
  have hk2 := g2.keys2 to
  have hlen : (told x.M to).length ≤ 100 := by
    have := hk2.length_eq
    rw [List.length_append, List.length_map] at this
    have := g2.len
    omega
  rw [List.cons_append, List.cons_append, List.append_assoc]
  refine subRet ?_
  refine CallWp.enter (args := [_, _]) Tryz.func16 rfl Tryz.ntmps16 rfl ?_
  refine Wp.seq (Wp.region ?_)
  refine OWp.evs 2 rfl ?_
  refine OWp.nil ?_
  refine Wp.seq (Wp.region ?_)
  refine OWp.evs 4 rfl ?_
  refine OWp.load (.head _) rfl rfl rfl rfl rfl ?_
  refine OWp.evs 1 rfl ?_
  refine OWp.step rfl (Step.call rfl rfl rfl rfl rfl rfl ((CallWp.permS (show List.Perm (nde pn ps pw pool mp x :: (mp, mapS x.L x.bc) :: (Ws ++ (Ww ++ S))) (Ww ++ (nde pn ps pw pool mp x :: (mp, mapS x.L x.bc) :: (Ws ++ S))) from permBy [[nde pn ps pw pool mp x, (mp, mapS x.L x.bc)], Ws, Ww] S [0, 1, 2] [2, 0, 1] (by decide)) (advW rfl g5 (by omega) h1 (by omega) ?_))))
  intro Ww2 tv oe hw2 htv
  obtain ⟨tl, htl⟩ : ∃ z, z = told x.M to := ⟨_, rfl⟩
  rw [← htl] at htv hk2 hlen
  obtain ⟨ta, tc, rfl⟩ := htv.reads.form
  refine OWp.evs 5 rfl ?_
  refine OWp.nil ?_
  show Wp _ _ _ _ _ _ _
  refine Wp.permS (show List.Perm (Ww2 ++ (oe ++ (nde pn ps pw pool mp x :: (mp, mapS x.L x.bc) :: (Ws ++ S)))) (nde pn ps pw pool mp x :: (mp, mapS x.L x.bc) :: (oe ++ (Ws ++ (Ww2 ++ S)))) from permBy [Ww2, oe, [nde pn ps pw pool mp x, (mp, mapS x.L x.bc)], Ws] S [0, 1, 2, 3] [2, 1, 3, 0] (by decide)) ?_
  refine Wp.seq (Wp.region ?_)
  refine OWp.evs 1 rfl ?_
  refine OWp.nil ?_
  refine Wp.seq ?_
  refine Wp.seq (Wp.region ?_)
  refine OWp.evs 3 rfl ?_
  refine OWp.nil ?_
  refine Wp.block ?_
  refine Wp.loopS (α := Nat × List MEnt × Value × List (List UInt8) × Ents) (fun z => tl.length - z.1) (fun z => [(0, pt pn), (7, .int .i64 0), (8, z.2.2.1), (21, .slice ta tl.length tc), (22, .int .i64 (tl.length : Int)), (23, .int .i64 (z.1 : Int))]) (fun z => nde pn ps pw pool mp x :: (mp, mapS z.2.1 x.bc) :: (z.2.2.2.2 ++ (oe ++ (Ws ++ (Ww2 ++ S))))) (fun z => z.1 ≤ tl.length ∧ z.2.1 = (tl.take z.1).foldl (fun L k => delL k L) x.L ∧ z.2.2.2.1.length = z.1 ∧ (∀ p ∈ z.2.2.2.1, p.length = 504) ∧ Lg.Own B 82 2 z.2.2.1 z.2.2.2.1.length (z.2.2.2.1.flatMap outc) z.2.2.2.2) (0, x.L, .slice none 0 0, [], []) ?_ (.refl _) ⟨Nat.zero_le _, rfl, rfl, (fun _ h => nomatch h), Own.nil _ _ _⟩ ?_
  · exact .cons rfl (.cons rfl (.cons rfl (.cons rfl (.cons rfl (.cons rfl (.nil _))))))
  rintro ⟨i, L, ov, pk, oes⟩ ⟨hi, hL, hpi, hp5, hov⟩
  simp only at hi hL hpi hp5 hov ⊢
  refine Wp.seq (Wp.region ?_)
  refine OWp.evs 1 rfl ?_
  refine OWp.nil ?_
  refine Wp.seq ?_
  refine Wp.cond rfl (fun c1 => ?_) (fun c1 => ?_)
  · have c1 := of_decide_eq_true c1
    have hlt : i < tl.length := by omega
    obtain ⟨b1, o1, cc1', l1, e1, f1, hv1, hm1, _, hg1⟩ := htv.reads.get1 (by omega)
    obtain ⟨rfl, rfl⟩ : ta = some ⟨b1, o1, none⟩ ∧ tc = cc1' := by simpa using hv1
    have hk3 : (L.map (·.1)).Perm (tl.drop i ++ (left x.M to).map (·.id)) := by
      rw [hL]
      refine dels_keys _ x.L _ ?_
      rw [← List.append_assoc, List.take_append_drop]
      exact hk2
    have hin : tl[i] ∈ L.map (·.1) := by
      refine hk3.symm.subset (List.mem_append_left _ ?_)
      rw [List.drop_eq_getElem_cons hlt]
      exact .head _
    obtain ⟨r, hr1, y, hy, hr2⟩ := find_in tl[i] L 0 hin
    obtain ⟨p, hp, hpv⟩ := g2.vals y ((by rw [hL] at hy; exact (dels_sub _ _).subset hy))
    obtain ⟨va, vc, rfl⟩ := hov.reads.form
    refine Wp.skip ?_
    refine Wp.seq ?_
    refine Wp.block ?_
    refine Wp.seq (Wp.region ?_)
    refine OWp.g rfl rfl (Gives.indexAddrSlice (i) rfl rfl rfl rfl rfl rfl (by omega)) ?_
    refine OWp.load (.tail _ (.tail _ (List.mem_append_right _ (List.mem_append_left _ hm1)))) rfl rfl rfl rfl ((hg1 i hlt).trans (zi_get (List.getElem?_eq_getElem hlt))) ?_
    refine OWp.evs 1 rfl ?_
    refine OWp.nil ?_
    refine Wp.seq (Wp.region ?_)
    refine OWp.evs 4 rfl ?_
    refine OWp.load (.head _) rfl rfl rfl rfl rfl ?_
    refine OWp.evs 1 rfl ?_
    refine OWp.gives rfl rfl (Gives.lookupS (L := L) (c := x.bc) (k := tl[i]) rfl rfl rfl rfl rfl rfl rfl) (fun y hy => by rw [List.mem_singleton.1 hy]; exact .tail _ (.head _)) ?_
    rw [hr1]
    simp only
    rw [hr2, hpv]
    refine OWp.step rfl (Step.buildSlice rfl rfl rfl ?_); intro Lp1 hBLp1 hLLp1
    refine OWp.step rfl (Step.appendAt [_, _, _] rfl rfl rfl rfl rfl rfl (by decide) rfl rfl hov (Reads.row (k := 1) (sz := 2) (.head _) (Nat.le_of_ble_eq_true rfl)) rfl (by show (_ + 1) * 24 ≤ _; omega) (by unfold maxLen; omega) ?_); intro v2 es2 ho2 _
    refine OWp.dropAt 0 rfl ?_
    obtain ⟨wa, wc, hv⟩ := ho2.reads.form
    subst hv
    refine OWp.evs 1 rfl ?_
    refine OWp.nil ?_
    refine Wp.region ?_
    refine OWp.evs 3 rfl ?_
    refine OWp.load (.head _) rfl rfl rfl rfl rfl ?_
    refine OWp.evs 1 rfl ?_
    refine OWp.step rfl (Step.mapDel (k := tl[i]) (L := L) (c := x.bc) (b := mp) 1 rfl rfl rfl rfl rfl rfl rfl g3 rfl ?_)
    refine OWp.nil ?_
    refine Wp.region ?_
    refine OWp.evs 2 rfl ?_
    refine OWp.nil ?_
    refine ⟨(i + 1, delL tl[i] L, .slice wa (pk.length + 1) wc, pk ++ [p], es2), by simp only; omega, ⟨by simp only; omega, ?_, ?_, ?_, ?_⟩, .cons rfl (.cons rfl (.cons rfl (.cons rfl (.cons rfl (.cons' rfl (int_eq (i64_inc (by omega))) (.nil _)))))), .refl _⟩
    · simp only
      rw [List.take_succ_eq_append_getElem hlt, List.foldl_append, ← hL]
      rfl
    · simp only [List.length_append, List.length_singleton]
      omega
    · simp only
      intro q hq
      rcases List.mem_append.1 hq with hq | hq
      · exact hp5 q hq
      · rw [List.mem_singleton.1 hq]; exact hp
    · simp only
      rw [List.length_append, List.flatMap_append]
      exact ho2
  have c1 := of_decide_eq_false c1
  obtain rfl : i = tl.length := by omega
  rw [List.take_length] at hL
  refine Wp.exit ?_
  refine Wp.seq (Wp.region ?_)
  refine OWp.evs 4 rfl ?_
  refine OWp.nil ?_
  refine Wp.ret ⟨trivial, _, ⟨_, _, rfl, rfl, _, _, rfl, rfl, rfl⟩, ?_⟩
  have hh := H (nde pn ps pw pool mp (x.ticked to) :: (mp, mapS (x.ticked to).L (x.ticked to).bc) :: (Ws ++ Ww2)) ov oes pk ⟨g1, g2.ticked h2, ps, pw, mp, Ws, Ww2, g3, g4, hw2, rfl⟩ hov (by rw [← htl]; exact hpi) hp5
  rw [List.cons_append, List.cons_append, List.append_assoc] at hh
  have hLe : (x.ticked to).L = L := by rw [hL, htl]; rfl
  rw [hLe] at hh
  exact ⟨_, _, permBy [[nde pn ps pw pool mp x, (mp, mapS L x.bc)], oes, oe, Ws, Ww2] S [0, 1, 2, 3, 4] [0, 3, 4, 1, 2] (by decide), .cons_cons _ (.cons_cons _ ((List.Sublist.refl Ws).append ((List.Sublist.refl Ww2).append ((List.Sublist.refl oes).append (List.sublist_append_right oe S))))), hh⟩
end
end Go.Proofs.D

/- A header that is made is peeled hop by hop: what the functions reckon, without the program. -/
namespace Go.Proofs.D
open Go.Lg Go.Sha Go.Hd Go.Cv
open Go.Proofs.C (Hop hopP hopB parse pathE encB)
set_option maxRecDepth 100000
attribute [local irreducible] derive hmac stream x25519 clampN ladx le32
theorem decF_enc {h : Hop} (hp : hopP h) : decF (encB h) = (h, 0) := by
 unfold encB decF
 rw [if_pos hp, C.parse_hopB hp true, if_pos ⟨hp, rfl⟩]
/-- One hop. -/
theorem peel_stage {pad g priv : List UInt8} {by_ : List (List UInt8)} {h : Hop} {path : List Hop} {ks : List HK} (hpad : pad.length = 200) (hpriv : priv.length = 32) (hh : hopP h) (hpath : ∀ x ∈ path, hopP x) (hks : ks.length = path.length) (hg : g.length + 40 * (path.length + 1) ≤ 200) (hkind : h.kind = 1 ↔ path ≠ []) {k : HK} (hk : k = keysOf (xs (x25519 priv base9) by_)) :
  peelR priv (stg pad (fillGo g (k :: ks).dropLast) by_ ((encB h, k) :: (path.map encB).zip ks)) = (h, (if path = [] then [] else stg pad (fillGo g (k :: ks).dropLast) (by_ ++ [k.blind]) ((path.map encB).zip ks)), k, 0) := by
 have hr : ∀ x ∈ (encB h, k) :: (path.map encB).zip ks, x.1.length = 24 := by
  intro x hx
  rcases List.mem_cons.1 hx with rfl | hx
  ·exact encB_good hh
  ·have := (List.of_mem_zip (show (x.1, x.2) ∈ _ from hx)).1
   obtain ⟨y, hy, he⟩ := List.mem_map.1 this
   rw [← he]
   exact encB_good (hpath y hy)
 have hfl : (fillGo g (k :: ks).dropLast).length ≤ 200 := by
  rw [fillGo_len _ _ (by rw [List.length_dropLast, List.length_cons, hks]; omega), List.length_dropLast, List.length_cons, hks]
  omega
 obtain ⟨p1, p2, p3, p4⟩ := stg_parts (by_ := by_) hpad hfl hr
 unfold peelR
 rw [if_neg (fun hx => hx ⟨hpriv, p1⟩), p2, shared_stage by_ hpriv, if_neg (by simp)]
 simp only
 rw [← hk, p3, p4, if_neg (by rw [listR_cons]; simp)]
 have hsnd : ((path.map encB).zip ks).map (·.2) = ks := List.map_snd_zip (by rw [List.length_map, hks]; exact Nat.le_refl _)
 cases path with
 | nil =>
  have : ks = [] := List.length_eq_zero_iff.1 hks
  subst this
  have hx := open_last hpad (encB h) k g (encB_good hh) (by simp at hg; omega)
  unfold openR
  simp only [List.map_nil, List.zip_nil_left, List.dropLast_singleton, fillGo]
  rw [hx, decF_enc hh, if_neg (by simp), if_pos (fun e => (hkind.1 e) rfl)]
  rfl
 | cons h2 path =>
  match ks, hks, hsnd with
  | [], hks, _ => simp at hks
  | k2 :: ks, hks, hsnd =>
   have hz : ((h2 :: path).map encB).zip (k2 :: ks) = (encB h2, k2) :: (path.map encB).zip ks := rfl
   have hx := open_on hpad (encB h) k (encB h2, k2) ((path.map encB).zip ks) g (by rw [← hz]; exact hr) (by rw [List.length_zip, List.length_map]; simp at hks hg; omega)
   have hmap : (((encB h, k) :: (encB h2, k2) :: (path.map encB).zip ks).map (·.2)) = k :: k2 :: ks := by rw [← hz, List.map_cons, hsnd]
   rw [hmap] at hx
   unfold openR
   rw [hz, hx]
   obtain ⟨l1, l2⟩ := listR_len hpad hfl ((encB h2, k2) :: (path.map encB).zip ks) (fun y hy => hr y (List.mem_cons_of_mem _ (by rw [hz]; exact hy)))
   obtain ⟨L, hL⟩ : ∃ L, L = listR pad (fillGo g (k :: k2 :: ks).dropLast) ((encB h2, k2) :: (path.map encB).zip ks) := ⟨_, rfl⟩
   rw [← hL] at l1 l2 ⊢
   have hl := encB_good hh
   have e1 : (encB h ++ L.1 ++ L.2).take 24 = encB h := by
    rw [List.append_assoc, List.take_append_of_le_length (by omega), List.take_of_length_le (by omega)]
   have e2 : (encB h ++ L.1 ++ L.2).drop 24 = L.1 ++ L.2 := by
    rw [List.append_assoc, List.drop_append, List.drop_of_length_le (by omega), List.nil_append, hl]
    rfl
   have hk1 : h.kind = 1 := hkind.2 (by simp)
   have hb32 : k.blind.length = 32 := by rw [hk]; exact blind_len _
   simp only
   rw [e1, e2, decF_enc hh, if_neg (by simp), if_neg (fun e => e hk1), timesR_eq hb32 (onB_9.xs by_).1, ← xs_snoc, if_neg (by simp), ← List.append_assoc]
   unfold stg
   rw [← hL]
/-- The header that the hop of that number sees; behind the last one nothing. -/
def hd (pad fill : List UInt8) : List (List UInt8) → List Hop → List HK → Nat → List UInt8
 | by_, h :: path, k :: ks, 0 => stg pad fill by_ ((encB h, k) :: (path.map encB).zip ks)
 | by_, _ :: path, k :: ks, i + 1 => hd pad fill (by_ ++ [k.blind]) path ks i
 | _, _, _, _ => []
theorem hd_len {pad fill : List UInt8} (hpad : pad.length = 200) (hf : fill.length ≤ 200) : ∀ (path : List Hop) (ks : List HK) (by_ : List (List UInt8)) (i : Nat), (∀ x ∈ path, hopP x) → ks.length = path.length → i < path.length → (hd pad fill by_ path ks i).length = 248
 | [], _, _, _, _, _, h => absurd h (by simp)
 | h :: path, [], _, _, _, h2, _ => by simp at h2
 | h :: path, k :: ks, by_, 0, hp, _, _ => by
  refine (stg_parts hpad hf ?_).1
  intro x hx
  rcases List.mem_cons.1 hx with rfl | hx
  ·exact encB_good (hp h (List.mem_cons_self ..))
  ·have := (List.of_mem_zip (show (x.1, x.2) ∈ _ from hx)).1
   obtain ⟨y, hy, he⟩ := List.mem_map.1 this
   rw [← he]
   exact encB_good (hp y (List.mem_cons_of_mem _ hy))
 | _ :: path, k :: ks, by_, i + 1, hp, h2, h3 => hd_len hpad hf path ks (by_ ++ [k.blind]) i (fun x hx => hp x (List.mem_cons_of_mem _ hx)) (by simpa using h2) (by simpa using h3)
theorem hd_peel {pad : List UInt8} (hpad : pad.length = 200) : ∀ (path : List Hop) (privs : List (List UInt8)) (by_ : List (List UInt8)) (g : List UInt8) (i : Nat), (∀ x ∈ path, hopP x) → C.shape path → privs.length = path.length → (∀ p ∈ privs, p.length = 32) → g.length + 40 * path.length ≤ 200 → i < path.length →
  peelR (privs.getD i []) (hd pad (fillGo g ((secs by_ (privs.map fun p => x25519 p base9)).map keysOf).dropLast) by_ path ((secs by_ (privs.map fun p => x25519 p base9)).map keysOf) i) = (path.getD i Hop.zero, hd pad (fillGo g ((secs by_ (privs.map fun p => x25519 p base9)).map keysOf).dropLast) by_ path ((secs by_ (privs.map fun p => x25519 p base9)).map keysOf) (i + 1), ((secs by_ (privs.map fun p => x25519 p base9)).map keysOf).getD i HK.zero, 0)
 | [], _, _, _, _, _, _, _, _, _, h => absurd h (by simp)
 | h :: path, [], _, _, _, _, _, h2, _, _, _ => by simp at h2
 | h :: path, p :: privs, by_, g, i, hp, hs, hl, h32, hg, hi => by
  simp only [List.length_cons] at hl hg hi
  have hlen : ((secs (by_ ++ [(keysOf (xs (x25519 p base9) by_)).blind]) (privs.map fun p => x25519 p base9)).map keysOf).length = path.length := by
   rw [List.length_map, secs_len, List.length_map]; omega
  rw [List.map_cons, secs, List.map_cons]
  generalize hk : keysOf (xs (x25519 p base9) by_) = k at *
  cases i with
  | zero =>
   have := peel_stage (by_ := by_) (g := g) hpad (h32 p (List.mem_cons_self ..)) (hp h (List.mem_cons_self ..)) (fun x hx => hp x (List.mem_cons_of_mem _ hx)) hlen (by omega) (by
    cases path with
    | nil => simp only [C.shape] at hs; simp [hs]
    | cons y r => simp only [C.shape] at hs; simp [hs.1]) hk.symm
   rw [List.getD_cons_zero, List.getD_cons_zero, List.getD_cons_zero]
   rw [hd, this]
   congr 2
   cases path with
   | nil => simp [hd]
   | cons y r =>
    generalize ((secs (by_ ++ [k.blind]) (privs.map fun p => x25519 p base9)).map keysOf) = ks at *
    cases ks with
    | nil => simp at hlen
    | cons k2 ks => rw [if_neg (by simp)]; rfl
  | succ i =>
   have hne : path ≠ [] := fun e => by subst e; simp at hi
   have hs2 : C.shape path := by
    cases path with
    | nil => exact absurd rfl hne
    | cons y r => exact hs.2
   have hgl : (flowX k (g ++ List.replicate 40 0) (240 - (g.length + 40))).length = g.length + 40 := by
    rw [flowX_len _ (by simp; omega)]; simp
   have ih := hd_peel hpad path privs (by_ ++ [k.blind]) (flowX k (g ++ List.replicate 40 0) (240 - (g.length + 40))) i (fun x hx => hp x (List.mem_cons_of_mem _ hx)) hs2 (by omega) (fun x hx => h32 x (List.mem_cons_of_mem _ hx)) (by rw [hgl]; omega) (by omega)
   have hf : fillGo (flowX k (g ++ List.replicate 40 0) (240 - (g.length + 40))) ((secs (by_ ++ [k.blind]) (privs.map fun p => x25519 p base9)).map keysOf).dropLast = fillGo g (k :: (secs (by_ ++ [k.blind]) (privs.map fun p => x25519 p base9)).map keysOf).dropLast := by
    generalize ((secs (by_ ++ [k.blind]) (privs.map fun p => x25519 p base9)).map keysOf) = ks at *
    cases ks with
    | nil => exact absurd (List.length_eq_zero_iff.1 (by rw [← hlen]; rfl)) hne
    | cons k2 ks => rfl
   rw [hf] at ih
   rw [List.getD_cons_succ, List.getD_cons_succ, List.getD_cons_succ, hd, hd]
   exact ih
end Go.Proofs.D
