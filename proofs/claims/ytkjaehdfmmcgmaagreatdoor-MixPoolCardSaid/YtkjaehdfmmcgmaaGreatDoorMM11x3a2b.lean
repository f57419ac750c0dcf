/- What functions of the given program do, one after the other, told by that layer. -/
import Derived.Test.YtkjaehdfmmcgmaaGreatDoorMM9xc501
import Derived.Test.YtkjaehdfmmcgmaaGreatDoorMM10x910d
import Derived.Test.YtkjaehdfmmcgmaaGreatDoorEM3x2952
import Derived.Test.YtkjaehdfmmcgmaaGreatDoorMM6x6d58
import Derived.Test.YtkjaehdfmmcgmaaGreatDoorMM7xc154
namespace Go.Proofs.D
open Go.Lg Go.Sha Go.Hd Go.Cv
open Go.Proofs.C (Hop hopP hopB parse pathE encB)
set_option maxRecDepth 100000
/-- The payload: the text for the last hop, shut for all hops from one on. -/
def bodyR (text : List UInt8) : List HK → List UInt8
 | [] => wplain text 256
 | k :: ks => wshut k.body (bodyR text ks)
/-- A packet, or why there is none. -/
def packR (seed : List UInt8) (ps : List (List UInt8)) (text : List UInt8) (path : List Hop) : List UInt8 × Int :=
 if (makeR seed ps path).2.2 ≠ 0 then ([], (makeR seed ps path).2.2)
 else if 222 < text.length then ([], 2)
 else ((makeR seed ps path).1 ++ bodyR text (makeR seed ps path).2.1, 0)
theorem bodyR_len {text : List UInt8} (h : text.length ≤ 222) : ∀ ks : List HK, (bodyR text ks).length = 256
 | [] => wplain_len (by omega)
 | k :: ks => by
  have ih := bodyR_len h ks
  rw [bodyR, wshut_len _ (by omega), ih]
theorem wrapR_256 {key text : List UInt8} (h : text.length ≤ 222) : wrapR key text 256 = (wshut key (wplain text 256), 0) := by
 unfold wrapR
 rw [if_neg (by decide), if_neg (by omega)]
 rfl
theorem blockR_ok' {f : List UInt8 → List UInt8} {b : List UInt8} (h : b.length = 256) : blockR f b = (f b, 0) := by
 unfold blockR
 rw [if_neg (by omega), if_neg (by omega)]
theorem body_drop {text : List UInt8} {ks : List HK} {i : Nat} (h : i < ks.length) : bodyR text (ks.drop i) = wshut ks[i].body (bodyR text (ks.drop (i + 1))) := by
 rw [List.drop_eq_getElem_cons h, bodyR]
theorem keys_len {seed : List UInt8} {ps : List (List UInt8)} {path : List Hop} (h : (makeR seed ps path).2.2 = 0) : (makeR seed ps path).2.1.length = path.length ∧ pathE path = 0 ∧ (makeR seed ps path).1.length = 248 ∧ ∀ k ∈ (makeR seed ps path).2.1, k.body.length = 32 := by
 unfold makeR at h ⊢
 split at h
 ·rename_i h1; exact absurd h h1
 ·rename_i h1
  split at h
  ·cases h
  ·rename_i h2
   split at h
   ·cases h
   ·rename_i h3
    split at h
    ·rename_i h4; exact absurd (Int.ofNat.inj h) h4
    ·rename_i h4
     rw [if_neg h1, if_neg h2, if_neg h3, if_neg h4]
     simp only
     obtain ⟨hl, h32⟩ := hopsGo_len _ _ (show (hopsGo [seed] ps).2 = 0 by simpa using h4)
     have h2' : ps.length = path.length := by simpa using h2
     have h1' : pathE path = 0 := by simpa using h1
     obtain ⟨hgood, hpos, hmost⟩ := pathE_ok h1'
     have hs : seed.length = 32 := by
      have := Classical.not_not.1 h3
      exact this seed (List.mem_cons_self ..)
     refine ⟨by rw [List.length_map, hl, h2'], h1', ?_, fun k hk => ?_⟩
     ·have hf : (fillGo [] ((hopsGo [seed] ps).1.map keysOf).dropLast).length ≤ 200 := by
       rw [fillGo_len _ _ (by rw [List.length_dropLast, List.length_map, hl]; simp; omega), List.length_dropLast, List.length_map, hl]
       simp
       omega
      have hz : ∀ x ∈ (path.map encB).zip ((hopsGo [seed] ps).1.map keysOf), x.1.length = 24 := by
       intro x hx
       have := (List.of_mem_zip (show (x.1, x.2) ∈ _ from hx)).1
       obtain ⟨y, hy, he⟩ := List.mem_map.1 this
       rw [← he]
       exact encB_good (hgood y hy)
      obtain ⟨e1, e2⟩ := listR_len (pad := derive seed [112, 97, 100] 200) (derive_len _ _ _) hf _ hz
      have e3 : (publicR seed).1.length = 32 := by rw [publicR_eq hs]; exact len32 _
      unfold headR
      rw [List.length_append, List.length_append, e1, e2, e3]
     ·obtain ⟨s, _, rfl⟩ := List.mem_map.1 hk
      exact (keysOf_lens s).2.2.1
attribute [local irreducible] derive hmac stream chainR makeR wshut wopen wplain
section
variable {B : Nat} {S R : Ents} {Q : Value → Ents → Prop}
theorem keys_elem {S : Ents} {ks : List HK} {v : Value} (hr : Reads S 5 v ks.length (keysV ks)) (h0 : 0 < ks.length) : ∃ hb ho hcap hll ht hfz, v = .slice (some ⟨hb, ho, none⟩) ks.length hcap ∧ (hb, cel hll ht hfz) ∈ S ∧ ∀ i (h : i < ks.length), (hll.drop (ho + i * 5)).take 5 = (ks[i]).cells := by
 obtain ⟨hb, ho, hcap, hll, ht, hfz, hzv, hhm, hat⟩ := Reads.elem (sz := 5) (f := HK.cells) (xs := ks) hr (fun _ _ => rfl) h0
 exact ⟨hb, ho, hcap, hll, ht, hfz, hzv, hhm, hat⟩
theorem roomC (H : Q (.int .i64 222) S) : CallWp Tryz.prog B 42 #[] Q S := by
 refine Yx (args := []) Tryz.func42 Tryz.ntmps42 ?_
 refine Yn 1 rfl ?_
 refine Yn 1 rfl ?_
 refine Wp.ret ⟨trivial, _, ⟨_, _, rfl, rfl, rfl⟩, ?_⟩
 exact H
set_option maxHeartbeats 4000000 in
theorem packC {seed text : List UInt8} {ps : List (List UInt8)} {path : List Hop} {v w : Value} (hksI : KsIn S) (_ht : text.length + 5000 ≤ big) (hr : Reads S 1 v ps.length (strs ps)) (hl : ps.length ≤ 8796093022080) (hr2 : Reads S 5 w path.length (path.flatMap Hop.cells)) (hl2 : path.length ≤ 2932031007320) (H : Q (.tuple #[.string (str (packR seed ps text path).1), .int .i64 (packR seed ps text path).2]) S) : CallWp Tryz.prog B 26 #[.string (str seed), v, .string (str text), w] Q S := by
 obtain ⟨va, vc, rfl⟩ := hr.form
 obtain ⟨pa, pc, rfl⟩ := hr2.form
 refine CallWp.dropRet ?_
 refine Yx (args := [_, _, _, _]) Tryz.func26 Tryz.ntmps26 ?_
 refine Yq ?_
 by_cases h0 : (makeR seed ps path).2.2 ≠ 0
 ·skip
  refine Yz 2 rfl ?_
  refine Yg 3 rfl ?_
  refine Yc rfl rfl (makeC (ps := ps) (path := path) hksI hr (by omega) hr2 hl2 (fun _ => ?_) (fun h => absurd h h0))
  rw [show packR seed ps text path = ([], (makeR seed ps path).2.2) by unfold packR; rw [if_pos h0]] at H
  refine Yz 7 rfl ?_
  refine Wp.seq ?_
  refine Yn 2 rfl ?_
  refine Cw rfl (by omega) fun cc1 => ?_
  refine Yn 3 rfl ?_
  refine Wp.ret ⟨trivial, _, ⟨_, _, rfl, rfl, _, _, rfl, rfl, rfl⟩, ?_⟩
  exact ⟨S, .refl _, H⟩
 have h0' : (makeR seed ps path).2.2 = 0 := by omega
 refine Yz 2 rfl ?_
 refine Yg 3 rfl ?_
 refine Yc rfl rfl (makeC (ps := ps) (path := path) hksI hr (by omega) hr2 hl2 (fun h => absurd h0' h) ?_)
 intro _ z es how
 obtain ⟨hkl, hp0, hh248, hb32⟩ := keys_len h0'
 obtain ⟨hgood, hpos, hmost⟩ := pathE_ok hp0
 obtain ⟨hd, hhd⟩ : ∃ x, x = (makeR seed ps path).1 := ⟨_, rfl⟩
 obtain ⟨ks, hks⟩ : ∃ x, x = (makeR seed ps path).2.1 := ⟨_, rfl⟩
 have hP : packR seed ps text path = if 222 < text.length then ([], 2) else (hd ++ bodyR text ks, 0) := by unfold packR; rw [if_neg h0, hhd, hks]
 rw [hP] at H
 rw [← hks] at how hkl hb32
 rw [← hhd] at hh248
 rw [← hhd]
 refine Yz 7 rfl ?_
 refine Wp.seq ?_
 refine Yn 2 rfl ?_
 refine Cn rfl ?_
 refine Wp.skip ?_
 refine Wp.seq ?_
 refine Yg 2 rfl ?_
 refine Yc rfl rfl (roomC ?_)
 refine Yz 1 rfl ?_
 refine Wp.cond rfl (fun h1 => ?_) (fun h1 => ?_)
 ·have h1 := of_decide_eq_true h1
  rw [if_pos (by omega)] at H
  refine Yn 2 rfl ?_
  refine Wp.ret ⟨trivial, _, ⟨_, _, rfl, rfl, _, _, rfl, rfl, rfl⟩, ?_⟩
  exact ⟨S, List.sublist_append_right _ _, H⟩
 have h1 := of_decide_eq_false h1
 have ht2 : text.length ≤ 222 := by omega
 rw [if_neg (by omega)] at H
 have how1 : Reads es 5 z ks.length (keysV ks) := by rw [hkl]; exact how.reads
 obtain ⟨hb, ho, hcap, hll, htt, hfz, hzv, hhm, hat⟩ := keys_elem how1 (by omega)
 subst hzv
 obtain ⟨n, hn⟩ : ∃ n, ks.length = n + 1 := ⟨ks.length - 1, by omega⟩
 have w1 : IntKind.i64.wrap ((ks.length : Int) - 1) = (n : Int) := by rw [hn, i64_id] <;> omega
 refine Wp.skip ?_
 refine Yn 4 rfl ?_
 refine Yg 2 rfl ?_
 refine OWp.g rfl rfl (Gives.indexAddrSlice (n) rfl rfl rfl rfl rfl w1 (by omega)) ?_
 refine Ye 1 rfl ?_
 refine OWp.load (List.mem_append_left _ hhm) rfl rfl rfl rfl ((partAt_in (m := 2) (hat n (by omega)) rfl (by decide) (by decide)).trans rfl) ?_
 refine Ye 1 rfl ?_
 refine Yc rfl rfl (wwrapC hksI.append (by rw [hb32 _ (List.getElem_mem _)]; decide) ?_)
 rw [wrapR_256 ht2]
 have hlast : wshut (ks[n]'(by omega)).body (wplain text 256) = bodyR text (ks.drop n) := by rw [body_drop (by omega), List.drop_of_length_le (by omega)]; rfl
 rw [hlast]
 refine Yz 5 rfl ?_
 refine Wp.seq ?_
 refine Yn 2 rfl ?_
 refine Wp.block ?_
 refine Wp.loopS (α := Nat) (fun j => n - j) (fun j => [(10, .string (str hd)), (11, .slice (some ⟨hb, ho, none⟩) ks.length hcap), (13, .int .i64 (n : Int)), (14, .string (str (bodyR text (ks.drop (n - j))))), (45, .int .i64 (n : Int)), (46, .int .i64 (j : Int))]) (fun _ => es ++ S) (fun j => j ≤ n) 0 ?_ (.refl _) (Nat.zero_le _) ?_
 ·exact .cons rfl (.cons rfl (.cons' rfl (int_eq w1) (.cons rfl (.cons' rfl (int_eq w1) (.cons rfl (.nil _))))))
 rintro j hj
 refine Yn 1 rfl ?_
 refine Wp.seq ?_
 refine Wp.cond rfl (fun h7 => ?_) (fun h7 => ?_)
 ·have h7 := of_decide_eq_true h7
  have hj1 : j < n := by omega
  obtain ⟨i, hi⟩ : ∃ i, i = n - (j + 1) := ⟨_, rfl⟩
  have hi2 : n - j = i + 1 := by omega
  have w2 : IntKind.i64.wrap (IntKind.i64.wrap ((n : Int) - 1) - (j : Int)) = (i : Int) := by rw [i64_id (x := (n : Int) - 1) (by omega) (by omega), i64_id] <;> omega
  rw [hi2]
  refine Wp.skip ?_
  refine Wp.seq ?_
  refine Wp.block ?_
  refine Yn 2 rfl ?_
  refine Wp.region ?_
  refine Ye 5 rfl ?_
  refine OWp.g rfl rfl (Gives.indexAddrSlice (i) rfl rfl rfl rfl rfl w2 (by omega)) ?_
  refine Ye 1 rfl ?_
  refine OWp.load (List.mem_append_left _ hhm) rfl rfl rfl rfl ((partAt_in (m := 2) (hat i (by omega)) rfl (by decide) (by decide)).trans rfl) ?_
  refine Ye 1 rfl ?_
  refine Yc rfl rfl (wshutC hksI.append (by rw [hb32 _ (List.getElem_mem _)]; decide) ?_)
  rw [blockR_ok' (bodyR_len ht2 _), ← body_drop (by omega)]
  refine Yz 4 rfl ?_
  refine Wp.region ?_
  refine Yz 2 rfl ?_
  exact ⟨j + 1, by omega, by omega, .cons rfl (.cons rfl (.cons rfl (.cons' rfl (by rw [← hi]) (.cons rfl (.cons' rfl (int_eq (i64_inc (by omega))) (.nil _)))))), .refl _⟩
 have h7 := of_decide_eq_false h7
 obtain rfl : j = n := by omega
 rw [Nat.sub_self, List.drop_zero]
 refine Wp.exit ?_
 refine Yg 2 rfl ?_
 refine OWp.g rfl rfl (Gives.addStr rfl rfl rfl (by rw [hh248, bodyR_len ht2]; decide)) ?_
 refine Yz 2 rfl ?_
 refine Wp.ret ⟨trivial, _, ⟨_, _, rfl, rfl, _, _, rfl, rfl, rfl⟩, ?_⟩
 exact ⟨S, List.sublist_append_right _ _, H⟩
end
end Go.Proofs.D

namespace Go.Proofs.D
open Go.Lg Go.Sha Go.Hd Go.Cv
open Go.Proofs.C (Hop hopP hopB parse pathE encB)
set_option maxRecDepth 100000
/-- What a hop has of a packet. -/
structure Pd where
 hop : Hop
 packet : List UInt8
 tag : List UInt8
 text : List UInt8
def Pd.cells (p : Pd) : List Value := p.hop.cells ++ [.string (str p.packet), .string (str p.tag), .string (str p.text)]
def Pd.zero : Pd := ⟨Hop.zero, [], [], []⟩
/-- The cells of the code's hand. -/
def handC (h : Hop) (next : List UInt8) (k : HK) (body : List UInt8) : List Value := k.cells ++ (h.cells ++ [.string (str next), .string (str body)])
def lastR (h : Hop) (tag : List UInt8) : Option (List UInt8) → Pd × Int
 | none => (Pd.zero, 90)
 | some t => (⟨h, [], tag, t⟩, 0)
def pkPeelR (priv packet : List UInt8) : Pd × Int :=
 if packet.length ≠ 504 then (Pd.zero, 3)
 else if (peelR priv (packet.take 248)).2.2.2 ≠ 0 then (Pd.zero, (peelR priv (packet.take 248)).2.2.2)
 else if (peelR priv (packet.take 248)).1.kind = 1 then (⟨(peelR priv (packet.take 248)).1, (peelR priv (packet.take 248)).2.1 ++ wopen (peelR priv (packet.take 248)).2.2.1.body (packet.drop 248), (peelR priv (packet.take 248)).2.2.1.tag, []⟩, 0)
 else lastR (peelR priv (packet.take 248)).1 (peelR priv (packet.take 248)).2.2.1.tag (wtext (wopen (peelR priv (packet.take 248)).2.2.1.body (packet.drop 248)))
theorem peel_ok {priv header : List UInt8} (h : (peelR priv header).2.2.2 = 0) : (∃ s, (peelR priv header).2.2.1 = keysOf s) ∧ (peelR priv header).2.1.length ≤ 248 := by
 unfold peelR at h ⊢
 split at h
 ·cases h
 ·rename_i h1
  split at h
  ·rename_i h2; exact absurd (Int.ofNat.inj h) h2
  ·rename_i h2
   split at h
   ·cases h
   ·rename_i h3
    rw [if_neg h1, if_neg h2, if_neg h3]
    have h1 := Classical.not_not.1 h1
    unfold openR at h ⊢
    simp only at h ⊢
    split at h
    ·rename_i h4; exact absurd h h4
    ·rename_i h4
     rw [if_neg h4]
     split at h
     ·rename_i h5
      rw [if_pos h5]
      exact ⟨⟨_, rfl⟩, by simp⟩
     ·rename_i h5
      rw [if_neg h5]
      refine ⟨⟨_, rfl⟩, ?_⟩
      have hk := (keysOf_lens (sharedR priv (header.take 32)).1).2.2.2.1
      generalize keysOf (sharedR priv (header.take 32)).1 = k at *
      have hp32 : (header.take 32).length = 32 := by rw [List.length_take]; omega
      have e1 : (timesR k.blind (header.take 32)).1.length = 32 := by rw [timesR_eq hk hp32]; exact len32 _
      have hz : (header.drop 48 ++ List.replicate 40 0).length = 240 := by rw [List.length_append, List.length_drop, List.length_replicate]; omega
      have e2 : (flowX k (header.drop 48 ++ List.replicate 40 0) 0).length = 240 := by rw [flowX_len _ (by omega), hz]
      generalize (timesR k.blind (header.take 32)).1 = a at *
      generalize flowX k (header.drop 48 ++ List.replicate 40 0) 0 = b at *
      show (a ++ b.drop 24).length ≤ 248
      rw [List.length_append, List.length_drop]
      omega
theorem hand_kb (h : Hop) (next : List UInt8) (k : HK) (body : List UInt8) : Lg.partAt Tryz.prog 9 (handC h next k body) 2 = some (.string (str k.body)) := rfl
theorem hand_b (h : Hop) (next : List UInt8) (k : HK) (body : List UInt8) : Lg.partAt Tryz.prog 9 (handC h next k body) 11 = some (.string (str body)) := rfl
theorem hand_k (h : Hop) (next : List UInt8) (k : HK) (body : List UInt8) : Lg.partAt Tryz.prog 3 (handC h next k body) 5 = some (.int .i64 h.kind) := rfl
theorem hand_h (h : Hop) (next : List UInt8) (k : HK) (body : List UInt8) : Lg.partAt Tryz.prog 86 (handC h next k body) 5 = some (.agg h.cells.toArray) := rfl
theorem hand_n (h : Hop) (next : List UInt8) (k : HK) (body : List UInt8) : Lg.partAt Tryz.prog 9 (handC h next k body) 10 = some (.string (str next)) := rfl
theorem hand_t (h : Hop) (next : List UInt8) (k : HK) (body : List UInt8) : Lg.partAt Tryz.prog 9 (handC h next k body) 4 = some (.string (str k.tag)) := rfl
attribute [local irreducible] derive hmac stream chainR makeR peelR wshut wopen wplain wtext
section
variable {B : Nat} {S R : Ents} {Q : Value → Ents → Prop}
theorem handOpenC {L : Nat} {h : Hop} {next body : List UInt8} {k : HK} (hB : B ≤ L) (hks : KsIn R) (hk : k.body.length = 32) (hb : body.length = 256) (H : Q (.tuple #[]) ((L, cel (handC h next k (wopen k.body body)) 126) :: R)) : CallWp Tryz.prog B 36 #[.pointer (some ⟨L, 0, none⟩)] Q ((L, cel (handC h next k body) 126) :: R) := by
 refine Yx (args := [_]) Tryz.func36 Tryz.ntmps36 ?_
 refine Wp.regionDraw [0, 1, 2, 3, 4, 5, 6, 7, 8, 9, 10, 11, 12, 13, 14, 15, 16] [10, 16] rfl (by decide +kernel) ?_
 refine DWp.evs 5 rfl ?_
 refine DWp.load (.head _) rfl rfl rfl rfl rfl rfl (hand_kb h next k body) ?_
 refine DWp.evs 3 rfl ?_
 refine DWp.load (.head _) rfl rfl rfl rfl rfl rfl (hand_b h next k body) ?_
 refine DWp.stepGrow rfl rfl rfl (Step.call rfl rfl rfl rfl rfl rfl ((wopenC (key := k.body) (block := body) hks.cons (by rw [hk]; decide) ?_)))
 refine ⟨fun _ hy => hy, ?_⟩
 rw [blockR_ok' hb]
 refine DWp.evs 5 rfl ?_
 refine DWp.stepAll rfl rfl rfl rfl (Step.storeAs 0 (handC h next k (wopen k.body body)) rfl rfl rfl rfl rfl (by assumption) rfl (Unfz.zero _) rfl (Nat.le_of_ble_eq_true rfl) rfl rfl ?_)
 refine DWp.nil ?_
 refine ⟨trivial, [], rfl, ?_⟩
 exact H
set_option maxHeartbeats 4000000 in
theorem pkPeelC {priv packet : List UInt8} (hks : KsIn S) (H : Q (.tuple #[.agg (pkPeelR priv packet).1.cells.toArray, .int .i64 (pkPeelR priv packet).2]) S) : CallWp Tryz.prog B 23 #[.string (str priv), .string (str packet)] Q S := by
 refine CallWp.dropRet ?_
 refine Yx (args := [_, _]) Tryz.func23 Tryz.ntmps23 ?_
 refine Yq ?_
 refine Ya rfl rfl rfl rfl fun L4 hBL4 hLL4 => ?_
 refine Yz 1 rfl ?_
 refine Wp.seq ?_
 refine Yn 3 rfl ?_
 refine Wp.cond rfl (fun h1 => ?_) (fun h1 => ?_)
 ·have h1 := ndT h1
  rw [show pkPeelR priv packet = (Pd.zero, 3) by unfold pkPeelR; rw [if_pos (by omega)]] at H
  refine Yq ?_
  refine OWp.g rfl rfl (Gives.build rfl rfl) ?_
  refine OWp.step rfl (Step.storeAs 0 (Pd.zero.cells) rfl rfl rfl rfl rfl (by assumption) rfl (Unfz.zero _) rfl (Nat.le_of_ble_eq_true rfl) rfl rfl ?_)
  refine Yz 1 rfl ?_
  refine Wp.ret ⟨trivial, _, ⟨_, _, _, _, rfl, rfl, ⟨_, _, _, mems, (by first | assumption | rfl)⟩, ⟨_, _, rfl, rfl, rfl⟩⟩, ?_⟩
  exact ⟨S, subl, H⟩
 have h1 := ndF h1
 have hl : packet.length = 504 := by omega
 unfold pkPeelR at H
 rw [if_neg (by omega)] at H
 refine Wp.skip ?_
 refine Yg 1 rfl ?_
 refine OWp.g rfl rfl (Gives.sliceStr (l := 248) (h' := packet.length) rfl rfl rfl ⟨_, _, rfl, rfl⟩ rfl (by omega) (by omega)) ?_
 rw [show (packet.drop 248).take (packet.length - 248) = packet.drop 248 by rw [List.take_of_length_le (by rw [List.length_drop]; omega)]]
 have hb : (packet.drop 248).length = 256 := by rw [List.length_drop]; omega
 generalize packet.drop 248 = body at *
 refine OWp.g rfl rfl (Gives.build rfl rfl) ?_
 refine Ya rfl rfl rfl rfl fun L6 hBL6 hLL6 => ?_
 refine OWp.step rfl (Step.storeAs 0 (handC Hop.zero [] HK.zero body) rfl rfl rfl rfl rfl (by assumption) rfl (Unfz.zero _) rfl (Nat.le_of_ble_eq_true rfl) rfl rfl ?_)
 refine OWp.nil ?_
 refine Yn 1 rfl ?_
 refine Wp.seq ?_
 refine Yg 2 rfl ?_
 refine OWp.g rfl rfl (Gives.sliceStr (l := 0) (h' := 248) rfl rfl rfl rfl ⟨_, _, rfl, rfl⟩ (by decide) (by omega)) ?_
 rw [show (packet.drop 0).take (248 - 0) = packet.take 248 from rfl]
 refine Yc rfl rfl (peelC hks.cons.cons ?_)
 have hpk := peel_ok (priv := priv) (header := packet.take 248)
 generalize peelR priv (packet.take 248) = r at *
 obtain ⟨h, next, k, e⟩ := r
 simp only at H hpk ⊢
 refine Ye 6 rfl ?_
 refine OWp.step rfl (Step.storeAs 0 (handC h [] HK.zero body) rfl rfl rfl rfl rfl (by assumption) rfl (Unfz.zero _) rfl (Nat.le_of_ble_eq_true rfl) rfl rfl ?_)
 refine Ye 1 rfl ?_
 refine OWp.step rfl (Step.storeAs 0 (handC h next HK.zero body) rfl rfl rfl rfl rfl (by assumption) rfl (Unfz.zero _) rfl (Nat.le_of_ble_eq_true rfl) rfl rfl ?_)
 refine Ye 1 rfl ?_
 refine OWp.step rfl (Step.storeAs 0 (handC h next k body) rfl rfl rfl rfl rfl (by assumption) rfl (Unfz.zero _) rfl (Nat.le_of_ble_eq_true rfl) rfl rfl ?_)
 refine Yz 1 rfl ?_
 refine Yn 2 rfl ?_
 refine Wp.cond rfl (fun h2 => ?_) (fun h2 => ?_)
 ·have h2 := ndT h2
  rw [if_pos h2] at H
  refine Yq ?_
  refine OWp.g rfl rfl (Gives.build rfl rfl) ?_
  refine Ye 1 rfl ?_
  refine OWp.step rfl (Step.storeAs 1 (Pd.zero.cells) rfl rfl rfl rfl rfl (by assumption) rfl (Unfz.zero _) rfl (Nat.le_of_ble_eq_true rfl) rfl rfl ?_)
  refine Yz 1 rfl ?_
  refine Wp.ret ⟨trivial, _, ⟨_, _, _, _, rfl, rfl, ⟨_, _, _, mems, (by first | assumption | rfl)⟩, ⟨_, _, rfl, rfl, rfl⟩⟩, ?_⟩
  exact ⟨S, subl, H⟩
 have h2 := ndF h2
 have h2' : e = 0 := by omega
 rw [if_neg (fun h => h h2)] at H
 obtain ⟨⟨s, hs⟩, hnl⟩ := hpk h2'
 have hkb : k.body.length = 32 := by rw [hs]; exact (keysOf_lens s).2.2.1
 refine Wp.skip ?_
 refine Wp.seq ?_
 refine Yg 2 rfl ?_
 refine OWp.load (.head _) rfl rfl rfl rfl (hand_k h next k body) ?_
 refine Yz 1 rfl ?_
 refine Wp.cond rfl (fun h3 => ?_) (fun h3 => ?_)
 ·have h3 := of_decide_eq_true h3
  rw [if_pos h3] at H
  refine Yq ?_
  refine Yc rfl rfl (handOpenC hBL6 hks.cons hkb hb ?_)
  refine OWp.nil ?_
  refine Yg 1 rfl ?_
  refine OWp.load (.head _) rfl rfl rfl rfl (hand_h h next k (wopen k.body body)) ?_
  refine Ye 1 rfl ?_
  refine OWp.load (.head _) rfl rfl rfl rfl (hand_n h next k (wopen k.body body)) ?_
  refine Ye 1 rfl ?_
  refine OWp.load (.head _) rfl rfl rfl rfl (hand_b h next k (wopen k.body body)) ?_
  refine OWp.g rfl rfl (Gives.addStr rfl rfl rfl (by rw [wopen_len _ (by omega)]; omega)) ?_
  refine Ye 2 rfl ?_
  refine OWp.load (.head _) rfl rfl rfl rfl (hand_t h next k (wopen k.body body)) ?_
  refine OWp.g rfl rfl (Gives.build rfl rfl) ?_
  refine OWp.step rfl (Step.storeAs 1 ((Pd.cells ⟨h, next ++ wopen k.body body, k.tag, []⟩)) rfl rfl rfl rfl rfl (by assumption) rfl (Unfz.zero _) rfl (Nat.le_of_ble_eq_true rfl) rfl rfl ?_)
  refine Yz 1 rfl ?_
  refine Wp.ret ⟨trivial, _, ⟨_, _, _, _, rfl, rfl, ⟨_, _, _, mems, (by first | assumption | rfl)⟩, ⟨_, _, rfl, rfl, rfl⟩⟩, ?_⟩
  exact ⟨S, subl, H⟩
 have h3 := of_decide_eq_false h3
 rw [if_neg h3] at H
 refine Wp.skip ?_
 refine Yg 2 rfl ?_
 refine OWp.load (.head _) rfl rfl rfl rfl (hand_kb h next k body) ?_
 refine Ye 1 rfl ?_
 refine OWp.load (.head _) rfl rfl rfl rfl (hand_b h next k body) ?_
 refine Yc rfl rfl (wunwrapC (key := k.body) (b := body) hks.cons.cons (by rw [hkb]; decide) ?_)
 have hun : unwrapR k.body body = unwrapT (wtext (wopen k.body body)) := by unfold unwrapR; rw [if_neg (by omega), if_neg (by omega)]
 rw [hun]
 cases hw : wtext (wopen k.body body)
 ·skip
  rw [hw] at H
  simp only [unwrapT]
  refine Yz 5 rfl ?_
  refine Wp.seq ?_
  refine Yn 2 rfl ?_
  refine Cy rfl ?_
  refine Yq ?_
  refine OWp.g rfl rfl (Gives.build rfl rfl) ?_
  refine Ye 1 rfl ?_
  refine OWp.step rfl (Step.storeAs 1 (Pd.zero.cells) rfl rfl rfl rfl rfl (by assumption) rfl (Unfz.zero _) rfl (Nat.le_of_ble_eq_true rfl) rfl rfl ?_)
  refine Yz 1 rfl ?_
  refine Wp.ret ⟨trivial, _, ⟨_, _, _, _, rfl, rfl, ⟨_, _, _, mems, (by first | assumption | rfl)⟩, ⟨_, _, rfl, rfl, rfl⟩⟩, ?_⟩
  exact ⟨S, subl, H⟩
 rename_i t
 rw [hw] at H
 simp only [unwrapT]
 refine Yz 5 rfl ?_
 refine Wp.seq ?_
 refine Yn 2 rfl ?_
 refine Cn rfl ?_
 refine Wp.skip ?_
 refine Yg 1 rfl ?_
 refine OWp.load (.head _) rfl rfl rfl rfl (hand_h h next k body) ?_
 refine Ye 2 rfl ?_
 refine OWp.load (.head _) rfl rfl rfl rfl (hand_t h next k body) ?_
 refine Ye 1 rfl ?_
 refine OWp.g rfl rfl (Gives.build rfl rfl) ?_
 refine OWp.step rfl (Step.storeAs 1 ((Pd.cells ⟨h, [], k.tag, t⟩)) rfl rfl rfl rfl rfl (by assumption) rfl (Unfz.zero _) rfl (Nat.le_of_ble_eq_true rfl) rfl rfl ?_)
 refine Yz 1 rfl ?_
 refine Wp.ret ⟨trivial, _, ⟨_, _, _, _, rfl, rfl, ⟨_, _, _, mems, (by first | assumption | rfl)⟩, ⟨_, _, rfl, rfl, rfl⟩⟩, ?_⟩
 exact ⟨S, subl, H⟩
end
end Go.Proofs.D

/- A mix: what it is, what comes in. -/
namespace Go.Proofs.D
open Go.Lg Go.Sha Go.Hd Go.Cv Go.Mx
open Go.Proofs.C (Hop)
open Go.Proofs.E (Wh putW nowW newW advW)
set_option maxRecDepth 100000
/-- What turns in a node: timers, the time, what waits, the last number, the counts. -/
structure Nst where
 M : List Go.Whl.T
 now : Nat
 put : Nat
 L : List MEnt
 bc : Nat
 on : Nat
 twice : Nat
 bad : Nat
def ndm (ps pw pool mp : Nat) (x : Nst) : List Value := [pt ps, pt pw, .int .i64 (pool : Int), .map (some mp), .int .i64 (x.put : Int), .slice none 0 0, .int .i64 (x.on : Int), .int .i64 0, .int .i64 0, .int .i64 0, .int .i64 (x.twice : Int), .int .i64 (x.bad : Int)]
abbrev nde (pn ps pw pool mp : Nat) (x : Nst) : Nat × Obj := (pn, cel (ndm ps pw pool mp x) 104)
def outV (p : List UInt8) : Value := .agg #[.int .i64 7, .string (str p)]
/-- What is right of a node. -/
structure NOk (x : Nst) : Prop where
 keys : (x.L.map (·.1)).Perm (x.M.map (·.id))
 nd : (x.L.map (·.1)).Nodup
 low : ∀ k ∈ x.L.map (·.1), k ≤ (x.put : Int)
 vals : ∀ y ∈ x.L, ∃ p : List UInt8, p.length = 504 ∧ y.2.1 = outV p
 len : x.L.length ≤ 100
 pt : x.put ≤ 100000
 nw : x.now ≤ 100000
 cnt : x.on ≤ 100000 ∧ x.twice ≤ 100000 ∧ x.bad ≤ 100000
/-- A node in memory. -/
def NdIn (B pn pd pr size total pool : Nat) (tags : List (List UInt8)) (x : Nst) (n : Nat) (W : Ents) : Prop := B ≤ pn ∧ NOk x ∧ ∃ ps pw mp Ws Ww, B ≤ mp ∧ SeIn B ps pd pr size total 4096 tags n Ws ∧ Wh B pw x.M x.now x.put Ww ∧ W = nde pn ps pw pool mp x :: (mp, mapS x.L x.bc) :: (Ws ++ Ww)
section
variable {B : Nat} {S R : Ents} {Q : Value → Ents → Prop} {pn ps pw pool mp pd pr size total n : Nat} {tags : List (List UInt8)} {x : Nst} {W Ww : Ents}
theorem roomFullC {w : Nat} (hm : nde pn ps pw pool mp x ∈ S) (hmp : (mp, mapS x.L x.bc) ∈ S) (hw : Wh B pw x.M x.now x.put Ww) (hs : ∀ y ∈ Ww, y ∈ S) (hf : pool ≤ x.L.length) (H : Q (.tuple #[.int .i64 0, .int .i64 190]) S) : CallWp Tryz.prog B 38 #[pt pn, .int .i64 (w : Int)] Q S := by
 refine Yx (args := [_, _]) Tryz.func38 Tryz.ntmps38 ?_
 refine Yn 2 rfl ?_
 refine Yg 4 rfl ?_
 refine Yl hm ?_
 refine Yc rfl rfl (nowW hw hs ?_)
 refine Yz 4 rfl ?_
 refine Wp.seq ?_
 refine Wp.block ?_
 refine Wp.seq (Wp.regionDraw [0, 1, 2, 3, 4, 5, 6, 7, 8, 9, 10] [] rfl (by decide +kernel) ?_)
 refine DWp.evs 3 rfl ?_
 refine Yd hm ?_
 refine DWp.gives rfl rfl rfl rfl (Gives.lenMapS (L := x.L) (c := x.bc) rfl rfl rfl) (fun y hy => by rw [List.mem_singleton.1 hy]; exact hmp) ?_
 refine DWp.evs 3 rfl ?_
 refine Yd hm ?_
 refine DWp.evs 2 rfl ?_
 refine DWp.nil ?_
 refine Cv rfl (by omega) fun cc1 => ?_
 refine Yn 2 rfl ?_
 refine Wp.ret ⟨trivial, _, ⟨_, _, rfl, rfl, _, _, rfl, rfl, rfl⟩, ?_⟩
 exact H
theorem roomOkC {w : Nat} (hm : nde pn ps pw pool mp x ∈ S) (hmp : (mp, mapS x.L x.bc) ∈ S) (hw : Wh B pw x.M x.now x.put Ww) (hs : ∀ y ∈ Ww, y ∈ S) (hf : x.L.length < pool) (hn : x.now ≤ 100000) (hw2 : w ≤ 4096) (H : Q (.tuple #[.int .i64 ((x.now + 1 + w : Nat) : Int), .int .i64 0]) S) : CallWp Tryz.prog B 38 #[pt pn, .int .i64 (w : Int)] Q S := by
 have he : IntKind.i64.wrap (IntKind.i64.wrap ((x.now : Int) + 1) + (w : Int)) = ((x.now + 1 + w : Nat) : Int) := by
  have h1 : IntKind.i64.wrap ((x.now : Int) + 1) = ((x.now + 1 : Nat) : Int) := by rw [i64_id] <;> omega
  rw [h1, i64_id] <;> omega
 refine Yx (args := [_, _]) Tryz.func38 Tryz.ntmps38 ?_
 refine Yn 2 rfl ?_
 refine Yg 4 rfl ?_
 refine Yl hm ?_
 refine Yc rfl rfl (nowW hw hs ?_)
 refine Yz 4 rfl ?_
 refine Wp.seq ?_
 refine Wp.block ?_
 rw [he]
 refine Wp.seq (Wp.regionDraw [0, 1, 2, 3, 4, 5, 6, 7, 8, 9, 10] [] rfl (by decide +kernel) ?_)
 refine DWp.evs 3 rfl ?_
 refine Yd hm ?_
 refine DWp.gives rfl rfl rfl rfl (Gives.lenMapS (L := x.L) (c := x.bc) rfl rfl rfl) (fun y hy => by rw [List.mem_singleton.1 hy]; exact hmp) ?_
 refine DWp.evs 3 rfl ?_
 refine Yd hm ?_
 refine DWp.evs 2 rfl ?_
 refine DWp.nil ?_
 refine Ct rfl (by omega) fun cc1 => ?_
 refine Yn 3 rfl ?_
 refine Ct rfl (by omega) fun cc2 => ?_
 refine Wp.skip ?_
 refine Yn 3 rfl ?_
 refine Wp.ret ⟨trivial, _, ⟨_, _, rfl, rfl, _, _, rfl, rfl, rfl⟩, ?_⟩
 exact H
end
end Go.Proofs.D

/- A mix: a packet is admitted. -/
namespace Go.Proofs.D
open Go.Lg Go.Sha Go.Hd Go.Cv Go.Mx
open Go.Proofs.C (Hop)
open Go.Proofs.E (Wh putW nowW newW advW)
set_option maxRecDepth 100000
/-- What a hop has of a packet that goes on to the node 7. -/
def onP (w : Nat) (nxt tag : List UInt8) : Pd := ⟨⟨1, 7, 0, (w : Int), []⟩, nxt, tag, []⟩
/-- A node that took one more. -/
def Nst.more (x : Nst) (w : Nat) (nxt : List UInt8) : Nst := { x with M := x.M ++ [⟨x.now + 1 + w, ((x.put + 1 : Nat) : Int), x.put + 1⟩], put := x.put + 1, L := x.L ++ [(((x.put + 1 : Nat) : Int), outV nxt, x.bc)], bc := x.bc + 1, on := x.on + 1 }
theorem NOk.more {x : Nst} {w : Nat} {nxt : List UInt8} (h : NOk x) (hn : nxt.length = 504) (h1 : x.L.length < 100) (h2 : x.put < 100000) (h3 : x.on < 100000) : NOk (x.more w nxt) := by
  have e1 : (x.more w nxt).L = x.L ++ [(((x.put + 1 : Nat) : Int), outV nxt, x.bc)] := rfl
  have e2 : (x.more w nxt).M = x.M ++ [⟨x.now + 1 + w, ((x.put + 1 : Nat) : Int), x.put + 1⟩] := rfl
  have e3 : (x.more w nxt).put = x.put + 1 := rfl
  refine ⟨?_, ?_, ?_, ?_, ?_, ?_, h.nw, ?_⟩
  · rw [e1, e2, List.map_append, List.map_append]
    exact h.keys.append_right _
  · rw [e1, List.map_append, List.nodup_append]
    refine ⟨h.nd, List.pairwise_singleton _ _, fun a ha b hb e => ?_⟩
    have := h.low a ha
    simp only [List.map_cons, List.map_nil, List.mem_singleton] at hb
    omega
  · intro k hk
    rw [e1, List.map_append] at hk
    rw [e3]
    rcases List.mem_append.1 hk with hk | hk
    · have := h.low k hk; omega
    · simp only [List.map_cons, List.map_nil, List.mem_singleton] at hk; omega
  · intro y hy
    rw [e1] at hy
    rcases List.mem_append.1 hy with hy | hy
    · exact h.vals y hy
    · rw [List.mem_singleton.1 hy]; exact ⟨nxt, hn, rfl⟩
  · rw [e1, List.length_append, List.length_singleton]; omega
  · rw [e3]; omega
  · have := h.cnt
    exact ⟨(show x.on + 1 ≤ 100000 by omega), this.2⟩
section
variable {B : Nat} {S R : Ents} {Q : Value → Ents → Prop} {pn ps pw pool mp pd pr size total n w : Nat} {tags : List (List UInt8)} {nxt tag : List UInt8} {x : Nst} {W Ww : Ents}
theorem admitFullC (h : NdIn B pn pd pr size total pool tags x n W) (hs : ∀ y ∈ W, y ∈ S) (hf : pool ≤ x.L.length) (H : Q (.int .i64 190) S) : CallWp Tryz.prog B 24 #[pt pn, .agg (Pd.cells (onP w nxt tag)).toArray, .bool false] Q S := by
  obtain ⟨g1, g2, ps, pw, mp, Ws, Ww, g3, g4, g5, rfl⟩ := h
  refine CallWp.dropRet ?_
  refine CallWp.enter (args := [_, _, _]) Tryz.func24 rfl Tryz.ntmps24 rfl ?_
  refine Wp.seq (Wp.region ?_)
  refine OWp.step rfl (Step.box rfl rfl rfl ?_); intro L4 hBL4 hLL4
  refine OWp.evs 1 rfl ?_
  refine OWp.nil ?_
  refine Wp.seq (Wp.region ?_)
  refine OWp.evs 1 rfl ?_
  refine OWp.nil ?_
  refine Wp.seq ?_
  refine Wp.block ?_
  refine Wp.seq (Wp.region ?_)
  refine OWp.evs 2 rfl ?_
  refine OWp.load (.head _) rfl rfl rfl rfl rfl ?_
  refine OWp.evs 2 rfl ?_
  refine OWp.part 15 rfl (fun cc1 => absurd (of_decide_eq_true cc1) (by show ¬ ((1 : Int) = 2); decide)) (fun cc1 => ?_)
  have cc1 := of_decide_eq_false cc1
  refine OWp.evs 4 rfl ?_
  refine OWp.nil ?_
  refine Wp.cond rfl (fun c => nomatch c) (fun _ => ?_)
  refine Wp.seq (Wp.region ?_)
  refine OWp.evs 2 rfl ?_
  refine OWp.load (.head _) rfl rfl rfl rfl rfl ?_
  refine OWp.evs 2 rfl ?_
  refine OWp.nil ?_
  refine Wp.cond rfl (fun cc2 => ?_) (fun cc2 => absurd (of_decide_eq_false cc2) (by show ¬¬ ((1 : Int) = 1); decide))
  have cc2 := of_decide_eq_true cc2
  refine Wp.seq (Wp.region ?_)
  refine OWp.evs 1 rfl ?_
  refine OWp.nil ?_
  refine Wp.seq (Wp.region ?_)
  refine OWp.evs 3 rfl ?_
  refine OWp.load (.head _) rfl rfl rfl rfl rfl ?_
  refine OWp.step rfl (Step.call rfl rfl rfl rfl rfl rfl ((roomFullC (.tail _ (hs _ (.head _))) (.tail _ (hs _ (.tail _ (.head _)))) g5 (fun y hy => .tail _ (hs _ (.tail _ (.tail _ (List.mem_append_right _ hy))))) hf ?_)))
  refine OWp.evs 5 rfl ?_
  refine OWp.nil ?_
  refine Wp.seq (Wp.region ?_)
  refine OWp.evs 2 rfl ?_
  refine OWp.nil ?_
  refine Wp.cond rfl (fun cc3 => ?_) (fun cc3 => absurd (ndF cc3) (by decide))
  have cc3 := ndT cc3
  refine Wp.seq (Wp.region ?_)
  refine OWp.evs 2 rfl ?_
  refine OWp.nil ?_
  refine Wp.ret ⟨trivial, _, ⟨_, _, rfl, rfl, rfl⟩, ?_⟩
  exact ⟨S, subl, H⟩
theorem admitSeenC (h : NdIn B pn pd pr size total pool tags x n W) (hs : ∀ y ∈ W, y ∈ S) (hf : x.L.length < pool) (hw : w ≤ 4096) (hl : tags.length ≤ 4096) (ht : tag.length = 16) (hm : tag ∈ tags) (H : Q (.int .i64 170) S) : CallWp Tryz.prog B 24 #[pt pn, .agg (Pd.cells (onP w nxt tag)).toArray, .bool false] Q S := by
  obtain ⟨g1, g2, ps, pw, mp, Ws, Ww, g3, g4, g5, rfl⟩ := h
  refine CallWp.dropRet ?_
  refine CallWp.enter (args := [_, _, _]) Tryz.func24 rfl Tryz.ntmps24 rfl ?_
  refine Wp.seq (Wp.region ?_)
  refine OWp.step rfl (Step.box rfl rfl rfl ?_); intro L4 hBL4 hLL4
  refine OWp.evs 1 rfl ?_
  refine OWp.nil ?_
  refine Wp.seq (Wp.region ?_)
  refine OWp.evs 1 rfl ?_
  refine OWp.nil ?_
  refine Wp.seq ?_
  refine Wp.block ?_
  refine Wp.seq (Wp.region ?_)
  refine OWp.evs 2 rfl ?_
  refine OWp.load (.head _) rfl rfl rfl rfl rfl ?_
  refine OWp.evs 2 rfl ?_
  refine OWp.part 15 rfl (fun cc1 => absurd (of_decide_eq_true cc1) (by show ¬ ((1 : Int) = 2); decide)) (fun cc1 => ?_)
  have cc1 := of_decide_eq_false cc1
  refine OWp.evs 4 rfl ?_
  refine OWp.nil ?_
  refine Wp.cond rfl (fun c => nomatch c) (fun _ => ?_)
  refine Wp.seq (Wp.region ?_)
  refine OWp.evs 2 rfl ?_
  refine OWp.load (.head _) rfl rfl rfl rfl rfl ?_
  refine OWp.evs 2 rfl ?_
  refine OWp.nil ?_
  refine Wp.cond rfl (fun cc2 => ?_) (fun cc2 => absurd (of_decide_eq_false cc2) (by show ¬¬ ((1 : Int) = 1); decide))
  have cc2 := of_decide_eq_true cc2
  refine Wp.seq (Wp.region ?_)
  refine OWp.evs 1 rfl ?_
  refine OWp.nil ?_
  refine Wp.seq (Wp.region ?_)
  refine OWp.evs 3 rfl ?_
  refine OWp.load (.head _) rfl rfl rfl rfl rfl ?_
  refine OWp.step rfl (Step.call rfl rfl rfl rfl rfl rfl ((roomOkC (.tail _ (hs _ (.head _))) (.tail _ (hs _ (.tail _ (.head _)))) g5 (fun y hy => .tail _ (hs _ (.tail _ (.tail _ (List.mem_append_right _ hy))))) hf g2.nw hw ?_)))
  refine OWp.evs 5 rfl ?_
  refine OWp.nil ?_
  refine Wp.seq (Wp.region ?_)
  refine OWp.evs 2 rfl ?_
  refine OWp.nil ?_
  refine Wp.cond rfl (fun cc3 => absurd (ndT cc3) (by exact fun h => h rfl)) (fun cc3 => ?_)
  have cc3 := ndF cc3
  refine Wp.skip ?_
  refine Wp.seq ?_
  refine Wp.seq (Wp.regionDraw [0, 1, 2, 3, 4, 5, 6, 7, 8] [7] rfl (by decide +kernel) ?_)
  refine DWp.evs 4 rfl ?_
  refine DWp.load (show nde pn ps pw pool mp x ∈ _ from .tail _ (hs _ (.head _))) rfl rfl rfl rfl rfl rfl rfl ?_
  refine DWp.evs 1 rfl ?_
  refine DWp.load (show (L4, cel (Pd.cells (onP w nxt tag)) 88) ∈ _ from .head _) rfl rfl rfl rfl rfl rfl rfl ?_
  refine DWp.stepGrow rfl rfl rfl (Step.call rfl rfl rfl rfl rfl rfl ((saddSeenC g4 (fun y hy => .tail _ (hs _ (.tail _ (.tail _ (List.mem_append_left _ hy))))) hl ht hm ?_)))
  refine ⟨fun _ hy => hy, ?_⟩
  refine DWp.evs 1 rfl ?_
  refine DWp.nil ?_
  refine Wp.seq (Wp.region ?_)
  refine OWp.evs 2 rfl ?_
  refine OWp.nil ?_
  refine Wp.cond rfl (fun cc4 => ?_) (fun cc4 => absurd (ndF cc4) (by decide))
  have cc4 := ndT cc4
  refine Wp.seq (Wp.region ?_)
  refine OWp.evs 2 rfl ?_
  refine OWp.nil ?_
  refine Wp.ret ⟨trivial, _, ⟨_, _, rfl, rfl, rfl⟩, ?_⟩
  exact ⟨S, subl, H⟩
set_option maxHeartbeats 4000000 in
theorem admitOkC (hk : KsIn S) (h : NdIn B pn pd pr size total pool tags x 0 W) (hf : x.L.length < pool) (hw : w ≤ 4096) (hl : tags.length < 100) (hsz : tags.length + 2 ≤ size) (ht : tag.length = 16) (hm : tag ∉ tags) (hn : nxt.length = 504) (h1 : x.L.length < 100) (h2 : x.put < 100000) (h3 : x.on < 100000)
    (H : ∀ W', NdIn B pn pd pr size total pool (tags ++ [tag]) (x.more w nxt) 0 W' → Q (.int .i64 0) (W' ++ S)) : CallWp Tryz.prog B 24 #[pt pn, .agg (Pd.cells (onP w nxt tag)).toArray, .bool false] Q (W ++ S) := by
  obtain ⟨g1, g2, ps, pw, mp, Ws, Ww, g3, g4, g5, rfl⟩ := h
  have hnw := g2.nw
  have hfresh : ∀ y ∈ x.L, y.1 ≠ ((x.put + 1 : Nat) : Int) := fun y hy e => by have := g2.low y.1 (List.mem_map_of_mem hy); omega
  have hML : x.L.length = x.M.length := by have := g2.keys.length_eq; simpa using this
  rw [List.cons_append, List.cons_append, List.append_assoc]
  refine subRet ?_
  refine CallWp.enter (args := [_, _, _]) Tryz.func24 rfl Tryz.ntmps24 rfl ?_
  refine Wp.seq (Wp.region ?_)
  refine OWp.step rfl (Step.box rfl rfl rfl ?_); intro L4 hBL4 hLL4
  refine OWp.evs 1 rfl ?_
  refine OWp.nil ?_
  refine Wp.seq (Wp.region ?_)
  refine OWp.evs 1 rfl ?_
  refine OWp.nil ?_
  refine Wp.seq ?_
  refine Wp.block ?_
  refine Wp.seq (Wp.region ?_)
  refine OWp.evs 2 rfl ?_
  refine OWp.load (.head _) rfl rfl rfl rfl rfl ?_
  refine OWp.evs 2 rfl ?_
  refine OWp.part 15 rfl (fun cc1 => absurd (of_decide_eq_true cc1) (by show ¬ ((1 : Int) = 2); decide)) (fun cc1 => ?_)
  have cc1 := of_decide_eq_false cc1
  refine OWp.evs 4 rfl ?_
  refine OWp.nil ?_
  refine Wp.cond rfl (fun c => nomatch c) (fun _ => ?_)
  refine Wp.seq (Wp.region ?_)
  refine OWp.evs 2 rfl ?_
  refine OWp.load (.head _) rfl rfl rfl rfl rfl ?_
  refine OWp.evs 2 rfl ?_
  refine OWp.nil ?_
  refine Wp.cond rfl (fun cc2 => ?_) (fun cc2 => absurd (of_decide_eq_false cc2) (by show ¬¬ ((1 : Int) = 1); decide))
  have cc2 := of_decide_eq_true cc2
  refine Wp.seq (Wp.region ?_)
  refine OWp.evs 1 rfl ?_
  refine OWp.nil ?_
  refine Wp.seq (Wp.region ?_)
  refine OWp.evs 3 rfl ?_
  refine OWp.load (.head _) rfl rfl rfl rfl rfl ?_
  refine OWp.step rfl (Step.call rfl rfl rfl rfl rfl rfl ((roomOkC (.tail _ (.head _)) (.tail _ (.tail _ (.head _))) g5 (fun y hy => .tail _ (.tail _ (.tail _ (List.mem_append_right _ (List.mem_append_left _ hy))))) hf hnw hw ?_)))
  refine OWp.evs 5 rfl ?_
  refine OWp.nil ?_
  refine Wp.seq (Wp.region ?_)
  refine OWp.evs 2 rfl ?_
  refine OWp.nil ?_
  refine Wp.cond rfl (fun cc3 => absurd (ndT cc3) (by exact fun h => h rfl)) (fun cc3 => ?_)
  have cc3 := ndF cc3
  obtain ⟨M4, hM4⟩ : ∃ z, z = (L4, cel (Pd.cells (onP w nxt tag)) 88) := ⟨_, rfl⟩
  refine Wp.skip ?_
  refine Wp.seq ?_
  refine Wp.seq (Wp.regionDraw [0, 1, 2, 3, 4, 5, 6, 7, 8] [7] rfl (by decide +kernel) ?_)
  refine DWp.evs 4 rfl ?_
  refine DWp.load (show nde pn ps pw pool mp x ∈ _ from .tail _ (.head _)) rfl rfl rfl rfl rfl rfl rfl ?_
  refine DWp.evs 1 rfl ?_
  refine DWp.load (show (L4, cel (Pd.cells (onP w nxt tag)) 88) ∈ _ from .head _) rfl rfl rfl rfl rfl rfl rfl ?_
  refine DWp.step rfl rfl rfl (Step.call rfl rfl rfl rfl rfl rfl ((CallWp.permS (show List.Perm ((L4, cel (Pd.cells (onP w nxt tag)) 88) :: nde pn ps pw pool mp x :: (mp, mapS x.L x.bc) :: (Ws ++ (Ww ++ S))) (Ws ++ ((L4, cel (Pd.cells (onP w nxt tag)) 88) :: nde pn ps pw pool mp x :: (mp, mapS x.L x.bc) :: (Ww ++ S))) from permBy [[(L4, cel (Pd.cells (onP w nxt tag)) 88), nde pn ps pw pool mp x, (mp, mapS x.L x.bc)], Ws] (Ww ++ S) [0, 1] [1, 0] (by decide)) (saddC (KsIn_of hk fun y hy => .tail _ (.tail _ (.tail _ (List.mem_append_right _ hy)))) g4 (by omega) (by decide) ht hm (by decide) hsz ?_))))
  intro Ws2 hs2
  refine prs ?_
  refine DWp.evs 1 rfl ?_
  refine DWp.nil ?_
  refine Wp.seq (Wp.region ?_)
  refine OWp.evs 2 rfl ?_
  refine OWp.nil ?_
  refine Wp.cond rfl (fun cc4 => absurd (ndT cc4) (by exact fun h => h rfl)) (fun cc4 => ?_)
  have cc4 := ndF cc4
  refine Wp.skip ?_
  refine Wp.seq ?_
  refine Wp.permS (show List.Perm (Ws2 ++ ((L4, cel (Pd.cells (onP w nxt tag)) 88) :: nde pn ps pw pool mp x :: (mp, mapS x.L x.bc) :: (Ww ++ S))) (nde pn ps pw pool mp x :: (mp, mapS x.L x.bc) :: (L4, cel (Pd.cells (onP w nxt tag)) 88) :: (Ws2 ++ (Ww ++ S))) from permBy [Ws2, [(L4, cel (Pd.cells (onP w nxt tag)) 88)], [nde pn ps pw pool mp x, (mp, mapS x.L x.bc)]] (Ww ++ S) [0, 1, 2] [2, 1, 0] (by decide)) ?_
  refine Wp.seq (Wp.region ?_)
  refine OWp.evs 2 rfl ?_
  refine OWp.load (.tail _ (.tail _ (.head _))) rfl rfl rfl rfl rfl ?_
  refine OWp.nil ?_
  refine Wp.block ?_
  refine Wp.seq (Wp.region ?_)
  refine OWp.evs 2 rfl ?_
  refine OWp.nil ?_
  refine Wp.cond rfl (fun cc5 => ?_) (fun cc5 => absurd (of_decide_eq_false cc5) (by show ¬¬ ((1 : Int) = 1); decide))
  have cc5 := of_decide_eq_true cc5
  refine Wp.seq (Wp.region ?_)
  refine OWp.evs 3 rfl ?_
  refine OWp.load (.head _) rfl rfl rfl rfl rfl ?_
  refine OWp.evs 3 rfl ?_
  refine OWp.step rfl (Step.storeAs 0 (ndm ps pw pool mp { x with put := x.put + 1 }) rfl rfl rfl rfl rfl g1 rfl (Unfz.zero _) rfl (Nat.le_of_ble_eq_true rfl) (by rw [i64_inc (by omega)]; rfl) rfl ?_)
  refine OWp.nil ?_
  refine Wp.seq (Wp.regionDraw [0, 1, 2, 3, 4, 5, 6, 7, 8, 9, 10] [10] rfl (by decide +kernel) ?_)
  refine DWp.evs 4 rfl ?_
  refine DWp.load (show nde pn ps pw pool mp { x with put := x.put + 1 } ∈ _ from .head _) rfl rfl rfl rfl rfl rfl rfl ?_
  refine DWp.evs 4 rfl ?_
  refine DWp.load (show nde pn ps pw pool mp { x with put := x.put + 1 } ∈ _ from .head _) rfl rfl rfl rfl rfl rfl rfl ?_
  refine DWp.step rfl rfl rfl (Step.call rfl rfl rfl rfl rfl rfl ((CallWp.permS (show List.Perm (nde pn ps pw pool mp { x with put := x.put + 1 } :: (mp, mapS x.L x.bc) :: (L4, cel (Pd.cells (onP w nxt tag)) 88) :: (Ws2 ++ (Ww ++ S))) (Ww ++ (nde pn ps pw pool mp { x with put := x.put + 1 } :: (mp, mapS x.L x.bc) :: (L4, cel (Pd.cells (onP w nxt tag)) 88) :: (Ws2 ++ S))) from permBy [[nde pn ps pw pool mp { x with put := x.put + 1 }, (mp, mapS x.L x.bc), (L4, cel (Pd.cells (onP w nxt tag)) 88)], Ws2, Ww] S [0, 1, 2] [2, 0, 1] (by decide)) (putW (a := x.now + 1 + w) rfl g5 (by omega) (by omega) (by omega) (by omega) ?_))))
  intro Ww2 hw2
  refine prs ?_
  refine DWp.nil ?_
  refine Wp.permS (show List.Perm (Ww2 ++ (nde pn ps pw pool mp { x with put := x.put + 1 } :: (mp, mapS x.L x.bc) :: (L4, cel (Pd.cells (onP w nxt tag)) 88) :: (Ws2 ++ S))) (nde pn ps pw pool mp { x with put := x.put + 1 } :: (mp, mapS x.L x.bc) :: (L4, cel (Pd.cells (onP w nxt tag)) 88) :: (Ws2 ++ (Ww2 ++ S))) from permBy [Ww2, [nde pn ps pw pool mp { x with put := x.put + 1 }, (mp, mapS x.L x.bc), (L4, cel (Pd.cells (onP w nxt tag)) 88)], Ws2] S [0, 1, 2] [1, 2, 0] (by decide)) ?_
  refine Wp.seq (Wp.regionDraw [0, 1, 2, 3, 4, 5, 6, 7, 8, 9, 10, 11, 12, 13, 14] [14] rfl (by decide +kernel) ?_)
  refine DWp.evs 3 rfl ?_
  refine DWp.load (show nde pn ps pw pool mp { x with put := x.put + 1 } ∈ _ from .head _) rfl rfl rfl rfl rfl rfl rfl ?_
  refine DWp.evs 3 rfl ?_
  refine DWp.load (show nde pn ps pw pool mp { x with put := x.put + 1 } ∈ _ from .head _) rfl rfl rfl rfl rfl rfl rfl ?_
  refine DWp.evs 2 rfl ?_
  refine DWp.load (show (L4, cel (Pd.cells (onP w nxt tag)) 88) ∈ _ from .tail _ (.tail _ (.head _))) rfl rfl rfl rfl rfl rfl rfl ?_
  refine DWp.evs 1 rfl ?_
  refine DWp.load (show (L4, cel (Pd.cells (onP w nxt tag)) 88) ∈ _ from .tail _ (.tail _ (.head _))) rfl rfl rfl rfl rfl rfl rfl ?_
  refine DWp.g rfl rfl rfl rfl (Gives.build rfl rfl) ?_
  refine DWp.stepAll rfl rfl rfl rfl (Step.mapPut (v := outV nxt) (k := ((x.put + 1 : Nat) : Int)) (L := x.L) (c := x.bc) (b := mp) 1 rfl rfl rfl rfl rfl rfl rfl rfl g3 hfresh rfl ?_)
  refine DWp.nil ?_
  refine Wp.region ?_
  refine OWp.evs 4 rfl ?_
  refine OWp.load (.head _) rfl rfl rfl rfl rfl ?_
  refine OWp.evs 4 rfl ?_
  refine OWp.step rfl (Step.storeAs 0 (ndm ps pw pool mp { x with put := x.put + 1, on := x.on + 1 }) rfl rfl rfl rfl rfl g1 rfl (Unfz.zero _) rfl (Nat.le_of_ble_eq_true rfl) (by show wr _ _ [Value.int .i64 (IntKind.i64.wrap ((x.on : Int) + 1))] = _; rw [i64_inc (by omega)]; rfl) rfl ?_)
  refine OWp.nil ?_
  refine Wp.seq (Wp.region ?_)
  refine OWp.evs 1 rfl ?_
  refine OWp.nil ?_
  refine Wp.ret ⟨trivial, _, ⟨_, _, rfl, rfl, rfl⟩, ?_⟩
  have hh := H (nde pn ps pw pool mp (x.more w nxt) :: (mp, mapS (x.more w nxt).L (x.more w nxt).bc) :: (Ws2 ++ Ww2)) ⟨g1, g2.more hn h1 h2 h3, ps, pw, mp, Ws2, Ww2, g3, hs2, hw2, rfl⟩
  rw [List.cons_append, List.cons_append, List.append_assoc] at hh
  exact ⟨_, _, .refl _, .cons_cons _ (.cons_cons _ (List.sublist_cons_self _ _)), hh⟩
end
end Go.Proofs.D

/- A mix: a packet is taken. -/
namespace Go.Proofs.D
open Go.Lg Go.Sha Go.Hd Go.Cv Go.Mx
open Go.Proofs.C (Hop)
open Go.Proofs.E (Wh putW nowW newW advW)
set_option maxRecDepth 100000
/-- A node that refused one. -/
def Nst.twiced (x : Nst) : Nst := { x with twice := x.twice + 1 }
def Nst.badd (x : Nst) : Nst := { x with bad := x.bad + 1 }
theorem NOk.twiced {x : Nst} (h : NOk x) (h1 : x.twice < 100000) : NOk x.twiced := ⟨h.keys, h.nd, h.low, h.vals, h.len, h.pt, h.nw, h.cnt.1, (show x.twice + 1 ≤ 100000 by omega), h.cnt.2.2⟩
theorem NOk.badd {x : Nst} (h : NOk x) (h1 : x.bad < 100000) : NOk x.badd := ⟨h.keys, h.nd, h.low, h.vals, h.len, h.pt, h.nw, h.cnt.1, h.cnt.2.1, (show x.bad + 1 ≤ 100000 by omega)⟩
abbrev mxe (pm pn : Nat) (key : List UInt8) : Nat × Obj := (pm, cel [pt pn, .string (str key)] 47)
section
variable {B : Nat} {S R : Ents} {Q : Value → Ents → Prop} {pm pn ps pw pool mp pd pr size total n w : Nat} {tags : List (List UInt8)} {key packet nxt tag : List UInt8} {x : Nst} {W Ww : Ents}
theorem refOkC (H : Q (.int .i64 0) S) : CallWp Tryz.prog B 25 #[pt pn, .int .i64 0] Q S := by
 refine Yx (args := [_, _]) Tryz.func25 Tryz.ntmps25 ?_
 refine Yn 1 rfl ?_
 refine Wp.seq ?_
 refine Yn 1 rfl ?_
 refine Wp.block ?_
 refine Yn 2 rfl ?_
 refine Cv rfl (by decide) fun cc1 => ?_
 refine Wp.skip ?_
 refine Yn 2 rfl ?_
 refine Wp.ret ⟨trivial, _, ⟨_, _, rfl, rfl, rfl⟩, ?_⟩
 exact H
theorem refTwiceC (h : NdIn B pn pd pr size total pool tags x n W) (h1 : x.twice < 100000) (H : ∀ W', NdIn B pn pd pr size total pool tags x.twiced n W' → Q (.int .i64 170) (W' ++ S)) : CallWp Tryz.prog B 25 #[pt pn, .int .i64 170] Q (W ++ S) := by
 obtain ⟨g1, g2, ps, pw, mp, Ws, Ww, g3, g4, g5, rfl⟩ := h
 refine Yx (args := [_, _]) Tryz.func25 Tryz.ntmps25 ?_
 refine Yn 1 rfl ?_
 refine Wp.seq ?_
 refine Yn 1 rfl ?_
 refine Wp.block ?_
 refine Yn 2 rfl ?_
 refine Ct rfl (by decide) fun cc1 => ?_
 refine Yn 2 rfl ?_
 refine Cv rfl (by decide) fun cc2 => ?_
 refine Wp.region ?_
 refine Ye 4 rfl ?_
 refine Yl m0 ?_
 refine Ye 4 rfl ?_
 refine OWp.step rfl (Step.storeAs 0 (ndm ps pw pool mp x.twiced) rfl rfl rfl rfl rfl g1 rfl (Unfz.zero _) rfl (Nat.le_of_ble_eq_true rfl) (by show wr _ _ [Value.int .i64 (IntKind.i64.wrap ((x.twice : Int) + 1))] = _; rw [i64_inc (by omega)]; rfl) rfl ?_)
 refine OWp.nil ?_
 refine Yn 2 rfl ?_
 refine Wp.ret ⟨trivial, _, ⟨_, _, rfl, rfl, rfl⟩, ?_⟩
 exact H (nde pn ps pw pool mp x.twiced :: (mp, mapS x.twiced.L x.twiced.bc) :: (Ws ++ Ww)) ⟨g1, g2.twiced h1, ps, pw, mp, Ws, Ww, g3, g4, g5, rfl⟩
theorem refBadC (h : NdIn B pn pd pr size total pool tags x n W) (h1 : x.bad < 100000) (H : ∀ W', NdIn B pn pd pr size total pool tags x.badd n W' → Q (.int .i64 190) (W' ++ S)) : CallWp Tryz.prog B 25 #[pt pn, .int .i64 190] Q (W ++ S) := by
 obtain ⟨g1, g2, ps, pw, mp, Ws, Ww, g3, g4, g5, rfl⟩ := h
 refine Yx (args := [_, _]) Tryz.func25 Tryz.ntmps25 ?_
 refine Yn 1 rfl ?_
 refine Wp.seq ?_
 refine Yn 1 rfl ?_
 refine Wp.block ?_
 refine Yn 2 rfl ?_
 refine Ct rfl (by decide) fun cc1 => ?_
 refine Yn 2 rfl ?_
 refine Ct rfl (by decide) fun cc2 => ?_
 refine Wp.region ?_
 refine Ye 4 rfl ?_
 refine Yl m0 ?_
 refine Ye 4 rfl ?_
 refine OWp.step rfl (Step.storeAs 0 (ndm ps pw pool mp x.badd) rfl rfl rfl rfl rfl g1 rfl (Unfz.zero _) rfl (Nat.le_of_ble_eq_true rfl) (by show wr _ _ [Value.int .i64 (IntKind.i64.wrap ((x.bad : Int) + 1))] = _; rw [i64_inc (by omega)]; rfl) rfl ?_)
 refine OWp.nil ?_
 refine Yn 2 rfl ?_
 refine Wp.ret ⟨trivial, _, ⟨_, _, rfl, rfl, rfl⟩, ?_⟩
 exact H (nde pn ps pw pool mp x.badd :: (mp, mapS x.badd.L x.badd.bc) :: (Ws ++ Ww)) ⟨g1, g2.badd h1, ps, pw, mp, Ws, Ww, g3, g4, g5, rfl⟩
theorem takeFullC (hk : KsIn S) (hmx : mxe pm pn key ∈ S) (hp : pkPeelR key packet = (onP w nxt tag, 0)) (h : NdIn B pn pd pr size total pool tags x n W) (hf : pool ≤ x.L.length) (h1 : x.bad < 100000) (H : ∀ W', NdIn B pn pd pr size total pool tags x.badd n W' → Q (.int .i64 190) (W' ++ S)) :
  CallWp Tryz.prog B 14 #[pt pm, .string (str packet)] Q (W ++ S) := by
 refine subRet ?_
 refine Yx (args := [_, _]) Tryz.func14 Tryz.ntmps14 ?_
 refine Yn 1 rfl ?_
 refine Yg 3 rfl ?_
 refine Yl (List.mem_append_right _ hmx) ?_
 refine Ye 1 rfl ?_
 refine Yc rfl rfl (pkPeelC (KsIn_of hk fun y hy => List.mem_append_right _ hy) ?_)
 rw [hp]
 refine Ye 3 rfl ?_
 refine Ya rfl rfl rfl rfl fun L5 hBL5 hLL5 => ?_
 refine OWp.step rfl (Step.storeAs 0 ((Pd.cells (onP w nxt tag))) rfl rfl rfl rfl rfl (by assumption) rfl (Unfz.zero _) rfl (Nat.le_of_ble_eq_true rfl) rfl rfl ?_)
 refine Yz 1 rfl ?_
 refine Wp.seq ?_
 refine Yn 2 rfl ?_
 refine Cv rfl (by exact fun h => h rfl) fun cc1 => ?_
 refine Wp.regionDraw [0, 1, 2, 3, 4, 5, 6] [5] rfl (by decide +kernel) ?_
 refine DWp.evs 3 rfl ?_
 refine Yd (show mxe pm pn key ∈ _ from .tail _ (List.mem_append_right _ hmx)) ?_
 refine Yd (show (L5, cel (Pd.cells (onP w nxt tag)) 88) ∈ _ from .head _) ?_
 refine DWp.stepGrow rfl rfl rfl (Step.call rfl rfl rfl rfl rfl rfl ((admitFullC h (fun y hy => .tail _ (List.mem_append_left _ hy)) hf ?_)))
 refine ⟨fun _ hy => hy, ?_⟩
 refine DWp.evs 1 rfl ?_
 refine DWp.nil ?_
 refine Yg 3 rfl ?_
 refine Yl (.tail _ (List.mem_append_right _ hmx)) ?_
 refine Ye 1 rfl ?_
 refine Yc rfl rfl (CallWp.permS (Pe .rfl) (refBadC h h1 ?_))
 intro W' h'
 refine Yz 1 rfl ?_
 refine Wp.ret ⟨trivial, _, ⟨_, _, rfl, rfl, rfl⟩, ?_⟩
 exact ⟨_, _, .refl _, (List.Sublist.refl W').append (List.sublist_cons_self _ _), H W' h'⟩
theorem takeSeenC (hk : KsIn S) (hmx : mxe pm pn key ∈ S) (hp : pkPeelR key packet = (onP w nxt tag, 0)) (h : NdIn B pn pd pr size total pool tags x n W) (hf : x.L.length < pool) (hw : w ≤ 4096) (hl : tags.length ≤ 4096) (ht : tag.length = 16) (hm : tag ∈ tags) (h1 : x.twice < 100000) (H : ∀ W', NdIn B pn pd pr size total pool tags x.twiced n W' → Q (.int .i64 170) (W' ++ S)) :
  CallWp Tryz.prog B 14 #[pt pm, .string (str packet)] Q (W ++ S) := by
 refine subRet ?_
 refine Yx (args := [_, _]) Tryz.func14 Tryz.ntmps14 ?_
 refine Yn 1 rfl ?_
 refine Yg 3 rfl ?_
 refine Yl (List.mem_append_right _ hmx) ?_
 refine Ye 1 rfl ?_
 refine Yc rfl rfl (pkPeelC (KsIn_of hk fun y hy => List.mem_append_right _ hy) ?_)
 rw [hp]
 refine Ye 3 rfl ?_
 refine Ya rfl rfl rfl rfl fun L5 hBL5 hLL5 => ?_
 refine OWp.step rfl (Step.storeAs 0 ((Pd.cells (onP w nxt tag))) rfl rfl rfl rfl rfl (by assumption) rfl (Unfz.zero _) rfl (Nat.le_of_ble_eq_true rfl) rfl rfl ?_)
 refine Yz 1 rfl ?_
 refine Wp.seq ?_
 refine Yn 2 rfl ?_
 refine Cv rfl (by exact fun h => h rfl) fun cc1 => ?_
 refine Wp.regionDraw [0, 1, 2, 3, 4, 5, 6] [5] rfl (by decide +kernel) ?_
 refine DWp.evs 3 rfl ?_
 refine Yd (show mxe pm pn key ∈ _ from .tail _ (List.mem_append_right _ hmx)) ?_
 refine Yd (show (L5, cel (Pd.cells (onP w nxt tag)) 88) ∈ _ from .head _) ?_
 refine DWp.stepGrow rfl rfl rfl (Step.call rfl rfl rfl rfl rfl rfl ((admitSeenC h (fun y hy => .tail _ (List.mem_append_left _ hy)) hf hw hl ht hm ?_)))
 refine ⟨fun _ hy => hy, ?_⟩
 refine DWp.evs 1 rfl ?_
 refine DWp.nil ?_
 refine Yg 3 rfl ?_
 refine Yl (.tail _ (List.mem_append_right _ hmx)) ?_
 refine Ye 1 rfl ?_
 refine Yc rfl rfl (CallWp.permS (Pe .rfl) (refTwiceC h h1 ?_))
 intro W' h'
 refine Yz 1 rfl ?_
 refine Wp.ret ⟨trivial, _, ⟨_, _, rfl, rfl, rfl⟩, ?_⟩
 exact ⟨_, _, .refl _, (List.Sublist.refl W').append (List.sublist_cons_self _ _), H W' h'⟩
theorem takeOkC (hk : KsIn S) (hmx : mxe pm pn key ∈ S) (hp : pkPeelR key packet = (onP w nxt tag, 0)) (h : NdIn B pn pd pr size total pool tags x 0 W) (hf : x.L.length < pool) (hw : w ≤ 4096) (hl : tags.length < 100) (hsz : tags.length + 2 ≤ size) (ht : tag.length = 16) (hm : tag ∉ tags) (hn : nxt.length = 504) (h1 : x.L.length < 100) (h2 : x.put < 100000) (h3 : x.on < 100000)
  (H : ∀ W', NdIn B pn pd pr size total pool (tags ++ [tag]) (x.more w nxt) 0 W' → Q (.int .i64 0) (W' ++ S)) :
  CallWp Tryz.prog B 14 #[pt pm, .string (str packet)] Q (W ++ S) := by
 refine subRet ?_
 refine Yx (args := [_, _]) Tryz.func14 Tryz.ntmps14 ?_
 refine Yn 1 rfl ?_
 refine Yg 3 rfl ?_
 refine Yl (List.mem_append_right _ hmx) ?_
 refine Ye 1 rfl ?_
 refine Yc rfl rfl (pkPeelC (KsIn_of hk fun y hy => List.mem_append_right _ hy) ?_)
 rw [hp]
 refine Ye 3 rfl ?_
 refine Ya rfl rfl rfl rfl fun L5 hBL5 hLL5 => ?_
 refine OWp.step rfl (Step.storeAs 0 ((Pd.cells (onP w nxt tag))) rfl rfl rfl rfl rfl (by assumption) rfl (Unfz.zero _) rfl (Nat.le_of_ble_eq_true rfl) rfl rfl ?_)
 refine Yz 1 rfl ?_
 refine Wp.seq ?_
 refine Yn 2 rfl ?_
 refine Cv rfl (by exact fun h => h rfl) fun cc1 => ?_
 refine Wp.regionDraw [0, 1, 2, 3, 4, 5, 6] [5] rfl (by decide +kernel) ?_
 refine DWp.evs 3 rfl ?_
 refine Yd (show mxe pm pn key ∈ _ from .tail _ (List.mem_append_right _ hmx)) ?_
 refine Yd (show (L5, cel (Pd.cells (onP w nxt tag)) 88) ∈ _ from .head _) ?_
 refine DWp.step rfl rfl rfl (Step.call rfl rfl rfl rfl rfl rfl ((CallWp.permS (Pe .rfl) (admitOkC hk.cons h hf hw hl hsz ht hm hn h1 h2 h3 ?_))))
 intro W' h'
 refine prs ?_
 refine DWp.evs 1 rfl ?_
 refine DWp.nil ?_
 refine Yg 3 rfl ?_
 refine Yl (List.mem_append_right _ (.tail _ hmx)) ?_
 refine Ye 1 rfl ?_
 refine Yc rfl rfl (refOkC ?_)
 refine Yz 1 rfl ?_
 refine Wp.ret ⟨trivial, _, ⟨_, _, rfl, rfl, rfl⟩, ?_⟩
 exact ⟨_, _, .refl _, (List.Sublist.refl W').append (List.sublist_cons_self _ _), H W' h'⟩
theorem waitsC (h : NdIn B pn pd pr size total pool tags x n W) (hs : ∀ y ∈ W, y ∈ S) (H : Q (.int .i64 (x.L.length : Int)) S) : CallWp Tryz.prog B 17 #[pt pn] Q S := by
 obtain ⟨g1, g2, ps, pw, mp, Ws, Ww, g3, g4, g5, rfl⟩ := h
 refine Yx (args := [_]) Tryz.func17 Tryz.ntmps17 ?_
 refine Yn 1 rfl ?_
 refine Yg 3 rfl ?_
 refine Yl (hs _ (.head _)) ?_
 refine OWp.gives rfl rfl (Gives.lenMapS (L := x.L) (c := x.bc) rfl rfl rfl) (fun y hy => by rw [List.mem_singleton.1 hy]; exact hs _ (.tail _ (.head _))) ?_
 refine Yz 1 rfl ?_
 refine Wp.ret ⟨trivial, _, ⟨_, _, rfl, rfl, rfl⟩, ?_⟩
 exact H
end
end Go.Proofs.D
