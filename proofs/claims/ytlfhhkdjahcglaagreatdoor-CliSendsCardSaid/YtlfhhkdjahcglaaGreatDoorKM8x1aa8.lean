/- What functions of the given program do, one after the other, told by that layer. -/
import Derived.Test.YtlfhhkdjahcglaaGreatDoorKM6x1405
import Derived.Test.YtlfhhkdjahcglaaGreatDoorKM7x128f
import Derived.Test.YtlfhhkdjahcglaaGreatDoorEM2x2952
import Derived.Test.YtlfhhkdjahcglaaGreatDoorLgM2x52c3
import Derived.Test.YtlfhhkdjahcglaaGreatDoorKM5x0384
namespace Go.Proofs.D
open Go.Lg Go.Sha Go.Hd Go.Cv
open Go.Proofs.C (Hop hopP hopB parse pathE encB)
set_option maxRecDepth 100000
/-- The payload: the text for the last hop, shut for all hops from one on. -/
def bodyR (text : List UInt8) : List HK → List UInt8
 | [] => wplain text 256
 | k :: ks => wshut k.body (bodyR text ks)
/-- A packet, or why there is none. -/
def packR (seed : List UInt8) (ps : List (List UInt8)) (text : List UInt8) (path : List Hop) : List UInt8 × Int :=
 if (makeR seed ps path).2.2 ≠ 0 then ([], (makeR seed ps path).2.2)
 else if 222 < text.length then ([], 2)
 else ((makeR seed ps path).1 ++ bodyR text (makeR seed ps path).2.1, 0)
theorem bodyR_len {text : List UInt8} (h : text.length ≤ 222) : ∀ ks : List HK, (bodyR text ks).length = 256
 | [] => wplain_len (by omega)
 | k :: ks => by
  have ih := bodyR_len h ks
  rw [bodyR, wshut_len _ (by omega), ih]
theorem wrapR_256 {key text : List UInt8} (h : text.length ≤ 222) : wrapR key text 256 = (wshut key (wplain text 256), 0) := by
 unfold wrapR
 rw [if_neg (by decide), if_neg (by omega)]
 rfl
theorem blockR_ok' {f : List UInt8 → List UInt8} {b : List UInt8} (h : b.length = 256) : blockR f b = (f b, 0) := by
 unfold blockR
 rw [if_neg (by omega), if_neg (by omega)]
theorem body_drop {text : List UInt8} {ks : List HK} {i : Nat} (h : i < ks.length) : bodyR text (ks.drop i) = wshut ks[i].body (bodyR text (ks.drop (i + 1))) := by
 rw [List.drop_eq_getElem_cons h, bodyR]
theorem keys_len {seed : List UInt8} {ps : List (List UInt8)} {path : List Hop} (h : (makeR seed ps path).2.2 = 0) : (makeR seed ps path).2.1.length = path.length ∧ pathE path = 0 ∧ (makeR seed ps path).1.length = 248 ∧ ∀ k ∈ (makeR seed ps path).2.1, k.body.length = 32 := by
 unfold makeR at h ⊢
 split at h
 ·rename_i h1; exact absurd h h1
 ·rename_i h1
  split at h
  ·cases h
  ·rename_i h2
   split at h
   ·cases h
   ·rename_i h3
    split at h
    ·rename_i h4; exact absurd (Int.ofNat.inj h) h4
    ·rename_i h4
     rw [if_neg h1, if_neg h2, if_neg h3, if_neg h4]
     simp only
     obtain ⟨hl, h32⟩ := hopsGo_len _ _ (show (hopsGo [seed] ps).2 = 0 by simpa using h4)
     have h2' : ps.length = path.length := by simpa using h2
     have h1' : pathE path = 0 := by simpa using h1
     obtain ⟨hgood, hpos, hmost⟩ := pathE_ok h1'
     have hs : seed.length = 32 := by
      have := Classical.not_not.1 h3
      exact this seed (List.mem_cons_self ..)
     refine ⟨by rw [List.length_map, hl, h2'], h1', ?_, fun k hk => ?_⟩
     ·have hf : (fillGo [] ((hopsGo [seed] ps).1.map keysOf).dropLast).length ≤ 200 := by
       rw [fillGo_len _ _ (by rw [List.length_dropLast, List.length_map, hl]; simp; omega), List.length_dropLast, List.length_map, hl]
       simp
       omega
      have hz : ∀ x ∈ (path.map encB).zip ((hopsGo [seed] ps).1.map keysOf), x.1.length = 24 := by
       intro x hx
       have := (List.of_mem_zip (show (x.1, x.2) ∈ _ from hx)).1
       obtain ⟨y, hy, he⟩ := List.mem_map.1 this
       rw [← he]
       exact encB_good (hgood y hy)
      obtain ⟨e1, e2⟩ := listR_len (pad := derive seed [112, 97, 100] 200) (derive_len _ _ _) hf _ hz
      have e3 : (publicR seed).1.length = 32 := by rw [publicR_eq hs]; exact len32 _
      unfold headR
      rw [List.length_append, List.length_append, e1, e2, e3]
     ·obtain ⟨s, _, rfl⟩ := List.mem_map.1 hk
      exact (keysOf_lens s).2.2.1
attribute [local irreducible] derive hmac stream chainR makeR wshut wopen wplain
section
variable {B : Nat} {S R : Ents} {Q : Value → Ents → Prop}
theorem keys_elem {S : Ents} {ks : List HK} {v : Value} (hr : Reads S 5 v ks.length (keysV ks)) (h0 : 0 < ks.length) : ∃ hb ho hcap hll ht hfz, v = .slice (some ⟨hb, ho, none⟩) ks.length hcap ∧ (hb, cel hll ht hfz) ∈ S ∧ ∀ i (h : i < ks.length), (hll.drop (ho + i * 5)).take 5 = (ks[i]).cells := by
 obtain ⟨hb, ho, hcap, hll, ht, hfz, hzv, hhm, hat⟩ := Reads.elem (sz := 5) (f := HK.cells) (xs := ks) hr (fun _ _ => rfl) h0
 exact ⟨hb, ho, hcap, hll, ht, hfz, hzv, hhm, hat⟩
theorem roomC (H : Q (.int .i64 222) S) : CallWp Tryz.prog B 143 #[] Q S := by
 refine Yx (args := []) Tryz.func143 Tryz.ntmps143 ?_
 refine Yn 1 rfl ?_
 refine Yn 1 rfl ?_
 refine Wp.ret ⟨trivial, _, ⟨_, _, rfl, rfl, rfl⟩, ?_⟩
 exact H
set_option maxHeartbeats 4000000 in
theorem packC {seed text : List UInt8} {ps : List (List UInt8)} {path : List Hop} {v w : Value} (hksI : KsIn S) (_ht : text.length + 5000 ≤ big) (hr : Reads S 1 v ps.length (strs ps)) (hl : ps.length ≤ 8796093022080) (hr2 : Reads S 5 w path.length (path.flatMap Hop.cells)) (hl2 : path.length ≤ 2932031007320) (H : Q (.tuple #[.string (str (packR seed ps text path).1), .int .i64 (packR seed ps text path).2]) S) : CallWp Tryz.prog B 105 #[.string (str seed), v, .string (str text), w] Q S := by
 obtain ⟨va, vc, rfl⟩ := hr.form
 obtain ⟨pa, pc, rfl⟩ := hr2.form
 refine CallWp.dropRet ?_
 refine Yx (args := [_, _, _, _]) Tryz.func105 Tryz.ntmps105 ?_
 refine Yq ?_
 by_cases h0 : (makeR seed ps path).2.2 ≠ 0
 ·skip
  refine Yz 2 rfl ?_
  refine Yg 3 rfl ?_
  refine Yc rfl rfl (makeC (ps := ps) (path := path) hksI hr (by omega) hr2 hl2 (fun _ => ?_) (fun h => absurd h h0))
  rw [show packR seed ps text path = ([], (makeR seed ps path).2.2) by unfold packR; rw [if_pos h0]] at H
  refine Yz 7 rfl ?_
  refine Wp.seq ?_
  refine Yn 2 rfl ?_
  refine Cw rfl (by omega) fun cc1 => ?_
  refine Yn 3 rfl ?_
  refine Wp.ret ⟨trivial, _, ⟨_, _, rfl, rfl, _, _, rfl, rfl, rfl⟩, ?_⟩
  exact ⟨S, .refl _, H⟩
 have h0' : (makeR seed ps path).2.2 = 0 := by omega
 refine Yz 2 rfl ?_
 refine Yg 3 rfl ?_
 refine Yc rfl rfl (makeC (ps := ps) (path := path) hksI hr (by omega) hr2 hl2 (fun h => absurd h0' h) ?_)
 intro _ z es how
 obtain ⟨hkl, hp0, hh248, hb32⟩ := keys_len h0'
 obtain ⟨hgood, hpos, hmost⟩ := pathE_ok hp0
 obtain ⟨hd, hhd⟩ : ∃ x, x = (makeR seed ps path).1 := ⟨_, rfl⟩
 obtain ⟨ks, hks⟩ : ∃ x, x = (makeR seed ps path).2.1 := ⟨_, rfl⟩
 have hP : packR seed ps text path = if 222 < text.length then ([], 2) else (hd ++ bodyR text ks, 0) := by unfold packR; rw [if_neg h0, hhd, hks]
 rw [hP] at H
 rw [← hks] at how hkl hb32
 rw [← hhd] at hh248
 rw [← hhd]
 refine Yz 7 rfl ?_
 refine Wp.seq ?_
 refine Yn 2 rfl ?_
 refine Cn rfl ?_
 refine Wp.skip ?_
 refine Wp.seq ?_
 refine Yg 2 rfl ?_
 refine Yc rfl rfl (roomC ?_)
 refine Yz 1 rfl ?_
 refine Wp.cond rfl (fun h1 => ?_) (fun h1 => ?_)
 ·have h1 := of_decide_eq_true h1
  rw [if_pos (by omega)] at H
  refine Yn 2 rfl ?_
  refine Wp.ret ⟨trivial, _, ⟨_, _, rfl, rfl, _, _, rfl, rfl, rfl⟩, ?_⟩
  exact ⟨S, List.sublist_append_right _ _, H⟩
 have h1 := of_decide_eq_false h1
 have ht2 : text.length ≤ 222 := by omega
 rw [if_neg (by omega)] at H
 have how1 : Reads es 5 z ks.length (keysV ks) := by rw [hkl]; exact how.reads
 obtain ⟨hb, ho, hcap, hll, htt, hfz, hzv, hhm, hat⟩ := keys_elem how1 (by omega)
 subst hzv
 obtain ⟨n, hn⟩ : ∃ n, ks.length = n + 1 := ⟨ks.length - 1, by omega⟩
 have w1 : IntKind.i64.wrap ((ks.length : Int) - 1) = (n : Int) := by rw [hn, i64_id] <;> omega
 refine Wp.skip ?_
 refine Yn 4 rfl ?_
 refine Yg 2 rfl ?_
 refine OWp.g rfl rfl (Gives.indexAddrSlice (n) rfl rfl rfl rfl rfl w1 (by omega)) ?_
 refine Ye 1 rfl ?_
 refine OWp.load (List.mem_append_left _ hhm) rfl rfl rfl rfl ((partAt_in (m := 2) (hat n (by omega)) rfl (by decide) (by decide)).trans rfl) ?_
 refine Ye 1 rfl ?_
 refine Yc rfl rfl (wwrapC hksI.append (by rw [hb32 _ (List.getElem_mem _)]; decide) ?_)
 rw [wrapR_256 ht2]
 have hlast : wshut (ks[n]'(by omega)).body (wplain text 256) = bodyR text (ks.drop n) := by rw [body_drop (by omega), List.drop_of_length_le (by omega)]; rfl
 rw [hlast]
 refine Yz 5 rfl ?_
 refine Wp.seq ?_
 refine Yn 2 rfl ?_
 refine Wp.block ?_
 refine Wp.loopS (α := Nat) (fun j => n - j) (fun j => [(10, .string (str hd)), (11, .slice (some ⟨hb, ho, none⟩) ks.length hcap), (13, .int .i64 (n : Int)), (14, .string (str (bodyR text (ks.drop (n - j))))), (45, .int .i64 (n : Int)), (46, .int .i64 (j : Int))]) (fun _ => es ++ S) (fun j => j ≤ n) 0 ?_ (.refl _) (Nat.zero_le _) ?_
 ·exact .cons rfl (.cons rfl (.cons' rfl (int_eq w1) (.cons rfl (.cons' rfl (int_eq w1) (.cons rfl (.nil _))))))
 rintro j hj
 refine Yn 1 rfl ?_
 refine Wp.seq ?_
 refine Wp.cond rfl (fun h7 => ?_) (fun h7 => ?_)
 ·have h7 := of_decide_eq_true h7
  have hj1 : j < n := by omega
  obtain ⟨i, hi⟩ : ∃ i, i = n - (j + 1) := ⟨_, rfl⟩
  have hi2 : n - j = i + 1 := by omega
  have w2 : IntKind.i64.wrap (IntKind.i64.wrap ((n : Int) - 1) - (j : Int)) = (i : Int) := by rw [i64_id (x := (n : Int) - 1) (by omega) (by omega), i64_id] <;> omega
  rw [hi2]
  refine Wp.skip ?_
  refine Wp.seq ?_
  refine Wp.block ?_
  refine Yn 2 rfl ?_
  refine Wp.region ?_
  refine Ye 5 rfl ?_
  refine OWp.g rfl rfl (Gives.indexAddrSlice (i) rfl rfl rfl rfl rfl w2 (by omega)) ?_
  refine Ye 1 rfl ?_
  refine OWp.load (List.mem_append_left _ hhm) rfl rfl rfl rfl ((partAt_in (m := 2) (hat i (by omega)) rfl (by decide) (by decide)).trans rfl) ?_
  refine Ye 1 rfl ?_
  refine Yc rfl rfl (wshutC hksI.append (by rw [hb32 _ (List.getElem_mem _)]; decide) ?_)
  rw [blockR_ok' (bodyR_len ht2 _), ← body_drop (by omega)]
  refine Yz 4 rfl ?_
  refine Wp.region ?_
  refine Yz 2 rfl ?_
  exact ⟨j + 1, by omega, by omega, .cons rfl (.cons rfl (.cons rfl (.cons' rfl (by rw [← hi]) (.cons rfl (.cons' rfl (int_eq (i64_inc (by omega))) (.nil _)))))), .refl _⟩
 have h7 := of_decide_eq_false h7
 obtain rfl : j = n := by omega
 rw [Nat.sub_self, List.drop_zero]
 refine Wp.exit ?_
 refine Yg 2 rfl ?_
 refine OWp.g rfl rfl (Gives.addStr rfl rfl rfl (by rw [hh248, bodyR_len ht2]; decide)) ?_
 refine Yz 2 rfl ?_
 refine Wp.ret ⟨trivial, _, ⟨_, _, rfl, rfl, _, _, rfl, rfl, rfl⟩, ?_⟩
 exact ⟨S, List.sublist_append_right _ _, H⟩
end
end Go.Proofs.D

namespace Go.Proofs.C

/-- The table of a mean. -/
def tab (mean : Nat) : Nat → Nat
  | 0 => 4294967296
  | i + 1 => tab mean i * mean / (mean + 1)
/-- How many of the table's numbers behind the first are above a word. -/
def dl (mean u : Nat) : Nat → Nat
  | 0 => 0
  | m + 1 => dl mean u m + (if u < tab mean (m + 1) then 1 else 0)

theorem tab_step (m i : Nat) : tab m (i + 1) ≤ tab m i := by
  show tab m i * m / (m + 1) ≤ tab m i
  have : tab m i * m ≤ tab m i * (m + 1) := Nat.mul_le_mul_left _ (by omega)
  exact Nat.div_le_of_le_mul (by rw [Nat.mul_comm]; rw [Nat.mul_comm] at this; rw [Nat.mul_comm (m + 1)]; omega)
theorem tab_anti (m : Nat) {i j : Nat} (h : i ≤ j) : tab m j ≤ tab m i := by
  induction h with
  | refl => exact Nat.le_refl _
  | step _ ih => exact Nat.le_trans (tab_step m _) ih
theorem tab_le (m i : Nat) : tab m i ≤ 4294967296 := tab_anti m (Nat.zero_le i)
theorem dl_le (m u : Nat) : ∀ k, dl m u k ≤ k
  | 0 => Nat.le_refl _
  | k + 1 => by have := dl_le m u k; simp only [dl]; split <;> omega
theorem dl_all {m u : Nat} : ∀ {k : Nat}, (∀ i, i < k → u < tab m (i + 1)) → dl m u k = k
  | 0, _ => rfl
  | k + 1, h => by
    have := dl_all (m := m) (u := u) (k := k) fun i hi => h i (by omega)
    simp only [dl, this, if_pos (h k (by omega))]
theorem dl_cut {m u j : Nat} : ∀ {k : Nat}, j ≤ k → (∀ i, i < j → u < tab m (i + 1)) → (∀ i, j ≤ i → i < k → tab m (i + 1) ≤ u) → dl m u k = j
  | 0, hj, _, _ => by simp only [dl]; omega
  | k + 1, hj, h1, h2 => by
    by_cases e : j = k + 1
    · subst e; exact dl_all h1
    · have := dl_cut (m := m) (u := u) (j := j) (k := k) (by omega) h1 fun i hi hk => h2 i hi (by omega)
      have h3 := h2 k (by omega) (by omega)
      simp only [dl, this, if_neg (by omega : ¬ u < tab m (k + 1))]; omega
def tabs (mean : Nat) (k : Nat) : List Nat := (List.range k).map (tab mean)
theorem tabs_len (m k : Nat) : (tabs m k).length = k := by simp [tabs]
theorem tabs_get {m k i : Nat} (h : i < k) : (tabs m k)[i]? = some (tab m i) := by simp [tabs, h]
theorem tabs_snoc (m k : Nat) : tabs m (k + 1) = tabs m k ++ [tab m k] := by simp [tabs, List.range_succ]
end Go.Proofs.C

namespace Go.Proofs.C
open Go.Lg
set_option maxRecDepth 100000

def mayP (most : Int) (l : List Int) : Prop := 0 ≤ most ∧ most ≤ 4096 ∧ ∀ m ∈ l, 0 ≤ m ∧ m ≤ 4096
instance (most : Int) (l : List Int) : Decidable (mayP most l) := by unfold mayP; infer_instance

theorem mayP_one (most mean : Int) : mayP most [mean] ↔ 0 ≤ most ∧ most ≤ 4096 ∧ 0 ≤ mean ∧ mean ≤ 4096 := by simp [mayP]

theorem mid_id {i j : Nat} (h : i + j ≤ 281474976710656) : IntKind.i64.wrap ((IntKind.u64.wrap (IntKind.i64.wrap ((i : Int) + (j : Int)))).fdiv (2 ^ (min 1 IntKind.u64.bits))) = (((i + j) / 2 : Nat) : Int) := by
 have e : (2 : Int) ^ (min 1 IntKind.u64.bits) = 2 := by decide
 rw [e, i64_id (x := (i : Int) + (j : Int)) (by omega) (by omega), IntKind.wrap_u64, Int.fdiv_eq_ediv_of_nonneg _ (by omega), i64_id (by omega) (by omega)]
 omega

theorem table_step {m x : Nat} (hx : x ≤ 4294967296) (hm : m ≤ 4096) : IntKind.i64.wrap ((IntKind.i64.wrap ((x : Int) * (m : Int))).tdiv (IntKind.i64.wrap ((m : Int) + 1))) = ((x * m / (m + 1) : Nat) : Int) := by
 have h1 : x * m ≤ 4294967296 * 4096 := Nat.mul_le_mul hx hm
 have e : (x : Int) * (m : Int) = ((x * m : Nat) : Int) := by simp
 rw [e, i64_id (x := ((x * m : Nat) : Int)) (by omega) (by omega), i64_id (x := (m : Int) + 1) (by omega) (by omega), Int.tdiv_eq_ediv_of_nonneg (by omega)]
 rw [show (m : Int) + 1 = ((m + 1 : Nat) : Int) by omega, ← Int.natCast_ediv]
 have h2 : x * m / (m + 1) ≤ x * m := Nat.div_le_self _ _
 generalize x * m / (m + 1) = z at h2 ⊢
 rw [i64_id (by omega) (by omega)]

theorem tabs_set {m i n : Nat} (h : i + 1 ≤ n) : (tabs m (i + 1) ++ List.replicate (n - i) 0).set (i + 1) (tab m (i + 1)) = tabs m (i + 2) ++ List.replicate (n - (i + 1)) 0 := by
 obtain ⟨r, rfl⟩ : ∃ r, n = i + (r + 1) := ⟨n - i - 1, by omega⟩
 rw [List.set_append_right _ _ (by simp [tabs])]
 simp only [tabs_len, Nat.sub_self, Nat.add_sub_cancel_left, List.replicate_succ, List.set_cons_zero]
 rw [tabs_snoc m (i + 1), List.append_assoc, show i + (r + 1) - (i + 1) = r by omega]
 rfl

theorem tabs_getD {m i n : Nat} {r : List Nat} (h : i < n) : (tabs m n ++ r).getD i 0 = tab m i := by
 rw [List.getD_eq_getElem?_getD, List.getElem?_append_left (by rw [tabs_len]; exact h), tabs_get h]
 rfl

section
variable {B : Nat} {S R : Ents} {Q : Value → Ents → Prop}

theorem mayC {most : Int} {v : Value} {n : Nat} {l : List Int} (hl : Reads S 1 v n (zi l)) (hn : n ≤ lim) (h : Q (.bool (decide (mayP most l))) S) :
  CallWp Tryz.prog B 100 #[.int .i64 most, v] Q S := by
 obtain ⟨aa, ac, rfl⟩ := hl.form
 have e1 : l.length = n := by have := hl.1; rw [zi_length] at this; omega
 unfold lim at hn
 refine Yx (args := [_, _]) Tryz.func100 Tryz.ntmps100 ?_
 refine Yn 1 rfl ?_
 refine Wp.seq ?_
 refine Yg 3 rfl ?_
 refine OWp.part 9 rfl (fun h1 => ?_) (fun h1 => ?_)
 ·have h1 := of_decide_eq_true h1
  refine Yz 3 rfl ?_
  refine Cy rfl ?_
  refine Yn 1 rfl ?_
  refine Wp.ret ⟨trivial, _, ⟨_, _, rfl, rfl, rfl⟩, ?_⟩
  rw [decide_eq_false (fun e => by unfold mayP at e; omega)] at h; exact h
 have h1 := of_decide_eq_false h1
 refine Yz 3 rfl ?_
 refine Wp.cond rfl (fun h2 => ?_) (fun h2 => ?_)
 ·have h2 := of_decide_eq_true h2
  refine Yn 1 rfl ?_
  refine Wp.ret ⟨trivial, _, ⟨_, _, rfl, rfl, rfl⟩, ?_⟩
  rw [decide_eq_false (fun e => by unfold mayP at e; omega)] at h; exact h
 have h2 := of_decide_eq_false h2
 refine Wp.skip ?_
 refine Wp.seq ?_
 refine Yn 3 rfl ?_
 refine Wp.block ?_
 refine Wp.loopS (α := Nat) (fun i => n - i) (fun i => [(15, .int .i64 (i : Int)), (14, .int .i64 (n : Int)), (13, .slice aa n ac)]) (fun _ => S) (fun i => i ≤ n ∧ ∀ m ∈ l.take i, 0 ≤ m ∧ m ≤ 4096) 0 ?_ (.refl _) ⟨Nat.zero_le _, by simp⟩ ?_
 ·exact .cons rfl (.cons rfl (.cons rfl (.nil _)))
 rintro i ⟨hi, he⟩
 refine Yn 1 rfl ?_
 refine Wp.seq ?_
 refine Wp.cond rfl (fun h3 => ?_) (fun h3 => ?_)
 ·have h3 := of_decide_eq_true h3
  have hlt : i < n := by omega
  obtain ⟨b1, o1, c1, l1, t1, f1, hv1, hm1, _, hg1⟩ := hl.get1 (by omega)
  cases hv1
  have x1 : l[i]? = some l[i] := by simp
  refine Wp.skip ?_
  refine Wp.seq ?_
  refine Wp.block ?_
  refine Yq ?_
  refine OWp.g rfl rfl (Gives.indexAddrSlice (i) rfl rfl rfl rfl rfl rfl (by omega)) ?_
  refine OWp.load (hm1) rfl rfl rfl rfl ((hg1 i hlt).trans (zi_get x1)) ?_
  refine Yz 1 rfl ?_
  refine Yg 3 rfl ?_
  refine OWp.part 21 rfl (fun h4 => ?_) (fun h4 => ?_)
  ·have h4 := of_decide_eq_true h4
   refine Yz 3 rfl ?_
   refine Cy rfl ?_
   refine Yn 1 rfl ?_
   refine Wp.ret ⟨trivial, _, ⟨_, _, rfl, rfl, rfl⟩, ?_⟩
   rw [decide_eq_false (fun e => by have := e.2.2 l[i] (by simp); omega)] at h; exact h
  have h4 := of_decide_eq_false h4
  refine Yz 3 rfl ?_
  refine Wp.cond rfl (fun h5 => ?_) (fun h5 => ?_)
  ·have h5 := of_decide_eq_true h5
   refine Yn 1 rfl ?_
   refine Wp.ret ⟨trivial, _, ⟨_, _, rfl, rfl, rfl⟩, ?_⟩
   rw [decide_eq_false (fun e => by have := e.2.2 l[i] (by simp); omega)] at h; exact h
  have h5 := of_decide_eq_false h5
  refine Wp.skip ?_
  refine Wp.region ?_
  refine Yz 2 rfl ?_
  refine ⟨i + 1, by omega, ⟨by omega, ?_⟩, ?_, .refl _⟩
  ·intro m hm
   rw [List.take_add_one, x1] at hm
   rcases List.mem_append.1 hm with hm | hm
   ·exact he m hm
   ·simp at hm; subst hm; omega
  ·exact .cons' rfl (int_eq (by rw [i64_id] <;> omega)) (.cons rfl (.cons rfl (.nil _)))
 have h3 := of_decide_eq_false h3
 refine Wp.exit ?_
 refine Yn 1 rfl ?_
 refine Wp.ret ⟨trivial, _, ⟨_, _, rfl, rfl, rfl⟩, ?_⟩
 rw [decide_eq_true ⟨by omega, by omega, by rw [List.take_of_length_le (by omega)] at he; exact he⟩] at h; exact h
theorem table_no {most mean : Int} (hm : ¬ mayP most [mean]) (h : Q (.tuple #[.slice none 0 0, .int .i64 1]) S) : CallWp Tryz.prog B 58 #[.int .i64 mean, .int .i64 most] Q S := by
 refine Yx (args := [_, _]) Tryz.func58 Tryz.ntmps58 ?_
 refine Yn 2 rfl ?_
 refine Wp.seq ?_
 refine Yg 2 rfl ?_
 refine OWp.step rfl (Step.buildSlice rfl rfl rfl ?_); intro L hBL hLL
 refine Yc rfl rfl (mayC (l := [mean]) (Reads.row (k := 1) (sz := 1) (.head _) (Nat.le_refl 1)) (by decide) ?_)
 rw [decide_eq_false hm]
 refine Yz 1 rfl ?_
 refine Cy rfl ?_
 refine Wp.drop (S' := S) subl ?_
 refine Yn 2 rfl ?_
 refine Wp.ret ⟨trivial, _, ⟨_, _, rfl, rfl, _, _, rfl, rfl, rfl⟩, ?_⟩
 exact h
theorem table_yes {most mean : Nat} (h1 : most ≤ 4096) (h2 : mean ≤ 4096)
  (h : ∀ L, B ≤ L → (∀ x ∈ S, x.1 < L) → Q (.tuple #[.slice (some ⟨L, 0, none⟩) (most + 1) (most + 1), .int .i64 0]) ((L, cel (ints (tabs mean (most + 1))) 3) :: S)) :
  CallWp Tryz.prog B 58 #[.int .i64 (mean : Int), .int .i64 (most : Int)] Q S := by
 refine Yx (args := [_, _]) Tryz.func58 Tryz.ntmps58 ?_
 refine Yn 2 rfl ?_
 refine Wp.seq ?_
 refine Yg 2 rfl ?_
 refine OWp.step rfl (Step.buildSlice rfl rfl rfl ?_); intro L0 hBL0 hLL0
 refine Yc rfl rfl (mayC (l := [(mean : Int)]) (Reads.row (k := 1) (sz := 1) (.head _) (Nat.le_refl 1)) (by decide) ?_)
 rw [decide_eq_true ((mayP_one _ _).2 ⟨by omega, by omega, by omega, by omega⟩)]
 refine Yz 1 rfl ?_
 refine Cn rfl ?_
 refine Wp.skip ?_
 refine Yg 2 rfl ?_
 refine OWp.step rfl (Step.makeSlice (len := most + 1) (cap := most + 1) rfl rfl rfl rfl rfl rfl (by decide) (by show _ = some (Value.int .i64 ((most + 1 : Nat) : Int)); rw [← wrap_add1 most (by unfold lim; omega)]; rfl) (by show _ = some (Value.int .i64 ((most + 1 : Nat) : Int)); rw [← wrap_add1 most (by unfold lim; omega)]; rfl) (Nat.le_refl _) ?_ (by omega) ?_)
 ·show 8 * (most + 1) ≤ _; omega
 intro L hBL hLL
 rw [show zeros (cellsOf (.int .i64 0)) (most + 1) = ints (List.replicate (most + 1) 0) from zeros_ints (most + 1)]
 refine Yz 1 rfl ?_
 refine Yg 1 rfl ?_
 refine OWp.g rfl rfl (Gives.indexAddrSlice (0) rfl rfl rfl rfl rfl rfl (by omega)) ?_
 refine OWp.step rfl (Step.storeAs 0 (ints ((List.replicate (most + 1) 0).set 0 4294967296)) rfl rfl rfl rfl rfl (by assumption) rfl (Unfz.zero _) rfl (by rw [ints_length, List.length_replicate]; show 0 + 0 * 1 + 1 ≤ _; omega) (ints_set' (List.replicate (most + 1) 0) _ 0 4294967296 (by simp) (by show 0 + 0 * 1 = 0; omega)) rfl ?_)
 refine OWp.nil ?_
 refine Wp.seq ?_
 refine Yn 2 rfl ?_
 refine Wp.block ?_
 refine Wp.loopS (α := Nat) (fun i => most - i) (fun i => [(19, .int .i64 (i : Int)), (18, .int .i64 (most : Int)), (6, .slice (some ⟨L, 0, none⟩) (most + 1) (most + 1)), (0, .int .i64 (mean : Int))]) (fun i => (L, cel (ints (tabs mean (i + 1) ++ List.replicate (most - i) 0)) 3) :: (L0, cel [.int .i64 (mean : Int)] 3) :: S) (fun i => i ≤ most) 0 ?_ ?_ (Nat.zero_le _) ?_
 ·exact .cons rfl (.cons rfl (.cons rfl (.cons rfl (.nil _))))
 ·exact .refl _
 intro i hi
 have hlen : (tabs mean (i + 1) ++ List.replicate (most - i) 0).length = most + 1 := by simp [tabs]; omega
 refine Yn 1 rfl ?_
 refine Wp.seq ?_
 refine Wp.cond rfl (fun h3 => ?_) (fun h3 => ?_)
 ·have h3 := of_decide_eq_true h3
  refine Wp.skip ?_
  refine Wp.seq ?_
  refine Wp.block ?_
  refine Yn 2 rfl ?_
  refine Wp.region ?_
  refine Ye 5 rfl ?_
  refine OWp.g rfl rfl (Gives.indexAddrSlice (i) rfl rfl rfl rfl rfl rfl (by omega)) ?_
  refine OWp.load (.head _) rfl rfl rfl rfl (ints_part _ i (by omega)) ?_
  refine Ye 4 rfl ?_
  refine OWp.g rfl rfl (Gives.quo rfl rfl rfl (by rw [i64_id] <;> omega)) ?_
  rw [tabs_getD (Nat.lt_succ_self i), table_step (tab_le _ _) h2]
  refine OWp.g rfl rfl (Gives.indexAddrSlice (i + 1) rfl rfl rfl rfl rfl (wrap_add1 i (by unfold lim; omega)) (by omega)) ?_
  refine OWp.step rfl (Step.storeAs 0 (ints (tabs mean (i + 2) ++ List.replicate (most - (i + 1)) 0)) rfl rfl rfl rfl rfl (by assumption) rfl (Unfz.zero _) rfl (by rw [ints_length, hlen]; show 0 + (i + 1) * 1 + 1 ≤ _; omega) (by rw [← tabs_set (by omega)]; exact ints_set' _ _ (i + 1) (tab mean (i + 1)) (by omega) (by show 0 + (i + 1) * 1 = i + 1; omega)) rfl ?_)
  refine OWp.nil ?_
  refine Wp.region ?_
  refine Yz 2 rfl ?_
  refine ⟨i + 1, by omega, by omega, ?_, .refl _⟩
  exact .cons' rfl (int_eq (wrap_add1 i (by unfold lim; omega))) (.cons rfl (.cons rfl (.cons rfl (.nil _))))
 have h3 := of_decide_eq_false h3
 obtain rfl : i = most := by omega
 rw [Nat.sub_self, List.replicate_zero, List.append_nil]
 refine Wp.exit ?_
 refine Wp.drop (S' := (L, cel (ints (tabs mean (i + 1))) 3) :: S) (.cons_cons _ (.cons _ (.refl _))) ?_
 refine Yn 3 rfl ?_
 refine Wp.ret ⟨trivial, _, ⟨_, _, rfl, rfl, _, _, rfl, rfl, rfl⟩, ?_⟩
 exact h L hBL (fun x hx => hLL x (List.mem_cons_of_mem _ hx))
end
end Go.Proofs.C

namespace Go.Proofs.C
open Go.Lg
set_option maxRecDepth 100000

section
variable {B : Nat} {S R : Ents} {Q : Value → Ents → Prop}

/-- sort.Search: the place behind which the answer turns. -/
theorem searchC {n : Nat} {g : FuncId} {cap : Array Value} {f : Nat → Bool} (hc : callable Tryz.prog g = true) (hn : n ≤ lim)
    (hf : ∀ i, i < n → ∀ Q' : Value → Ents → Prop, Q' (.bool (f i)) S → CallWp Tryz.prog B g ([Value.int .i64 (i : Int)] ++ cap.toList).toArray Q' S)
    (h : ∀ j, j ≤ n → (0 < j → f (j - 1) = false) → (j < n → f j = true) → Q (.int .i64 (j : Int)) S) :
    CallWp Tryz.prog B 178 #[.int .i64 (n : Int), .func (.func g) #[] cap] Q S := by
  unfold lim at hn
  refine CallWp.enter (args := [_, _]) Tryz.func178 rfl Tryz.ntmps178 rfl ?_
  refine Wp.seq (Wp.region ?_)
  refine OWp.evs 1 rfl ?_
  refine OWp.nil ?_
  refine Wp.seq (Wp.region ?_)
  refine OWp.evs 3 rfl ?_
  refine OWp.nil ?_
  refine Wp.seq ?_
  refine Wp.block ?_
  refine Wp.loopS (α := Nat × Nat) (fun x => x.2 - x.1) (fun x => [(5, .int .i64 (x.1 : Int)), (6, .int .i64 (x.2 : Int)), (1, .func (.func g) #[] cap)]) (fun _ => S) (fun x => x.1 ≤ x.2 ∧ x.2 ≤ n ∧ (0 < x.1 → f (x.1 - 1) = false) ∧ (x.2 < n → f x.2 = true)) (0, n) ?_ (.refl _) ⟨by simp, by simp, by simp, by simp⟩ ?_
  · exact .cons rfl (.cons rfl (.cons rfl (.nil _)))
  rintro ⟨i, j⟩ ⟨hij, hj, hi0, hj1⟩
  simp only at hij hj hi0 hj1 ⊢
  refine Wp.seq ?_
  refine Wp.seq (Wp.region ?_)
  refine OWp.evs 3 rfl ?_
  refine OWp.nil ?_
  refine Wp.cond rfl (fun h1 => ?_) (fun h1 => ?_)
  · have h1 := of_decide_eq_true h1
    refine Wp.skip ?_
    refine Wp.block ?_
    refine Wp.seq (Wp.region ?_)
    refine OWp.evs 7 rfl ?_
    refine OWp.nil ?_
    refine Wp.seq (Wp.region ?_)
    refine OWp.evs 2 rfl ?_
    refine OWp.step rfl (Step.call rfl rfl rfl rfl rfl hc ?_)
    rw [mid_id (by omega)]
    refine hf ((i + j) / 2) (by omega) _ ?_
    generalize hb : f ((i + j) / 2) = b
    cases b
    · skip
      refine OWp.evs 1 rfl ?_
      refine OWp.nil ?_
      refine Wp.cond rfl (fun _ => ?_) (fun c => nomatch c)
      refine Wp.region ?_
      refine OWp.evs 3 rfl ?_
      refine OWp.nil ?_
      refine ⟨((i + j) / 2 + 1, j), by simp only; omega, ⟨by simp only; omega, by simp only; omega, fun _ => ?_, hj1⟩, ?_, .refl _⟩
      · simpa using hb
      · exact .cons' rfl (int_eq (wrap_add1 _ (by unfold lim; omega))) (.cons rfl (.cons rfl (.nil _)))
    refine OWp.evs 1 rfl ?_
    refine OWp.nil ?_
    refine Wp.cond rfl (fun c => nomatch c) (fun _ => ?_)
    refine Wp.region ?_
    refine OWp.evs 2 rfl ?_
    refine OWp.nil ?_
    refine ⟨(i, (i + j) / 2), by simp only; omega, ⟨by simp only; omega, by simp only; omega, hi0, fun _ => hb⟩, ?_, .refl _⟩
    · exact .cons' rfl rfl (.cons rfl (.cons rfl (.nil _)))
  have h1 := of_decide_eq_false h1
  obtain rfl : i = j := by omega
  refine Wp.exit ?_
  refine Wp.seq (Wp.region ?_)
  refine OWp.evs 2 rfl ?_
  refine OWp.nil ?_
  refine Wp.ret ⟨trivial, _, ⟨_, _, rfl, rfl, rfl⟩, ?_⟩
  exact h i hj hi0 hj1
theorem of1C {L8 L5 L mean most i u cap : Nat} (h8 : (L8, cel [.slice (some ⟨L, 0, none⟩) (most + 1) cap] 141) ∈ S) (hL : (L, cel (ints (tabs mean (most + 1))) 3) ∈ S)
    (h5 : (L5, cel [.int .i64 (u : Int)] 3) ∈ S) (hi : i < most) (hm : most ≤ 4096) (h : Q (.bool (decide (tab mean (i + 1) ≤ u))) S) :
    CallWp Tryz.prog B 179 #[.int .i64 (i : Int), pt L8, pt L5] Q S := by
  refine CallWp.enter (args := [_, _, _]) Tryz.func179 rfl Tryz.ntmps179 rfl ?_
  refine Wp.seq (Wp.region ?_)
  refine OWp.evs 1 rfl ?_
  refine OWp.nil ?_
  refine Wp.seq (Wp.regionDraw [0, 1, 2, 3, 4, 5, 6, 7] [] rfl (by decide +kernel) ?_)
  refine DWp.load ((by repeat (first | exact h8 | apply List.mem_cons_of_mem | apply List.mem_append_right))) rfl rfl rfl rfl rfl rfl rfl ?_
  refine DWp.evs 2 rfl ?_
  refine DWp.g rfl rfl rfl rfl (Gives.indexAddrSlice (i + 1) rfl rfl rfl rfl rfl (wrap_add1 i (by unfold lim; omega)) (by omega)) ?_
  refine DWp.load ((by repeat (first | exact hL | apply List.mem_cons_of_mem | apply List.mem_append_right))) rfl rfl rfl rfl rfl rfl (by exact ints_part (tabs mean (most + 1)) (i + 1) (by rw [tabs_len]; omega)) ?_
  refine DWp.load ((by repeat (first | exact h5 | apply List.mem_cons_of_mem | apply List.mem_append_right))) rfl rfl rfl rfl rfl rfl rfl ?_
  refine DWp.evs 2 rfl ?_
  refine DWp.nil ?_
  refine Wp.ret ⟨trivial, _, ⟨_, _, rfl, rfl, rfl⟩, ?_⟩
  rw [show (tabs mean (most + 1)).getD (i + 1) 0 = tab mean (i + 1) by simp [tabs, hi]]
  rw [decide_eq_decide.2 (Int.ofNat_le)]
  exact h
def ofP (mean most u : Int) : Prop := mayP most [mean] ∧ 0 ≤ u ∧ u < 4294967296

theorem of_no {mean most u : Int} (hp : ¬ ofP mean most u) (h : Q (.tuple #[.int .i64 0, .int .i64 1]) S) : CallWp Tryz.prog B 147 #[.int .i64 mean, .int .i64 most, .int .i64 u] Q S := by
  unfold ofP at hp
  by_cases hm : mayP most [mean]
  · obtain ⟨m1, m2, m3, m4⟩ := (mayP_one _ _).1 hm
    obtain ⟨mean, rfl⟩ : ∃ m : Nat, mean = (m : Int) := ⟨mean.toNat, by omega⟩
    obtain ⟨most, rfl⟩ : ∃ m : Nat, most = (m : Int) := ⟨most.toNat, by omega⟩
    refine CallWp.enter (args := [_, _, _]) Tryz.func147 rfl Tryz.ntmps147 rfl ?_
    refine Wp.seq (Wp.region ?_)
    refine OWp.step rfl (Step.box rfl rfl rfl ?_); intro L5 hBL5 hLL5
    refine OWp.evs 2 rfl ?_
    refine OWp.nil ?_
    refine Wp.seq (Wp.region ?_)
    refine OWp.evs 2 rfl ?_
    refine OWp.step rfl (Step.call rfl rfl rfl rfl rfl rfl ((table_yes (by omega) (by omega) ?_)))
    intro L hBL hLL
    refine OWp.evs 3 rfl ?_
    refine OWp.step rfl (Step.alloc rfl rfl rfl ?_); intro L8 hBL8 hLL8
    refine OWp.step rfl (Step.store 0 rfl rfl rfl rfl rfl (by assumption) rfl (Nat.le_of_ble_eq_true rfl) (Unfz.zero _) rfl rfl ?_)
    refine OWp.evs 1 rfl ?_
    refine OWp.nil ?_
    refine Wp.seq ?_
    refine Wp.seq (Wp.region ?_)
    refine OWp.evs 3 rfl ?_
    first | refine OWp.load (List.Mem.head _) rfl rfl rfl rfl rfl ?_ | refine OWp.load (List.Mem.tail _ (List.Mem.head _)) rfl rfl rfl rfl rfl ?_ | refine OWp.load (List.Mem.tail _ (List.Mem.tail _ (List.Mem.head _))) rfl rfl rfl rfl rfl ?_ | refine OWp.load (List.Mem.tail _ (List.Mem.tail _ (List.Mem.tail _ (List.Mem.head _)))) rfl rfl rfl rfl rfl ?_ | refine OWp.load (List.Mem.tail _ (List.Mem.tail _ (List.Mem.tail _ (List.Mem.tail _ (List.Mem.head _))))) rfl rfl rfl rfl rfl ?_ | refine OWp.load (List.Mem.tail _ (List.Mem.tail _ (List.Mem.tail _ (List.Mem.tail _ (List.Mem.tail _ (List.Mem.head _)))))) rfl rfl rfl rfl rfl ?_
    refine OWp.evs 3 rfl ?_
    refine OWp.part 22 rfl (fun h1 => ?_) (fun h1 => ?_)
    · have h1 := of_decide_eq_true h1
      refine OWp.evs 3 rfl ?_
      refine OWp.nil ?_
      refine Wp.cond rfl (fun _ => ?_) (fun c => nomatch c)
      refine Wp.drop (S' := S) subl ?_
      refine Wp.seq (Wp.region ?_)
      refine OWp.evs 2 rfl ?_
      refine OWp.nil ?_
      refine Wp.ret ⟨trivial, _, ⟨_, _, rfl, rfl, _, _, rfl, rfl, rfl⟩, ?_⟩
      exact h
    have h1 := of_decide_eq_false h1
    first | refine OWp.load (List.Mem.head _) rfl rfl rfl rfl rfl ?_ | refine OWp.load (List.Mem.tail _ (List.Mem.head _)) rfl rfl rfl rfl rfl ?_ | refine OWp.load (List.Mem.tail _ (List.Mem.tail _ (List.Mem.head _))) rfl rfl rfl rfl rfl ?_ | refine OWp.load (List.Mem.tail _ (List.Mem.tail _ (List.Mem.tail _ (List.Mem.head _)))) rfl rfl rfl rfl rfl ?_ | refine OWp.load (List.Mem.tail _ (List.Mem.tail _ (List.Mem.tail _ (List.Mem.tail _ (List.Mem.head _))))) rfl rfl rfl rfl rfl ?_ | refine OWp.load (List.Mem.tail _ (List.Mem.tail _ (List.Mem.tail _ (List.Mem.tail _ (List.Mem.tail _ (List.Mem.head _)))))) rfl rfl rfl rfl rfl ?_
    refine OWp.evs 2 rfl ?_
    refine OWp.nil ?_
    refine Wp.cond rfl (fun cc1 => ?_) (fun cc1 => absurd (of_decide_eq_false cc1) (by exact Classical.byContradiction fun h2 => hp ⟨hm, by omega, by omega⟩))
    have cc1 := of_decide_eq_true cc1
    refine Wp.drop (S' := S) subl ?_
    refine Wp.seq (Wp.region ?_)
    refine OWp.evs 2 rfl ?_
    refine OWp.nil ?_
    refine Wp.ret ⟨trivial, _, ⟨_, _, rfl, rfl, _, _, rfl, rfl, rfl⟩, ?_⟩
    exact h
  · skip
    refine CallWp.enter (args := [_, _, _]) Tryz.func147 rfl Tryz.ntmps147 rfl ?_
    refine Wp.seq (Wp.region ?_)
    refine OWp.step rfl (Step.box rfl rfl rfl ?_); intro L5 hBL5 hLL5
    refine OWp.evs 2 rfl ?_
    refine OWp.nil ?_
    refine Wp.seq (Wp.region ?_)
    refine OWp.evs 2 rfl ?_
    refine OWp.step rfl (Step.call rfl rfl rfl rfl rfl rfl ((table_no hm ?_)))
    refine OWp.evs 3 rfl ?_
    refine OWp.step rfl (Step.alloc rfl rfl rfl ?_); intro L8 hBL8 hLL8
    refine OWp.step rfl (Step.store 0 rfl rfl rfl rfl rfl (by assumption) rfl (Nat.le_of_ble_eq_true rfl) (Unfz.zero _) rfl rfl ?_)
    refine OWp.evs 1 rfl ?_
    refine OWp.nil ?_
    refine Wp.seq ?_
    refine Wp.seq (Wp.region ?_)
    refine OWp.evs 3 rfl ?_
    refine OWp.evs 7 rfl ?_
    refine OWp.nil ?_
    refine Wp.cond rfl (fun _ => ?_) (fun c => nomatch c)
    refine Wp.drop (S' := S) subl ?_
    refine Wp.seq (Wp.region ?_)
    refine OWp.evs 2 rfl ?_
    refine OWp.nil ?_
    refine Wp.ret ⟨trivial, _, ⟨_, _, rfl, rfl, _, _, rfl, rfl, rfl⟩, ?_⟩
    exact h
theorem of_yes {mean most u : Nat} (h1 : most ≤ 4096) (h2 : mean ≤ 4096) (h3 : u < 4294967296) (h : Q (.tuple #[.int .i64 (dl mean u most : Nat), .int .i64 0]) S) :
    CallWp Tryz.prog B 147 #[.int .i64 (mean : Int), .int .i64 (most : Int), .int .i64 (u : Int)] Q S := by
  refine CallWp.enter (args := [_, _, _]) Tryz.func147 rfl Tryz.ntmps147 rfl ?_
  refine Wp.seq (Wp.region ?_)
  refine OWp.step rfl (Step.box rfl rfl rfl ?_); intro L5 hBL5 hLL5
  refine OWp.evs 2 rfl ?_
  refine OWp.nil ?_
  refine Wp.seq (Wp.region ?_)
  refine OWp.evs 2 rfl ?_
  refine OWp.step rfl (Step.call rfl rfl rfl rfl rfl rfl ((table_yes h1 h2 ?_)))
  intro L hBL hLL
  refine OWp.evs 3 rfl ?_
  refine OWp.step rfl (Step.alloc rfl rfl rfl ?_); intro L8 hBL8 hLL8
  refine OWp.step rfl (Step.store 0 rfl rfl rfl rfl rfl (by assumption) rfl (Nat.le_of_ble_eq_true rfl) (Unfz.zero _) rfl rfl ?_)
  refine OWp.evs 1 rfl ?_
  refine OWp.nil ?_
  refine Wp.seq ?_
  refine Wp.seq (Wp.region ?_)
  refine OWp.evs 3 rfl ?_
  first | refine OWp.load (List.Mem.head _) rfl rfl rfl rfl rfl ?_ | refine OWp.load (List.Mem.tail _ (List.Mem.head _)) rfl rfl rfl rfl rfl ?_ | refine OWp.load (List.Mem.tail _ (List.Mem.tail _ (List.Mem.head _))) rfl rfl rfl rfl rfl ?_ | refine OWp.load (List.Mem.tail _ (List.Mem.tail _ (List.Mem.tail _ (List.Mem.head _)))) rfl rfl rfl rfl rfl ?_ | refine OWp.load (List.Mem.tail _ (List.Mem.tail _ (List.Mem.tail _ (List.Mem.tail _ (List.Mem.head _))))) rfl rfl rfl rfl rfl ?_ | refine OWp.load (List.Mem.tail _ (List.Mem.tail _ (List.Mem.tail _ (List.Mem.tail _ (List.Mem.tail _ (List.Mem.head _)))))) rfl rfl rfl rfl rfl ?_
  refine OWp.evs 3 rfl ?_
  refine OWp.part 22 rfl (fun cc1 => absurd (of_decide_eq_true cc1) (by omega)) (fun cc1 => ?_)
  have cc1 := of_decide_eq_false cc1
  first | refine OWp.load (List.Mem.head _) rfl rfl rfl rfl rfl ?_ | refine OWp.load (List.Mem.tail _ (List.Mem.head _)) rfl rfl rfl rfl rfl ?_ | refine OWp.load (List.Mem.tail _ (List.Mem.tail _ (List.Mem.head _))) rfl rfl rfl rfl rfl ?_ | refine OWp.load (List.Mem.tail _ (List.Mem.tail _ (List.Mem.tail _ (List.Mem.head _)))) rfl rfl rfl rfl rfl ?_ | refine OWp.load (List.Mem.tail _ (List.Mem.tail _ (List.Mem.tail _ (List.Mem.tail _ (List.Mem.head _))))) rfl rfl rfl rfl rfl ?_ | refine OWp.load (List.Mem.tail _ (List.Mem.tail _ (List.Mem.tail _ (List.Mem.tail _ (List.Mem.tail _ (List.Mem.head _)))))) rfl rfl rfl rfl rfl ?_
  refine OWp.evs 2 rfl ?_
  refine OWp.nil ?_
  refine Wp.cond rfl (fun cc2 => absurd (of_decide_eq_true cc2) (by omega)) (fun cc2 => ?_)
  have cc2 := of_decide_eq_false cc2
  refine Wp.skip ?_
  refine Wp.seq (Wp.region ?_)
  refine OWp.evs 2 rfl ?_
  refine OWp.step rfl (Step.call rfl rfl rfl rfl rfl rfl ((searchC (f := fun i => decide (tab mean (i + 1) ≤ u)) rfl (by unfold lim; omega) (fun i hi Q' hq => of1C mems mems mems hi h1 hq) ?_)))
  intro j hj hj0 hj1
  refine OWp.evs 2 rfl ?_
  refine OWp.nil ?_
  refine Wp.drop (S' := S) subl ?_
  refine Wp.ret ⟨trivial, _, ⟨_, _, rfl, rfl, _, _, rfl, rfl, rfl⟩, ?_⟩
  have e : dl mean u most = j := dl_cut hj (fun i hi => ?_) (fun i hi hk => ?_)
  · rw [e] at h; exact h
  · have := hj0 (by omega)
    have := of_decide_eq_false this
    have h4 := tab_anti mean (show i + 1 ≤ j - 1 + 1 by omega)
    omega
  · have := of_decide_eq_true (hj1 (by omega))
    have h4 := tab_anti mean (show j + 1 ≤ i + 1 by omega)
    omega
end
end Go.Proofs.C

namespace Go.Proofs.C
open Go.Lg
set_option maxRecDepth 100000

instance (mean most u : Int) : Decidable (ofP mean most u) := by unfold ofP; infer_instance
/-- The delay of a word, and why there is none. -/
def ofR (mean most u : Int) : Int × Int := if ofP mean most u then ((dl mean.toNat u.toNat most.toNat : Nat), 0) else (0, 1)
def um (x : Int) (d : Nat) : Nat := (x % 18446744073709551616 % d).toNat
section
variable {B : Nat} {S R : Ents} {Q : Value → Ents → Prop}

theorem ofC {mean most u : Int} (h : Q (.tuple #[.int .i64 (ofR mean most u).1, .int .i64 (ofR mean most u).2]) S) : CallWp Tryz.prog B 147 #[.int .i64 mean, .int .i64 most, .int .i64 u] Q S := by
 by_cases hp : ofP mean most u
 ·have hp' := hp
  obtain ⟨hm, h1, h2⟩ := hp'
  obtain ⟨m1, m2, m3, m4⟩ := (mayP_one _ _).1 hm
  rw [ofR, if_pos hp] at h
  obtain ⟨mean, rfl⟩ : ∃ m : Nat, mean = (m : Int) := ⟨mean.toNat, by omega⟩
  obtain ⟨most, rfl⟩ : ∃ m : Nat, most = (m : Int) := ⟨most.toNat, by omega⟩
  obtain ⟨u, rfl⟩ : ∃ m : Nat, u = (m : Int) := ⟨u.toNat, by omega⟩
  exact of_yes (by omega) (by omega) (by omega) h
 ·rw [ofR, if_neg hp] at h
  exact of_no hp h
end
end Go.Proofs.C

namespace Go.Proofs.C
open Go.Lg
set_option maxRecDepth 100000

section
variable {B : Nat} {S R : Ents} {Q : Value → Ents → Prop} {s : List UInt8} {k p : Nat}

end
end Go.Proofs.C

namespace Go.Proofs.C
open Go.Lg
set_option maxRecDepth 100000

/-- The delay that is drawn at place i. -/
def dr (s : List UInt8) (most : Int) (k : Nat) (l : List Int) (i : Nat) : Nat := dl (l.getD i 0).toNat (word s (k + 4 * i)) most.toNat
def drawn (s : List UInt8) (most : Int) (k : Nat) (l : List Int) (n : Nat) : List Nat := (List.range n).map (dr s most k l)
/-- What Several tells: delays, why not, and where the tape stands. -/
def sevR (s : List UInt8) (most : Int) (k : Nat) (l : List Int) : List Nat × Nat × Nat :=
 if ¬ (mayP most l ∧ l.length ≤ 64) then ([], 1, k) else if s.length - k < 4 * l.length then ([], 120, k) else (drawn s most k l l.length, 0, k + 4 * l.length)
def drawR (s : List UInt8) (mean most : Int) (k : Nat) : Nat × Nat × Nat :=
 if ¬ mayP most [mean] then (0, 1, k) else if s.length - k < 4 then (0, 120, k) else (dl mean.toNat (word s k) most.toNat, 0, k + 4)

theorem drawn_len (s : List UInt8) (most : Int) (k : Nat) (l : List Int) (n : Nat) : (drawn s most k l n).length = n := by simp [drawn]
theorem drawn_snoc (s : List UInt8) (most : Int) (k : Nat) (l : List Int) (n : Nat) : drawn s most k l (n + 1) = drawn s most k l n ++ [dr s most k l n] := by simp [drawn, List.range_succ]
theorem ints_snoc (l : List Nat) (x : Nat) : ints (l ++ [x]) = ints l ++ [.int .i64 (x : Int)] := by simp [ints]
theorem four_mul {n : Nat} (h : n ≤ 64) : IntKind.i64.wrap (4 * (n : Int)) = ((4 * n : Nat) : Int) := by rw [i64_id] <;> omega

section
variable {B : Nat} {S R : Ents} {Q : Value → Ents → Prop} {s : List UInt8} {k p : Nat}

theorem sevC {most : Int} {v : Value} {n : Nat} {l : List Int} (hB : B ≤ p) (hs : s.length ≤ lim) (hk : k ≤ s.length) (hl : Reads R 1 v n (zi l)) (hn : n ≤ lim)
  (h : ∀ u es, Lg.Own B 3 1 u (sevR s most k l).1.length (ints (sevR s most k l).1) es → Q (.tuple #[u, .int .i64 ((sevR s most k l).2.1 : Nat)]) (tp p s (sevR s most k l).2.2 :: (R ++ es))) :
  CallWp Tryz.prog B 109 #[pt p, .int .i64 most, v] Q (tp p s k :: R) := by
 have hl' : Reads (tp p s k :: R) 1 v n (zi l) := hl.mono fun x hx => .tail _ hx
 have e1 : l.length = n := by have := hl.1; rw [zi_length] at this; omega
 obtain ⟨aa, ac, rfl⟩ := hl.form
 unfold sevR at h
 by_cases hm : mayP most l ∧ l.length ≤ 64
 ·rw [if_neg (by simpa using hm)] at h
  obtain ⟨hm, h64⟩ := hm
  by_cases ht : s.length - k < 4 * l.length
  ·rw [if_pos ht] at h
   have h0 := h _ _ (Own.nil B 3 1)
   rw [List.append_nil] at h0
   refine Yx (args := [_, _, _]) Tryz.func109 Tryz.ntmps109 ?_
   refine Yn 2 rfl ?_
   refine Wp.seq ?_
   refine Wp.block ?_
   refine Yg 2 rfl ?_
   refine Yc rfl rfl (mayC hl' hn ?_)
   rw [decide_eq_true hm]
   refine Ye 2 rfl ?_
   refine Yz 5 rfl ?_
   refine Ct rfl (by omega) fun cc1 => ?_
   refine Yg 3 rfl ?_
   refine Ye 3 rfl ?_
   refine Yc rfl rfl (left (.head _) hk hs ?_)
   refine Yz 6 rfl ?_
   refine Cv rfl (by rw [four_mul (by omega)]; omega) fun cc2 => ?_
   refine Yn 2 rfl ?_
   refine Wp.ret ⟨trivial, _, ⟨_, _, rfl, rfl, _, _, rfl, rfl, rfl⟩, ?_⟩
   exact h0
  ·rw [if_neg ht] at h
   refine Yx (args := [_, _, _]) Tryz.func109 Tryz.ntmps109 ?_
   refine Yn 2 rfl ?_
   refine Wp.seq ?_
   refine Wp.block ?_
   refine Yg 2 rfl ?_
   refine Yc rfl rfl (mayC hl' hn ?_)
   rw [decide_eq_true hm]
   refine Ye 2 rfl ?_
   refine Yz 5 rfl ?_
   refine Ct rfl (by omega) fun cc1 => ?_
   refine Yg 3 rfl ?_
   refine Ye 3 rfl ?_
   refine Yc rfl rfl (left (.head _) hk hs ?_)
   refine Yz 6 rfl ?_
   refine Ct rfl (by rw [four_mul (by omega)]; omega) fun cc2 => ?_
   refine Wp.skip ?_
   refine Yn 1 rfl ?_
   refine Wp.seq ?_
   refine Yn 3 rfl ?_
   refine Wp.block ?_
   refine Wp.loopS (α := Nat × Value × Ents) (fun x => n - x.1) (fun x => [(40, .int .i64 (x.1 : Int)), (39, .int .i64 (n : Int)), (38, .slice aa n ac), (8, x.2.1), (0, pt p), (1, .int .i64 most)]) (fun x => tp p s (k + 4 * x.1) :: (x.2.2 ++ R)) (fun x => x.1 ≤ n ∧ Lg.Own B 3 1 x.2.1 x.1 (ints (drawn s most k l x.1)) x.2.2) (0, .slice none 0 0, []) ?_ (.refl _) ⟨Nat.zero_le _, Own.nil B 3 1⟩ ?_
   ·exact .cons rfl (.cons rfl (.cons rfl (.cons rfl (.cons rfl (.cons rfl (.nil _))))))
   rintro ⟨i, u, es⟩ ⟨hi, hown⟩
   simp only at hi hown ⊢
   refine Yn 1 rfl ?_
   refine Wp.seq ?_
   refine Wp.cond rfl (fun h3 => ?_) (fun h3 => ?_)
   ·have h3 := of_decide_eq_true h3
    have hlt : i < n := by omega
    obtain ⟨b1, o1, c1, l1, t1, f1, hv1, hm1, _, hg1⟩ := hl.get1 (by omega)
    cases hv1
    have x1 : l[i]? = some (l.getD i 0) := by rw [List.getD_eq_getElem?_getD, List.getElem?_eq_getElem (by omega)]; rfl
    have hmi := hm.2.2 (l.getD i 0) (List.mem_of_getElem? x1)
    have hmo := hm
    obtain ⟨ho0, ho1, _⟩ := hmo
    refine Wp.skip ?_
    refine Wp.seq ?_
    refine Wp.block ?_
    refine Yq ?_
    refine OWp.g rfl rfl (Gives.indexAddrSlice (i) rfl rfl rfl rfl rfl rfl (by omega)) ?_
    refine OWp.load ((by repeat (first | exact hm1 | apply List.mem_cons_of_mem | apply List.mem_append_right))) rfl rfl rfl rfl ((hg1 i hlt).trans (zi_get x1)) ?_
    refine Yz 1 rfl ?_
    refine Yg 1 rfl ?_
    refine Yc rfl rfl (word_yes hB hs (by omega) ?_)
    refine Yz 5 rfl ?_
    refine Yg 3 rfl ?_
    refine Yc rfl rfl (ofC ?_)
    rw [show ofR (l.getD i 0) most (word s (k + 4 * i) : Nat) = (((dr s most k l i : Nat) : Int), 0) by
     unfold ofR
     rw [if_pos (show ofP (l.getD i 0) most (word s (k + 4 * i) : Nat) from ⟨(mayP_one _ _).2 ⟨ho0, ho1, hmi.1, hmi.2⟩, by omega, by have := be4_lt (s.drop (k + 4 * i)); show ((be4 (s.drop (k + 4 * i)) : Nat) : Int) < _; omega⟩)]
     rfl]
    refine Yz 5 rfl ?_
    refine Wp.region ?_
    refine Ye 2 rfl ?_
    refine OWp.step rfl (Step.buildSlice rfl rfl rfl ?_); intro Lp3 hBLp3 hLLp3
    refine OWp.step rfl (Step.appendAt [_, _] rfl rfl rfl rfl rfl rfl (by decide) rfl rfl hown (Reads.row (k := 1) (sz := 1) (.head _) (Nat.le_of_ble_eq_true rfl)) rfl (by show (_ + 1) * 8 ≤ _; omega) (by unfold maxLen; omega) ?_); intro v3 es3 ho3 _
    refine OWp.dropAt 0 rfl ?_
    refine Yz 1 rfl ?_
    refine Wp.region ?_
    refine Yz 2 rfl ?_
    refine ⟨(i + 1, v3, es3), by simp only; omega, ⟨by simp only; omega, ?_⟩, ?_, .refl _⟩
    ·simp only; rw [drawn_snoc, ints_snoc]; exact ho3
    ·exact .cons' rfl (int_eq (wrap_add1 i (by unfold lim; omega))) (.cons rfl (.cons rfl (.cons rfl (.cons rfl (.cons rfl (.nil _))))))
   have h3 := of_decide_eq_false h3
   obtain rfl : i = n := by omega
   refine Wp.exit ?_
   refine Wp.permS (List.Perm.cons _ List.perm_append_comm) ?_
   refine Yn 3 rfl ?_
   refine Wp.ret ⟨trivial, _, ⟨_, _, rfl, rfl, _, _, rfl, rfl, rfl⟩, ?_⟩
   rw [e1] at h
   exact h u es (by rw [drawn_len]; exact hown)
 ·rw [if_pos hm] at h
  have h0 := h _ _ (Own.nil B 3 1)
  rw [List.append_nil] at h0
  refine Yx (args := [_, _, _]) Tryz.func109 Tryz.ntmps109 ?_
  refine Yn 2 rfl ?_
  refine Wp.seq ?_
  refine Wp.block ?_
  refine Yg 2 rfl ?_
  refine Yc rfl rfl (mayC hl' hn ?_)
  by_cases hmm : mayP most l
  ·skip
   rw [decide_eq_true hmm]
   have : ¬ l.length ≤ 64 := fun e => hm ⟨hmm, e⟩
   refine Ye 2 rfl ?_
   refine Yz 5 rfl ?_
   refine Cv rfl (by omega) fun cc1 => ?_
   refine Yn 2 rfl ?_
   refine Wp.ret ⟨trivial, _, ⟨_, _, rfl, rfl, _, _, rfl, rfl, rfl⟩, ?_⟩
   exact h0
  rw [decide_eq_false hmm]
  refine Ye 2 rfl ?_
  refine Yz 5 rfl ?_
  refine Cy rfl ?_
  refine Yn 2 rfl ?_
  refine Wp.ret ⟨trivial, _, ⟨_, _, rfl, rfl, _, _, rfl, rfl, rfl⟩, ?_⟩
  exact h0
theorem drawC {mean most : Int} (hB : B ≤ p) (hs : s.length ≤ lim) (hk : k ≤ s.length)
  (h : Q (.tuple #[.int .i64 ((drawR s mean most k).1 : Nat), .int .i64 ((drawR s mean most k).2.1 : Nat)]) (tp p s (drawR s mean most k).2.2 :: R)) :
  CallWp Tryz.prog B 69 #[pt p, .int .i64 mean, .int .i64 most] Q (tp p s k :: R) := by
 have e : sevR s most k [mean] = if ¬ mayP most [mean] then ([], 1, k) else if s.length - k < 4 then ([], 120, k) else ([dl mean.toNat (word s k) most.toNat], 0, k + 4) := by
  unfold sevR
  by_cases hm : mayP most [mean]
  ·rw [if_neg (show ¬¬(mayP most [mean] ∧ [mean].length ≤ 64) by simp [hm]), if_neg (show ¬¬ mayP most [mean] by simpa using hm)]; rfl
  ·rw [if_pos (by simp [hm]), if_pos hm]
 unfold drawR at h
 refine Yx (args := [_, _, _]) Tryz.func69 Tryz.ntmps69 ?_
 refine Yn 2 rfl ?_
 refine Yg 3 rfl ?_
 refine OWp.step rfl (Step.buildSlice rfl rfl rfl ?_); intro L hBL hLL
 refine Yc rfl rfl (CallWp.focus 1 rfl ((sevC hB hs hk (l := [mean]) (Reads.row (k := 1) (sz := 1) (.head _) (Nat.le_refl 1)) (by decide) ?_)))
 intro u es hown
 rw [e] at hown ⊢
 by_cases hm : mayP most [mean]
 ·skip
  rw [if_neg (by simpa using hm)] at h hown ⊢
  by_cases ht : s.length - k < 4
  ·skip
   rw [if_pos ht] at h hown ⊢
   refine Yz 5 rfl ?_
   refine Wp.seq ?_
   refine Yn 2 rfl ?_
   refine Cy rfl ?_
   refine Wp.drop (List.Sublist.cons_cons _ (List.Sublist.cons _ (List.sublist_append_left _ _))) ?_
   refine Yn 3 rfl ?_
   refine Wp.ret ⟨trivial, _, ⟨_, _, rfl, rfl, _, _, rfl, rfl, rfl⟩, ?_⟩
   exact h
  rw [if_neg ht] at h hown ⊢
  obtain ⟨b1, o1, c1, l1, t1, f1, hv1, hm1, _, hg1⟩ := hown.reads.get1 (show 0 < 1 by decide)
  subst hv1
  refine Yz 5 rfl ?_
  refine Wp.seq ?_
  refine Yn 2 rfl ?_
  refine Cn rfl ?_
  refine Wp.skip ?_
  refine Yg 1 rfl ?_
  refine OWp.g rfl rfl (Gives.indexAddrSlice (0) rfl rfl rfl rfl rfl rfl (show 0 < 1 by decide)) ?_
  refine OWp.load (.tail _ (List.mem_append_right _ hm1)) rfl rfl rfl rfl (hg1 0 (show 0 < 1 by decide)) ?_
  refine Yz 2 rfl ?_
  refine Wp.drop (List.Sublist.cons_cons _ (List.Sublist.cons _ (List.sublist_append_left _ _))) ?_
  refine Wp.ret ⟨trivial, _, ⟨_, _, rfl, rfl, _, _, rfl, rfl, rfl⟩, ?_⟩
  exact h
 rw [if_pos hm] at h hown ⊢
 refine Yz 5 rfl ?_
 refine Wp.seq ?_
 refine Yn 2 rfl ?_
 refine Cy rfl ?_
 refine Wp.drop (List.Sublist.cons_cons _ (List.Sublist.cons _ (List.sublist_append_left _ _))) ?_
 refine Yn 3 rfl ?_
 refine Wp.ret ⟨trivial, _, ⟨_, _, rfl, rfl, _, _, rfl, rfl, rfl⟩, ?_⟩
 exact h
end
end Go.Proofs.C
