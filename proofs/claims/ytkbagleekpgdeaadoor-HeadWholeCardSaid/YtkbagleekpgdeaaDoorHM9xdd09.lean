/- What functions of the given program do, one after the other, told by that layer. -/
import Derived.Test.YtkbagleekpgdeaaDoorHHd6
import Derived.Test.YtkbagleekpgdeaaDoorEM2x2952
import Derived.Test.YtkbagleekpgdeaaDoorHHead
import Derived.Test.YtkbagleekpgdeaaDoorRows
import Derived.LaidMore
import Derived.LaidHandle
import Derived.Lib.LaidTab
import Derived.Stop.LaidErr
import Derived.MakeChecks
import Derived.Test.YtkbagleekpgdeaaDoorLgM2x0fcb
/- A header that is made is peeled hop by hop: what the functions reckon, without the program. -/
namespace Go.Proofs.D
open Go.Lg Go.Sha Go.Hd Go.Cv
open Go.Proofs.C (Hop hopP hopB parse pathE encB)
set_option maxRecDepth 100000
attribute [local irreducible] derive hmac stream x25519 clampN ladx le32
theorem decF_enc {h : Hop} (hp : hopP h) : decF (encB h) = (h, 0) := by
  unfold encB decF
  rw [if_pos hp, C.parse_hopB hp true, if_pos ⟨hp, rfl⟩]
/-- One hop. -/
theorem peel_stage {pad g priv : List UInt8} {by_ : List (List UInt8)} {h : Hop} {path : List Hop} {ks : List HK} (hpad : pad.length = 200) (hpriv : priv.length = 32) (hh : hopP h) (hpath : ∀ x ∈ path, hopP x) (hks : ks.length = path.length) (hg : g.length + 40 * (path.length + 1) ≤ 200) (hkind : h.kind = 1 ↔ path ≠ []) {k : HK} (hk : k = keysOf (xs (x25519 priv base9) by_)) :
    peelR priv (stg pad (fillGo g (k :: ks).dropLast) by_ ((encB h, k) :: (path.map encB).zip ks)) = (h, (if path = [] then [] else stg pad (fillGo g (k :: ks).dropLast) (by_ ++ [k.blind]) ((path.map encB).zip ks)), k, 0) := by
  have hr : ∀ x ∈ (encB h, k) :: (path.map encB).zip ks, x.1.length = 24 := by
    intro x hx
    rcases List.mem_cons.1 hx with rfl | hx
    · exact encB_good hh
    · have := (List.of_mem_zip (show (x.1, x.2) ∈ _ from hx)).1
      obtain ⟨y, hy, he⟩ := List.mem_map.1 this
      rw [← he]
      exact encB_good (hpath y hy)
  have hfl : (fillGo g (k :: ks).dropLast).length ≤ 200 := by
    rw [fillGo_len _ _ (by rw [List.length_dropLast, List.length_cons, hks]; omega), List.length_dropLast, List.length_cons, hks]
    omega
  obtain ⟨p1, p2, p3, p4⟩ := stg_parts (by_ := by_) hpad hfl hr
  unfold peelR
  rw [if_neg (fun hx => hx ⟨hpriv, p1⟩), p2, shared_stage by_ hpriv, if_neg (by simp)]
  simp only
  rw [← hk, p3, p4, if_neg (by rw [listR_cons]; simp)]
  have hsnd : ((path.map encB).zip ks).map (·.2) = ks := List.map_snd_zip (by rw [List.length_map, hks]; exact Nat.le_refl _)
  cases path with
  | nil =>
    have : ks = [] := List.length_eq_zero_iff.1 hks
    subst this
    have hx := open_last hpad (encB h) k g (encB_good hh) (by simp at hg; omega)
    unfold openR
    simp only [List.map_nil, List.zip_nil_left, List.dropLast_singleton, fillGo]
    rw [hx, decF_enc hh, if_neg (by simp), if_pos (fun e => (hkind.1 e) rfl)]
    rfl
  | cons h2 path =>
    match ks, hks, hsnd with
    | [], hks, _ => simp at hks
    | k2 :: ks, hks, hsnd =>
      have hz : ((h2 :: path).map encB).zip (k2 :: ks) = (encB h2, k2) :: (path.map encB).zip ks := rfl
      have hx := open_on hpad (encB h) k (encB h2, k2) ((path.map encB).zip ks) g (by rw [← hz]; exact hr) (by rw [List.length_zip, List.length_map]; simp at hks hg; omega)
      have hmap : (((encB h, k) :: (encB h2, k2) :: (path.map encB).zip ks).map (·.2)) = k :: k2 :: ks := by rw [← hz, List.map_cons, hsnd]
      rw [hmap] at hx
      unfold openR
      rw [hz, hx]
      obtain ⟨l1, l2⟩ := listR_len hpad hfl ((encB h2, k2) :: (path.map encB).zip ks) (fun y hy => hr y (List.mem_cons_of_mem _ (by rw [hz]; exact hy)))
      obtain ⟨L, hL⟩ : ∃ L, L = listR pad (fillGo g (k :: k2 :: ks).dropLast) ((encB h2, k2) :: (path.map encB).zip ks) := ⟨_, rfl⟩
      rw [← hL] at l1 l2 ⊢
      have hl := encB_good hh
      have e1 : (encB h ++ L.1 ++ L.2).take 24 = encB h := by
        rw [List.append_assoc, List.take_append_of_le_length (by omega), List.take_of_length_le (by omega)]
      have e2 : (encB h ++ L.1 ++ L.2).drop 24 = L.1 ++ L.2 := by
        rw [List.append_assoc, List.drop_append, List.drop_of_length_le (by omega), List.nil_append, hl]
        rfl
      have hk1 : h.kind = 1 := hkind.2 (by simp)
      have hb32 : k.blind.length = 32 := by rw [hk]; exact blind_len _
      simp only
      rw [e1, e2, decF_enc hh, if_neg (by simp), if_neg (fun e => e hk1), timesR_eq hb32 (onB_9.xs by_).1, ← xs_snoc, if_neg (by simp), ← List.append_assoc]
      unfold stg
      rw [← hL]
/-- The header that the hop of that number sees; behind the last one nothing. -/
def hd (pad fill : List UInt8) : List (List UInt8) → List Hop → List HK → Nat → List UInt8
  | by_, h :: path, k :: ks, 0 => stg pad fill by_ ((encB h, k) :: (path.map encB).zip ks)
  | by_, _ :: path, k :: ks, i + 1 => hd pad fill (by_ ++ [k.blind]) path ks i
  | _, _, _, _ => []
theorem hd_len {pad fill : List UInt8} (hpad : pad.length = 200) (hf : fill.length ≤ 200) : ∀ (path : List Hop) (ks : List HK) (by_ : List (List UInt8)) (i : Nat), (∀ x ∈ path, hopP x) → ks.length = path.length → i < path.length → (hd pad fill by_ path ks i).length = 248
  | [], _, _, _, _, _, h => absurd h (by simp)
  | h :: path, [], _, _, _, h2, _ => by simp at h2
  | h :: path, k :: ks, by_, 0, hp, _, _ => by
    refine (stg_parts hpad hf ?_).1
    intro x hx
    rcases List.mem_cons.1 hx with rfl | hx
    · exact encB_good (hp h (List.mem_cons_self ..))
    · have := (List.of_mem_zip (show (x.1, x.2) ∈ _ from hx)).1
      obtain ⟨y, hy, he⟩ := List.mem_map.1 this
      rw [← he]
      exact encB_good (hp y (List.mem_cons_of_mem _ hy))
  | _ :: path, k :: ks, by_, i + 1, hp, h2, h3 => hd_len hpad hf path ks (by_ ++ [k.blind]) i (fun x hx => hp x (List.mem_cons_of_mem _ hx)) (by simpa using h2) (by simpa using h3)
theorem hd_end (pad fill : List UInt8) : ∀ (path : List Hop) (ks : List HK) (by_ : List (List UInt8)), hd pad fill by_ path ks path.length = []
  | [], _, _ => by simp [hd]
  | _ :: _, [], _ => by simp [hd]
  | _ :: path, _ :: ks, _ => hd_end pad fill path ks _
theorem hd_peel {pad : List UInt8} (hpad : pad.length = 200) : ∀ (path : List Hop) (privs : List (List UInt8)) (by_ : List (List UInt8)) (g : List UInt8) (i : Nat), (∀ x ∈ path, hopP x) → C.shape path → privs.length = path.length → (∀ p ∈ privs, p.length = 32) → g.length + 40 * path.length ≤ 200 → i < path.length →
    peelR (privs.getD i []) (hd pad (fillGo g ((secs by_ (privs.map fun p => x25519 p base9)).map keysOf).dropLast) by_ path ((secs by_ (privs.map fun p => x25519 p base9)).map keysOf) i) = (path.getD i Hop.zero, hd pad (fillGo g ((secs by_ (privs.map fun p => x25519 p base9)).map keysOf).dropLast) by_ path ((secs by_ (privs.map fun p => x25519 p base9)).map keysOf) (i + 1), ((secs by_ (privs.map fun p => x25519 p base9)).map keysOf).getD i HK.zero, 0)
  | [], _, _, _, _, _, _, _, _, _, h => absurd h (by simp)
  | h :: path, [], _, _, _, _, _, h2, _, _, _ => by simp at h2
  | h :: path, p :: privs, by_, g, i, hp, hs, hl, h32, hg, hi => by
    simp only [List.length_cons] at hl hg hi
    have hlen : ((secs (by_ ++ [(keysOf (xs (x25519 p base9) by_)).blind]) (privs.map fun p => x25519 p base9)).map keysOf).length = path.length := by
      rw [List.length_map, secs_len, List.length_map]; omega
    rw [List.map_cons, secs, List.map_cons]
    generalize hk : keysOf (xs (x25519 p base9) by_) = k at *
    cases i with
    | zero =>
      have := peel_stage (by_ := by_) (g := g) hpad (h32 p (List.mem_cons_self ..)) (hp h (List.mem_cons_self ..)) (fun x hx => hp x (List.mem_cons_of_mem _ hx)) hlen (by omega) (by
        cases path with
        | nil => simp only [C.shape] at hs; simp [hs]
        | cons y r => simp only [C.shape] at hs; simp [hs.1]) hk.symm
      rw [List.getD_cons_zero, List.getD_cons_zero, List.getD_cons_zero]
      rw [hd, this]
      congr 2
      cases path with
      | nil => simp [hd]
      | cons y r =>
        generalize ((secs (by_ ++ [k.blind]) (privs.map fun p => x25519 p base9)).map keysOf) = ks at *
        cases ks with
        | nil => simp at hlen
        | cons k2 ks => rw [if_neg (by simp)]; rfl
    | succ i =>
      have hne : path ≠ [] := fun e => by subst e; simp at hi
      have hs2 : C.shape path := by
        cases path with
        | nil => exact absurd rfl hne
        | cons y r => exact hs.2
      have hgl : (flowX k (g ++ List.replicate 40 0) (240 - (g.length + 40))).length = g.length + 40 := by
        rw [flowX_len _ (by simp; omega)]; simp
      have ih := hd_peel hpad path privs (by_ ++ [k.blind]) (flowX k (g ++ List.replicate 40 0) (240 - (g.length + 40))) i (fun x hx => hp x (List.mem_cons_of_mem _ hx)) hs2 (by omega) (fun x hx => h32 x (List.mem_cons_of_mem _ hx)) (by rw [hgl]; omega) (by omega)
      have hf : fillGo (flowX k (g ++ List.replicate 40 0) (240 - (g.length + 40))) ((secs (by_ ++ [k.blind]) (privs.map fun p => x25519 p base9)).map keysOf).dropLast = fillGo g (k :: (secs (by_ ++ [k.blind]) (privs.map fun p => x25519 p base9)).map keysOf).dropLast := by
        generalize ((secs (by_ ++ [k.blind]) (privs.map fun p => x25519 p base9)).map keysOf) = ks at *
        cases ks with
        | nil => exact absurd (List.length_eq_zero_iff.1 (by rw [← hlen]; rfl)) hne
        | cons k2 ks => rfl
      rw [hf] at ih
      rw [List.getD_cons_succ, List.getD_cons_succ, List.getD_cons_succ, hd, hd]
      exact ih
end Go.Proofs.D

/- The headers of ways that begin with points of private keys: they are made, and peeled. -/
namespace Go.Proofs.D
open Go.Lg Go.Sha Go.Hd Go.Cv
open Go.Proofs.C (Hop hopP hopB parse pathE encB)
set_option maxRecDepth 100000
/-- The points of so many hops. -/
def pubs (who : List UInt8) (n : Nat) : List (List UInt8) := (List.range n).map fun i => (publicR (privR who i)).1
theorem pubs_len (who : List UInt8) (n : Nat) : (pubs who n).length = n := by simp [pubs]
theorem pubs_succ (who : List UInt8) (n : Nat) : pubs who (n + 1) = pubs who n ++ [(publicR (privR who n)).1] := by simp [pubs, List.range_succ]
theorem priv_len (s : List UInt8) (i : Nat) : (privR s i).length = 32 := derive_len _ _ _
theorem pubs_eq (who : List UInt8) (n : Nat) : pubs who n = ((List.range n).map (privR who)).map fun p => x25519 p base9 := by
  unfold pubs
  rw [List.map_map]
  exact List.map_congr_left fun i _ => by rw [publicR_eq (priv_len who i)]; rfl
theorem strs_pubs (who : List UInt8) (n : Nat) : strs (pubs who (n + 1)) = strs (pubs who n) ++ [.string (str (publicR (privR who n)).1)] := by rw [pubs_succ, strs_snoc]
theorem privs_get (who : List UInt8) {n i : Nat} (h : i < n) : ((List.range n).map (privR who)).getD i [] = privR who i := by
  rw [List.getD_eq_getElem?_getD, List.getElem?_map, List.getElem?_range h]
  rfl
/-- The keys of a way's hops. -/
def keysW (seed who : List UInt8) (n : Nat) : List HK := (secs [seed] (pubs who n)).map keysOf
theorem keysW_len (seed who : List UInt8) (n : Nat) : (keysW seed who n).length = n := by unfold keysW; rw [List.length_map, secs_len, pubs_len]
/-- The header that the hop of that number sees. -/
def hdW (seed who : List UInt8) (path : List Hop) (i : Nat) : List UInt8 :=
  hd (derive seed [112, 97, 100] 200) (fillGo [] (keysW seed who path.length).dropLast) [seed] path (keysW seed who path.length) i
theorem makeR_is {seed who : List UInt8} {path : List Hop} (hs : seed.length = 32) (h : pathE path = 0) : makeR seed (pubs who path.length) path = (hdW seed who path 0, keysW seed who path.length, 0) := by
  obtain ⟨hgood, hpos, hmost⟩ := pathE_ok h
  have hon : ∀ p ∈ pubs who path.length, OnB p := by
    intro p hp
    rw [pubs_eq] at hp
    obtain ⟨k, _, rfl⟩ := List.mem_map.1 hp
    exact onB_9.x k
  have hg := hopsGo_eq (pubs who path.length) [seed] hon (by intro b hb; rw [List.mem_singleton.1 hb]; exact hs) (by rw [pubs_len]; simp; omega)
  have h32 : ∀ s ∈ seed :: pubs who path.length, s.length = 32 := by
    intro s hx
    rcases List.mem_cons.1 hx with rfl | hx
    · exact hs
    · exact (hon s hx).1
  unfold makeR
  rw [if_neg (fun e => e h), if_neg (by rw [pubs_len]; simp), if_neg (fun e => e h32), hg, if_neg (by simp)]
  show (headR seed (keysW seed who path.length) (path.map encB), keysW seed who path.length, (0 : Int)) = _
  congr 1
  have hl := keysW_len seed who path.length
  unfold headR hdW
  rw [publicR_eq hs]
  cases path with
  | nil => simp at hpos
  | cons x r =>
    generalize keysW seed who (x :: r).length = ks at *
    cases ks with
    | nil => simp at hl
    | cons k ks => rfl
theorem hdW_len {seed who : List UInt8} {path : List Hop} {i : Nat} (h : pathE path = 0) (hi : i < path.length) : (hdW seed who path i).length = 248 := by
  obtain ⟨hgood, hpos, hmost⟩ := pathE_ok h
  have hl := keysW_len seed who path.length
  exact hd_len (derive_len _ _ _) (by rw [fillGo_len _ _ (by simp; omega)]; simp; omega) path _ _ i hgood hl hi
theorem hdW_end (seed who : List UInt8) (path : List Hop) : hdW seed who path path.length = [] := hd_end _ _ _ _ _
theorem hdW_peel {seed who : List UInt8} {path : List Hop} {i : Nat} (h : pathE path = 0) (hi : i < path.length) : peelR (privR who i) (hdW seed who path i) = (path.getD i Hop.zero, hdW seed who path (i + 1), (keysW seed who path.length).getD i HK.zero, 0) := by
  obtain ⟨hgood, hpos, hmost⟩ := pathE_ok h
  have hsh : C.shape path := by
    have h' := h
    unfold C.pathE at h'
    rw [if_pos hgood] at h'
    by_cases hs : C.shape path ∧ path.length ≤ 5
    · exact hs.1
    · rw [if_neg hs] at h'
      exact absurd h' (by decide)
  have hp := hd_peel (pad := derive seed [112, 97, 100] 200) (derive_len _ _ _) path ((List.range path.length).map (privR who)) [seed] [] i hgood hsh (by simp) (by
    intro p hp
    obtain ⟨k, _, rfl⟩ := List.mem_map.1 hp
    exact priv_len _ _) (by simp; omega) hi
  rw [privs_get who hi, ← pubs_eq] at hp
  exact hp
/-- What is refused. -/
theorem makeR_no {seed : List UInt8} {path : List Hop} (h : pathE path ≠ 0) (ps : List (List UInt8)) : makeR seed ps path = ([], [], pathE path) := by
  unfold makeR
  rw [if_pos h]
end Go.Proofs.D

/- The tables that the rows list: what they give to a walk, and a world in which they lie. -/
namespace Go.Proofs.D
open Go.Lg Go.Sha
set_option maxRecDepth 100000

def Laid1 : List (String × DataW Unit) := [("dovecote/hash.ks", YtkbagleekpgdeaaDoor.Rows.laid_dovecote_hash_ks)]
def ksZ : List Int := ks.map fun (n : Nat) => (n : Int)
theorem ks_is : (YtkbagleekpgdeaaDoor.Rows.laid_dovecote_hash_ks : DataW Unit) = Lib.tabData .u32 ksZ := by rfl
theorem ksZ_get (i : Nat) (h : i < 64) : ksZ.getD i 0 = ((ks.getD i 0 : Nat) : Int) := by
  have hl : i < ks.length := h
  unfold ksZ
  rw [List.getD_eq_getElem?_getD, List.getElem?_map, List.getD_eq_getElem?_getD, List.getElem?_eq_getElem hl]
  rfl
theorem ks_at {W : World} {r : List (String × DataW Unit)} (h : laidMet Tryd.prog (("dovecote/hash.ks", YtkbagleekpgdeaaDoor.Rows.laid_dovecote_hash_ks) :: r) W) : KsIn (All W) := by
  rw [ks_is] at h
  have ht := Lib.tabIs_of_head (g := 0) (n := 64) (by kernel_rfl) (t := 132) (by kernel_rfl) Tryd.underlying132 Tryd.underlying112 (by kernel_rfl) (by kernel_rfl) h
  have hc : ∀ i, i < 64 → W.cell? ⟨0, i, none⟩ = some (.int .u32 (ks.getD i 0 : Nat)) := by
    intro i hi
    have := ht.cell (g := 0) (by kernel_rfl) i (by rw [show ksZ.length = 64 from rfl]; exact hi)
    rw [ksZ_get i hi] at this
    exact this
  have h0 := hc 0 (by decide)
  have : ∃ l e fz, W.heap[0]? = some (.cells l e fz) := by
    unfold World.cell? at h0
    split at h0
    · rename_i c0 e0 f0 hb; exact ⟨c0, e0, f0, hb⟩
    · simp at h0
  obtain ⟨l, e, fz, hl⟩ := this
  refine ⟨l.toList, e, fz, All.mem hl, fun i hi => ?_⟩
  have := hc i hi
  unfold World.cell? at this
  simp only [hl] at this
  simpa using this
theorem of_laid1 {W : World} (h : laidMetH Tryd.prog Laid1 W) : KsIn (All W) := by
  rw [MakeChecks.laidMetH_plain _ _ _ (by kernel_rfl)] at h
  exact ks_at h
noncomputable def laidWorld (os : Os) : World := World.doorLaid Tryd.prog 24 os
theorem laid_met1 (os : Os) (args : Array Value) : laidMetH Tryd.prog Laid1 ((laidWorld os).forCall (fun _ _ => 0) ⟨#[], args, []⟩).memory :=
  laidMetH_of_parts3 (fuel := 8) (laidMet_of_run' 8 (by kernel_rfl) (by kernel_rfl)) (by kernel_rfl) (by kernel_rfl)
theorem laid_shaped (os : Os) (args : Array Value) : ((laidWorld os).forCall (fun _ _ => 0) ⟨#[], args, []⟩).Shaped Tryd.prog :=
  World.shaped_of_RefB (by kernel_rfl) (by kernel_rfl)
theorem rdStrB {S : Ents} {t : ByteArray} (h : Rd Tryd.prog S 9 [.string t]) : ∃ s : List UInt8, t = str s ∧ s.length + 5000 ≤ big := by
  obtain ⟨l, hl, hw⟩ := h.open_str Tryd.underlying9
  cases hl
  exact ⟨l, rfl, by unfold reachBytes at hw; unfold big; omega⟩
end Go.Proofs.D

namespace Go.Proofs.D
open Go.Lg Go.Sha
open Go.Proofs.C (Hop)
set_option maxRecDepth 100000
theorem rdHops {S : Ents} {v : Value} (h : Rd Tryd.prog S 22 [v]) : ∃ l : List Hop, Reads S 5 v l.length (l.flatMap Hop.cells) ∧ l.length ≤ 2932031007320 ∧ ∀ x ∈ l, x.id.length ≤ C.lim := by
  obtain ⟨l, hr, hw, _, hp⟩ := h.rows (f := Hop.cells) (p := fun x => x.id.length ≤ C.lim) Tryd.underlying22 (sz := 5) rfl (fun r hr => by
    obtain ⟨x, hx, hl⟩ := C.rdHopL hr
    exact ⟨x, hx, hl⟩)
  refine ⟨l, hr, ?_, hp⟩
  have : l.length * 48 ≤ reachBytes := hw
  unfold reachBytes at this; omega
end Go.Proofs.D

namespace Go.Proofs.D
open Go.Lg Go.Sha Go.Hd Go.Cv
open Go.Proofs.C (Hop hopP hopB parse pathE encB hopG)
set_option maxRecDepth 100000
attribute [local irreducible] derive hmac stream sharedR timesR publicR makeR peelR exSeed exPriv exPub exSec exKeys exHead hdW keysW
section
variable {B : Nat} {S R : Ents} {Q : Value → Ents → Prop}
set_option maxHeartbeats 4000000 in
theorem headWholeL {seed who : List UInt8} {path : List Hop} {w : Value} (hks : KsIn S) (hs1 : seed.length + 5000 ≤ big) (hs2 : who.length + 5000 ≤ big) (hr : Reads S 5 w path.length (path.flatMap Hop.cells)) (hl : path.length ≤ 2932031007320) : CallWp Tryd.prog B 3 #[.string (str seed), .string (str who), w] (fun v _ => v = .bool true) S := by
  obtain ⟨pa, pc, rfl⟩ := hr.form
  refine CallWp.enter (args := [_, _, _]) Tryd.func3 rfl Tryd.ntmps3 rfl ?_
  refine Wp.seq (Wp.region ?_)
  refine OWp.evs 1 rfl ?_
  refine OWp.nil ?_
  refine Wp.seq ?_
  refine Wp.seq (Wp.region ?_)
  refine OWp.step rfl (Step.call rfl rfl rfl rfl rfl rfl ((worksC hks ?_)))
  refine OWp.evs 1 rfl ?_
  refine OWp.nil ?_
  refine Wp.cond rfl (fun c => nomatch c) (fun _ => ?_)
  refine Wp.skip ?_
  refine Wp.seq (Wp.region ?_)
  refine OWp.evs 1 rfl ?_
  refine OWp.step rfl (Step.call rfl rfl rfl rfl rfl rfl ((privateC (i := 0) hks (by omega) (by decide) ?_)))
  have hps : (privR seed 0).length = 32 := priv_len _ _
  generalize privR seed 0 = sd at *
  refine OWp.evs 1 rfl ?_
  refine OWp.nil ?_
  refine Wp.seq (Wp.region ?_)
  refine OWp.evs 1 rfl ?_
  refine OWp.nil ?_
  refine Wp.seqS (α := Value × Ents) (fun z => [(0, .string (str sd)), (1, .string (str who)), (2, .slice pa path.length pc), (7, z.1)]) (fun z => z.2 ++ S) (fun z => Lg.Own B 9 1 z.1 (min path.length 6) (strs (pubs who (min path.length 6))) z.2) ?_ ?_
  · skip
    refine Wp.seq (Wp.region ?_)
    refine OWp.evs 1 rfl ?_
    refine OWp.nil ?_
    refine Wp.block ?_
    refine Wp.loopS (α := Nat × Value × Ents) (fun z => 6 - z.1) (fun z => [(0, .string (str sd)), (1, .string (str who)), (2, .slice pa path.length pc), (7, z.2.1), (8, .int .i64 (z.1 : Int))]) (fun z => z.2.2 ++ S) (fun z => z.1 ≤ min path.length 6 ∧ Lg.Own B 9 1 z.2.1 z.1 (strs (pubs who z.1)) z.2.2) (0, .slice none 0 0, []) ?_ (.refl _) ⟨Nat.zero_le _, Own.nil B 9 1⟩ ?_
    · exact .cons rfl (.cons rfl (.cons rfl (.cons rfl (.cons rfl (.nil _)))))
    rintro ⟨i, v, es⟩ ⟨hi, ho⟩
    simp only at hi ho ⊢
    refine Wp.seq ?_
    refine Wp.seq (Wp.region ?_)
    by_cases h1 : i < path.length
    · skip
      refine OWp.evs 5 rfl ?_
      refine OWp.part 26 rfl (fun cc1 => ?_) (fun cc1 => absurd (of_decide_eq_false cc1) (by omega))
      have cc1 := of_decide_eq_true cc1
      refine OWp.evs 3 rfl ?_
      refine OWp.nil ?_
      refine Wp.cond rfl (fun h2 => ?_) (fun h2 => ?_)
      · have h2 := of_decide_eq_true h2
        have h2 : i < 6 := by omega
        refine Wp.skip ?_
        refine Wp.seq ?_
        refine Wp.block ?_
        refine Wp.region ?_
        refine OWp.evs 3 rfl ?_
        refine OWp.step rfl (Step.call rfl rfl rfl rfl rfl rfl ((publicLC (i := i) hks.append (by omega) (by omega) ?_)))
        refine OWp.step rfl (Step.buildSlice rfl rfl rfl ?_); intro Lp2 hBLp2 hLLp2
        refine OWp.step rfl (Step.appendAt [_] rfl rfl rfl rfl rfl rfl (by decide) rfl rfl ho (Reads.row (k := 1) (sz := 1) (.head _) (Nat.le_of_ble_eq_true rfl)) rfl (by show (_ + 1) * 16 ≤ _; omega) (by unfold maxLen; omega) ?_); intro v3 es3 ho3 _
        refine OWp.dropAt 0 rfl ?_
        refine OWp.evs 1 rfl ?_
        refine OWp.nil ?_
        refine Wp.region ?_
        refine OWp.evs 3 rfl ?_
        refine OWp.nil ?_
        refine ⟨(i + 1, v3, es3), by simp only; omega, ⟨by simp only; omega, ?_⟩, .cons rfl (.cons rfl (.cons rfl (.cons rfl (.cons' rfl (int_eq (by simp only; rw [i64_id] <;> omega)) (.nil _))))), .refl _⟩
        simp only
        rw [strs_pubs]
        exact ho3
      have h2 := of_decide_eq_false h2
      obtain rfl : i = min path.length 6 := by omega
      refine Wp.exit ?_
      exact ⟨(v, es), ho, .cons rfl (.cons rfl (.cons rfl (.cons rfl (.nil _)))), .refl _⟩
    refine OWp.evs 5 rfl ?_
    refine OWp.part 26 rfl (fun cc3 => absurd (of_decide_eq_true cc3) (by omega)) (fun cc3 => ?_)
    have cc3 := of_decide_eq_false cc3
    obtain rfl : i = min path.length 6 := by omega
    refine OWp.evs 3 rfl ?_
    refine OWp.nil ?_
    refine Wp.cond rfl (fun c => nomatch c) (fun _ => ?_)
    refine Wp.exit ?_
    exact ⟨(v, es), ho, .cons rfl (.cons rfl (.cons rfl (.cons rfl (.nil _)))), .refl _⟩
  rintro ⟨v, es⟩ ho
  simp only at ho ⊢
  refine Wp.seq (Wp.region ?_)
  by_cases hp0 : pathE path ≠ 0
  · skip
    have hmk := makeR_no (seed := sd) hp0 (pubs who (min path.length 6))
    refine OWp.evs 3 rfl ?_
    refine OWp.step rfl (Step.call rfl rfl rfl rfl rfl rfl ((makeC (ps := pubs who (min path.length 6)) (path := path) hks.append (by rw [pubs_len]; exact ho.reads.mono fun x hx => List.mem_append_left _ hx) (by rw [pubs_len]; omega) (hr.mono fun x hx => List.mem_append_right _ hx) hl (fun _ => ?_) (fun h => absurd h (by rw [hmk]; exact hp0)))))
    rw [hmk]
    refine OWp.evs 7 rfl ?_
    refine OWp.nil ?_
    refine Wp.seq ?_
    refine Wp.seq (Wp.region ?_)
    refine OWp.evs 2 rfl ?_
    refine OWp.nil ?_
    refine Wp.cond rfl (fun cc4 => ?_) (fun cc4 => absurd (ndF cc4) (by exact hp0))
    have cc4 := ndT cc4
    refine Wp.seq (Wp.region ?_)
    refine OWp.evs 3 rfl ?_
    refine OWp.evs 5 rfl ?_
    refine OWp.nil ?_
    refine Wp.ret ⟨trivial, _, ⟨_, _, rfl, rfl, rfl⟩, ?_⟩
    rfl
  have hp0 : pathE path = 0 := by omega
  obtain ⟨hgood, hpos, hmost⟩ := pathE_ok hp0
  have hmin : min path.length 6 = path.length := by omega
  rw [hmin] at ho
  have hmk := makeR_is (who := who) hps hp0
  refine OWp.evs 3 rfl ?_
  refine OWp.step rfl (Step.call rfl rfl rfl rfl rfl rfl ((makeC (ps := pubs who path.length) (path := path) hks.append (by rw [pubs_len]; exact ho.reads.mono fun x hx => List.mem_append_left _ hx) (by rw [pubs_len]; omega) (hr.mono fun x hx => List.mem_append_right _ hx) hl (fun h => absurd (by rw [hmk]) h) ?_)))
  intro _ z es2 how
  rw [hmk] at how ⊢
  simp only at how ⊢
  refine OWp.evs 7 rfl ?_
  refine OWp.nil ?_
  refine Wp.seq ?_
  refine Wp.seq (Wp.region ?_)
  refine OWp.evs 2 rfl ?_
  refine OWp.nil ?_
  refine Wp.cond rfl (fun c => nomatch c) (fun _ => ?_)
  have hkl := keysW_len sd who path.length
  obtain ⟨ks, hk⟩ : ∃ k, k = keysW sd who path.length := ⟨_, rfl⟩
  rw [← hk] at how hkl
  have how1 : Reads es2 5 z ks.length (ks.flatMap HK.cells) := by rw [hkl]; exact how.reads
  obtain ⟨hb, ho2, hcap, hll, ht, hfz, hzv, hhm, hhat⟩ := Reads.elem (sz := 5) how1 (fun _ _ => rfl) (by omega)
  subst hzv
  obtain ⟨qb, qo, qcap, qll, qt, qfz, qzv, qhm, qat⟩ := Reads.elem (sz := 5) hr (C.hop_flat _) hpos
  cases qzv
  refine Wp.skip ?_
  refine Wp.seq ?_
  refine Wp.seq (Wp.region ?_)
  refine OWp.evs 3 rfl ?_
  refine OWp.nil ?_
  refine Wp.block ?_
  refine Wp.loopS (α := Nat) (fun i => path.length - i) (fun i => [(1, .string (str who)), (2, .slice (some ⟨qb, qo, none⟩) path.length pc), (9, .string (str (hdW sd who path i))), (10, .slice (some ⟨hb, ho2, none⟩) ks.length hcap), (55, .slice (some ⟨qb, qo, none⟩) path.length pc), (56, .int .i64 (path.length : Int)), (57, .int .i64 (i : Int))]) (fun _ => es2 ++ (es ++ S)) (fun i => i ≤ path.length) 0 ?_ (.refl _) (Nat.zero_le _) ?_
  · exact .cons rfl (.cons rfl (.cons rfl (.cons rfl (.cons rfl (.cons rfl (.cons rfl (.nil _)))))))
  rintro i hi
  refine Wp.seq (Wp.region ?_)
  refine OWp.evs 1 rfl ?_
  refine OWp.nil ?_
  refine Wp.seq ?_
  refine Wp.cond rfl (fun h1 => ?_) (fun h1 => ?_)
  · have h1 := of_decide_eq_true h1
    have hi1 : i < path.length := by omega
    refine Wp.skip ?_
    refine Wp.seq ?_
    refine Wp.block ?_
    refine Wp.seq (Wp.region ?_)
    refine OWp.evs 1 rfl ?_
    refine OWp.g rfl rfl (Gives.indexAddrSlice (i) rfl rfl rfl rfl rfl rfl (by omega)) ?_
    refine OWp.load (List.mem_append_right _ (List.mem_append_right _ qhm)) rfl rfl rfl rfl (partAt_agg (qat i hi1) rfl rfl rfl) ?_
    refine OWp.step rfl (Step.alloc rfl rfl rfl ?_); intro L13 hBL13 hLL13
    refine OWp.evs 1 rfl ?_
    refine OWp.step rfl (Step.storeAs 0 ((path[i]'hi1).cells) rfl rfl rfl rfl rfl (by assumption) rfl (Unfz.zero _) rfl (Nat.le_of_ble_eq_true rfl) rfl rfl ?_)
    refine OWp.nil ?_
    refine Wp.seq (Wp.region ?_)
    refine OWp.evs 2 rfl ?_
    refine OWp.step rfl (Step.call rfl rfl rfl rfl rfl rfl ((privateC (i := i) hks.append.append.cons (by omega) (by omega) ?_)))
    refine OWp.evs 1 rfl ?_
    refine OWp.step rfl (Step.call rfl rfl rfl rfl rfl rfl ((peelC hks.append.append.cons ?_)))
    rw [hdW_peel hp0 hi1, ← hk]
    simp only
    have hpi : path.getD i Hop.zero = path[i] := by rw [List.getD_eq_getElem?_getD, List.getElem?_eq_getElem hi1]; rfl
    have hki : ks.getD i HK.zero = ks[i]'(by omega) := by rw [List.getD_eq_getElem?_getD, List.getElem?_eq_getElem (by omega)]; rfl
    rw [hpi, hki]
    refine OWp.evs 5 rfl ?_
    refine OWp.step rfl (Step.alloc rfl rfl rfl ?_); intro L14 hBL14 hLL14
    refine OWp.step rfl (Step.alloc rfl rfl rfl ?_); intro L16 hBL16 hLL16
    refine OWp.step rfl (Step.storeAs 1 ((path[i]'hi1).cells) rfl rfl rfl rfl rfl (by assumption) rfl (Unfz.zero _) rfl (Nat.le_of_ble_eq_true rfl) rfl rfl ?_)
    refine OWp.evs 1 rfl ?_
    refine OWp.step rfl (Step.storeAs 0 ((ks[i]'(by omega)).cells) rfl rfl rfl rfl rfl (by assumption) rfl (Unfz.zero _) rfl (Nat.le_of_ble_eq_true rfl) rfl rfl ?_)
    refine OWp.evs 1 rfl ?_
    refine OWp.nil ?_
    refine Wp.seq ?_
    refine Wp.seq (Wp.regionDraw [0, 1, 2, 3, 4, 5, 6, 7, 8, 9, 10, 11, 12, 13, 14, 15, 16, 17, 18, 19, 20, 21, 22, 23, 24, 25, 26, 27, 28, 29] [] rfl (by decide +kernel) ?_)
    refine DWp.evs 3 rfl ?_
    refine DWp.load (.tail _ (.head _)) rfl rfl rfl rfl rfl rfl rfl ?_
    refine DWp.load (.tail _ (.tail _ (.head _))) rfl rfl rfl rfl rfl rfl rfl ?_
    refine DWp.g rfl rfl rfl rfl (Gives.neqStruct (r := true) 10 rfl rfl rfl rfl hopG (hopSelf path[i])) ?_
    refine DWp.evs 2 rfl ?_
    refine DWp.load (.head _) rfl rfl rfl rfl rfl rfl rfl ?_
    refine DWp.evs 2 rfl ?_
    refine DWp.g rfl rfl rfl rfl (Gives.indexAddrSlice (i) rfl rfl rfl rfl rfl rfl (by omega)) ?_
    refine DWp.load (.tail _ (.tail _ (.tail _ (List.mem_append_left _ hhm)))) rfl rfl rfl rfl rfl rfl (partAt_agg (hhat i (by omega)) rfl rfl rfl) ?_
    refine DWp.g rfl rfl rfl rfl (Gives.neqStruct (r := true) 10 rfl rfl rfl rfl keyG (keySelf (ks[i]'(by omega)))) ?_
    refine DWp.evs 2 rfl ?_
    refine DWp.evs 5 rfl ?_
    refine DWp.part 92 rfl (fun cc5 => absurd (ndT cc5) (by rw [hdW_len hp0 hi1]; simp)) (fun cc5 => ?_)
    have cc5 := ndF cc5
    have hz : decide (hdW sd who path (i + 1) = []) = decide ((i : Int) = IntKind.i64.wrap ((path.length : Int) - 1)) := by
      rw [i64_id (by omega) (by omega)]
      by_cases he : i + 1 = path.length
      · rw [he, hdW_end, decide_eq_true rfl, decide_eq_true (by omega)]
      · have hl := hdW_len (seed := sd) (who := who) (i := i + 1) hp0 (by omega)
        have hne : hdW sd who path (i + 1) ≠ [] := fun e => by rw [e] at hl; cases hl
        rw [decide_eq_false hne, decide_eq_false (by omega)]
    refine DWp.evs 9 rfl ?_
    refine DWp.nil ?_
    refine Wp.cond rfl (fun cc6 => (by exact absurd cc6 (by rw [hz]; simp))) (fun cc6 => ?_)
    refine Wp.skip ?_
    refine Wp.drop (.cons _ (.cons _ (.cons _ (.refl _)))) ?_
    refine Wp.region ?_
    refine OWp.evs 2 rfl ?_
    refine OWp.nil ?_
    refine Wp.region ?_
    refine OWp.evs 2 rfl ?_
    refine OWp.nil ?_
    exact ⟨i + 1, by omega, by omega, .cons rfl (.cons rfl (.cons rfl (.cons rfl (.cons rfl (.cons rfl (.cons' rfl (int_eq (i64_inc (by omega))) (.nil _))))))), .refl _⟩
  have h1 := of_decide_eq_false h1
  refine Wp.exit ?_
  refine Wp.seq (Wp.region ?_)
  refine OWp.evs 1 rfl ?_
  refine OWp.nil ?_
  refine Wp.ret ⟨trivial, _, ⟨_, _, rfl, rfl, rfl⟩, ?_⟩
  rfl
theorem headWholeW {t1 t2 : ByteArray} {a : Option Addr} {len cap : Nat} (hks : KsIn S) (h1 : Rd Tryd.prog S 9 [.string t1]) (h2 : Rd Tryd.prog S 9 [.string t2]) (h3 : Rd Tryd.prog S 22 [.slice a len cap]) : CallWp Tryd.prog B 3 #[.string t1, .string t2, .slice a len cap] (fun v _ => v = .bool true) S := by
  obtain ⟨s1, rfl, hs1⟩ := rdStrB h1
  obtain ⟨s2, rfl, hs2⟩ := rdStrB h2
  obtain ⟨l, hl, hm, _⟩ := rdHops h3
  exact headWholeL hks hs1 hs2 hl hm
end
end Go.Proofs.D
