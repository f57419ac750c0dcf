/- What functions of the given program do, one after the other, told by that layer. -/
import Derived.Test.YtkbagleekpgdeaaGreatDoorZM12xe059
import Derived.Test.YtkbagleekpgdeaaGreatDoorZM9xc7d9
import Derived.Test.YtkbagleekpgdeaaGreatDoorEHeadW
import Derived.Test.YtkbagleekpgdeaaGreatDoorEHeadL
import Derived.Test.YtkbagleekpgdeaaGreatDoorZHead
import Derived.Test.YtkbagleekpgdeaaGreatDoorRows
import Derived.LaidMore
import Derived.LaidHandle
import Derived.Lib.LaidTab
import Derived.Stop.LaidErr
import Derived.MakeChecks
import Derived.Test.YtkbagleekpgdeaaGreatDoorLgM3x97cf
import Derived.Test.YtkbagleekpgdeaaGreatDoorZPk2
namespace Go.Proofs.D
open Go.Lg Go.Sha Go.Hd Go.Cv
open Go.Proofs.C (Hop hopP hopB parse pathE encB hopG)
set_option maxRecDepth 100000
theorem privByte (i : Nat) (hi : i < 1000) : IntKind.u8.wrap (IntKind.i64.wrap (48 + (i : Int))) = ((UInt8.ofNat (48 + i)).toNat : Int) := by
  rw [i64_id (by omega) (by omega), show (48 : Int) + (i : Int) = ((48 + i : Nat) : Int) by omega, u8_lo]
def xHop : Hop := ⟨4, 0, 0, 0, []⟩
def eqHK (x y : HK) : Bool := decide (x.flow = y.flow) && (decide (x.mac = y.mac) && (decide (x.body = y.body) && (decide (x.blind = y.blind) && (decide (x.tag = y.tag) && true))))
attribute [local irreducible] derive hmac stream sharedR timesR makeR peelR exSeed exPriv exPub exSec exKeys exHead
section
variable {B : Nat} {S R : Ents} {Q : Value → Ents → Prop}
end
end Go.Proofs.D

/- A header that is made is peeled hop by hop: what the functions reckon, without the program. -/
namespace Go.Proofs.D
open Go.Lg Go.Sha Go.Hd Go.Cv
open Go.Proofs.C (Hop hopP hopB parse pathE encB)
set_option maxRecDepth 100000
attribute [local irreducible] derive hmac stream x25519 clampN ladx le32
theorem decF_enc {h : Hop} (hp : hopP h) : decF (encB h) = (h, 0) := by
  unfold encB decF
  rw [if_pos hp, C.parse_hopB hp true, if_pos ⟨hp, rfl⟩]
/-- One hop. -/
theorem peel_stage {pad g priv : List UInt8} {by_ : List (List UInt8)} {h : Hop} {path : List Hop} {ks : List HK} (hpad : pad.length = 200) (hpriv : priv.length = 32) (hh : hopP h) (hpath : ∀ x ∈ path, hopP x) (hks : ks.length = path.length) (hg : g.length + 40 * (path.length + 1) ≤ 200) (hkind : h.kind = 1 ↔ path ≠ []) {k : HK} (hk : k = keysOf (xs (x25519 priv base9) by_)) :
    peelR priv (stg pad (fillGo g (k :: ks).dropLast) by_ ((encB h, k) :: (path.map encB).zip ks)) = (h, (if path = [] then [] else stg pad (fillGo g (k :: ks).dropLast) (by_ ++ [k.blind]) ((path.map encB).zip ks)), k, 0) := by
  have hr : ∀ x ∈ (encB h, k) :: (path.map encB).zip ks, x.1.length = 24 := by
    intro x hx
    rcases List.mem_cons.1 hx with rfl | hx
    · exact encB_good hh
    · have := (List.of_mem_zip (show (x.1, x.2) ∈ _ from hx)).1
      obtain ⟨y, hy, he⟩ := List.mem_map.1 this
      rw [← he]
      exact encB_good (hpath y hy)
  have hfl : (fillGo g (k :: ks).dropLast).length ≤ 200 := by
    rw [fillGo_len _ _ (by rw [List.length_dropLast, List.length_cons, hks]; omega), List.length_dropLast, List.length_cons, hks]
    omega
  obtain ⟨p1, p2, p3, p4⟩ := stg_parts (by_ := by_) hpad hfl hr
  unfold peelR
  rw [if_neg (fun hx => hx ⟨hpriv, p1⟩), p2, shared_stage by_ hpriv, if_neg (by simp)]
  simp only
  rw [← hk, p3, p4, if_neg (by rw [listR_cons]; simp)]
  have hsnd : ((path.map encB).zip ks).map (·.2) = ks := List.map_snd_zip (by rw [List.length_map, hks]; exact Nat.le_refl _)
  cases path with
  | nil =>
    have : ks = [] := List.length_eq_zero_iff.1 hks
    subst this
    have hx := open_last hpad (encB h) k g (encB_good hh) (by simp at hg; omega)
    unfold openR
    simp only [List.map_nil, List.zip_nil_left, List.dropLast_singleton, fillGo]
    rw [hx, decF_enc hh, if_neg (by simp), if_pos (fun e => (hkind.1 e) rfl)]
    rfl
  | cons h2 path =>
    match ks, hks, hsnd with
    | [], hks, _ => simp at hks
    | k2 :: ks, hks, hsnd =>
      have hz : ((h2 :: path).map encB).zip (k2 :: ks) = (encB h2, k2) :: (path.map encB).zip ks := rfl
      have hx := open_on hpad (encB h) k (encB h2, k2) ((path.map encB).zip ks) g (by rw [← hz]; exact hr) (by rw [List.length_zip, List.length_map]; simp at hks hg; omega)
      have hmap : (((encB h, k) :: (encB h2, k2) :: (path.map encB).zip ks).map (·.2)) = k :: k2 :: ks := by rw [← hz, List.map_cons, hsnd]
      rw [hmap] at hx
      unfold openR
      rw [hz, hx]
      obtain ⟨l1, l2⟩ := listR_len hpad hfl ((encB h2, k2) :: (path.map encB).zip ks) (fun y hy => hr y (List.mem_cons_of_mem _ (by rw [hz]; exact hy)))
      obtain ⟨L, hL⟩ : ∃ L, L = listR pad (fillGo g (k :: k2 :: ks).dropLast) ((encB h2, k2) :: (path.map encB).zip ks) := ⟨_, rfl⟩
      rw [← hL] at l1 l2 ⊢
      have hl := encB_good hh
      have e1 : (encB h ++ L.1 ++ L.2).take 24 = encB h := by
        rw [List.append_assoc, List.take_append_of_le_length (by omega), List.take_of_length_le (by omega)]
      have e2 : (encB h ++ L.1 ++ L.2).drop 24 = L.1 ++ L.2 := by
        rw [List.append_assoc, List.drop_append, List.drop_of_length_le (by omega), List.nil_append, hl]
        rfl
      have hk1 : h.kind = 1 := hkind.2 (by simp)
      have hb32 : k.blind.length = 32 := by rw [hk]; exact blind_len _
      simp only
      rw [e1, e2, decF_enc hh, if_neg (by simp), if_neg (fun e => e hk1), timesR_eq hb32 (onB_9.xs by_).1, ← xs_snoc, if_neg (by simp), ← List.append_assoc]
      unfold stg
      rw [← hL]
/-- The header that the hop of that number sees; behind the last one nothing. -/
def hd (pad fill : List UInt8) : List (List UInt8) → List Hop → List HK → Nat → List UInt8
  | by_, h :: path, k :: ks, 0 => stg pad fill by_ ((encB h, k) :: (path.map encB).zip ks)
  | by_, _ :: path, k :: ks, i + 1 => hd pad fill (by_ ++ [k.blind]) path ks i
  | _, _, _, _ => []
theorem hd_len {pad fill : List UInt8} (hpad : pad.length = 200) (hf : fill.length ≤ 200) : ∀ (path : List Hop) (ks : List HK) (by_ : List (List UInt8)) (i : Nat), (∀ x ∈ path, hopP x) → ks.length = path.length → i < path.length → (hd pad fill by_ path ks i).length = 248
  | [], _, _, _, _, _, h => absurd h (by simp)
  | h :: path, [], _, _, _, h2, _ => by simp at h2
  | h :: path, k :: ks, by_, 0, hp, _, _ => by
    refine (stg_parts hpad hf ?_).1
    intro x hx
    rcases List.mem_cons.1 hx with rfl | hx
    · exact encB_good (hp h (List.mem_cons_self ..))
    · have := (List.of_mem_zip (show (x.1, x.2) ∈ _ from hx)).1
      obtain ⟨y, hy, he⟩ := List.mem_map.1 this
      rw [← he]
      exact encB_good (hp y (List.mem_cons_of_mem _ hy))
  | _ :: path, k :: ks, by_, i + 1, hp, h2, h3 => hd_len hpad hf path ks (by_ ++ [k.blind]) i (fun x hx => hp x (List.mem_cons_of_mem _ hx)) (by simpa using h2) (by simpa using h3)
theorem hd_peel {pad : List UInt8} (hpad : pad.length = 200) : ∀ (path : List Hop) (privs : List (List UInt8)) (by_ : List (List UInt8)) (g : List UInt8) (i : Nat), (∀ x ∈ path, hopP x) → C.shape path → privs.length = path.length → (∀ p ∈ privs, p.length = 32) → g.length + 40 * path.length ≤ 200 → i < path.length →
    peelR (privs.getD i []) (hd pad (fillGo g ((secs by_ (privs.map fun p => x25519 p base9)).map keysOf).dropLast) by_ path ((secs by_ (privs.map fun p => x25519 p base9)).map keysOf) i) = (path.getD i Hop.zero, hd pad (fillGo g ((secs by_ (privs.map fun p => x25519 p base9)).map keysOf).dropLast) by_ path ((secs by_ (privs.map fun p => x25519 p base9)).map keysOf) (i + 1), ((secs by_ (privs.map fun p => x25519 p base9)).map keysOf).getD i HK.zero, 0)
  | [], _, _, _, _, _, _, _, _, _, h => absurd h (by simp)
  | h :: path, [], _, _, _, _, _, h2, _, _, _ => by simp at h2
  | h :: path, p :: privs, by_, g, i, hp, hs, hl, h32, hg, hi => by
    simp only [List.length_cons] at hl hg hi
    have hlen : ((secs (by_ ++ [(keysOf (xs (x25519 p base9) by_)).blind]) (privs.map fun p => x25519 p base9)).map keysOf).length = path.length := by
      rw [List.length_map, secs_len, List.length_map]; omega
    rw [List.map_cons, secs, List.map_cons]
    generalize hk : keysOf (xs (x25519 p base9) by_) = k at *
    cases i with
    | zero =>
      have := peel_stage (by_ := by_) (g := g) hpad (h32 p (List.mem_cons_self ..)) (hp h (List.mem_cons_self ..)) (fun x hx => hp x (List.mem_cons_of_mem _ hx)) hlen (by omega) (by
        cases path with
        | nil => simp only [C.shape] at hs; simp [hs]
        | cons y r => simp only [C.shape] at hs; simp [hs.1]) hk.symm
      rw [List.getD_cons_zero, List.getD_cons_zero, List.getD_cons_zero]
      rw [hd, this]
      congr 2
      cases path with
      | nil => simp [hd]
      | cons y r =>
        generalize ((secs (by_ ++ [k.blind]) (privs.map fun p => x25519 p base9)).map keysOf) = ks at *
        cases ks with
        | nil => simp at hlen
        | cons k2 ks => rw [if_neg (by simp)]; rfl
    | succ i =>
      have hne : path ≠ [] := fun e => by subst e; simp at hi
      have hs2 : C.shape path := by
        cases path with
        | nil => exact absurd rfl hne
        | cons y r => exact hs.2
      have hgl : (flowX k (g ++ List.replicate 40 0) (240 - (g.length + 40))).length = g.length + 40 := by
        rw [flowX_len _ (by simp; omega)]; simp
      have ih := hd_peel hpad path privs (by_ ++ [k.blind]) (flowX k (g ++ List.replicate 40 0) (240 - (g.length + 40))) i (fun x hx => hp x (List.mem_cons_of_mem _ hx)) hs2 (by omega) (fun x hx => h32 x (List.mem_cons_of_mem _ hx)) (by rw [hgl]; omega) (by omega)
      have hf : fillGo (flowX k (g ++ List.replicate 40 0) (240 - (g.length + 40))) ((secs (by_ ++ [k.blind]) (privs.map fun p => x25519 p base9)).map keysOf).dropLast = fillGo g (k :: (secs (by_ ++ [k.blind]) (privs.map fun p => x25519 p base9)).map keysOf).dropLast := by
        generalize ((secs (by_ ++ [k.blind]) (privs.map fun p => x25519 p base9)).map keysOf) = ks at *
        cases ks with
        | nil => exact absurd (List.length_eq_zero_iff.1 (by rw [← hlen]; rfl)) hne
        | cons k2 ks => rfl
      rw [hf] at ih
      rw [List.getD_cons_succ, List.getD_cons_succ, List.getD_cons_succ, hd, hd]
      exact ih
end Go.Proofs.D

/- The headers of ways that begin with points of private keys: they are made, and peeled. -/
namespace Go.Proofs.D
open Go.Lg Go.Sha Go.Hd Go.Cv
open Go.Proofs.C (Hop hopP hopB parse pathE encB)
set_option maxRecDepth 100000
/-- The points of so many hops. -/
def pubs (who : List UInt8) (n : Nat) : List (List UInt8) := (List.range n).map fun i => (publicR (privR who i)).1
theorem pubs_len (who : List UInt8) (n : Nat) : (pubs who n).length = n := by simp [pubs]
theorem priv_len (s : List UInt8) (i : Nat) : (privR s i).length = 32 := derive_len _ _ _
theorem pubs_eq (who : List UInt8) (n : Nat) : pubs who n = ((List.range n).map (privR who)).map fun p => x25519 p base9 := by
  unfold pubs
  rw [List.map_map]
  exact List.map_congr_left fun i _ => by rw [publicR_eq (priv_len who i)]; rfl
theorem privs_get (who : List UInt8) {n i : Nat} (h : i < n) : ((List.range n).map (privR who)).getD i [] = privR who i := by
  rw [List.getD_eq_getElem?_getD, List.getElem?_map, List.getElem?_range h]
  rfl
/-- The keys of a way's hops. -/
def keysW (seed who : List UInt8) (n : Nat) : List HK := (secs [seed] (pubs who n)).map keysOf
theorem keysW_len (seed who : List UInt8) (n : Nat) : (keysW seed who n).length = n := by unfold keysW; rw [List.length_map, secs_len, pubs_len]
/-- The header that the hop of that number sees. -/
def hdW (seed who : List UInt8) (path : List Hop) (i : Nat) : List UInt8 :=
  hd (derive seed [112, 97, 100] 200) (fillGo [] (keysW seed who path.length).dropLast) [seed] path (keysW seed who path.length) i
theorem makeR_is {seed who : List UInt8} {path : List Hop} (hs : seed.length = 32) (h : pathE path = 0) : makeR seed (pubs who path.length) path = (hdW seed who path 0, keysW seed who path.length, 0) := by
  obtain ⟨hgood, hpos, hmost⟩ := pathE_ok h
  have hon : ∀ p ∈ pubs who path.length, OnB p := by
    intro p hp
    rw [pubs_eq] at hp
    obtain ⟨k, _, rfl⟩ := List.mem_map.1 hp
    exact onB_9.x k
  have hg := hopsGo_eq (pubs who path.length) [seed] hon (by intro b hb; rw [List.mem_singleton.1 hb]; exact hs) (by rw [pubs_len]; simp; omega)
  have h32 : ∀ s ∈ seed :: pubs who path.length, s.length = 32 := by
    intro s hx
    rcases List.mem_cons.1 hx with rfl | hx
    · exact hs
    · exact (hon s hx).1
  unfold makeR
  rw [if_neg (fun e => e h), if_neg (by rw [pubs_len]; simp), if_neg (fun e => e h32), hg, if_neg (by simp)]
  show (headR seed (keysW seed who path.length) (path.map encB), keysW seed who path.length, (0 : Int)) = _
  congr 1
  have hl := keysW_len seed who path.length
  unfold headR hdW
  rw [publicR_eq hs]
  cases path with
  | nil => simp at hpos
  | cons x r =>
    generalize keysW seed who (x :: r).length = ks at *
    cases ks with
    | nil => simp at hl
    | cons k ks => rfl
theorem hdW_len {seed who : List UInt8} {path : List Hop} {i : Nat} (h : pathE path = 0) (hi : i < path.length) : (hdW seed who path i).length = 248 := by
  obtain ⟨hgood, hpos, hmost⟩ := pathE_ok h
  have hl := keysW_len seed who path.length
  exact hd_len (derive_len _ _ _) (by rw [fillGo_len _ _ (by simp; omega)]; simp; omega) path _ _ i hgood hl hi
theorem hdW_peel {seed who : List UInt8} {path : List Hop} {i : Nat} (h : pathE path = 0) (hi : i < path.length) : peelR (privR who i) (hdW seed who path i) = (path.getD i Hop.zero, hdW seed who path (i + 1), (keysW seed who path.length).getD i HK.zero, 0) := by
  obtain ⟨hgood, hpos, hmost⟩ := pathE_ok h
  have hsh : C.shape path := by
    have h' := h
    unfold C.pathE at h'
    rw [if_pos hgood] at h'
    by_cases hs : C.shape path ∧ path.length ≤ 5
    · exact hs.1
    · rw [if_neg hs] at h'
      exact absurd h' (by decide)
  have hp := hd_peel (pad := derive seed [112, 97, 100] 200) (derive_len _ _ _) path ((List.range path.length).map (privR who)) [seed] [] i hgood hsh (by simp) (by
    intro p hp
    obtain ⟨k, _, rfl⟩ := List.mem_map.1 hp
    exact priv_len _ _) (by simp; omega) hi
  rw [privs_get who hi, ← pubs_eq] at hp
  exact hp
end Go.Proofs.D

/- The tables that the rows list: what they give to a walk, and a world in which they lie. -/
namespace Go.Proofs.D
open Go.Lg Go.Sha
set_option maxRecDepth 100000

def Laid : List (String × DataW Unit) := [("unicode/utf8.acceptRanges", YtkbagleekpgdeaaGreatDoor.Rows.laid_unicode_utf8_acceptRanges), ("dovecote/hash.ks", YtkbagleekpgdeaaGreatDoor.Rows.laid_dovecote_hash_ks), ("unicode/utf8.first", YtkbagleekpgdeaaGreatDoor.Rows.laid_unicode_utf8_first)]
def Laid1 : List (String × DataW Unit) := [("dovecote/hash.ks", YtkbagleekpgdeaaGreatDoor.Rows.laid_dovecote_hash_ks)]
def ksZ : List Int := ks.map fun (n : Nat) => (n : Int)
theorem ks_is : (YtkbagleekpgdeaaGreatDoor.Rows.laid_dovecote_hash_ks : DataW Unit) = Lib.tabData .u32 ksZ := by rfl
theorem ksZ_get (i : Nat) (h : i < 64) : ksZ.getD i 0 = ((ks.getD i 0 : Nat) : Int) := by
  have hl : i < ks.length := h
  unfold ksZ
  rw [List.getD_eq_getElem?_getD, List.getElem?_map, List.getD_eq_getElem?_getD, List.getElem?_eq_getElem hl]
  rfl
theorem ks_at {W : World} {r : List (String × DataW Unit)} (h : laidMet Tryz.prog (("dovecote/hash.ks", YtkbagleekpgdeaaGreatDoor.Rows.laid_dovecote_hash_ks) :: r) W) : KsIn (All W) := by
  rw [ks_is] at h
  have ht := Lib.tabIs_of_head (g := 1) (n := 64) (by kernel_rfl) (t := 209) (by kernel_rfl) Tryz.underlying209 Tryz.underlying131 (by kernel_rfl) (by kernel_rfl) h
  have hc : ∀ i, i < 64 → W.cell? ⟨1, i, none⟩ = some (.int .u32 (ks.getD i 0 : Nat)) := by
    intro i hi
    have := ht.cell (g := 1) (by kernel_rfl) i (by rw [show ksZ.length = 64 from rfl]; exact hi)
    rw [ksZ_get i hi] at this
    exact this
  have h0 := hc 0 (by decide)
  have : ∃ l e fz, W.heap[1]? = some (.cells l e fz) := by
    unfold World.cell? at h0
    split at h0
    · rename_i c0 e0 f0 hb; exact ⟨c0, e0, f0, hb⟩
    · simp at h0
  obtain ⟨l, e, fz, hl⟩ := this
  refine ⟨l.toList, e, fz, All.mem hl, fun i hi => ?_⟩
  have := hc i hi
  unfold World.cell? at this
  simp only [hl] at this
  simpa using this
theorem of_laid {W : World} (h : laidMetH Tryz.prog Laid W) : KsIn (All W) := by
  rw [MakeChecks.laidMetH_plain _ _ _ (by kernel_rfl)] at h
  exact ks_at h.tail
noncomputable def laidWorld (os : Os) : World :=
  let w0 := World.doorLaid Tryz.prog 24 os
  { w0 with heap := w0.heap.modify 2 fun
      | .cells _ t frozen => .cells (Go.Pinned.utf8FirstZ.map fun (n : Nat) => Value.int .u8 (n : Int)).toArray t frozen
      | o => o }
theorem laid_met (os : Os) (args : Array Value) : laidMetH Tryz.prog Laid ((laidWorld os).forCall (fun _ _ => 0) ⟨#[], args, []⟩).memory :=
  laidMetH_of_parts3 (fuel := 8) (laidMet_of_run' 8 (by kernel_rfl) (by kernel_rfl)) (by kernel_rfl) (by kernel_rfl)
theorem laid_shaped (os : Os) (args : Array Value) : ((laidWorld os).forCall (fun _ _ => 0) ⟨#[], args, []⟩).Shaped Tryz.prog :=
  World.shaped_of_RefB (by kernel_rfl) (by kernel_rfl)
theorem rdStrB {S : Ents} {t : ByteArray} (h : Rd Tryz.prog S 9 [.string t]) : ∃ s : List UInt8, t = str s ∧ s.length + 5000 ≤ big := by
  obtain ⟨l, hl, hw⟩ := h.open_str Tryz.underlying9
  cases hl
  exact ⟨l, rfl, by unfold reachBytes at hw; unfold big; omega⟩
end Go.Proofs.D

namespace Go.Proofs.D
open Go.Lg Go.Sha Go.Hd Go.Cv
open Go.Proofs.C (Hop hopP hopB parse pathE encB hopG)
set_option maxRecDepth 100000
/-- The payload as the hop of that number has it. -/
def bdW (seed who : List UInt8) (path : List Hop) (text : List UInt8) (i : Nat) : List UInt8 := bodyR text ((keysW seed who path.length).drop i)
theorem bdW_len {seed who : List UInt8} {path : List Hop} {text : List UInt8} (h : text.length ≤ 222) (i : Nat) : (bdW seed who path text i).length = 256 := bodyR_len h _
theorem bdW_open {seed who : List UInt8} {path : List Hop} {text : List UInt8} (h : text.length ≤ 222) {i : Nat} (hi : i < path.length) : wopen ((keysW seed who path.length).getD i HK.zero).body (bdW seed who path text i) = bdW seed who path text (i + 1) := by
  have hl : i < (keysW seed who path.length).length := by rw [keysW_len]; exact hi
  have hb : (bodyR text ((keysW seed who path.length).drop (i + 1))).length = 256 := bodyR_len h _
  unfold bdW
  rw [body_drop hl, List.getD_eq_getElem?_getD, List.getElem?_eq_getElem hl]
  exact wopen_shut _ (by omega)
theorem bdW_end (seed who : List UInt8) (path : List Hop) (text : List UInt8) : bdW seed who path text path.length = wplain text 256 := by
  unfold bdW
  rw [List.drop_of_length_le (by rw [keysW_len]; exact Nat.le_refl _)]
  rfl
theorem packR_is {seed who text : List UInt8} {path : List Hop} (hs : seed.length = 32) (h : pathE path = 0) (ht : text.length ≤ 222) : packR seed (pubs who path.length) text path = (hdW seed who path 0 ++ bdW seed who path text 0, 0) := by
  unfold packR
  rw [makeR_is hs h, if_neg (by simp), if_neg (by omega)]
  rfl
theorem kind_iff {path : List Hop} (h : pathE path = 0) {i : Nat} (hi : i < path.length) : (path.getD i Hop.zero).kind = 1 ↔ i + 1 < path.length := by
  obtain ⟨hgood, hpos, hmost⟩ := pathE_ok h
  have hsh : C.shape path := by
    have h' := h
    unfold C.pathE at h'
    rw [if_pos hgood] at h'
    by_cases hs : C.shape path ∧ path.length ≤ 5
    · exact hs.1
    · rw [if_neg hs] at h'
      exact absurd h' (by decide)
  have := ((C.shape_iff path).1 hsh).2 i hi
  rw [List.getD_eq_getElem?_getD, List.getElem?_eq_getElem hi]
  simp only [Option.getD_some]
  rw [this]
  omega
/-- A hop has its packet, whatever the payload is. -/
theorem pk_on {seed who body : List UInt8} {path : List Hop} {i : Nat} (h : pathE path = 0) (hi : i + 1 < path.length) (hb : body.length = 256) :
    pkPeelR (privR who i) (hdW seed who path i ++ body) = (⟨path.getD i Hop.zero, hdW seed who path (i + 1) ++ wopen ((keysW seed who path.length).getD i HK.zero).body body, ((keysW seed who path.length).getD i HK.zero).tag, []⟩, 0) := by
  have hl := hdW_len (seed := seed) (who := who) h (show i < path.length by omega)
  have e1 : (hdW seed who path i ++ body).take 248 = hdW seed who path i := by rw [List.take_append_of_le_length (by omega), List.take_of_length_le (by omega)]
  have e2 : (hdW seed who path i ++ body).drop 248 = body := by rw [List.drop_append, List.drop_of_length_le (by omega), hl]; rfl
  unfold pkPeelR
  rw [if_neg (by rw [List.length_append]; omega), e1, e2, hdW_peel h (by omega), if_neg (by simp), if_pos ((kind_iff h (by omega)).2 hi)]
theorem pk_last {seed who body : List UInt8} {path : List Hop} {i : Nat} (h : pathE path = 0) (hi : i + 1 = path.length) (hb : body.length = 256) :
    pkPeelR (privR who i) (hdW seed who path i ++ body) = lastR (path.getD i Hop.zero) ((keysW seed who path.length).getD i HK.zero).tag (wtext (wopen ((keysW seed who path.length).getD i HK.zero).body body)) := by
  have hl := hdW_len (seed := seed) (who := who) h (show i < path.length by omega)
  have e1 : (hdW seed who path i ++ body).take 248 = hdW seed who path i := by rw [List.take_append_of_le_length (by omega), List.take_of_length_le (by omega)]
  have e2 : (hdW seed who path i ++ body).drop 248 = body := by rw [List.drop_append, List.drop_of_length_le (by omega), hl]; rfl
  unfold pkPeelR
  rw [if_neg (by rw [List.length_append]; omega), e1, e2, hdW_peel h (by omega), if_neg (by simp), if_neg (fun e => by have := (kind_iff h (show i < path.length by omega)).1 e; omega)]
theorem keysW_lens (seed who : List UInt8) {n i : Nat} (hi : i < n) : ((keysW seed who n).getD i HK.zero).body.length = 32 ∧ ((keysW seed who n).getD i HK.zero).tag.length = 16 := by
  have hl : i < (keysW seed who n).length := by rw [keysW_len]; exact hi
  rw [List.getD_eq_getElem?_getD, List.getElem?_eq_getElem hl]
  simp only [Option.getD_some]
  have hm := List.getElem_mem hl
  generalize (keysW seed who n)[i] = k at *
  unfold keysW at hm
  obtain ⟨s, _, rfl⟩ := List.mem_map.1 hm
  exact ⟨(keysOf_lens s).2.2.1, (keysOf_lens s).2.2.2.2⟩
def wayT : List Hop := [⟨1, 1, 0, 0, []⟩, ⟨4, 0, 0, 0, []⟩]
theorem wayT_ok : pathE wayT = 0 := by decide +kernel
theorem wplain_text {text : List UInt8} (h : text.length ≤ 222) : wtext (wplain text 256) = some text := wtext_plain (by omega) (by omega)
attribute [local irreducible] derive hmac stream sharedR timesR publicR makeR peelR packR pkPeelR hdW keysW bdW wopen wshut wplain wtext
section
variable {B : Nat} {S R : Ents} {Q : Value → Ents → Prop}
theorem private9C {s : List UInt8} {i : Nat} (hks : KsIn S) (hs : s.length + 1000 ≤ big) (hi : i < 1000) (H : Q (.string (str (privR s i))) S) : CallWp Tryz.prog B 21 #[.string (str s), .int .i64 (i : Int)] Q S := by
  refine CallWp.dropRet ?_
  refine CallWp.enter (args := [_, _]) Tryz.func21 rfl Tryz.ntmps21 rfl ?_
  refine Wp.seq (Wp.region ?_)
  refine OWp.evs 1 rfl ?_
  refine OWp.nil ?_
  refine Wp.seq (Wp.region ?_)
  refine OWp.evs 4 rfl ?_
  refine OWp.step rfl (Step.buildSlice rfl rfl rfl ?_); intro L hBL hLL
  refine OWp.gives rfl rfl (Gives.bytesToStr (F := (L, cel [.int .u8 (IntKind.u8.wrap (IntKind.i64.wrap (48 + (i : Int))))] 5) :: S) (l := [UInt8.ofNat (48 + i)]) (k := 1) rfl rfl rfl rfl rfl (one_byte (privByte i hi))) (fun _ h => h) ?_
  refine OWp.g rfl rfl (Gives.addStr rfl rfl rfl (by simp only [List.length_cons, List.length_nil]; omega)) ?_
  refine OWp.step rfl (Step.call rfl rfl rfl rfl rfl rfl ((deriveC (label := [112, 114, 105, 118, 97, 116, 101, UInt8.ofNat (48 + i)]) hks.cons (by decide) hs (by simp [big]) ?_)))
  refine OWp.evs 5 rfl ?_
  refine OWp.nil ?_
  refine Wp.seq (Wp.region ?_)
  refine OWp.evs 2 rfl ?_
  refine OWp.nil ?_
  refine Wp.ret ⟨trivial, _, ⟨_, _, rfl, rfl, rfl⟩, ?_⟩
  exact ⟨S, subl, H⟩
theorem public9C {s : List UInt8} {i : Nat} (hks : KsIn S) (hs : s.length + 1000 ≤ big) (hi : i < 1000) (H : Q (.string (str (publicR (privR s i)).1)) S) : CallWp Tryz.prog B 22 #[.string (str s), .int .i64 (i : Int)] Q S := by
  refine CallWp.enter (args := [_, _]) Tryz.func22 rfl Tryz.ntmps22 rfl ?_
  refine Wp.seq (Wp.region ?_)
  refine OWp.evs 1 rfl ?_
  refine OWp.nil ?_
  refine Wp.seq (Wp.region ?_)
  refine OWp.evs 2 rfl ?_
  refine OWp.step rfl (Step.call rfl rfl rfl rfl rfl rfl ((private9C hks hs hi ?_)))
  refine OWp.step rfl (Step.call rfl rfl rfl rfl rfl rfl ((publicC ?_)))
  refine OWp.evs 5 rfl ?_
  refine OWp.nil ?_
  refine Wp.seq (Wp.region ?_)
  refine OWp.evs 2 rfl ?_
  refine OWp.nil ?_
  refine Wp.ret ⟨trivial, _, ⟨_, _, rfl, rfl, rfl⟩, ?_⟩
  exact H
set_option maxHeartbeats 4000000 in
theorem works9C (hks : KsIn S) (H : Q (.bool true) S) : CallWp Tryz.prog B 18 #[] Q S := by
  have hsl : (privR [115, 101, 101, 100] 0).length = 32 := priv_len _ _
  refine CallWp.dropRet ?_
  refine CallWp.enter (args := []) Tryz.func18 rfl Tryz.ntmps18 rfl ?_
  refine Wp.seq (Wp.region ?_)
  refine OWp.evs 1 rfl ?_
  refine OWp.nil ?_
  refine Wp.seq (Wp.region ?_)
  refine OWp.step rfl (Step.call rfl rfl rfl rfl rfl rfl ((private9C (s := [115, 101, 101, 100]) (i := 0) hks (by decide) (by decide) ?_)))
  generalize privR [115, 101, 101, 100] 0 = sd at *
  refine OWp.step rfl (Step.call rfl rfl rfl rfl rfl rfl ((public9C (s := [97]) (i := 0) hks (by decide) (by decide) ?_)))
  refine OWp.step rfl (Step.call rfl rfl rfl rfl rfl rfl ((public9C (s := [97]) (i := 1) hks (by decide) (by decide) ?_)))
  refine OWp.step rfl (Step.buildSlice rfl rfl rfl ?_); intro L11 hBL11 hLL11
  refine OWp.g rfl rfl (Gives.build rfl rfl) ?_
  refine OWp.g rfl rfl (Gives.build rfl rfl) ?_
  refine OWp.step rfl (Step.buildSlice rfl rfl rfl ?_); intro L14 hBL14 hLL14
  have hpk := packR_is (who := [97]) (text := [104, 105]) hsl wayT_ok (by decide)
  refine OWp.step rfl (Step.call rfl rfl rfl rfl rfl rfl ((packC (ps := pubs [97] wayT.length) (text := [104, 105]) (path := wayT) hks.cons.cons (by decide) (Reads.row (k := 2) (sz := 1) (.tail _ (.head _)) (Nat.le_of_ble_eq_true rfl)) (by rw [pubs_len]; decide) (Reads.row (k := 2) (sz := 5) (.head _) (Nat.le_of_ble_eq_true rfl)) (by decide) ?_)))
  rw [hpk]
  refine OWp.evs 5 rfl ?_
  refine OWp.nil ?_
  refine Wp.seq (Wp.region ?_)
  refine OWp.step rfl (Step.call rfl rfl rfl rfl rfl rfl ((private9C (s := [97]) (i := 0) hks.cons.cons (by decide) (by decide) ?_)))
  refine OWp.evs 1 rfl ?_
  refine OWp.step rfl (Step.call rfl rfl rfl rfl rfl rfl ((pkPeelC hks.cons.cons ?_)))
  have hp1 := pk_on (seed := sd) (who := [97]) (body := bdW sd [97] wayT [104, 105] 0) (i := 0) wayT_ok (by decide) (bdW_len (by decide) 0)
  rw [bdW_open (by decide) (by decide)] at hp1
  have hp2 := pk_last (seed := sd) (who := [97]) (body := bdW sd [97] wayT [104, 105] 1) (i := 1) wayT_ok (by decide) (bdW_len (by decide) 1)
  have hop1 := bdW_open (seed := sd) (who := [97]) (path := wayT) (text := [104, 105]) (by decide) (i := 1) (by decide)
  rw [hop1, show (1 + 1 : Nat) = wayT.length from rfl, bdW_end, wplain_text (by decide)] at hp2
  have ht1 := (keysW_lens sd [97] (n := wayT.length) (i := 1) (by decide)).2
  have hl0 := hdW_len (seed := sd) (who := [97]) (i := 0) wayT_ok (by decide)
  have hl1 := hdW_len (seed := sd) (who := [97]) (i := 1) wayT_ok (by decide)
  have hb0 := bdW_len (seed := sd) (who := [97]) (path := wayT) (text := [104, 105]) (by decide) 0
  have hb1 := bdW_len (seed := sd) (who := [97]) (path := wayT) (text := [104, 105]) (by decide) 1
  rw [hp1]
  simp only [lastR] at hp2 ⊢
  generalize bdW sd [97] wayT [104, 105] 0 = b0 at *
  generalize bdW sd [97] wayT [104, 105] (0 + 1) = b1 at *
  generalize hdW sd [97] wayT 0 = h0 at *
  generalize hdW sd [97] wayT (0 + 1) = h1 at *
  generalize ((keysW sd [97] wayT.length).getD 0 HK.zero).tag = tg0 at *
  generalize ((keysW sd [97] wayT.length).getD 1 HK.zero).tag = tg1 at *
  refine OWp.evs 3 rfl ?_
  refine OWp.step rfl (Step.alloc rfl rfl rfl ?_); intro L3 hBL3 hLL3
  refine OWp.step rfl (Step.storeAs 0 ((Pd.cells ⟨wayT.getD 0 Hop.zero, h1 ++ b1, tg0, []⟩)) rfl rfl rfl rfl rfl (by assumption) rfl (Unfz.zero _) rfl (Nat.le_of_ble_eq_true rfl) rfl rfl ?_)
  refine OWp.evs 1 rfl ?_
  refine OWp.nil ?_
  refine Wp.seqS (α := Nat) (fun L5 => [(1, .string (str (h0 ++ b0))), (2, .int .i64 0), (3, .pointer (some ⟨L3, 0, none⟩)), (4, .int .i64 0), (5, .pointer (some ⟨L5, 0, none⟩)), (6, .int .i64 0)]) (fun L5 => (L5, cel (Pd.cells ⟨wayT.getD 1 Hop.zero, [], tg1, [104, 105]⟩) 46) :: (L3, cel (Pd.cells ⟨wayT.getD 0 Hop.zero, h1 ++ b1, tg0, []⟩) 46) :: S) (fun L5 => B ≤ L5) ?_ ?_
  · skip
    refine Wp.drop (S' := (L3, cel (Pd.cells ⟨wayT.getD 0 Hop.zero, h1 ++ b1, tg0, []⟩) 46) :: S) (.cons_cons _ (.cons _ (.cons _ (.refl _)))) ?_
    refine Wp.regionDraw [1, 2, 10, 10, 10, 10, 10, 10, 10, 10] [0, 3, 7, 8] rfl (by decide +kernel) ?_
    refine DWp.evs 1 rfl ?_
    refine DWp.load (.head _) rfl rfl rfl rfl rfl rfl rfl ?_
    refine DWp.forkTo [0, 7] (by decide +kernel) (by simp) ?_
    intro xx hxx
    simp only [List.mem_cons, List.mem_nil_iff, or_false] at hxx
    rcases hxx with rfl | rfl
    · refine ⟨_, [10, 10, 10, 10, 10, 10, 10], rfl, rfl, by decide +kernel, rfl, ?_⟩
      refine (Step.call rfl rfl rfl rfl rfl rfl (private9C (s := [97]) (i := 1) (by first | exact hks.cons | exact hks.cons.cons) (by decide) (by decide) ?_))
      refine prs ?_
      refine DWp.forkTo [3, 7] (by decide +kernel) (by simp) ?_
      intro xx hxx
      simp only [List.mem_cons, List.mem_nil_iff, or_false] at hxx
      rcases hxx with rfl | rfl
      · refine ⟨_, [4, 5, 6, 7, 8, 9], rfl, rfl, by decide +kernel, rfl, ?_⟩
        refine (Step.call rfl rfl rfl rfl rfl rfl (pkPeelC (by first | exact hks.cons | exact hks.cons.cons) ?_))
        rw [hp2]
        simp only
        refine prs ?_
        refine DWp.evs 3 rfl ?_
        refine DWp.step rfl rfl rfl (Step.alloc rfl rfl rfl ?_); intro L5 hBL5 hLL5
        refine prs ?_
        refine DWp.step rfl rfl rfl (Step.permS (show List.Perm ((L5, cel Pd.zero.cells 46) :: ((L3, cel (Pd.cells ⟨wayT.getD 0 Hop.zero, h1 ++ b1, tg0, []⟩) 46) :: S)) ((L5, cel Pd.zero.cells 46) :: ((L3, cel (Pd.cells ⟨wayT.getD 0 Hop.zero, h1 ++ b1, tg0, []⟩) 46) :: S)) from permBy [[(L5, cel Pd.zero.cells 46)]] ((L3, cel (Pd.cells ⟨wayT.getD 0 Hop.zero, h1 ++ b1, tg0, []⟩) 46) :: S) [0] [0] (by decide)) (Step.storeAs 0 (Pd.cells ⟨wayT.getD 1 Hop.zero, [], tg1, [104, 105]⟩) rfl rfl rfl rfl rfl hBL5 rfl (Unfz.zero _) rfl (Nat.le_of_ble_eq_true rfl) rfl rfl ?_))
        refine prs ?_
        refine DWp.evs 1 rfl ?_
        refine DWp.nil ?_
        exact ⟨L5, hBL5, .cons rfl (.cons rfl (.cons rfl (.cons rfl (.cons rfl (.cons rfl (.nil _)))))), (show List.Perm ((L5, cel (Pd.cells ⟨wayT.getD 1 Hop.zero, [], tg1, [104, 105]⟩) 46) :: ((L3, cel (Pd.cells ⟨wayT.getD 0 Hop.zero, h1 ++ b1, tg0, []⟩) 46) :: S)) ((L5, cel (Pd.cells ⟨wayT.getD 1 Hop.zero, [], tg1, [104, 105]⟩) 46) :: ((L3, cel (Pd.cells ⟨wayT.getD 0 Hop.zero, h1 ++ b1, tg0, []⟩) 46) :: S)) from permBy [[(L5, cel (Pd.cells ⟨wayT.getD 1 Hop.zero, [], tg1, [104, 105]⟩) 46)]] ((L3, cel (Pd.cells ⟨wayT.getD 0 Hop.zero, h1 ++ b1, tg0, []⟩) 46) :: S) [0] [0] (by decide))⟩
      · refine ⟨_, [3, 4, 5, 6, 8, 9], rfl, rfl, by decide +kernel, rfl, ?_⟩
        refine (Step.alloc rfl rfl rfl ?_); intro L5 hBL5 hLL5
        refine prs ?_
        refine DWp.step rfl rfl rfl (Step.call rfl rfl rfl rfl rfl rfl (pkPeelC (by first | exact hks.cons | exact hks.cons.cons) ?_))
        rw [hp2]
        simp only
        refine prs ?_
        refine DWp.evs 3 rfl ?_
        refine DWp.step rfl rfl rfl (Step.permS (show List.Perm ((L5, cel Pd.zero.cells 46) :: ((L3, cel (Pd.cells ⟨wayT.getD 0 Hop.zero, h1 ++ b1, tg0, []⟩) 46) :: S)) ((L5, cel Pd.zero.cells 46) :: ((L3, cel (Pd.cells ⟨wayT.getD 0 Hop.zero, h1 ++ b1, tg0, []⟩) 46) :: S)) from permBy [[(L5, cel Pd.zero.cells 46)]] ((L3, cel (Pd.cells ⟨wayT.getD 0 Hop.zero, h1 ++ b1, tg0, []⟩) 46) :: S) [0] [0] (by decide)) (Step.storeAs 0 (Pd.cells ⟨wayT.getD 1 Hop.zero, [], tg1, [104, 105]⟩) rfl rfl rfl rfl rfl hBL5 rfl (Unfz.zero _) rfl (Nat.le_of_ble_eq_true rfl) rfl rfl ?_))
        refine prs ?_
        refine DWp.evs 1 rfl ?_
        refine DWp.nil ?_
        exact ⟨L5, hBL5, .cons rfl (.cons rfl (.cons rfl (.cons rfl (.cons rfl (.cons rfl (.nil _)))))), (show List.Perm ((L5, cel (Pd.cells ⟨wayT.getD 1 Hop.zero, [], tg1, [104, 105]⟩) 46) :: ((L3, cel (Pd.cells ⟨wayT.getD 0 Hop.zero, h1 ++ b1, tg0, []⟩) 46) :: S)) ((L5, cel (Pd.cells ⟨wayT.getD 1 Hop.zero, [], tg1, [104, 105]⟩) 46) :: ((L3, cel (Pd.cells ⟨wayT.getD 0 Hop.zero, h1 ++ b1, tg0, []⟩) 46) :: S)) from permBy [[(L5, cel (Pd.cells ⟨wayT.getD 1 Hop.zero, [], tg1, [104, 105]⟩) 46)]] ((L3, cel (Pd.cells ⟨wayT.getD 0 Hop.zero, h1 ++ b1, tg0, []⟩) 46) :: S) [0] [0] (by decide))⟩
    · refine ⟨_, [0, 3, 4, 5, 6, 8, 9], rfl, rfl, by decide +kernel, rfl, ?_⟩
      refine (Step.alloc rfl rfl rfl ?_); intro L5 hBL5 hLL5
      refine prs ?_
      refine DWp.step rfl rfl rfl (Step.call rfl rfl rfl rfl rfl rfl (private9C (s := [97]) (i := 1) (by first | exact hks.cons | exact hks.cons.cons) (by decide) (by decide) ?_))
      refine prs ?_
      refine DWp.step rfl rfl rfl (Step.call rfl rfl rfl rfl rfl rfl (pkPeelC (by first | exact hks.cons | exact hks.cons.cons) ?_))
      rw [hp2]
      simp only
      refine prs ?_
      refine DWp.evs 3 rfl ?_
      refine DWp.step rfl rfl rfl (Step.permS (show List.Perm ((L5, cel Pd.zero.cells 46) :: ((L3, cel (Pd.cells ⟨wayT.getD 0 Hop.zero, h1 ++ b1, tg0, []⟩) 46) :: S)) ((L5, cel Pd.zero.cells 46) :: ((L3, cel (Pd.cells ⟨wayT.getD 0 Hop.zero, h1 ++ b1, tg0, []⟩) 46) :: S)) from permBy [[(L5, cel Pd.zero.cells 46)]] ((L3, cel (Pd.cells ⟨wayT.getD 0 Hop.zero, h1 ++ b1, tg0, []⟩) 46) :: S) [0] [0] (by decide)) (Step.storeAs 0 (Pd.cells ⟨wayT.getD 1 Hop.zero, [], tg1, [104, 105]⟩) rfl rfl rfl rfl rfl hBL5 rfl (Unfz.zero _) rfl (Nat.le_of_ble_eq_true rfl) rfl rfl ?_))
      refine prs ?_
      refine DWp.evs 1 rfl ?_
      refine DWp.nil ?_
      exact ⟨L5, hBL5, .cons rfl (.cons rfl (.cons rfl (.cons rfl (.cons rfl (.cons rfl (.nil _)))))), (show List.Perm ((L5, cel (Pd.cells ⟨wayT.getD 1 Hop.zero, [], tg1, [104, 105]⟩) 46) :: ((L3, cel (Pd.cells ⟨wayT.getD 0 Hop.zero, h1 ++ b1, tg0, []⟩) 46) :: S)) ((L5, cel (Pd.cells ⟨wayT.getD 1 Hop.zero, [], tg1, [104, 105]⟩) 46) :: ((L3, cel (Pd.cells ⟨wayT.getD 0 Hop.zero, h1 ++ b1, tg0, []⟩) 46) :: S)) from permBy [[(L5, cel (Pd.cells ⟨wayT.getD 1 Hop.zero, [], tg1, [104, 105]⟩) 46)]] ((L3, cel (Pd.cells ⟨wayT.getD 0 Hop.zero, h1 ++ b1, tg0, []⟩) 46) :: S) [0] [0] (by decide))⟩
  intro L5 hB5
  refine Wp.seq (Wp.region ?_)
  refine OWp.evs 3 rfl ?_
  refine OWp.evs 5 rfl ?_
  refine OWp.part 38 rfl (fun cc3 => ?_) (fun cc3 => absurd (of_decide_eq_false cc3) (by rw [List.length_append, hl0, hb0]; simp))
  have cc3 := of_decide_eq_true cc3
  refine OWp.evs 4 rfl ?_
  refine OWp.evs 2 rfl ?_
  refine OWp.load (.tail _ (.head _)) rfl rfl rfl rfl rfl ?_
  refine OWp.evs 3 rfl ?_
  refine OWp.evs 1 rfl ?_
  refine OWp.load (.tail _ (.head _)) rfl rfl rfl rfl rfl ?_
  refine OWp.evs 4 rfl ?_
  refine OWp.part 54 rfl (fun cc4 => ?_) (fun cc4 => absurd (of_decide_eq_false cc4) (by rw [List.length_append, hl1, hb1]; simp))
  have cc4 := of_decide_eq_true cc4
  refine OWp.evs 4 rfl ?_
  refine OWp.evs 1 rfl ?_
  refine OWp.load (.head _) rfl rfl rfl rfl rfl ?_
  refine OWp.evs 3 rfl ?_
  refine OWp.evs 1 rfl ?_
  refine OWp.load (.head _) rfl rfl rfl rfl rfl ?_
  refine OWp.evs 3 rfl ?_
  refine OWp.evs 1 rfl ?_
  refine OWp.load (.head _) rfl rfl rfl rfl rfl ?_
  refine OWp.evs 4 rfl ?_
  refine OWp.nil ?_
  refine Wp.ret ⟨trivial, _, ⟨_, _, rfl, rfl, rfl⟩, ?_⟩
  rw [show decide ((tg1.length : Int) = 16) = true by rw [ht1]; rfl]
  exact ⟨S, subl, H⟩
end
end Go.Proofs.D

namespace Go.Proofs.D
open Go.Lg Go.Sha
open Go.Proofs.C (Hop)
set_option maxRecDepth 100000
theorem rdHops {S : Ents} {v : Value} (h : Rd Tryz.prog S 23 [v]) : ∃ l : List Hop, Reads S 5 v l.length (l.flatMap Hop.cells) ∧ l.length ≤ 2932031007320 ∧ ∀ x ∈ l, x.id.length ≤ C.lim := by
  obtain ⟨l, hr, hw, _, hp⟩ := h.rows (f := Hop.cells) (p := fun x => x.id.length ≤ C.lim) Tryz.underlying23 (sz := 5) rfl (fun r hr => by
    obtain ⟨x, hx, hl⟩ := C.rdHopL hr
    exact ⟨x, hx, hl⟩)
  refine ⟨l, hr, ?_, hp⟩
  have : l.length * 48 ≤ reachBytes := hw
  unfold reachBytes at this; omega
end Go.Proofs.D

namespace Go.Proofs.D
open Go.Lg Go.Sha Go.Hd Go.Cv
open Go.Proofs.C (Hop hopG)
set_option maxRecDepth 100000
theorem strs_flat : ∀ l : List (List UInt8), l.flatMap (fun s : List UInt8 => [Value.string (str s)]) = strs l
  | [] => rfl
  | a :: l => by rw [List.flatMap_cons, strs_flat l]; rfl
theorem rdStrs {S : Ents} {v : Value} (h : Rd Tryz.prog S 22 [v]) : ∃ l : List (List UInt8), Reads S 1 v l.length (strs l) ∧ l.length ≤ 8796093022080 := by
  obtain ⟨l, hr, hw, _, _⟩ := h.rows (f := fun s : List UInt8 => [Value.string (str s)]) (p := fun _ => True) Tryz.underlying22 (sz := 1) rfl (fun r hr => by
    obtain ⟨s, hs, _⟩ := hr.open_str Tryz.underlying9
    exact ⟨s, hs, trivial⟩)
  rw [strs_flat l] at hr
  refine ⟨l, hr, ?_⟩
  have : l.length * 16 ≤ reachBytes := hw
  unfold reachBytes at this; omega
theorem hops_one : ∀ l : List Hop, (l.flatMap Hop.cells).all (·.oneCell') = true
  | [] => rfl
  | x :: l => by rw [List.flatMap_cons, List.all_append, hops_one l]; rfl
attribute [local irreducible] derive hmac stream sharedR timesR makeR peelR pkPeelR packR
section
variable {B : Nat} {S R : Ents} {Q : Value → Ents → Prop}
set_option maxHeartbeats 4000000 in
theorem packMakesL {seed text : List UInt8} {ps : List (List UInt8)} {path : List Hop} {v w : Value} (hks : KsIn S) (ht : text.length + 5000 ≤ big) (hr : Reads S 1 v ps.length (strs ps)) (hl : ps.length ≤ 8796093022080) (hr2 : Reads S 5 w path.length (path.flatMap Hop.cells)) (hl2 : path.length ≤ 2932031007320) : CallWp Tryz.prog B 5 #[.string (str seed), .agg #[v, w], .string (str text)] (fun v _ => v = .bool true) S := by
  obtain ⟨va, vc, rfl⟩ := hr.form
  obtain ⟨pa, pc, rfl⟩ := hr2.form
  obtain ⟨r, hpr⟩ : ∃ r, r = packR seed ps text path := ⟨_, rfl⟩
  obtain ⟨d, e⟩ := r
  refine CallWp.enter (args := [_, _, _]) Tryz.func5 rfl Tryz.ntmps5 rfl ?_
  refine Wp.seq (Wp.region ?_)
  refine OWp.step rfl (Step.box rfl rfl rfl ?_); intro L4 hBL4 hLL4
  refine OWp.evs 1 rfl ?_
  refine OWp.nil ?_
  refine Wp.seqS (α := Ents × Ents) (fun _ => [(0, .string (str seed)), (2, .string (str text)), (4, .pointer (some ⟨L4, 0, none⟩)), (7, .string (str d)), (8, .int .i64 e)]) (fun z => z.1 ++ (z.2 ++ ((L4, cel [.slice va ps.length vc, .slice pa path.length pc] 39) :: S))) (fun _ => True) ?_ ?_
  · skip
    refine Wp.regionDraw [0, 2, 3, 5, 7, 8, 16, 16, 16, 16, 16, 16, 16, 16, 16, 16] [1, 4, 6, 9, 10] rfl (by decide +kernel) ?_
    refine DWp.evs 2 rfl ?_
    refine DWp.load (.head _) rfl rfl rfl rfl rfl rfl rfl ?_
    refine DWp.evs 2 rfl ?_
    refine DWp.load (.head _) rfl rfl rfl rfl rfl rfl rfl ?_
    refine DWp.forkTo [1, 6] (by decide +kernel) (by simp) ?_
    intro xx hxx
    simp only [List.mem_cons, List.mem_nil_iff, or_false] at hxx
    rcases hxx with rfl | rfl
    · refine ⟨_, [16, 16, 16, 16, 16, 16, 16, 16, 16], rfl, rfl, by decide +kernel, rfl, ?_⟩
      refine (Step.buildSlice rfl rfl rfl ?_); intro L13 hBL13 hLL13
      have hoz : Lg.Own B 9 1 (.slice (some ⟨L13, 0, none⟩) 0 0) 0 [] [(L13, cel [] 9)] := Own.row (k := 0) (sz := 1) (xs := []) hBL13 rfl (by decide)
      refine prs ?_
      refine DWp.forkTo [4, 6] (by decide +kernel) (by simp) ?_
      intro xx hxx
      simp only [List.mem_cons, List.mem_nil_iff, or_false] at hxx
      rcases hxx with rfl | rfl
      · refine ⟨_, [6, 9, 10, 11, 12, 13, 14, 15], rfl, rfl, by decide +kernel, rfl, ?_⟩
        refine (Step.permS (show List.Perm ((L13, cel [] 9) :: ((L4, cel [.slice va ps.length vc, .slice pa path.length pc] 39) :: S)) ((L13, cel [] 9) :: ((L4, cel [.slice va ps.length vc, .slice pa path.length pc] 39) :: S)) from permBy [[(L13, cel [] 9)]] ((L4, cel [.slice va ps.length vc, .slice pa path.length pc] 39) :: S) [0] [0] (by decide)) (Step.appendAt (es := [(L13, cel [] 9)]) [] rfl rfl rfl rfl rfl rfl (by decide) rfl rfl hoz (hr.mono fun x hx => (by repeat (first | exact hx | apply List.mem_cons_of_mem | apply List.mem_append_right))) (strs_one ps) (by show (0 + ps.length) * 16 ≤ _; omega) (by unfold maxLen; omega) ?_))
        intro v1 e1 ho1 _
        rw [Nat.zero_add, List.nil_append] at ho1
        have ho1 : Lg.Own B 9 1 v1 ps.length (strs ps) e1 := ho1
        refine prs ?_
        refine DWp.step rfl rfl rfl (Step.buildSlice rfl rfl rfl ?_); intro L18 hBL18 hLL18
        have hoy : Lg.Own B 32 5 (.slice (some ⟨L18, 0, none⟩) 0 0) 0 [] [(L18, cel [] 32)] := Own.row (k := 0) (sz := 5) (xs := []) hBL18 rfl (by decide)
        refine prs ?_
        refine DWp.step rfl rfl rfl (Step.permS (show List.Perm ((L18, cel [] 32) :: (e1 ++ ((L4, cel [.slice va ps.length vc, .slice pa path.length pc] 39) :: S))) ((L18, cel [] 32) :: (e1 ++ ((L4, cel [.slice va ps.length vc, .slice pa path.length pc] 39) :: S))) from permBy [[(L18, cel [] 32)], e1] ((L4, cel [.slice va ps.length vc, .slice pa path.length pc] 39) :: S) [0, 1] [0, 1] (by decide)) (Step.appendAt (es := [(L18, cel [] 32)]) [] rfl rfl rfl rfl rfl rfl (by decide) rfl rfl hoy (hr2.mono fun x hx => (by repeat (first | exact hx | apply List.mem_cons_of_mem | apply List.mem_append_right))) (hops_one path) (by show (0 + path.length) * 48 ≤ _; omega) (by unfold maxLen; omega) ?_))
        intro v2 e2 ho2 _
        rw [Nat.zero_add, List.nil_append] at ho2
        have ho2 : Lg.Own B 32 5 v2 path.length (path.flatMap Hop.cells) e2 := ho2
        refine prs ?_
        refine DWp.step rfl rfl rfl (Step.call rfl rfl rfl rfl rfl rfl (packC (ps := ps) (path := path) hks.cons.append.append ht (ho1.reads.mono fun x hx => by simp [hx]) hl (ho2.reads.mono fun x hx => by simp [hx]) hl2 ?_))
        rw [← hpr]
        simp only
        refine prs ?_
        refine DWp.evs 5 rfl ?_
        refine DWp.nil ?_
        exact ⟨(e1, e2), trivial, .cons rfl (.cons rfl (.cons rfl (.cons rfl (.cons rfl (.nil _))))), (show List.Perm (e2 ++ (e1 ++ ((L4, cel [.slice va ps.length vc, .slice pa path.length pc] 39) :: S))) (e1 ++ (e2 ++ ((L4, cel [.slice va ps.length vc, .slice pa path.length pc] 39) :: S))) from permBy [e2, e1] ((L4, cel [.slice va ps.length vc, .slice pa path.length pc] 39) :: S) [0, 1] [1, 0] (by decide))⟩
      · refine ⟨_, [4, 9, 10, 11, 12, 13, 14, 15], rfl, rfl, by decide +kernel, rfl, ?_⟩
        refine (Step.buildSlice rfl rfl rfl ?_); intro L18 hBL18 hLL18
        have hoy : Lg.Own B 32 5 (.slice (some ⟨L18, 0, none⟩) 0 0) 0 [] [(L18, cel [] 32)] := Own.row (k := 0) (sz := 5) (xs := []) hBL18 rfl (by decide)
        refine prs ?_
        refine DWp.step rfl rfl rfl (Step.permS (show List.Perm ((L18, cel [] 32) :: ((L13, cel [] 9) :: ((L4, cel [.slice va ps.length vc, .slice pa path.length pc] 39) :: S))) ((L13, cel [] 9) :: ((L18, cel [] 32) :: ((L4, cel [.slice va ps.length vc, .slice pa path.length pc] 39) :: S))) from permBy [[(L18, cel [] 32)], [(L13, cel [] 9)]] ((L4, cel [.slice va ps.length vc, .slice pa path.length pc] 39) :: S) [0, 1] [1, 0] (by decide)) (Step.appendAt (es := [(L13, cel [] 9)]) [] rfl rfl rfl rfl rfl rfl (by decide) rfl rfl hoz (hr.mono fun x hx => (by repeat (first | exact hx | apply List.mem_cons_of_mem | apply List.mem_append_right))) (strs_one ps) (by show (0 + ps.length) * 16 ≤ _; omega) (by unfold maxLen; omega) ?_))
        intro v1 e1 ho1 _
        rw [Nat.zero_add, List.nil_append] at ho1
        have ho1 : Lg.Own B 9 1 v1 ps.length (strs ps) e1 := ho1
        refine prs ?_
        refine DWp.step rfl rfl rfl (Step.permS (show List.Perm (e1 ++ ((L18, cel [] 32) :: ((L4, cel [.slice va ps.length vc, .slice pa path.length pc] 39) :: S))) ((L18, cel [] 32) :: (e1 ++ ((L4, cel [.slice va ps.length vc, .slice pa path.length pc] 39) :: S))) from permBy [e1, [(L18, cel [] 32)]] ((L4, cel [.slice va ps.length vc, .slice pa path.length pc] 39) :: S) [0, 1] [1, 0] (by decide)) (Step.appendAt (es := [(L18, cel [] 32)]) [] rfl rfl rfl rfl rfl rfl (by decide) rfl rfl hoy (hr2.mono fun x hx => (by repeat (first | exact hx | apply List.mem_cons_of_mem | apply List.mem_append_right))) (hops_one path) (by show (0 + path.length) * 48 ≤ _; omega) (by unfold maxLen; omega) ?_))
        intro v2 e2 ho2 _
        rw [Nat.zero_add, List.nil_append] at ho2
        have ho2 : Lg.Own B 32 5 v2 path.length (path.flatMap Hop.cells) e2 := ho2
        refine prs ?_
        refine DWp.step rfl rfl rfl (Step.call rfl rfl rfl rfl rfl rfl (packC (ps := ps) (path := path) hks.cons.append.append ht (ho1.reads.mono fun x hx => by simp [hx]) hl (ho2.reads.mono fun x hx => by simp [hx]) hl2 ?_))
        rw [← hpr]
        simp only
        refine prs ?_
        refine DWp.evs 5 rfl ?_
        refine DWp.nil ?_
        exact ⟨(e1, e2), trivial, .cons rfl (.cons rfl (.cons rfl (.cons rfl (.cons rfl (.nil _))))), (show List.Perm (e2 ++ (e1 ++ ((L4, cel [.slice va ps.length vc, .slice pa path.length pc] 39) :: S))) (e1 ++ (e2 ++ ((L4, cel [.slice va ps.length vc, .slice pa path.length pc] 39) :: S))) from permBy [e2, e1] ((L4, cel [.slice va ps.length vc, .slice pa path.length pc] 39) :: S) [0, 1] [1, 0] (by decide))⟩
    · refine ⟨_, [1, 4, 9, 10, 11, 12, 13, 14, 15], rfl, rfl, by decide +kernel, rfl, ?_⟩
      refine (Step.buildSlice rfl rfl rfl ?_); intro L18 hBL18 hLL18
      have hoy : Lg.Own B 32 5 (.slice (some ⟨L18, 0, none⟩) 0 0) 0 [] [(L18, cel [] 32)] := Own.row (k := 0) (sz := 5) (xs := []) hBL18 rfl (by decide)
      refine prs ?_
      refine DWp.step rfl rfl rfl (Step.buildSlice rfl rfl rfl ?_); intro L13 hBL13 hLL13
      have hoz : Lg.Own B 9 1 (.slice (some ⟨L13, 0, none⟩) 0 0) 0 [] [(L13, cel [] 9)] := Own.row (k := 0) (sz := 1) (xs := []) hBL13 rfl (by decide)
      refine prs ?_
      refine DWp.step rfl rfl rfl (Step.permS (show List.Perm ((L13, cel [] 9) :: ((L18, cel [] 32) :: ((L4, cel [.slice va ps.length vc, .slice pa path.length pc] 39) :: S))) ((L13, cel [] 9) :: ((L18, cel [] 32) :: ((L4, cel [.slice va ps.length vc, .slice pa path.length pc] 39) :: S))) from permBy [[(L13, cel [] 9)], [(L18, cel [] 32)]] ((L4, cel [.slice va ps.length vc, .slice pa path.length pc] 39) :: S) [0, 1] [0, 1] (by decide)) (Step.appendAt (es := [(L13, cel [] 9)]) [] rfl rfl rfl rfl rfl rfl (by decide) rfl rfl hoz (hr.mono fun x hx => (by repeat (first | exact hx | apply List.mem_cons_of_mem | apply List.mem_append_right))) (strs_one ps) (by show (0 + ps.length) * 16 ≤ _; omega) (by unfold maxLen; omega) ?_))
      intro v1 e1 ho1 _
      rw [Nat.zero_add, List.nil_append] at ho1
      have ho1 : Lg.Own B 9 1 v1 ps.length (strs ps) e1 := ho1
      refine prs ?_
      refine DWp.step rfl rfl rfl (Step.permS (show List.Perm (e1 ++ ((L18, cel [] 32) :: ((L4, cel [.slice va ps.length vc, .slice pa path.length pc] 39) :: S))) ((L18, cel [] 32) :: (e1 ++ ((L4, cel [.slice va ps.length vc, .slice pa path.length pc] 39) :: S))) from permBy [e1, [(L18, cel [] 32)]] ((L4, cel [.slice va ps.length vc, .slice pa path.length pc] 39) :: S) [0, 1] [1, 0] (by decide)) (Step.appendAt (es := [(L18, cel [] 32)]) [] rfl rfl rfl rfl rfl rfl (by decide) rfl rfl hoy (hr2.mono fun x hx => (by repeat (first | exact hx | apply List.mem_cons_of_mem | apply List.mem_append_right))) (hops_one path) (by show (0 + path.length) * 48 ≤ _; omega) (by unfold maxLen; omega) ?_))
      intro v2 e2 ho2 _
      rw [Nat.zero_add, List.nil_append] at ho2
      have ho2 : Lg.Own B 32 5 v2 path.length (path.flatMap Hop.cells) e2 := ho2
      refine prs ?_
      refine DWp.step rfl rfl rfl (Step.call rfl rfl rfl rfl rfl rfl (packC (ps := ps) (path := path) hks.cons.append.append ht (ho1.reads.mono fun x hx => by simp [hx]) hl (ho2.reads.mono fun x hx => by simp [hx]) hl2 ?_))
      rw [← hpr]
      simp only
      refine prs ?_
      refine DWp.evs 5 rfl ?_
      refine DWp.nil ?_
      exact ⟨(e1, e2), trivial, .cons rfl (.cons rfl (.cons rfl (.cons rfl (.cons rfl (.nil _))))), (show List.Perm (e2 ++ (e1 ++ ((L4, cel [.slice va ps.length vc, .slice pa path.length pc] 39) :: S))) (e1 ++ (e2 ++ ((L4, cel [.slice va ps.length vc, .slice pa path.length pc] 39) :: S))) from permBy [e2, e1] ((L4, cel [.slice va ps.length vc, .slice pa path.length pc] 39) :: S) [0, 1] [1, 0] (by decide))⟩
  rintro ⟨e1, e2⟩ -
  simp only
  refine Wp.seq (Wp.region ?_)
  refine OWp.evs 2 rfl ?_
  refine OWp.load (List.mem_append_right _ (List.mem_append_right _ (.head _))) rfl rfl rfl rfl rfl ?_
  refine OWp.evs 2 rfl ?_
  refine OWp.load (List.mem_append_right _ (List.mem_append_right _ (.head _))) rfl rfl rfl rfl rfl ?_
  refine OWp.step rfl (Step.call rfl rfl rfl rfl rfl rfl ((rpackC (ps := ps) (path := path) ht (hr.mono fun x hx => (by repeat (first | exact hx | apply List.mem_cons_of_mem | apply List.mem_append_right))) (hr2.mono fun x hx => (by repeat (first | exact hx | apply List.mem_cons_of_mem | apply List.mem_append_right))) hl2 ?_)))
  rw [← hpr]
  simp only
  refine OWp.evs 5 rfl ?_
  refine OWp.nil ?_
  refine Wp.seq (Wp.region ?_)
  refine OWp.step rfl (Step.call rfl rfl rfl rfl rfl rfl ((roomC ?_)))
  refine OWp.evs 2 rfl ?_
  refine OWp.evs 5 rfl ?_
  refine OWp.part 42 rfl (fun cc3 => ?_) (fun cc3 => absurd (of_decide_eq_false cc3) (by simp))
  have cc3 := of_decide_eq_true cc3
  refine OWp.evs 5 rfl ?_
  refine OWp.part 47 rfl (fun cc4 => ?_) (fun cc4 => absurd (of_decide_eq_false cc4) (by simp))
  have cc4 := of_decide_eq_true cc4
  refine OWp.step rfl (Step.call rfl rfl rfl rfl rfl rfl ((works9C hks.cons.append.append ?_)))
  refine OWp.evs 2 rfl ?_
  refine OWp.nil ?_
  refine Wp.ret ⟨trivial, _, ⟨_, _, rfl, rfl, rfl⟩, ?_⟩
  rfl
theorem packMakesW {t1 t2 : ByteArray} {z : Array Value} (hks : KsIn S) (h1 : Rd Tryz.prog S 9 [.string t1]) (h2 : Rd Tryz.prog S 39 z.toList) (h3 : Rd Tryz.prog S 9 [.string t2]) : CallWp Tryz.prog B 5 #[.string t1, .agg z, .string t2] (fun v _ => v = .bool true) S := by
  obtain ⟨s1, rfl, _⟩ := rdStrB h1
  obtain ⟨s2, rfl, hs2⟩ := rdStrB h3
  obtain ⟨hl, hf⟩ := h2.open_struct Tryz.underlying39
  have f1 := hf _ (.head _)
  have f2 := hf _ (.tail _ (.head _))
  obtain ⟨zl⟩ := z
  match zl, hl with
  | [a, b], _ =>
    obtain ⟨ps, hp, hpl⟩ := rdStrs f1
    obtain ⟨l, hl, hm, _⟩ := rdHops f2
    exact packMakesL hks hs2 hp hpl hl hm
end
end Go.Proofs.D
