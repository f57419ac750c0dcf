/- What functions of the given program do, one after the other, told by that layer. -/
import Derived.Test.YtkbagleekpgdeaaDoorHHd6
import Derived.Test.YtkbagleekpgdeaaDoorEM2x2952
import Derived.Test.YtkbagleekpgdeaaDoorHHead
import Derived.Test.YtkbagleekpgdeaaDoorRows
import Derived.LaidMore
import Derived.LaidHandle
import Derived.Lib.LaidTab
import Derived.Stop.LaidErr
import Derived.MakeChecks
import Derived.Test.YtkbagleekpgdeaaDoorLgM2x0fcb
/- A header that is made is peeled hop by hop: what the functions reckon, without the program. -/
namespace Go.Proofs.D
open Go.Lg Go.Sha Go.Hd Go.Cv
open Go.Proofs.C (Hop hopP hopB parse pathE encB)
set_option maxRecDepth 100000
attribute [local irreducible] derive hmac stream x25519 clampN ladx le32
theorem decF_enc {h : Hop} (hp : hopP h) : decF (encB h) = (h, 0) := by
  unfold encB decF
  rw [if_pos hp, C.parse_hopB hp true, if_pos ⟨hp, rfl⟩]
/-- One hop. -/
theorem peel_stage {pad g priv : List UInt8} {by_ : List (List UInt8)} {h : Hop} {path : List Hop} {ks : List HK} (hpad : pad.length = 200) (hpriv : priv.length = 32) (hh : hopP h) (hpath : ∀ x ∈ path, hopP x) (hks : ks.length = path.length) (hg : g.length + 40 * (path.length + 1) ≤ 200) (hkind : h.kind = 1 ↔ path ≠ []) {k : HK} (hk : k = keysOf (xs (x25519 priv base9) by_)) :
    peelR priv (stg pad (fillGo g (k :: ks).dropLast) by_ ((encB h, k) :: (path.map encB).zip ks)) = (h, (if path = [] then [] else stg pad (fillGo g (k :: ks).dropLast) (by_ ++ [k.blind]) ((path.map encB).zip ks)), k, 0) := by
  have hr : ∀ x ∈ (encB h, k) :: (path.map encB).zip ks, x.1.length = 24 := by
    intro x hx
    rcases List.mem_cons.1 hx with rfl | hx
    · exact encB_good hh
    · have := (List.of_mem_zip (show (x.1, x.2) ∈ _ from hx)).1
      obtain ⟨y, hy, he⟩ := List.mem_map.1 this
      rw [← he]
      exact encB_good (hpath y hy)
  have hfl : (fillGo g (k :: ks).dropLast).length ≤ 200 := by
    rw [fillGo_len _ _ (by rw [List.length_dropLast, List.length_cons, hks]; omega), List.length_dropLast, List.length_cons, hks]
    omega
  obtain ⟨p1, p2, p3, p4⟩ := stg_parts (by_ := by_) hpad hfl hr
  unfold peelR
  rw [if_neg (fun hx => hx ⟨hpriv, p1⟩), p2, shared_stage by_ hpriv, if_neg (by simp)]
  simp only
  rw [← hk, p3, p4, if_neg (by rw [listR_cons]; simp)]
  have hsnd : ((path.map encB).zip ks).map (·.2) = ks := List.map_snd_zip (by rw [List.length_map, hks]; exact Nat.le_refl _)
  cases path with
  | nil =>
    have : ks = [] := List.length_eq_zero_iff.1 hks
    subst this
    have hx := open_last hpad (encB h) k g (encB_good hh) (by simp at hg; omega)
    unfold openR
    simp only [List.map_nil, List.zip_nil_left, List.dropLast_singleton, fillGo]
    rw [hx, decF_enc hh, if_neg (by simp), if_pos (fun e => (hkind.1 e) rfl)]
    rfl
  | cons h2 path =>
    match ks, hks, hsnd with
    | [], hks, _ => simp at hks
    | k2 :: ks, hks, hsnd =>
      have hz : ((h2 :: path).map encB).zip (k2 :: ks) = (encB h2, k2) :: (path.map encB).zip ks := rfl
      have hx := open_on hpad (encB h) k (encB h2, k2) ((path.map encB).zip ks) g (by rw [← hz]; exact hr) (by rw [List.length_zip, List.length_map]; simp at hks hg; omega)
      have hmap : (((encB h, k) :: (encB h2, k2) :: (path.map encB).zip ks).map (·.2)) = k :: k2 :: ks := by rw [← hz, List.map_cons, hsnd]
      rw [hmap] at hx
      unfold openR
      rw [hz, hx]
      obtain ⟨l1, l2⟩ := listR_len hpad hfl ((encB h2, k2) :: (path.map encB).zip ks) (fun y hy => hr y (List.mem_cons_of_mem _ (by rw [hz]; exact hy)))
      obtain ⟨L, hL⟩ : ∃ L, L = listR pad (fillGo g (k :: k2 :: ks).dropLast) ((encB h2, k2) :: (path.map encB).zip ks) := ⟨_, rfl⟩
      rw [← hL] at l1 l2 ⊢
      have hl := encB_good hh
      have e1 : (encB h ++ L.1 ++ L.2).take 24 = encB h := by
        rw [List.append_assoc, List.take_append_of_le_length (by omega), List.take_of_length_le (by omega)]
      have e2 : (encB h ++ L.1 ++ L.2).drop 24 = L.1 ++ L.2 := by
        rw [List.append_assoc, List.drop_append, List.drop_of_length_le (by omega), List.nil_append, hl]
        rfl
      have hk1 : h.kind = 1 := hkind.2 (by simp)
      have hb32 : k.blind.length = 32 := by rw [hk]; exact blind_len _
      simp only
      rw [e1, e2, decF_enc hh, if_neg (by simp), if_neg (fun e => e hk1), timesR_eq hb32 (onB_9.xs by_).1, ← xs_snoc, if_neg (by simp), ← List.append_assoc]
      unfold stg
      rw [← hL]
/-- The header that the hop of that number sees; behind the last one nothing. -/
def hd (pad fill : List UInt8) : List (List UInt8) → List Hop → List HK → Nat → List UInt8
  | by_, h :: path, k :: ks, 0 => stg pad fill by_ ((encB h, k) :: (path.map encB).zip ks)
  | by_, _ :: path, k :: ks, i + 1 => hd pad fill (by_ ++ [k.blind]) path ks i
  | _, _, _, _ => []
theorem hd_len {pad fill : List UInt8} (hpad : pad.length = 200) (hf : fill.length ≤ 200) : ∀ (path : List Hop) (ks : List HK) (by_ : List (List UInt8)) (i : Nat), (∀ x ∈ path, hopP x) → ks.length = path.length → i < path.length → (hd pad fill by_ path ks i).length = 248
  | [], _, _, _, _, _, h => absurd h (by simp)
  | h :: path, [], _, _, _, h2, _ => by simp at h2
  | h :: path, k :: ks, by_, 0, hp, _, _ => by
    refine (stg_parts hpad hf ?_).1
    intro x hx
    rcases List.mem_cons.1 hx with rfl | hx
    · exact encB_good (hp h (List.mem_cons_self ..))
    · have := (List.of_mem_zip (show (x.1, x.2) ∈ _ from hx)).1
      obtain ⟨y, hy, he⟩ := List.mem_map.1 this
      rw [← he]
      exact encB_good (hp y (List.mem_cons_of_mem _ hy))
  | _ :: path, k :: ks, by_, i + 1, hp, h2, h3 => hd_len hpad hf path ks (by_ ++ [k.blind]) i (fun x hx => hp x (List.mem_cons_of_mem _ hx)) (by simpa using h2) (by simpa using h3)
theorem hd_end (pad fill : List UInt8) : ∀ (path : List Hop) (ks : List HK) (by_ : List (List UInt8)), hd pad fill by_ path ks path.length = []
  | [], _, _ => by simp [hd]
  | _ :: _, [], _ => by simp [hd]
  | _ :: path, _ :: ks, _ => hd_end pad fill path ks _
theorem hd_peel {pad : List UInt8} (hpad : pad.length = 200) : ∀ (path : List Hop) (privs : List (List UInt8)) (by_ : List (List UInt8)) (g : List UInt8) (i : Nat), (∀ x ∈ path, hopP x) → C.shape path → privs.length = path.length → (∀ p ∈ privs, p.length = 32) → g.length + 40 * path.length ≤ 200 → i < path.length →
    peelR (privs.getD i []) (hd pad (fillGo g ((secs by_ (privs.map fun p => x25519 p base9)).map keysOf).dropLast) by_ path ((secs by_ (privs.map fun p => x25519 p base9)).map keysOf) i) = (path.getD i Hop.zero, hd pad (fillGo g ((secs by_ (privs.map fun p => x25519 p base9)).map keysOf).dropLast) by_ path ((secs by_ (privs.map fun p => x25519 p base9)).map keysOf) (i + 1), ((secs by_ (privs.map fun p => x25519 p base9)).map keysOf).getD i HK.zero, 0)
  | [], _, _, _, _, _, _, _, _, _, h => absurd h (by simp)
  | h :: path, [], _, _, _, _, _, h2, _, _, _ => by simp at h2
  | h :: path, p :: privs, by_, g, i, hp, hs, hl, h32, hg, hi => by
    simp only [List.length_cons] at hl hg hi
    have hlen : ((secs (by_ ++ [(keysOf (xs (x25519 p base9) by_)).blind]) (privs.map fun p => x25519 p base9)).map keysOf).length = path.length := by
      rw [List.length_map, secs_len, List.length_map]; omega
    rw [List.map_cons, secs, List.map_cons]
    generalize hk : keysOf (xs (x25519 p base9) by_) = k at *
    cases i with
    | zero =>
      have := peel_stage (by_ := by_) (g := g) hpad (h32 p (List.mem_cons_self ..)) (hp h (List.mem_cons_self ..)) (fun x hx => hp x (List.mem_cons_of_mem _ hx)) hlen (by omega) (by
        cases path with
        | nil => simp only [C.shape] at hs; simp [hs]
        | cons y r => simp only [C.shape] at hs; simp [hs.1]) hk.symm
      rw [List.getD_cons_zero, List.getD_cons_zero, List.getD_cons_zero]
      rw [hd, this]
      congr 2
      cases path with
      | nil => simp [hd]
      | cons y r =>
        generalize ((secs (by_ ++ [k.blind]) (privs.map fun p => x25519 p base9)).map keysOf) = ks at *
        cases ks with
        | nil => simp at hlen
        | cons k2 ks => rw [if_neg (by simp)]; rfl
    | succ i =>
      have hne : path ≠ [] := fun e => by subst e; simp at hi
      have hs2 : C.shape path := by
        cases path with
        | nil => exact absurd rfl hne
        | cons y r => exact hs.2
      have hgl : (flowX k (g ++ List.replicate 40 0) (240 - (g.length + 40))).length = g.length + 40 := by
        rw [flowX_len _ (by simp; omega)]; simp
      have ih := hd_peel hpad path privs (by_ ++ [k.blind]) (flowX k (g ++ List.replicate 40 0) (240 - (g.length + 40))) i (fun x hx => hp x (List.mem_cons_of_mem _ hx)) hs2 (by omega) (fun x hx => h32 x (List.mem_cons_of_mem _ hx)) (by rw [hgl]; omega) (by omega)
      have hf : fillGo (flowX k (g ++ List.replicate 40 0) (240 - (g.length + 40))) ((secs (by_ ++ [k.blind]) (privs.map fun p => x25519 p base9)).map keysOf).dropLast = fillGo g (k :: (secs (by_ ++ [k.blind]) (privs.map fun p => x25519 p base9)).map keysOf).dropLast := by
        generalize ((secs (by_ ++ [k.blind]) (privs.map fun p => x25519 p base9)).map keysOf) = ks at *
        cases ks with
        | nil => exact absurd (List.length_eq_zero_iff.1 (by rw [← hlen]; rfl)) hne
        | cons k2 ks => rfl
      rw [hf] at ih
      rw [List.getD_cons_succ, List.getD_cons_succ, List.getD_cons_succ, hd, hd]
      exact ih
end Go.Proofs.D

/- The headers of ways that begin with points of private keys: they are made, and peeled. -/
namespace Go.Proofs.D
open Go.Lg Go.Sha Go.Hd Go.Cv
open Go.Proofs.C (Hop hopP hopB parse pathE encB)
set_option maxRecDepth 100000
/-- The points of so many hops. -/
def pubs (who : List UInt8) (n : Nat) : List (List UInt8) := (List.range n).map fun i => (publicR (privR who i)).1
theorem pubs_len (who : List UInt8) (n : Nat) : (pubs who n).length = n := by simp [pubs]
theorem pubs_succ (who : List UInt8) (n : Nat) : pubs who (n + 1) = pubs who n ++ [(publicR (privR who n)).1] := by simp [pubs, List.range_succ]
theorem priv_len (s : List UInt8) (i : Nat) : (privR s i).length = 32 := derive_len _ _ _
theorem pubs_eq (who : List UInt8) (n : Nat) : pubs who n = ((List.range n).map (privR who)).map fun p => x25519 p base9 := by
  unfold pubs
  rw [List.map_map]
  exact List.map_congr_left fun i _ => by rw [publicR_eq (priv_len who i)]; rfl
theorem strs_pubs (who : List UInt8) (n : Nat) : strs (pubs who (n + 1)) = strs (pubs who n) ++ [.string (str (publicR (privR who n)).1)] := by rw [pubs_succ, strs_snoc]
theorem privs_get (who : List UInt8) {n i : Nat} (h : i < n) : ((List.range n).map (privR who)).getD i [] = privR who i := by
  rw [List.getD_eq_getElem?_getD, List.getElem?_map, List.getElem?_range h]
  rfl
/-- The keys of a way's hops. -/
def keysW (seed who : List UInt8) (n : Nat) : List HK := (secs [seed] (pubs who n)).map keysOf
theorem keysW_len (seed who : List UInt8) (n : Nat) : (keysW seed who n).length = n := by unfold keysW; rw [List.length_map, secs_len, pubs_len]
/-- The header that the hop of that number sees. -/
def hdW (seed who : List UInt8) (path : List Hop) (i : Nat) : List UInt8 :=
  hd (derive seed [112, 97, 100] 200) (fillGo [] (keysW seed who path.length).dropLast) [seed] path (keysW seed who path.length) i
theorem makeR_is {seed who : List UInt8} {path : List Hop} (hs : seed.length = 32) (h : pathE path = 0) : makeR seed (pubs who path.length) path = (hdW seed who path 0, keysW seed who path.length, 0) := by
  obtain ⟨hgood, hpos, hmost⟩ := pathE_ok h
  have hon : ∀ p ∈ pubs who path.length, OnB p := by
    intro p hp
    rw [pubs_eq] at hp
    obtain ⟨k, _, rfl⟩ := List.mem_map.1 hp
    exact onB_9.x k
  have hg := hopsGo_eq (pubs who path.length) [seed] hon (by intro b hb; rw [List.mem_singleton.1 hb]; exact hs) (by rw [pubs_len]; simp; omega)
  have h32 : ∀ s ∈ seed :: pubs who path.length, s.length = 32 := by
    intro s hx
    rcases List.mem_cons.1 hx with rfl | hx
    · exact hs
    · exact (hon s hx).1
  unfold makeR
  rw [if_neg (fun e => e h), if_neg (by rw [pubs_len]; simp), if_neg (fun e => e h32), hg, if_neg (by simp)]
  show (headR seed (keysW seed who path.length) (path.map encB), keysW seed who path.length, (0 : Int)) = _
  congr 1
  have hl := keysW_len seed who path.length
  unfold headR hdW
  rw [publicR_eq hs]
  cases path with
  | nil => simp at hpos
  | cons x r =>
    generalize keysW seed who (x :: r).length = ks at *
    cases ks with
    | nil => simp at hl
    | cons k ks => rfl
theorem hdW_len {seed who : List UInt8} {path : List Hop} {i : Nat} (h : pathE path = 0) (hi : i < path.length) : (hdW seed who path i).length = 248 := by
  obtain ⟨hgood, hpos, hmost⟩ := pathE_ok h
  have hl := keysW_len seed who path.length
  exact hd_len (derive_len _ _ _) (by rw [fillGo_len _ _ (by simp; omega)]; simp; omega) path _ _ i hgood hl hi
theorem hdW_end (seed who : List UInt8) (path : List Hop) : hdW seed who path path.length = [] := hd_end _ _ _ _ _
theorem hdW_peel {seed who : List UInt8} {path : List Hop} {i : Nat} (h : pathE path = 0) (hi : i < path.length) : peelR (privR who i) (hdW seed who path i) = (path.getD i Hop.zero, hdW seed who path (i + 1), (keysW seed who path.length).getD i HK.zero, 0) := by
  obtain ⟨hgood, hpos, hmost⟩ := pathE_ok h
  have hsh : C.shape path := by
    have h' := h
    unfold C.pathE at h'
    rw [if_pos hgood] at h'
    by_cases hs : C.shape path ∧ path.length ≤ 5
    · exact hs.1
    · rw [if_neg hs] at h'
      exact absurd h' (by decide)
  have hp := hd_peel (pad := derive seed [112, 97, 100] 200) (derive_len _ _ _) path ((List.range path.length).map (privR who)) [seed] [] i hgood hsh (by simp) (by
    intro p hp
    obtain ⟨k, _, rfl⟩ := List.mem_map.1 hp
    exact priv_len _ _) (by simp; omega) hi
  rw [privs_get who hi, ← pubs_eq] at hp
  exact hp
/-- What is refused. -/
theorem makeR_no {seed : List UInt8} {path : List Hop} (h : pathE path ≠ 0) (ps : List (List UInt8)) : makeR seed ps path = ([], [], pathE path) := by
  unfold makeR
  rw [if_pos h]
end Go.Proofs.D

/- The tables that the rows list: what they give to a walk, and a world in which they lie. -/
namespace Go.Proofs.D
open Go.Lg Go.Sha
set_option maxRecDepth 100000

def Laid1 : List (String × DataW Unit) := [("dovecote/hash.ks", YtkbagleekpgdeaaDoor.Rows.laid_dovecote_hash_ks)]
def ksZ : List Int := ks.map fun (n : Nat) => (n : Int)
theorem ks_is : (YtkbagleekpgdeaaDoor.Rows.laid_dovecote_hash_ks : DataW Unit) = Lib.tabData .u32 ksZ := by rfl
theorem ksZ_get (i : Nat) (h : i < 64) : ksZ.getD i 0 = ((ks.getD i 0 : Nat) : Int) := by
  have hl : i < ks.length := h
  unfold ksZ
  rw [List.getD_eq_getElem?_getD, List.getElem?_map, List.getD_eq_getElem?_getD, List.getElem?_eq_getElem hl]
  rfl
theorem ks_at {W : World} {r : List (String × DataW Unit)} (h : laidMet Tryd.prog (("dovecote/hash.ks", YtkbagleekpgdeaaDoor.Rows.laid_dovecote_hash_ks) :: r) W) : KsIn (All W) := by
  rw [ks_is] at h
  have ht := Lib.tabIs_of_head (g := 0) (n := 64) (by kernel_rfl) (t := 132) (by kernel_rfl) Tryd.underlying132 Tryd.underlying112 (by kernel_rfl) (by kernel_rfl) h
  have hc : ∀ i, i < 64 → W.cell? ⟨0, i, none⟩ = some (.int .u32 (ks.getD i 0 : Nat)) := by
    intro i hi
    have := ht.cell (g := 0) (by kernel_rfl) i (by rw [show ksZ.length = 64 from rfl]; exact hi)
    rw [ksZ_get i hi] at this
    exact this
  have h0 := hc 0 (by decide)
  have : ∃ l e fz, W.heap[0]? = some (.cells l e fz) := by
    unfold World.cell? at h0
    split at h0
    · rename_i c0 e0 f0 hb; exact ⟨c0, e0, f0, hb⟩
    · simp at h0
  obtain ⟨l, e, fz, hl⟩ := this
  refine ⟨l.toList, e, fz, All.mem hl, fun i hi => ?_⟩
  have := hc i hi
  unfold World.cell? at this
  simp only [hl] at this
  simpa using this
theorem of_laid1 {W : World} (h : laidMetH Tryd.prog Laid1 W) : KsIn (All W) := by
  rw [MakeChecks.laidMetH_plain _ _ _ (by kernel_rfl)] at h
  exact ks_at h
noncomputable def laidWorld (os : Os) : World := World.doorLaid Tryd.prog 24 os
theorem laid_met1 (os : Os) (args : Array Value) : laidMetH Tryd.prog Laid1 ((laidWorld os).forCall (fun _ _ => 0) ⟨#[], args, []⟩).memory :=
  laidMetH_of_parts3 (fuel := 8) (laidMet_of_run' 8 (by kernel_rfl) (by kernel_rfl)) (by kernel_rfl) (by kernel_rfl)
theorem laid_shaped (os : Os) (args : Array Value) : ((laidWorld os).forCall (fun _ _ => 0) ⟨#[], args, []⟩).Shaped Tryd.prog :=
  World.shaped_of_RefB (by kernel_rfl) (by kernel_rfl)
theorem rdStrB {S : Ents} {t : ByteArray} (h : Rd Tryd.prog S 9 [.string t]) : ∃ s : List UInt8, t = str s ∧ s.length + 5000 ≤ big := by
  obtain ⟨l, hl, hw⟩ := h.open_str Tryd.underlying9
  cases hl
  exact ⟨l, rfl, by unfold reachBytes at hw; unfold big; omega⟩
end Go.Proofs.D

namespace Go.Proofs.D
open Go.Lg Go.Sha
open Go.Proofs.C (Hop)
set_option maxRecDepth 100000
theorem rdHops {S : Ents} {v : Value} (h : Rd Tryd.prog S 22 [v]) : ∃ l : List Hop, Reads S 5 v l.length (l.flatMap Hop.cells) ∧ l.length ≤ 2932031007320 ∧ ∀ x ∈ l, x.id.length ≤ C.lim := by
  obtain ⟨l, hr, hw, _, hp⟩ := h.rows (f := Hop.cells) (p := fun x => x.id.length ≤ C.lim) Tryd.underlying22 (sz := 5) rfl (fun r hr => by
    obtain ⟨x, hx, hl⟩ := C.rdHopL hr
    exact ⟨x, hx, hl⟩)
  refine ⟨l, hr, ?_, hp⟩
  have : l.length * 48 ≤ reachBytes := hw
  unfold reachBytes at this; omega
end Go.Proofs.D

namespace Go.Proofs.D
open Go.Lg Go.Sha
set_option maxRecDepth 100000
/-- uint64(x) % m as an int. -/
def umod (x : Int) (m : Nat) : Nat := (x % 18446744073709551616 % (m : Int)).toNat
theorem umod_lt (x : Int) {m : Nat} (h : 0 < m) : umod x m < m := by
  unfold umod
  have := Int.emod_lt_of_pos (x % 18446744073709551616) (show (0 : Int) < m by omega)
  have := Int.emod_nonneg (x % 18446744073709551616) (show (m : Int) ≠ 0 by omega)
  omega
theorem umod_eq (x : Int) {m : Nat} (h : 0 < m) (hm : m ≤ 9223372036854775807) : IntKind.i64.wrap ((IntKind.u64.wrap x).tmod (m : Int)) = (umod x m : Int) := by
  have h1 := umod_lt x h
  have h2 := Int.emod_nonneg (x % 18446744073709551616) (show (m : Int) ≠ 0 by omega)
  have h3 := Int.emod_nonneg x (show (18446744073709551616 : Int) ≠ 0 by decide)
  rw [IntKind.wrap_u64, Int.tmod_eq_emod_of_nonneg h3, i64_id (by omega) (by unfold umod at h1; omega)]
  unfold umod
  omega
theorem rdByte {S : Ents} {n : Int} (h : Rd Tryd.prog S 5 [.int .u8 n]) : ∃ b : UInt8, n = (b.toNat : Int) := by
  obtain ⟨m, hm, hw⟩ := h.open_int Tryd.underlying5
  cases hm
  have h2 : IntKind.u8.min ≤ n ∧ n ≤ IntKind.u8.max := by simpa [Lit.wf] using hw
  have e : IntKind.u8.min = 0 := by decide
  have e2 : IntKind.u8.max = 255 := by decide
  refine ⟨UInt8.ofNat n.toNat, ?_⟩
  rw [UInt8.toNat_ofNat']
  omega
theorem byte_get {l : List UInt8} {g : List Value} {i : Nat} (h : i < l.length) : (byteCells l ++ g)[i]? = some (.int .u8 ((l.getD i 0).toNat : Int)) := by
  rw [bc_get h, List.getD_eq_getElem?_getD, List.getElem?_eq_getElem h]; rfl
theorem reads_bytes {S : Ents} {L n cap : Nat} {l : List UInt8} {g : List Value} {t : TypeId} {fz : Nat × Nat} (h : l.length = n) : Reads ((L, cel (byteCells l ++ g) t fz) :: S) 1 (.slice (some ⟨L, 0, none⟩) n cap) n (byteCells l) := by
  have := Reads.row (S := (L, cel (byteCells l ++ g) t fz) :: S) (sz := 1) (k := n) (cap := cap) (.head _) (by rw [List.length_append, byteCells_length]; omega)
  rw [Nat.mul_one, List.take_append_of_le_length (by rw [byteCells_length]; omega), List.take_of_length_le (by rw [byteCells_length]; omega)] at this
  exact this
theorem reads_sub {S : Ents} {L o n cap : Nat} {l : List UInt8} {g : List Value} {t : TypeId} {fz : Nat × Nat} (h : o + n ≤ l.length) : Reads ((L, cel (byteCells l ++ g) t fz) :: S) 1 (.slice (some ⟨L, o, none⟩) n cap) n (byteCells ((l.drop o).take n)) := by
  refine ⟨by rw [byteCells_length, List.length_take, List.length_drop]; omega, .inr ⟨L, o, cap, byteCells l ++ g, t, fz, rfl, .head _, ?_, ?_⟩⟩
  · rw [List.length_append, byteCells_length]
    omega
  · rw [List.drop_append_of_le_length (by rw [byteCells_length]; omega), List.take_append_of_le_length (by rw [List.length_drop, byteCells_length]; omega)]
    unfold byteCells
    rw [List.map_take, List.map_drop, Nat.mul_one]
end Go.Proofs.D

namespace Go.Proofs.D
open Go.Lg Go.Sha Go.Hd Go.Cv
open Go.Proofs.C (Hop hopP hopB parse pathE encB hopG)
set_option maxRecDepth 100000
def wayT : List Hop := [⟨1, 1, 0, 0, []⟩, ⟨4, 0, 0, 0, []⟩]
theorem wayT_ok : pathE wayT = 0 := by decide +kernel
theorem hdW_take {seed who : List UInt8} {path : List Hop} (h : pathE path = 0) : (hdW seed who path 0).take 32 = x25519 seed base9 := by
  obtain ⟨hgood, hpos, hmost⟩ := pathE_ok h
  have hl := keysW_len seed who path.length
  unfold hdW
  cases path with
  | nil => simp at hpos
  | cons x r =>
    generalize keysW seed who (x :: r).length = ks at *
    cases ks with
    | nil => simp at hl
    | cons k ks =>
      have hr : ∀ y ∈ (encB x, k) :: (r.map encB).zip ks, y.1.length = 24 := by
        intro y hy
        rcases List.mem_cons.1 hy with rfl | hy
        · exact encB_good (hgood x (List.mem_cons_self ..))
        · have := (List.of_mem_zip (show (y.1, y.2) ∈ _ from hy)).1
          obtain ⟨z, hz, he⟩ := List.mem_map.1 this
          rw [← he]
          exact encB_good (hgood z (List.mem_cons_of_mem _ hz))
      exact (stg_parts (by_ := [seed]) (derive_len seed _ _) (by rw [fillGo_len _ _ (by simp at hl hmost ⊢; omega)]; simp at hl hmost ⊢; omega) hr).2.1
theorem decF_err (b : List UInt8) : (decF b).2 = 0 ∨ (decF b).2 = 70 := by
  unfold decF
  split
  · exact .inl rfl
  · exact .inr rfl
/-- What is told of a header as long as any, with the seed's point. -/
theorem peel_turned {priv seed h : List UInt8} (hp : priv.length = 32) (hl : h.length = 248) (ht : h.take 32 = x25519 seed base9) :
    (peelR priv h).2.2.2 = 81 ∨ (((peelR priv h).2.2.2 = 0 ∨ (peelR priv h).2.2.2 = 70) ∧ macX (keysOf (sharedR priv (h.take 32)).1) (h.drop 48) = (h.drop 32).take 16) := by
  have hsh : (sharedR priv (h.take 32)).2 = 0 := by rw [ht, sharedR_eq hp (onB_9.x _)]
  unfold peelR
  rw [if_neg (fun e => e ⟨hp, hl⟩), if_neg (by omega)]
  split
  · exact .inl rfl
  · rename_i hm
    refine .inr ⟨?_, Classical.not_not.1 hm⟩
    unfold openR
    simp only
    split
    · rename_i h1
      rcases decF_err ((flowX (keysOf (sharedR priv (h.take 32)).1) (h.drop 48 ++ List.replicate 40 0) 0).take 24) with h2 | h2
      · exact absurd h2 h1
      · exact .inr h2
    · split
      · exact .inl rfl
      · exact .inl rfl
attribute [local irreducible] derive hmac stream sharedR timesR publicR makeR peelR exSeed exPriv exPub exSec exKeys exHead hdW keysW macX
section
variable {B : Nat} {S R : Ents} {Q : Value → Ents → Prop}
set_option maxHeartbeats 4000000 in
theorem headTurnedL {who : List UInt8} {at' : Int} {by' : UInt8} (hks : KsIn S) (hs2 : who.length + 5000 ≤ big) : CallWp Tryd.prog B 5 #[.string (str who), .int .i64 at', .int .u8 (by'.toNat : Int)] (fun v _ => v = .bool true) S := by
  have hp := umod_lt at' (m := 216) (by decide)
  have ep := umod_eq at' (m := 216) (by decide) (by decide)
  obtain ⟨p, hp0⟩ : ∃ p, p = umod at' 216 := ⟨_, rfl⟩
  rw [← hp0] at hp ep
  refine CallWp.enter (args := [_, _, _]) Tryd.func5 rfl Tryd.ntmps5 rfl ?_
  refine Wp.seq (Wp.region ?_)
  refine OWp.evs 1 rfl ?_
  refine OWp.nil ?_
  refine Wp.seq ?_
  refine Wp.seq (Wp.region ?_)
  refine OWp.step rfl (Step.call rfl rfl rfl rfl rfl rfl ((worksC hks ?_)))
  refine OWp.evs 1 rfl ?_
  refine OWp.nil ?_
  refine Wp.cond rfl (fun c => nomatch c) (fun _ => ?_)
  refine Wp.skip ?_
  refine Wp.seq (Wp.region ?_)
  refine OWp.evs 1 rfl ?_
  refine OWp.step rfl (Step.call rfl rfl rfl rfl rfl rfl ((privateC (i := 9) hks (by omega) (by decide) ?_)))
  have hps : (privR who 9).length = 32 := priv_len _ _
  generalize privR who 9 = sd at *
  refine OWp.evs 1 rfl ?_
  refine OWp.nil ?_
  refine Wp.seq (Wp.region ?_)
  refine OWp.evs 2 rfl ?_
  refine OWp.step rfl (Step.call rfl rfl rfl rfl rfl rfl ((publicLC (i := 0) hks (by omega) (by decide) ?_)))
  refine OWp.evs 1 rfl ?_
  refine OWp.step rfl (Step.call rfl rfl rfl rfl rfl rfl ((publicLC (i := 1) hks (by omega) (by decide) ?_)))
  refine OWp.step rfl (Step.buildSlice rfl rfl rfl ?_); intro L28 hBL28 hLL28
  refine OWp.g rfl rfl (Gives.build rfl rfl) ?_
  refine OWp.g rfl rfl (Gives.build rfl rfl) ?_
  refine OWp.step rfl (Step.buildSlice rfl rfl rfl ?_); intro L31 hBL31 hLL31
  have hmk := makeR_is (who := who) (path := wayT) hps wayT_ok
  refine OWp.step rfl (Step.call rfl rfl rfl rfl rfl rfl ((makeC (ps := pubs who wayT.length) (path := wayT) hks.cons.cons (Reads.row (k := 2) (sz := 1) (.tail _ (.head _)) (Nat.le_of_ble_eq_true rfl)) (by rw [pubs_len]; decide) (Reads.row (k := 2) (sz := 5) (.head _) (Nat.le_of_ble_eq_true rfl)) (by decide) (fun h => absurd (by rw [hmk]) h) ?_)))
  intro _ z es how
  rw [hmk]
  simp only
  refine OWp.evs 7 rfl ?_
  refine OWp.nil ?_
  refine Wp.seq ?_
  refine Wp.drop (S' := S) ((List.Sublist.cons _ (.cons _ (.refl _))).trans (List.sublist_append_right _ _)) ?_
  refine Wp.seq (Wp.region ?_)
  refine OWp.evs 2 rfl ?_
  refine OWp.nil ?_
  refine Wp.cond rfl (fun c => nomatch c) (fun _ => ?_)
  have hl := hdW_len (seed := sd) (who := who) (i := 0) wayT_ok (by decide)
  have htk := hdW_take (seed := sd) (who := who) wayT_ok
  generalize hdW sd who wayT 0 = h at *
  refine Wp.skip ?_
  refine Wp.seqS (α := UInt8) (fun b => [(0, .string (str who)), (1, .int .i64 at'), (2, .int .u8 (b.toNat : Int)), (8, .string (str h))]) (fun _ => S) (fun b => b ≠ 0) ?_ ?_
  · skip
    refine Wp.seq (Wp.region ?_)
    by_cases hb : by' = 0
    · skip
      subst hb
      refine OWp.evs 2 rfl ?_
      refine OWp.nil ?_
      refine Wp.cond rfl (fun _ => ?_) (fun c => nomatch c)
      refine Wp.region ?_
      refine OWp.evs 1 rfl ?_
      refine OWp.nil ?_
      exact ⟨1, by decide, .cons rfl (.cons rfl (.cons rfl (.cons rfl (.nil _)))), .refl _⟩
    refine OWp.evs 2 rfl ?_
    refine OWp.nil ?_
    refine Wp.cond rfl (fun cc1 => absurd (of_decide_eq_true cc1) (by exact fun e => hb (UInt8.toNat_inj.1 (Int.ofNat.inj e)))) (fun cc1 => ?_)
    have cc1 := of_decide_eq_false cc1
    refine Wp.skip ?_
    exact ⟨by', hb, .cons rfl (.cons rfl (.cons rfl (.cons rfl (.nil _)))), .refl _⟩
  rintro b hb
  refine Wp.seq (Wp.region ?_)
  refine OWp.evs 1 rfl ?_
  refine OWp.step rfl (Step.strToBytes rfl rfl rfl rfl rfl rfl ?_); intro L g cap hBL hLL hcL
  have hcap : h.length ≤ cap := by rw [← hcL, List.length_append, byteCells_length]; omega
  have ei : IntKind.i64.wrap (32 + IntKind.i64.wrap ((IntKind.u64.wrap at').tmod (Int.ofNat (215 + 1)))) = ((32 + p : Nat) : Int) := by
    show IntKind.i64.wrap (32 + IntKind.i64.wrap ((IntKind.u64.wrap at').tmod ((216 : Nat) : Int))) = _
    rw [ep, i64_id] <;> omega
  refine OWp.evs 1 rfl ?_
  refine OWp.nil ?_
  refine Wp.seq (Wp.region ?_)
  refine OWp.evs 6 rfl ?_
  refine OWp.g rfl rfl (Gives.indexAddrSlice (32 + p) rfl rfl rfl rfl rfl ei (by omega)) ?_
  refine OWp.load (.head _) rfl rfl rfl rfl (by show (byteCells h ++ g)[0 + (32 + p) * 1]? = _; rw [Nat.zero_add, Nat.mul_one]; exact byte_get (by omega)) ?_
  refine OWp.evs 2 rfl ?_
  refine OWp.g rfl rfl (Gives.indexAddrSlice (32 + p) rfl rfl rfl rfl rfl ei (by omega)) ?_
  obtain ⟨h2, hh2⟩ : ∃ x, x = h.set (32 + p) (h.getD (32 + p) 0 ^^^ b) := ⟨_, rfl⟩
  have hl2 : h2.length = 248 := by rw [hh2, List.length_set, hl]
  have ht2 : h2.take 32 = x25519 sd base9 := by rw [hh2, List.take_set_of_le (by omega), htk]
  have ht1 : h2.take 32 = h.take 32 := ht2.trans htk.symm
  refine OWp.step rfl (Step.storeAs 0 (byteCells h2 ++ g) rfl rfl rfl rfl rfl hBL rfl (.inr (by rw [← hcL]; exact Nat.le_refl _)) rfl (by rw [List.length_append, byteCells_length, hl]; show 0 + (32 + p) * 1 + 1 ≤ _; omega) (by rw [hh2]; exact bc_set (by omega) (xor8 (h.getD (32 + p) 0) b) (by show 0 + (32 + p) * 1 = 32 + p; omega)) rfl ?_)
  have hq := peel_turned (priv_len who 0) hl2 ht2
  obtain ⟨r, hr⟩ : ∃ r, r = peelR (privR who 0) h2 := ⟨_, rfl⟩
  rw [← hr] at hq
  obtain ⟨x, nx, k, e⟩ := r
  simp only at hq
  refine OWp.nil ?_
  refine Wp.seqS (α := Nat × Nat) (fun z => [(0, .string (str who)), (8, .string (str h)), (11, .slice (some ⟨L, 0, none⟩) h.length cap), (14, .pointer (some ⟨z.2, 0, none⟩)), (15, .int .i64 e)]) (fun z => (z.2, cel k.cells 33) :: (z.1, cel x.cells 31) :: (L, cel (byteCells h2 ++ g) 5 (cap, cap + 1)) :: S) (fun z => B ≤ z.1 ∧ B ≤ z.2) ?_ ?_
  · skip
    refine Wp.regionDraw [0, 2, 3, 16, 16, 16, 16, 16, 16, 16, 16, 16, 16, 16, 16, 16] [1, 4, 10, 11, 12, 14] rfl (by decide +kernel) ?_
    refine DWp.evs 2 rfl ?_
    refine DWp.gives rfl rfl rfl rfl (Gives.bytesToStr (F := [(L, cel (byteCells h2 ++ g) 5 (cap, cap + 1))]) (l := h2) (k := h.length) rfl rfl rfl rfl rfl (reads_bytes (by omega))) (fun _ hy => by rw [List.mem_singleton.1 hy]; exact List.mem_cons_self ..) ?_
    refine DWp.forkTo [1, 10, 11] (by decide +kernel) (by simp) ?_
    intro xx hxx
    simp only [List.mem_cons, List.mem_nil_iff, or_false] at hxx
    rcases hxx with rfl | rfl | rfl
    · refine ⟨_, [16, 16, 16, 16, 16, 16, 16, 16, 16, 16, 16, 16], rfl, rfl, by decide +kernel, rfl, ?_⟩
      refine (Step.call rfl rfl rfl rfl rfl rfl (privateC (i := 0) (by first | exact hks.cons | exact hks.cons.cons | exact hks.cons.cons.cons) (by omega) (by decide) ?_))
      refine prs ?_
      refine DWp.forkTo [4, 10, 11] (by decide +kernel) (by simp) ?_
      intro xx hxx
      simp only [List.mem_cons, List.mem_nil_iff, or_false] at hxx
      rcases hxx with rfl | rfl | rfl
      · refine ⟨_, [5, 6, 7, 8, 9, 16, 16, 16, 16, 16, 16], rfl, rfl, by decide +kernel, rfl, ?_⟩
        refine (Step.call rfl rfl rfl rfl rfl rfl (peelC (by first | exact hks.cons | exact hks.cons.cons | exact hks.cons.cons.cons) ?_))
        rw [← hr]
        simp only
        refine prs ?_
        refine DWp.evs 5 rfl ?_
        refine DWp.forkTo [10, 11] (by decide +kernel) (by simp) ?_
        intro xx hxx
        simp only [List.mem_cons, List.mem_nil_iff, or_false] at hxx
        rcases hxx with rfl | rfl
        · refine ⟨_, [11, 12, 13, 14, 15], rfl, rfl, by decide +kernel, rfl, ?_⟩
          refine (Step.alloc rfl rfl rfl ?_); intro L12 hBL12 hLL12
          refine prs ?_
          refine DWp.step rfl rfl rfl (Step.alloc rfl rfl rfl ?_); intro L14 hBL14 hLL14
          refine prs ?_
          refine DWp.step rfl rfl rfl (Step.permS (show List.Perm ((L14, cel HK.zero.cells 33) :: ((L12, cel Hop.zero.cells 31) :: ((L, cel (byteCells h2 ++ g) 5 (cap, cap + 1)) :: S))) ((L12, cel Hop.zero.cells 31) :: ((L14, cel HK.zero.cells 33) :: ((L, cel (byteCells h2 ++ g) 5 (cap, cap + 1)) :: S))) from permBy [[(L14, cel HK.zero.cells 33)], [(L12, cel Hop.zero.cells 31)]] ((L, cel (byteCells h2 ++ g) 5 (cap, cap + 1)) :: S) [0, 1] [1, 0] (by decide)) (Step.storeAs 0 x.cells rfl rfl rfl rfl rfl hBL12 rfl (Unfz.zero _) rfl (Nat.le_of_ble_eq_true rfl) rfl rfl ?_))
          refine prs ?_
          refine DWp.evs 1 rfl ?_
          refine DWp.step rfl rfl rfl (Step.permS (show List.Perm ((L12, cel x.cells 31) :: ((L14, cel HK.zero.cells 33) :: ((L, cel (byteCells h2 ++ g) 5 (cap, cap + 1)) :: S))) ((L14, cel HK.zero.cells 33) :: ((L12, cel x.cells 31) :: ((L, cel (byteCells h2 ++ g) 5 (cap, cap + 1)) :: S))) from permBy [[(L12, cel x.cells 31)], [(L14, cel HK.zero.cells 33)]] ((L, cel (byteCells h2 ++ g) 5 (cap, cap + 1)) :: S) [0, 1] [1, 0] (by decide)) (Step.storeAs 0 k.cells rfl rfl rfl rfl rfl hBL14 rfl (Unfz.zero _) rfl (Nat.le_of_ble_eq_true rfl) rfl rfl ?_))
          refine prs ?_
          refine DWp.evs 1 rfl ?_
          refine DWp.nil ?_
          exact ⟨(L12, L14), ⟨hBL12, hBL14⟩, .cons rfl (.cons rfl (.cons rfl (.cons rfl (.cons rfl (.nil _))))), (show List.Perm ((L14, cel k.cells 33) :: ((L12, cel x.cells 31) :: ((L, cel (byteCells h2 ++ g) 5 (cap, cap + 1)) :: S))) ((L14, cel k.cells 33) :: ((L12, cel x.cells 31) :: ((L, cel (byteCells h2 ++ g) 5 (cap, cap + 1)) :: S))) from permBy [[(L14, cel k.cells 33)], [(L12, cel x.cells 31)]] ((L, cel (byteCells h2 ++ g) 5 (cap, cap + 1)) :: S) [0, 1] [0, 1] (by decide))⟩
        · refine ⟨_, [10, 12, 13, 14, 15], rfl, rfl, by decide +kernel, rfl, ?_⟩
          refine (Step.alloc rfl rfl rfl ?_); intro L14 hBL14 hLL14
          refine prs ?_
          refine DWp.step rfl rfl rfl (Step.alloc rfl rfl rfl ?_); intro L12 hBL12 hLL12
          refine prs ?_
          refine DWp.step rfl rfl rfl (Step.permS (show List.Perm ((L12, cel Hop.zero.cells 31) :: ((L14, cel HK.zero.cells 33) :: ((L, cel (byteCells h2 ++ g) 5 (cap, cap + 1)) :: S))) ((L12, cel Hop.zero.cells 31) :: ((L14, cel HK.zero.cells 33) :: ((L, cel (byteCells h2 ++ g) 5 (cap, cap + 1)) :: S))) from permBy [[(L12, cel Hop.zero.cells 31)], [(L14, cel HK.zero.cells 33)]] ((L, cel (byteCells h2 ++ g) 5 (cap, cap + 1)) :: S) [0, 1] [0, 1] (by decide)) (Step.storeAs 0 x.cells rfl rfl rfl rfl rfl hBL12 rfl (Unfz.zero _) rfl (Nat.le_of_ble_eq_true rfl) rfl rfl ?_))
          refine prs ?_
          refine DWp.evs 1 rfl ?_
          refine DWp.step rfl rfl rfl (Step.permS (show List.Perm ((L12, cel x.cells 31) :: ((L14, cel HK.zero.cells 33) :: ((L, cel (byteCells h2 ++ g) 5 (cap, cap + 1)) :: S))) ((L14, cel HK.zero.cells 33) :: ((L12, cel x.cells 31) :: ((L, cel (byteCells h2 ++ g) 5 (cap, cap + 1)) :: S))) from permBy [[(L12, cel x.cells 31)], [(L14, cel HK.zero.cells 33)]] ((L, cel (byteCells h2 ++ g) 5 (cap, cap + 1)) :: S) [0, 1] [1, 0] (by decide)) (Step.storeAs 0 k.cells rfl rfl rfl rfl rfl hBL14 rfl (Unfz.zero _) rfl (Nat.le_of_ble_eq_true rfl) rfl rfl ?_))
          refine prs ?_
          refine DWp.evs 1 rfl ?_
          refine DWp.nil ?_
          exact ⟨(L12, L14), ⟨hBL12, hBL14⟩, .cons rfl (.cons rfl (.cons rfl (.cons rfl (.cons rfl (.nil _))))), (show List.Perm ((L14, cel k.cells 33) :: ((L12, cel x.cells 31) :: ((L, cel (byteCells h2 ++ g) 5 (cap, cap + 1)) :: S))) ((L14, cel k.cells 33) :: ((L12, cel x.cells 31) :: ((L, cel (byteCells h2 ++ g) 5 (cap, cap + 1)) :: S))) from permBy [[(L14, cel k.cells 33)], [(L12, cel x.cells 31)]] ((L, cel (byteCells h2 ++ g) 5 (cap, cap + 1)) :: S) [0, 1] [0, 1] (by decide))⟩
      · refine ⟨_, [16, 16, 16, 16, 16, 16, 16, 16, 16, 16, 16], rfl, rfl, by decide +kernel, rfl, ?_⟩
        refine (Step.alloc rfl rfl rfl ?_); intro L12 hBL12 hLL12
        refine prs ?_
        refine DWp.forkTo [4, 11] (by decide +kernel) (by simp) ?_
        intro xx hxx
        simp only [List.mem_cons, List.mem_nil_iff, or_false] at hxx
        rcases hxx with rfl | rfl
        · refine ⟨_, [5, 6, 7, 8, 9, 11, 12, 13, 14, 15], rfl, rfl, by decide +kernel, rfl, ?_⟩
          refine (Step.call rfl rfl rfl rfl rfl rfl (peelC (by first | exact hks.cons | exact hks.cons.cons | exact hks.cons.cons.cons) ?_))
          rw [← hr]
          simp only
          refine prs ?_
          refine DWp.evs 5 rfl ?_
          refine DWp.step rfl rfl rfl (Step.alloc rfl rfl rfl ?_); intro L14 hBL14 hLL14
          refine prs ?_
          refine DWp.step rfl rfl rfl (Step.permS (show List.Perm ((L14, cel HK.zero.cells 33) :: ((L12, cel Hop.zero.cells 31) :: ((L, cel (byteCells h2 ++ g) 5 (cap, cap + 1)) :: S))) ((L12, cel Hop.zero.cells 31) :: ((L14, cel HK.zero.cells 33) :: ((L, cel (byteCells h2 ++ g) 5 (cap, cap + 1)) :: S))) from permBy [[(L14, cel HK.zero.cells 33)], [(L12, cel Hop.zero.cells 31)]] ((L, cel (byteCells h2 ++ g) 5 (cap, cap + 1)) :: S) [0, 1] [1, 0] (by decide)) (Step.storeAs 0 x.cells rfl rfl rfl rfl rfl hBL12 rfl (Unfz.zero _) rfl (Nat.le_of_ble_eq_true rfl) rfl rfl ?_))
          refine prs ?_
          refine DWp.evs 1 rfl ?_
          refine DWp.step rfl rfl rfl (Step.permS (show List.Perm ((L12, cel x.cells 31) :: ((L14, cel HK.zero.cells 33) :: ((L, cel (byteCells h2 ++ g) 5 (cap, cap + 1)) :: S))) ((L14, cel HK.zero.cells 33) :: ((L12, cel x.cells 31) :: ((L, cel (byteCells h2 ++ g) 5 (cap, cap + 1)) :: S))) from permBy [[(L12, cel x.cells 31)], [(L14, cel HK.zero.cells 33)]] ((L, cel (byteCells h2 ++ g) 5 (cap, cap + 1)) :: S) [0, 1] [1, 0] (by decide)) (Step.storeAs 0 k.cells rfl rfl rfl rfl rfl hBL14 rfl (Unfz.zero _) rfl (Nat.le_of_ble_eq_true rfl) rfl rfl ?_))
          refine prs ?_
          refine DWp.evs 1 rfl ?_
          refine DWp.nil ?_
          exact ⟨(L12, L14), ⟨hBL12, hBL14⟩, .cons rfl (.cons rfl (.cons rfl (.cons rfl (.cons rfl (.nil _))))), (show List.Perm ((L14, cel k.cells 33) :: ((L12, cel x.cells 31) :: ((L, cel (byteCells h2 ++ g) 5 (cap, cap + 1)) :: S))) ((L14, cel k.cells 33) :: ((L12, cel x.cells 31) :: ((L, cel (byteCells h2 ++ g) 5 (cap, cap + 1)) :: S))) from permBy [[(L14, cel k.cells 33)], [(L12, cel x.cells 31)]] ((L, cel (byteCells h2 ++ g) 5 (cap, cap + 1)) :: S) [0, 1] [0, 1] (by decide))⟩
        · refine ⟨_, [4, 5, 6, 7, 8, 9, 12, 13, 14, 15], rfl, rfl, by decide +kernel, rfl, ?_⟩
          refine (Step.alloc rfl rfl rfl ?_); intro L14 hBL14 hLL14
          refine prs ?_
          refine DWp.step rfl rfl rfl (Step.call rfl rfl rfl rfl rfl rfl (peelC (by first | exact hks.cons | exact hks.cons.cons | exact hks.cons.cons.cons) ?_))
          rw [← hr]
          simp only
          refine prs ?_
          refine DWp.evs 5 rfl ?_
          refine DWp.step rfl rfl rfl (Step.permS (show List.Perm ((L14, cel HK.zero.cells 33) :: ((L12, cel Hop.zero.cells 31) :: ((L, cel (byteCells h2 ++ g) 5 (cap, cap + 1)) :: S))) ((L12, cel Hop.zero.cells 31) :: ((L14, cel HK.zero.cells 33) :: ((L, cel (byteCells h2 ++ g) 5 (cap, cap + 1)) :: S))) from permBy [[(L14, cel HK.zero.cells 33)], [(L12, cel Hop.zero.cells 31)]] ((L, cel (byteCells h2 ++ g) 5 (cap, cap + 1)) :: S) [0, 1] [1, 0] (by decide)) (Step.storeAs 0 x.cells rfl rfl rfl rfl rfl hBL12 rfl (Unfz.zero _) rfl (Nat.le_of_ble_eq_true rfl) rfl rfl ?_))
          refine prs ?_
          refine DWp.evs 1 rfl ?_
          refine DWp.step rfl rfl rfl (Step.permS (show List.Perm ((L12, cel x.cells 31) :: ((L14, cel HK.zero.cells 33) :: ((L, cel (byteCells h2 ++ g) 5 (cap, cap + 1)) :: S))) ((L14, cel HK.zero.cells 33) :: ((L12, cel x.cells 31) :: ((L, cel (byteCells h2 ++ g) 5 (cap, cap + 1)) :: S))) from permBy [[(L12, cel x.cells 31)], [(L14, cel HK.zero.cells 33)]] ((L, cel (byteCells h2 ++ g) 5 (cap, cap + 1)) :: S) [0, 1] [1, 0] (by decide)) (Step.storeAs 0 k.cells rfl rfl rfl rfl rfl hBL14 rfl (Unfz.zero _) rfl (Nat.le_of_ble_eq_true rfl) rfl rfl ?_))
          refine prs ?_
          refine DWp.evs 1 rfl ?_
          refine DWp.nil ?_
          exact ⟨(L12, L14), ⟨hBL12, hBL14⟩, .cons rfl (.cons rfl (.cons rfl (.cons rfl (.cons rfl (.nil _))))), (show List.Perm ((L14, cel k.cells 33) :: ((L12, cel x.cells 31) :: ((L, cel (byteCells h2 ++ g) 5 (cap, cap + 1)) :: S))) ((L14, cel k.cells 33) :: ((L12, cel x.cells 31) :: ((L, cel (byteCells h2 ++ g) 5 (cap, cap + 1)) :: S))) from permBy [[(L14, cel k.cells 33)], [(L12, cel x.cells 31)]] ((L, cel (byteCells h2 ++ g) 5 (cap, cap + 1)) :: S) [0, 1] [0, 1] (by decide))⟩
      · refine ⟨_, [16, 16, 16, 16, 16, 16, 16, 16, 16, 16, 16], rfl, rfl, by decide +kernel, rfl, ?_⟩
        refine (Step.alloc rfl rfl rfl ?_); intro L14 hBL14 hLL14
        refine prs ?_
        refine DWp.forkTo [4, 10] (by decide +kernel) (by simp) ?_
        intro xx hxx
        simp only [List.mem_cons, List.mem_nil_iff, or_false] at hxx
        rcases hxx with rfl | rfl
        · refine ⟨_, [5, 6, 7, 8, 9, 10, 12, 13, 14, 15], rfl, rfl, by decide +kernel, rfl, ?_⟩
          refine (Step.call rfl rfl rfl rfl rfl rfl (peelC (by first | exact hks.cons | exact hks.cons.cons | exact hks.cons.cons.cons) ?_))
          rw [← hr]
          simp only
          refine prs ?_
          refine DWp.evs 5 rfl ?_
          refine DWp.step rfl rfl rfl (Step.alloc rfl rfl rfl ?_); intro L12 hBL12 hLL12
          refine prs ?_
          refine DWp.step rfl rfl rfl (Step.permS (show List.Perm ((L12, cel Hop.zero.cells 31) :: ((L14, cel HK.zero.cells 33) :: ((L, cel (byteCells h2 ++ g) 5 (cap, cap + 1)) :: S))) ((L12, cel Hop.zero.cells 31) :: ((L14, cel HK.zero.cells 33) :: ((L, cel (byteCells h2 ++ g) 5 (cap, cap + 1)) :: S))) from permBy [[(L12, cel Hop.zero.cells 31)], [(L14, cel HK.zero.cells 33)]] ((L, cel (byteCells h2 ++ g) 5 (cap, cap + 1)) :: S) [0, 1] [0, 1] (by decide)) (Step.storeAs 0 x.cells rfl rfl rfl rfl rfl hBL12 rfl (Unfz.zero _) rfl (Nat.le_of_ble_eq_true rfl) rfl rfl ?_))
          refine prs ?_
          refine DWp.evs 1 rfl ?_
          refine DWp.step rfl rfl rfl (Step.permS (show List.Perm ((L12, cel x.cells 31) :: ((L14, cel HK.zero.cells 33) :: ((L, cel (byteCells h2 ++ g) 5 (cap, cap + 1)) :: S))) ((L14, cel HK.zero.cells 33) :: ((L12, cel x.cells 31) :: ((L, cel (byteCells h2 ++ g) 5 (cap, cap + 1)) :: S))) from permBy [[(L12, cel x.cells 31)], [(L14, cel HK.zero.cells 33)]] ((L, cel (byteCells h2 ++ g) 5 (cap, cap + 1)) :: S) [0, 1] [1, 0] (by decide)) (Step.storeAs 0 k.cells rfl rfl rfl rfl rfl hBL14 rfl (Unfz.zero _) rfl (Nat.le_of_ble_eq_true rfl) rfl rfl ?_))
          refine prs ?_
          refine DWp.evs 1 rfl ?_
          refine DWp.nil ?_
          exact ⟨(L12, L14), ⟨hBL12, hBL14⟩, .cons rfl (.cons rfl (.cons rfl (.cons rfl (.cons rfl (.nil _))))), (show List.Perm ((L14, cel k.cells 33) :: ((L12, cel x.cells 31) :: ((L, cel (byteCells h2 ++ g) 5 (cap, cap + 1)) :: S))) ((L14, cel k.cells 33) :: ((L12, cel x.cells 31) :: ((L, cel (byteCells h2 ++ g) 5 (cap, cap + 1)) :: S))) from permBy [[(L14, cel k.cells 33)], [(L12, cel x.cells 31)]] ((L, cel (byteCells h2 ++ g) 5 (cap, cap + 1)) :: S) [0, 1] [0, 1] (by decide))⟩
        · refine ⟨_, [4, 5, 6, 7, 8, 9, 12, 13, 14, 15], rfl, rfl, by decide +kernel, rfl, ?_⟩
          refine (Step.alloc rfl rfl rfl ?_); intro L12 hBL12 hLL12
          refine prs ?_
          refine DWp.step rfl rfl rfl (Step.call rfl rfl rfl rfl rfl rfl (peelC (by first | exact hks.cons | exact hks.cons.cons | exact hks.cons.cons.cons) ?_))
          rw [← hr]
          simp only
          refine prs ?_
          refine DWp.evs 5 rfl ?_
          refine DWp.step rfl rfl rfl (Step.permS (show List.Perm ((L12, cel Hop.zero.cells 31) :: ((L14, cel HK.zero.cells 33) :: ((L, cel (byteCells h2 ++ g) 5 (cap, cap + 1)) :: S))) ((L12, cel Hop.zero.cells 31) :: ((L14, cel HK.zero.cells 33) :: ((L, cel (byteCells h2 ++ g) 5 (cap, cap + 1)) :: S))) from permBy [[(L12, cel Hop.zero.cells 31)], [(L14, cel HK.zero.cells 33)]] ((L, cel (byteCells h2 ++ g) 5 (cap, cap + 1)) :: S) [0, 1] [0, 1] (by decide)) (Step.storeAs 0 x.cells rfl rfl rfl rfl rfl hBL12 rfl (Unfz.zero _) rfl (Nat.le_of_ble_eq_true rfl) rfl rfl ?_))
          refine prs ?_
          refine DWp.evs 1 rfl ?_
          refine DWp.step rfl rfl rfl (Step.permS (show List.Perm ((L12, cel x.cells 31) :: ((L14, cel HK.zero.cells 33) :: ((L, cel (byteCells h2 ++ g) 5 (cap, cap + 1)) :: S))) ((L14, cel HK.zero.cells 33) :: ((L12, cel x.cells 31) :: ((L, cel (byteCells h2 ++ g) 5 (cap, cap + 1)) :: S))) from permBy [[(L12, cel x.cells 31)], [(L14, cel HK.zero.cells 33)]] ((L, cel (byteCells h2 ++ g) 5 (cap, cap + 1)) :: S) [0, 1] [1, 0] (by decide)) (Step.storeAs 0 k.cells rfl rfl rfl rfl rfl hBL14 rfl (Unfz.zero _) rfl (Nat.le_of_ble_eq_true rfl) rfl rfl ?_))
          refine prs ?_
          refine DWp.evs 1 rfl ?_
          refine DWp.nil ?_
          exact ⟨(L12, L14), ⟨hBL12, hBL14⟩, .cons rfl (.cons rfl (.cons rfl (.cons rfl (.cons rfl (.nil _))))), (show List.Perm ((L14, cel k.cells 33) :: ((L12, cel x.cells 31) :: ((L, cel (byteCells h2 ++ g) 5 (cap, cap + 1)) :: S))) ((L14, cel k.cells 33) :: ((L12, cel x.cells 31) :: ((L, cel (byteCells h2 ++ g) 5 (cap, cap + 1)) :: S))) from permBy [[(L14, cel k.cells 33)], [(L12, cel x.cells 31)]] ((L, cel (byteCells h2 ++ g) 5 (cap, cap + 1)) :: S) [0, 1] [0, 1] (by decide))⟩
    · refine ⟨_, [16, 16, 16, 16, 16, 16, 16, 16, 16, 16, 16, 16], rfl, rfl, by decide +kernel, rfl, ?_⟩
      refine (Step.alloc rfl rfl rfl ?_); intro L12 hBL12 hLL12
      refine prs ?_
      refine DWp.forkTo [1, 11] (by decide +kernel) (by simp) ?_
      intro xx hxx
      simp only [List.mem_cons, List.mem_nil_iff, or_false] at hxx
      rcases hxx with rfl | rfl
      · refine ⟨_, [16, 16, 16, 16, 16, 16, 16, 16, 16, 16, 16], rfl, rfl, by decide +kernel, rfl, ?_⟩
        refine (Step.call rfl rfl rfl rfl rfl rfl (privateC (i := 0) (by first | exact hks.cons | exact hks.cons.cons | exact hks.cons.cons.cons) (by omega) (by decide) ?_))
        refine prs ?_
        refine DWp.forkTo [4, 11] (by decide +kernel) (by simp) ?_
        intro xx hxx
        simp only [List.mem_cons, List.mem_nil_iff, or_false] at hxx
        rcases hxx with rfl | rfl
        · refine ⟨_, [5, 6, 7, 8, 9, 11, 12, 13, 14, 15], rfl, rfl, by decide +kernel, rfl, ?_⟩
          refine (Step.call rfl rfl rfl rfl rfl rfl (peelC (by first | exact hks.cons | exact hks.cons.cons | exact hks.cons.cons.cons) ?_))
          rw [← hr]
          simp only
          refine prs ?_
          refine DWp.evs 5 rfl ?_
          refine DWp.step rfl rfl rfl (Step.alloc rfl rfl rfl ?_); intro L14 hBL14 hLL14
          refine prs ?_
          refine DWp.step rfl rfl rfl (Step.permS (show List.Perm ((L14, cel HK.zero.cells 33) :: ((L12, cel Hop.zero.cells 31) :: ((L, cel (byteCells h2 ++ g) 5 (cap, cap + 1)) :: S))) ((L12, cel Hop.zero.cells 31) :: ((L14, cel HK.zero.cells 33) :: ((L, cel (byteCells h2 ++ g) 5 (cap, cap + 1)) :: S))) from permBy [[(L14, cel HK.zero.cells 33)], [(L12, cel Hop.zero.cells 31)]] ((L, cel (byteCells h2 ++ g) 5 (cap, cap + 1)) :: S) [0, 1] [1, 0] (by decide)) (Step.storeAs 0 x.cells rfl rfl rfl rfl rfl hBL12 rfl (Unfz.zero _) rfl (Nat.le_of_ble_eq_true rfl) rfl rfl ?_))
          refine prs ?_
          refine DWp.evs 1 rfl ?_
          refine DWp.step rfl rfl rfl (Step.permS (show List.Perm ((L12, cel x.cells 31) :: ((L14, cel HK.zero.cells 33) :: ((L, cel (byteCells h2 ++ g) 5 (cap, cap + 1)) :: S))) ((L14, cel HK.zero.cells 33) :: ((L12, cel x.cells 31) :: ((L, cel (byteCells h2 ++ g) 5 (cap, cap + 1)) :: S))) from permBy [[(L12, cel x.cells 31)], [(L14, cel HK.zero.cells 33)]] ((L, cel (byteCells h2 ++ g) 5 (cap, cap + 1)) :: S) [0, 1] [1, 0] (by decide)) (Step.storeAs 0 k.cells rfl rfl rfl rfl rfl hBL14 rfl (Unfz.zero _) rfl (Nat.le_of_ble_eq_true rfl) rfl rfl ?_))
          refine prs ?_
          refine DWp.evs 1 rfl ?_
          refine DWp.nil ?_
          exact ⟨(L12, L14), ⟨hBL12, hBL14⟩, .cons rfl (.cons rfl (.cons rfl (.cons rfl (.cons rfl (.nil _))))), (show List.Perm ((L14, cel k.cells 33) :: ((L12, cel x.cells 31) :: ((L, cel (byteCells h2 ++ g) 5 (cap, cap + 1)) :: S))) ((L14, cel k.cells 33) :: ((L12, cel x.cells 31) :: ((L, cel (byteCells h2 ++ g) 5 (cap, cap + 1)) :: S))) from permBy [[(L14, cel k.cells 33)], [(L12, cel x.cells 31)]] ((L, cel (byteCells h2 ++ g) 5 (cap, cap + 1)) :: S) [0, 1] [0, 1] (by decide))⟩
        · refine ⟨_, [4, 5, 6, 7, 8, 9, 12, 13, 14, 15], rfl, rfl, by decide +kernel, rfl, ?_⟩
          refine (Step.alloc rfl rfl rfl ?_); intro L14 hBL14 hLL14
          refine prs ?_
          refine DWp.step rfl rfl rfl (Step.call rfl rfl rfl rfl rfl rfl (peelC (by first | exact hks.cons | exact hks.cons.cons | exact hks.cons.cons.cons) ?_))
          rw [← hr]
          simp only
          refine prs ?_
          refine DWp.evs 5 rfl ?_
          refine DWp.step rfl rfl rfl (Step.permS (show List.Perm ((L14, cel HK.zero.cells 33) :: ((L12, cel Hop.zero.cells 31) :: ((L, cel (byteCells h2 ++ g) 5 (cap, cap + 1)) :: S))) ((L12, cel Hop.zero.cells 31) :: ((L14, cel HK.zero.cells 33) :: ((L, cel (byteCells h2 ++ g) 5 (cap, cap + 1)) :: S))) from permBy [[(L14, cel HK.zero.cells 33)], [(L12, cel Hop.zero.cells 31)]] ((L, cel (byteCells h2 ++ g) 5 (cap, cap + 1)) :: S) [0, 1] [1, 0] (by decide)) (Step.storeAs 0 x.cells rfl rfl rfl rfl rfl hBL12 rfl (Unfz.zero _) rfl (Nat.le_of_ble_eq_true rfl) rfl rfl ?_))
          refine prs ?_
          refine DWp.evs 1 rfl ?_
          refine DWp.step rfl rfl rfl (Step.permS (show List.Perm ((L12, cel x.cells 31) :: ((L14, cel HK.zero.cells 33) :: ((L, cel (byteCells h2 ++ g) 5 (cap, cap + 1)) :: S))) ((L14, cel HK.zero.cells 33) :: ((L12, cel x.cells 31) :: ((L, cel (byteCells h2 ++ g) 5 (cap, cap + 1)) :: S))) from permBy [[(L12, cel x.cells 31)], [(L14, cel HK.zero.cells 33)]] ((L, cel (byteCells h2 ++ g) 5 (cap, cap + 1)) :: S) [0, 1] [1, 0] (by decide)) (Step.storeAs 0 k.cells rfl rfl rfl rfl rfl hBL14 rfl (Unfz.zero _) rfl (Nat.le_of_ble_eq_true rfl) rfl rfl ?_))
          refine prs ?_
          refine DWp.evs 1 rfl ?_
          refine DWp.nil ?_
          exact ⟨(L12, L14), ⟨hBL12, hBL14⟩, .cons rfl (.cons rfl (.cons rfl (.cons rfl (.cons rfl (.nil _))))), (show List.Perm ((L14, cel k.cells 33) :: ((L12, cel x.cells 31) :: ((L, cel (byteCells h2 ++ g) 5 (cap, cap + 1)) :: S))) ((L14, cel k.cells 33) :: ((L12, cel x.cells 31) :: ((L, cel (byteCells h2 ++ g) 5 (cap, cap + 1)) :: S))) from permBy [[(L14, cel k.cells 33)], [(L12, cel x.cells 31)]] ((L, cel (byteCells h2 ++ g) 5 (cap, cap + 1)) :: S) [0, 1] [0, 1] (by decide))⟩
      · refine ⟨_, [1, 4, 5, 6, 7, 8, 9, 12, 13, 14, 15], rfl, rfl, by decide +kernel, rfl, ?_⟩
        refine (Step.alloc rfl rfl rfl ?_); intro L14 hBL14 hLL14
        refine prs ?_
        refine DWp.step rfl rfl rfl (Step.call rfl rfl rfl rfl rfl rfl (privateC (i := 0) (by first | exact hks.cons | exact hks.cons.cons | exact hks.cons.cons.cons) (by omega) (by decide) ?_))
        refine prs ?_
        refine DWp.step rfl rfl rfl (Step.call rfl rfl rfl rfl rfl rfl (peelC (by first | exact hks.cons | exact hks.cons.cons | exact hks.cons.cons.cons) ?_))
        rw [← hr]
        simp only
        refine prs ?_
        refine DWp.evs 5 rfl ?_
        refine DWp.step rfl rfl rfl (Step.permS (show List.Perm ((L14, cel HK.zero.cells 33) :: ((L12, cel Hop.zero.cells 31) :: ((L, cel (byteCells h2 ++ g) 5 (cap, cap + 1)) :: S))) ((L12, cel Hop.zero.cells 31) :: ((L14, cel HK.zero.cells 33) :: ((L, cel (byteCells h2 ++ g) 5 (cap, cap + 1)) :: S))) from permBy [[(L14, cel HK.zero.cells 33)], [(L12, cel Hop.zero.cells 31)]] ((L, cel (byteCells h2 ++ g) 5 (cap, cap + 1)) :: S) [0, 1] [1, 0] (by decide)) (Step.storeAs 0 x.cells rfl rfl rfl rfl rfl hBL12 rfl (Unfz.zero _) rfl (Nat.le_of_ble_eq_true rfl) rfl rfl ?_))
        refine prs ?_
        refine DWp.evs 1 rfl ?_
        refine DWp.step rfl rfl rfl (Step.permS (show List.Perm ((L12, cel x.cells 31) :: ((L14, cel HK.zero.cells 33) :: ((L, cel (byteCells h2 ++ g) 5 (cap, cap + 1)) :: S))) ((L14, cel HK.zero.cells 33) :: ((L12, cel x.cells 31) :: ((L, cel (byteCells h2 ++ g) 5 (cap, cap + 1)) :: S))) from permBy [[(L12, cel x.cells 31)], [(L14, cel HK.zero.cells 33)]] ((L, cel (byteCells h2 ++ g) 5 (cap, cap + 1)) :: S) [0, 1] [1, 0] (by decide)) (Step.storeAs 0 k.cells rfl rfl rfl rfl rfl hBL14 rfl (Unfz.zero _) rfl (Nat.le_of_ble_eq_true rfl) rfl rfl ?_))
        refine prs ?_
        refine DWp.evs 1 rfl ?_
        refine DWp.nil ?_
        exact ⟨(L12, L14), ⟨hBL12, hBL14⟩, .cons rfl (.cons rfl (.cons rfl (.cons rfl (.cons rfl (.nil _))))), (show List.Perm ((L14, cel k.cells 33) :: ((L12, cel x.cells 31) :: ((L, cel (byteCells h2 ++ g) 5 (cap, cap + 1)) :: S))) ((L14, cel k.cells 33) :: ((L12, cel x.cells 31) :: ((L, cel (byteCells h2 ++ g) 5 (cap, cap + 1)) :: S))) from permBy [[(L14, cel k.cells 33)], [(L12, cel x.cells 31)]] ((L, cel (byteCells h2 ++ g) 5 (cap, cap + 1)) :: S) [0, 1] [0, 1] (by decide))⟩
    · refine ⟨_, [16, 16, 16, 16, 16, 16, 16, 16, 16, 16, 16, 16], rfl, rfl, by decide +kernel, rfl, ?_⟩
      refine (Step.alloc rfl rfl rfl ?_); intro L14 hBL14 hLL14
      refine prs ?_
      refine DWp.forkTo [1, 10] (by decide +kernel) (by simp) ?_
      intro xx hxx
      simp only [List.mem_cons, List.mem_nil_iff, or_false] at hxx
      rcases hxx with rfl | rfl
      · refine ⟨_, [16, 16, 16, 16, 16, 16, 16, 16, 16, 16, 16], rfl, rfl, by decide +kernel, rfl, ?_⟩
        refine (Step.call rfl rfl rfl rfl rfl rfl (privateC (i := 0) (by first | exact hks.cons | exact hks.cons.cons | exact hks.cons.cons.cons) (by omega) (by decide) ?_))
        refine prs ?_
        refine DWp.forkTo [4, 10] (by decide +kernel) (by simp) ?_
        intro xx hxx
        simp only [List.mem_cons, List.mem_nil_iff, or_false] at hxx
        rcases hxx with rfl | rfl
        · refine ⟨_, [5, 6, 7, 8, 9, 10, 12, 13, 14, 15], rfl, rfl, by decide +kernel, rfl, ?_⟩
          refine (Step.call rfl rfl rfl rfl rfl rfl (peelC (by first | exact hks.cons | exact hks.cons.cons | exact hks.cons.cons.cons) ?_))
          rw [← hr]
          simp only
          refine prs ?_
          refine DWp.evs 5 rfl ?_
          refine DWp.step rfl rfl rfl (Step.alloc rfl rfl rfl ?_); intro L12 hBL12 hLL12
          refine prs ?_
          refine DWp.step rfl rfl rfl (Step.permS (show List.Perm ((L12, cel Hop.zero.cells 31) :: ((L14, cel HK.zero.cells 33) :: ((L, cel (byteCells h2 ++ g) 5 (cap, cap + 1)) :: S))) ((L12, cel Hop.zero.cells 31) :: ((L14, cel HK.zero.cells 33) :: ((L, cel (byteCells h2 ++ g) 5 (cap, cap + 1)) :: S))) from permBy [[(L12, cel Hop.zero.cells 31)], [(L14, cel HK.zero.cells 33)]] ((L, cel (byteCells h2 ++ g) 5 (cap, cap + 1)) :: S) [0, 1] [0, 1] (by decide)) (Step.storeAs 0 x.cells rfl rfl rfl rfl rfl hBL12 rfl (Unfz.zero _) rfl (Nat.le_of_ble_eq_true rfl) rfl rfl ?_))
          refine prs ?_
          refine DWp.evs 1 rfl ?_
          refine DWp.step rfl rfl rfl (Step.permS (show List.Perm ((L12, cel x.cells 31) :: ((L14, cel HK.zero.cells 33) :: ((L, cel (byteCells h2 ++ g) 5 (cap, cap + 1)) :: S))) ((L14, cel HK.zero.cells 33) :: ((L12, cel x.cells 31) :: ((L, cel (byteCells h2 ++ g) 5 (cap, cap + 1)) :: S))) from permBy [[(L12, cel x.cells 31)], [(L14, cel HK.zero.cells 33)]] ((L, cel (byteCells h2 ++ g) 5 (cap, cap + 1)) :: S) [0, 1] [1, 0] (by decide)) (Step.storeAs 0 k.cells rfl rfl rfl rfl rfl hBL14 rfl (Unfz.zero _) rfl (Nat.le_of_ble_eq_true rfl) rfl rfl ?_))
          refine prs ?_
          refine DWp.evs 1 rfl ?_
          refine DWp.nil ?_
          exact ⟨(L12, L14), ⟨hBL12, hBL14⟩, .cons rfl (.cons rfl (.cons rfl (.cons rfl (.cons rfl (.nil _))))), (show List.Perm ((L14, cel k.cells 33) :: ((L12, cel x.cells 31) :: ((L, cel (byteCells h2 ++ g) 5 (cap, cap + 1)) :: S))) ((L14, cel k.cells 33) :: ((L12, cel x.cells 31) :: ((L, cel (byteCells h2 ++ g) 5 (cap, cap + 1)) :: S))) from permBy [[(L14, cel k.cells 33)], [(L12, cel x.cells 31)]] ((L, cel (byteCells h2 ++ g) 5 (cap, cap + 1)) :: S) [0, 1] [0, 1] (by decide))⟩
        · refine ⟨_, [4, 5, 6, 7, 8, 9, 12, 13, 14, 15], rfl, rfl, by decide +kernel, rfl, ?_⟩
          refine (Step.alloc rfl rfl rfl ?_); intro L12 hBL12 hLL12
          refine prs ?_
          refine DWp.step rfl rfl rfl (Step.call rfl rfl rfl rfl rfl rfl (peelC (by first | exact hks.cons | exact hks.cons.cons | exact hks.cons.cons.cons) ?_))
          rw [← hr]
          simp only
          refine prs ?_
          refine DWp.evs 5 rfl ?_
          refine DWp.step rfl rfl rfl (Step.permS (show List.Perm ((L12, cel Hop.zero.cells 31) :: ((L14, cel HK.zero.cells 33) :: ((L, cel (byteCells h2 ++ g) 5 (cap, cap + 1)) :: S))) ((L12, cel Hop.zero.cells 31) :: ((L14, cel HK.zero.cells 33) :: ((L, cel (byteCells h2 ++ g) 5 (cap, cap + 1)) :: S))) from permBy [[(L12, cel Hop.zero.cells 31)], [(L14, cel HK.zero.cells 33)]] ((L, cel (byteCells h2 ++ g) 5 (cap, cap + 1)) :: S) [0, 1] [0, 1] (by decide)) (Step.storeAs 0 x.cells rfl rfl rfl rfl rfl hBL12 rfl (Unfz.zero _) rfl (Nat.le_of_ble_eq_true rfl) rfl rfl ?_))
          refine prs ?_
          refine DWp.evs 1 rfl ?_
          refine DWp.step rfl rfl rfl (Step.permS (show List.Perm ((L12, cel x.cells 31) :: ((L14, cel HK.zero.cells 33) :: ((L, cel (byteCells h2 ++ g) 5 (cap, cap + 1)) :: S))) ((L14, cel HK.zero.cells 33) :: ((L12, cel x.cells 31) :: ((L, cel (byteCells h2 ++ g) 5 (cap, cap + 1)) :: S))) from permBy [[(L12, cel x.cells 31)], [(L14, cel HK.zero.cells 33)]] ((L, cel (byteCells h2 ++ g) 5 (cap, cap + 1)) :: S) [0, 1] [1, 0] (by decide)) (Step.storeAs 0 k.cells rfl rfl rfl rfl rfl hBL14 rfl (Unfz.zero _) rfl (Nat.le_of_ble_eq_true rfl) rfl rfl ?_))
          refine prs ?_
          refine DWp.evs 1 rfl ?_
          refine DWp.nil ?_
          exact ⟨(L12, L14), ⟨hBL12, hBL14⟩, .cons rfl (.cons rfl (.cons rfl (.cons rfl (.cons rfl (.nil _))))), (show List.Perm ((L14, cel k.cells 33) :: ((L12, cel x.cells 31) :: ((L, cel (byteCells h2 ++ g) 5 (cap, cap + 1)) :: S))) ((L14, cel k.cells 33) :: ((L12, cel x.cells 31) :: ((L, cel (byteCells h2 ++ g) 5 (cap, cap + 1)) :: S))) from permBy [[(L14, cel k.cells 33)], [(L12, cel x.cells 31)]] ((L, cel (byteCells h2 ++ g) 5 (cap, cap + 1)) :: S) [0, 1] [0, 1] (by decide))⟩
      · refine ⟨_, [1, 4, 5, 6, 7, 8, 9, 12, 13, 14, 15], rfl, rfl, by decide +kernel, rfl, ?_⟩
        refine (Step.alloc rfl rfl rfl ?_); intro L12 hBL12 hLL12
        refine prs ?_
        refine DWp.step rfl rfl rfl (Step.call rfl rfl rfl rfl rfl rfl (privateC (i := 0) (by first | exact hks.cons | exact hks.cons.cons | exact hks.cons.cons.cons) (by omega) (by decide) ?_))
        refine prs ?_
        refine DWp.step rfl rfl rfl (Step.call rfl rfl rfl rfl rfl rfl (peelC (by first | exact hks.cons | exact hks.cons.cons | exact hks.cons.cons.cons) ?_))
        rw [← hr]
        simp only
        refine prs ?_
        refine DWp.evs 5 rfl ?_
        refine DWp.step rfl rfl rfl (Step.permS (show List.Perm ((L12, cel Hop.zero.cells 31) :: ((L14, cel HK.zero.cells 33) :: ((L, cel (byteCells h2 ++ g) 5 (cap, cap + 1)) :: S))) ((L12, cel Hop.zero.cells 31) :: ((L14, cel HK.zero.cells 33) :: ((L, cel (byteCells h2 ++ g) 5 (cap, cap + 1)) :: S))) from permBy [[(L12, cel Hop.zero.cells 31)], [(L14, cel HK.zero.cells 33)]] ((L, cel (byteCells h2 ++ g) 5 (cap, cap + 1)) :: S) [0, 1] [0, 1] (by decide)) (Step.storeAs 0 x.cells rfl rfl rfl rfl rfl hBL12 rfl (Unfz.zero _) rfl (Nat.le_of_ble_eq_true rfl) rfl rfl ?_))
        refine prs ?_
        refine DWp.evs 1 rfl ?_
        refine DWp.step rfl rfl rfl (Step.permS (show List.Perm ((L12, cel x.cells 31) :: ((L14, cel HK.zero.cells 33) :: ((L, cel (byteCells h2 ++ g) 5 (cap, cap + 1)) :: S))) ((L14, cel HK.zero.cells 33) :: ((L12, cel x.cells 31) :: ((L, cel (byteCells h2 ++ g) 5 (cap, cap + 1)) :: S))) from permBy [[(L12, cel x.cells 31)], [(L14, cel HK.zero.cells 33)]] ((L, cel (byteCells h2 ++ g) 5 (cap, cap + 1)) :: S) [0, 1] [1, 0] (by decide)) (Step.storeAs 0 k.cells rfl rfl rfl rfl rfl hBL14 rfl (Unfz.zero _) rfl (Nat.le_of_ble_eq_true rfl) rfl rfl ?_))
        refine prs ?_
        refine DWp.evs 1 rfl ?_
        refine DWp.nil ?_
        exact ⟨(L12, L14), ⟨hBL12, hBL14⟩, .cons rfl (.cons rfl (.cons rfl (.cons rfl (.cons rfl (.nil _))))), (show List.Perm ((L14, cel k.cells 33) :: ((L12, cel x.cells 31) :: ((L, cel (byteCells h2 ++ g) 5 (cap, cap + 1)) :: S))) ((L14, cel k.cells 33) :: ((L12, cel x.cells 31) :: ((L, cel (byteCells h2 ++ g) 5 (cap, cap + 1)) :: S))) from permBy [[(L14, cel k.cells 33)], [(L12, cel x.cells 31)]] ((L, cel (byteCells h2 ++ g) 5 (cap, cap + 1)) :: S) [0, 1] [0, 1] (by decide))⟩
  rintro ⟨L12, L14⟩ ⟨hB12, hB14⟩
  simp only at hB12 hB14 ⊢
  refine Wp.seq ?_
  refine Wp.seqS (α := Unit) (fun _ => [(0, .string (str who)), (8, .string (str h)), (11, .slice (some ⟨L, 0, none⟩) h.length cap), (14, .pointer (some ⟨L14, 0, none⟩)), (15, .int .i64 e), (68, .bool (decide (e = 0 ∨ e = 70)))]) (fun _ => (L14, cel k.cells 33) :: (L12, cel x.cells 31) :: (L, cel (byteCells h2 ++ g) 5 (cap, cap + 1)) :: S) (fun _ => True) ?_ ?_
  · skip
    refine Wp.region ?_
    by_cases he0 : e = 0
    · skip
      refine OWp.evs 3 rfl ?_
      refine OWp.part 65 rfl (fun cc11 => ?_) (fun cc11 => absurd (of_decide_eq_false cc11) (by exact fun h => h he0))
      have cc11 := of_decide_eq_true cc11
      refine OWp.evs 3 rfl ?_
      refine OWp.nil ?_
      exact ⟨(), trivial, .cons rfl (.cons rfl (.cons rfl (.cons rfl (.cons rfl (.cons' rfl (congrArg Value.bool (by rw [decide_eq_true (.inl he0)])) (.nil _)))))), .refl _⟩
    refine OWp.evs 3 rfl ?_
    refine OWp.part 65 rfl (fun cc12 => absurd (of_decide_eq_true cc12) (by exact he0)) (fun cc12 => ?_)
    have cc12 := of_decide_eq_false cc12
    refine OWp.evs 3 rfl ?_
    refine OWp.nil ?_
    exact ⟨(), trivial, .cons rfl (.cons rfl (.cons rfl (.cons rfl (.cons rfl (.cons' rfl (congrArg Value.bool (decide_eq_decide.2 ⟨.inr, fun h => h.resolve_left he0⟩)) (.nil _)))))), .refl _⟩
  rintro ⟨⟩ -
  refine Wp.cond rfl (fun h68 => ?_) (fun h68 => ?_)
  · skip
    have hm : macX (keysOf (sharedR (privR who 0) (h2.take 32)).1) (h2.drop 48) = (h2.drop 32).take 16 := by
      rcases hq with hq | hq
      · subst hq; exact absurd h68 (by decide)
      · exact hq.2
    rw [ht1] at hm
    refine Wp.seq (Wp.regionDraw [0, 2, 3, 1, 4, 5, 6, 7, 8, 9] [1, 4] rfl (by decide +kernel) ?_)
    refine DWp.evs 2 rfl ?_
    refine DWp.g rfl rfl rfl rfl (Gives.sliceStr (l := 0) (h' := 32) rfl rfl rfl rfl ⟨_, _, rfl, rfl⟩ (by decide) (by omega)) ?_
    rw [show (h.drop 0).take (32 - 0) = h.take 32 from rfl]
    refine DWp.stepAll rfl rfl rfl rfl (Step.call rfl rfl rfl rfl rfl rfl ((privateC (i := 0) hks.cons.cons.cons (by omega) (by decide) ?_)))
    refine DWp.stepAll rfl rfl rfl rfl (Step.call rfl rfl rfl rfl rfl rfl ((sharedC ?_)))
    have hsh : sharedR (privR who 0) (h.take 32) = (x25519 (privR who 0) (h.take 32), 0) := by rw [htk]; exact sharedR_eq (priv_len who 0) (onB_9.x _)
    rw [hsh] at hm ⊢
    simp only at hm ⊢
    refine DWp.evs 5 rfl ?_
    refine DWp.nil ?_
    refine Wp.seq (Wp.region ?_)
    refine OWp.evs 1 rfl ?_
    refine OWp.step rfl (Step.call rfl rfl rfl rfl rfl rfl ((ofC hks.cons.cons.cons ?_)))
    rw [if_pos (show (x25519 (privR who 0) (h.take 32)).length = 32 from len32 _)]
    obtain ⟨q1, q2, q3, q4, q5⟩ := keysOf_lens (x25519 (privR who 0) (h.take 32))
    generalize keysOf (x25519 (privR who 0) (h.take 32)) = kk at *
    refine OWp.evs 3 rfl ?_
    refine OWp.step rfl (Step.storeAs 0 (kk.cells) rfl rfl rfl rfl rfl (by assumption) rfl (Unfz.zero _) rfl (Nat.le_of_ble_eq_true rfl) rfl rfl ?_)
    refine OWp.nil ?_
    refine Wp.seq (Wp.regionDraw [0, 1, 2, 3, 4, 8, 9, 10, 5, 6, 7, 11, 12] [5, 6] rfl (by decide +kernel) ?_)
    refine DWp.evs 1 rfl ?_
    refine DWp.load (.head _) rfl rfl rfl rfl rfl rfl rfl ?_
    refine DWp.evs 1 rfl ?_
    refine DWp.g rfl rfl rfl rfl (Gives.sliceSlice (l := 48) (h' := h.length) rfl rfl rfl rfl ⟨_, _, rfl, rfl⟩ rfl (by omega) (by omega) (by omega)) ?_
    refine DWp.gives rfl rfl rfl rfl (Gives.bytesToStr (F := [(L, cel (byteCells h2 ++ g) 5 (cap, cap + 1))]) (l := (h2.drop 48).take 200) (k := 200) rfl rfl rfl rfl rfl (by have := reads_sub (S := []) (L := L) (o := 48) (n := h.length - 48) (cap := cap - 48) (l := h2) (g := g) (t := 5) (fz := (cap, cap + 1)) (by omega); rw [show h.length - 48 = 200 by omega] at this ⊢; exact this)) (fun _ hy => by rw [List.mem_singleton.1 hy]; exact .tail _ (.tail _ (.head _))) ?_
    refine DWp.evs 1 rfl ?_
    refine DWp.g rfl rfl rfl rfl (Gives.sliceSlice (l := 32) (h' := 48) rfl rfl rfl rfl ⟨_, _, rfl, rfl⟩ ⟨_, _, rfl, rfl⟩ (by decide) (by omega) (by omega)) ?_
    refine DWp.gives rfl rfl rfl rfl (Gives.bytesToStr (F := [(L, cel (byteCells h2 ++ g) 5 (cap, cap + 1))]) (l := (h2.drop 32).take 16) (k := 16) rfl rfl rfl rfl rfl (reads_sub (S := []) (L := L) (o := 32) (n := 16) (cap := cap - 32) (l := h2) (g := g) (t := 5) (fz := (cap, cap + 1)) (by omega))) (fun _ hy => by rw [List.mem_singleton.1 hy]; exact .tail _ (.tail _ (.head _))) ?_
    refine DWp.stepGrow rfl rfl rfl (Step.buildSlice rfl rfl rfl ?_); intro L87 hBL87 hLL87; refine ⟨fun _ hy => .tail _ hy, ?_⟩
    refine DWp.stepGrow rfl rfl rfl (Step.call rfl rfl rfl rfl rfl rfl ((tagC (l := [(h2.drop 48).take 200]) (Reads.row (k := 1) (sz := 1) (.head _) (Nat.le_of_ble_eq_true rfl)) (by decide) hks.cons.cons.cons.cons (by rw [q2]; decide) (by rw [List.flatten_cons, List.flatten_nil, List.append_nil, List.length_take]; unfold big; omega) ?_)))
    refine ⟨fun _ hy => hy, ?_⟩
    have e200 : (h2.drop 48).take 200 = h2.drop 48 := List.take_of_length_le (by rw [List.length_drop]; omega)
    rw [List.flatten_cons, List.flatten_nil, List.append_nil, e200]
    refine DWp.g rfl rfl rfl rfl (Gives.sliceStr (l := 0) (h' := 16) rfl rfl rfl rfl ⟨_, _, rfl, rfl⟩ (by decide) (by rw [hmac_len]; decide)) ?_
    refine DWp.evs 2 rfl ?_
    refine DWp.nil ?_
    refine Wp.ret ⟨trivial, _, ⟨_, _, rfl, rfl, rfl⟩, ?_⟩
    have hm2 : (hmac kk.mac (h2.drop 48)).take 16 = (h2.drop 32).take 16 := by unfold macX at hm; exact hm
    exact congrArg Value.bool (decide_eq_true hm2)
  refine Wp.skip ?_
  refine Wp.seq (Wp.region ?_)
  refine OWp.evs 3 rfl ?_
  refine OWp.nil ?_
  refine Wp.ret ⟨trivial, _, ⟨_, _, rfl, rfl, rfl⟩, ?_⟩
  have h81 : e = 81 := by
    rcases hq with hq | hq
    · exact hq
    · exact absurd hq.1 (of_decide_eq_false h68)
  exact congrArg Value.bool (decide_eq_true h81)
theorem headTurnedW {t1 : ByteArray} {a1 a2 : Int} (hks : KsIn S) (h1 : Rd Tryd.prog S 9 [.string t1]) (_h2 : Rd Tryd.prog S 3 [.int .i64 a1]) (h3 : Rd Tryd.prog S 5 [.int .u8 a2]) : CallWp Tryd.prog B 5 #[.string t1, .int .i64 a1, .int .u8 a2] (fun v _ => v = .bool true) S := by
  obtain ⟨s1, rfl, hs1⟩ := rdStrB h1
  obtain ⟨b, rfl⟩ := rdByte h3
  exact headTurnedL hks hs1
end
end Go.Proofs.D
