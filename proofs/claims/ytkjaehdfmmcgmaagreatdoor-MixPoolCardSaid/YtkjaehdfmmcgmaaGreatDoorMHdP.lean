/- Packets of points of any private keys are peeled, hop by hop. -/
import Derived.Test.YtkjaehdfmmcgmaaGreatDoorMM12xb720
import Derived.Test.YtkjaehdfmmcgmaaGreatDoorMM11x3a2b
import Derived.Test.YtkjaehdfmmcgmaaGreatDoorEHeadW
namespace Go.Proofs.D
open Go.Lg Go.Sha Go.Hd Go.Cv
open Go.Proofs.C (Hop hopP hopB parse pathE encB)
set_option maxRecDepth 100000
abbrev pubL (privs : List (List UInt8)) : List (List UInt8) := privs.map fun p => x25519 p base9
def keysP (seed : List UInt8) (privs : List (List UInt8)) : List HK := (secs [seed] (pubL privs)).map keysOf
theorem keysP_len (seed : List UInt8) (privs : List (List UInt8)) : (keysP seed privs).length = privs.length := by unfold keysP; rw [List.length_map, secs_len, List.length_map]
/-- The header that the hop of that number sees. -/
def hdP (seed : List UInt8) (privs : List (List UInt8)) (path : List Hop) (i : Nat) : List UInt8 :=
 hd (derive seed [112, 97, 100] 200) (fillGo [] (keysP seed privs).dropLast) [seed] path (keysP seed privs) i
theorem pubL_on {privs : List (List UInt8)} : ∀ p ∈ pubL privs, OnB p := by
 intro p hp
 obtain ⟨k, _, rfl⟩ := List.mem_map.1 hp
 exact onB_9.x k
theorem makeP_is {seed : List UInt8} {privs : List (List UInt8)} {path : List Hop} (hs : seed.length = 32) (h : pathE path = 0) (hl : privs.length = path.length) : makeR seed (pubL privs) path = (hdP seed privs path 0, keysP seed privs, 0) := by
 obtain ⟨hgood, hpos, hmost⟩ := pathE_ok h
 have hpl : (pubL privs).length = path.length := by rw [List.length_map, hl]
 have hg := hopsGo_eq (pubL privs) [seed] pubL_on (by intro b hb; rw [List.mem_singleton.1 hb]; exact hs) (by rw [hpl]; simp; omega)
 have h32 : ∀ s ∈ seed :: pubL privs, s.length = 32 := by
  intro s hx
  rcases List.mem_cons.1 hx with rfl | hx
  ·exact hs
  ·exact (pubL_on s hx).1
 unfold makeR
 rw [if_neg (fun e => e h), if_neg (by rw [hpl]; simp), if_neg (fun e => e h32), hg, if_neg (by simp)]
 show (headR seed (keysP seed privs) (path.map encB), keysP seed privs, (0 : Int)) = _
 congr 1
 have hkl := keysP_len seed privs
 unfold headR hdP
 rw [publicR_eq hs]
 cases path with
 | nil => simp at hpos
 | cons x r =>
  generalize keysP seed privs = ks at *
  cases ks with
  | nil => rw [hl] at hkl; simp at hkl
  | cons k ks => rfl
theorem hdP_len {seed : List UInt8} {privs : List (List UInt8)} {path : List Hop} {i : Nat} (h : pathE path = 0) (hl : privs.length = path.length) (hi : i < path.length) : (hdP seed privs path i).length = 248 := by
 obtain ⟨hgood, hpos, hmost⟩ := pathE_ok h
 have hkl := keysP_len seed privs
 exact hd_len (derive_len _ _ _) (by rw [fillGo_len _ _ (by simp; omega)]; simp; omega) path _ _ i hgood (by rw [hkl, hl]) hi
theorem path_shape {path : List Hop} (h : pathE path = 0) : C.shape path := by
 obtain ⟨hgood, hpos, hmost⟩ := pathE_ok h
 unfold C.pathE at h
 rw [if_pos hgood] at h
 by_cases hs : C.shape path ∧ path.length ≤ 5
 ·exact hs.1
 ·rw [if_neg hs] at h
  exact absurd h (by decide)
theorem hdP_peel {seed : List UInt8} {privs : List (List UInt8)} {path : List Hop} {i : Nat} (h : pathE path = 0) (hl : privs.length = path.length) (h32 : ∀ p ∈ privs, p.length = 32) (hi : i < path.length) : peelR (privs.getD i []) (hdP seed privs path i) = (path.getD i Hop.zero, hdP seed privs path (i + 1), (keysP seed privs).getD i HK.zero, 0) := by
 obtain ⟨hgood, hpos, hmost⟩ := pathE_ok h
 exact hd_peel (pad := derive seed [112, 97, 100] 200) (derive_len _ _ _) path privs [seed] [] i hgood (path_shape h) hl h32 (by simp; omega) hi
/-- The payload as the hop of that number has it. -/
def bdP (seed : List UInt8) (privs : List (List UInt8)) (text : List UInt8) (i : Nat) : List UInt8 := bodyR text ((keysP seed privs).drop i)
theorem bdP_len {seed : List UInt8} {privs : List (List UInt8)} {text : List UInt8} (h : text.length ≤ 222) (i : Nat) : (bdP seed privs text i).length = 256 := bodyR_len h _
theorem bdP_open {seed : List UInt8} {privs : List (List UInt8)} {text : List UInt8} (h : text.length ≤ 222) {i : Nat} (hi : i < privs.length) : wopen ((keysP seed privs).getD i HK.zero).body (bdP seed privs text i) = bdP seed privs text (i + 1) := by
 have hl : i < (keysP seed privs).length := by rw [keysP_len]; exact hi
 have hb : (bodyR text ((keysP seed privs).drop (i + 1))).length = 256 := bodyR_len h _
 unfold bdP
 rw [body_drop hl, List.getD_eq_getElem?_getD, List.getElem?_eq_getElem hl]
 exact wopen_shut _ (by omega)
theorem packP_is {seed text : List UInt8} {privs : List (List UInt8)} {path : List Hop} (hs : seed.length = 32) (h : pathE path = 0) (hl : privs.length = path.length) (ht : text.length ≤ 222) : packR seed (pubL privs) text path = (hdP seed privs path 0 ++ bdP seed privs text 0, 0) := by
 unfold packR
 rw [makeP_is hs h hl, if_neg (by simp), if_neg (by omega)]
 rfl
theorem kindP_iff {path : List Hop} (h : pathE path = 0) {i : Nat} (hi : i < path.length) : (path.getD i Hop.zero).kind = 1 ↔ i + 1 < path.length := by
 have := ((C.shape_iff path).1 (path_shape h)).2 i hi
 rw [List.getD_eq_getElem?_getD, List.getElem?_eq_getElem hi]
 simp only [Option.getD_some]
 rw [this]
 omega
theorem pkP_on {seed text : List UInt8} {privs : List (List UInt8)} {path : List Hop} {i : Nat} (h : pathE path = 0) (hl : privs.length = path.length) (h32 : ∀ p ∈ privs, p.length = 32) (ht : text.length ≤ 222) (hi : i + 1 < path.length) :
  pkPeelR (privs.getD i []) (hdP seed privs path i ++ bdP seed privs text i) = (⟨path.getD i Hop.zero, hdP seed privs path (i + 1) ++ bdP seed privs text (i + 1), ((keysP seed privs).getD i HK.zero).tag, []⟩, 0) := by
 have hl' := hdP_len (seed := seed) h hl (show i < path.length by omega)
 have hb := bdP_len (seed := seed) (privs := privs) ht i
 have e1 : (hdP seed privs path i ++ bdP seed privs text i).take 248 = hdP seed privs path i := by rw [List.take_append_of_le_length (by omega), List.take_of_length_le (by omega)]
 have e2 : (hdP seed privs path i ++ bdP seed privs text i).drop 248 = bdP seed privs text i := by rw [List.drop_append, List.drop_of_length_le (by omega), hl']; rfl
 unfold pkPeelR
 rw [if_neg (by rw [List.length_append]; omega), e1, e2, hdP_peel h hl h32 (by omega), if_neg (by simp), if_pos ((kindP_iff h (by omega)).2 hi)]
 simp only
 rw [bdP_open ht (by omega)]
end Go.Proofs.D
