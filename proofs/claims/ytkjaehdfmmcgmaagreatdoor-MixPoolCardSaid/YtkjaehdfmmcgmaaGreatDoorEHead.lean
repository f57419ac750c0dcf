/- What functions of the given program do, one after the other, told by that layer. -/
import Derived.Test.YtkjaehdfmmcgmaaGreatDoorBCha
import Derived.Test.YtkjaehdfmmcgmaaGreatDoorEM1x8434
namespace Go.Hd
open Go.Sha Go.Cv

/-- The keys of a secret. -/
@[ext] structure HK where
  flow : List UInt8
  mac : List UInt8
  body : List UInt8
  blind : List UInt8
  tag : List UInt8
deriving DecidableEq

def keysOf (s : List UInt8) : HK :=
  ⟨derive s [102, 108, 111, 119] 32, derive s [109, 97, 99] 32, derive s [98, 111, 100, 121] 32, derive s [98, 108, 105, 110, 100] 32, derive s [116, 97, 103] 16⟩

/-- A text under a hop's flow, from a byte of the flow on. -/
def flowX (k : HK) (text : List UInt8) (a : Nat) : List UInt8 := xors text ((stream k.flow zeros12 0 240).drop a)
def macX (k : HK) (l : List UInt8) : List UInt8 := (hmac k.mac l).take 16

/-- The secrets of all hops, by the scalars so far. -/
def hopsGo (by_ : List (List UInt8)) : List (List UInt8) → List (List UInt8) × Nat
  | [] => ([], 0)
  | p :: ps =>
    if (chainR p by_).2 ≠ 0 then ([], (chainR p by_).2)
    else if (hopsGo (by_ ++ [(keysOf (chainR p by_).1).blind]) ps).2 ≠ 0 then ([], (hopsGo (by_ ++ [(keysOf (chainR p by_).1).blind]) ps).2)
    else ((chainR p by_).1 :: (hopsGo (by_ ++ [(keysOf (chainR p by_).1).blind]) ps).1, 0)

def fillGo (f : List UInt8) : List HK → List UInt8
  | [] => f
  | k :: ks => fillGo (flowX k (f ++ List.replicate 40 0) (240 - (f.length + 40))) ks

/-- The mac and the list, from a hop on. -/
def listR (pad fill : List UInt8) : List (List UInt8 × HK) → List UInt8 × List UInt8
  | [] => (List.replicate 16 0, pad)
  | (b, k) :: r =>
    let rest := if r.length = 0 then flowX k ((b ++ (listR pad fill r).1 ++ (listR pad fill r).2).take (200 - fill.length)) 0 ++ fill
      else flowX k ((b ++ (listR pad fill r).1 ++ (listR pad fill r).2).take 200) 0
    (macX k rest, rest)

def headR (seed : List UInt8) (ks : List HK) (bs : List (List UInt8)) : List UInt8 :=
  (publicR seed).1 ++ (listR (derive seed [112, 97, 100] 200) (fillGo [] ks.dropLast) (bs.zip ks)).1 ++ (listR (derive seed [112, 97, 100] 200) (fillGo [] ks.dropLast) (bs.zip ks)).2

theorem xors_len (a b : List UInt8) : (xors a b).length = min a.length b.length := by simp [xors]
theorem flowX_len (k : HK) {t : List UInt8} {a : Nat} (h : t.length + a ≤ 240) : (flowX k t a).length = t.length := by
  unfold flowX
  rw [xors_len, List.length_drop, stream_len]
  omega
theorem macX_len (k : HK) (l : List UInt8) : (macX k l).length = 16 := by
  unfold macX
  rw [List.length_take, hmac_len]
  rfl
theorem fillGo_len : ∀ (ks : List HK) (f : List UInt8), f.length + 40 * ks.length ≤ 240 → (fillGo f ks).length = f.length + 40 * ks.length
  | [], f, _ => by simp [fillGo]
  | k :: ks, f, h => by
    have e : (f ++ List.replicate 40 0).length = f.length + 40 := by simp
    have hl := flowX_len k (t := f ++ List.replicate 40 0) (a := 240 - (f.length + 40)) (by simp only [List.length_cons] at h; omega)
    simp only [List.length_cons] at h ⊢
    rw [fillGo, fillGo_len ks _ (by omega)]
    omega
theorem derive_len (s l : List UInt8) (n : Nat) : (derive s l n).length = n := by
  unfold derive
  exact expand_len _ _ _
end Go.Hd
namespace Go.Hd
open Go.Sha
/-- A text of which the first bytes are under a flow. -/
def xorAt (t f : List UInt8) (i : Nat) : List UInt8 := xors (t.take i) f ++ t.drop i
theorem xorAt_zero (t f : List UInt8) : xorAt t f 0 = t := by simp [xorAt, xors]
theorem xorAt_all (t f : List UInt8) : xorAt t f t.length = xors t f := by simp [xorAt]
theorem xorAt_len (t f : List UInt8) {i : Nat} (h : t.length ≤ f.length) (hi : i ≤ t.length) : (xorAt t f i).length = t.length := by
  unfold xorAt
  rw [List.length_append, xors_len, List.length_take, List.length_drop]
  omega
theorem xorAt_get (t f : List UInt8) {i : Nat} (h : t.length ≤ f.length) (hi : i < t.length) : (xorAt t f i)[i]? = some (t.getD i 0) := by
  have hl : (xors (t.take i) f).length = i := by rw [xors_len, List.length_take]; omega
  unfold xorAt
  rw [List.getElem?_append_right (by omega), hl, Nat.sub_self, List.getElem?_drop, Nat.add_zero, List.getD_eq_getElem?_getD, List.getElem?_eq_getElem hi]
  rfl
theorem xors_take_succ : ∀ (t f : List UInt8) (i : Nat), i < t.length → t.length ≤ f.length → xors (t.take (i + 1)) f = xors (t.take i) f ++ [t.getD i 0 ^^^ f.getD i 0]
  | [], _, _, h, _ => absurd h (by simp)
  | _ :: _, [], _, _, h => absurd h (by simp)
  | a :: t, b :: f, 0, _, _ => by simp [xors]
  | a :: t, b :: f, i + 1, h, h2 => by
    have := xors_take_succ t f i (by simpa using h) (by simpa using h2)
    unfold xors at this ⊢
    rw [List.take_succ_cons, List.take_succ_cons, List.zipWith_cons_cons, List.zipWith_cons_cons, this, List.getD_cons_succ, List.getD_cons_succ]
    rfl
theorem xorAt_set (t f : List UInt8) {i : Nat} (h : t.length ≤ f.length) (hi : i < t.length) : (xorAt t f i).set i (t.getD i 0 ^^^ f.getD i 0) = xorAt t f (i + 1) := by
  have hl : (xors (t.take i) f).length = i := by rw [xors_len, List.length_take]; omega
  unfold xorAt
  rw [xors_take_succ t f i hi h, List.set_append_right _ _ (by omega), hl, Nat.sub_self, List.drop_eq_getElem_cons hi, List.set_cons_zero, List.append_assoc]
  rfl
open Go.Cv
theorem le32_len (n : Nat) : (le32 n).length = 32 := by simp [le32]
theorem timesR_len {k u : List UInt8} (h : (timesR k u).2 = 0) : (timesR k u).1.length = 32 := by
  unfold timesR at h ⊢
  split at h
  · rename_i h2
    rw [if_pos h2]
    exact le32_len _
  · exact absurd h (by simp)
theorem sharedR_len {k u : List UInt8} (h : (sharedR k u).2 = 0) : (sharedR k u).1.length = 32 := by
  unfold sharedR at h ⊢
  split at h
  · rename_i h2; exact absurd h h2
  · rename_i h2
    rw [if_neg h2]
    split at h
    · exact absurd h (by simp)
    · rename_i h3
      rw [if_neg h3]
      exact timesR_len h
theorem chainGo_len : ∀ (ks : List (List UInt8)) (u : List UInt8), u.length = 32 → (chainGo u ks).2 = 0 → (chainGo u ks).1.length = 32
  | [], _, h, _ => h
  | k :: ks, u, h, h2 => by
    rw [chainGo] at h2 ⊢
    split at h2
    · rename_i h3; exact absurd h2 h3
    · rename_i h3
      rw [if_neg h3]
      exact chainGo_len ks _ (sharedR_len (by omega)) h2
theorem chainR_len {u : List UInt8} {ks : List (List UInt8)} (h : (chainR u ks).2 = 0) : (chainR u ks).1.length = 32 := by
  unfold chainR at h ⊢
  split at h
  · exact absurd h (by simp)
  · rename_i h2
    rw [if_neg h2]
    split at h
    · exact absurd h (by simp)
    · rename_i h3
      rw [if_neg h3]
      exact chainGo_len _ _ (by
        by_cases hu : u.length = 32
        · exact hu
        · exact absurd (fun hh => hu (hh u (List.mem_cons_self ..))) h2) h
/-- The scalars so far: the seed, and the blinding ones of the secrets. -/
def scal (seed : List UInt8) (ss : List (List UInt8)) : List (List UInt8) := seed :: ss.map fun s => (keysOf s).blind
theorem scal_snoc (seed : List UInt8) (ss : List (List UInt8)) (s : List UInt8) : scal seed ss ++ [(keysOf s).blind] = scal seed (ss ++ [s]) := by simp [scal]
def hopsFin (ss : List (List UInt8)) (r : List (List UInt8) × Nat) : List (List UInt8) × Nat := if r.2 ≠ 0 then ([], r.2) else (ss ++ r.1, 0)
theorem hopsFin_nil (r : List (List UInt8) × Nat) (h : r.2 ≠ 0 → r.1 = []) : hopsFin [] r = r := by
  obtain ⟨a, b⟩ := r
  unfold hopsFin
  split
  · rename_i hb
    have := h hb
    simp only at this
    rw [this]
  · rename_i hb
    have : b = 0 := by simpa using hb
    simp [this]
theorem hopsGo_err : ∀ (ps by_ : List (List UInt8)), (hopsGo by_ ps).2 ≠ 0 → (hopsGo by_ ps).1 = []
  | [], _, h => absurd rfl h
  | p :: ps, by_, h => by
    rw [hopsGo] at h ⊢
    split
    · rfl
    · rename_i h2
      rw [if_neg h2] at h
      split
      · rfl
      · rename_i h3
        rw [if_neg h3] at h
        exact absurd rfl h
theorem hopsFin_bad {seed : List UInt8} {ps ss : List (List UInt8)} {i : Nat} (hi : i < ps.length) (h : (chainR ps[i] (scal seed ss)).2 ≠ 0) : hopsFin ss (hopsGo (scal seed ss) (ps.drop i)) = ([], (chainR ps[i] (scal seed ss)).2) := by
  rw [List.drop_eq_getElem_cons hi, hopsGo, if_pos h]
  unfold hopsFin
  rw [if_pos h]
theorem hopsFin_good {seed : List UInt8} {ps ss : List (List UInt8)} {i : Nat} (hi : i < ps.length) (h : (chainR ps[i] (scal seed ss)).2 = 0) : hopsFin ss (hopsGo (scal seed ss) (ps.drop i)) = hopsFin (ss ++ [(chainR ps[i] (scal seed ss)).1]) (hopsGo (scal seed (ss ++ [(chainR ps[i] (scal seed ss)).1])) (ps.drop (i + 1))) := by
  rw [List.drop_eq_getElem_cons hi, hopsGo, if_neg (by omega), scal_snoc]
  generalize hopsGo (scal seed (ss ++ [(chainR ps[i] (scal seed ss)).1])) (ps.drop (i + 1)) = r
  obtain ⟨a, b⟩ := r
  unfold hopsFin
  by_cases hb : b = 0 <;> simp [hb]
theorem fillGo_snoc : ∀ (ks : List HK) (f : List UInt8) (k : HK), fillGo f (ks ++ [k]) = flowX k (fillGo f ks ++ List.replicate 40 0) (240 - ((fillGo f ks).length + 40))
  | [], _, _ => rfl
  | _ :: ks, _, k => fillGo_snoc ks _ k
/-- The list behind a hop that is met. -/
def restR (fill : List UInt8) (b : List UInt8) (k : HK) (p : List UInt8 × List UInt8) (m : Nat) : List UInt8 :=
  if m = 0 then flowX k ((b ++ p.1 ++ p.2).take (200 - fill.length)) 0 ++ fill else flowX k ((b ++ p.1 ++ p.2).take 200) 0
theorem listR_cons (pad fill b : List UInt8) (k : HK) (r : List (List UInt8 × HK)) : listR pad fill ((b, k) :: r) = (macX k (restR fill b k (listR pad fill r) r.length), restR fill b k (listR pad fill r) r.length) := rfl
theorem restR_len {fill b : List UInt8} {k : HK} {p : List UInt8 × List UInt8} {m : Nat} (hf : fill.length ≤ 200) (hb : b.length = 24) (h1 : p.1.length = 16) (h2 : p.2.length = 200) : (restR fill b k p m).length = 200 := by
  have hl : (b ++ p.1 ++ p.2).length = 240 := by simp [hb, h1, h2]
  unfold restR
  split
  · rw [List.length_append, flowX_len _ (by rw [List.length_take]; omega), List.length_take]; omega
  · rw [flowX_len _ (by rw [List.length_take]; omega), List.length_take]; omega
theorem listR_len {pad fill : List UInt8} (hp : pad.length = 200) (hf : fill.length ≤ 200) : ∀ (r : List (List UInt8 × HK)), (∀ x ∈ r, x.1.length = 24) → (listR pad fill r).1.length = 16 ∧ (listR pad fill r).2.length = 200
  | [], _ => ⟨by simp [listR], hp⟩
  | (b, k) :: r, h => by
    have hh := listR_len hp hf r (fun x hx => h x (List.mem_cons_of_mem _ hx))
    rw [listR_cons]
    exact ⟨macX_len _ _, restR_len hf (h _ (List.mem_cons_self ..)) hh.1 hh.2⟩
theorem hopsGo_len : ∀ (ps by_ : List (List UInt8)), (hopsGo by_ ps).2 = 0 → (hopsGo by_ ps).1.length = ps.length ∧ ∀ s ∈ (hopsGo by_ ps).1, s.length = 32
  | [], _, _ => ⟨rfl, by simp [hopsGo]⟩
  | p :: ps, by_, h => by
    rw [hopsGo] at h ⊢
    split at h
    · rename_i h2; exact absurd h h2
    · rename_i h2
      split at h
      · rename_i h3; exact absurd h h3
      · rename_i h3
        rw [if_neg h2, if_neg h3]
        have hh := hopsGo_len ps _ (by simpa using h3)
        refine ⟨by simp [hh.1], fun s hs => ?_⟩
        rcases List.mem_cons.1 hs with rfl | hs
        · exact chainR_len (by omega)
        · exact hh.2 s hs
theorem keysOf_lens (s : List UInt8) : (keysOf s).flow.length = 32 ∧ (keysOf s).mac.length = 32 ∧ (keysOf s).body.length = 32 ∧ (keysOf s).blind.length = 32 ∧ (keysOf s).tag.length = 16 :=
  ⟨derive_len _ _ _, derive_len _ _ _, derive_len _ _ _, derive_len _ _ _, derive_len _ _ _⟩
end Go.Hd
