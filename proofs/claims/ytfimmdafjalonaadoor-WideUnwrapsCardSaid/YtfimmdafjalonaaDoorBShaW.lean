/- What functions of the given program do, one after the other, told by that layer. -/
import Derived.Test.YtfimmdafjalonaaDoorBShaL
/- The words of a block, by their numbers. -/
namespace Go.Sha

def win (W : Nat → Nat) (t : Nat) : List Nat := [W t, W (t + 1), W (t + 2), W (t + 3), W (t + 4), W (t + 5), W (t + 6), W (t + 7), W (t + 8), W (t + 9), W (t + 10), W (t + 11), W (t + 12), W (t + 13), W (t + 14), W (t + 15)]
structure Sched (W : Nat → Nat) : Prop where
  next : ∀ t, W (t + 16) = (W t + s0 (W (t + 1)) + W (t + 9) + s1 (W (t + 14))) % 4294967296
  small : ∀ t, W t < 4294967296
def rv (W : Nat → Nat) (v : V) : Nat → V
  | 0 => v
  | t + 1 => round (rv W v t) (ks.getD t 0) (W t)

theorem ks_len : ks.length = 64 := rfl
theorem rounds_nil (ws : List Nat) (v : V) : rounds [] ws v = v := rfl
theorem rounds_cons (k : Nat) (l ws : List Nat) (v : V) : rounds (k :: l) ws v = rounds l (nextw ws) (round v k (ws.getD 0 0)) := by
  unfold rounds
  rw [List.foldl_cons, rstep]
theorem win_head (W : Nat → Nat) (t : Nat) : (win W t).getD 0 0 = W t := rfl
theorem nextw_win (W : Nat → Nat) (t : Nat) (h : Sched W) : nextw (win W t) = win W (t + 1) := by
  show [W (t + 1), W (t + 2), W (t + 3), W (t + 4), W (t + 5), W (t + 6), W (t + 7), W (t + 8), W (t + 9), W (t + 10), W (t + 11), W (t + 12), W (t + 13), W (t + 14), W (t + 15), (W t + s0 (W (t + 1)) + W (t + 9) + s1 (W (t + 14))) % 4294967296] = _
  rw [← h.next t]
  rfl
theorem rounds_step (W : Nat → Nat) (k t : Nat) (l : List Nat) (v : V) (h : Sched W) : rounds (k :: l) (win W t) v = rounds l (win W (t + 1)) (round v k (W t)) := by
  rw [rounds_cons, nextw_win W t h, win_head]
theorem rounds_rv {W : Nat → Nat} {v : V} (h : Sched W) : ∀ n t, t + n = 64 → rounds (ks.drop t) (win W t) (rv W v t) = rv W v (t + n)
  | 0, t, e => by
    rw [List.drop_of_length_le (by rw [ks_len]; omega), rounds_nil, Nat.add_zero]
  | n + 1, t, e => by
    have hlt : t < ks.length := by rw [ks_len]; omega
    have ih := rounds_rv (v := v) h n (t + 1) (by omega)
    rw [List.drop_eq_getElem_cons hlt, rounds_step W _ t _ _ h]
    have hk : ks[t] = ks.getD t 0 := by rw [List.getD_eq_getElem?_getD, List.getElem?_eq_getElem hlt]; rfl
    rw [hk]
    have e1 : t + (n + 1) = t + 1 + n := by omega
    rw [e1, ← ih]
    rfl

def itw (ws : List Nat) : Nat → List Nat
  | 0 => ws
  | t + 1 => nextw (itw ws t)
def Wd (ws : List Nat) (t : Nat) : Nat := (itw ws t).getD 0 0

theorem nextw_len {l : List Nat} (h : l.length = 16) : (nextw l).length = 16 := by
  unfold nextw
  rw [List.length_append, List.length_drop, h]
  rfl
theorem itw_len {ws : List Nat} (h : ws.length = 16) : ∀ t, (itw ws t).length = 16
  | 0 => h
  | t + 1 => nextw_len (itw_len h t)
theorem nextw_get {l : List Nat} (h : l.length = 16) {j : Nat} (hj : j < 15) : (nextw l).getD j 0 = l.getD (j + 1) 0 := by
  unfold nextw
  rw [List.getD_eq_getElem?_getD, List.getElem?_append_left (by rw [List.length_drop, h]; omega), List.getElem?_drop, List.getD_eq_getElem?_getD, Nat.add_comm]
theorem last_of (l : List Nat) (z : Nat) (h : l.length = 16) : (l.drop 1 ++ [z]).getD 15 0 = z := by
  simp [List.getD_eq_getElem?_getD, h]
theorem nextw_last {l : List Nat} (h : l.length = 16) : (nextw l).getD 15 0 = (l.getD 0 0 + s0 (l.getD 1 0) + l.getD 9 0 + s1 (l.getD 14 0)) % 4294967296 := last_of l _ h
theorem itw_get {ws : List Nat} (h : ws.length = 16) : ∀ (j t : Nat), j < 16 → (itw ws t).getD j 0 = Wd ws (t + j)
  | 0, _, _ => rfl
  | j + 1, t, hj => by
    have := itw_get h j (t + 1) (by omega)
    rw [show t + (j + 1) = t + 1 + j by omega, ← this]
    exact (nextw_get (itw_len h t) (by omega)).symm
theorem win_range (W : Nat → Nat) (t : Nat) : win W t = (List.range 16).map fun j => W (t + j) := rfl
theorem itw_win {ws : List Nat} (h : ws.length = 16) (t : Nat) : itw ws t = win (Wd ws) t := by
  rw [win_range]
  apply List.ext_getElem
  · rw [itw_len h]; simp
  · intro j h1 h2
    rw [itw_len h] at h1
    have := itw_get h j t h1
    rw [List.getD_eq_getElem?_getD, List.getElem?_eq_getElem (by rw [itw_len h]; exact h1)] at this
    simpa using this
theorem wd_sched {ws : List Nat} (h : ws.length = 16) (hs : ∀ x ∈ ws, x < 4294967296) : Sched (Wd ws) := by
  have next : ∀ t, Wd ws (t + 16) = (Wd ws t + s0 (Wd ws (t + 1)) + Wd ws (t + 9) + s1 (Wd ws (t + 14))) % 4294967296 := by
    intro t
    have := itw_get h 15 (t + 1) (by decide)
    rw [show t + 16 = t + 1 + 15 by omega, ← this]
    show (nextw (itw ws t)).getD 15 0 = _
    rw [nextw_last (itw_len h t), itw_get h 0 t (by decide), itw_get h 1 t (by decide), itw_get h 9 t (by decide), itw_get h 14 t (by decide), Nat.add_zero]
  refine ⟨next, fun t => ?_⟩
  by_cases ht : t < 16
  · have := itw_get h t 0 ht
    rw [Nat.zero_add] at this
    rw [← this]
    show ws.getD t 0 < _
    rw [List.getD_eq_getElem?_getD, List.getElem?_eq_getElem (by omega)]
    exact hs _ (List.getElem_mem (by omega))
  · obtain ⟨u, rfl⟩ : ∃ u, t = u + 16 := ⟨t - 16, by omega⟩
    rw [next]
    exact Nat.mod_lt _ (by decide)
theorem words_len : ∀ (n : Nat) (l : List UInt8), (words n l).length = n
  | 0, _ => rfl
  | n + 1, l => by simp [words, words_len n]
theorem be_lt : ∀ (l : List UInt8) (d m : Nat), d < m → l.foldl (fun n b => n * 256 + b.toNat) d < m * 256 ^ l.length
  | [], d, m, h => by simpa using h
  | b :: l, d, m, h => by
    have hb := b.toNat_lt
    have := be_lt l (d * 256 + b.toNat) (m * 256) (by omega)
    simp only [List.foldl_cons, List.length_cons, Nat.pow_succ]
    calc _ < m * 256 * 256 ^ l.length := this
      _ = m * (256 ^ l.length * 256) := by rw [Nat.mul_assoc, Nat.mul_comm 256]
theorem be4_lt {l : List UInt8} (h : l.length ≤ 4) : be l < 4294967296 := by
  have := be_lt l 0 1 (by decide)
  refine Nat.lt_of_lt_of_le this ?_
  rw [Nat.one_mul]
  exact Nat.le_trans (Nat.pow_le_pow_right (by decide) h) (by decide)
theorem words_lt : ∀ (n : Nat) (l : List UInt8), ∀ x ∈ words n l, x < 4294967296
  | 0, _, x, h => by simp [words] at h
  | n + 1, l, x, h => by
    simp only [words, List.mem_cons] at h
    rcases h with rfl | h
    · exact be4_lt (by rw [List.length_take]; omega)
    · exact words_lt n _ x h

def blockW (b : List UInt8) : Nat → Nat := Wd (words 16 b)
theorem blockW_sched (b : List UInt8) : Sched (blockW b) := wd_sched (words_len _ _) (words_lt _ _)
theorem press_rv (v : V) (b : List UInt8) : press v b = v.plus (rv (blockW b) v 64) := by
  unfold press
  have := rounds_rv (v := v) (blockW_sched b) 64 0 rfl
  have e : words 16 b = win (blockW b) 0 := itw_win (words_len _ _) 0
  rw [e]
  rw [List.drop_zero, Nat.zero_add] at this
  rw [← this]
  rfl
theorem words_get : ∀ (n : Nat) (l : List UInt8) (i : Nat), i < n → (words n l).getD i 0 = be ((l.drop (4 * i)).take 4)
  | n + 1, l, 0, _ => rfl
  | n + 1, l, i + 1, h => by
    have := words_get n (l.drop 4) i (by omega)
    show (words n (l.drop 4)).getD i 0 = _
    rw [this, List.drop_drop]
    congr 3
    omega
theorem blockW_word {b : List UInt8} {i : Nat} (h : i < 16) : blockW b i = be ((b.drop (4 * i)).take 4) := by
  have := itw_get (ws := words 16 b) (words_len _ _) i 0 h
  rw [Nat.zero_add] at this
  unfold blockW
  rw [← this]
  exact words_get 16 b i h
theorem rv_ok {W : Nat → Nat} {v : V} (h : v.ok) : ∀ t, (rv W v t).ok
  | 0 => h
  | t + 1 => round_ok (rv_ok h t)
theorem plus_ok (v w : V) : (v.plus w).ok := ⟨Nat.mod_lt _ (by decide), Nat.mod_lt _ (by decide), Nat.mod_lt _ (by decide), Nat.mod_lt _ (by decide), Nat.mod_lt _ (by decide), Nat.mod_lt _ (by decide), Nat.mod_lt _ (by decide), Nat.mod_lt _ (by decide)⟩
theorem v0_ok : v0.ok := by unfold V.ok v0; decide
end Go.Sha
