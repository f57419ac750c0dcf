/- A header that is made, peeled hop by hop: plain lists, no program. -/
import Derived.Test.YtkbagleekpgdeaaGreatDoorEHead
import Derived.Test.YtkbagleekpgdeaaGreatDoorEM2xe31d
namespace Go.Hd
open Go.Sha Go.Cv
theorem xors_append : ∀ (a b f : List UInt8), xors (a ++ b) f = xors a f ++ xors b (f.drop a.length)
  | [], b, f => by simp [xors]
  | x :: a, b, [] => by simp [xors]
  | x :: a, b, y :: f => by
    have := xors_append a b f
    unfold xors at this ⊢
    rw [List.cons_append, List.zipWith_cons_cons, List.zipWith_cons_cons, this, List.cons_append, List.length_cons, List.drop_succ_cons]
theorem xors_take : ∀ (t f : List UInt8) (n : Nat), (xors t f).take n = xors (t.take n) f
  | [], f, n => by simp [xors]
  | x :: t, [], n => by simp [xors]
  | x :: t, y :: f, 0 => by simp [xors]
  | x :: t, y :: f, n + 1 => by
    have := xors_take t f n
    unfold xors at this ⊢
    rw [List.zipWith_cons_cons, List.take_succ_cons, List.take_succ_cons, List.zipWith_cons_cons, this]
theorem xors_drop : ∀ (t f : List UInt8) (n : Nat), (xors t f).drop n = xors (t.drop n) (f.drop n)
  | [], f, n => by simp [xors]
  | x :: t, [], n => by cases n <;> simp [xors]
  | x :: t, y :: f, 0 => by simp [xors]
  | x :: t, y :: f, n + 1 => by
    have := xors_drop t f n
    unfold xors at this ⊢
    rw [List.zipWith_cons_cons, List.drop_succ_cons, List.drop_succ_cons, List.drop_succ_cons, this]
theorem xors_xors : ∀ (t f : List UInt8), t.length ≤ f.length → xors (xors t f) f = t
  | [], f, _ => by simp [xors]
  | x :: t, [], h => by simp at h
  | x :: t, y :: f, h => by
    have := xors_xors t f (by simpa using h)
    unfold xors at this ⊢
    rw [List.zipWith_cons_cons, List.zipWith_cons_cons, this, UInt8.xor_assoc, UInt8.xor_self, UInt8.xor_zero]
theorem xors_zero : ∀ (n : Nat) (f : List UInt8), f.length = n → xors (List.replicate n 0) f = f
  | 0, [], _ => by simp [xors]
  | 0, _ :: _, h => by simp at h
  | n + 1, [], h => by simp at h
  | n + 1, y :: f, h => by
    have := xors_zero n f (by simpa using h)
    unfold xors at this ⊢
    rw [List.replicate_succ, List.zipWith_cons_cons, this, UInt8.zero_xor]
/-- The bytes of a hop's flow. -/
def fl (k : HK) : List UInt8 := stream k.flow zeros12 0 240
theorem fl_len (k : HK) : (fl k).length = 240 := stream_len _ _ _ _
theorem flowX_eq (k : HK) (t : List UInt8) (a : Nat) : flowX k t a = xors t ((fl k).drop a) := rfl
theorem flowX_back (k : HK) (t u : List UInt8) (h : t.length ≤ 240) : flowX k (flowX k t 0 ++ u) 0 = t ++ flowX k u t.length := by
  have hl : (xors t (fl k)).length = t.length := by rw [xors_len, fl_len]; omega
  rw [flowX_eq, flowX_eq, flowX_eq, List.drop_zero, xors_append, xors_xors t _ (by rw [fl_len]; omega), hl]
theorem flowX_zeros (k : HK) : flowX k (List.replicate 40 0) 200 = (fl k).drop 200 := by
  rw [flowX_eq]
  exact xors_zero 40 _ (by rw [List.length_drop, fl_len])
theorem take_drop_app {a b c : List UInt8} (ha : a.length = 24) (hb : b.length = 16) (_hc : c.length = 200) : (a ++ b ++ c).take 200 = a ++ b ++ c.take 160 := by
  rw [List.take_append, List.take_of_length_le (by simp [ha, hb])]
  congr 2
  simp [ha, hb]
/-- The list's last bytes are those of the filler so far. -/
theorem list_tail {pad : List UInt8} (hp : pad.length = 200) : ∀ (r : List (List UInt8 × HK)) (g : List UInt8), r ≠ [] → (∀ x ∈ r, x.1.length = 24) → g.length + 40 * r.length ≤ 200 →
    (listR pad (fillGo g (r.map (·.2)).dropLast) r).2.drop (200 - g.length) = g
  | [], _, h, _, _ => absurd rfl h
  | [(b, k)], g, _, hb, hg => by
    have hb1 : b.length = 24 := hb (b, k) (List.mem_cons_self ..)
    simp only [List.length_cons, List.length_nil] at hg
    rw [listR_cons]
    unfold restR
    simp only [List.length_nil, if_true, List.map_cons, List.map_nil, List.dropLast_singleton, fillGo]
    have hl : (flowX k ((b ++ (listR pad g []).1 ++ (listR pad g []).2).take (200 - g.length)) 0).length = 200 - g.length := by
      have h1 : ((b ++ (listR pad g []).1 ++ (listR pad g []).2).take (200 - g.length)).length = 200 - g.length := by
        rw [List.length_take, List.length_append, List.length_append, hb1]
        simp only [listR, List.length_replicate, hp]
        omega
      rw [flowX_len _ (by omega), h1]
    rw [List.drop_append, hl, Nat.sub_self, List.drop_zero, List.drop_of_length_le (by omega), List.nil_append]
  | (b, k) :: x :: r, g, _, hb, hg => by
    have hb1 : b.length = 24 := hb (b, k) (List.mem_cons_self ..)
    simp only [List.length_cons] at hg
    have hbr : ∀ y ∈ x :: r, y.1.length = 24 := fun y hy => hb y (List.mem_cons_of_mem _ hy)
    have hf : fillGo g (((b, k) :: x :: r).map (·.2)).dropLast = fillGo (flowX k (g ++ List.replicate 40 0) (240 - (g.length + 40))) ((x :: r).map (·.2)).dropLast := rfl
    rw [hf]
    have hgl : (flowX k (g ++ List.replicate 40 0) (240 - (g.length + 40))).length = g.length + 40 := by
      rw [flowX_len _ (by simp; omega)]; simp
    have ih := list_tail hp (x :: r) (flowX k (g ++ List.replicate 40 0) (240 - (g.length + 40))) (by simp) hbr (by rw [hgl]; simp only [List.length_cons]; omega)
    rw [hgl] at ih
    have hfl : (fillGo (flowX k (g ++ List.replicate 40 0) (240 - (g.length + 40))) ((x :: r).map (·.2)).dropLast).length ≤ 200 := by
      rw [fillGo_len _ _ (by rw [hgl]; simp; omega), hgl]
      simp
      omega
    obtain ⟨hl1, hl2⟩ := listR_len (fill := fillGo (flowX k (g ++ List.replicate 40 0) (240 - (g.length + 40))) ((x :: r).map (·.2)).dropLast) hp hfl (x :: r) hbr
    generalize hF : fillGo (flowX k (g ++ List.replicate 40 0) (240 - (g.length + 40))) ((x :: r).map (·.2)).dropLast = F at *
    rw [listR_cons]
    unfold restR
    rw [if_neg (by simp)]
    rw [take_drop_app hb1 hl1 hl2, flowX_eq, List.drop_zero, xors_drop]
    have e1 : (b ++ (listR pad F (x :: r)).1 ++ (listR pad F (x :: r)).2.take 160).drop (200 - g.length) = ((listR pad F (x :: r)).2.drop (200 - (g.length + 40))).take g.length := by
      rw [List.drop_append, List.drop_of_length_le (by rw [List.length_append, hb1, hl1]; omega), List.nil_append, List.length_append, hb1, hl1, List.drop_take]
      rw [show 200 - g.length - (24 + 16) = 200 - (g.length + 40) by omega]
      congr 1
      omega
    rw [e1, ih, flowX_eq, xors_take, List.take_append_of_le_length (Nat.le_refl _), List.take_length]
    rw [show 240 - (g.length + 40) = 200 - g.length by omega]
    exact xors_xors _ _ (by rw [List.length_drop, fl_len]; omega)
/-- A list that is opened: not the last one. -/
theorem open_on {pad : List UInt8} (hp : pad.length = 200) (b : List UInt8) (k : HK) (x : List UInt8 × HK) (r : List (List UInt8 × HK)) (g : List UInt8) (hb : ∀ y ∈ (b, k) :: x :: r, y.1.length = 24) (hg : g.length + 40 * (r.length + 2) ≤ 200) :
    flowX k ((listR pad (fillGo g (((b, k) :: x :: r).map (·.2)).dropLast) ((b, k) :: x :: r)).2 ++ List.replicate 40 0) 0 = b ++ (listR pad (fillGo g (((b, k) :: x :: r).map (·.2)).dropLast) (x :: r)).1 ++ (listR pad (fillGo g (((b, k) :: x :: r).map (·.2)).dropLast) (x :: r)).2 := by
  have hb1 : b.length = 24 := hb (b, k) (List.mem_cons_self ..)
  have hbr : ∀ y ∈ x :: r, y.1.length = 24 := fun y hy => hb y (List.mem_cons_of_mem _ hy)
  have hf : fillGo g (((b, k) :: x :: r).map (·.2)).dropLast = fillGo (flowX k (g ++ List.replicate 40 0) (240 - (g.length + 40))) ((x :: r).map (·.2)).dropLast := rfl
  rw [hf]
  have hgl : (flowX k (g ++ List.replicate 40 0) (240 - (g.length + 40))).length = g.length + 40 := by
    rw [flowX_len _ (by simp; omega)]; simp
  have ih := list_tail hp (x :: r) (flowX k (g ++ List.replicate 40 0) (240 - (g.length + 40))) (by simp) hbr (by rw [hgl]; simp only [List.length_cons]; omega)
  rw [hgl] at ih
  have hfl : (fillGo (flowX k (g ++ List.replicate 40 0) (240 - (g.length + 40))) ((x :: r).map (·.2)).dropLast).length ≤ 200 := by
    rw [fillGo_len _ _ (by rw [hgl]; simp; omega), hgl]
    simp
    omega
  obtain ⟨hl1, hl2⟩ := listR_len (fill := fillGo (flowX k (g ++ List.replicate 40 0) (240 - (g.length + 40))) ((x :: r).map (·.2)).dropLast) hp hfl (x :: r) hbr
  generalize hF : fillGo (flowX k (g ++ List.replicate 40 0) (240 - (g.length + 40))) ((x :: r).map (·.2)).dropLast = F at *
  rw [listR_cons]
  unfold restR
  rw [if_neg (by simp), take_drop_app hb1 hl1 hl2]
  have hlen : (b ++ (listR pad F (x :: r)).1 ++ (listR pad F (x :: r)).2.take 160).length = 200 := by
    rw [List.length_append, List.length_append, hb1, hl1, List.length_take, hl2]; rfl
  rw [flowX_back _ _ _ (by omega), hlen, flowX_zeros, List.append_assoc _ (List.take 160 _)]
  congr 1
  have e2 : (listR pad F (x :: r)).2.drop 160 = (fl k).drop 200 := by
    have := congrArg (List.drop g.length) ih
    rw [List.drop_drop, show 200 - (g.length + 40) + g.length = 160 by omega] at this
    rw [this, flowX_eq, xors_drop, List.drop_append, List.drop_of_length_le (Nat.le_refl _), Nat.sub_self, List.drop_zero, List.nil_append, List.drop_drop]
    rw [show 240 - (g.length + 40) + g.length = 200 by omega]
    exact xors_zero 40 _ (by rw [List.length_drop, fl_len])
  rw [← e2, List.take_append_drop]
/-- The last one. -/
theorem open_last {pad : List UInt8} (hp : pad.length = 200) (b : List UInt8) (k : HK) (g : List UInt8) (hb : b.length = 24) (hg : g.length ≤ 160) :
    (flowX k ((listR pad g [(b, k)]).2 ++ List.replicate 40 0) 0).take 24 = b := by
  rw [listR_cons]
  unfold restR
  rw [if_pos (by simp)]
  have hl : ((b ++ (listR pad g []).1 ++ (listR pad g []).2).take (200 - g.length)).length = 200 - g.length := by
    rw [List.length_take, List.length_append, List.length_append, hb]
    simp only [listR, List.length_replicate, hp]
    omega
  rw [List.append_assoc, flowX_back _ _ _ (by omega), List.take_append_of_le_length (by omega), List.take_take, Nat.min_eq_left (by omega), List.append_assoc, List.take_append_of_le_length (by omega), List.take_of_length_le (by omega)]
/-- The secrets of hops whose points lie on the curve. -/
def secs : List (List UInt8) → List (List UInt8) → List (List UInt8)
  | _, [] => []
  | by_, p :: ps => xs p by_ :: secs (by_ ++ [(keysOf (xs p by_)).blind]) ps
theorem blind_len (s : List UInt8) : (keysOf s).blind.length = 32 := derive_len _ _ _
theorem hopsGo_eq : ∀ (ps by_ : List (List UInt8)), (∀ p ∈ ps, OnB p) → (∀ b ∈ by_, b.length = 32) → by_.length + ps.length ≤ 17 → hopsGo by_ ps = (secs by_ ps, 0)
  | [], _, _, _, _ => rfl
  | p :: ps, by_, hp, hb, hl => by
    simp only [List.length_cons] at hl
    have hc := chainR_eq by_ (hp p (List.mem_cons_self ..)) hb (by omega)
    rw [hopsGo, hc, if_neg (by simp)]
    have ih := hopsGo_eq ps (by_ ++ [(keysOf (xs p by_)).blind]) (fun x hx => hp x (List.mem_cons_of_mem _ hx)) (fun x hx => by
      rcases List.mem_append.1 hx with h | h
      · exact hb x h
      · rw [List.mem_singleton.1 h]; exact blind_len _) (by simp; omega)
    simp only [ih]
    rw [if_neg (by simp), secs]
theorem secs_len : ∀ (ps by_ : List (List UInt8)), (secs by_ ps).length = ps.length
  | [], _ => rfl
  | p :: ps, by_ => by rw [secs, List.length_cons, secs_len ps, List.length_cons]
/-- A header, of the scalars so far and the hops that are left. -/
def stg (pad fill : List UInt8) (by_ : List (List UInt8)) (r : List (List UInt8 × HK)) : List UInt8 := xs base9 by_ ++ (listR pad fill r).1 ++ (listR pad fill r).2
theorem stg_parts {pad fill : List UInt8} {by_ : List (List UInt8)} {r : List (List UInt8 × HK)} (hp : pad.length = 200) (hf : fill.length ≤ 200) (hr : ∀ x ∈ r, x.1.length = 24) : (stg pad fill by_ r).length = 248 ∧ (stg pad fill by_ r).take 32 = xs base9 by_ ∧ (stg pad fill by_ r).drop 48 = (listR pad fill r).2 ∧ ((stg pad fill by_ r).drop 32).take 16 = (listR pad fill r).1 := by
  obtain ⟨h1, h2⟩ := listR_len hp hf r hr
  have h3 : (xs base9 by_).length = 32 := (onB_9.xs by_).1
  unfold stg
  generalize xs base9 by_ = a at *
  generalize (listR pad fill r).1 = b at *
  generalize (listR pad fill r).2 = c at *
  refine ⟨by simp [h1, h2, h3], ?_, ?_, ?_⟩
  · rw [List.append_assoc, List.take_append_of_le_length (by omega), List.take_of_length_le (by omega)]
  · rw [List.drop_append, List.drop_of_length_le (by simp [h1, h3]), List.nil_append, List.length_append, h1, h3]; rfl
  · rw [List.append_assoc, List.drop_append, List.drop_of_length_le (by omega), List.nil_append, h3, Nat.sub_self, List.drop_zero, List.take_append_of_le_length (by omega), List.take_of_length_le (by omega)]
theorem shared_stage {priv : List UInt8} (by_ : List (List UInt8)) (h : priv.length = 32) : sharedR priv (xs base9 by_) = (xs (x25519 priv base9) by_, 0) := by
  rw [sharedR_eq h (onB_9.xs by_), xs_comm _ _ onB_9]
theorem xs_snoc (u : List UInt8) (ks : List (List UInt8)) (k : List UInt8) : xs u (ks ++ [k]) = x25519 k (xs u ks) := by
  unfold xs
  rw [List.foldl_append]
  rfl
end Go.Hd
