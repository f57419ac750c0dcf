/- Texts that are taken piece by piece. -/
import Derived.Test.YtkjaehdfmmcgmaaGreatDoorBM1x169c
namespace Go.Sha

theorem pressAll_append : ∀ (k : Nat) (v : V) (x y : List UInt8), 64 * k ≤ x.length → pressAll k v (x ++ y) = pressAll k v x
  | 0, _, _, _, _ => rfl
  | k + 1, v, x, y, h => by
    simp only [pressAll]
    rw [List.take_append_of_le_length (by omega), List.drop_append_of_le_length (by omega)]
    exact pressAll_append k _ _ _ (by rw [List.length_drop]; omega)
theorem pressAll_succ : ∀ (k : Nat) (v : V) (x : List UInt8), pressAll (k + 1) v x = press (pressAll k v x) ((x.drop (64 * k)).take 64)
  | 0, v, x => rfl
  | k + 1, v, x => by
    rw [pressAll, pressAll_succ k, pressAll, List.drop_drop]
    congr 3
    omega
theorem press_ok (v : V) (b : List UInt8) : (press v b).ok := plus_ok _ _
theorem pressAll_ok : ∀ (k : Nat) {v : V} (x : List UInt8), v.ok → (pressAll k v x).ok
  | 0, _, _, h => h
  | k + 1, v, _, _ => pressAll_ok k _ (press_ok v _)

def hv (x : List UInt8) : V := pressAll (x.length / 64) v0 x
theorem hv_ok (x : List UInt8) : (hv x).ok := pressAll_ok _ _ v0_ok
/-- The block that waits, behind a text. -/
structure Waits (x r : List UInt8) : Prop where
  len : r.length = 64
  is : r.take (x.length % 64) = x.drop (64 * (x.length / 64))

theorem rest_put {x r q : List UInt8} (h : Waits x r) (hq : x.length % 64 + q.length ≤ 64) :
    (r.take (x.length % 64) ++ q ++ r.drop (x.length % 64 + q.length)).length = 64 ∧
    (r.take (x.length % 64) ++ q ++ r.drop (x.length % 64 + q.length)).take (x.length % 64 + q.length) = (x ++ q).drop (64 * (x.length / 64)) := by
  have hl := h.len
  have e1 : (r.take (x.length % 64)).length = x.length % 64 := by rw [List.length_take]; omega
  refine ⟨by rw [List.length_append, List.length_append, e1, List.length_drop]; omega, ?_⟩
  rw [List.take_left' (by rw [List.length_append, e1]), h.is, List.drop_append_of_le_length (by omega)]
theorem rest_more {x r q : List UInt8} (h : Waits x r) (hq : x.length % 64 + q.length < 64) :
    Waits (x ++ q) (r.take (x.length % 64) ++ q ++ r.drop (x.length % 64 + q.length)) ∧ hv (x ++ q) = hv x ∧ (x ++ q).length % 64 = x.length % 64 + q.length := by
  have h1 := rest_put (q := q) h (by omega)
  have e1 : (x ++ q).length % 64 = x.length % 64 + q.length := by rw [List.length_append]; omega
  have e2 : (x ++ q).length / 64 = x.length / 64 := by rw [List.length_append]; omega
  refine ⟨⟨h1.1, by rw [e1, e2]; exact h1.2⟩, ?_, e1⟩
  unfold hv
  rw [e2]
  exact pressAll_append _ _ _ _ (by omega)
theorem rest_full {x r q : List UInt8} (h : Waits x r) (hq : x.length % 64 + q.length = 64) :
    Waits (x ++ q) (r.take (x.length % 64) ++ q ++ r.drop (x.length % 64 + q.length)) ∧ press (hv x) (r.take (x.length % 64) ++ q ++ r.drop (x.length % 64 + q.length)) = hv (x ++ q) ∧ (x ++ q).length % 64 = 0 := by
  have h1 := rest_put (q := q) h (by omega)
  have e1 : (x ++ q).length % 64 = 0 := by rw [List.length_append]; omega
  have e2 : (x ++ q).length / 64 = x.length / 64 + 1 := by rw [List.length_append]; omega
  refine ⟨⟨h1.1, ?_⟩, ?_, e1⟩
  · rw [e1, e2, List.take_zero, List.drop_of_length_le (by rw [List.length_append]; omega)]
  · unfold hv
    rw [e2, pressAll_succ, pressAll_append _ _ _ _ (by omega), ← h1.2]
    obtain ⟨h2, h3⟩ := h1
    generalize r.take (x.length % 64) ++ q ++ r.drop (x.length % 64 + q.length) = z at h2 h3 ⊢
    rw [hq, List.take_take, Nat.min_self, List.take_of_length_le (by omega)]
theorem waits_zero : Waits [] (List.replicate 64 0) := ⟨rfl, rfl⟩
end Go.Sha
