/- A layer over the weakest preconditions of the model: what is known of memory and of the slots, told by rules. -/
import Derived.Test.YtnjgekonoladfaaLgRow
namespace Go.Lg

theorem takeN_take : ∀ (n : Nat) (l : List Value), takeN n (l.take n) = takeN n l
  | 0, l => by simp [takeN]
  | n + 1, [] => by simp
  | n + 1, x :: l => by simp [takeN, takeN_take n l]

theorem partAt_congr {P : Program} {t : TypeId} {n o o' : Nat} {l l' : List Value} (hs : sizeOfT P t = some n) (hn : 0 < n)
    (h : (l.drop o).take n = (l'.drop o').take n) : partAt P t l o = partAt P t l' o' := by
  have h0 : l[o]? = l'[o']? := by
    have := congrArg (·[0]?) h
    simpa [List.getElem?_take, hn] using this
  unfold partAt
  rw [hs]
  cases isAggT P t with
  | none => rfl
  | some b =>
    cases b with
    | true =>
      simp only
      rw [← takeN_take n (l.drop o), ← takeN_take n (l'.drop o'), h]
    | false => simpa using h0

/-- A part of a part. -/
theorem partAt_in {P : Program} {t : TypeId} {n a sz m : Nat} {l r : List Value} (hr : (l.drop a).take sz = r) (hs : sizeOfT P t = some n) (hn : 0 < n) (hm : m + n ≤ sz) :
    partAt P t l (a + m) = partAt P t r m := by
  refine partAt_congr hs hn ?_
  subst hr
  rw [List.drop_take, List.take_take, Nat.min_eq_left (by omega), List.drop_drop]

section
variable {α : Type} {f : α → List Value} {sz : Nat}

theorem flatMap_len : ∀ (xs : List α), (∀ x ∈ xs, (f x).length = sz) → (xs.flatMap f).length = xs.length * sz
  | [], _ => by simp
  | x :: xs, h => by
    have := flatMap_len xs fun y hy => h y (by simp [hy])
    simp only [List.flatMap_cons, List.length_append, h x (by simp), this, List.length_cons, Nat.add_mul]
    omega

theorem flatMap_at : ∀ (xs : List α), (∀ x ∈ xs, (f x).length = sz) → ∀ i (h : i < xs.length), ((xs.flatMap f).drop (i * sz)).take sz = f xs[i]
  | x :: xs, hf, 0, _ => by
    have := hf x (by simp)
    simp only [List.flatMap_cons, Nat.zero_mul, List.drop_zero, List.getElem_cons_zero]
    rw [List.take_append_of_le_length (by omega), List.take_of_length_le (by omega)]
  | x :: xs, hf, i + 1, h => by
    have h1 := hf x (by simp)
    have := flatMap_at xs (fun y hy => hf y (by simp [hy])) i (by simpa using h)
    have e : (i + 1) * sz = (f x).length + i * sz := by rw [Nat.add_mul]; omega
    rw [e, List.flatMap_cons, List.drop_append, List.getElem_cons_succ]
    have e2 : (f x).drop ((f x).length + i * sz) = [] := List.drop_of_length_le (by omega)
    rw [e2, List.nil_append, Nat.add_sub_cancel_left]
    exact this

theorem Reads.elem {S : Ents} {v : Value} {xs : List α} (h : Reads S sz v xs.length (xs.flatMap f)) (hf : ∀ x ∈ xs, (f x).length = sz) (h0 : 0 < xs.length) :
    ∃ b o cap l e fz, v = .slice (some ⟨b, o, none⟩) xs.length cap ∧ (b, cel l e fz) ∈ S ∧ ∀ i (h : i < xs.length), (l.drop (o + i * sz)).take sz = f xs[i] := by
  obtain ⟨hl, h | ⟨b, o, cap, l, e, fz, hv, hm, hle, hx⟩⟩ := h
  · exact absurd h.2 (by omega)
  · refine ⟨b, o, cap, l, e, fz, hv, hm, fun i hi => ?_⟩
    have := flatMap_at xs hf i hi
    rw [← this, ← hx]
    rw [List.drop_take, List.take_take, List.drop_drop, Nat.min_eq_left]
    have : (i + 1) * sz ≤ xs.length * sz := Nat.mul_le_mul_right _ hi
    rw [Nat.add_mul] at this
    omega

theorem list_open {p : α → Prop} : ∀ (rs : List (List Value)), (∀ r ∈ rs, ∃ x, r = f x ∧ p x) → ∃ xs : List α, rs = xs.map f ∧ ∀ x ∈ xs, p x
  | [], _ => ⟨[], rfl, by simp⟩
  | r :: rs, h => by
    obtain ⟨x, rfl, hx⟩ := h r (by simp)
    obtain ⟨xs, rfl, hxs⟩ := list_open rs fun y hy => h y (by simp [hy])
    exact ⟨x :: xs, rfl, by simpa using ⟨hx, hxs⟩⟩

theorem Rd.rows {P : Program} {S : Ents} {t e : TypeId} {v : Value} {p : α → Prop} (ht : P.underlying t = some (.slice e)) (hs : P.cellsOf e = sz) (h : Rd P S t [v])
    (hf : ∀ r, Rd P S e r → ∃ x, r = f x ∧ p x) : ∃ xs : List α, Reads S sz v xs.length (xs.flatMap f) ∧ xs.length * P.bytesOf e ≤ reachBytes ∧ (∀ x ∈ xs, (f x).length = sz) ∧ ∀ x ∈ xs, p x := by
  obtain ⟨v', rs, hv, hr, hw, hc, hrd⟩ := h.open_slice ht
  cases hv
  obtain ⟨xs, rfl, hp⟩ := list_open rs fun r hrm => hf r (hrd r hrm)
  rw [hs, List.length_map] at hr
  rw [List.length_map] at hw
  refine ⟨xs, ?_, hw, fun x hx => ?_, hp⟩
  · rwa [← List.flatMap_def] at hr
  · rw [← hs]; exact hc _ (List.mem_map.2 ⟨x, hx, rfl⟩)
end

theorem Reads.len {S : Ents} {sz k len : Nat} {a : Option Addr} {cap : Nat} {xs : List Value} (h : Reads S sz (.slice a len cap) k xs) : len = k := by
  obtain ⟨_, ⟨⟨a', c', h⟩, rfl⟩ | ⟨b, o, cap', l, e, fz, hv, _⟩⟩ := h
  · cases h; rfl
  · cases hv; rfl
end Go.Lg
