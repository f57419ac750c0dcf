/- Keys that are taken out of a map one by one: plain lists. -/
import Derived.Test.YtkjaehdfmmcgmaaGreatDoorLgM4xf4e2
namespace Go.Lg
theorem del_keys (k : Int) : ∀ L : List MEnt, (delL k L).map (·.1) = (L.map (·.1)).erase k
  | [] => rfl
  | y :: L => by
    have ih := del_keys k L
    unfold delL
    rw [List.map_cons, List.erase_cons]
    by_cases h : y.1 = k
    · simp [h]
    · have h2 : ¬ (k = y.1) := fun e => h e.symm
      simp [h, h2, ih]
theorem del_sub (k : Int) : ∀ L : List MEnt, (delL k L).Sublist L
  | [] => .refl _
  | y :: L => by
    have ih := del_sub k L
    unfold delL
    split
    · exact List.sublist_cons_self _ _
    · exact ih.cons_cons _
theorem dels_sub : ∀ (tl : List Int) (L : List MEnt), (tl.foldl (fun L k => delL k L) L).Sublist L
  | [], _ => .refl _
  | k :: tl, L => (dels_sub tl (delL k L)).trans (del_sub k L)
theorem dels_keys : ∀ (tl : List Int) (L : List MEnt) (r : List Int), (L.map (·.1)).Perm (tl ++ r) → ((tl.foldl (fun L k => delL k L) L).map (·.1)).Perm r
  | [], _, _, h => h
  | k :: tl, L, r, h => by
    refine dels_keys tl (delL k L) r ?_
    rw [del_keys]
    have := h.erase k
    rwa [List.cons_append, List.erase_cons_head] at this
theorem find_in (k : Int) : ∀ (L : List MEnt) (j : Nat), k ∈ L.map (·.1) → ∃ r, findL k L j = some r ∧ ∃ y ∈ L, r.2 = y.2.1
  | [], _, h => by simp at h
  | y :: L, j, h => by
    unfold findL
    by_cases e : y.1 = k
    · simp [e]
    · rw [List.map_cons, List.mem_cons] at h
      obtain ⟨r, h1, z, h2, h3⟩ := find_in k L (j + 1) (h.resolve_left fun q => e q.symm)
      have e2 : ¬ (k = y.1) := fun q => e q.symm
      exact ⟨r, by simp [e2, h1], z, .tail _ h2, h3⟩
end Go.Lg
