/- What functions of the given program do, one after the other, told by that layer. -/
import Derived.Test.YtnjgekonoladfaaWWheelP
/- Timers in the order in which they are told. -/
namespace Go.Whl

def ins (t : T) : List T → List T
  | [] => [t]
  | u :: l => if u.due ≤ t.due then u :: ins t l else t :: u :: l
def srt (M : List T) : List T := M.foldl (fun l t => ins t l) []
abbrev Up (l : List T) : Prop := l.Pairwise fun a b => a.due ≤ b.due

theorem mem_ins {t u : T} : ∀ {l : List T}, u ∈ ins t l ↔ u = t ∨ u ∈ l
  | [] => by simp [ins]
  | v :: l => by
    unfold ins
    split
    · simp only [List.mem_cons, mem_ins (l := l)]
      constructor
      · rintro (h | h | h)
        · exact .inr (.inl h)
        · exact .inl h
        · exact .inr (.inr h)
      · rintro (h | h | h)
        · exact .inr (.inl h)
        · exact .inl h
        · exact .inr (.inr h)
    · simp
theorem ins_up {t : T} : ∀ {l : List T}, Up l → Up (ins t l)
  | [], _ => by simp [ins, Up]
  | v :: l, h => by
    obtain ⟨h1, h2⟩ := List.pairwise_cons.1 h
    unfold ins
    split
    · rename_i hv
      refine List.pairwise_cons.2 ⟨fun x hx => ?_, ins_up h2⟩
      rcases mem_ins.1 hx with rfl | hx
      · exact hv
      · exact h1 x hx
    · rename_i hv
      refine List.pairwise_cons.2 ⟨fun x hx => ?_, h⟩
      rcases List.mem_cons.1 hx with rfl | hx
      · omega
      · have := h1 x hx; omega
theorem foldl_up : ∀ (M l : List T), Up l → Up (M.foldl (fun l t => ins t l) l)
  | [], _, h => h
  | _ :: M, _, h => foldl_up M _ (ins_up h)
theorem srt_up (M : List T) : Up (srt M) := foldl_up M [] List.Pairwise.nil
theorem srt_snoc (M : List T) (t : T) : srt (M ++ [t]) = ins t (srt M) := by simp [srt]
theorem ins_perm (t : T) : ∀ l : List T, (ins t l).Perm (t :: l)
  | [] => .refl _
  | u :: l => by
    unfold ins
    split
    · exact ((ins_perm t l).cons u).trans (.swap _ _ _)
    · exact .refl _
theorem srt_perm (M : List T) : (srt M).Perm M := by
  suffices h : ∀ (M l : List T), (M.foldl (fun l t => ins t l) l).Perm (l ++ M) from h M []
  intro M
  induction M with
  | nil => intro l; simp
  | cons t M ih =>
    intro l
    refine (ih _).trans ?_
    refine ((ins_perm t l).append_right M).trans ?_
    exact List.perm_middle.symm
theorem mem_srt {M : List T} {t : T} : t ∈ srt M ↔ t ∈ M := (srt_perm M).mem_iff
theorem srt_len (M : List T) : (srt M).length = M.length := (srt_perm M).length_eq
theorem srt_nil {M : List T} : srt M = [] ↔ M = [] := by
  constructor
  · intro h; have := srt_len M; rw [h] at this; exact List.eq_nil_of_length_eq_zero this.symm
  · rintro rfl; rfl

theorem ins_late {t : T} : ∀ {l : List T}, (∀ u ∈ l, u.due ≤ t.due) → ins t l = l ++ [t]
  | [], _ => rfl
  | u :: l, h => by
    unfold ins
    rw [if_pos (h u (by simp)), ins_late fun v hv => h v (by simp [hv])]
    rfl
theorem ins_early {t : T} {l : List T} (h : ∀ u ∈ l, t.due < u.due) : ins t l = t :: l := by
  cases l with
  | nil => rfl
  | cons u l => unfold ins; rw [if_neg (by have := h u (by simp); omega)]
theorem ins_cons (t u : T) (l : List T) : ins t (u :: l) = if u.due ≤ t.due then u :: ins t l else t :: u :: l := rfl
theorem filter_ins (p : T → Bool) (t : T) : ∀ {l : List T}, Up l → (ins t l).filter p = if p t then ins t (l.filter p) else l.filter p
  | [], _ => by unfold ins; cases h : p t <;> simp [h]
  | u :: l, hu => by
    obtain ⟨h1, h2⟩ := List.pairwise_cons.1 hu
    have ih := filter_ins p t h2
    rw [ins_cons]
    split
    · rename_i hle
      rw [List.filter_cons, List.filter_cons, ih]
      cases hp : p u with
      | true =>
        cases ht : p t with
        | true => simp [ins_cons, hle]
        | false => simp
      | false => cases ht : p t <;> simp
    · rename_i hle
      rw [List.filter_cons]
      cases ht : p t with
      | true =>
        rw [if_pos rfl, if_pos rfl, ins_early]
        intro v hv
        rcases List.mem_cons.1 (List.mem_filter.1 hv).1 with rfl | hv
        · omega
        · have := h1 v hv; omega
      | false => simp
theorem srt_filter (p : T → Bool) (M : List T) : srt (M.filter p) = (srt M).filter p := by
  suffices h : ∀ (M l : List T), Up l → (M.filter p).foldl (fun l t => ins t l) (l.filter p) = (M.foldl (fun l t => ins t l) l).filter p from h M [] List.Pairwise.nil
  intro M
  induction M with
  | nil => intro l _; rfl
  | cons t M ih =>
    intro l hl
    rw [List.foldl_cons, ← ih _ (ins_up hl), filter_ins p t hl, List.filter_cons]
    cases p t <;> simp
theorem srt_same {M : List T} {m : Nat} (h : ∀ t ∈ M, t.due = m) : srt M = M := by
  suffices hh : ∀ (M l : List T), (∀ t ∈ M, t.due = m) → (∀ t ∈ l, t.due = m) → M.foldl (fun l t => ins t l) l = l ++ M from hh M [] h (by simp)
  intro M
  induction M with
  | nil => intro l _ _; simp
  | cons t M ih =>
    intro l h1 h2
    rw [List.foldl_cons, ins_late (fun u hu => by rw [h2 u hu, h1 t (by simp)]; exact Nat.le_refl _), ih _ (fun u hu => h1 u (by simp [hu])) (by
      intro u hu
      rcases List.mem_append.1 hu with hu | hu
      · exact h2 u hu
      · rw [List.mem_singleton.1 hu]; exact h1 t (by simp))]
    simp
theorem filter_due (M : List T) (m : Nat) : M.filter (·.due == m) = (srt M).filter (·.due == m) := by
  rw [← srt_filter, srt_same (m := m)]
  intro t ht
  simpa using (List.mem_filter.1 ht).2

/-- The earliest ones go ahead. -/
theorem split_first {m to : Nat} (hm : m ≤ to) : ∀ {l : List T}, Up l → (∀ t ∈ l, m ≤ t.due) →
    l.filter (fun t => decide (t.due ≤ to)) = l.filter (·.due == m) ++ (l.filter (fun t => !(t.due == m))).filter (fun t => decide (t.due ≤ to))
  | [], _, _ => rfl
  | u :: l, hu, hl => by
    obtain ⟨h1, h2⟩ := List.pairwise_cons.1 hu
    by_cases e : u.due = m
    · have ih := split_first hm h2 fun t ht => hl t (by simp [ht])
      have e1 : (u.due == m) = true := by simp [e]
      have e2 : decide (u.due ≤ to) = true := by simp [e, hm]
      rw [List.filter_cons_of_pos (by exact e2), List.filter_cons_of_pos (by exact e1), List.filter_cons_of_neg (by simp [e1]), ih]
      rfl
    · have hgt : ∀ t ∈ u :: l, m < t.due := by
        intro t ht
        have hu0 := hl u (by simp)
        rcases List.mem_cons.1 ht with rfl | ht
        · omega
        · have := h1 t ht; omega
      have e1 : (u :: l).filter (·.due == m) = [] := by
        rw [List.filter_eq_nil_iff]
        intro t ht
        have := hgt t ht
        simp; omega
      have e2 : (u :: l).filter (fun t => !(t.due == m)) = u :: l := by
        rw [List.filter_eq_self]
        intro t ht
        have := hgt t ht
        simp; omega
      rw [e1, e2]; rfl

/-- What is told up to a time, and what is left. -/
def told (M : List T) (to : Nat) : List Int := ((srt M).filter fun t => decide (t.due ≤ to)).map (·.id)
def left (M : List T) (to : Nat) : List T := M.filter fun t => decide (to < t.due)
theorem told_step {M : List T} {m to : Nat} (hm : m ≤ to) (hl : ∀ t ∈ M, m ≤ t.due) :
    told M to = (M.filter (·.due == m)).map (·.id) ++ told (M.filter fun t => !(t.due == m)) to := by
  unfold told
  rw [split_first hm (srt_up M) (fun t ht => hl t (mem_srt.1 ht)), List.map_append, ← filter_due, ← srt_filter]
theorem told_none {M : List T} {to : Nat} (h : ∀ t ∈ M, to < t.due) : told M to = [] := by
  unfold told
  have : (srt M).filter (fun t => decide (t.due ≤ to)) = [] := by
    rw [List.filter_eq_nil_iff]
    intro t ht
    have := h t (mem_srt.1 ht)
    simp; omega
  rw [this]; rfl
theorem left_step {M : List T} {m to : Nat} (hm : m ≤ to) : left (M.filter fun t => !(t.due == m)) to = left M to := by
  unfold left
  rw [List.filter_filter]
  apply List.filter_congr
  intro t _
  by_cases h : to < t.due
  · have : t.due ≠ m := by omega
    simp [h, this]
  · simp [h]
theorem left_all {M : List T} {to : Nat} (h : ∀ t ∈ M, to < t.due) : left M to = M := by
  unfold left
  rw [List.filter_eq_self]
  intro t ht
  simp [h t ht]
end Go.Whl
