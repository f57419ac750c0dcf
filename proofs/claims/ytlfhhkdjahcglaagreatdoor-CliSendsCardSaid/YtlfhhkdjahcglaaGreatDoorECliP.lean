/- What a client sends and when: reckoned from its tape alone. -/
namespace Go.Cl
/-- Where the tape stands, the next slots of the four kinds, whether the tape is used up. -/
structure Ct where
  k : Nat
  nx : List Nat
  dry : Bool
/-- The kind whose slot comes next: the first of the least. -/
def firstOf : List Nat → Nat → Nat → Nat → Nat
  | [], _, best, _ => best
  | a :: l, i, best, least => if a < least then firstOf l (i + 1) i a else firstOf l (i + 1) best least
def first (nx : List Nat) : Nat := firstOf nx 0 0 (nx.getD 0 0)
/-- How many bytes of the tape a slot of a kind reads, with the draw of the next one. -/
def needs (way : Nat) (kind : Nat) : Nat := if kind = 0 then 56 + way else if kind = 1 then 40 + way else if kind = 2 then 52 + way else 4
section
variable (n way : Nat) (wait : Nat → Nat → Nat) (to : Nat)
/-- One slot: its kind and time, and what is then; none: nothing more is sent up to that time. -/
def next (c : Ct) : Ct := ⟨c.k + needs way (first c.nx), c.nx.set (first c.nx) (c.nx.getD (first c.nx) 0 + wait (first c.nx) (c.k + needs way (first c.nx) - 4)), c.dry⟩
def run : Nat → Ct → List (Nat × Nat) × Ct
  | 0, c => ([], c)
  | f + 1, c =>
    if c.dry = true ∨ to < c.nx.getD (first c.nx) 0 then ([], c)
    else if n - c.k < needs way (first c.nx) then ([], ⟨c.k, c.nx, true⟩)
    else ((c.nx.getD (first c.nx) 0, first c.nx) :: (run f (next way wait c)).1, (run f (next way wait c)).2)
end
theorem needs_pos (way kind : Nat) : 4 ≤ needs way kind := by
  unfold needs
  split
  · omega
  · split
    · omega
    · split <;> omega
/-- A tick: all that is sent up to a time. -/
def tick (n way : Nat) (wait : Nat → Nat → Nat) (to : Nat) (c : Ct) : List (Nat × Nat) × Ct := run n way wait to (n + 1) c
theorem firstOf_lt : ∀ (l : List Nat) (i best least m : Nat), best < m → i + l.length ≤ m → firstOf l i best least < m
  | [], _, best, _, _, h, _ => h
  | a :: l, i, best, least, m, h, hl => by
    simp only [List.length_cons] at hl
    rw [firstOf]
    split
    · exact firstOf_lt l _ _ _ _ (by omega) (by omega)
    · exact firstOf_lt l _ _ _ _ h (by omega)
theorem first_lt {nx : List Nat} (h : 0 < nx.length) : first nx < nx.length := firstOf_lt nx 0 0 _ _ h (by omega)
end Go.Cl
