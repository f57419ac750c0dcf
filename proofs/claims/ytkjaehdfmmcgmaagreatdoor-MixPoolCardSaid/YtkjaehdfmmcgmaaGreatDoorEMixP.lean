/- Packets that wait in a mix, by their numbers: plain lists, no program. -/
namespace Go.Mx
def pos (l : List Int) : List Nat := (l.filter fun d => decide (0 < d)).map Int.toNat
/-- The time goes on: what is due is told. -/
def tickD (now to : Int) (l : List Int) : List Int := l.map fun d => if now < d ∧ d ≤ to then -1 else d
def wantD (now to : Int) (l : List Int) : Nat := l.countP fun d => decide (now < d ∧ d ≤ to)
def crashD (l : List Int) : List Int := l.map fun d => if d ≠ 0 then -1 else d
end Go.Mx
