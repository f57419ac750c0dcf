/- What functions of the given program do, one after the other, told by that layer. -/
import Derived.Test.YtkjaehdfmmcgmaaGreatDoorMM4x9f86
import Derived.Test.YtkjaehdfmmcgmaaGreatDoorLgSl
import Derived.Test.YtkjaehdfmmcgmaaGreatDoorProg
namespace Go.Lg
theorem DWp.drop0 {P : Program} {B n : Nat} {ops : Array Oper} {Q : Exit → Env → Ents → Prop} {E : Env} {S S' : Ents} {muts : List Nat} {l : Array Bool} {rest : List Nat} (h : S'.Sublist S) (hc : DWp P B n ops muts l rest [] Q E S') : DWp P B n ops muts l rest [] Q E S :=
 fun hgo a w hS hA => hc ⟨hgo.closed, hgo.ok, hgo.sel, fun _ hx => nomatch hx⟩ a w (hS.sublist h) hA
end Go.Lg
namespace Go.Proofs.E
open Go.Lg Go.Whl
set_option maxRecDepth 100000

abbrev pt (b : Nat) : Value := .pointer (some ⟨b, 0, none⟩)
def tc (t : T) : List Value := [.int .i64 (t.due : Int), .int .i64 t.id, .int .i64 (t.no : Int)]
def tcs (l : List T) : List Value := l.flatMap tc
theorem tcs_append (a b : List T) : tcs (a ++ b) = tcs a ++ tcs b := by simp [tcs]
theorem tcs_one (t : T) : tcs [t] = tc t := by simp [tcs]
def upd {α : Type} (f : Nat → α) (j : Nat) (x : α) : Nat → α := fun i => if i = j then x else f i
theorem upd_same {α : Type} (f : Nat → α) (j : Nat) (x : α) : upd f j x j = x := by simp [upd]
theorem upd_ne {α : Type} (f : Nat → α) {i j : Nat} (x : α) (h : i ≠ j) : upd f j x i = f i := by simp [upd, h]
theorem upd_self {α : Type} (f : Nat → α) (j : Nat) : upd f j (f j) = f := by
 funext i; unfold upd; split <;> simp_all
/-- The cells of a wheel. -/
def wv (v : Nat → Value) (now put many : Nat) : List Value := (List.range 448).map v ++ [.int .i64 (now : Int), .int .i64 (put : Int), .int .i64 (many : Int)]
abbrev wE (p : Nat) (v : Nat → Value) (now put many : Nat) : Nat × Obj := (p, cel (wv v now put many) 142)
section
variable {v : Nat → Value} {now put many o : Nat}
theorem wv_len : (wv v now put many).length = 451 := by simp [wv]
theorem wv_slot {j : Nat} (h : j < 448) (ho : o = j) : (wv v now put many)[o]? = some (v j) := by
 subst ho
 unfold wv
 rw [List.getElem?_append_left (by simp; exact h)]
 simp [h]
theorem wv_now (ho : o = 448) : (wv v now put many)[o]? = some (.int .i64 (now : Int)) := by
 subst ho
 unfold wv
 rw [List.getElem?_append_right (by simp), List.length_map, List.length_range]
 rfl
theorem wv_put (ho : o = 449) : (wv v now put many)[o]? = some (.int .i64 (put : Int)) := by
 subst ho
 unfold wv
 rw [List.getElem?_append_right (by simp), List.length_map, List.length_range]
 rfl
theorem wv_many (ho : o = 450) : (wv v now put many)[o]? = some (.int .i64 (many : Int)) := by
 subst ho
 unfold wv
 rw [List.getElem?_append_right (by simp), List.length_map, List.length_range]
 rfl
theorem wr_one {l : List Value} {i : Nat} {x : Value} (h : i < l.length) : wr l i [x] = l.set i x := by
 unfold wr
 rw [List.set_eq_take_append_cons_drop, if_pos h]
 simp
theorem wv_set_slot {j : Nat} {x : Value} (h : j < 448) (ho : o = j) : wr (wv v now put many) o [x] = wv (upd v j x) now put many := by
 subst ho
 rw [wr_one (by rw [wv_len]; omega)]
 unfold wv
 rw [List.set_append_left _ _ (by simp; exact h)]
 congr 1
 apply List.ext_getElem?
 intro i
 rw [List.getElem?_set]
 by_cases hi : i < 448
 ·by_cases e : o = i
  ·subst e; simp [upd, h]
  ·simp [upd, e, hi, Ne.symm e]
 ·rw [if_neg (by omega), List.getElem?_eq_none (by simp; omega), List.getElem?_eq_none (by simp; omega)]
theorem wv_set_now {x : Nat} (ho : o = 448) : wr (wv v now put many) o [.int .i64 (x : Int)] = wv v x put many := by
 subst ho
 rw [wr_one (by rw [wv_len]; omega)]
 unfold wv
 rw [List.set_append_right _ _ (by simp), List.length_map, List.length_range]
 rfl
theorem wv_set_put {x : Nat} (ho : o = 449) : wr (wv v now put many) o [.int .i64 (x : Int)] = wv v now x many := by
 subst ho
 rw [wr_one (by rw [wv_len]; omega)]
 unfold wv
 rw [List.set_append_right _ _ (by simp), List.length_map, List.length_range]
 rfl
theorem wv_set_many {x : Nat} (ho : o = 450) : wr (wv v now put many) o [.int .i64 (x : Int)] = wv v now put x := by
 subst ho
 rw [wr_one (by rw [wv_len]; omega)]
 unfold wv
 rw [List.set_append_right _ _ (by simp), List.length_map, List.length_range]
 rfl
end

/-- The rows of all slots. -/
def flatE (es : Nat → Ents) : Nat → Ents
 | 0 => []
 | n + 1 => flatE es n ++ es n
theorem flatE_nil : ∀ n, flatE (fun _ => []) n = []
 | 0 => rfl
 | n + 1 => by rw [flatE, flatE_nil n]; rfl
theorem flatE_mem {es : Nat → Ents} {j : Nat} {x : Nat × Obj} (hx : x ∈ es j) : ∀ {n : Nat}, j < n → x ∈ flatE es n
 | 0, h => by omega
 | n + 1, h => by
  unfold flatE
  by_cases e : j = n
  ·subst e; exact List.mem_append_right _ hx
  ·exact List.mem_append_left _ (flatE_mem hx (by omega))
theorem flatE_congr {es es' : Nat → Ents} : ∀ {n : Nat}, (∀ j, j < n → es j = es' j) → flatE es n = flatE es' n
 | 0, _ => rfl
 | n + 1, h => by
  unfold flatE
  rw [flatE_congr fun j hj => h j (by omega), h n (by omega)]
theorem flatE_upd (es : Nat → Ents) {j : Nat} (x : Ents) : ∀ {n : Nat}, j < n → (flatE (upd es j x) n).Perm (x ++ flatE (upd es j []) n)
 | 0, h => by omega
 | n + 1, h => by
  unfold flatE
  by_cases e : j = n
  ·subst e
   rw [upd_same, upd_same, List.append_nil]
   have : flatE (upd es j x) j = flatE (upd es j []) j := flatE_congr fun i hi => by rw [upd_ne _ _ (by omega), upd_ne _ _ (by omega)]
   rw [this]
   exact List.perm_append_comm
  ·rw [upd_ne _ _ (Ne.symm e), upd_ne _ _ (Ne.symm e), ← List.append_assoc]
   exact (flatE_upd es x (by omega)).append_right _
/-- The slots' rows hold the table. -/
def SlotsOk (B : Nat) (tab : Nat → List T) (v : Nat → Value) (es : Nat → Ents) : Prop := ∀ j, j < 448 → Lg.Own B 144 3 (v j) (tab j).length (tcs (tab j)) (es j)
theorem SlotsOk.upd {B : Nat} {tab : Nat → List T} {v : Nat → Value} {es : Nat → Ents} (h : SlotsOk B tab v es) {j : Nat} {l : List T} {x : Value} {e : Ents} (hx : Lg.Own B 144 3 x l.length (tcs l) e) : SlotsOk B (upd tab j l) (upd v j x) (upd es j e) := by
 intro i hi
 by_cases e : i = j
 ·subst e; rw [upd_same, upd_same, upd_same]; exact hx
 ·rw [upd_ne _ _ e, upd_ne _ _ e, upd_ne _ _ e]; exact h i hi
theorem SlotsOk.reads {B : Nat} {tab : Nat → List T} {v : Nat → Value} {es : Nat → Ents} (h : SlotsOk B tab v es) {j : Nat} (hj : j < 448) : Reads (flatE es 448) 3 (v j) (tab j).length (tcs (tab j)) :=
 (h j hj).reads.mono fun _ hx => flatE_mem hx hj
def slotAt (now a : Nat) : Nat := 64 * lev now a + dig a (lev now a)
theorem slotAt_lt (now a : Nat) : slotAt now a < 448 := by
 unfold slotAt
 have := lev_le now a
 have := dig_lt a (lev now a)
 omega
def tabM (now : Nat) (M : List T) (j : Nat) : List T := slot now M (j / 64) (j % 64)
theorem tabM_append (now : Nat) (M : List T) (t : T) : tabM now (M ++ [t]) = upd (tabM now M) (slotAt now t.due) (tabM now M (slotAt now t.due) ++ [t]) := by
 funext j
 have hd := dig_lt t.due (lev now t.due)
 unfold tabM upd slotAt
 rw [slot_append, slot_one]
 split
 ·rename_i h
  obtain ⟨h1, h2⟩ := h
  have e : j = 64 * lev now t.due + dig t.due (lev now t.due) := by rw [h1, h2]; omega
  rw [if_pos e, ← e]
 ·rename_i h
  rw [if_neg (fun e => h (by
   have h1 : lev now t.due = j / 64 := by omega
   have h2 : dig t.due (lev now t.due) = j % 64 := by omega
   exact ⟨h1, by rw [← h1]; exact h2⟩)), List.append_nil]
end Go.Proofs.E
