/- What functions of the given program do, one after the other, told by that layer. -/
import Derived.Test.YtdgbbfbgakeaaaaATape7
import Derived.Test.YtdgbbfbgakeaaaaLgMore
namespace Go.Proofs.C
open Go.Lg
set_option maxRecDepth 100000

/-- The cells of whole numbers. -/
def zi (l : List Int) : List Value := l.map fun x => .int .i64 x
theorem zi_length (l : List Int) : (zi l).length = l.length := by simp [zi]
theorem ints_zi (l : List Nat) : ints l = zi (l.map fun (x : Nat) => (x : Int)) := by simp [zi, ints, List.map_map]
theorem zi_one (l : List Int) : (zi l).all (·.oneCell') = true := by
  rw [List.all_eq_true]; intro x hx; simp [zi] at hx; obtain ⟨_, _, rfl⟩ := hx; rfl
theorem zi_append (l k : List Int) : zi (l ++ k) = zi l ++ zi k := by simp [zi]
theorem zi_flat (l : List Int) : (l.flatMap fun z => [Value.int .i64 z]) = zi l := by
  induction l with
  | nil => rfl
  | cons x l ih => simp [zi] at ih ⊢; exact ih
theorem nat_inj {l k : List Nat} : (l.map fun (x : Nat) => (x : Int)) = (k.map fun (x : Nat) => (x : Int)) ↔ l = k := by
  constructor
  · intro h
    induction l generalizing k with
    | nil => cases k <;> simp_all
    | cons x l ih =>
      cases k with
      | nil => simp at h
      | cons y k =>
        simp only [List.map_cons, List.cons.injEq] at h
        rw [ih h.2, Int.ofNat_inj.1 h.1]
  · intro h; rw [h]

theorem _root_.Go.Lg.Reads.form {S : Ents} {sz k : Nat} {v : Value} {xs : List Value} (h : Reads S sz v k xs) : ∃ a c, v = .slice a k c := by
  obtain ⟨_, ⟨⟨a, c, h⟩, rfl⟩ | ⟨b, o, cap, l, e, fz, hv, _⟩⟩ := h
  · exact ⟨a, c, h⟩
  · exact ⟨_, _, hv⟩

/-- A slice of one cell an element: where its elements stand. -/
theorem _root_.Go.Lg.Reads.get1 {S : Ents} {v : Value} {xs : List Value} {k : Nat} (h : Reads S 1 v k xs) (h0 : 0 < k) :
    ∃ b o cap l e fz, v = .slice (some ⟨b, o, none⟩) k cap ∧ (b, cel l e fz) ∈ S ∧ o + k ≤ l.length ∧ ∀ i, i < k → l[o + i * 1]? = xs[i]? := by
  obtain ⟨hl, ⟨_, hk⟩ | ⟨b, o, cap, l, e, fz, hv, hm, hle, hx⟩⟩ := h
  · omega
  · refine ⟨b, o, cap, l, e, fz, hv, hm, by omega, fun i hi => ?_⟩
    rw [← hx, List.getElem?_take, if_pos (by omega), List.getElem?_drop, Nat.mul_one]

theorem zi_get {l : List Int} {i : Nat} {x : Int} (h : l[i]? = some x) : (zi l)[i]? = some (.int .i64 x) := by simp [zi, h]
theorem int_part {l : List Value} {n : Nat} : Lg.partAt Try.prog 3 l n = l[n]? := rfl

section
variable {B : Nat} {S : Ents} {Q : Value → Ents → Prop}

theorem sameInts {a b : Value} {n m : Nat} {l k : List Int} (hl : Reads S 1 a n (zi l)) (hk : Reads S 1 b m (zi k)) (hn : n ≤ lim) (h : Q (.bool (decide (l = k))) S) :
    CallWp Try.prog B 37 #[a, b] Q S := by
  obtain ⟨aa, ac, rfl⟩ := hl.form
  obtain ⟨ba, bc, rfl⟩ := hk.form
  have e1 : l.length = n := by have := hl.1; rw [zi_length] at this; omega
  have e2 : k.length = m := by have := hk.1; rw [zi_length] at this; omega
  unfold lim at hn
  refine CallWp.enter (args := [_, _]) Try.func37 rfl Try.ntmps37 rfl ?_
  refine Wp.seq (Wp.region ?_)
  refine OWp.evs 1 rfl ?_
  refine OWp.nil ?_
  refine Wp.seq ?_
  refine Wp.seq (Wp.region ?_)
  refine OWp.evs 5 rfl ?_
  refine OWp.nil ?_
  refine Wp.cond rfl (fun h1 => ?_) (fun h1 => ?_)
  · have h1 := ndT h1
    refine Wp.seq (Wp.region ?_)
    refine OWp.evs 1 rfl ?_
    refine OWp.nil ?_
    refine Wp.ret ⟨trivial, _, ⟨_, _, rfl, rfl, rfl⟩, ?_⟩
    rw [decide_eq_false (by rintro rfl; omega)] at h; exact h
  have h1 := ndF h1
  obtain rfl : n = m := by omega
  refine Wp.skip ?_
  refine Wp.seq ?_
  refine Wp.seq (Wp.region ?_)
  refine OWp.evs 1 rfl ?_
  refine OWp.nil ?_
  refine Wp.block ?_
  refine Wp.loopS (α := Nat) (fun i => n - i) (fun i => [(5, .int .i64 (i : Int)), (0, .slice aa n ac), (1, .slice ba n bc)]) (fun _ => S) (fun i => i ≤ n ∧ l.take i = k.take i) 0 ?_ (.refl _) ⟨Nat.zero_le _, rfl⟩ ?_
  · exact .cons rfl (.cons rfl (.cons rfl (.nil _)))
  rintro i ⟨hi, he⟩
  refine Wp.seq ?_
  refine Wp.seq (Wp.region ?_)
  refine OWp.evs 4 rfl ?_
  refine OWp.nil ?_
  refine Wp.cond rfl (fun h2 => ?_) (fun h2 => ?_)
  · have h2 := of_decide_eq_true h2
    have hlt : i < n := by omega
    obtain ⟨b1, o1, c1, l1, t1, f1, hv1, hm1, _, hg1⟩ := hl.get1 (by omega)
    obtain ⟨b2, o2, c2, l2, t2, f2, hv2, hm2, _, hg2⟩ := hk.get1 (by omega)
    cases hv1; cases hv2
    have x1 : l[i]? = some l[i] := by simp
    have x2 : k[i]? = some k[i] := by simp
    refine Wp.skip ?_
    refine Wp.seq ?_
    refine Wp.block ?_
    refine Wp.seq (Wp.regionDraw [0, 1, 2, 3, 4, 5, 6, 7, 8] [] rfl (by decide +kernel) ?_)
    refine DWp.evs 2 rfl ?_
    refine DWp.g rfl rfl rfl rfl (Gives.indexAddrSlice (i) rfl rfl rfl rfl rfl rfl (by omega)) ?_
    refine DWp.load (hm1) rfl rfl rfl rfl rfl rfl ((hg1 i hlt).trans (zi_get x1)) ?_
    refine DWp.evs 2 rfl ?_
    refine DWp.g rfl rfl rfl rfl (Gives.indexAddrSlice (i) rfl rfl rfl rfl rfl rfl (by omega)) ?_
    refine DWp.load (hm2) rfl rfl rfl rfl rfl rfl ((hg2 i hlt).trans (zi_get x2)) ?_
    refine DWp.evs 1 rfl ?_
    refine DWp.nil ?_
    refine Wp.cond rfl (fun h3 => ?_) (fun h3 => ?_)
    · have h3 := ndT h3
      refine Wp.seq (Wp.region ?_)
      refine OWp.evs 1 rfl ?_
      refine OWp.nil ?_
      refine Wp.ret ⟨trivial, _, ⟨_, _, rfl, rfl, rfl⟩, ?_⟩
      rw [decide_eq_false (fun e => h3 (by subst e; rfl))] at h; exact h
    have h3 := ndF h3
    refine Wp.skip ?_
    refine Wp.region ?_
    refine OWp.evs 3 rfl ?_
    refine OWp.nil ?_
    refine ⟨i + 1, by omega, ⟨by omega, ?_⟩, ?_, .refl _⟩
    · rw [List.take_add_one, List.take_add_one, he, x1, x2, h3]
    · exact .cons' rfl (int_eq (by rw [i64_id] <;> omega)) (.cons rfl (.cons rfl (.nil _)))
  have h2 := of_decide_eq_false h2
  obtain rfl : i = n := by omega
  refine Wp.exit ?_
  refine Wp.seq (Wp.region ?_)
  refine OWp.evs 1 rfl ?_
  refine OWp.nil ?_
  refine Wp.ret ⟨trivial, _, ⟨_, _, rfl, rfl, rfl⟩, ?_⟩
  rw [decide_eq_true (by rw [← List.take_of_length_le (Nat.le_of_eq e1), he, List.take_of_length_le (Nat.le_of_eq e2)])] at h; exact h
theorem sameNats {a b : Value} {n m : Nat} {l k : List Nat} (hl : Reads S 1 a n (ints l)) (hk : Reads S 1 b m (ints k)) (hn : n ≤ lim) (h : Q (.bool (decide (l = k))) S) :
    CallWp Try.prog B 37 #[a, b] Q S := by
  rw [ints_zi] at hl hk
  refine sameInts hl hk hn ?_
  rw [decide_eq_decide.2 nat_inj]
  exact h
end
end Go.Proofs.C
