/- What functions of the given program do, one after the other, told by that layer. -/
import Derived.Test.YtlfhhkdjahcglaaGreatDoorKM8x1aa8
import Derived.Test.YtlfhhkdjahcglaaGreatDoorKM10x67fe
import Derived.Test.YtlfhhkdjahcglaaGreatDoorLgM5xae9c
/- Clone, IndexFunc, ContainsFunc over rows of several kinds (printed by gx.py). -/
namespace Go.Proofs.D
open Go.Lg Go.Sha Go.Hd Go.Cv
open Go.Proofs.C (Hop hopP hopB parse pathE encB tp word TIn Nd ndc St stc TownOk HostOf)
set_option maxRecDepth 100000
abbrev Slot := List UInt8 × List UInt8
def slc (x : Slot) : List Value := [.string (str x.1), .string (str x.2)]
theorem sl_flat (l : List Slot) : ∀ x ∈ l, (slc x).length = 2 := fun _ _ => rfl
structure Lp where
 id : List UInt8
 at_ : Int
 came : Bool
def Lp.cells (x : Lp) : List Value := [.string (str x.id), .int .i64 x.at_, .bool x.came]
theorem lp_flat (l : List Lp) : ∀ x ∈ l, (Lp.cells x).length = 3 := fun _ _ => rfl
theorem flat_one {α : Type} {f : α → List Value} (hf : ∀ x, (f x).all (·.oneCell') = true) : ∀ l : List α, (l.flatMap f).all (·.oneCell') = true
 | [] => rfl
 | x :: l => by rw [List.flatMap_cons, List.all_append, hf x, flat_one hf l]; rfl
theorem ndc_one (x : Nd) : (ndc x).all (·.oneCell') = true := rfl
theorem stc_one (x : St) : (stc x).all (·.oneCell') = true := rfl
section
variable {B : Nat} {S R : Ents} {Q : Value → Ents → Prop}

theorem cloneNdC {v : Value} {k : Nat} {xs : List Value} (hl : Reads S 2 v k xs) (h1 : xs.all (·.oneCell') = true) (hk : k * 24 ≤ 140737488355328)
    (H : ∀ v' es', Lg.Own B 135 2 v' k xs es' → Q v' (es' ++ S)) : CallWp Tryz.prog B 60 #[v] Q S := by
  obtain ⟨aa, ac, rfl⟩ := hl.form
  refine Yx (args := [_]) Tryz.func60 Tryz.ntmps60 ?_
  refine Yn 1 rfl ?_
  refine Wp.seq ?_
  refine Yn 2 rfl ?_
  refine Wp.cond rfl (fun h0 => ?_) (fun h0 => ?_)
  · skip
    obtain rfl : aa = none := by simpa using h0
    obtain rfl : k = 0 := by obtain ⟨_, ⟨_, h⟩ | ⟨_, _, _, _, _, _, h, _⟩⟩ := hl
                             · exact h
                             · cases h
    obtain rfl : xs = [] := List.eq_nil_of_length_eq_zero (by have := hl.1; omega)
    refine Yn 1 rfl ?_
    refine Wp.ret ⟨trivial, _, ⟨_, _, rfl, rfl, rfl⟩, ?_⟩
    exact H _ [] (Own.nil _ _ _)
  refine Wp.skip ?_
  refine Yq ?_
  refine OWp.step rfl (Step.buildSlice rfl rfl rfl ?_); intro L hBL hLL
  refine Ye 1 rfl ?_
  refine OWp.step rfl (Step.append (e := 135) (es := [(L, cel [] 135)]) (R := S) rfl rfl rfl rfl rfl rfl (by decide) rfl rfl (fun _ h => h) (Own.row hBL rfl (by decide)) (hl.mono fun x hx => .tail _ hx) h1 (by show (0 + k) * 24 ≤ _; omega) (by unfold maxLen; omega) ?_)
  intro v' es' ho _
  refine Yz 1 rfl ?_
  refine Wp.ret ⟨trivial, _, ⟨_, _, rfl, rfl, rfl⟩, ?_⟩
  rw [Nat.zero_add] at ho; exact H v' es' ho
theorem cloneStC {v : Value} {k : Nat} {xs : List Value} (hl : Reads S 2 v k xs) (h1 : xs.all (·.oneCell') = true) (hk : k * 16 ≤ 140737488355328)
    (H : ∀ v' es', Lg.Own B 137 2 v' k xs es' → Q v' (es' ++ S)) : CallWp Tryz.prog B 61 #[v] Q S := by
  obtain ⟨aa, ac, rfl⟩ := hl.form
  refine Yx (args := [_]) Tryz.func61 Tryz.ntmps61 ?_
  refine Yn 1 rfl ?_
  refine Wp.seq ?_
  refine Yn 2 rfl ?_
  refine Wp.cond rfl (fun h0 => ?_) (fun h0 => ?_)
  · skip
    obtain rfl : aa = none := by simpa using h0
    obtain rfl : k = 0 := by obtain ⟨_, ⟨_, h⟩ | ⟨_, _, _, _, _, _, h, _⟩⟩ := hl
                             · exact h
                             · cases h
    obtain rfl : xs = [] := List.eq_nil_of_length_eq_zero (by have := hl.1; omega)
    refine Yn 1 rfl ?_
    refine Wp.ret ⟨trivial, _, ⟨_, _, rfl, rfl, rfl⟩, ?_⟩
    exact H _ [] (Own.nil _ _ _)
  refine Wp.skip ?_
  refine Yq ?_
  refine OWp.step rfl (Step.buildSlice rfl rfl rfl ?_); intro L hBL hLL
  refine Ye 1 rfl ?_
  refine OWp.step rfl (Step.append (e := 137) (es := [(L, cel [] 137)]) (R := S) rfl rfl rfl rfl rfl rfl (by decide) rfl rfl (fun _ h => h) (Own.row hBL rfl (by decide)) (hl.mono fun x hx => .tail _ hx) h1 (by show (0 + k) * 16 ≤ _; omega) (by unfold maxLen; omega) ?_)
  intro v' es' ho _
  refine Yz 1 rfl ?_
  refine Wp.ret ⟨trivial, _, ⟨_, _, rfl, rfl, rfl⟩, ?_⟩
  rw [Nat.zero_add] at ho; exact H v' es' ho
theorem cloneStrN (H : Q (.slice none 0 0) S) : CallWp Tryz.prog B 127 #[.slice none 0 0] Q S := by
 refine Yx (args := [_]) Tryz.func127 Tryz.ntmps127 ?_
 refine Yn 1 rfl ?_
 refine Wp.seq ?_
 refine Yn 2 rfl ?_
 refine Cy rfl ?_
 refine Yn 1 rfl ?_
 refine Wp.ret ⟨trivial, _, ⟨_, _, rfl, rfl, rfl⟩, ?_⟩
 exact H
theorem cloneSlN (H : Q (.slice none 0 0) S) : CallWp Tryz.prog B 128 #[.slice none 0 0] Q S := by
 refine Yx (args := [_]) Tryz.func128 Tryz.ntmps128 ?_
 refine Yn 1 rfl ?_
 refine Wp.seq ?_
 refine Yn 2 rfl ?_
 refine Cy rfl ?_
 refine Yn 1 rfl ?_
 refine Wp.ret ⟨trivial, _, ⟨_, _, rfl, rfl, rfl⟩, ?_⟩
 exact H
theorem ixStrC {v : Value} {n : Nat} {l : List (List UInt8)} {g : FuncId} {bnd : Array Value} {f : (List UInt8) → Bool} (hc : callable Tryz.prog g = true) (hl : Reads S 1 v n (strs l)) (hn : l.length = n) (hm : n ≤ 140737488355328)
  (hf : ∀ x ∈ l, ∀ Q' : Value → Ents → Prop, Q' (.bool (f x)) S → CallWp Tryz.prog B g (bnd.toList ++ [Value.string (str x)] ++ []).toArray Q' S)
  (h0 : (∀ x ∈ l, f x = false) → Q (.int .i64 (-1)) S)
  (h1 : ∀ j (hj : j < l.length), (∀ i (hi : i < j), f l[i] = false) → f l[j] = true → Q (.int .i64 (j : Int)) S) :
  CallWp Tryz.prog B 155 #[v, .func (.func g) bnd #[]] Q S := by
 obtain ⟨aa, ac, rfl⟩ := hl.form
 subst hn
 refine Yx (args := [_, _]) Tryz.func155 Tryz.ntmps155 ?_
 refine Yn 1 rfl ?_
 refine Wp.seq ?_
 refine Yn 3 rfl ?_
 refine Wp.block ?_
 refine Wp.loopS (α := Nat) (fun i => l.length - i) (fun i => [(8, .int .i64 (i : Int)), (7, .int .i64 (l.length : Int)), (0, .slice aa l.length ac), (1, .func (.func g) bnd #[])]) (fun _ => S) (fun i => i ≤ l.length ∧ ∀ k (hk : k < l.length), k < i → f l[k] = false) 0 ?_ (.refl _) ⟨Nat.zero_le _, fun _ _ h => by omega⟩ ?_
 ·exact .cons rfl (.cons rfl (.cons rfl (.cons rfl (.nil _))))
 rintro i ⟨hi, he⟩
 refine Yn 1 rfl ?_
 refine Wp.seq ?_
 refine Wp.cond rfl (fun h2 => ?_) (fun h2 => ?_)
 ·have h2 := of_decide_eq_true h2
  have hlt : i < l.length := by omega
  obtain ⟨b, o, cap', l', e, fz, hv, hm', _, hg'⟩ := hl.get1 (by omega)
  cases hv
  have x1 : l[i]? = some l[i] := by simp
  refine Wp.skip ?_
  refine Wp.seq ?_
  refine Wp.block ?_
  refine Yn 2 rfl ?_
  refine Yg 3 rfl ?_
  refine OWp.g rfl rfl (Gives.indexAddrSlice (i) rfl rfl rfl rfl rfl rfl (by omega)) ?_
  refine OWp.load (hm') rfl rfl rfl rfl ((hg' i hlt).trans (by rw [strs, List.getElem?_map, x1]; rfl)) ?_
  refine OWp.step rfl (Step.callB rfl rfl rfl rfl rfl hc (hf l[i] (List.getElem_mem hlt) _ ?_))
  generalize hb : f l[i] = b
  cases b
  ·skip
   refine OWp.nil ?_
   refine Cn rfl ?_
   refine Wp.skip ?_
   refine Wp.region ?_
   refine Yz 2 rfl ?_
   refine ⟨i + 1, by omega, ⟨by omega, fun k hk hki => ?_⟩, ?_, .refl _⟩
   ·by_cases e : k = i
    ·subst e; exact hb
    ·exact he k hk (by omega)
   ·exact .cons' rfl (int_eq (by rw [i64_id] <;> omega)) (.cons rfl (.cons rfl (.cons rfl (.nil _))))
  refine OWp.nil ?_
  refine Cy rfl ?_
  refine Yn 2 rfl ?_
  refine Wp.ret ⟨trivial, _, ⟨_, _, rfl, rfl, rfl⟩, ?_⟩
  exact h1 i hlt (fun k hk => he k (by omega) hk) hb
 have h2 := of_decide_eq_false h2
 refine Wp.exit ?_
 refine Yn 1 rfl ?_
 refine Wp.ret ⟨trivial, _, ⟨_, _, rfl, rfl, rfl⟩, ?_⟩
 refine h0 fun x hx => ?_
 obtain ⟨k, hk, rfl⟩ := List.mem_iff_getElem.1 hx
 exact he k hk (by omega)
theorem hasStrC {v : Value} {n : Nat} {l : List (List UInt8)} {g : FuncId} {bnd : Array Value} {f : (List UInt8) → Bool} (hc : callable Tryz.prog g = true) (hl : Reads S 1 v n (strs l)) (hn : l.length = n) (hm : n ≤ 140737488355328)
  (hf : ∀ x ∈ l, ∀ Q' : Value → Ents → Prop, Q' (.bool (f x)) S → CallWp Tryz.prog B g (bnd.toList ++ [Value.string (str x)] ++ []).toArray Q' S) (h : Q (.bool (l.any f)) S) :
  CallWp Tryz.prog B 120 #[v, .func (.func g) bnd #[]] Q S := by
 refine Yx (args := [_, _]) Tryz.func120 Tryz.ntmps120 ?_
 refine Yn 1 rfl ?_
 refine Yg 2 rfl ?_
 refine Yc rfl rfl (ixStrC hc hl hn hm hf ?_ ?_)
 intro h0
 ·skip
  refine Yz 2 rfl ?_
  refine Wp.ret ⟨trivial, _, ⟨_, _, rfl, rfl, rfl⟩, ?_⟩
  rw [show l.any f = false from List.any_eq_false.2 fun x hx => by simp [h0 x hx]] at h
  exact h
 intro j hj _ hj1
 refine Yz 2 rfl ?_
 refine Wp.ret ⟨trivial, _, ⟨_, _, rfl, rfl, rfl⟩, ?_⟩
 rw [show l.any f = true from List.any_eq_true.2 ⟨l[j], List.getElem_mem hj, hj1⟩] at h
 rw [decide_eq_true (by omega)]
 exact h
theorem ixSlC {v : Value} {n : Nat} {l : List Slot} {g : FuncId} {bnd : Array Value} {f : Slot → Bool} (hc : callable Tryz.prog g = true) (hl : Reads S 2 v n (l.flatMap slc)) (hn : l.length = n) (hm : n ≤ 140737488355328)
  (hf : ∀ x ∈ l, ∀ Q' : Value → Ents → Prop, Q' (.bool (f x)) S → CallWp Tryz.prog B g (bnd.toList ++ [Value.agg (slc x).toArray] ++ []).toArray Q' S)
  (h0 : (∀ x ∈ l, f x = false) → Q (.int .i64 (-1)) S)
  (h1 : ∀ j (hj : j < l.length), (∀ i (hi : i < j), f l[i] = false) → f l[j] = true → Q (.int .i64 (j : Int)) S) :
  CallWp Tryz.prog B 154 #[v, .func (.func g) bnd #[]] Q S := by
 obtain ⟨aa, ac, rfl⟩ := hl.form
 subst hn
 refine Yx (args := [_, _]) Tryz.func154 Tryz.ntmps154 ?_
 refine Yn 1 rfl ?_
 refine Wp.seq ?_
 refine Yn 3 rfl ?_
 refine Wp.block ?_
 refine Wp.loopS (α := Nat) (fun i => l.length - i) (fun i => [(8, .int .i64 (i : Int)), (7, .int .i64 (l.length : Int)), (0, .slice aa l.length ac), (1, .func (.func g) bnd #[])]) (fun _ => S) (fun i => i ≤ l.length ∧ ∀ k (hk : k < l.length), k < i → f l[k] = false) 0 ?_ (.refl _) ⟨Nat.zero_le _, fun _ _ h => by omega⟩ ?_
 ·exact .cons rfl (.cons rfl (.cons rfl (.cons rfl (.nil _))))
 rintro i ⟨hi, he⟩
 refine Yn 1 rfl ?_
 refine Wp.seq ?_
 refine Wp.cond rfl (fun h2 => ?_) (fun h2 => ?_)
 ·have h2 := of_decide_eq_true h2
  have hlt : i < l.length := by omega
  obtain ⟨b, o, cap', l', e, fz, hv, hm', hat⟩ := hl.elem (sz := 2) (sl_flat l) (by omega)
  cases hv
  refine Wp.skip ?_
  refine Wp.seq ?_
  refine Wp.block ?_
  refine Yn 2 rfl ?_
  refine Yg 3 rfl ?_
  refine OWp.g rfl rfl (Gives.indexAddrSlice (i) rfl rfl rfl rfl rfl rfl (by omega)) ?_
  refine OWp.load (hm') rfl rfl rfl rfl (partAt_agg (hat i hlt) rfl rfl rfl) ?_
  refine OWp.step rfl (Step.callB rfl rfl rfl rfl rfl hc (hf l[i] (List.getElem_mem hlt) _ ?_))
  generalize hb : f l[i] = b
  cases b
  ·skip
   refine OWp.nil ?_
   refine Cn rfl ?_
   refine Wp.skip ?_
   refine Wp.region ?_
   refine Yz 2 rfl ?_
   refine ⟨i + 1, by omega, ⟨by omega, fun k hk hki => ?_⟩, ?_, .refl _⟩
   ·by_cases e : k = i
    ·subst e; exact hb
    ·exact he k hk (by omega)
   ·exact .cons' rfl (int_eq (by rw [i64_id] <;> omega)) (.cons rfl (.cons rfl (.cons rfl (.nil _))))
  refine OWp.nil ?_
  refine Cy rfl ?_
  refine Yn 2 rfl ?_
  refine Wp.ret ⟨trivial, _, ⟨_, _, rfl, rfl, rfl⟩, ?_⟩
  exact h1 i hlt (fun k hk => he k (by omega) hk) hb
 have h2 := of_decide_eq_false h2
 refine Wp.exit ?_
 refine Yn 1 rfl ?_
 refine Wp.ret ⟨trivial, _, ⟨_, _, rfl, rfl, rfl⟩, ?_⟩
 refine h0 fun x hx => ?_
 obtain ⟨k, hk, rfl⟩ := List.mem_iff_getElem.1 hx
 exact he k hk (by omega)
theorem hasSlC {v : Value} {n : Nat} {l : List Slot} {g : FuncId} {bnd : Array Value} {f : Slot → Bool} (hc : callable Tryz.prog g = true) (hl : Reads S 2 v n (l.flatMap slc)) (hn : l.length = n) (hm : n ≤ 140737488355328)
  (hf : ∀ x ∈ l, ∀ Q' : Value → Ents → Prop, Q' (.bool (f x)) S → CallWp Tryz.prog B g (bnd.toList ++ [Value.agg (slc x).toArray] ++ []).toArray Q' S) (h : Q (.bool (l.any f)) S) :
  CallWp Tryz.prog B 118 #[v, .func (.func g) bnd #[]] Q S := by
 refine Yx (args := [_, _]) Tryz.func118 Tryz.ntmps118 ?_
 refine Yn 1 rfl ?_
 refine Yg 2 rfl ?_
 refine Yc rfl rfl (ixSlC hc hl hn hm hf ?_ ?_)
 intro h0
 ·skip
  refine Yz 2 rfl ?_
  refine Wp.ret ⟨trivial, _, ⟨_, _, rfl, rfl, rfl⟩, ?_⟩
  rw [show l.any f = false from List.any_eq_false.2 fun x hx => by simp [h0 x hx]] at h
  exact h
 intro j hj _ hj1
 refine Yz 2 rfl ?_
 refine Wp.ret ⟨trivial, _, ⟨_, _, rfl, rfl, rfl⟩, ?_⟩
 rw [show l.any f = true from List.any_eq_true.2 ⟨l[j], List.getElem_mem hj, hj1⟩] at h
 rw [decide_eq_true (by omega)]
 exact h
theorem ixLpC {v : Value} {n : Nat} {l : List Lp} {g : FuncId} {bnd : Array Value} {f : Lp → Bool} (hc : callable Tryz.prog g = true) (hl : Reads S 3 v n (l.flatMap Lp.cells)) (hn : l.length = n) (hm : n ≤ 140737488355328)
  (hf : ∀ x ∈ l, ∀ Q' : Value → Ents → Prop, Q' (.bool (f x)) S → CallWp Tryz.prog B g (bnd.toList ++ [Value.agg (Lp.cells x).toArray] ++ []).toArray Q' S)
  (h0 : (∀ x ∈ l, f x = false) → Q (.int .i64 (-1)) S)
  (h1 : ∀ j (hj : j < l.length), (∀ i (hi : i < j), f l[i] = false) → f l[j] = true → Q (.int .i64 (j : Int)) S) :
  CallWp Tryz.prog B 156 #[v, .func (.func g) bnd #[]] Q S := by
 obtain ⟨aa, ac, rfl⟩ := hl.form
 subst hn
 refine Yx (args := [_, _]) Tryz.func156 Tryz.ntmps156 ?_
 refine Yn 1 rfl ?_
 refine Wp.seq ?_
 refine Yn 3 rfl ?_
 refine Wp.block ?_
 refine Wp.loopS (α := Nat) (fun i => l.length - i) (fun i => [(8, .int .i64 (i : Int)), (7, .int .i64 (l.length : Int)), (0, .slice aa l.length ac), (1, .func (.func g) bnd #[])]) (fun _ => S) (fun i => i ≤ l.length ∧ ∀ k (hk : k < l.length), k < i → f l[k] = false) 0 ?_ (.refl _) ⟨Nat.zero_le _, fun _ _ h => by omega⟩ ?_
 ·exact .cons rfl (.cons rfl (.cons rfl (.cons rfl (.nil _))))
 rintro i ⟨hi, he⟩
 refine Yn 1 rfl ?_
 refine Wp.seq ?_
 refine Wp.cond rfl (fun h2 => ?_) (fun h2 => ?_)
 ·have h2 := of_decide_eq_true h2
  have hlt : i < l.length := by omega
  obtain ⟨b, o, cap', l', e, fz, hv, hm', hat⟩ := hl.elem (sz := 3) (lp_flat l) (by omega)
  cases hv
  refine Wp.skip ?_
  refine Wp.seq ?_
  refine Wp.block ?_
  refine Yn 2 rfl ?_
  refine Yg 3 rfl ?_
  refine OWp.g rfl rfl (Gives.indexAddrSlice (i) rfl rfl rfl rfl rfl rfl (by omega)) ?_
  refine OWp.load (hm') rfl rfl rfl rfl (partAt_agg (hat i hlt) rfl rfl rfl) ?_
  refine OWp.step rfl (Step.callB rfl rfl rfl rfl rfl hc (hf l[i] (List.getElem_mem hlt) _ ?_))
  generalize hb : f l[i] = b
  cases b
  ·skip
   refine OWp.nil ?_
   refine Cn rfl ?_
   refine Wp.skip ?_
   refine Wp.region ?_
   refine Yz 2 rfl ?_
   refine ⟨i + 1, by omega, ⟨by omega, fun k hk hki => ?_⟩, ?_, .refl _⟩
   ·by_cases e : k = i
    ·subst e; exact hb
    ·exact he k hk (by omega)
   ·exact .cons' rfl (int_eq (by rw [i64_id] <;> omega)) (.cons rfl (.cons rfl (.cons rfl (.nil _))))
  refine OWp.nil ?_
  refine Cy rfl ?_
  refine Yn 2 rfl ?_
  refine Wp.ret ⟨trivial, _, ⟨_, _, rfl, rfl, rfl⟩, ?_⟩
  exact h1 i hlt (fun k hk => he k (by omega) hk) hb
 have h2 := of_decide_eq_false h2
 refine Wp.exit ?_
 refine Yn 1 rfl ?_
 refine Wp.ret ⟨trivial, _, ⟨_, _, rfl, rfl, rfl⟩, ?_⟩
 refine h0 fun x hx => ?_
 obtain ⟨k, hk, rfl⟩ := List.mem_iff_getElem.1 hx
 exact he k hk (by omega)
end
end Go.Proofs.D

/- Short digests; strings laid end to end. -/
namespace Go.Proofs.D
open Go.Lg Go.Sha Go.Hd Go.Cv
open Go.Proofs.C (tp)
set_option maxRecDepth 100000
/-- How long the first texts are. -/
def ln (l : List (List UInt8)) (i : Nat) : Nat := (l.take i).flatten.length
theorem ln_succ {l : List (List UInt8)} {i : Nat} (h : i < l.length) : ln l (i + 1) = ln l i + l[i].length := by
 unfold ln
 rw [List.take_succ_eq_append_getElem h, List.flatten_append, List.length_append]
 simp
theorem ln_le (l : List (List UInt8)) (i : Nat) : ln l i ≤ l.flatten.length := by
 unfold ln
 conv => rhs; rw [← List.take_append_drop i l, List.flatten_append, List.length_append]
 omega
theorem flat_succ {l : List (List UInt8)} {i : Nat} (h : i < l.length) : (l.take (i + 1)).flatten = (l.take i).flatten ++ l[i] := by
 rw [List.take_succ_eq_append_getElem h, List.flatten_append]
 simp
section
variable {B : Nat} {S R : Ents} {Q : Value → Ents → Prop}
theorem shortC {v : Value} {n : Nat} {l : List (List UInt8)} {m : Nat} (hl : Reads S 1 v n (strs l)) (hn : n ≤ 140737488355328) (hk : KsIn S) (ht : l.flatten.length + 100 ≤ big) (h1 : 1 ≤ m) (h2 : m ≤ 32) (H : Q (.tuple #[.string (str ((sha l.flatten).take m)), .int .i64 0]) S) :
  CallWp Tryz.prog B 126 #[.int .i64 (m : Int), v] Q S := by
 refine Yx (args := [_, _]) Tryz.func126 Tryz.ntmps126 ?_
 refine Yn 2 rfl ?_
 refine Wp.seq ?_
 refine Yg 3 rfl ?_
 refine Dt 8 rfl (by omega) fun cc1 => ?_
 refine Yz 3 rfl ?_
 refine Ct rfl (by omega) fun cc2 => ?_
 refine Wp.skip ?_
 refine Yg 1 rfl ?_
 refine Yc rfl rfl (sumC hl hn hk ht ?_)
 refine Ye 1 rfl ?_
 refine OWp.g rfl rfl (Gives.sliceStr (l := 0) (h' := m) rfl rfl rfl rfl ⟨_, _, rfl, rfl⟩ (by omega) (by rw [sha_len]; omega)) ?_
 refine Yz 2 rfl ?_
 refine Wp.ret ⟨trivial, _, ⟨_, _, rfl, rfl, _, _, rfl, rfl, rfl⟩, ?_⟩
 exact H
set_option maxHeartbeats 1000000 in
theorem joinC {v : Value} {n : Nat} {l : List (List UInt8)} (hl : Reads S 1 v n (strs l)) (hcap : ∀ a m c, v = .slice a m c → m ≤ c) (hn : n ≤ 1099511627776) (ht : l.flatten.length ≤ 1099511627776) (h0 : 2 ≤ n → 0 < l.flatten.length) (H : Q (.string (str l.flatten)) S) :
  CallWp Tryz.prog B 80 #[v, .string (str [])] Q S := by
 obtain ⟨aa, ac, rfl⟩ := hl.form
 have e1 : l.length = n := by have := hl.1; rw [strs_length] at this; omega
 subst e1
 have hc0 := hcap _ _ _ rfl
 refine CallWp.dropRet ?_
 refine Yx (args := [_, _]) Tryz.func80 Tryz.ntmps80 ?_
 refine Yn 1 rfl ?_
 refine Wp.seq ?_
 refine Yn 2 rfl ?_
 refine Wp.block ?_
 refine Yn 2 rfl ?_
 refine Wp.cond rfl (fun c0 => ?_) (fun c0 => ?_)
 ·have c0 := of_decide_eq_true c0
  obtain rfl : l = [] := List.eq_nil_of_length_eq_zero (by omega)
  refine Yn 1 rfl ?_
  refine Wp.ret ⟨trivial, _, ⟨_, _, rfl, rfl, rfl⟩, ?_⟩
  exact ⟨S, .refl _, H⟩
 have c0 := of_decide_eq_false c0
 refine Yn 2 rfl ?_
 refine Wp.cond rfl (fun c1 => ?_) (fun c1 => ?_)
 ·have c1 := of_decide_eq_true c1
  obtain ⟨b, o, cap', l', e, fz, hv, hm', _, hg'⟩ := hl.get1 (by omega)
  cases hv
  obtain ⟨x, rfl⟩ : ∃ x, l = [x] := by
   cases l with
   | nil => simp at c1
   | cons x r => cases r with
    | nil => exact ⟨x, rfl⟩
    | cons y r => simp at c1; omega
  refine Yg 1 rfl ?_
  refine OWp.g rfl rfl (Gives.indexAddrSlice (0) rfl rfl rfl rfl rfl rfl (Nat.lt_succ_self 0)) ?_
  refine OWp.load (hm') rfl rfl rfl rfl (hg' 0 (Nat.lt_succ_self 0)) ?_
  refine Yz 1 rfl ?_
  refine Wp.ret ⟨trivial, _, ⟨_, _, rfl, rfl, rfl⟩, ?_⟩
  rw [show [x].flatten = x by simp] at H; exact ⟨S, .refl _, H⟩
 have c1 := of_decide_eq_false c1
 refine Wp.skip ?_
 refine Yn 1 rfl ?_
 refine Wp.seq ?_
 refine Yn 3 rfl ?_
 refine Ct rfl (by decide) fun cc1 => ?_
 refine Wp.skip ?_
 refine Wp.seq ?_
 refine Yn 3 rfl ?_
 refine Wp.block ?_
 refine Wp.loopS (α := Nat) (fun i => l.length - i) (fun i => [(0, .slice aa l.length ac), (1, .string (str [])), (5, .int .i64 (ln l i : Nat)), (39, .slice aa l.length ac), (40, .int .i64 (l.length : Int)), (41, .int .i64 (i : Int))]) (fun _ => S) (fun i => i ≤ l.length) 0 ?_ (.refl _) (Nat.zero_le _) ?_
 ·exact .cons rfl (.cons rfl (.cons rfl (.cons rfl (.cons rfl (.cons rfl (.nil _))))))
 rintro i hi
 have hlen := ln_le l i
 obtain ⟨b, o, cap', l', e, fz, hv, hm', _, hg'⟩ := hl.get1 (by omega)
 cases hv
 refine Yn 1 rfl ?_
 refine Wp.seq ?_
 refine Wp.cond rfl (fun c2 => ?_) (fun c2 => ?_)
 ·have c2 := of_decide_eq_true c2
  have hlt : i < l.length := by omega
  have x1 : l[i]? = some l[i] := by simp
  have hs := ln_succ hlt
  have hlen2 := ln_le l (i + 1)
  refine Wp.skip ?_
  refine Wp.seq ?_
  refine Wp.block ?_
  refine Yq ?_
  refine OWp.g rfl rfl (Gives.indexAddrSlice (i) rfl rfl rfl rfl rfl rfl (by omega)) ?_
  refine OWp.load (hm') rfl rfl rfl rfl ((hg' i hlt).trans (by rw [strs, List.getElem?_map, x1]; rfl)) ?_
  refine Yz 1 rfl ?_
  refine Wp.seq ?_
  refine Yn 5 rfl ?_
  refine Ct rfl (by rw [i64_id (by omega) (by omega)]; omega) fun cc2 => ?_
  refine Wp.skip ?_
  refine Wp.region ?_
  refine Yz 5 rfl ?_
  refine Wp.region ?_
  refine Yz 2 rfl ?_
  exact ⟨i + 1, by omega, by omega, .cons rfl (.cons rfl (.cons' rfl (int_eq (by rw [i64_id] <;> omega)) (.cons rfl (.cons rfl (.cons' rfl (int_eq (i64_inc (by omega))) (.nil _)))))), .refl _⟩
 have c2 := of_decide_eq_false c2
 obtain rfl : i = l.length := by omega
 have htot : ln l l.length = l.flatten.length := by unfold ln; rw [List.take_length]
 rw [htot]
 refine Wp.exit ?_
 refine Yq ?_
 refine Ya rfl rfl rfl rfl fun L8 hBL8 hLL8 => ?_
 refine OWp.nil ?_
 refine Yg 1 rfl ?_
 refine Yc rfl rfl (bGrowOutC hBL8 (h0 (by omega)) (by omega) ?_)
 intro es1 hb1
 have h00 : 0 < l.length := by omega
 have x0 : l[0]? = some l[0] := by simp
 refine OWp.nil ?_
 refine Yg 1 rfl ?_
 refine OWp.g rfl rfl (Gives.indexAddrSlice (0) rfl rfl rfl rfl rfl rfl h00) ?_
 refine OWp.load (List.mem_append_right _ hm') rfl rfl rfl rfl ((hg' 0 h00).trans (by rw [strs, List.getElem?_map, x0]; rfl)) ?_
 have hs0 : ln l 1 = ln l 0 + l[0].length := ln_succ h00
 have hl0 := ln_le l 1
 refine Yc rfl rfl (bWriteC (s := l[0]) hb1 (by simp only [List.length_nil]; omega) ?_)
 rw [List.nil_append]
 intro es2 hb2
 refine OWp.nil ?_
 refine Wp.seq ?_
 refine Yg 1 rfl ?_
 refine OWp.g rfl rfl (Gives.sliceSlice (l := 1) (h' := l.length) rfl rfl rfl rfl ⟨_, _, rfl, rfl⟩ rfl (by omega) (by omega) (by omega)) ?_
 refine Yz 2 rfl ?_
 refine Wp.block ?_
 refine Wp.loopS (α := Nat × Ents) (fun z => l.length - 1 - z.1) (fun z => [(1, .string (str [])), (8, pt L8), (63, .slice (some ⟨b, o + 1 * 1, none⟩) (l.length - 1) (ac - 1)), (64, .int .i64 ((l.length - 1 : Nat) : Int)), (65, .int .i64 (z.1 : Int))]) (fun z => z.2 ++ S) (fun z => z.1 ≤ l.length - 1 ∧ Bd B L8 (l.take (z.1 + 1)).flatten z.2) (0, es2) ?_ (.refl _) ⟨Nat.zero_le _, by rw [flat_succ h00]; simpa using hb2⟩ ?_
 ·exact .cons rfl (.cons rfl (.cons rfl (.cons rfl (.cons rfl (.nil _)))))
 rintro ⟨k, es⟩ ⟨hk, hbk⟩
 simp only at hk hbk ⊢
 refine Yn 1 rfl ?_
 refine Wp.seq ?_
 refine Wp.cond rfl (fun c3 => ?_) (fun c3 => ?_)
 ·have c3 := of_decide_eq_true c3
  have hlt : k + 1 < l.length := by omega
  have x1 : l[k + 1]? = some l[k + 1] := by simp
  refine Wp.skip ?_
  refine Wp.seq ?_
  refine Wp.block ?_
  refine Yq ?_
  refine OWp.g rfl rfl (Gives.indexAddrSlice (k) rfl rfl rfl rfl rfl rfl (by omega)) ?_
  refine OWp.load (List.mem_append_right _ hm') rfl rfl rfl rfl ((congrArg (l'[·]?) (by omega : o + 1 * 1 + k * 1 = o + (k + 1) * 1)).trans ((hg' (k + 1) hlt).trans (by rw [strs, List.getElem?_map, x1]; rfl))) ?_
  have hs := ln_succ hlt
  have hlen2 := ln_le l (k + 1 + 1)
  have hlen3 := ln_le l (k + 1)
  unfold ln at hs hlen2 hlen3
  refine Yz 1 rfl ?_
  refine Yg 1 rfl ?_
  refine Yc rfl rfl (bWriteC (s := []) hbk (by simp only [List.length_nil]; omega) ?_)
  rw [List.append_nil]
  intro es3 hb3
  refine OWp.nil ?_
  refine Wp.region ?_
  refine Ye 1 rfl ?_
  refine Yc rfl rfl (bWriteC (s := l[k + 1]) hb3 (by omega) ?_)
  rw [← flat_succ hlt]
  intro es4 hb4
  refine OWp.nil ?_
  refine Wp.region ?_
  refine Yz 2 rfl ?_
  exact ⟨(k + 1, es4), by simp only; omega, ⟨by simp only; omega, hb4⟩, .cons rfl (.cons rfl (.cons rfl (.cons rfl (.cons' rfl (int_eq (i64_inc (by omega))) (.nil _))))), .refl _⟩
 have c3 := of_decide_eq_false c3
 obtain rfl : k = l.length - 1 := by omega
 refine Wp.exit ?_
 refine Yq ?_
 refine Yc rfl rfl (bStringC hbk ?_)
 rw [show l.length - 1 + 1 = l.length by omega, List.take_length]
 intro es3 hb3
 refine Yz 1 rfl ?_
 refine Wp.ret ⟨trivial, _, ⟨_, _, rfl, rfl, rfl⟩, ?_⟩
 exact ⟨S, List.sublist_append_right _ _, H⟩
end
end Go.Proofs.D

/- Messages: what may be. -/
namespace Go.Proofs.D
open Go.Lg Go.Sha Go.Hd Go.Cv
set_option maxRecDepth 100000
def noId : List UInt8 := List.replicate 16 0
def idP (s : List UInt8) : Prop := s.length = 16 ∧ s ≠ noId
instance (s : List UInt8) : Decidable (idP s) := by unfold idP; infer_instance
def entP (x : Slot) : Prop := idP x.1 ∧ x.2.length ≤ 222
instance (x : Slot) : Decidable (entP x) := by unfold entP; infer_instance
/-- Slots that may be: entries, and behind them none. -/
def fillP (l : List Slot) : Prop := l.length = 4 ∧ ∃ n, n ≤ l.length ∧ (∀ i (h : i < l.length), i < n → entP l[i]) ∧ ∀ i (h : i < l.length), n ≤ i → l[i] = ([], [])
structure Ml where
 kind : Int
 user : Int
 seq : Int
 text : List UInt8
 tag : List UInt8
 slots : List Slot
 ids : List (List UInt8)
/-- A message's cells. -/
def mlc (kind user seq : Int) (text tag : List UInt8) (sv iv : Value) : List Value := [.int .i64 kind, .int .i64 user, .int .i64 seq, .string (str text), .string (str tag), sv, iv]
def whoP (user seq : Int) : Prop := 0 ≤ user ∧ user < 64 ∧ 1 ≤ seq ∧ seq ≤ 2147483647
section
variable {B : Nat} {S R : Ents} {Q : Value → Ents → Prop}
theorem mlongC {k : Int} {n : Nat} (h : k = 1 ∧ n = 505 ∨ k = 2 ∧ n = 38 ∨ k = 3 ∧ n = 962 ∨ k = 4 ∧ n = 102) (H : Q (.int .i64 (n : Int)) S) : CallWp Tryz.prog B 19 #[.int .i64 k] Q S := by
 rcases h with ⟨rfl, rfl⟩ | ⟨rfl, rfl⟩ | ⟨rfl, rfl⟩ | ⟨rfl, rfl⟩
 ·skip
  refine Yx (args := [_]) Tryz.func19 Tryz.ntmps19 ?_
  refine Yn 1 rfl ?_
  refine Wp.seq ?_
  refine Yn 1 rfl ?_
  refine Wp.block ?_
  refine Yn 2 rfl ?_
  refine Cv rfl (by decide) fun cc1 => ?_
  refine Yn 1 rfl ?_
  refine Wp.ret ⟨trivial, _, ⟨_, _, rfl, rfl, rfl⟩, ?_⟩
  exact H
 ·skip
  refine Yx (args := [_]) Tryz.func19 Tryz.ntmps19 ?_
  refine Yn 1 rfl ?_
  refine Wp.seq ?_
  refine Yn 1 rfl ?_
  refine Wp.block ?_
  refine Yn 2 rfl ?_
  refine Ct rfl (by decide) fun cc1 => ?_
  refine Yn 2 rfl ?_
  refine Cv rfl (by decide) fun cc2 => ?_
  refine Yn 1 rfl ?_
  refine Wp.ret ⟨trivial, _, ⟨_, _, rfl, rfl, rfl⟩, ?_⟩
  exact H
 ·skip
  refine Yx (args := [_]) Tryz.func19 Tryz.ntmps19 ?_
  refine Yn 1 rfl ?_
  refine Wp.seq ?_
  refine Yn 1 rfl ?_
  refine Wp.block ?_
  refine Yn 2 rfl ?_
  refine Ct rfl (by decide) fun cc1 => ?_
  refine Yn 2 rfl ?_
  refine Ct rfl (by decide) fun cc2 => ?_
  refine Yn 2 rfl ?_
  refine Cv rfl (by decide) fun cc3 => ?_
  refine Yn 1 rfl ?_
  refine Wp.ret ⟨trivial, _, ⟨_, _, rfl, rfl, rfl⟩, ?_⟩
  exact H
 ·skip
  refine Yx (args := [_]) Tryz.func19 Tryz.ntmps19 ?_
  refine Yn 1 rfl ?_
  refine Wp.seq ?_
  refine Yn 1 rfl ?_
  refine Wp.block ?_
  refine Yn 2 rfl ?_
  refine Ct rfl (by decide) fun cc1 => ?_
  refine Yn 2 rfl ?_
  refine Ct rfl (by decide) fun cc2 => ?_
  refine Yn 2 rfl ?_
  refine Ct rfl (by decide) fun cc3 => ?_
  refine Yn 2 rfl ?_
  refine Cv rfl (by decide) fun cc4 => ?_
  refine Yn 1 rfl ?_
  refine Wp.ret ⟨trivial, _, ⟨_, _, rfl, rfl, rfl⟩, ?_⟩
  exact H
theorem isIdC {s : List UInt8} (H : Q (.bool (decide (idP s))) S) : CallWp Tryz.prog B 122 #[.string (str s)] Q S := by
 refine Yx (args := [_]) Tryz.func122 Tryz.ntmps122 ?_
 refine Yn 1 rfl ?_
 refine Yg 4 rfl ?_
 refine OWp.part 6 rfl (fun h1 => ?_) (fun h1 => ?_)
 ·have h1 := of_decide_eq_true h1
  refine Yz 4 rfl ?_
  refine Wp.ret ⟨trivial, _, ⟨_, _, rfl, rfl, rfl⟩, ?_⟩
  rw [show (!decide (s = ([0, 0, 0, 0, 0, 0, 0, 0, 0, 0, 0, 0, 0, 0, 0, 0] : List UInt8))) = decide (idP s) by
   rw [Bool.eq_iff_iff, decide_eq_true_iff]
   unfold idP
   rw [show noId = ([0, 0, 0, 0, 0, 0, 0, 0, 0, 0, 0, 0, 0, 0, 0, 0] : List UInt8) from rfl]
   simp only [Bool.not_eq_true', decide_eq_false_iff_not]
   constructor
   ·intro h; exact ⟨by omega, h⟩
   ·intro h; exact h.2]
  exact H
 have h1 := of_decide_eq_false h1
 refine Yz 4 rfl ?_
 refine Wp.ret ⟨trivial, _, ⟨_, _, rfl, rfl, rfl⟩, ?_⟩
 rw [decide_eq_false (fun e : idP s => h1 (by rw [e.1]; rfl))] at H
 exact H
theorem entryC {x : Slot} (H : Q (.bool (decide (entP x))) S) : CallWp Tryz.prog B 117 #[.agg (slc x).toArray] Q S := by
 refine CallWp.dropRet ?_
 refine Yx (args := [_]) Tryz.func117 Tryz.ntmps117 ?_
 refine Yq ?_
 refine Yb rfl rfl rfl rfl fun L1 hBL1 hLL1 => ?_
 refine Yz 1 rfl ?_
 refine Yg 1 rfl ?_
 refine Yl m0 ?_
 refine Yc rfl rfl (isIdC ?_)
 by_cases h1 : idP x.1
 ·skip
  rw [decide_eq_true h1]
  refine Ye 1 rfl ?_
  refine Ye 1 rfl ?_
  refine Yl m0 ?_
  refine Yz 4 rfl ?_
  refine Wp.ret ⟨trivial, _, ⟨_, _, rfl, rfl, rfl⟩, ?_⟩
  refine ⟨S, subl, ?_⟩
  rw [show decide (((x.2.length : Nat) : Int) ≤ 222) = decide (entP x) from decide_eq_decide.2 ⟨fun h => ⟨h1, by omega⟩, fun h => by have := h.2; omega⟩]
  exact H
 rw [decide_eq_false h1]
 refine Ye 1 rfl ?_
 refine Yz 6 rfl ?_
 refine Wp.ret ⟨trivial, _, ⟨_, _, rfl, rfl, rfl⟩, ?_⟩
 rw [decide_eq_false (fun e : entP x => h1 e.1)] at H
 exact ⟨S, subl, H⟩
theorem stranger1C {s : List UInt8} (H : Q (.bool (!decide (idP s))) S) : CallWp Tryz.prog B 121 #[.string (str s)] Q S := by
 refine Yx (args := [_]) Tryz.func121 Tryz.ntmps121 ?_
 refine Yn 1 rfl ?_
 refine Yg 1 rfl ?_
 refine Yc rfl rfl (isIdC ?_)
 refine Yz 2 rfl ?_
 refine Wp.ret ⟨trivial, _, ⟨_, _, rfl, rfl, rfl⟩, ?_⟩
 exact H
theorem strangerC {v : Value} {n : Nat} {l : List (List UInt8)} (hl : Reads S 1 v n (strs l)) (hn : l.length = n) (hm : n ≤ 140737488355328) (H : Q (.bool (l.any fun s => !decide (idP s))) S) : CallWp Tryz.prog B 79 #[v] Q S := by
 refine Yx (args := [_]) Tryz.func79 Tryz.ntmps79 ?_
 refine Yn 1 rfl ?_
 refine Yg 1 rfl ?_
 refine Yc rfl rfl (hasStrC (bnd := #[]) (f := fun s => !decide (idP s)) rfl hl hn hm (fun s _ Q' h => stranger1C h) ?_)
 refine Yz 1 rfl ?_
 refine Wp.ret ⟨trivial, _, ⟨_, _, rfl, rfl, rfl⟩, ?_⟩
 exact H
theorem padC {s : List UInt8} {n : Nat} (hs : s.length ≤ n) (hn : n ≤ 2147483648) (H : Q (.string (str (s ++ List.replicate (n - s.length) 0))) S) : CallWp Tryz.prog B 48 #[.string (str s), .int .i64 (n : Int)] Q S := by
 refine Yx (args := [_, _]) Tryz.func48 Tryz.ntmps48 ?_
 refine Yn 1 rfl ?_
 refine Yg 5 rfl ?_
 refine Yc rfl rfl (zerosEqC (n := n - s.length) (by rw [i64_id] <;> omega) (by omega) ?_)
 refine OWp.g rfl rfl (Gives.addStr rfl rfl rfl (by rw [List.length_replicate]; omega)) ?_
 refine Yz 1 rfl ?_
 refine Wp.ret ⟨trivial, _, ⟨_, _, rfl, rfl, rfl⟩, ?_⟩
 exact H
theorem mjoinC {v : Value} {n : Nat} {l : List (List UInt8)} (hl : Reads S 1 v n (strs l)) (hcap : ∀ a m c, v = .slice a m c → m ≤ c) (hn : n ≤ 1099511627776) (ht : l.flatten.length ≤ 1099511627776) (h0 : 2 ≤ n → 0 < l.flatten.length) (H : Q (.string (str l.flatten)) S) :
  CallWp Tryz.prog B 47 #[v] Q S := by
 refine Yx (args := [_]) Tryz.func47 Tryz.ntmps47 ?_
 refine Yn 1 rfl ?_
 refine Yg 1 rfl ?_
 refine Yc rfl rfl (joinC hl hcap hn ht h0 ?_)
 refine Yz 1 rfl ?_
 refine Wp.ret ⟨trivial, _, ⟨_, _, rfl, rfl, rfl⟩, ?_⟩
 exact H
/-! Check, kind by kind. -/
theorem checkPackC {text : List UInt8} (ht : text.length = 504) (H : Q (.int .i64 0) S) : CallWp Tryz.prog B 46 #[.agg (mlc 1 0 0 text [] (.slice none 0 0) (.slice none 0 0)).toArray] Q S := by
 refine CallWp.dropRet ?_
 refine Yx (args := [_]) Tryz.func46 Tryz.ntmps46 ?_
 refine Yq ?_
 refine Yb rfl rfl rfl rfl fun L1 hBL1 hLL1 => ?_
 refine Yz 1 rfl ?_
 refine Yg 1 rfl ?_
 refine Yl m0 ?_
 refine Ye 2 rfl ?_
 refine Dv 12 rfl (by decide) fun cc1 => ?_
 refine Ye 1 rfl ?_
 refine Yl m0 ?_
 refine Ye 3 rfl ?_
 refine Dv 17 rfl (by decide) fun cc2 => ?_
 refine Ye 1 rfl ?_
 refine Yl m0 ?_
 refine Ye 3 rfl ?_
 refine Dt 22 rfl (by decide) fun cc3 => ?_
 refine Yz 5 rfl ?_
 refine Yg 1 rfl ?_
 refine Yl m0 ?_
 refine Ye 2 rfl ?_
 refine Dv 30 rfl (by decide) fun cc4 => ?_
 refine Ye 1 rfl ?_
 refine Yl m0 ?_
 refine Yz 3 rfl ?_
 refine Wp.seq (Wp.regionDraw [0, 1, 2, 3, 4, 5, 6, 7, 8, 9, 10, 11, 12, 13, 14, 15, 16, 17] [] rfl (by decide +kernel) ?_)
 refine DWp.evs 1 rfl ?_
 refine Yd m0 ?_
 refine DWp.evs 2 rfl ?_
 refine Yd m0 ?_
 refine DWp.evs 2 rfl ?_
 refine Yd m0 ?_
 refine DWp.evs 3 rfl ?_
 refine Yd m0 ?_
 refine DWp.evs 6 rfl ?_
 refine DWp.nil ?_
 refine Wp.seq ?_
 refine Yg 1 rfl ?_
 refine Yl m0 ?_
 refine OWp.nil ?_
 refine Wp.block ?_
 refine Yn 2 rfl ?_
 refine Cv rfl (by decide) fun cc5 => ?_
 refine Wp.regionDraw [0, 1, 2, 3, 4, 5, 6] [] rfl (by decide +kernel) ?_
 refine DWp.evs 2 rfl ?_
 refine Yd m0 ?_
 refine DWp.evs 4 rfl ?_
 refine DWp.nil ?_
 refine Wp.seq ?_
 refine Yg 3 rfl ?_
 refine Du 87 rfl (by exact fun h => h rfl) fun cc6 => ?_
 refine Ye 4 rfl ?_
 refine Du 91 rfl (by exact fun h => h (by omega)) fun cc7 => ?_
 refine Ye 4 rfl ?_
 refine Du 95 rfl (by exact fun h => h rfl) fun cc8 => ?_
 refine Ye 4 rfl ?_
 refine Du 99 rfl (by exact fun h => h rfl) fun cc9 => ?_
 refine Yz 3 rfl ?_
 refine Cu rfl (by exact fun h => h rfl) fun cc10 => ?_
 refine Wp.skip ?_
 refine Yn 1 rfl ?_
 refine Wp.ret ⟨trivial, _, ⟨_, _, rfl, rfl, rfl⟩, ?_⟩
 exact ⟨S, subl, H⟩
theorem checkPullC {user seq : Int} {tag : List UInt8} (hw : whoP user seq) (ht : tag.length = 32) (H : Q (.int .i64 0) S) : CallWp Tryz.prog B 46 #[.agg (mlc 2 user seq [] tag (.slice none 0 0) (.slice none 0 0)).toArray] Q S := by
 obtain ⟨w1, w2, w3, w4⟩ := hw
 refine CallWp.dropRet ?_
 refine Yx (args := [_]) Tryz.func46 Tryz.ntmps46 ?_
 refine Yq ?_
 refine Yb rfl rfl rfl rfl fun L1 hBL1 hLL1 => ?_
 refine Yz 1 rfl ?_
 refine Yg 1 rfl ?_
 refine Yl m0 ?_
 refine Ye 2 rfl ?_
 refine Dv 12 rfl (by omega) fun cc1 => ?_
 refine Ye 1 rfl ?_
 refine Yl m0 ?_
 refine Ye 3 rfl ?_
 refine Dv 17 rfl (by omega) fun cc2 => ?_
 refine Ye 1 rfl ?_
 refine Yl m0 ?_
 refine Ye 3 rfl ?_
 refine Dv 22 rfl (by omega) fun cc3 => ?_
 refine Ye 1 rfl ?_
 refine Yl m0 ?_
 refine Yz 3 rfl ?_
 refine Yg 1 rfl ?_
 refine Yl m0 ?_
 refine Ye 2 rfl ?_
 refine OWp.part 30 rfl (fun u0 => ?_) (fun u0 => ?_)
 ·have u0 := of_decide_eq_true u0
  refine Ye 1 rfl ?_
  refine Yl m0 ?_
  refine Yz 3 rfl ?_
  refine Wp.seq (Wp.regionDraw [0, 1, 2, 3, 4, 5, 6, 7, 8, 9, 10, 11, 12, 13, 14, 15, 16, 17] [] rfl (by decide +kernel) ?_)
  refine DWp.evs 1 rfl ?_
  refine Yd m0 ?_
  refine DWp.evs 2 rfl ?_
  refine Yd m0 ?_
  refine DWp.evs 2 rfl ?_
  refine Yd m0 ?_
  refine DWp.evs 3 rfl ?_
  refine Yd m0 ?_
  refine DWp.evs 6 rfl ?_
  refine DWp.nil ?_
  refine Wp.seq ?_
  refine Yg 1 rfl ?_
  refine Yl m0 ?_
  refine OWp.nil ?_
  refine Wp.block ?_
  refine Yn 2 rfl ?_
  refine Ct rfl (by decide) fun cc4 => ?_
  refine Yn 2 rfl ?_
  refine Cv rfl (by decide) fun cc5 => ?_
  refine Wp.region ?_
  refine Ye 1 rfl ?_
  refine Yl m0 ?_
  refine Yz 3 rfl ?_
  refine Wp.seq ?_
  refine Yg 3 rfl ?_
  refine Du 87 rfl (by exact fun h => h w4) fun cc6 => ?_
  refine Ye 4 rfl ?_
  refine Du 91 rfl (by exact fun h => h rfl) fun cc7 => ?_
  refine Ye 4 rfl ?_
  refine Du 95 rfl (by exact fun h => h (by omega)) fun cc8 => ?_
  refine Ye 4 rfl ?_
  refine Du 99 rfl (by exact fun h => h rfl) fun cc9 => ?_
  refine Yz 3 rfl ?_
  refine Cu rfl (by exact fun h => h rfl) fun cc10 => ?_
  refine Wp.skip ?_
  refine Yn 1 rfl ?_
  refine Wp.ret ⟨trivial, _, ⟨_, _, rfl, rfl, rfl⟩, ?_⟩
  exact ⟨S, subl, H⟩
 have u0 := of_decide_eq_false u0
 refine Yz 5 rfl ?_
 refine Wp.seq (Wp.regionDraw [0, 1, 2, 3, 4, 5, 6, 7, 8, 9, 10, 11, 12, 13, 14, 15, 16, 17] [] rfl (by decide +kernel) ?_)
 refine DWp.evs 1 rfl ?_
 refine Yd m0 ?_
 refine DWp.evs 2 rfl ?_
 refine Yd m0 ?_
 refine DWp.evs 2 rfl ?_
 refine Yd m0 ?_
 refine DWp.evs 3 rfl ?_
 refine Yd m0 ?_
 refine DWp.evs 6 rfl ?_
 refine DWp.nil ?_
 refine Wp.seq ?_
 refine Yg 1 rfl ?_
 refine Yl m0 ?_
 refine OWp.nil ?_
 refine Wp.block ?_
 refine Yn 2 rfl ?_
 refine Ct rfl (by decide) fun cc11 => ?_
 refine Yn 2 rfl ?_
 refine Cv rfl (by decide) fun cc12 => ?_
 refine Wp.region ?_
 refine Ye 1 rfl ?_
 refine Yl m0 ?_
 refine Yz 3 rfl ?_
 refine Wp.seq ?_
 refine Yg 3 rfl ?_
 refine Du 87 rfl (by exact fun h => h w4) fun cc13 => ?_
 refine Ye 4 rfl ?_
 refine Du 91 rfl (by exact fun h => h rfl) fun cc14 => ?_
 refine Ye 4 rfl ?_
 refine Du 95 rfl (by exact fun h => h (by omega)) fun cc15 => ?_
 refine Ye 4 rfl ?_
 refine Du 99 rfl (by exact fun h => h rfl) fun cc16 => ?_
 refine Yz 3 rfl ?_
 refine Cu rfl (by exact fun h => h rfl) fun cc17 => ?_
 refine Wp.skip ?_
 refine Yn 1 rfl ?_
 refine Wp.ret ⟨trivial, _, ⟨_, _, rfl, rfl, rfl⟩, ?_⟩
 exact ⟨S, subl, H⟩
theorem checkAckC {user seq : Int} {tag : List UInt8} {iv : Value} {l : List (List UInt8)} (hw : whoP user seq) (ht : tag.length = 32) (hl : Reads S 1 iv l.length (strs l)) (h4 : l.length ≤ 4) (hid : ∀ s ∈ l, idP s) (H : Q (.int .i64 0) S) : CallWp Tryz.prog B 46 #[.agg (mlc 4 user seq [] tag (.slice none 0 0) iv).toArray] Q S := by
 obtain ⟨w1, w2, w3, w4⟩ := hw
 obtain ⟨ia, ic, rfl⟩ := hl.form
 refine CallWp.dropRet ?_
 refine Yx (args := [_]) Tryz.func46 Tryz.ntmps46 ?_
 refine Yq ?_
 refine Yb rfl rfl rfl rfl fun L1 hBL1 hLL1 => ?_
 refine Yz 1 rfl ?_
 refine Yg 1 rfl ?_
 refine Yl m0 ?_
 refine Ye 2 rfl ?_
 refine Dv 12 rfl (by omega) fun cc1 => ?_
 refine Ye 1 rfl ?_
 refine Yl m0 ?_
 refine Ye 3 rfl ?_
 refine Dv 17 rfl (by omega) fun cc2 => ?_
 refine Ye 1 rfl ?_
 refine Yl m0 ?_
 refine Ye 3 rfl ?_
 refine Dv 22 rfl (by omega) fun cc3 => ?_
 refine Ye 1 rfl ?_
 refine Yl m0 ?_
 refine Yz 3 rfl ?_
 refine Yg 1 rfl ?_
 refine Yl m0 ?_
 refine Ye 2 rfl ?_
 refine OWp.part 30 rfl (fun u0 => ?_) (fun u0 => ?_)
 ·have u0 := of_decide_eq_true u0
  refine Ye 1 rfl ?_
  refine Yl m0 ?_
  refine Yz 3 rfl ?_
  refine Wp.seq (Wp.regionDraw [0, 1, 2, 3, 4, 5, 6, 7, 8, 9, 10, 11, 12, 13, 14, 15, 16, 17] [] rfl (by decide +kernel) ?_)
  refine DWp.evs 1 rfl ?_
  refine Yd m0 ?_
  refine DWp.evs 2 rfl ?_
  refine Yd m0 ?_
  refine DWp.evs 2 rfl ?_
  refine Yd m0 ?_
  refine DWp.evs 3 rfl ?_
  refine Yd m0 ?_
  refine DWp.evs 6 rfl ?_
  refine DWp.nil ?_
  refine Wp.seq ?_
  refine Yg 1 rfl ?_
  refine Yl m0 ?_
  refine OWp.nil ?_
  refine Wp.block ?_
  refine Yn 2 rfl ?_
  refine Ct rfl (by decide) fun cc4 => ?_
  refine Yn 2 rfl ?_
  refine Ct rfl (by decide) fun cc5 => ?_
  refine Yn 2 rfl ?_
  refine Ct rfl (by decide) fun cc6 => ?_
  refine Yn 2 rfl ?_
  refine Cv rfl (by decide) fun cc7 => ?_
  refine Yg 1 rfl ?_
  refine Yl m0 ?_
  refine Yz 3 rfl ?_
  refine Wp.region ?_
  refine Ye 1 rfl ?_
  refine Yl m0 ?_
  refine Ye 3 rfl ?_
  refine Dv 79 rfl (by omega) fun cc8 => ?_
  refine Ye 1 rfl ?_
  refine Yl m0 ?_
  refine Yc rfl rfl (strangerC (l := l) (hl.mono fun x h => .tail _ h) rfl (by omega) ?_)
  rw [show (l.any fun s => !decide (idP s)) = false from List.any_eq_false.2 fun x hx => by simp [hid x hx]]
  refine Yz 3 rfl ?_
  refine Wp.seq ?_
  refine Yg 3 rfl ?_
  refine Du 87 rfl (by exact fun h => h w4) fun cc9 => ?_
  refine Ye 4 rfl ?_
  refine Du 91 rfl (by exact fun h => h rfl) fun cc10 => ?_
  refine Ye 4 rfl ?_
  refine Du 95 rfl (by exact fun h => h (by omega)) fun cc11 => ?_
  refine Ye 4 rfl ?_
  refine Du 99 rfl (by exact fun h => h rfl) fun cc12 => ?_
  refine Yz 3 rfl ?_
  refine Cn rfl ?_
  refine Wp.skip ?_
  refine Yn 1 rfl ?_
  refine Wp.ret ⟨trivial, _, ⟨_, _, rfl, rfl, rfl⟩, ?_⟩
  exact ⟨S, subl, H⟩
 have u0 := of_decide_eq_false u0
 refine Yz 5 rfl ?_
 refine Wp.seq (Wp.regionDraw [0, 1, 2, 3, 4, 5, 6, 7, 8, 9, 10, 11, 12, 13, 14, 15, 16, 17] [] rfl (by decide +kernel) ?_)
 refine DWp.evs 1 rfl ?_
 refine Yd m0 ?_
 refine DWp.evs 2 rfl ?_
 refine Yd m0 ?_
 refine DWp.evs 2 rfl ?_
 refine Yd m0 ?_
 refine DWp.evs 3 rfl ?_
 refine Yd m0 ?_
 refine DWp.evs 6 rfl ?_
 refine DWp.nil ?_
 refine Wp.seq ?_
 refine Yg 1 rfl ?_
 refine Yl m0 ?_
 refine OWp.nil ?_
 refine Wp.block ?_
 refine Yn 2 rfl ?_
 refine Ct rfl (by decide) fun cc13 => ?_
 refine Yn 2 rfl ?_
 refine Ct rfl (by decide) fun cc14 => ?_
 refine Yn 2 rfl ?_
 refine Ct rfl (by decide) fun cc15 => ?_
 refine Yn 2 rfl ?_
 refine Cv rfl (by decide) fun cc16 => ?_
 refine Yg 1 rfl ?_
 refine Yl m0 ?_
 refine Yz 3 rfl ?_
 refine Wp.region ?_
 refine Ye 1 rfl ?_
 refine Yl m0 ?_
 refine Ye 3 rfl ?_
 refine Dv 79 rfl (by omega) fun cc17 => ?_
 refine Ye 1 rfl ?_
 refine Yl m0 ?_
 refine Yc rfl rfl (strangerC (l := l) (hl.mono fun x h => .tail _ h) rfl (by omega) ?_)
 rw [show (l.any fun s => !decide (idP s)) = false from List.any_eq_false.2 fun x hx => by simp [hid x hx]]
 refine Yz 3 rfl ?_
 refine Wp.seq ?_
 refine Yg 3 rfl ?_
 refine Du 87 rfl (by exact fun h => h w4) fun cc18 => ?_
 refine Ye 4 rfl ?_
 refine Du 91 rfl (by exact fun h => h rfl) fun cc19 => ?_
 refine Ye 4 rfl ?_
 refine Du 95 rfl (by exact fun h => h (by omega)) fun cc20 => ?_
 refine Ye 4 rfl ?_
 refine Du 99 rfl (by exact fun h => h rfl) fun cc21 => ?_
 refine Yz 3 rfl ?_
 refine Cn rfl ?_
 refine Wp.skip ?_
 refine Yn 1 rfl ?_
 refine Wp.ret ⟨trivial, _, ⟨_, _, rfl, rfl, rfl⟩, ?_⟩
 exact ⟨S, subl, H⟩
end
end Go.Proofs.D

/- Messages: how they are written. -/
namespace Go.Proofs.D
open Go.Lg Go.Sha Go.Hd Go.Cv
set_option maxRecDepth 100000
/-- The bytes of who: the user, the number. -/
def whoB (user seq : Nat) : List UInt8 := [UInt8.ofNat user, UInt8.ofNat (seq / 16777216), UInt8.ofNat (seq / 65536), UInt8.ofNat (seq / 256), UInt8.ofNat seq]
def packB (text : List UInt8) : List UInt8 := 1 :: text
def pullB (user seq : Nat) (tag : List UInt8) : List UInt8 := 2 :: (whoB user seq ++ tag)
def ackB (user seq : Nat) (tag : List UInt8) (ids : List (List UInt8)) : List UInt8 := 4 :: (whoB user seq ++ tag ++ (ids.flatten ++ List.replicate (64 - ids.flatten.length) 0))
theorem u8c (k : Int) (n : Nat) (h : k = (n : Int)) : IntKind.u8.wrap k = ((UInt8.ofNat n).toNat : Int) := by
 subst h
 rw [IntKind.wrap_u8]
 simp [UInt8.toNat_ofNat']
theorem u8shr (n d : Nat) (e : Nat) (hd : 2 ^ e = d) : IntKind.u8.wrap (((n : Nat) : Int).fdiv ((2 : Int) ^ e)) = ((UInt8.ofNat (n / d)).toNat : Int) := by
 have h1 : ((2 : Int) ^ e) = ((d : Nat) : Int) := by rw [← hd]; simp
 rw [h1, Int.fdiv_eq_ediv_of_nonneg _ (Int.natCast_nonneg _)]
 exact u8c _ _ (by simp)
theorem ids_len : ∀ {l : List (List UInt8)}, (∀ s ∈ l, s.length = 16) → l.flatten.length = l.length * 16
 | [], _ => rfl
 | x :: l, h => by
  have h1 := h x (.head _)
  have ih := ids_len (l := l) fun s hs => h s (.tail _ hs)
  rw [List.flatten_cons, List.length_append, ih, h1, List.length_cons]
  omega
section
variable {B : Nat} {S R : Ents} {Q : Value → Ents → Prop}
theorem one_byte2 {L : Nat} {b : UInt8} {v : Int} (h : v = (b.toNat : Int)) : Reads ((L, cel [.int .u8 v] 5) :: S) 1 (.slice (some ⟨L, 0, none⟩) 1 1) 1 (byteCells [b]) := by
 subst h
 exact Reads.row (k := 1) (sz := 1) (l := byteCells [b]) (.head _) (Nat.le_refl 1)
theorem whoReads {L : Nat} {S : Ents} {user seq : Nat} (hm : (L, cel [.int .u8 (IntKind.u8.wrap (user : Int)), .int .u8 (IntKind.u8.wrap ((seq : Int).fdiv (2 ^ (min 24 IntKind.i64.bits)))), .int .u8 (IntKind.u8.wrap ((seq : Int).fdiv (2 ^ (min 16 IntKind.i64.bits)))), .int .u8 (IntKind.u8.wrap ((seq : Int).fdiv (2 ^ (min 8 IntKind.i64.bits)))), .int .u8 (IntKind.u8.wrap (seq : Int))] 5) ∈ S) : Reads S 1 (.slice (some ⟨L, 0, none⟩) 5 5) 5 (byteCells (whoB user seq)) := by
 rw [u8c (user : Int) user rfl, u8c (seq : Int) seq rfl, show min 24 IntKind.i64.bits = 24 from rfl, show min 16 IntKind.i64.bits = 16 from rfl, show min 8 IntKind.i64.bits = 8 from rfl, u8shr seq 16777216 24 (by decide), u8shr seq 65536 16 (by decide), u8shr seq 256 8 (by decide)] at hm
 exact Reads.row (k := 5) (sz := 1) (l := byteCells (whoB user seq)) hm (Nat.le_refl 5)
theorem encPackC {text : List UInt8} (ht : text.length = 504) (H : Q (.tuple #[.string (str (packB text)), .int .i64 0]) S) : CallWp Tryz.prog B 17 #[.agg (mlc 1 0 0 text [] (.slice none 0 0) (.slice none 0 0)).toArray] Q S := by
 refine CallWp.dropRet ?_
 refine Yx (args := [_]) Tryz.func17 Tryz.ntmps17 ?_
 refine Yq ?_
 refine Yb rfl rfl rfl rfl fun L1 hBL1 hLL1 => ?_
 refine Yz 2 rfl ?_
 refine Wp.seq ?_
 refine Yq ?_
 refine Yl m0 ?_
 refine Yc rfl rfl (checkPackC ht ?_)
 refine Yz 1 rfl ?_
 refine Yn 2 rfl ?_
 refine Cu rfl (by exact fun h => h rfl) fun cc1 => ?_
 refine Wp.skip ?_
 refine Yg 1 rfl ?_
 refine Yl m0 ?_
 refine Ye 1 rfl ?_
 refine OWp.step rfl (Step.buildSlice rfl rfl rfl ?_); intro L2 hBL2 hLL2
 refine OWp.gives rfl rfl (Gives.bytesToStr (F := (L2, cel [.int .u8 (IntKind.u8.wrap 1)] 5) :: (L1, cel (mlc 1 0 0 text [] (.slice none 0 0) (.slice none 0 0)) 58) :: S) (l := [(1 : UInt8)]) (k := 1) rfl rfl rfl rfl rfl (one_byte2 (by decide))) (fun _ h => h) ?_
 refine Yz 1 rfl ?_
 refine Wp.seq ?_
 refine Yg 1 rfl ?_
 refine Yl m1 ?_
 refine Yz 1 rfl ?_
 refine Cv rfl (by decide) fun cc2 => ?_
 refine Yg 2 rfl ?_
 refine Yl m1 ?_
 refine OWp.step rfl (Step.buildSlice rfl rfl rfl ?_); intro L3 hBL3 hLL3
 refine Yc rfl rfl (mjoinC (l := [[1], text]) (Reads.row (k := 2) (sz := 1) (.head _) (Nat.le_of_ble_eq_true rfl)) (by rintro a m c h; cases h; exact Nat.le_refl _) (by decide) (by simp [ht]) (fun _ => by simp) ?_)
 refine Yz 2 rfl ?_
 refine Wp.ret ⟨trivial, _, ⟨_, _, rfl, rfl, _, _, rfl, rfl, rfl⟩, ?_⟩
 refine ⟨S, subl, ?_⟩
 rw [show ([[1], text] : List (List UInt8)).flatten = packB text by simp [packB]]
 exact H
theorem encPullC {user seq : Nat} {tag : List UInt8} (hu : user < 64) (h1 : 1 ≤ seq) (h2 : seq ≤ 2147483647) (ht : tag.length = 32) (H : Q (.tuple #[.string (str (pullB user seq tag)), .int .i64 0]) S) : CallWp Tryz.prog B 17 #[.agg (mlc 2 user seq [] tag (.slice none 0 0) (.slice none 0 0)).toArray] Q S := by
 refine CallWp.dropRet ?_
 refine Yx (args := [_]) Tryz.func17 Tryz.ntmps17 ?_
 refine Yq ?_
 refine Yb rfl rfl rfl rfl fun L1 hBL1 hLL1 => ?_
 refine Yz 2 rfl ?_
 refine Wp.seq ?_
 refine Yq ?_
 refine Yl m0 ?_
 refine Yc rfl rfl (checkPullC ⟨by omega, by omega, by omega, by omega⟩ ht ?_)
 refine Yz 1 rfl ?_
 refine Yn 2 rfl ?_
 refine Cu rfl (by exact fun h => h rfl) fun cc1 => ?_
 refine Wp.skip ?_
 refine Yg 1 rfl ?_
 refine Yl m0 ?_
 refine Ye 1 rfl ?_
 refine OWp.step rfl (Step.buildSlice rfl rfl rfl ?_); intro L2 hBL2 hLL2
 refine OWp.gives rfl rfl (Gives.bytesToStr (l := [(2 : UInt8)]) (k := 1) rfl rfl rfl rfl rfl (one_byte2 (by decide))) (fun _ h => h) ?_
 refine Yz 1 rfl ?_
 refine Wp.seq ?_
 refine Yg 1 rfl ?_
 refine Yl m1 ?_
 refine Yz 1 rfl ?_
 refine Ct rfl (by decide) fun cc2 => ?_
 refine Wp.skip ?_
 refine Yg 1 rfl ?_
 refine Yl m1 ?_
 refine Ye 2 rfl ?_
 refine Yl m1 ?_
 refine Ye 3 rfl ?_
 refine Yl m1 ?_
 refine Ye 3 rfl ?_
 refine Yl m1 ?_
 refine Ye 3 rfl ?_
 refine Yl m1 ?_
 refine Ye 1 rfl ?_
 refine OWp.step rfl (Step.buildSlice rfl rfl rfl ?_); intro L3 hBL3 hLL3
 refine OWp.gives rfl rfl (Gives.bytesToStr (l := whoB user seq) (k := 5) rfl rfl rfl rfl rfl (whoReads (.head _))) (fun _ h => h) ?_
 refine Yz 1 rfl ?_
 refine Yg 3 rfl ?_
 refine Yl m2 ?_
 refine OWp.step rfl (Step.buildSlice rfl rfl rfl ?_); intro L4 hBL4 hLL4
 refine Yc rfl rfl (mjoinC (l := [[2], whoB user seq, tag]) (Reads.row (k := 3) (sz := 1) (.head _) (Nat.le_of_ble_eq_true rfl)) (by rintro a m c h; cases h; exact Nat.le_refl _) (by decide) (by simp [ht, whoB]) (fun _ => by simp) ?_)
 refine Yz 1 rfl ?_
 refine Wp.seq ?_
 refine Yg 1 rfl ?_
 refine Yl m3 ?_
 refine Yz 2 rfl ?_
 show Wp _ _ _ _ _ _ _
 refine Wp.drop (S' := (L1, cel (mlc 2 user seq [] tag (.slice none 0 0) (.slice none 0 0)) 58) :: S) subl ?_
 obtain ⟨hd, hhd, hdl⟩ : ∃ x : List UInt8, ([[2], whoB user seq, tag] : List (List UInt8)).flatten = x ∧ x.length = 38 := ⟨_, rfl, by simp [ht, whoB]⟩
 rw [hhd]
 refine Wp.block ?_
 refine Wp.loopS (α := Unit) (fun _ => 0) (fun _ => [(1, pt L1), (7, .string (str hd)), (56, .int .i64 0), (57, .int .i64 0)]) (fun _ => (L1, cel (mlc 2 user seq [] tag (.slice none 0 0) (.slice none 0 0)) 58) :: S) (fun _ => True) () ?_ (.refl _) trivial ?_
 ·exact .cons rfl (.cons rfl (.cons rfl (.cons rfl (.nil _))))
 rintro _ _
 refine Yn 1 rfl ?_
 refine Wp.seq ?_
 refine Ct rfl (by decide) fun cc3 => ?_
 refine Wp.exit ?_
 refine Wp.seq (Wp.regionDraw [0, 1, 2, 6, 7, 3, 4, 5, 8, 9, 10, 11] [3, 4, 5, 8, 9] rfl (by decide +kernel) ?_)
 refine DWp.evs 2 rfl ?_
 refine Yd m0 ?_
 refine DWp.evs 1 rfl ?_
 refine Yd m0 ?_
 refine DWp.stepGrow rfl rfl rfl (Step.call rfl rfl rfl rfl rfl rfl ((mjoinC (l := []) (Reads.nil _ _) (by rintro a m c h; cases h; exact Nat.le_refl _) (by decide) (by decide) (fun h => by omega) ?_)))
 refine ⟨fun _ hy => hy, ?_⟩
 refine DWp.stepGrow rfl rfl rfl (Step.buildSlice rfl rfl rfl ?_); intro L5 hBL5 hLL5; refine ⟨fun _ hy => .tail _ hy, ?_⟩
 refine DWp.stepGrow rfl rfl rfl (Step.call rfl rfl rfl rfl rfl rfl ((mjoinC (l := [hd, []]) (Reads.row (k := 2) (sz := 1) (.head _) (Nat.le_of_ble_eq_true rfl)) (by rintro a m c h; cases h; exact Nat.le_refl _) (by decide) (by simp [hdl]) (fun _ => by simp [hdl]) ?_)))
 refine ⟨fun _ hy => hy, ?_⟩
 refine DWp.stepGrow rfl rfl rfl (Step.call rfl rfl rfl rfl rfl rfl ((mlongC (n := 38) (.inr (.inl ⟨rfl, rfl⟩)) ?_)))
 refine ⟨fun _ hy => hy, ?_⟩
 refine DWp.stepGrow rfl rfl rfl (Step.call rfl rfl rfl rfl rfl rfl ((padC (n := 38) (by simp [hdl]) (by decide) ?_)))
 refine ⟨fun _ hy => hy, ?_⟩
 refine DWp.evs 2 rfl ?_
 refine DWp.nil ?_
 refine Wp.ret ⟨trivial, _, ⟨_, _, rfl, rfl, _, _, rfl, rfl, rfl⟩, ?_⟩
 refine ⟨S, subl, ?_⟩
 rw [← hhd]
 have e : (([[[2], whoB user seq, tag].flatten, []] : List (List UInt8)).flatten ++ List.replicate (38 - ([[[2], whoB user seq, tag].flatten, []] : List (List UInt8)).flatten.length) 0) = pullB user seq tag := by
  have h1 : (([[[2], whoB user seq, tag].flatten, []] : List (List UInt8)).flatten) = pullB user seq tag := by simp [pullB]
  rw [h1, show (pullB user seq tag).length = 38 by simp [pullB, whoB, ht]]
  simp
 rw [e]
 exact H
theorem encAckC {user seq : Nat} {tag : List UInt8} {iv : Value} {ids : List (List UInt8)} (hu : user < 64) (h1 : 1 ≤ seq) (h2 : seq ≤ 2147483647) (ht : tag.length = 32) (hl : Reads S 1 iv ids.length (strs ids)) (hcap : ∀ a m c, iv = .slice a m c → m ≤ c) (h4 : ids.length ≤ 4) (hid : ∀ s ∈ ids, idP s) (H : Q (.tuple #[.string (str (ackB user seq tag ids)), .int .i64 0]) S) : CallWp Tryz.prog B 17 #[.agg (mlc 4 user seq [] tag (.slice none 0 0) iv).toArray] Q S := by
 have hfl : ids.flatten.length = ids.length * 16 := ids_len (fun s h => (hid s h).1)
 refine CallWp.dropRet ?_
 refine Yx (args := [_]) Tryz.func17 Tryz.ntmps17 ?_
 refine Yq ?_
 refine Yb rfl rfl rfl rfl fun L1 hBL1 hLL1 => ?_
 refine Yz 2 rfl ?_
 refine Wp.seq ?_
 refine Yq ?_
 refine Yl m0 ?_
 refine Yc rfl rfl (checkAckC ⟨by omega, by omega, by omega, by omega⟩ ht (hl.mono fun x h => .tail _ h) h4 hid ?_)
 refine Yz 1 rfl ?_
 refine Yn 2 rfl ?_
 refine Cu rfl (by exact fun h => h rfl) fun cc1 => ?_
 refine Wp.skip ?_
 refine Yg 1 rfl ?_
 refine Yl m0 ?_
 refine Ye 1 rfl ?_
 refine OWp.step rfl (Step.buildSlice rfl rfl rfl ?_); intro L2 hBL2 hLL2
 refine OWp.gives rfl rfl (Gives.bytesToStr (l := [(4 : UInt8)]) (k := 1) rfl rfl rfl rfl rfl (one_byte2 (by decide))) (fun _ h => h) ?_
 refine Yz 1 rfl ?_
 refine Wp.seq ?_
 refine Yg 1 rfl ?_
 refine Yl m1 ?_
 refine Yz 1 rfl ?_
 refine Ct rfl (by decide) fun cc2 => ?_
 refine Wp.skip ?_
 refine Yg 1 rfl ?_
 refine Yl m1 ?_
 refine Ye 2 rfl ?_
 refine Yl m1 ?_
 refine Ye 3 rfl ?_
 refine Yl m1 ?_
 refine Ye 3 rfl ?_
 refine Yl m1 ?_
 refine Ye 3 rfl ?_
 refine Yl m1 ?_
 refine Ye 1 rfl ?_
 refine OWp.step rfl (Step.buildSlice rfl rfl rfl ?_); intro L3 hBL3 hLL3
 refine OWp.gives rfl rfl (Gives.bytesToStr (l := whoB user seq) (k := 5) rfl rfl rfl rfl rfl (whoReads (.head _))) (fun _ h => h) ?_
 refine Yz 1 rfl ?_
 refine Yg 3 rfl ?_
 refine Yl m2 ?_
 refine OWp.step rfl (Step.buildSlice rfl rfl rfl ?_); intro L4 hBL4 hLL4
 refine Yc rfl rfl (mjoinC (l := [[4], whoB user seq, tag]) (Reads.row (k := 3) (sz := 1) (.head _) (Nat.le_of_ble_eq_true rfl)) (by rintro a m c h; cases h; exact Nat.le_refl _) (by decide) (by simp [ht, whoB]) (fun _ => by simp) ?_)
 refine Yz 1 rfl ?_
 refine Wp.seq ?_
 refine Yg 1 rfl ?_
 refine Yl m3 ?_
 refine Yz 2 rfl ?_
 show Wp _ _ _ _ _ _ _
 refine Wp.drop (S' := (L1, cel (mlc 4 user seq [] tag (.slice none 0 0) iv) 58) :: S) subl ?_
 obtain ⟨hd, hhd, hdl⟩ : ∃ x : List UInt8, ([[4], whoB user seq, tag] : List (List UInt8)).flatten = x ∧ x.length = 38 := ⟨_, rfl, by simp [ht, whoB]⟩
 rw [hhd]
 have hfl2 : ([hd, ids.flatten] : List (List UInt8)).flatten.length = 38 + ids.flatten.length := by rw [List.flatten_cons, List.flatten_cons, List.flatten_nil, List.append_nil, List.length_append, hdl]
 refine Wp.block ?_
 refine Wp.loopS (α := Unit) (fun _ => 0) (fun _ => [(1, pt L1), (7, .string (str hd)), (56, .int .i64 0), (57, .int .i64 0)]) (fun _ => (L1, cel (mlc 4 user seq [] tag (.slice none 0 0) iv) 58) :: S) (fun _ => True) () ?_ (.refl _) trivial ?_
 ·exact .cons rfl (.cons rfl (.cons rfl (.cons rfl (.nil _))))
 rintro _ _
 refine Yn 1 rfl ?_
 refine Wp.seq ?_
 refine Ct rfl (by decide) fun cc3 => ?_
 refine Wp.exit ?_
 refine Wp.seq (Wp.regionDraw [0, 1, 2, 6, 7, 3, 4, 5, 8, 9, 10, 11] [3, 4, 5, 8, 9] rfl (by decide +kernel) ?_)
 refine DWp.evs 2 rfl ?_
 refine Yd m0 ?_
 refine DWp.evs 1 rfl ?_
 refine Yd m0 ?_
 refine DWp.stepGrow rfl rfl rfl (Step.call rfl rfl rfl rfl rfl rfl ((mjoinC (l := ids) (hl.mono fun x h => .tail _ h) hcap (by omega) (by rw [hfl]; omega) (fun _ => by rw [hfl]; omega) ?_)))
 refine ⟨fun _ hy => hy, ?_⟩
 refine DWp.stepGrow rfl rfl rfl (Step.buildSlice rfl rfl rfl ?_); intro L5 hBL5 hLL5; refine ⟨fun _ hy => .tail _ hy, ?_⟩
 refine DWp.stepGrow rfl rfl rfl (Step.call rfl rfl rfl rfl rfl rfl ((mjoinC (l := [hd, ids.flatten]) (Reads.row (k := 2) (sz := 1) (.head _) (Nat.le_of_ble_eq_true rfl)) (by rintro a m c h; cases h; exact Nat.le_refl _) (by decide) (by rw [hfl2]; omega) (fun _ => by rw [hfl2]; omega) ?_)))
 refine ⟨fun _ hy => hy, ?_⟩
 refine DWp.stepGrow rfl rfl rfl (Step.call rfl rfl rfl rfl rfl rfl ((mlongC (n := 102) (.inr (.inr (.inr ⟨rfl, rfl⟩))) ?_)))
 refine ⟨fun _ hy => hy, ?_⟩
 refine DWp.stepGrow rfl rfl rfl (Step.call rfl rfl rfl rfl rfl rfl ((padC (n := 102) (by rw [hfl2]; omega) (by decide) ?_)))
 refine ⟨fun _ hy => hy, ?_⟩
 refine DWp.evs 2 rfl ?_
 refine DWp.nil ?_
 refine Wp.ret ⟨trivial, _, ⟨_, _, rfl, rfl, _, _, rfl, rfl, rfl⟩, ?_⟩
 refine ⟨S, subl, ?_⟩
 rw [← hhd]
 have e : (([[[4], whoB user seq, tag].flatten, ids.flatten] : List (List UInt8)).flatten ++ List.replicate (102 - ([[[4], whoB user seq, tag].flatten, ids.flatten] : List (List UInt8)).flatten.length) 0) = ackB user seq tag ids := by
  have h1 : (([[[4], whoB user seq, tag].flatten, ids.flatten] : List (List UInt8)).flatten).length = 38 + ids.flatten.length := by rw [hhd]; exact hfl2
  rw [h1, show 102 - (38 + ids.flatten.length) = 64 - ids.flatten.length by omega]
  simp [ackB]
 rw [e]
 exact H
end
end Go.Proofs.D

/- Who signs. -/
namespace Go.Proofs.D
open Go.Lg Go.Sha Go.Hd Go.Cv
set_option maxRecDepth 100000
def gateW : List UInt8 := [103, 97, 116, 101]
def zer32 : List UInt8 := List.replicate 32 0
/-- The tag of a pull, of an ack. -/
def pullT (key : List UInt8) (user seq : Nat) : List UInt8 := hmac key (gateW ++ pullB user seq zer32)
def ackT (key : List UInt8) (user seq : Nat) (ids : List (List UInt8)) : List UInt8 := hmac key (gateW ++ ackB user seq zer32 ids)
theorem hmac_len (k t : List UInt8) : (hmac k t).length = 32 := by unfold hmac; exact sha_len _
theorem pullB_len {user seq : Nat} {tag : List UInt8} (h : tag.length = 32) : (pullB user seq tag).length = 38 := by simp [pullB, whoB, h]
attribute [local irreducible] hmac pullB ackB
section
variable {B : Nat} {S R : Ents} {Q : Value → Ents → Prop}
theorem plainPullC {user seq : Nat} {tag : List UInt8} (hu : user < 64) (h1 : 1 ≤ seq) (h2 : seq ≤ 2147483647) (H : Q (.tuple #[.string (str (pullB user seq zer32)), .int .i64 0]) S) : CallWp Tryz.prog B 42 #[.agg (mlc 2 user seq [] tag (.slice none 0 0) (.slice none 0 0)).toArray] Q S := by
 refine CallWp.dropRet ?_
 refine Yx (args := [_]) Tryz.func42 Tryz.ntmps42 ?_
 refine Yq ?_
 refine Yb rfl rfl rfl rfl fun L1 hBL1 hLL1 => ?_
 refine Yz 2 rfl ?_
 refine Yq ?_
 refine Yc rfl rfl (zerosC (n := 32) (by decide) ?_)
 refine Ye 1 rfl ?_
 refine OWp.step rfl (Step.storeAs 0 (mlc 2 user seq [] zer32 (.slice none 0 0) (.slice none 0 0)) rfl rfl rfl rfl rfl (by assumption) rfl (Unfz.zero _) rfl (Nat.le_of_ble_eq_true rfl) rfl rfl ?_)
 refine OWp.nil ?_
 refine Wp.seq ?_
 refine Yg 1 rfl ?_
 refine Yl m0 ?_
 refine Ye 2 rfl ?_
 refine Du 9 rfl (by exact fun h => h rfl) fun cc1 => ?_
 refine Yz 4 rfl ?_
 refine Cn rfl ?_
 refine Wp.skip ?_
 refine Yq ?_
 refine Yl m0 ?_
 refine Yc rfl rfl (encPullC hu h1 h2 (List.length_replicate ..) ?_)
 refine Yz 4 rfl ?_
 refine Wp.ret ⟨trivial, _, ⟨_, _, rfl, rfl, _, _, rfl, rfl, rfl⟩, ?_⟩
 exact ⟨S, subl, H⟩
theorem signPullC {key : List UInt8} {user seq : Nat} (hks : KsIn S) (hk : key.length = 32) (hu : user < 64) (h1 : 1 ≤ seq) (h2 : seq ≤ 2147483647) (H : Q (.tuple #[.agg (mlc 2 user seq [] (pullT key user seq) (.slice none 0 0) (.slice none 0 0)).toArray, .int .i64 0]) S) : CallWp Tryz.prog B 91 #[.string (str key), .agg (mlc 2 user seq [] [] (.slice none 0 0) (.slice none 0 0)).toArray] Q S := by
 refine CallWp.dropRet ?_
 refine Yx (args := [_, _]) Tryz.func91 Tryz.ntmps91 ?_
 refine Yq ?_
 refine Yb rfl rfl rfl rfl fun L3 hBL3 hLL3 => ?_
 refine Ya rfl rfl rfl rfl fun L4 hBL4 hLL4 => ?_
 refine Yz 1 rfl ?_
 refine Wp.seq ?_
 refine Yn 3 rfl ?_
 refine Cu rfl (by omega) fun cc1 => ?_
 refine Wp.skip ?_
 refine Yq ?_
 refine Yl m1 ?_
 refine Yc rfl rfl (plainPullC hu h1 h2 ?_)
 refine Yz 5 rfl ?_
 refine Wp.seq ?_
 refine Yn 2 rfl ?_
 refine Cu rfl (by exact fun h => h rfl) fun cc2 => ?_
 refine Wp.skip ?_
 refine Yg 2 rfl ?_
 refine OWp.step rfl (Step.buildSlice rfl rfl rfl ?_); intro L5 hBL5 hLL5
 refine Yc rfl rfl (tagC (l := [gateW, pullB user seq zer32]) (Reads.row (k := 2) (sz := 1) (.head _) (Nat.le_of_ble_eq_true rfl)) (by decide) hks.cons.cons.cons (by rw [hk]; decide) (by simp [gateW, pullB_len, zer32]; decide) ?_)
 rw [show hmac key ([gateW, pullB user seq zer32] : List (List UInt8)).flatten = pullT key user seq by simp [pullT]]
 refine Ye 1 rfl ?_
 refine OWp.step rfl (Step.storeAs 2 (mlc 2 user seq [] (pullT key user seq) (.slice none 0 0) (.slice none 0 0)) rfl rfl rfl rfl rfl (by assumption) rfl (Unfz.zero _) rfl (Nat.le_of_ble_eq_true rfl) rfl rfl ?_)
 refine OWp.nil ?_
 refine Yg 1 rfl ?_
 refine Yl m2 ?_
 refine Yc rfl rfl (cloneStrN ?_)
 refine Ye 1 rfl ?_
 refine OWp.step rfl (Step.storeAs 2 (mlc 2 user seq [] (pullT key user seq) (.slice none 0 0) (.slice none 0 0)) rfl rfl rfl rfl rfl (by assumption) rfl (Unfz.zero _) rfl (Nat.le_of_ble_eq_true rfl) rfl rfl ?_)
 refine OWp.nil ?_
 refine Yg 1 rfl ?_
 refine Yl m2 ?_
 refine Yc rfl rfl (cloneSlN ?_)
 refine Ye 1 rfl ?_
 refine OWp.step rfl (Step.storeAs 2 (mlc 2 user seq [] (pullT key user seq) (.slice none 0 0) (.slice none 0 0)) rfl rfl rfl rfl rfl (by assumption) rfl (Unfz.zero _) rfl (Nat.le_of_ble_eq_true rfl) rfl rfl ?_)
 refine OWp.nil ?_
 refine Yq ?_
 refine Yl m2 ?_
 refine OWp.step rfl (Step.storeAs 1 (mlc 2 user seq [] (pullT key user seq) (.slice none 0 0) (.slice none 0 0)) rfl rfl rfl rfl rfl (by assumption) rfl (Unfz.zero _) rfl (Nat.le_of_ble_eq_true rfl) rfl rfl ?_)
 refine Yz 1 rfl ?_
 refine Wp.ret ⟨trivial, _, ⟨_, _, _, _, rfl, rfl, ⟨_, _, _, mems, (by first | assumption | rfl)⟩, ⟨_, _, rfl, rfl, rfl⟩⟩, ?_⟩
 exact ⟨S, subl, H⟩
end
end Go.Proofs.D

/- The ledger of loops. -/
namespace Go.Proofs.D
open Go.Lg Go.Sha Go.Hd Go.Cv
set_option maxRecDepth 100000
/-- A ledger's cells. -/
def lgc (wd dl th now : Int) (lv : Value) : List Value := [.int .i64 wd, .int .i64 dl, .int .i64 th, .int .i64 now, lv]
def oldF (wd dl now : Int) (x : Lp) : Bool := decide (x.at_ ≤ now - wd - dl)
def keepF (wd dl now : Int) (L : List Lp) : List Lp := L.filter fun x => !oldF wd dl now x
def lpP (wd dl th : Int) : Prop := 1 ≤ wd ∧ wd ≤ 1048576 ∧ 1 ≤ dl ∧ dl ≤ 1048576 ∧ 0 ≤ th ∧ th ≤ 4096
theorem own_row {B : Nat} {e : TypeId} {sz k : Nat} {v : Value} {xs : List Value} {es : Ents} (h : Lg.Own B e sz v k xs es) (h0 : 0 < k) : ∃ b cap cur, v = .slice (some ⟨b, 0, none⟩) k cap ∧ es = [(b, cel cur e)] ∧ B ≤ b ∧ k ≤ cap ∧ cap ≤ maxLen ∧ cur.length = cap * sz ∧ cur.take (k * sz) = xs := by
 obtain ⟨_, ⟨_, rfl, _⟩ | h⟩ := h
 ·omega
 ·exact h
theorem wr_take {l vs : List Value} {o : Nat} (h : o ≤ l.length) : (wr l o vs).take o = l.take o := by
 unfold wr
 rw [List.append_assoc, List.take_append_of_le_length (by rw [List.length_take]; omega), List.take_take, Nat.min_self]
theorem wr_take2 {l vs : List Value} {o : Nat} (h : o + vs.length ≤ l.length) : (wr l o vs).take (o + vs.length) = l.take o ++ vs := by
 unfold wr
 have : o + vs.length = (l.take o ++ vs).length := by rw [List.length_append, List.length_take]; omega
 rw [this, List.take_left]
theorem wr_drop {l vs : List Value} {o m : Nat} (h : o + vs.length ≤ m) (h2 : m ≤ l.length) : (wr l o vs).drop m = l.drop m := by
 unfold wr
 have : (l.take o ++ vs).length = o + vs.length := by rw [List.length_append, List.length_take]; omega
 rw [List.drop_append, List.drop_of_length_le (by omega), List.nil_append, this, List.drop_drop]
 congr 1
 omega
theorem wr_length {l vs : List Value} {o : Nat} (h : o + vs.length ≤ l.length) : (wr l o vs).length = l.length := by
 unfold wr
 rw [List.length_append, List.length_append, List.length_take, List.length_drop]
 omega
theorem seg_cut {l x y : List Value} {a n m : Nat} (h : (l.drop a).take n = x ++ y) (hx : x.length = m) (hm : m ≤ n) : (l.drop a).take m = x ∧ (l.drop (a + m)).take (n - m) = y := by
 subst hx
 constructor
 ·have := congrArg (List.take x.length) h
  rwa [List.take_take, Nat.min_eq_left hm, List.take_left] at this
 ·have := congrArg (List.drop x.length) h
  rwa [List.drop_take, List.drop_drop, List.drop_left] at this
theorem lp_len (L : List Lp) : (L.flatMap Lp.cells).length = L.length * 3 := flatMap_len L (lp_flat L)
theorem filter_snoc {f : Lp → Bool} {L : List Lp} {j : Nat} (h : j < L.length) : (L.take (j + 1)).filter f = (L.take j).filter f ++ (if f L[j] then [L[j]] else []) := by
 rw [List.take_succ_eq_append_getElem h, List.filter_append]
 congr 1
 by_cases hf : f L[j] <;> simp [hf]
section
variable {B : Nat} {S R : Ents} {Q : Value → Ents → Prop}
theorem lwithinC {n a b : Int} (H : Q (.bool (decide (a ≤ n ∧ n ≤ b))) S) : CallWp Tryz.prog B 59 #[.int .i64 n, .int .i64 a, .int .i64 b] Q S := by
 refine Yx (args := [_, _, _]) Tryz.func59 Tryz.ntmps59 ?_
 refine Yn 1 rfl ?_
 refine Yg 4 rfl ?_
 refine OWp.part 10 rfl (fun h1 => ?_) (fun h1 => ?_)
 ·have h1 := of_decide_eq_true h1
  refine Yz 5 rfl ?_
  refine Wp.ret ⟨trivial, _, ⟨_, _, rfl, rfl, rfl⟩, ?_⟩
  rw [show decide (n ≤ b) = decide (a ≤ n ∧ n ≤ b) from decide_eq_decide.2 ⟨fun h => ⟨h1, h⟩, fun h => h.2⟩]
  exact H
 have h1 := of_decide_eq_false h1
 refine Yz 5 rfl ?_
 refine Wp.ret ⟨trivial, _, ⟨_, _, rfl, rfl, rfl⟩, ?_⟩
 rw [decide_eq_false (fun e : a ≤ n ∧ n ≤ b => h1 e.1)] at H
 exact H
theorem lnewC {wd dl th : Int} (h : lpP wd dl th) (H : ∀ L, B ≤ L → (∀ x ∈ S, x.1 < L) → Q (.tuple #[.pointer (some ⟨L, 0, none⟩), .int .i64 0]) ((L, cel (lgc wd dl th 0 (.slice none 0 0)) 147) :: S)) : CallWp Tryz.prog B 27 #[.int .i64 wd, .int .i64 dl, .int .i64 th] Q S := by
 obtain ⟨h1, h2, h3, h4, h5, h6⟩ := h
 refine Yx (args := [_, _, _]) Tryz.func27 Tryz.ntmps27 ?_
 refine Yn 2 rfl ?_
 refine Wp.seq ?_
 refine Yg 1 rfl ?_
 refine Yc rfl rfl (lwithinC ?_)
 rw [decide_eq_true (⟨h1, h2⟩ : (1 : Int) ≤ wd ∧ wd ≤ 1048576)]
 refine Ye 2 rfl ?_
 refine OWp.part 11 rfl (fun cc1 => (by contradiction)) (fun cc1 => ?_)
 refine Ye 1 rfl ?_
 refine Yc rfl rfl (lwithinC ?_)
 rw [decide_eq_true (⟨h3, h4⟩ : (1 : Int) ≤ dl ∧ dl ≤ 1048576)]
 refine Ye 3 rfl ?_
 refine OWp.part 16 rfl (fun cc2 => (by contradiction)) (fun cc2 => ?_)
 refine Ye 1 rfl ?_
 refine Yc rfl rfl (lwithinC ?_)
 rw [decide_eq_true (⟨h5, h6⟩ : (0 : Int) ≤ th ∧ th ≤ 4096)]
 refine Yz 2 rfl ?_
 refine Wp.cond rfl (fun cc3 => (by contradiction)) (fun cc3 => ?_)
 refine Wp.skip ?_
 refine Yg 3 rfl ?_
 refine OWp.g rfl rfl (Gives.build rfl rfl) ?_
 refine Yb rfl rfl rfl rfl fun L1 hBL1 hLL1 => ?_
 refine Yz 2 rfl ?_
 refine Wp.ret ⟨trivial, _, ⟨_, _, rfl, rfl, _, _, rfl, rfl, rfl⟩, ?_⟩
 exact H L1 hBL1 hLL1
theorem oldC {p : Nat} {wd dl th now : Int} {lv : Value} {x : Lp} (hm : (p, cel (lgc wd dl th now lv) 147) ∈ S) (hp : lpP wd dl th) (h0 : 0 ≤ now) (h1 : now ≤ 1099511627776) (H : Q (.bool (oldF wd dl now x)) S) : CallWp Tryz.prog B 123 #[.pointer (some ⟨p, 0, none⟩), .agg x.cells.toArray] Q S := by
 obtain ⟨p1, p2, p3, p4, p5, p6⟩ := hp
 refine CallWp.dropRet ?_
 refine Yx (args := [_, _]) Tryz.func123 Tryz.ntmps123 ?_
 refine Yq ?_
 refine Yb rfl rfl rfl rfl fun L3 hBL3 hLL3 => ?_
 refine Yz 1 rfl ?_
 refine Wp.seq (Wp.regionDraw [0, 1, 2, 3, 4, 5, 6, 7, 8, 9, 10, 11, 12, 13, 14, 15, 16, 17] [] rfl (by decide +kernel) ?_)
 refine DWp.evs 1 rfl ?_
 refine Yd m0 ?_
 refine DWp.evs 3 rfl ?_
 refine Yd (.tail _ hm) ?_
 refine DWp.evs 3 rfl ?_
 refine Yd (.tail _ hm) ?_
 refine DWp.evs 4 rfl ?_
 refine Yd (.tail _ hm) ?_
 refine DWp.evs 3 rfl ?_
 refine DWp.nil ?_
 refine Wp.ret ⟨trivial, _, ⟨_, _, rfl, rfl, rfl⟩, ?_⟩
 have e : IntKind.i64.wrap (IntKind.i64.wrap (now - wd) - dl) = now - wd - dl := by rw [i64_id (x := now - wd) (by omega) (by omega), i64_id (by omega) (by omega)]
 rw [e]
 exact ⟨S, subl, H⟩
set_option maxHeartbeats 2000000 in
theorem delLpC {v : Value} {L : List Lp} {es : Ents} {g : FuncId} {bnd : Array Value} {f : Lp → Bool} (hc : callable Tryz.prog g = true) (ho : Lg.Own B 187 3 v L.length (L.flatMap Lp.cells) es) (hm : L.length ≤ 140737488355328)
  (hf : ∀ (x : Lp) (S' : Ents) (Q' : Value → Ents → Prop), (∀ y ∈ R, y ∈ S') → Q' (.bool (f x)) S' → CallWp Tryz.prog B g (bnd.toList ++ [Value.agg (Lp.cells x).toArray] ++ []).toArray Q' S')
  (H : ∀ v' es', Lg.Own B 187 3 v' (L.filter fun x => !f x).length ((L.filter fun x => !f x).flatMap Lp.cells) es' → Q v' (es' ++ R)) :
  CallWp Tryz.prog B 124 #[v, .func (.func g) bnd #[]] Q (es ++ R) := by
 obtain ⟨aa, ac, rfl⟩ := ho.reads.form
 refine Yx (args := [_, _]) Tryz.func124 Tryz.ntmps124 ?_
 refine Yn 1 rfl ?_
 refine Yg 2 rfl ?_
 refine Yc rfl rfl (ixLpC (l := L) hc (ho.reads.mono fun x h => List.mem_append_left _ h) rfl hm (fun x hx Q' h => hf x _ Q' (fun y hy => List.mem_append_right _ hy) h) ?_ ?_)
 intro h0
 ·skip
  refine Yz 1 rfl ?_
  refine Wp.seq ?_
  refine Yn 2 rfl ?_
  refine Cv rfl (by decide) fun cc1 => ?_
  refine Yn 2 rfl ?_
  refine Wp.ret ⟨trivial, _, ⟨_, _, rfl, rfl, rfl⟩, ?_⟩
  have e : (L.filter fun x => !f x) = L := List.filter_eq_self.2 (fun x hx => by simp [h0 x hx])
  rw [e] at H
  exact H _ es ho
 intro j0 hj0 hb0 hb1
 refine Yz 1 rfl ?_
 refine Wp.seq ?_
 refine Yn 2 rfl ?_
 refine Ct rfl (by omega) fun cc2 => ?_
 refine Wp.skip ?_
 refine Wp.seq ?_
 refine Yn 3 rfl ?_
 show Wp _ _ _ _ _ _ _
 obtain ⟨b, cap, cur0, hv, rfl, hB, hk, hmx, hcl, htk⟩ := own_row ho (by omega)
 cases hv
 refine Wp.block ?_
 refine Wp.loopS (α := Nat × Nat × List Value) (fun z => L.length - z.2.1) (fun z => [(0, .slice (some ⟨b, 0, none⟩) L.length ac), (1, .func (.func g) bnd #[]), (5, .int .i64 (z.1 : Int)), (6, .int .i64 (z.2.1 : Int))]) (fun z => (b, cel z.2.2 187) :: R) (fun z => z.1 < z.2.1 ∧ z.2.1 ≤ L.length ∧ z.1 = ((L.take z.2.1).filter fun x => !f x).length ∧ z.2.2.length = ac * 3 ∧ z.2.2.take (z.1 * 3) = ((L.take z.2.1).filter fun x => !f x).flatMap Lp.cells ∧ (z.2.2.drop (z.2.1 * 3)).take ((L.length - z.2.1) * 3) = (L.drop z.2.1).flatMap Lp.cells) (j0, j0 + 1, cur0) ?_ (.refl _) ?_ ?_
 ·exact .cons rfl (.cons rfl (.cons rfl (.cons' rfl (int_eq (i64_inc (by omega))) (.nil _))))
 ·have e1 : ((L.take j0).filter fun x => !f x) = L.take j0 := List.filter_eq_self.2 (fun x hx => by
  obtain ⟨k, hk, rfl⟩ := List.mem_iff_getElem.1 hx
  rw [List.length_take] at hk
  rw [List.getElem_take]
  simp [hb0 k (by omega)])
  have e2 : ((L.take (j0 + 1)).filter fun x => !f x) = L.take j0 := by rw [filter_snoc hj0, e1]; simp [hb1]
  simp only [e2]
  refine ⟨by omega, hj0, by rw [List.length_take]; omega, hcl, ?_, ?_⟩
  ·have := congrArg (List.take (j0 * 3)) htk
   rw [List.take_take, Nat.min_eq_left (by omega)] at this
   rw [this]
   have e3 : L.flatMap Lp.cells = (L.take j0).flatMap Lp.cells ++ (L.drop j0).flatMap Lp.cells := by rw [← List.flatMap_append, List.take_append_drop]
   rw [e3, List.take_append_of_le_length (by rw [lp_len, List.length_take]; omega), List.take_of_length_le (by rw [lp_len, List.length_take]; omega)]
  ·have := congrArg (List.drop ((j0 + 1) * 3)) htk
   rw [List.drop_take] at this
   rw [show (L.length - (j0 + 1)) * 3 = L.length * 3 - (j0 + 1) * 3 by omega, this]
   have e3 : L.flatMap Lp.cells = (L.take (j0 + 1)).flatMap Lp.cells ++ (L.drop (j0 + 1)).flatMap Lp.cells := by rw [← List.flatMap_append, List.take_append_drop]
   rw [e3, List.drop_append, List.drop_of_length_le (by rw [lp_len, List.length_take]; omega), List.nil_append, lp_len, List.length_take, Nat.min_eq_left (by omega), Nat.sub_self, List.drop_zero]
 rintro ⟨i, j, cur⟩ ⟨hij, hj, hi, hcl1, htk1, hdr1⟩
 simp only at hij hj hi hcl1 htk1 hdr1 ⊢
 refine Wp.seq ?_
 refine Yn 4 rfl ?_
 refine Wp.cond rfl (fun c1 => ?_) (fun c1 => ?_)
 ·have c1 := of_decide_eq_true c1
  have hlt : j < L.length := by omega
  have hseg := hdr1
  rw [List.drop_eq_getElem_cons hlt, List.flatMap_cons] at hseg
  obtain ⟨hat1, hnx1⟩ := seg_cut (m := 3) hseg rfl (by omega)
  have hat : (cur.drop (0 + j * 3)).take 3 = Lp.cells L[j] := by rw [Nat.zero_add]; exact hat1
  have hnx : (cur.drop ((j + 1) * 3)).take ((L.length - (j + 1)) * 3) = (L.drop (j + 1)).flatMap Lp.cells := by
   rw [show (j + 1) * 3 = j * 3 + 3 by omega, show (L.length - (j + 1)) * 3 = (L.length - j) * 3 - 3 by omega]
   exact hnx1
  refine Wp.skip ?_
  refine Wp.seq ?_
  refine Wp.block ?_
  refine Yg 2 rfl ?_
  refine OWp.g rfl rfl (Gives.indexAddrSlice (j) rfl rfl rfl rfl rfl rfl (by omega)) ?_
  refine OWp.load (.head _) rfl rfl rfl rfl (partAt_agg hat rfl rfl rfl) ?_
  refine Ya rfl rfl rfl rfl fun L7 hBL7 hLL7 => ?_
  refine OWp.step rfl (Step.storeAs 0 (Lp.cells L[j]) rfl rfl rfl rfl rfl (by assumption) rfl (Unfz.zero _) rfl (Nat.le_of_ble_eq_true rfl) rfl rfl ?_)
  refine OWp.nil ?_
  refine Yg 1 rfl ?_
  refine Yl m0 ?_
  refine OWp.step rfl (Step.callB rfl rfl rfl rfl rfl hc (hf L[j] _ _ (fun y hy => .tail _ (.tail _ hy)) ?_))
  generalize hb : f L[j] = bb
  cases bb
  ·skip
   refine Yz 1 rfl ?_
   refine Cy rfl ?_
   refine Yg 2 rfl ?_
   refine Yl m0 ?_
   refine OWp.g rfl rfl (Gives.indexAddrSlice (i) rfl rfl rfl rfl rfl rfl (by omega)) ?_
   refine OWp.step rfl (Step.storeAs 1 (wr cur (0 + i * 3) (Lp.cells L[j])) rfl rfl rfl rfl rfl hB rfl (Unfz.zero _) rfl (by rw [hcl1]; show 0 + i * 3 + 3 ≤ _; omega) rfl rfl ?_)
   refine OWp.nil ?_
   refine Wp.drop (S' := (b, cel (wr cur (0 + i * 3) (Lp.cells L[j])) 187) :: R) (List.sublist_cons_self _ _) ?_
   refine Wp.region ?_
   refine Yz 3 rfl ?_
   refine Wp.region ?_
   refine Yz 3 rfl ?_
   have hw : 0 + i * 3 + (Lp.cells L[j]).length ≤ cur.length := by rw [hcl1]; show 0 + i * 3 + 3 ≤ _; omega
   have hw3 : (Lp.cells L[j]).length = 3 := rfl
   have e2 : ((L.take (j + 1)).filter fun x => !f x) = ((L.take j).filter fun x => !f x) ++ [L[j]] := by rw [filter_snoc hlt]; simp [hb]
   refine ⟨(i + 1, j + 1, wr cur (0 + i * 3) (Lp.cells L[j])), by simp only; omega, ⟨by simp only; omega, hlt, by simp only; rw [e2, List.length_append, ← hi]; rfl, by simp only; rw [wr_length hw, hcl1], ?_, ?_⟩, .cons rfl (.cons rfl (.cons' rfl (int_eq (i64_inc (by omega))) (.cons' rfl (int_eq (i64_inc (by omega))) (.nil _)))), .refl _⟩
   ·simp only
    rw [e2, List.flatMap_append, List.flatMap_singleton, ← htk1]
    have := wr_take2 hw
    rw [hw3, show 0 + i * 3 + 3 = (i + 1) * 3 by omega] at this
    rw [this, Nat.zero_add]
   ·simp only
    rw [wr_drop (by rw [hw3]; omega) (by rw [hcl1]; omega)]
    exact hnx
  refine Yz 1 rfl ?_
  refine Cn rfl ?_
  refine Wp.skip ?_
  refine Wp.drop (S' := (b, cel cur 187) :: R) (List.sublist_cons_self _ _) ?_
  refine Wp.region ?_
  refine Yz 3 rfl ?_
  have e2 : ((L.take (j + 1)).filter fun x => !f x) = ((L.take j).filter fun x => !f x) := by rw [filter_snoc hlt]; simp [hb]
  exact ⟨(i, j + 1, cur), by simp only; omega, ⟨by simp only; omega, hlt, by simp only; rw [e2]; exact hi, hcl1, by simp only; rw [e2]; exact htk1, hnx⟩, .cons rfl (.cons rfl (.cons rfl (.cons' rfl (int_eq (i64_inc (by omega))) (.nil _)))), .refl _⟩
 have c1 := of_decide_eq_false c1
 obtain rfl : j = L.length := by omega
 refine Wp.exit ?_
 refine Yg 2 rfl ?_
 refine OWp.g rfl rfl (Gives.sliceSlice (l := i) (h' := L.length) rfl rfl rfl rfl ⟨_, _, rfl, rfl⟩ rfl (by omega) (by omega) (by omega)) ?_
 refine OWp.step rfl (Step.clear (k := L.length - i) 0 (wr cur (0 + i * 3) (zeros [.string (str []), .int .i64 0, .bool false] (L.length - i))) rfl rfl rfl rfl (by decide) rfl rfl (by omega) rfl hB (Unfz.zero _) (by rw [hcl1]; show 0 + i * 3 + (L.length - i) * 3 ≤ _; omega) rfl rfl ?_)
 refine OWp.nil ?_
 refine Yg 2 rfl ?_
 refine OWp.g rfl rfl (Gives.sliceSlice (l := 0) (h' := i) rfl rfl rfl rfl rfl ⟨_, _, rfl, rfl⟩ (by omega) (by omega) (by omega)) ?_
 refine Yz 1 rfl ?_
 refine Wp.ret ⟨trivial, _, ⟨_, _, rfl, rfl, rfl⟩, ?_⟩
 have hz : (zeros [Value.string (str []), .int .i64 0, .bool false] (L.length - i)).length = (L.length - i) * 3 := zeros_length _ _
 rw [List.take_length] at hi htk1
 refine H _ [_] ⟨lp_len _, .inr ⟨b, ac, _, ?_, rfl, hB, by omega, hmx, by rw [wr_length (by rw [hz, hcl1]; omega), hcl1], ?_⟩⟩
 ·rw [← hi]; rfl
 ·rw [← hi, ← htk1, Nat.zero_add, wr_take (by rw [hcl1]; omega)]
theorem lmoveC {p : Nat} {wd dl th now at_ : Int} {lv : Value} {L : List Lp} {es : Ents} (hB : B ≤ p) (hp : lpP wd dl th) (h0 : 0 ≤ now) (h1 : now ≤ at_) (h2 : at_ ≤ 1099511627776) (ho : Lg.Own B 187 3 lv L.length (L.flatMap Lp.cells) es) (hl : L.length ≤ 140737488355328)
  (H : ∀ lv' es', Lg.Own B 187 3 lv' (keepF wd dl at_ L).length ((keepF wd dl at_ L).flatMap Lp.cells) es' → Q (.int .i64 0) ((p, cel (lgc wd dl th at_ lv') 147) :: (es' ++ R))) :
  CallWp Tryz.prog B 82 #[.pointer (some ⟨p, 0, none⟩), .int .i64 at_] Q ((p, cel (lgc wd dl th now lv) 147) :: (es ++ R)) := by
 obtain ⟨aa, ac, rfl⟩ := ho.reads.form
 refine Yx (args := [_, _]) Tryz.func82 Tryz.ntmps82 ?_
 refine Yn 1 rfl ?_
 refine Wp.seq ?_
 refine Wp.block ?_
 refine Yg 4 rfl ?_
 refine Yl m0 ?_
 refine Yz 2 rfl ?_
 refine Ct rfl (by omega) fun cc1 => ?_
 refine Yn 3 rfl ?_
 refine Ct rfl (by omega) fun cc2 => ?_
 refine Wp.skip ?_
 refine Yg 4 rfl ?_
 refine OWp.step rfl (Step.storeAs 0 (lgc wd dl th at_ (.slice aa L.length ac)) rfl rfl rfl rfl rfl (by assumption) rfl (Unfz.zero _) rfl (Nat.le_of_ble_eq_true rfl) rfl rfl ?_)
 refine OWp.nil ?_
 refine Yn 3 rfl ?_
 refine Yg 4 rfl ?_
 refine Yl m0 ?_
 refine OWp.permS List.perm_middle.symm ?_
 refine Ye 1 rfl ?_
 refine Yc rfl rfl (delLpC (bnd := #[.pointer (some ⟨p, 0, none⟩)]) (f := oldF wd dl at_) rfl ho hl (fun x S' Q' hs h => oldC (hs _ (.head _)) hp (by omega) h2 h) ?_)
 intro lv' es' ho'
 refine OWp.permS List.perm_middle ?_
 obtain ⟨va, vc, rfl⟩ := ho'.reads.form
 refine Ye 2 rfl ?_
 refine OWp.step rfl (Step.storeAs 0 (lgc wd dl th at_ (.slice va (L.filter fun x => !oldF wd dl at_ x).length vc)) rfl rfl rfl rfl rfl (by assumption) rfl (Unfz.zero _) rfl (Nat.le_of_ble_eq_true rfl) rfl rfl ?_)
 refine OWp.nil ?_
 refine Yn 1 rfl ?_
 refine Wp.ret ⟨trivial, _, ⟨_, _, rfl, rfl, rfl⟩, ?_⟩
 exact H _ es' ho'
theorem lfindC {p b cap : Nat} {wd dl th now : Int} {L : List Lp} {id : List UInt8} {cur : List Value} (hm : (p, cel (lgc wd dl th now (.slice (some ⟨b, 0, none⟩) L.length cap)) 147) ∈ S) (hm2 : (b, cel cur 187) ∈ S) (htk : cur.take (L.length * 3) = L.flatMap Lp.cells) (hl : L.length ≤ 140737488355328)
  (H0 : (∀ x ∈ L, x.id ≠ id) → Q (.pointer none) S) (H1 : ∀ i (h : i < L.length), L[i].id = id → (∀ k (hk : k < L.length), k < i → L[k].id ≠ id) → Q (.pointer (some ⟨b, 0 + i * 3, none⟩)) S) :
  CallWp Tryz.prog B 83 #[.pointer (some ⟨p, 0, none⟩), .string (str id)] Q S := by
 have hat : ∀ i (h : i < L.length), (cur.drop (0 + i * 3)).take 3 = Lp.cells L[i] := by
  intro i hi
  have := flatMap_at L (lp_flat L) i hi
  rw [← htk, List.drop_take, List.take_take, Nat.min_eq_left (by omega)] at this
  rw [Nat.zero_add]; exact this
 refine Yx (args := [_, _]) Tryz.func83 Tryz.ntmps83 ?_
 refine Yn 1 rfl ?_
 refine Wp.seq ?_
 refine Yg 3 rfl ?_
 refine Yl hm ?_
 refine Yz 2 rfl ?_
 refine Wp.block ?_
 refine Wp.loopS (α := Nat) (fun i => L.length - i) (fun i => [(0, .pointer (some ⟨p, 0, none⟩)), (1, .string (str id)), (10, .int .i64 (L.length : Int)), (11, .int .i64 (i : Int))]) (fun _ => S) (fun i => i ≤ L.length ∧ ∀ k (hk : k < L.length), k < i → L[k].id ≠ id) 0 ?_ (.refl _) ⟨Nat.zero_le _, fun _ _ h => by omega⟩ ?_
 ·exact .cons rfl (.cons rfl (.cons rfl (.cons rfl (.nil _))))
 rintro i ⟨hi, hno⟩
 refine Yn 1 rfl ?_
 refine Wp.seq ?_
 refine Wp.cond rfl (fun c1 => ?_) (fun c1 => ?_)
 ·have c1 := of_decide_eq_true c1
  have hlt : i < L.length := by omega
  refine Wp.skip ?_
  refine Wp.seq ?_
  refine Wp.block ?_
  refine Yn 2 rfl ?_
  refine Yg 3 rfl ?_
  refine Yl hm ?_
  refine Ye 1 rfl ?_
  refine OWp.g rfl rfl (Gives.indexAddrSlice (i) rfl rfl rfl rfl rfl rfl (by omega)) ?_
  refine Ye 1 rfl ?_
  refine OWp.load hm2 rfl rfl rfl rfl ((partAt_in (m := 0) (hat i hlt) rfl (by decide) (by decide)).trans rfl) ?_
  refine Yz 2 rfl ?_
  refine Wp.cond rfl (fun c2 => ?_) (fun c2 => ?_)
  ·have c2 := of_decide_eq_true c2
   refine Yg 3 rfl ?_
   refine Yl hm ?_
   refine Ye 1 rfl ?_
   refine OWp.g rfl rfl (Gives.indexAddrSlice (i) rfl rfl rfl rfl rfl rfl (by omega)) ?_
   refine Yz 1 rfl ?_
   refine Wp.ret ⟨trivial, _, ⟨_, _, rfl, rfl, rfl⟩, ?_⟩
   exact H1 i hlt c2 hno
  have c2 := of_decide_eq_false c2
  refine Wp.skip ?_
  refine Wp.region ?_
  refine Yz 2 rfl ?_
  refine ⟨i + 1, by omega, ⟨by omega, fun k hk hki => ?_⟩, .cons rfl (.cons rfl (.cons rfl (.cons' rfl (int_eq (i64_inc (by omega))) (.nil _)))), .refl _⟩
  by_cases e : k = i
  ·subst e; exact c2
  ·exact hno k hk (by omega)
 have c1 := of_decide_eq_false c1
 refine Wp.exit ?_
 refine Yn 1 rfl ?_
 refine Wp.ret ⟨trivial, _, ⟨_, _, rfl, rfl, rfl⟩, ?_⟩
 refine H0 fun x hx => ?_
 obtain ⟨k, hk, rfl⟩ := List.mem_iff_getElem.1 hx
 exact hno k hk (by omega)
theorem lfindNilC {p : Nat} {wd dl th now : Int} {id : List UInt8} (hm : (p, cel (lgc wd dl th now (.slice none 0 0)) 147) ∈ S) (H0 : Q (.pointer none) S) :
  CallWp Tryz.prog B 83 #[.pointer (some ⟨p, 0, none⟩), .string (str id)] Q S := by
 refine Yx (args := [_, _]) Tryz.func83 Tryz.ntmps83 ?_
 refine Yn 1 rfl ?_
 refine Wp.seq ?_
 refine Yg 3 rfl ?_
 refine Yl hm ?_
 refine Yz 2 rfl ?_
 refine Wp.block ?_
 refine Wp.loopS (α := Unit) (fun _ => 0) (fun _ => [(10, .int .i64 0), (11, .int .i64 0)]) (fun _ => S) (fun _ => True) () ?_ (.refl _) trivial ?_
 ·exact .cons rfl (.cons rfl (.nil _))
 rintro _ _
 refine Yn 1 rfl ?_
 refine Wp.seq ?_
 refine Ct rfl (by decide) fun cc1 => ?_
 refine Wp.exit ?_
 refine Yn 1 rfl ?_
 refine Wp.ret ⟨trivial, _, ⟨_, _, rfl, rfl, rfl⟩, ?_⟩
 exact H0
theorem lfindAnyC {p : Nat} {wd dl th now : Int} {lv : Value} {L : List Lp} {es : Ents} {id : List UInt8} (ho : Lg.Own B 187 3 lv L.length (L.flatMap Lp.cells) es) (hl : L.length ≤ 140737488355328) (hm : (p, cel (lgc wd dl th now lv) 147) ∈ S) (hs : ∀ x ∈ es, x ∈ S)
  (H0 : (∀ x ∈ L, x.id ≠ id) → Q (.pointer none) S) (H1 : (∃ x ∈ L, x.id = id) → ∀ a, Q (.pointer (some a)) S) :
  CallWp Tryz.prog B 83 #[.pointer (some ⟨p, 0, none⟩), .string (str id)] Q S := by
 obtain ⟨_, ⟨rfl, h0, _⟩ | ⟨b, cap, cur, rfl, rfl, hB, hk, hmx, hcl, htk⟩⟩ := ho
 ·obtain rfl : L = [] := List.eq_nil_of_length_eq_zero h0
  exact lfindNilC hm (H0 (by simp))
 ·exact lfindC hm (hs _ (.head _)) htk hl H0 (fun i hi he _ => H1 ⟨L[i], List.getElem_mem hi, he⟩ _)
/-- What Sent leaves of a ledger. -/
def sentR (wd dl at_ : Int) (id : List UInt8) (L : List Lp) : List Lp :=
 if id.length ≠ 16 ∨ (∃ x ∈ keepF wd dl at_ L, x.id = id) ∨ 4096 ≤ (keepF wd dl at_ L).length then keepF wd dl at_ L else keepF wd dl at_ L ++ [⟨id, at_, false⟩]
theorem keepF_len (wd dl at_ : Int) (L : List Lp) : (keepF wd dl at_ L).length ≤ L.length := List.length_filter_le _ _
theorem sentR_len (wd dl at_ : Int) (id : List UInt8) {L : List Lp} (h : L.length ≤ 4096) : (sentR wd dl at_ id L).length ≤ 4096 := by
 have := keepF_len wd dl at_ L
 unfold sentR
 split
 ·omega
 ·rename_i hn
  rw [List.length_append]
  have : ¬ 4096 ≤ (keepF wd dl at_ L).length := fun e => hn (.inr (.inr e))
  simp only [List.length_singleton]
  omega
theorem lsentC {p : Nat} {wd dl th now at_ : Int} {lv : Value} {L : List Lp} {es : Ents} {id : List UInt8} (hid : id.length = 16) (hB : B ≤ p) (hp : lpP wd dl th) (h0 : 0 ≤ now) (h1 : now ≤ at_) (h2 : at_ ≤ 1099511627776) (ho : Lg.Own B 187 3 lv L.length (L.flatMap Lp.cells) es) (hl : L.length ≤ 4096)
  (H : ∀ e lv' es', Lg.Own B 187 3 lv' (sentR wd dl at_ id L).length ((sentR wd dl at_ id L).flatMap Lp.cells) es' → Q (.int .i64 e) ((p, cel (lgc wd dl th at_ lv') 147) :: (es' ++ R))) :
  CallWp Tryz.prog B 68 #[.pointer (some ⟨p, 0, none⟩), .int .i64 at_, .string (str id)] Q ((p, cel (lgc wd dl th now lv) 147) :: (es ++ R)) := by
 obtain ⟨K, hK⟩ : ∃ K, K = keepF wd dl at_ L := ⟨_, rfl⟩
 have hKl : K.length ≤ 4096 := by rw [hK]; have := keepF_len wd dl at_ L; omega
 have hR : sentR wd dl at_ id L = if (∃ x ∈ K, x.id = id) ∨ 4096 ≤ K.length then K else K ++ [⟨id, at_, false⟩] := by
  unfold sentR; rw [← hK]
  by_cases h : (∃ x ∈ K, x.id = id) ∨ 4096 ≤ K.length
  ·rw [if_pos h, if_pos (.inr h)]
  ·rw [if_neg h, if_neg (fun e => e.elim (fun e => e hid) h)]
 rw [hR] at H
 refine Yx (args := [_, _, _]) Tryz.func68 Tryz.ntmps68 ?_
 refine Yn 1 rfl ?_
 refine Wp.seq ?_
 refine Yg 2 rfl ?_
 refine Yc rfl rfl (lmoveC hB hp h0 h1 h2 ho (by omega) ?_)
 rw [← hK]
 intro lv' es' ho'
 refine Yz 1 rfl ?_
 refine Yn 2 rfl ?_
 refine Cu rfl (by exact fun h => h rfl) fun cc1 => ?_
 refine Wp.skip ?_
 refine Wp.seq ?_
 refine Wp.block ?_
 refine Yn 4 rfl ?_
 refine Cu rfl (by omega) fun cc2 => ?_
 refine Yg 2 rfl ?_
 refine Yc rfl rfl (lfindAnyC ho' (by omega) (.head _) (fun x h => .tail _ (List.mem_append_left _ h)) ?_ ?_)
 intro hno
 ·skip
  refine Yz 2 rfl ?_
  refine Cn rfl ?_
  obtain ⟨va, vc, rfl⟩ := ho'.reads.form
  refine Yg 3 rfl ?_
  refine Yl m0 ?_
  refine Yz 3 rfl ?_
  refine Wp.cond rfl (fun c4 => ?_) (fun c4 => ?_)
  ·have c4 := of_decide_eq_true c4
   refine Yn 1 rfl ?_
   refine Wp.ret ⟨trivial, _, ⟨_, _, rfl, rfl, rfl⟩, ?_⟩
   rw [if_pos (.inr (by omega))] at H
   exact H _ _ es' ho'
  have c4 := of_decide_eq_false c4
  rw [if_neg (fun e => e.elim (fun ⟨x, hx, h⟩ => hno x hx h) (fun h => c4 (by omega)))] at H
  refine Wp.skip ?_
  refine Yg 4 rfl ?_
  refine Yl m0 ?_
  refine Ye 2 rfl ?_
  refine OWp.g rfl rfl (Gives.build rfl rfl) ?_
  refine OWp.step rfl (Step.buildSlice rfl rfl rfl ?_); intro Lp3 hBLp3 hLLp3
  refine OWp.step rfl (Step.appendAt [_, _] rfl rfl rfl rfl rfl rfl (by decide) rfl rfl ho' (Reads.row (k := 1) (sz := 3) (.head _) (Nat.le_of_ble_eq_true rfl)) rfl (by show (_ + 1) * 32 ≤ _; omega) (by unfold maxLen; omega) ?_); intro lv2 es2 ho2 _
  refine OWp.dropAt 0 rfl ?_
  obtain ⟨wa, wc, rfl⟩ := ho2.reads.form
  refine Ye 2 rfl ?_
  refine OWp.step rfl (Step.storeAs 0 (lgc wd dl th at_ (.slice wa (K.length + 1) wc)) rfl rfl rfl rfl rfl (by assumption) rfl (Unfz.zero _) rfl (Nat.le_of_ble_eq_true rfl) rfl rfl ?_)
  refine OWp.nil ?_
  refine Yn 1 rfl ?_
  refine Wp.ret ⟨trivial, _, ⟨_, _, rfl, rfl, rfl⟩, ?_⟩
  refine H _ _ es2 ?_
  rw [List.length_append, List.flatMap_append]
  exact ho2
 intro hsome a
 refine Yz 2 rfl ?_
 refine Cy rfl ?_
 refine Yn 1 rfl ?_
 refine Wp.ret ⟨trivial, _, ⟨_, _, rfl, rfl, rfl⟩, ?_⟩
 rw [if_pos (.inl hsome)] at H
 exact H _ _ es' ho'
end
end Go.Proofs.D
