/- What functions of the given program do, one after the other, told by that layer. -/
import Derived.Test.YtlfhhkdjahcglaaGreatDoorKM8x1aa8
import Derived.Test.YtlfhhkdjahcglaaGreatDoorKM10x67fe
import Derived.Test.YtlfhhkdjahcglaaGreatDoorLgM5xae9c
/- Clone, IndexFunc, ContainsFunc over rows of several kinds (printed by gx.py). -/
namespace Go.Proofs.D
open Go.Lg Go.Sha Go.Hd Go.Cv
open Go.Proofs.C (Hop hopP hopB parse pathE encB tp word TIn Nd ndc St stc TownOk HostOf)
set_option maxRecDepth 100000
abbrev Slot := List UInt8 × List UInt8
def slc (x : Slot) : List Value := [.string (str x.1), .string (str x.2)]
theorem sl_flat (l : List Slot) : ∀ x ∈ l, (slc x).length = 2 := fun _ _ => rfl
structure Lp where
 id : List UInt8
 at_ : Int
 came : Bool
def Lp.cells (x : Lp) : List Value := [.string (str x.id), .int .i64 x.at_, .bool x.came]
theorem lp_flat (l : List Lp) : ∀ x ∈ l, (Lp.cells x).length = 3 := fun _ _ => rfl
theorem flat_one {α : Type} {f : α → List Value} (hf : ∀ x, (f x).all (·.oneCell') = true) : ∀ l : List α, (l.flatMap f).all (·.oneCell') = true
 | [] => rfl
 | x :: l => by rw [List.flatMap_cons, List.all_append, hf x, flat_one hf l]; rfl
theorem ndc_one (x : Nd) : (ndc x).all (·.oneCell') = true := rfl
theorem stc_one (x : St) : (stc x).all (·.oneCell') = true := rfl
section
variable {B : Nat} {S R : Ents} {Q : Value → Ents → Prop}

theorem cloneNdC {v : Value} {k : Nat} {xs : List Value} (hl : Reads S 2 v k xs) (h1 : xs.all (·.oneCell') = true) (hk : k * 24 ≤ 140737488355328)
    (H : ∀ v' es', Lg.Own B 135 2 v' k xs es' → Q v' (es' ++ S)) : CallWp Tryz.prog B 60 #[v] Q S := by
  obtain ⟨aa, ac, rfl⟩ := hl.form
  refine Yx (args := [_]) Tryz.func60 Tryz.ntmps60 ?_
  refine Yn 1 rfl ?_
  refine Wp.seq ?_
  refine Yn 2 rfl ?_
  refine Wp.cond rfl (fun h0 => ?_) (fun h0 => ?_)
  · skip
    obtain rfl : aa = none := by simpa using h0
    obtain rfl : k = 0 := by obtain ⟨_, ⟨_, h⟩ | ⟨_, _, _, _, _, _, h, _⟩⟩ := hl
                             · exact h
                             · cases h
    obtain rfl : xs = [] := List.eq_nil_of_length_eq_zero (by have := hl.1; omega)
    refine Yn 1 rfl ?_
    refine Wp.ret ⟨trivial, _, ⟨_, _, rfl, rfl, rfl⟩, ?_⟩
    exact H _ [] (Own.nil _ _ _)
  refine Wp.skip ?_
  refine Yq ?_
  refine OWp.step rfl (Step.buildSlice rfl rfl rfl ?_); intro L hBL hLL
  refine Ye 1 rfl ?_
  refine OWp.step rfl (Step.append (e := 135) (es := [(L, cel [] 135)]) (R := S) rfl rfl rfl rfl rfl rfl (by decide) rfl rfl (fun _ h => h) (Own.row hBL rfl (by decide)) (hl.mono fun x hx => .tail _ hx) h1 (by show (0 + k) * 24 ≤ _; omega) (by unfold maxLen; omega) ?_)
  intro v' es' ho _
  refine Yz 1 rfl ?_
  refine Wp.ret ⟨trivial, _, ⟨_, _, rfl, rfl, rfl⟩, ?_⟩
  rw [Nat.zero_add] at ho; exact H v' es' ho
theorem cloneStC {v : Value} {k : Nat} {xs : List Value} (hl : Reads S 2 v k xs) (h1 : xs.all (·.oneCell') = true) (hk : k * 16 ≤ 140737488355328)
    (H : ∀ v' es', Lg.Own B 137 2 v' k xs es' → Q v' (es' ++ S)) : CallWp Tryz.prog B 61 #[v] Q S := by
  obtain ⟨aa, ac, rfl⟩ := hl.form
  refine Yx (args := [_]) Tryz.func61 Tryz.ntmps61 ?_
  refine Yn 1 rfl ?_
  refine Wp.seq ?_
  refine Yn 2 rfl ?_
  refine Wp.cond rfl (fun h0 => ?_) (fun h0 => ?_)
  · skip
    obtain rfl : aa = none := by simpa using h0
    obtain rfl : k = 0 := by obtain ⟨_, ⟨_, h⟩ | ⟨_, _, _, _, _, _, h, _⟩⟩ := hl
                             · exact h
                             · cases h
    obtain rfl : xs = [] := List.eq_nil_of_length_eq_zero (by have := hl.1; omega)
    refine Yn 1 rfl ?_
    refine Wp.ret ⟨trivial, _, ⟨_, _, rfl, rfl, rfl⟩, ?_⟩
    exact H _ [] (Own.nil _ _ _)
  refine Wp.skip ?_
  refine Yq ?_
  refine OWp.step rfl (Step.buildSlice rfl rfl rfl ?_); intro L hBL hLL
  refine Ye 1 rfl ?_
  refine OWp.step rfl (Step.append (e := 137) (es := [(L, cel [] 137)]) (R := S) rfl rfl rfl rfl rfl rfl (by decide) rfl rfl (fun _ h => h) (Own.row hBL rfl (by decide)) (hl.mono fun x hx => .tail _ hx) h1 (by show (0 + k) * 16 ≤ _; omega) (by unfold maxLen; omega) ?_)
  intro v' es' ho _
  refine Yz 1 rfl ?_
  refine Wp.ret ⟨trivial, _, ⟨_, _, rfl, rfl, rfl⟩, ?_⟩
  rw [Nat.zero_add] at ho; exact H v' es' ho
theorem cloneStrC {v : Value} {k : Nat} {xs : List Value} (hl : Reads S 1 v k xs) (h1 : xs.all (·.oneCell') = true) (hk : k * 16 ≤ 140737488355328)
    (H : ∀ v' es', Lg.Own B 9 1 v' k xs es' → Q v' (es' ++ S)) : CallWp Tryz.prog B 127 #[v] Q S := by
  obtain ⟨aa, ac, rfl⟩ := hl.form
  refine Yx (args := [_]) Tryz.func127 Tryz.ntmps127 ?_
  refine Yn 1 rfl ?_
  refine Wp.seq ?_
  refine Yn 2 rfl ?_
  refine Wp.cond rfl (fun h0 => ?_) (fun h0 => ?_)
  · skip
    obtain rfl : aa = none := by simpa using h0
    obtain rfl : k = 0 := by obtain ⟨_, ⟨_, h⟩ | ⟨_, _, _, _, _, _, h, _⟩⟩ := hl
                             · exact h
                             · cases h
    obtain rfl : xs = [] := List.eq_nil_of_length_eq_zero (by have := hl.1; omega)
    refine Yn 1 rfl ?_
    refine Wp.ret ⟨trivial, _, ⟨_, _, rfl, rfl, rfl⟩, ?_⟩
    exact H _ [] (Own.nil _ _ _)
  refine Wp.skip ?_
  refine Yq ?_
  refine OWp.step rfl (Step.buildSlice rfl rfl rfl ?_); intro L hBL hLL
  refine Ye 1 rfl ?_
  refine OWp.step rfl (Step.append (e := 9) (es := [(L, cel [] 9)]) (R := S) rfl rfl rfl rfl rfl rfl (by decide) rfl rfl (fun _ h => h) (Own.row hBL rfl (by decide)) (hl.mono fun x hx => .tail _ hx) h1 (by show (0 + k) * 16 ≤ _; omega) (by unfold maxLen; omega) ?_)
  intro v' es' ho _
  refine Yz 1 rfl ?_
  refine Wp.ret ⟨trivial, _, ⟨_, _, rfl, rfl, rfl⟩, ?_⟩
  rw [Nat.zero_add] at ho; exact H v' es' ho
theorem cloneStrN (H : Q (.slice none 0 0) S) : CallWp Tryz.prog B 127 #[.slice none 0 0] Q S := by
 refine Yx (args := [_]) Tryz.func127 Tryz.ntmps127 ?_
 refine Yn 1 rfl ?_
 refine Wp.seq ?_
 refine Yn 2 rfl ?_
 refine Wp.cond rfl (fun _ => ?_) (fun c => nomatch c)
 refine Yn 1 rfl ?_
 refine Wp.ret ⟨trivial, _, ⟨_, _, rfl, rfl, rfl⟩, ?_⟩
 exact H
theorem cloneSlN (H : Q (.slice none 0 0) S) : CallWp Tryz.prog B 128 #[.slice none 0 0] Q S := by
 refine Yx (args := [_]) Tryz.func128 Tryz.ntmps128 ?_
 refine Yn 1 rfl ?_
 refine Wp.seq ?_
 refine Yn 2 rfl ?_
 refine Wp.cond rfl (fun _ => ?_) (fun c => nomatch c)
 refine Yn 1 rfl ?_
 refine Wp.ret ⟨trivial, _, ⟨_, _, rfl, rfl, rfl⟩, ?_⟩
 exact H
theorem ixStrC {v : Value} {n : Nat} {l : List (List UInt8)} {g : FuncId} {bnd : Array Value} {f : (List UInt8) → Bool} (hc : callable Tryz.prog g = true) (hl : Reads S 1 v n (strs l)) (hn : l.length = n) (hm : n ≤ 140737488355328)
  (hf : ∀ x ∈ l, ∀ Q' : Value → Ents → Prop, Q' (.bool (f x)) S → CallWp Tryz.prog B g (bnd.toList ++ [Value.string (str x)] ++ []).toArray Q' S)
  (h0 : (∀ x ∈ l, f x = false) → Q (.int .i64 (-1)) S)
  (h1 : ∀ j (hj : j < l.length), (∀ i (hi : i < j), f l[i] = false) → f l[j] = true → Q (.int .i64 (j : Int)) S) :
  CallWp Tryz.prog B 155 #[v, .func (.func g) bnd #[]] Q S := by
 obtain ⟨aa, ac, rfl⟩ := hl.form
 subst hn
 refine Yx (args := [_, _]) Tryz.func155 Tryz.ntmps155 ?_
 refine Yn 1 rfl ?_
 refine Wp.seq ?_
 refine Yn 3 rfl ?_
 refine Wp.block ?_
 refine Wp.loopS (α := Nat) (fun i => l.length - i) (fun i => [(8, .int .i64 (i : Int)), (7, .int .i64 (l.length : Int)), (0, .slice aa l.length ac), (1, .func (.func g) bnd #[])]) (fun _ => S) (fun i => i ≤ l.length ∧ ∀ k (hk : k < l.length), k < i → f l[k] = false) 0 ?_ (.refl _) ⟨Nat.zero_le _, fun _ _ h => by omega⟩ ?_
 ·exact .cons rfl (.cons rfl (.cons rfl (.cons rfl (.nil _))))
 rintro i ⟨hi, he⟩
 refine Yn 1 rfl ?_
 refine Wp.seq ?_
 refine Wp.cond rfl (fun h2 => ?_) (fun h2 => ?_)
 ·have h2 := of_decide_eq_true h2
  have hlt : i < l.length := by omega
  obtain ⟨b, o, cap', l', e, fz, hv, hm', _, hg'⟩ := hl.get1 (by omega)
  cases hv
  have x1 : l[i]? = some l[i] := by simp
  refine Wp.skip ?_
  refine Wp.seq ?_
  refine Wp.block ?_
  refine Yn 2 rfl ?_
  refine Yg 3 rfl ?_
  refine OWp.g rfl rfl (Gives.indexAddrSlice (i) rfl rfl rfl rfl rfl rfl (by omega)) ?_
  refine OWp.load (hm') rfl rfl rfl rfl ((hg' i hlt).trans (by rw [strs, List.getElem?_map, x1]; rfl)) ?_
  refine OWp.step rfl (Step.callB rfl rfl rfl rfl rfl hc (hf l[i] (List.getElem_mem hlt) _ ?_))
  generalize hb : f l[i] = b
  cases b
  ·skip
   refine OWp.nil ?_
   refine Wp.cond rfl (fun c => nomatch c) (fun _ => ?_)
   refine Wp.skip ?_
   refine Wp.region ?_
   refine Yz 2 rfl ?_
   refine ⟨i + 1, by omega, ⟨by omega, fun k hk hki => ?_⟩, ?_, .refl _⟩
   ·by_cases e : k = i
    ·subst e; exact hb
    ·exact he k hk (by omega)
   ·exact .cons' rfl (int_eq (by rw [i64_id] <;> omega)) (.cons rfl (.cons rfl (.cons rfl (.nil _))))
  refine OWp.nil ?_
  refine Wp.cond rfl (fun _ => ?_) (fun c => nomatch c)
  refine Yn 2 rfl ?_
  refine Wp.ret ⟨trivial, _, ⟨_, _, rfl, rfl, rfl⟩, ?_⟩
  exact h1 i hlt (fun k hk => he k (by omega) hk) hb
 have h2 := of_decide_eq_false h2
 refine Wp.exit ?_
 refine Yn 1 rfl ?_
 refine Wp.ret ⟨trivial, _, ⟨_, _, rfl, rfl, rfl⟩, ?_⟩
 refine h0 fun x hx => ?_
 obtain ⟨k, hk, rfl⟩ := List.mem_iff_getElem.1 hx
 exact he k hk (by omega)
theorem hasStrC {v : Value} {n : Nat} {l : List (List UInt8)} {g : FuncId} {bnd : Array Value} {f : (List UInt8) → Bool} (hc : callable Tryz.prog g = true) (hl : Reads S 1 v n (strs l)) (hn : l.length = n) (hm : n ≤ 140737488355328)
  (hf : ∀ x ∈ l, ∀ Q' : Value → Ents → Prop, Q' (.bool (f x)) S → CallWp Tryz.prog B g (bnd.toList ++ [Value.string (str x)] ++ []).toArray Q' S) (h : Q (.bool (l.any f)) S) :
  CallWp Tryz.prog B 120 #[v, .func (.func g) bnd #[]] Q S := by
 refine Yx (args := [_, _]) Tryz.func120 Tryz.ntmps120 ?_
 refine Yn 1 rfl ?_
 refine Yg 2 rfl ?_
 refine OWp.step rfl (Step.call rfl rfl rfl rfl rfl rfl ((ixStrC hc hl hn hm hf ?_ ?_)))
 intro h0
 ·skip
  refine Yz 2 rfl ?_
  refine Wp.ret ⟨trivial, _, ⟨_, _, rfl, rfl, rfl⟩, ?_⟩
  rw [show l.any f = false from List.any_eq_false.2 fun x hx => by simp [h0 x hx]] at h
  exact h
 intro j hj _ hj1
 refine Yz 2 rfl ?_
 refine Wp.ret ⟨trivial, _, ⟨_, _, rfl, rfl, rfl⟩, ?_⟩
 rw [show l.any f = true from List.any_eq_true.2 ⟨l[j], List.getElem_mem hj, hj1⟩] at h
 rw [decide_eq_true (by omega)]
 exact h
theorem ixSlC {v : Value} {n : Nat} {l : List Slot} {g : FuncId} {bnd : Array Value} {f : Slot → Bool} (hc : callable Tryz.prog g = true) (hl : Reads S 2 v n (l.flatMap slc)) (hn : l.length = n) (hm : n ≤ 140737488355328)
  (hf : ∀ x ∈ l, ∀ Q' : Value → Ents → Prop, Q' (.bool (f x)) S → CallWp Tryz.prog B g (bnd.toList ++ [Value.agg (slc x).toArray] ++ []).toArray Q' S)
  (h0 : (∀ x ∈ l, f x = false) → Q (.int .i64 (-1)) S)
  (h1 : ∀ j (hj : j < l.length), (∀ i (hi : i < j), f l[i] = false) → f l[j] = true → Q (.int .i64 (j : Int)) S) :
  CallWp Tryz.prog B 154 #[v, .func (.func g) bnd #[]] Q S := by
 obtain ⟨aa, ac, rfl⟩ := hl.form
 subst hn
 refine Yx (args := [_, _]) Tryz.func154 Tryz.ntmps154 ?_
 refine Yn 1 rfl ?_
 refine Wp.seq ?_
 refine Yn 3 rfl ?_
 refine Wp.block ?_
 refine Wp.loopS (α := Nat) (fun i => l.length - i) (fun i => [(8, .int .i64 (i : Int)), (7, .int .i64 (l.length : Int)), (0, .slice aa l.length ac), (1, .func (.func g) bnd #[])]) (fun _ => S) (fun i => i ≤ l.length ∧ ∀ k (hk : k < l.length), k < i → f l[k] = false) 0 ?_ (.refl _) ⟨Nat.zero_le _, fun _ _ h => by omega⟩ ?_
 ·exact .cons rfl (.cons rfl (.cons rfl (.cons rfl (.nil _))))
 rintro i ⟨hi, he⟩
 refine Yn 1 rfl ?_
 refine Wp.seq ?_
 refine Wp.cond rfl (fun h2 => ?_) (fun h2 => ?_)
 ·have h2 := of_decide_eq_true h2
  have hlt : i < l.length := by omega
  obtain ⟨b, o, cap', l', e, fz, hv, hm', hat⟩ := hl.elem (sz := 2) (sl_flat l) (by omega)
  cases hv
  refine Wp.skip ?_
  refine Wp.seq ?_
  refine Wp.block ?_
  refine Yn 2 rfl ?_
  refine Yg 3 rfl ?_
  refine OWp.g rfl rfl (Gives.indexAddrSlice (i) rfl rfl rfl rfl rfl rfl (by omega)) ?_
  refine OWp.load (hm') rfl rfl rfl rfl (partAt_agg (hat i hlt) rfl rfl rfl) ?_
  refine OWp.step rfl (Step.callB rfl rfl rfl rfl rfl hc (hf l[i] (List.getElem_mem hlt) _ ?_))
  generalize hb : f l[i] = b
  cases b
  ·skip
   refine OWp.nil ?_
   refine Wp.cond rfl (fun c => nomatch c) (fun _ => ?_)
   refine Wp.skip ?_
   refine Wp.region ?_
   refine Yz 2 rfl ?_
   refine ⟨i + 1, by omega, ⟨by omega, fun k hk hki => ?_⟩, ?_, .refl _⟩
   ·by_cases e : k = i
    ·subst e; exact hb
    ·exact he k hk (by omega)
   ·exact .cons' rfl (int_eq (by rw [i64_id] <;> omega)) (.cons rfl (.cons rfl (.cons rfl (.nil _))))
  refine OWp.nil ?_
  refine Wp.cond rfl (fun _ => ?_) (fun c => nomatch c)
  refine Yn 2 rfl ?_
  refine Wp.ret ⟨trivial, _, ⟨_, _, rfl, rfl, rfl⟩, ?_⟩
  exact h1 i hlt (fun k hk => he k (by omega) hk) hb
 have h2 := of_decide_eq_false h2
 refine Wp.exit ?_
 refine Yn 1 rfl ?_
 refine Wp.ret ⟨trivial, _, ⟨_, _, rfl, rfl, rfl⟩, ?_⟩
 refine h0 fun x hx => ?_
 obtain ⟨k, hk, rfl⟩ := List.mem_iff_getElem.1 hx
 exact he k hk (by omega)
theorem hasSlC {v : Value} {n : Nat} {l : List Slot} {g : FuncId} {bnd : Array Value} {f : Slot → Bool} (hc : callable Tryz.prog g = true) (hl : Reads S 2 v n (l.flatMap slc)) (hn : l.length = n) (hm : n ≤ 140737488355328)
  (hf : ∀ x ∈ l, ∀ Q' : Value → Ents → Prop, Q' (.bool (f x)) S → CallWp Tryz.prog B g (bnd.toList ++ [Value.agg (slc x).toArray] ++ []).toArray Q' S) (h : Q (.bool (l.any f)) S) :
  CallWp Tryz.prog B 118 #[v, .func (.func g) bnd #[]] Q S := by
 refine Yx (args := [_, _]) Tryz.func118 Tryz.ntmps118 ?_
 refine Yn 1 rfl ?_
 refine Yg 2 rfl ?_
 refine OWp.step rfl (Step.call rfl rfl rfl rfl rfl rfl ((ixSlC hc hl hn hm hf ?_ ?_)))
 intro h0
 ·skip
  refine Yz 2 rfl ?_
  refine Wp.ret ⟨trivial, _, ⟨_, _, rfl, rfl, rfl⟩, ?_⟩
  rw [show l.any f = false from List.any_eq_false.2 fun x hx => by simp [h0 x hx]] at h
  exact h
 intro j hj _ hj1
 refine Yz 2 rfl ?_
 refine Wp.ret ⟨trivial, _, ⟨_, _, rfl, rfl, rfl⟩, ?_⟩
 rw [show l.any f = true from List.any_eq_true.2 ⟨l[j], List.getElem_mem hj, hj1⟩] at h
 rw [decide_eq_true (by omega)]
 exact h
theorem ixLpC {v : Value} {n : Nat} {l : List Lp} {g : FuncId} {bnd : Array Value} {f : Lp → Bool} (hc : callable Tryz.prog g = true) (hl : Reads S 3 v n (l.flatMap Lp.cells)) (hn : l.length = n) (hm : n ≤ 140737488355328)
  (hf : ∀ x ∈ l, ∀ Q' : Value → Ents → Prop, Q' (.bool (f x)) S → CallWp Tryz.prog B g (bnd.toList ++ [Value.agg (Lp.cells x).toArray] ++ []).toArray Q' S)
  (h0 : (∀ x ∈ l, f x = false) → Q (.int .i64 (-1)) S)
  (h1 : ∀ j (hj : j < l.length), (∀ i (hi : i < j), f l[i] = false) → f l[j] = true → Q (.int .i64 (j : Int)) S) :
  CallWp Tryz.prog B 156 #[v, .func (.func g) bnd #[]] Q S := by
 obtain ⟨aa, ac, rfl⟩ := hl.form
 subst hn
 refine Yx (args := [_, _]) Tryz.func156 Tryz.ntmps156 ?_
 refine Yn 1 rfl ?_
 refine Wp.seq ?_
 refine Yn 3 rfl ?_
 refine Wp.block ?_
 refine Wp.loopS (α := Nat) (fun i => l.length - i) (fun i => [(8, .int .i64 (i : Int)), (7, .int .i64 (l.length : Int)), (0, .slice aa l.length ac), (1, .func (.func g) bnd #[])]) (fun _ => S) (fun i => i ≤ l.length ∧ ∀ k (hk : k < l.length), k < i → f l[k] = false) 0 ?_ (.refl _) ⟨Nat.zero_le _, fun _ _ h => by omega⟩ ?_
 ·exact .cons rfl (.cons rfl (.cons rfl (.cons rfl (.nil _))))
 rintro i ⟨hi, he⟩
 refine Yn 1 rfl ?_
 refine Wp.seq ?_
 refine Wp.cond rfl (fun h2 => ?_) (fun h2 => ?_)
 ·have h2 := of_decide_eq_true h2
  have hlt : i < l.length := by omega
  obtain ⟨b, o, cap', l', e, fz, hv, hm', hat⟩ := hl.elem (sz := 3) (lp_flat l) (by omega)
  cases hv
  refine Wp.skip ?_
  refine Wp.seq ?_
  refine Wp.block ?_
  refine Yn 2 rfl ?_
  refine Yg 3 rfl ?_
  refine OWp.g rfl rfl (Gives.indexAddrSlice (i) rfl rfl rfl rfl rfl rfl (by omega)) ?_
  refine OWp.load (hm') rfl rfl rfl rfl (partAt_agg (hat i hlt) rfl rfl rfl) ?_
  refine OWp.step rfl (Step.callB rfl rfl rfl rfl rfl hc (hf l[i] (List.getElem_mem hlt) _ ?_))
  generalize hb : f l[i] = b
  cases b
  ·skip
   refine OWp.nil ?_
   refine Wp.cond rfl (fun c => nomatch c) (fun _ => ?_)
   refine Wp.skip ?_
   refine Wp.region ?_
   refine Yz 2 rfl ?_
   refine ⟨i + 1, by omega, ⟨by omega, fun k hk hki => ?_⟩, ?_, .refl _⟩
   ·by_cases e : k = i
    ·subst e; exact hb
    ·exact he k hk (by omega)
   ·exact .cons' rfl (int_eq (by rw [i64_id] <;> omega)) (.cons rfl (.cons rfl (.cons rfl (.nil _))))
  refine OWp.nil ?_
  refine Wp.cond rfl (fun _ => ?_) (fun c => nomatch c)
  refine Yn 2 rfl ?_
  refine Wp.ret ⟨trivial, _, ⟨_, _, rfl, rfl, rfl⟩, ?_⟩
  exact h1 i hlt (fun k hk => he k (by omega) hk) hb
 have h2 := of_decide_eq_false h2
 refine Wp.exit ?_
 refine Yn 1 rfl ?_
 refine Wp.ret ⟨trivial, _, ⟨_, _, rfl, rfl, rfl⟩, ?_⟩
 refine h0 fun x hx => ?_
 obtain ⟨k, hk, rfl⟩ := List.mem_iff_getElem.1 hx
 exact he k hk (by omega)
end
end Go.Proofs.D

/- Short digests; strings laid end to end. -/
namespace Go.Proofs.D
open Go.Lg Go.Sha Go.Hd Go.Cv
open Go.Proofs.C (tp)
set_option maxRecDepth 100000
/-- How long the first texts are. -/
def ln (l : List (List UInt8)) (i : Nat) : Nat := (l.take i).flatten.length
theorem ln_succ {l : List (List UInt8)} {i : Nat} (h : i < l.length) : ln l (i + 1) = ln l i + l[i].length := by
 unfold ln
 rw [List.take_succ_eq_append_getElem h, List.flatten_append, List.length_append]
 simp
theorem ln_le (l : List (List UInt8)) (i : Nat) : ln l i ≤ l.flatten.length := by
 unfold ln
 conv => rhs; rw [← List.take_append_drop i l, List.flatten_append, List.length_append]
 omega
theorem flat_succ {l : List (List UInt8)} {i : Nat} (h : i < l.length) : (l.take (i + 1)).flatten = (l.take i).flatten ++ l[i] := by
 rw [List.take_succ_eq_append_getElem h, List.flatten_append]
 simp
section
variable {B : Nat} {S R : Ents} {Q : Value → Ents → Prop}
set_option maxHeartbeats 1000000 in
theorem joinC {v : Value} {n : Nat} {l : List (List UInt8)} (hl : Reads S 1 v n (strs l)) (hcap : ∀ a m c, v = .slice a m c → m ≤ c) (hn : n ≤ 1099511627776) (ht : l.flatten.length ≤ 1099511627776) (h0 : 2 ≤ n → 0 < l.flatten.length) (H : Q (.string (str l.flatten)) S) :
  CallWp Tryz.prog B 80 #[v, .string (str [])] Q S := by
 obtain ⟨aa, ac, rfl⟩ := hl.form
 have e1 : l.length = n := by have := hl.1; rw [strs_length] at this; omega
 subst e1
 have hc0 := hcap _ _ _ rfl
 refine CallWp.dropRet ?_
 refine Yx (args := [_, _]) Tryz.func80 Tryz.ntmps80 ?_
 refine Yn 1 rfl ?_
 refine Wp.seq ?_
 refine Yn 2 rfl ?_
 refine Wp.block ?_
 refine Yn 2 rfl ?_
 refine Wp.cond rfl (fun c0 => ?_) (fun c0 => ?_)
 ·have c0 := of_decide_eq_true c0
  obtain rfl : l = [] := List.eq_nil_of_length_eq_zero (by omega)
  refine Yn 1 rfl ?_
  refine Wp.ret ⟨trivial, _, ⟨_, _, rfl, rfl, rfl⟩, ?_⟩
  exact ⟨S, .refl _, H⟩
 have c0 := of_decide_eq_false c0
 refine Yn 2 rfl ?_
 refine Wp.cond rfl (fun c1 => ?_) (fun c1 => ?_)
 ·have c1 := of_decide_eq_true c1
  obtain ⟨b, o, cap', l', e, fz, hv, hm', _, hg'⟩ := hl.get1 (by omega)
  cases hv
  obtain ⟨x, rfl⟩ : ∃ x, l = [x] := by
   cases l with
   | nil => simp at c1
   | cons x r => cases r with
    | nil => exact ⟨x, rfl⟩
    | cons y r => simp at c1; omega
  refine Yg 1 rfl ?_
  refine OWp.g rfl rfl (Gives.indexAddrSlice (0) rfl rfl rfl rfl rfl rfl (Nat.lt_succ_self 0)) ?_
  refine OWp.load (hm') rfl rfl rfl rfl (hg' 0 (Nat.lt_succ_self 0)) ?_
  refine Yz 1 rfl ?_
  refine Wp.ret ⟨trivial, _, ⟨_, _, rfl, rfl, rfl⟩, ?_⟩
  rw [show [x].flatten = x by simp] at H; exact ⟨S, .refl _, H⟩
 have c1 := of_decide_eq_false c1
 refine Wp.skip ?_
 refine Yn 1 rfl ?_
 refine Wp.seq ?_
 refine Yn 3 rfl ?_
 refine Wp.cond rfl (fun cc1 => absurd (of_decide_eq_true cc1) (by decide)) (fun cc1 => ?_)
 have cc1 := of_decide_eq_false cc1
 refine Wp.skip ?_
 refine Wp.seq ?_
 refine Yn 3 rfl ?_
 refine Wp.block ?_
 refine Wp.loopS (α := Nat) (fun i => l.length - i) (fun i => [(0, .slice aa l.length ac), (1, .string (str [])), (5, .int .i64 (ln l i : Nat)), (39, .slice aa l.length ac), (40, .int .i64 (l.length : Int)), (41, .int .i64 (i : Int))]) (fun _ => S) (fun i => i ≤ l.length) 0 ?_ (.refl _) (Nat.zero_le _) ?_
 ·exact .cons rfl (.cons rfl (.cons rfl (.cons rfl (.cons rfl (.cons rfl (.nil _))))))
 rintro i hi
 have hlen := ln_le l i
 obtain ⟨b, o, cap', l', e, fz, hv, hm', _, hg'⟩ := hl.get1 (by omega)
 cases hv
 refine Yn 1 rfl ?_
 refine Wp.seq ?_
 refine Wp.cond rfl (fun c2 => ?_) (fun c2 => ?_)
 ·have c2 := of_decide_eq_true c2
  have hlt : i < l.length := by omega
  have x1 : l[i]? = some l[i] := by simp
  have hs := ln_succ hlt
  have hlen2 := ln_le l (i + 1)
  refine Wp.skip ?_
  refine Wp.seq ?_
  refine Wp.block ?_
  refine Yq ?_
  refine OWp.g rfl rfl (Gives.indexAddrSlice (i) rfl rfl rfl rfl rfl rfl (by omega)) ?_
  refine OWp.load (hm') rfl rfl rfl rfl ((hg' i hlt).trans (by rw [strs, List.getElem?_map, x1]; rfl)) ?_
  refine Yz 1 rfl ?_
  refine Wp.seq ?_
  refine Yn 5 rfl ?_
  refine Wp.cond rfl (fun cc2 => absurd (of_decide_eq_true cc2) (by rw [i64_id (by omega) (by omega)]; omega)) (fun cc2 => ?_)
  have cc2 := of_decide_eq_false cc2
  refine Wp.skip ?_
  refine Wp.region ?_
  refine Yz 5 rfl ?_
  refine Wp.region ?_
  refine Yz 2 rfl ?_
  exact ⟨i + 1, by omega, by omega, .cons rfl (.cons rfl (.cons' rfl (int_eq (by rw [i64_id] <;> omega)) (.cons rfl (.cons rfl (.cons' rfl (int_eq (i64_inc (by omega))) (.nil _)))))), .refl _⟩
 have c2 := of_decide_eq_false c2
 obtain rfl : i = l.length := by omega
 have htot : ln l l.length = l.flatten.length := by unfold ln; rw [List.take_length]
 rw [htot]
 refine Wp.exit ?_
 refine Yq ?_
 refine Ya rfl rfl rfl rfl fun L8 hBL8 hLL8 => ?_
 refine OWp.nil ?_
 refine Yg 1 rfl ?_
 refine OWp.step rfl (Step.call rfl rfl rfl rfl rfl rfl ((bGrowOutC hBL8 (h0 (by omega)) (by omega) ?_)))
 intro es1 hb1
 have h00 : 0 < l.length := by omega
 have x0 : l[0]? = some l[0] := by simp
 refine OWp.nil ?_
 refine Yg 1 rfl ?_
 refine OWp.g rfl rfl (Gives.indexAddrSlice (0) rfl rfl rfl rfl rfl rfl h00) ?_
 refine OWp.load (List.mem_append_right _ hm') rfl rfl rfl rfl ((hg' 0 h00).trans (by rw [strs, List.getElem?_map, x0]; rfl)) ?_
 have hs0 : ln l 1 = ln l 0 + l[0].length := ln_succ h00
 have hl0 := ln_le l 1
 refine OWp.step rfl (Step.call rfl rfl rfl rfl rfl rfl ((bWriteC (s := l[0]) hb1 (by simp only [List.length_nil]; omega) ?_)))
 rw [List.nil_append]
 intro es2 hb2
 refine OWp.nil ?_
 refine Wp.seq ?_
 refine Yg 1 rfl ?_
 refine OWp.g rfl rfl (Gives.sliceSlice (l := 1) (h' := l.length) rfl rfl rfl rfl ⟨_, _, rfl, rfl⟩ rfl (by omega) (by omega) (by omega)) ?_
 refine Yz 2 rfl ?_
 refine Wp.block ?_
 refine Wp.loopS (α := Nat × Ents) (fun z => l.length - 1 - z.1) (fun z => [(1, .string (str [])), (8, pt L8), (63, .slice (some ⟨b, o + 1 * 1, none⟩) (l.length - 1) (ac - 1)), (64, .int .i64 ((l.length - 1 : Nat) : Int)), (65, .int .i64 (z.1 : Int))]) (fun z => z.2 ++ S) (fun z => z.1 ≤ l.length - 1 ∧ Bd B L8 (l.take (z.1 + 1)).flatten z.2) (0, es2) ?_ (.refl _) ⟨Nat.zero_le _, by rw [flat_succ h00]; simpa using hb2⟩ ?_
 ·exact .cons rfl (.cons rfl (.cons rfl (.cons rfl (.cons rfl (.nil _)))))
 rintro ⟨k, es⟩ ⟨hk, hbk⟩
 simp only at hk hbk ⊢
 refine Yn 1 rfl ?_
 refine Wp.seq ?_
 refine Wp.cond rfl (fun c3 => ?_) (fun c3 => ?_)
 ·have c3 := of_decide_eq_true c3
  have hlt : k + 1 < l.length := by omega
  have x1 : l[k + 1]? = some l[k + 1] := by simp
  refine Wp.skip ?_
  refine Wp.seq ?_
  refine Wp.block ?_
  refine Yq ?_
  refine OWp.g rfl rfl (Gives.indexAddrSlice (k) rfl rfl rfl rfl rfl rfl (by omega)) ?_
  refine OWp.load (List.mem_append_right _ hm') rfl rfl rfl rfl ((congrArg (l'[·]?) (by omega : o + 1 * 1 + k * 1 = o + (k + 1) * 1)).trans ((hg' (k + 1) hlt).trans (by rw [strs, List.getElem?_map, x1]; rfl))) ?_
  have hs := ln_succ hlt
  have hlen2 := ln_le l (k + 1 + 1)
  have hlen3 := ln_le l (k + 1)
  unfold ln at hs hlen2 hlen3
  refine Yz 1 rfl ?_
  refine Yg 1 rfl ?_
  refine OWp.step rfl (Step.call rfl rfl rfl rfl rfl rfl ((bWriteC (s := []) hbk (by simp only [List.length_nil]; omega) ?_)))
  rw [List.append_nil]
  intro es3 hb3
  refine OWp.nil ?_
  refine Wp.region ?_
  refine Ye 1 rfl ?_
  refine OWp.step rfl (Step.call rfl rfl rfl rfl rfl rfl ((bWriteC (s := l[k + 1]) hb3 (by omega) ?_)))
  rw [← flat_succ hlt]
  intro es4 hb4
  refine OWp.nil ?_
  refine Wp.region ?_
  refine Yz 2 rfl ?_
  exact ⟨(k + 1, es4), by simp only; omega, ⟨by simp only; omega, hb4⟩, .cons rfl (.cons rfl (.cons rfl (.cons rfl (.cons' rfl (int_eq (i64_inc (by omega))) (.nil _))))), .refl _⟩
 have c3 := of_decide_eq_false c3
 obtain rfl : k = l.length - 1 := by omega
 refine Wp.exit ?_
 refine Yq ?_
 refine OWp.step rfl (Step.call rfl rfl rfl rfl rfl rfl ((bStringC hbk ?_)))
 rw [show l.length - 1 + 1 = l.length by omega, List.take_length]
 intro es3 hb3
 refine Yz 1 rfl ?_
 refine Wp.ret ⟨trivial, _, ⟨_, _, rfl, rfl, rfl⟩, ?_⟩
 exact ⟨S, List.sublist_append_right _ _, H⟩
end
end Go.Proofs.D

/- Messages: what may be. -/
namespace Go.Proofs.D
open Go.Lg Go.Sha Go.Hd Go.Cv
set_option maxRecDepth 100000
def noId : List UInt8 := List.replicate 16 0
def idP (s : List UInt8) : Prop := s.length = 16 ∧ s ≠ noId
instance (s : List UInt8) : Decidable (idP s) := by unfold idP; infer_instance
def entP (x : Slot) : Prop := idP x.1 ∧ x.2.length ≤ 222
instance (x : Slot) : Decidable (entP x) := by unfold entP; infer_instance
/-- Slots that may be: entries, and behind them none. -/
def fillP (l : List Slot) : Prop := l.length = 4 ∧ ∃ n, n ≤ l.length ∧ (∀ i (h : i < l.length), i < n → entP l[i]) ∧ ∀ i (h : i < l.length), n ≤ i → l[i] = ([], [])
structure Ml where
 kind : Int
 user : Int
 seq : Int
 text : List UInt8
 tag : List UInt8
 slots : List Slot
 ids : List (List UInt8)
/-- A message's cells. -/
def mlc (kind user seq : Int) (text tag : List UInt8) (sv iv : Value) : List Value := [.int .i64 kind, .int .i64 user, .int .i64 seq, .string (str text), .string (str tag), sv, iv]
def whoP (user seq : Int) : Prop := 0 ≤ user ∧ user < 64 ∧ 1 ≤ seq ∧ seq ≤ 2147483647
section
variable {B : Nat} {S R : Ents} {Q : Value → Ents → Prop}
theorem mlongC {k : Int} {n : Nat} (h : k = 1 ∧ n = 505 ∨ k = 2 ∧ n = 38 ∨ k = 3 ∧ n = 962 ∨ k = 4 ∧ n = 102) (H : Q (.int .i64 (n : Int)) S) : CallWp Tryz.prog B 19 #[.int .i64 k] Q S := by
 rcases h with ⟨rfl, rfl⟩ | ⟨rfl, rfl⟩ | ⟨rfl, rfl⟩ | ⟨rfl, rfl⟩
 ·skip
  refine Yx (args := [_]) Tryz.func19 Tryz.ntmps19 ?_
  refine Yn 1 rfl ?_
  refine Wp.seq ?_
  refine Yn 1 rfl ?_
  refine Wp.block ?_
  refine Yn 2 rfl ?_
  refine Wp.cond rfl (fun cc1 => ?_) (fun cc1 => absurd (of_decide_eq_false cc1) (by decide))
  have cc1 := of_decide_eq_true cc1
  refine Yn 1 rfl ?_
  refine Wp.ret ⟨trivial, _, ⟨_, _, rfl, rfl, rfl⟩, ?_⟩
  exact H
 ·skip
  refine Yx (args := [_]) Tryz.func19 Tryz.ntmps19 ?_
  refine Yn 1 rfl ?_
  refine Wp.seq ?_
  refine Yn 1 rfl ?_
  refine Wp.block ?_
  refine Yn 2 rfl ?_
  refine Wp.cond rfl (fun cc1 => absurd (of_decide_eq_true cc1) (by decide)) (fun cc1 => ?_)
  have cc1 := of_decide_eq_false cc1
  refine Yn 2 rfl ?_
  refine Wp.cond rfl (fun cc2 => ?_) (fun cc2 => absurd (of_decide_eq_false cc2) (by decide))
  have cc2 := of_decide_eq_true cc2
  refine Yn 1 rfl ?_
  refine Wp.ret ⟨trivial, _, ⟨_, _, rfl, rfl, rfl⟩, ?_⟩
  exact H
 ·skip
  refine Yx (args := [_]) Tryz.func19 Tryz.ntmps19 ?_
  refine Yn 1 rfl ?_
  refine Wp.seq ?_
  refine Yn 1 rfl ?_
  refine Wp.block ?_
  refine Yn 2 rfl ?_
  refine Wp.cond rfl (fun cc1 => absurd (of_decide_eq_true cc1) (by decide)) (fun cc1 => ?_)
  have cc1 := of_decide_eq_false cc1
  refine Yn 2 rfl ?_
  refine Wp.cond rfl (fun cc2 => absurd (of_decide_eq_true cc2) (by decide)) (fun cc2 => ?_)
  have cc2 := of_decide_eq_false cc2
  refine Yn 2 rfl ?_
  refine Wp.cond rfl (fun cc3 => ?_) (fun cc3 => absurd (of_decide_eq_false cc3) (by decide))
  have cc3 := of_decide_eq_true cc3
  refine Yn 1 rfl ?_
  refine Wp.ret ⟨trivial, _, ⟨_, _, rfl, rfl, rfl⟩, ?_⟩
  exact H
 ·skip
  refine Yx (args := [_]) Tryz.func19 Tryz.ntmps19 ?_
  refine Yn 1 rfl ?_
  refine Wp.seq ?_
  refine Yn 1 rfl ?_
  refine Wp.block ?_
  refine Yn 2 rfl ?_
  refine Wp.cond rfl (fun cc1 => absurd (of_decide_eq_true cc1) (by decide)) (fun cc1 => ?_)
  have cc1 := of_decide_eq_false cc1
  refine Yn 2 rfl ?_
  refine Wp.cond rfl (fun cc2 => absurd (of_decide_eq_true cc2) (by decide)) (fun cc2 => ?_)
  have cc2 := of_decide_eq_false cc2
  refine Yn 2 rfl ?_
  refine Wp.cond rfl (fun cc3 => absurd (of_decide_eq_true cc3) (by decide)) (fun cc3 => ?_)
  have cc3 := of_decide_eq_false cc3
  refine Yn 2 rfl ?_
  refine Wp.cond rfl (fun cc4 => ?_) (fun cc4 => absurd (of_decide_eq_false cc4) (by decide))
  have cc4 := of_decide_eq_true cc4
  refine Yn 1 rfl ?_
  refine Wp.ret ⟨trivial, _, ⟨_, _, rfl, rfl, rfl⟩, ?_⟩
  exact H
theorem isIdC {s : List UInt8} (H : Q (.bool (decide (idP s))) S) : CallWp Tryz.prog B 122 #[.string (str s)] Q S := by
 refine Yx (args := [_]) Tryz.func122 Tryz.ntmps122 ?_
 refine Yn 1 rfl ?_
 refine Yg 4 rfl ?_
 refine OWp.part 6 rfl (fun h1 => ?_) (fun h1 => ?_)
 ·have h1 := of_decide_eq_true h1
  refine Yz 4 rfl ?_
  refine Wp.ret ⟨trivial, _, ⟨_, _, rfl, rfl, rfl⟩, ?_⟩
  rw [show (!decide (s = ([0, 0, 0, 0, 0, 0, 0, 0, 0, 0, 0, 0, 0, 0, 0, 0] : List UInt8))) = decide (idP s) by
   rw [Bool.eq_iff_iff, decide_eq_true_iff]
   unfold idP
   rw [show noId = ([0, 0, 0, 0, 0, 0, 0, 0, 0, 0, 0, 0, 0, 0, 0, 0] : List UInt8) from rfl]
   simp only [Bool.not_eq_true', decide_eq_false_iff_not]
   constructor
   ·intro h; exact ⟨by omega, h⟩
   ·intro h; exact h.2]
  exact H
 have h1 := of_decide_eq_false h1
 refine Yz 4 rfl ?_
 refine Wp.ret ⟨trivial, _, ⟨_, _, rfl, rfl, rfl⟩, ?_⟩
 rw [decide_eq_false (fun e : idP s => h1 (by rw [e.1]; rfl))] at H
 exact H
theorem entryC {x : Slot} (H : Q (.bool (decide (entP x))) S) : CallWp Tryz.prog B 117 #[.agg (slc x).toArray] Q S := by
 refine CallWp.dropRet ?_
 refine Yx (args := [_]) Tryz.func117 Tryz.ntmps117 ?_
 refine Yq ?_
 refine Yb rfl rfl rfl rfl fun L1 hBL1 hLL1 => ?_
 refine Yz 1 rfl ?_
 refine Yg 1 rfl ?_
 refine Yl m0 ?_
 refine OWp.step rfl (Step.call rfl rfl rfl rfl rfl rfl ((isIdC ?_)))
 by_cases h1 : idP x.1
 ·skip
  rw [decide_eq_true h1]
  refine Ye 1 rfl ?_
  refine Ye 1 rfl ?_
  refine Yl m0 ?_
  refine Yz 4 rfl ?_
  refine Wp.ret ⟨trivial, _, ⟨_, _, rfl, rfl, rfl⟩, ?_⟩
  refine ⟨S, subl, ?_⟩
  rw [show decide (((x.2.length : Nat) : Int) ≤ 222) = decide (entP x) from decide_eq_decide.2 ⟨fun h => ⟨h1, by omega⟩, fun h => by have := h.2; omega⟩]
  exact H
 rw [decide_eq_false h1]
 refine Ye 1 rfl ?_
 refine Yz 6 rfl ?_
 refine Wp.ret ⟨trivial, _, ⟨_, _, rfl, rfl, rfl⟩, ?_⟩
 rw [decide_eq_false (fun e : entP x => h1 e.1)] at H
 exact ⟨S, subl, H⟩
theorem stranger1C {s : List UInt8} (H : Q (.bool (!decide (idP s))) S) : CallWp Tryz.prog B 121 #[.string (str s)] Q S := by
 refine Yx (args := [_]) Tryz.func121 Tryz.ntmps121 ?_
 refine Yn 1 rfl ?_
 refine Yg 1 rfl ?_
 refine OWp.step rfl (Step.call rfl rfl rfl rfl rfl rfl ((isIdC ?_)))
 refine Yz 2 rfl ?_
 refine Wp.ret ⟨trivial, _, ⟨_, _, rfl, rfl, rfl⟩, ?_⟩
 exact H
theorem strangerC {v : Value} {n : Nat} {l : List (List UInt8)} (hl : Reads S 1 v n (strs l)) (hn : l.length = n) (hm : n ≤ 140737488355328) (H : Q (.bool (l.any fun s => !decide (idP s))) S) : CallWp Tryz.prog B 79 #[v] Q S := by
 refine Yx (args := [_]) Tryz.func79 Tryz.ntmps79 ?_
 refine Yn 1 rfl ?_
 refine Yg 1 rfl ?_
 refine OWp.step rfl (Step.call rfl rfl rfl rfl rfl rfl ((hasStrC (bnd := #[]) (f := fun s => !decide (idP s)) rfl hl hn hm (fun s _ Q' h => stranger1C h) ?_)))
 refine Yz 1 rfl ?_
 refine Wp.ret ⟨trivial, _, ⟨_, _, rfl, rfl, rfl⟩, ?_⟩
 exact H
theorem padC {s : List UInt8} {n : Nat} (hs : s.length ≤ n) (hn : n ≤ 2147483648) (H : Q (.string (str (s ++ List.replicate (n - s.length) 0))) S) : CallWp Tryz.prog B 48 #[.string (str s), .int .i64 (n : Int)] Q S := by
 refine Yx (args := [_, _]) Tryz.func48 Tryz.ntmps48 ?_
 refine Yn 1 rfl ?_
 refine Yg 5 rfl ?_
 refine OWp.step rfl (Step.call rfl rfl rfl rfl rfl rfl ((zerosEqC (n := n - s.length) (by rw [i64_id] <;> omega) (by omega) ?_)))
 refine OWp.g rfl rfl (Gives.addStr rfl rfl rfl (by rw [List.length_replicate]; omega)) ?_
 refine Yz 1 rfl ?_
 refine Wp.ret ⟨trivial, _, ⟨_, _, rfl, rfl, rfl⟩, ?_⟩
 exact H
theorem mjoinC {v : Value} {n : Nat} {l : List (List UInt8)} (hl : Reads S 1 v n (strs l)) (hcap : ∀ a m c, v = .slice a m c → m ≤ c) (hn : n ≤ 1099511627776) (ht : l.flatten.length ≤ 1099511627776) (h0 : 2 ≤ n → 0 < l.flatten.length) (H : Q (.string (str l.flatten)) S) :
  CallWp Tryz.prog B 47 #[v] Q S := by
 refine Yx (args := [_]) Tryz.func47 Tryz.ntmps47 ?_
 refine Yn 1 rfl ?_
 refine Yg 1 rfl ?_
 refine OWp.step rfl (Step.call rfl rfl rfl rfl rfl rfl ((joinC hl hcap hn ht h0 ?_)))
 refine Yz 1 rfl ?_
 refine Wp.ret ⟨trivial, _, ⟨_, _, rfl, rfl, rfl⟩, ?_⟩
 exact H
/-! Check, kind by kind. -/
theorem checkPackC {text : List UInt8} (ht : text.length = 504) (H : Q (.int .i64 0) S) : CallWp Tryz.prog B 46 #[.agg (mlc 1 0 0 text [] (.slice none 0 0) (.slice none 0 0)).toArray] Q S := by
 refine CallWp.dropRet ?_
 refine Yx (args := [_]) Tryz.func46 Tryz.ntmps46 ?_
 refine Yq ?_
 refine Yb rfl rfl rfl rfl fun L1 hBL1 hLL1 => ?_
 refine Yz 1 rfl ?_
 refine Yg 1 rfl ?_
 refine Yl m0 ?_
 refine Ye 2 rfl ?_
 refine OWp.part 12 rfl (fun cc1 => ?_) (fun cc1 => absurd (of_decide_eq_false cc1) (by decide))
 have cc1 := of_decide_eq_true cc1
 refine Ye 1 rfl ?_
 refine Yl m0 ?_
 refine Ye 3 rfl ?_
 refine OWp.part 17 rfl (fun cc2 => ?_) (fun cc2 => absurd (of_decide_eq_false cc2) (by decide))
 have cc2 := of_decide_eq_true cc2
 refine Ye 1 rfl ?_
 refine Yl m0 ?_
 refine Ye 3 rfl ?_
 refine OWp.part 22 rfl (fun cc3 => absurd (of_decide_eq_true cc3) (by decide)) (fun cc3 => ?_)
 have cc3 := of_decide_eq_false cc3
 refine Yz 5 rfl ?_
 refine Yg 1 rfl ?_
 refine Yl m0 ?_
 refine Ye 2 rfl ?_
 refine OWp.part 30 rfl (fun cc4 => ?_) (fun cc4 => absurd (of_decide_eq_false cc4) (by decide))
 have cc4 := of_decide_eq_true cc4
 refine Ye 1 rfl ?_
 refine Yl m0 ?_
 refine Yz 3 rfl ?_
 refine Wp.seq (Wp.regionDraw [0, 1, 2, 3, 4, 5, 6, 7, 8, 9, 10, 11, 12, 13, 14, 15, 16, 17] [] rfl (by decide +kernel) ?_)
 refine DWp.evs 1 rfl ?_
 refine Yd m0 ?_
 refine DWp.evs 2 rfl ?_
 refine Yd m0 ?_
 refine DWp.evs 2 rfl ?_
 refine Yd m0 ?_
 refine DWp.evs 3 rfl ?_
 refine Yd m0 ?_
 refine DWp.evs 6 rfl ?_
 refine DWp.nil ?_
 refine Wp.seq ?_
 refine Yg 1 rfl ?_
 refine Yl m0 ?_
 refine OWp.nil ?_
 refine Wp.block ?_
 refine Yn 2 rfl ?_
 refine Wp.cond rfl (fun cc5 => ?_) (fun cc5 => absurd (of_decide_eq_false cc5) (by decide))
 have cc5 := of_decide_eq_true cc5
 refine Wp.regionDraw [0, 1, 2, 3, 4, 5, 6] [] rfl (by decide +kernel) ?_
 refine DWp.evs 2 rfl ?_
 refine Yd m0 ?_
 refine DWp.evs 4 rfl ?_
 refine DWp.nil ?_
 refine Wp.seq ?_
 refine Yg 3 rfl ?_
 refine OWp.part 87 rfl (fun cc6 => absurd (ndT cc6) (by exact fun h => h rfl)) (fun cc6 => ?_)
 have cc6 := ndF cc6
 refine Ye 4 rfl ?_
 refine OWp.part 91 rfl (fun cc7 => absurd (ndT cc7) (by exact fun h => h (by omega))) (fun cc7 => ?_)
 have cc7 := ndF cc7
 refine Ye 4 rfl ?_
 refine OWp.part 95 rfl (fun cc8 => absurd (ndT cc8) (by exact fun h => h rfl)) (fun cc8 => ?_)
 have cc8 := ndF cc8
 refine Ye 4 rfl ?_
 refine OWp.part 99 rfl (fun cc9 => absurd (ndT cc9) (by exact fun h => h rfl)) (fun cc9 => ?_)
 have cc9 := ndF cc9
 refine Yz 3 rfl ?_
 refine Wp.cond rfl (fun cc10 => absurd (ndT cc10) (by exact fun h => h rfl)) (fun cc10 => ?_)
 have cc10 := ndF cc10
 refine Wp.skip ?_
 refine Yn 1 rfl ?_
 refine Wp.ret ⟨trivial, _, ⟨_, _, rfl, rfl, rfl⟩, ?_⟩
 exact ⟨S, subl, H⟩
theorem checkPullC {user seq : Int} {tag : List UInt8} (hw : whoP user seq) (ht : tag.length = 32) (H : Q (.int .i64 0) S) : CallWp Tryz.prog B 46 #[.agg (mlc 2 user seq [] tag (.slice none 0 0) (.slice none 0 0)).toArray] Q S := by
 obtain ⟨w1, w2, w3, w4⟩ := hw
 refine CallWp.dropRet ?_
 refine Yx (args := [_]) Tryz.func46 Tryz.ntmps46 ?_
 refine Yq ?_
 refine Yb rfl rfl rfl rfl fun L1 hBL1 hLL1 => ?_
 refine Yz 1 rfl ?_
 refine Yg 1 rfl ?_
 refine Yl m0 ?_
 refine Ye 2 rfl ?_
 refine OWp.part 12 rfl (fun cc1 => ?_) (fun cc1 => absurd (of_decide_eq_false cc1) (by omega))
 have cc1 := of_decide_eq_true cc1
 refine Ye 1 rfl ?_
 refine Yl m0 ?_
 refine Ye 3 rfl ?_
 refine OWp.part 17 rfl (fun cc2 => ?_) (fun cc2 => absurd (of_decide_eq_false cc2) (by omega))
 have cc2 := of_decide_eq_true cc2
 refine Ye 1 rfl ?_
 refine Yl m0 ?_
 refine Ye 3 rfl ?_
 refine OWp.part 22 rfl (fun cc3 => ?_) (fun cc3 => absurd (of_decide_eq_false cc3) (by omega))
 have cc3 := of_decide_eq_true cc3
 refine Ye 1 rfl ?_
 refine Yl m0 ?_
 refine Yz 3 rfl ?_
 refine Yg 1 rfl ?_
 refine Yl m0 ?_
 refine Ye 2 rfl ?_
 refine OWp.part 30 rfl (fun u0 => ?_) (fun u0 => ?_)
 ·have u0 := of_decide_eq_true u0
  refine Ye 1 rfl ?_
  refine Yl m0 ?_
  refine Yz 3 rfl ?_
  refine Wp.seq (Wp.regionDraw [0, 1, 2, 3, 4, 5, 6, 7, 8, 9, 10, 11, 12, 13, 14, 15, 16, 17] [] rfl (by decide +kernel) ?_)
  refine DWp.evs 1 rfl ?_
  refine Yd m0 ?_
  refine DWp.evs 2 rfl ?_
  refine Yd m0 ?_
  refine DWp.evs 2 rfl ?_
  refine Yd m0 ?_
  refine DWp.evs 3 rfl ?_
  refine Yd m0 ?_
  refine DWp.evs 6 rfl ?_
  refine DWp.nil ?_
  refine Wp.seq ?_
  refine Yg 1 rfl ?_
  refine Yl m0 ?_
  refine OWp.nil ?_
  refine Wp.block ?_
  refine Yn 2 rfl ?_
  refine Wp.cond rfl (fun cc4 => absurd (of_decide_eq_true cc4) (by decide)) (fun cc4 => ?_)
  have cc4 := of_decide_eq_false cc4
  refine Yn 2 rfl ?_
  refine Wp.cond rfl (fun cc5 => ?_) (fun cc5 => absurd (of_decide_eq_false cc5) (by decide))
  have cc5 := of_decide_eq_true cc5
  refine Wp.region ?_
  refine Ye 1 rfl ?_
  refine Yl m0 ?_
  refine Yz 3 rfl ?_
  refine Wp.seq ?_
  refine Yg 3 rfl ?_
  refine OWp.part 87 rfl (fun cc6 => absurd (ndT cc6) (by exact fun h => h w4)) (fun cc6 => ?_)
  have cc6 := ndF cc6
  refine Ye 4 rfl ?_
  refine OWp.part 91 rfl (fun cc7 => absurd (ndT cc7) (by exact fun h => h rfl)) (fun cc7 => ?_)
  have cc7 := ndF cc7
  refine Ye 4 rfl ?_
  refine OWp.part 95 rfl (fun cc8 => absurd (ndT cc8) (by exact fun h => h (by omega))) (fun cc8 => ?_)
  have cc8 := ndF cc8
  refine Ye 4 rfl ?_
  refine OWp.part 99 rfl (fun cc9 => absurd (ndT cc9) (by exact fun h => h rfl)) (fun cc9 => ?_)
  have cc9 := ndF cc9
  refine Yz 3 rfl ?_
  refine Wp.cond rfl (fun cc10 => absurd (ndT cc10) (by exact fun h => h rfl)) (fun cc10 => ?_)
  have cc10 := ndF cc10
  refine Wp.skip ?_
  refine Yn 1 rfl ?_
  refine Wp.ret ⟨trivial, _, ⟨_, _, rfl, rfl, rfl⟩, ?_⟩
  exact ⟨S, subl, H⟩
 have u0 := of_decide_eq_false u0
 refine Yz 5 rfl ?_
 refine Wp.seq (Wp.regionDraw [0, 1, 2, 3, 4, 5, 6, 7, 8, 9, 10, 11, 12, 13, 14, 15, 16, 17] [] rfl (by decide +kernel) ?_)
 refine DWp.evs 1 rfl ?_
 refine Yd m0 ?_
 refine DWp.evs 2 rfl ?_
 refine Yd m0 ?_
 refine DWp.evs 2 rfl ?_
 refine Yd m0 ?_
 refine DWp.evs 3 rfl ?_
 refine Yd m0 ?_
 refine DWp.evs 6 rfl ?_
 refine DWp.nil ?_
 refine Wp.seq ?_
 refine Yg 1 rfl ?_
 refine Yl m0 ?_
 refine OWp.nil ?_
 refine Wp.block ?_
 refine Yn 2 rfl ?_
 refine Wp.cond rfl (fun cc11 => absurd (of_decide_eq_true cc11) (by decide)) (fun cc11 => ?_)
 have cc11 := of_decide_eq_false cc11
 refine Yn 2 rfl ?_
 refine Wp.cond rfl (fun cc12 => ?_) (fun cc12 => absurd (of_decide_eq_false cc12) (by decide))
 have cc12 := of_decide_eq_true cc12
 refine Wp.region ?_
 refine Ye 1 rfl ?_
 refine Yl m0 ?_
 refine Yz 3 rfl ?_
 refine Wp.seq ?_
 refine Yg 3 rfl ?_
 refine OWp.part 87 rfl (fun cc13 => absurd (ndT cc13) (by exact fun h => h w4)) (fun cc13 => ?_)
 have cc13 := ndF cc13
 refine Ye 4 rfl ?_
 refine OWp.part 91 rfl (fun cc14 => absurd (ndT cc14) (by exact fun h => h rfl)) (fun cc14 => ?_)
 have cc14 := ndF cc14
 refine Ye 4 rfl ?_
 refine OWp.part 95 rfl (fun cc15 => absurd (ndT cc15) (by exact fun h => h (by omega))) (fun cc15 => ?_)
 have cc15 := ndF cc15
 refine Ye 4 rfl ?_
 refine OWp.part 99 rfl (fun cc16 => absurd (ndT cc16) (by exact fun h => h rfl)) (fun cc16 => ?_)
 have cc16 := ndF cc16
 refine Yz 3 rfl ?_
 refine Wp.cond rfl (fun cc17 => absurd (ndT cc17) (by exact fun h => h rfl)) (fun cc17 => ?_)
 have cc17 := ndF cc17
 refine Wp.skip ?_
 refine Yn 1 rfl ?_
 refine Wp.ret ⟨trivial, _, ⟨_, _, rfl, rfl, rfl⟩, ?_⟩
 exact ⟨S, subl, H⟩
theorem checkAckC {user seq : Int} {tag : List UInt8} {iv : Value} {l : List (List UInt8)} (hw : whoP user seq) (ht : tag.length = 32) (hl : Reads S 1 iv l.length (strs l)) (h4 : l.length ≤ 4) (hid : ∀ s ∈ l, idP s) (H : Q (.int .i64 0) S) : CallWp Tryz.prog B 46 #[.agg (mlc 4 user seq [] tag (.slice none 0 0) iv).toArray] Q S := by
 obtain ⟨w1, w2, w3, w4⟩ := hw
 obtain ⟨ia, ic, rfl⟩ := hl.form
 refine CallWp.dropRet ?_
 refine Yx (args := [_]) Tryz.func46 Tryz.ntmps46 ?_
 refine Yq ?_
 refine Yb rfl rfl rfl rfl fun L1 hBL1 hLL1 => ?_
 refine Yz 1 rfl ?_
 refine Yg 1 rfl ?_
 refine Yl m0 ?_
 refine Ye 2 rfl ?_
 refine OWp.part 12 rfl (fun cc1 => ?_) (fun cc1 => absurd (of_decide_eq_false cc1) (by omega))
 have cc1 := of_decide_eq_true cc1
 refine Ye 1 rfl ?_
 refine Yl m0 ?_
 refine Ye 3 rfl ?_
 refine OWp.part 17 rfl (fun cc2 => ?_) (fun cc2 => absurd (of_decide_eq_false cc2) (by omega))
 have cc2 := of_decide_eq_true cc2
 refine Ye 1 rfl ?_
 refine Yl m0 ?_
 refine Ye 3 rfl ?_
 refine OWp.part 22 rfl (fun cc3 => ?_) (fun cc3 => absurd (of_decide_eq_false cc3) (by omega))
 have cc3 := of_decide_eq_true cc3
 refine Ye 1 rfl ?_
 refine Yl m0 ?_
 refine Yz 3 rfl ?_
 refine Yg 1 rfl ?_
 refine Yl m0 ?_
 refine Ye 2 rfl ?_
 refine OWp.part 30 rfl (fun u0 => ?_) (fun u0 => ?_)
 ·have u0 := of_decide_eq_true u0
  refine Ye 1 rfl ?_
  refine Yl m0 ?_
  refine Yz 3 rfl ?_
  refine Wp.seq (Wp.regionDraw [0, 1, 2, 3, 4, 5, 6, 7, 8, 9, 10, 11, 12, 13, 14, 15, 16, 17] [] rfl (by decide +kernel) ?_)
  refine DWp.evs 1 rfl ?_
  refine Yd m0 ?_
  refine DWp.evs 2 rfl ?_
  refine Yd m0 ?_
  refine DWp.evs 2 rfl ?_
  refine Yd m0 ?_
  refine DWp.evs 3 rfl ?_
  refine Yd m0 ?_
  refine DWp.evs 6 rfl ?_
  refine DWp.nil ?_
  refine Wp.seq ?_
  refine Yg 1 rfl ?_
  refine Yl m0 ?_
  refine OWp.nil ?_
  refine Wp.block ?_
  refine Yn 2 rfl ?_
  refine Wp.cond rfl (fun cc4 => absurd (of_decide_eq_true cc4) (by decide)) (fun cc4 => ?_)
  have cc4 := of_decide_eq_false cc4
  refine Yn 2 rfl ?_
  refine Wp.cond rfl (fun cc5 => absurd (of_decide_eq_true cc5) (by decide)) (fun cc5 => ?_)
  have cc5 := of_decide_eq_false cc5
  refine Yn 2 rfl ?_
  refine Wp.cond rfl (fun cc6 => absurd (of_decide_eq_true cc6) (by decide)) (fun cc6 => ?_)
  have cc6 := of_decide_eq_false cc6
  refine Yn 2 rfl ?_
  refine Wp.cond rfl (fun cc7 => ?_) (fun cc7 => absurd (of_decide_eq_false cc7) (by decide))
  have cc7 := of_decide_eq_true cc7
  refine Yg 1 rfl ?_
  refine Yl m0 ?_
  refine Yz 3 rfl ?_
  refine Wp.region ?_
  refine Ye 1 rfl ?_
  refine Yl m0 ?_
  refine Ye 3 rfl ?_
  refine OWp.part 79 rfl (fun cc8 => ?_) (fun cc8 => absurd (of_decide_eq_false cc8) (by omega))
  have cc8 := of_decide_eq_true cc8
  refine Ye 1 rfl ?_
  refine Yl m0 ?_
  refine OWp.step rfl (Step.call rfl rfl rfl rfl rfl rfl ((strangerC (l := l) (hl.mono fun x h => .tail _ h) rfl (by omega) ?_)))
  rw [show (l.any fun s => !decide (idP s)) = false from List.any_eq_false.2 fun x hx => by simp [hid x hx]]
  refine Yz 3 rfl ?_
  refine Wp.seq ?_
  refine Yg 3 rfl ?_
  refine OWp.part 87 rfl (fun cc9 => absurd (ndT cc9) (by exact fun h => h w4)) (fun cc9 => ?_)
  have cc9 := ndF cc9
  refine Ye 4 rfl ?_
  refine OWp.part 91 rfl (fun cc10 => absurd (ndT cc10) (by exact fun h => h rfl)) (fun cc10 => ?_)
  have cc10 := ndF cc10
  refine Ye 4 rfl ?_
  refine OWp.part 95 rfl (fun cc11 => absurd (ndT cc11) (by exact fun h => h (by omega))) (fun cc11 => ?_)
  have cc11 := ndF cc11
  refine Ye 4 rfl ?_
  refine OWp.part 99 rfl (fun cc12 => absurd (ndT cc12) (by exact fun h => h rfl)) (fun cc12 => ?_)
  have cc12 := ndF cc12
  refine Yz 3 rfl ?_
  refine Wp.cond rfl (fun c => nomatch c) (fun _ => ?_)
  refine Wp.skip ?_
  refine Yn 1 rfl ?_
  refine Wp.ret ⟨trivial, _, ⟨_, _, rfl, rfl, rfl⟩, ?_⟩
  exact ⟨S, subl, H⟩
 have u0 := of_decide_eq_false u0
 refine Yz 5 rfl ?_
 refine Wp.seq (Wp.regionDraw [0, 1, 2, 3, 4, 5, 6, 7, 8, 9, 10, 11, 12, 13, 14, 15, 16, 17] [] rfl (by decide +kernel) ?_)
 refine DWp.evs 1 rfl ?_
 refine Yd m0 ?_
 refine DWp.evs 2 rfl ?_
 refine Yd m0 ?_
 refine DWp.evs 2 rfl ?_
 refine Yd m0 ?_
 refine DWp.evs 3 rfl ?_
 refine Yd m0 ?_
 refine DWp.evs 6 rfl ?_
 refine DWp.nil ?_
 refine Wp.seq ?_
 refine Yg 1 rfl ?_
 refine Yl m0 ?_
 refine OWp.nil ?_
 refine Wp.block ?_
 refine Yn 2 rfl ?_
 refine Wp.cond rfl (fun cc13 => absurd (of_decide_eq_true cc13) (by decide)) (fun cc13 => ?_)
 have cc13 := of_decide_eq_false cc13
 refine Yn 2 rfl ?_
 refine Wp.cond rfl (fun cc14 => absurd (of_decide_eq_true cc14) (by decide)) (fun cc14 => ?_)
 have cc14 := of_decide_eq_false cc14
 refine Yn 2 rfl ?_
 refine Wp.cond rfl (fun cc15 => absurd (of_decide_eq_true cc15) (by decide)) (fun cc15 => ?_)
 have cc15 := of_decide_eq_false cc15
 refine Yn 2 rfl ?_
 refine Wp.cond rfl (fun cc16 => ?_) (fun cc16 => absurd (of_decide_eq_false cc16) (by decide))
 have cc16 := of_decide_eq_true cc16
 refine Yg 1 rfl ?_
 refine Yl m0 ?_
 refine Yz 3 rfl ?_
 refine Wp.region ?_
 refine Ye 1 rfl ?_
 refine Yl m0 ?_
 refine Ye 3 rfl ?_
 refine OWp.part 79 rfl (fun cc17 => ?_) (fun cc17 => absurd (of_decide_eq_false cc17) (by omega))
 have cc17 := of_decide_eq_true cc17
 refine Ye 1 rfl ?_
 refine Yl m0 ?_
 refine OWp.step rfl (Step.call rfl rfl rfl rfl rfl rfl ((strangerC (l := l) (hl.mono fun x h => .tail _ h) rfl (by omega) ?_)))
 rw [show (l.any fun s => !decide (idP s)) = false from List.any_eq_false.2 fun x hx => by simp [hid x hx]]
 refine Yz 3 rfl ?_
 refine Wp.seq ?_
 refine Yg 3 rfl ?_
 refine OWp.part 87 rfl (fun cc18 => absurd (ndT cc18) (by exact fun h => h w4)) (fun cc18 => ?_)
 have cc18 := ndF cc18
 refine Ye 4 rfl ?_
 refine OWp.part 91 rfl (fun cc19 => absurd (ndT cc19) (by exact fun h => h rfl)) (fun cc19 => ?_)
 have cc19 := ndF cc19
 refine Ye 4 rfl ?_
 refine OWp.part 95 rfl (fun cc20 => absurd (ndT cc20) (by exact fun h => h (by omega))) (fun cc20 => ?_)
 have cc20 := ndF cc20
 refine Ye 4 rfl ?_
 refine OWp.part 99 rfl (fun cc21 => absurd (ndT cc21) (by exact fun h => h rfl)) (fun cc21 => ?_)
 have cc21 := ndF cc21
 refine Yz 3 rfl ?_
 refine Wp.cond rfl (fun c => nomatch c) (fun _ => ?_)
 refine Wp.skip ?_
 refine Yn 1 rfl ?_
 refine Wp.ret ⟨trivial, _, ⟨_, _, rfl, rfl, rfl⟩, ?_⟩
 exact ⟨S, subl, H⟩
end
end Go.Proofs.D

/- Messages: how they are written. -/
namespace Go.Proofs.D
open Go.Lg Go.Sha Go.Hd Go.Cv
set_option maxRecDepth 100000
/-- The bytes of who: the user, the number. -/
def whoB (user seq : Nat) : List UInt8 := [UInt8.ofNat user, UInt8.ofNat (seq / 16777216), UInt8.ofNat (seq / 65536), UInt8.ofNat (seq / 256), UInt8.ofNat seq]
def packB (text : List UInt8) : List UInt8 := 1 :: text
def pullB (user seq : Nat) (tag : List UInt8) : List UInt8 := 2 :: (whoB user seq ++ tag)
def ackB (user seq : Nat) (tag : List UInt8) (ids : List (List UInt8)) : List UInt8 := 4 :: (whoB user seq ++ tag ++ (ids.flatten ++ List.replicate (64 - ids.flatten.length) 0))
theorem u8c (k : Int) (n : Nat) (h : k = (n : Int)) : IntKind.u8.wrap k = ((UInt8.ofNat n).toNat : Int) := by
 subst h
 rw [IntKind.wrap_u8]
 simp [UInt8.toNat_ofNat']
theorem u8shr (n d : Nat) (e : Nat) (hd : 2 ^ e = d) : IntKind.u8.wrap (((n : Nat) : Int).fdiv ((2 : Int) ^ e)) = ((UInt8.ofNat (n / d)).toNat : Int) := by
 have h1 : ((2 : Int) ^ e) = ((d : Nat) : Int) := by rw [← hd]; simp
 rw [h1, Int.fdiv_eq_ediv_of_nonneg _ (Int.natCast_nonneg _)]
 exact u8c _ _ (by simp)
theorem ids_len : ∀ {l : List (List UInt8)}, (∀ s ∈ l, s.length = 16) → l.flatten.length = l.length * 16
 | [], _ => rfl
 | x :: l, h => by
  have h1 := h x (.head _)
  have ih := ids_len (l := l) fun s hs => h s (.tail _ hs)
  rw [List.flatten_cons, List.length_append, ih, h1, List.length_cons]
  omega
section
variable {B : Nat} {S R : Ents} {Q : Value → Ents → Prop}
theorem one_byte2 {L : Nat} {b : UInt8} {v : Int} (h : v = (b.toNat : Int)) : Reads ((L, cel [.int .u8 v] 5) :: S) 1 (.slice (some ⟨L, 0, none⟩) 1 1) 1 (byteCells [b]) := by
 subst h
 exact Reads.row (k := 1) (sz := 1) (l := byteCells [b]) (.head _) (Nat.le_refl 1)
theorem whoReads {L : Nat} {S : Ents} {user seq : Nat} (hm : (L, cel [.int .u8 (IntKind.u8.wrap (user : Int)), .int .u8 (IntKind.u8.wrap ((seq : Int).fdiv (2 ^ (min 24 IntKind.i64.bits)))), .int .u8 (IntKind.u8.wrap ((seq : Int).fdiv (2 ^ (min 16 IntKind.i64.bits)))), .int .u8 (IntKind.u8.wrap ((seq : Int).fdiv (2 ^ (min 8 IntKind.i64.bits)))), .int .u8 (IntKind.u8.wrap (seq : Int))] 5) ∈ S) : Reads S 1 (.slice (some ⟨L, 0, none⟩) 5 5) 5 (byteCells (whoB user seq)) := by
 rw [u8c (user : Int) user rfl, u8c (seq : Int) seq rfl, show min 24 IntKind.i64.bits = 24 from rfl, show min 16 IntKind.i64.bits = 16 from rfl, show min 8 IntKind.i64.bits = 8 from rfl, u8shr seq 16777216 24 (by decide), u8shr seq 65536 16 (by decide), u8shr seq 256 8 (by decide)] at hm
 exact Reads.row (k := 5) (sz := 1) (l := byteCells (whoB user seq)) hm (Nat.le_refl 5)
theorem encPackC {text : List UInt8} (ht : text.length = 504) (H : Q (.tuple #[.string (str (packB text)), .int .i64 0]) S) : CallWp Tryz.prog B 17 #[.agg (mlc 1 0 0 text [] (.slice none 0 0) (.slice none 0 0)).toArray] Q S := by
 refine CallWp.dropRet ?_
 refine Yx (args := [_]) Tryz.func17 Tryz.ntmps17 ?_
 refine Yq ?_
 refine Yb rfl rfl rfl rfl fun L1 hBL1 hLL1 => ?_
 refine Yz 2 rfl ?_
 refine Wp.seq ?_
 refine Yq ?_
 refine Yl m0 ?_
 refine OWp.step rfl (Step.call rfl rfl rfl rfl rfl rfl ((checkPackC ht ?_)))
 refine Yz 1 rfl ?_
 refine Yn 2 rfl ?_
 refine Wp.cond rfl (fun cc1 => absurd (ndT cc1) (by exact fun h => h rfl)) (fun cc1 => ?_)
 have cc1 := ndF cc1
 refine Wp.skip ?_
 refine Yg 1 rfl ?_
 refine Yl m0 ?_
 refine Ye 1 rfl ?_
 refine OWp.step rfl (Step.buildSlice rfl rfl rfl ?_); intro L2 hBL2 hLL2
 refine OWp.gives rfl rfl (Gives.bytesToStr (F := (L2, cel [.int .u8 (IntKind.u8.wrap 1)] 5) :: (L1, cel (mlc 1 0 0 text [] (.slice none 0 0) (.slice none 0 0)) 58) :: S) (l := [(1 : UInt8)]) (k := 1) rfl rfl rfl rfl rfl (one_byte2 (by decide))) (fun _ h => h) ?_
 refine Yz 1 rfl ?_
 refine Wp.seq ?_
 refine Yg 1 rfl ?_
 refine Yl m1 ?_
 refine Yz 1 rfl ?_
 refine Wp.cond rfl (fun cc2 => ?_) (fun cc2 => absurd (of_decide_eq_false cc2) (by decide))
 have cc2 := of_decide_eq_true cc2
 refine Yg 2 rfl ?_
 refine Yl m1 ?_
 refine OWp.step rfl (Step.buildSlice rfl rfl rfl ?_); intro L3 hBL3 hLL3
 refine OWp.step rfl (Step.call rfl rfl rfl rfl rfl rfl ((mjoinC (l := [[1], text]) (Reads.row (k := 2) (sz := 1) (.head _) (Nat.le_of_ble_eq_true rfl)) (by rintro a m c h; cases h; exact Nat.le_refl _) (by decide) (by simp [ht]) (fun _ => by simp) ?_)))
 refine Yz 2 rfl ?_
 refine Wp.ret ⟨trivial, _, ⟨_, _, rfl, rfl, _, _, rfl, rfl, rfl⟩, ?_⟩
 refine ⟨S, subl, ?_⟩
 rw [show ([[1], text] : List (List UInt8)).flatten = packB text by simp [packB]]
 exact H
theorem encPullC {user seq : Nat} {tag : List UInt8} (hu : user < 64) (h1 : 1 ≤ seq) (h2 : seq ≤ 2147483647) (ht : tag.length = 32) (H : Q (.tuple #[.string (str (pullB user seq tag)), .int .i64 0]) S) : CallWp Tryz.prog B 17 #[.agg (mlc 2 user seq [] tag (.slice none 0 0) (.slice none 0 0)).toArray] Q S := by
 refine CallWp.dropRet ?_
 refine Yx (args := [_]) Tryz.func17 Tryz.ntmps17 ?_
 refine Yq ?_
 refine Yb rfl rfl rfl rfl fun L1 hBL1 hLL1 => ?_
 refine Yz 2 rfl ?_
 refine Wp.seq ?_
 refine Yq ?_
 refine Yl m0 ?_
 refine OWp.step rfl (Step.call rfl rfl rfl rfl rfl rfl ((checkPullC ⟨by omega, by omega, by omega, by omega⟩ ht ?_)))
 refine Yz 1 rfl ?_
 refine Yn 2 rfl ?_
 refine Wp.cond rfl (fun cc1 => absurd (ndT cc1) (by exact fun h => h rfl)) (fun cc1 => ?_)
 have cc1 := ndF cc1
 refine Wp.skip ?_
 refine Yg 1 rfl ?_
 refine Yl m0 ?_
 refine Ye 1 rfl ?_
 refine OWp.step rfl (Step.buildSlice rfl rfl rfl ?_); intro L2 hBL2 hLL2
 refine OWp.gives rfl rfl (Gives.bytesToStr (l := [(2 : UInt8)]) (k := 1) rfl rfl rfl rfl rfl (one_byte2 (by decide))) (fun _ h => h) ?_
 refine Yz 1 rfl ?_
 refine Wp.seq ?_
 refine Yg 1 rfl ?_
 refine Yl m1 ?_
 refine Yz 1 rfl ?_
 refine Wp.cond rfl (fun cc2 => absurd (of_decide_eq_true cc2) (by decide)) (fun cc2 => ?_)
 have cc2 := of_decide_eq_false cc2
 refine Wp.skip ?_
 refine Yg 1 rfl ?_
 refine Yl m1 ?_
 refine Ye 2 rfl ?_
 refine Yl m1 ?_
 refine Ye 3 rfl ?_
 refine Yl m1 ?_
 refine Ye 3 rfl ?_
 refine Yl m1 ?_
 refine Ye 3 rfl ?_
 refine Yl m1 ?_
 refine Ye 1 rfl ?_
 refine OWp.step rfl (Step.buildSlice rfl rfl rfl ?_); intro L3 hBL3 hLL3
 refine OWp.gives rfl rfl (Gives.bytesToStr (l := whoB user seq) (k := 5) rfl rfl rfl rfl rfl (whoReads (.head _))) (fun _ h => h) ?_
 refine Yz 1 rfl ?_
 refine Yg 3 rfl ?_
 refine Yl m2 ?_
 refine OWp.step rfl (Step.buildSlice rfl rfl rfl ?_); intro L4 hBL4 hLL4
 refine OWp.step rfl (Step.call rfl rfl rfl rfl rfl rfl ((mjoinC (l := [[2], whoB user seq, tag]) (Reads.row (k := 3) (sz := 1) (.head _) (Nat.le_of_ble_eq_true rfl)) (by rintro a m c h; cases h; exact Nat.le_refl _) (by decide) (by simp [ht, whoB]) (fun _ => by simp) ?_)))
 refine Yz 1 rfl ?_
 refine Wp.seq ?_
 refine Yg 1 rfl ?_
 refine Yl m3 ?_
 refine Yz 2 rfl ?_
 show Wp _ _ _ _ _ _ _
 refine Wp.drop (S' := (L1, cel (mlc 2 user seq [] tag (.slice none 0 0) (.slice none 0 0)) 58) :: S) subl ?_
 obtain ⟨hd, hhd, hdl⟩ : ∃ x : List UInt8, ([[2], whoB user seq, tag] : List (List UInt8)).flatten = x ∧ x.length = 38 := ⟨_, rfl, by simp [ht, whoB]⟩
 rw [hhd]
 refine Wp.block ?_
 refine Wp.loopS (α := Unit) (fun _ => 0) (fun _ => [(1, pt L1), (7, .string (str hd)), (56, .int .i64 0), (57, .int .i64 0)]) (fun _ => (L1, cel (mlc 2 user seq [] tag (.slice none 0 0) (.slice none 0 0)) 58) :: S) (fun _ => True) () ?_ (.refl _) trivial ?_
 ·exact .cons rfl (.cons rfl (.cons rfl (.cons rfl (.nil _))))
 rintro _ _
 refine Yn 1 rfl ?_
 refine Wp.seq ?_
 refine Wp.cond rfl (fun cc3 => absurd (of_decide_eq_true cc3) (by decide)) (fun cc3 => ?_)
 have cc3 := of_decide_eq_false cc3
 refine Wp.exit ?_
 refine Wp.seq (Wp.regionDraw [0, 1, 2, 6, 7, 3, 4, 5, 8, 9, 10, 11] [3, 4, 5, 8, 9] rfl (by decide +kernel) ?_)
 refine DWp.evs 2 rfl ?_
 refine Yd m0 ?_
 refine DWp.evs 1 rfl ?_
 refine Yd m0 ?_
 refine DWp.stepGrow rfl rfl rfl (Step.call rfl rfl rfl rfl rfl rfl ((mjoinC (l := []) (Reads.nil _ _) (by rintro a m c h; cases h; exact Nat.le_refl _) (by decide) (by decide) (fun h => by omega) ?_)))
 refine ⟨fun _ hy => hy, ?_⟩
 refine DWp.stepGrow rfl rfl rfl (Step.buildSlice rfl rfl rfl ?_); intro L5 hBL5 hLL5; refine ⟨fun _ hy => .tail _ hy, ?_⟩
 refine DWp.stepGrow rfl rfl rfl (Step.call rfl rfl rfl rfl rfl rfl ((mjoinC (l := [hd, []]) (Reads.row (k := 2) (sz := 1) (.head _) (Nat.le_of_ble_eq_true rfl)) (by rintro a m c h; cases h; exact Nat.le_refl _) (by decide) (by simp [hdl]) (fun _ => by simp [hdl]) ?_)))
 refine ⟨fun _ hy => hy, ?_⟩
 refine DWp.stepGrow rfl rfl rfl (Step.call rfl rfl rfl rfl rfl rfl ((mlongC (n := 38) (.inr (.inl ⟨rfl, rfl⟩)) ?_)))
 refine ⟨fun _ hy => hy, ?_⟩
 refine DWp.stepGrow rfl rfl rfl (Step.call rfl rfl rfl rfl rfl rfl ((padC (n := 38) (by simp [hdl]) (by decide) ?_)))
 refine ⟨fun _ hy => hy, ?_⟩
 refine DWp.evs 2 rfl ?_
 refine DWp.nil ?_
 refine Wp.ret ⟨trivial, _, ⟨_, _, rfl, rfl, _, _, rfl, rfl, rfl⟩, ?_⟩
 refine ⟨S, subl, ?_⟩
 rw [← hhd]
 have e : (([[[2], whoB user seq, tag].flatten, []] : List (List UInt8)).flatten ++ List.replicate (38 - ([[[2], whoB user seq, tag].flatten, []] : List (List UInt8)).flatten.length) 0) = pullB user seq tag := by
  have h1 : (([[[2], whoB user seq, tag].flatten, []] : List (List UInt8)).flatten) = pullB user seq tag := by simp [pullB]
  rw [h1, show (pullB user seq tag).length = 38 by simp [pullB, whoB, ht]]
  simp
 rw [e]
 exact H
theorem encAckC {user seq : Nat} {tag : List UInt8} {iv : Value} {ids : List (List UInt8)} (hu : user < 64) (h1 : 1 ≤ seq) (h2 : seq ≤ 2147483647) (ht : tag.length = 32) (hl : Reads S 1 iv ids.length (strs ids)) (hcap : ∀ a m c, iv = .slice a m c → m ≤ c) (h4 : ids.length ≤ 4) (hid : ∀ s ∈ ids, idP s) (H : Q (.tuple #[.string (str (ackB user seq tag ids)), .int .i64 0]) S) : CallWp Tryz.prog B 17 #[.agg (mlc 4 user seq [] tag (.slice none 0 0) iv).toArray] Q S := by
 have hfl : ids.flatten.length = ids.length * 16 := ids_len (fun s h => (hid s h).1)
 refine CallWp.dropRet ?_
 refine Yx (args := [_]) Tryz.func17 Tryz.ntmps17 ?_
 refine Yq ?_
 refine Yb rfl rfl rfl rfl fun L1 hBL1 hLL1 => ?_
 refine Yz 2 rfl ?_
 refine Wp.seq ?_
 refine Yq ?_
 refine Yl m0 ?_
 refine OWp.step rfl (Step.call rfl rfl rfl rfl rfl rfl ((checkAckC ⟨by omega, by omega, by omega, by omega⟩ ht (hl.mono fun x h => .tail _ h) h4 hid ?_)))
 refine Yz 1 rfl ?_
 refine Yn 2 rfl ?_
 refine Wp.cond rfl (fun cc1 => absurd (ndT cc1) (by exact fun h => h rfl)) (fun cc1 => ?_)
 have cc1 := ndF cc1
 refine Wp.skip ?_
 refine Yg 1 rfl ?_
 refine Yl m0 ?_
 refine Ye 1 rfl ?_
 refine OWp.step rfl (Step.buildSlice rfl rfl rfl ?_); intro L2 hBL2 hLL2
 refine OWp.gives rfl rfl (Gives.bytesToStr (l := [(4 : UInt8)]) (k := 1) rfl rfl rfl rfl rfl (one_byte2 (by decide))) (fun _ h => h) ?_
 refine Yz 1 rfl ?_
 refine Wp.seq ?_
 refine Yg 1 rfl ?_
 refine Yl m1 ?_
 refine Yz 1 rfl ?_
 refine Wp.cond rfl (fun cc2 => absurd (of_decide_eq_true cc2) (by decide)) (fun cc2 => ?_)
 have cc2 := of_decide_eq_false cc2
 refine Wp.skip ?_
 refine Yg 1 rfl ?_
 refine Yl m1 ?_
 refine Ye 2 rfl ?_
 refine Yl m1 ?_
 refine Ye 3 rfl ?_
 refine Yl m1 ?_
 refine Ye 3 rfl ?_
 refine Yl m1 ?_
 refine Ye 3 rfl ?_
 refine Yl m1 ?_
 refine Ye 1 rfl ?_
 refine OWp.step rfl (Step.buildSlice rfl rfl rfl ?_); intro L3 hBL3 hLL3
 refine OWp.gives rfl rfl (Gives.bytesToStr (l := whoB user seq) (k := 5) rfl rfl rfl rfl rfl (whoReads (.head _))) (fun _ h => h) ?_
 refine Yz 1 rfl ?_
 refine Yg 3 rfl ?_
 refine Yl m2 ?_
 refine OWp.step rfl (Step.buildSlice rfl rfl rfl ?_); intro L4 hBL4 hLL4
 refine OWp.step rfl (Step.call rfl rfl rfl rfl rfl rfl ((mjoinC (l := [[4], whoB user seq, tag]) (Reads.row (k := 3) (sz := 1) (.head _) (Nat.le_of_ble_eq_true rfl)) (by rintro a m c h; cases h; exact Nat.le_refl _) (by decide) (by simp [ht, whoB]) (fun _ => by simp) ?_)))
 refine Yz 1 rfl ?_
 refine Wp.seq ?_
 refine Yg 1 rfl ?_
 refine Yl m3 ?_
 refine Yz 2 rfl ?_
 show Wp _ _ _ _ _ _ _
 refine Wp.drop (S' := (L1, cel (mlc 4 user seq [] tag (.slice none 0 0) iv) 58) :: S) subl ?_
 obtain ⟨hd, hhd, hdl⟩ : ∃ x : List UInt8, ([[4], whoB user seq, tag] : List (List UInt8)).flatten = x ∧ x.length = 38 := ⟨_, rfl, by simp [ht, whoB]⟩
 rw [hhd]
 have hfl2 : ([hd, ids.flatten] : List (List UInt8)).flatten.length = 38 + ids.flatten.length := by rw [List.flatten_cons, List.flatten_cons, List.flatten_nil, List.append_nil, List.length_append, hdl]
 refine Wp.block ?_
 refine Wp.loopS (α := Unit) (fun _ => 0) (fun _ => [(1, pt L1), (7, .string (str hd)), (56, .int .i64 0), (57, .int .i64 0)]) (fun _ => (L1, cel (mlc 4 user seq [] tag (.slice none 0 0) iv) 58) :: S) (fun _ => True) () ?_ (.refl _) trivial ?_
 ·exact .cons rfl (.cons rfl (.cons rfl (.cons rfl (.nil _))))
 rintro _ _
 refine Yn 1 rfl ?_
 refine Wp.seq ?_
 refine Wp.cond rfl (fun cc3 => absurd (of_decide_eq_true cc3) (by decide)) (fun cc3 => ?_)
 have cc3 := of_decide_eq_false cc3
 refine Wp.exit ?_
 refine Wp.seq (Wp.regionDraw [0, 1, 2, 6, 7, 3, 4, 5, 8, 9, 10, 11] [3, 4, 5, 8, 9] rfl (by decide +kernel) ?_)
 refine DWp.evs 2 rfl ?_
 refine Yd m0 ?_
 refine DWp.evs 1 rfl ?_
 refine Yd m0 ?_
 refine DWp.stepGrow rfl rfl rfl (Step.call rfl rfl rfl rfl rfl rfl ((mjoinC (l := ids) (hl.mono fun x h => .tail _ h) hcap (by omega) (by rw [hfl]; omega) (fun _ => by rw [hfl]; omega) ?_)))
 refine ⟨fun _ hy => hy, ?_⟩
 refine DWp.stepGrow rfl rfl rfl (Step.buildSlice rfl rfl rfl ?_); intro L5 hBL5 hLL5; refine ⟨fun _ hy => .tail _ hy, ?_⟩
 refine DWp.stepGrow rfl rfl rfl (Step.call rfl rfl rfl rfl rfl rfl ((mjoinC (l := [hd, ids.flatten]) (Reads.row (k := 2) (sz := 1) (.head _) (Nat.le_of_ble_eq_true rfl)) (by rintro a m c h; cases h; exact Nat.le_refl _) (by decide) (by rw [hfl2]; omega) (fun _ => by rw [hfl2]; omega) ?_)))
 refine ⟨fun _ hy => hy, ?_⟩
 refine DWp.stepGrow rfl rfl rfl (Step.call rfl rfl rfl rfl rfl rfl ((mlongC (n := 102) (.inr (.inr (.inr ⟨rfl, rfl⟩))) ?_)))
 refine ⟨fun _ hy => hy, ?_⟩
 refine DWp.stepGrow rfl rfl rfl (Step.call rfl rfl rfl rfl rfl rfl ((padC (n := 102) (by rw [hfl2]; omega) (by decide) ?_)))
 refine ⟨fun _ hy => hy, ?_⟩
 refine DWp.evs 2 rfl ?_
 refine DWp.nil ?_
 refine Wp.ret ⟨trivial, _, ⟨_, _, rfl, rfl, _, _, rfl, rfl, rfl⟩, ?_⟩
 refine ⟨S, subl, ?_⟩
 rw [← hhd]
 have e : (([[[4], whoB user seq, tag].flatten, ids.flatten] : List (List UInt8)).flatten ++ List.replicate (102 - ([[[4], whoB user seq, tag].flatten, ids.flatten] : List (List UInt8)).flatten.length) 0) = ackB user seq tag ids := by
  have h1 : (([[[4], whoB user seq, tag].flatten, ids.flatten] : List (List UInt8)).flatten).length = 38 + ids.flatten.length := by rw [hhd]; exact hfl2
  rw [h1, show 102 - (38 + ids.flatten.length) = 64 - ids.flatten.length by omega]
  simp [ackB]
 rw [e]
 exact H
end
end Go.Proofs.D

/- Who signs. -/
namespace Go.Proofs.D
open Go.Lg Go.Sha Go.Hd Go.Cv
set_option maxRecDepth 100000
def gateW : List UInt8 := [103, 97, 116, 101]
def zer32 : List UInt8 := List.replicate 32 0
/-- The tag of a pull, of an ack. -/
def pullT (key : List UInt8) (user seq : Nat) : List UInt8 := hmac key (gateW ++ pullB user seq zer32)
def ackT (key : List UInt8) (user seq : Nat) (ids : List (List UInt8)) : List UInt8 := hmac key (gateW ++ ackB user seq zer32 ids)
theorem hmac_len (k t : List UInt8) : (hmac k t).length = 32 := by unfold hmac; exact sha_len _
theorem pullB_len {user seq : Nat} {tag : List UInt8} (h : tag.length = 32) : (pullB user seq tag).length = 38 := by simp [pullB, whoB, h]
theorem ackB_len {user seq : Nat} {tag : List UInt8} {ids : List (List UInt8)} (h : tag.length = 32) (hi : ∀ s ∈ ids, idP s) (h4 : ids.length ≤ 4) : (ackB user seq tag ids).length = 102 := by
 have := ids_len (fun s h => (hi s h).1)
 unfold ackB
 simp only [List.length_cons, List.length_append, List.length_replicate, whoB, List.length_nil, h]
 omega
attribute [local irreducible] hmac pullB ackB
section
variable {B : Nat} {S R : Ents} {Q : Value → Ents → Prop}
theorem plainPullC {user seq : Nat} {tag : List UInt8} (hu : user < 64) (h1 : 1 ≤ seq) (h2 : seq ≤ 2147483647) (H : Q (.tuple #[.string (str (pullB user seq zer32)), .int .i64 0]) S) : CallWp Tryz.prog B 42 #[.agg (mlc 2 user seq [] tag (.slice none 0 0) (.slice none 0 0)).toArray] Q S := by
 refine CallWp.dropRet ?_
 refine Yx (args := [_]) Tryz.func42 Tryz.ntmps42 ?_
 refine Yq ?_
 refine Yb rfl rfl rfl rfl fun L1 hBL1 hLL1 => ?_
 refine Yz 2 rfl ?_
 refine Yq ?_
 refine OWp.step rfl (Step.call rfl rfl rfl rfl rfl rfl ((zerosC (n := 32) (by decide) ?_)))
 refine Ye 1 rfl ?_
 refine OWp.step rfl (Step.storeAs 0 (mlc 2 user seq [] zer32 (.slice none 0 0) (.slice none 0 0)) rfl rfl rfl rfl rfl (by assumption) rfl (Unfz.zero _) rfl (Nat.le_of_ble_eq_true rfl) rfl rfl ?_)
 refine OWp.nil ?_
 refine Wp.seq ?_
 refine Yg 1 rfl ?_
 refine Yl m0 ?_
 refine Ye 2 rfl ?_
 refine OWp.part 9 rfl (fun cc1 => absurd (ndT cc1) (by exact fun h => h rfl)) (fun cc1 => ?_)
 have cc1 := ndF cc1
 refine Yz 4 rfl ?_
 refine Wp.cond rfl (fun c => nomatch c) (fun _ => ?_)
 refine Wp.skip ?_
 refine Yq ?_
 refine Yl m0 ?_
 refine OWp.step rfl (Step.call rfl rfl rfl rfl rfl rfl ((encPullC hu h1 h2 (List.length_replicate ..) ?_)))
 refine Yz 4 rfl ?_
 refine Wp.ret ⟨trivial, _, ⟨_, _, rfl, rfl, _, _, rfl, rfl, rfl⟩, ?_⟩
 exact ⟨S, subl, H⟩
theorem plainAckC {user seq : Nat} {tag : List UInt8} {iv : Value} {ids : List (List UInt8)} (hu : user < 64) (h1 : 1 ≤ seq) (h2 : seq ≤ 2147483647) (hl : Reads S 1 iv ids.length (strs ids)) (hcap : ∀ a m c, iv = .slice a m c → m ≤ c) (h4 : ids.length ≤ 4) (hid : ∀ s ∈ ids, idP s) (H : Q (.tuple #[.string (str (ackB user seq zer32 ids)), .int .i64 0]) S) : CallWp Tryz.prog B 42 #[.agg (mlc 4 user seq [] tag (.slice none 0 0) iv).toArray] Q S := by
 obtain ⟨ia, ic, rfl⟩ := hl.form
 refine CallWp.dropRet ?_
 refine Yx (args := [_]) Tryz.func42 Tryz.ntmps42 ?_
 refine Yq ?_
 refine Yb rfl rfl rfl rfl fun L1 hBL1 hLL1 => ?_
 refine Yz 2 rfl ?_
 refine Yq ?_
 refine OWp.step rfl (Step.call rfl rfl rfl rfl rfl rfl ((zerosC (n := 32) (by decide) ?_)))
 refine Ye 1 rfl ?_
 refine OWp.step rfl (Step.storeAs 0 (mlc 4 user seq [] zer32 (.slice none 0 0) (.slice ia ids.length ic)) rfl rfl rfl rfl rfl (by assumption) rfl (Unfz.zero _) rfl (Nat.le_of_ble_eq_true rfl) rfl rfl ?_)
 refine OWp.nil ?_
 refine Wp.seq ?_
 refine Yg 1 rfl ?_
 refine Yl m0 ?_
 refine Ye 2 rfl ?_
 refine OWp.part 9 rfl (fun cc1 => ?_) (fun cc1 => absurd (ndF cc1) (by decide))
 have cc1 := ndT cc1
 refine Ye 1 rfl ?_
 refine Yl m0 ?_
 refine Yz 2 rfl ?_
 refine Wp.cond rfl (fun cc2 => absurd (ndT cc2) (by exact fun h => h rfl)) (fun cc2 => ?_)
 have cc2 := ndF cc2
 refine Wp.skip ?_
 refine Yq ?_
 refine Yl m0 ?_
 refine OWp.step rfl (Step.call rfl rfl rfl rfl rfl rfl ((encAckC hu h1 h2 (List.length_replicate ..) (hl.mono fun x h => .tail _ h) hcap h4 hid ?_)))
 refine Yz 4 rfl ?_
 refine Wp.ret ⟨trivial, _, ⟨_, _, rfl, rfl, _, _, rfl, rfl, rfl⟩, ?_⟩
 exact ⟨S, subl, H⟩
theorem signPullC {key : List UInt8} {user seq : Nat} (hks : KsIn S) (hk : key.length = 32) (hu : user < 64) (h1 : 1 ≤ seq) (h2 : seq ≤ 2147483647) (H : Q (.tuple #[.agg (mlc 2 user seq [] (pullT key user seq) (.slice none 0 0) (.slice none 0 0)).toArray, .int .i64 0]) S) : CallWp Tryz.prog B 91 #[.string (str key), .agg (mlc 2 user seq [] [] (.slice none 0 0) (.slice none 0 0)).toArray] Q S := by
 refine CallWp.dropRet ?_
 refine Yx (args := [_, _]) Tryz.func91 Tryz.ntmps91 ?_
 refine Yq ?_
 refine Yb rfl rfl rfl rfl fun L3 hBL3 hLL3 => ?_
 refine Ya rfl rfl rfl rfl fun L4 hBL4 hLL4 => ?_
 refine Yz 1 rfl ?_
 refine Wp.seq ?_
 refine Yn 3 rfl ?_
 refine Wp.cond rfl (fun cc1 => absurd (ndT cc1) (by omega)) (fun cc1 => ?_)
 have cc1 := ndF cc1
 refine Wp.skip ?_
 refine Yq ?_
 refine Yl m1 ?_
 refine OWp.step rfl (Step.call rfl rfl rfl rfl rfl rfl ((plainPullC hu h1 h2 ?_)))
 refine Yz 5 rfl ?_
 refine Wp.seq ?_
 refine Yn 2 rfl ?_
 refine Wp.cond rfl (fun cc2 => absurd (ndT cc2) (by exact fun h => h rfl)) (fun cc2 => ?_)
 have cc2 := ndF cc2
 refine Wp.skip ?_
 refine Yg 2 rfl ?_
 refine OWp.step rfl (Step.buildSlice rfl rfl rfl ?_); intro L5 hBL5 hLL5
 refine OWp.step rfl (Step.call rfl rfl rfl rfl rfl rfl ((tagC (l := [gateW, pullB user seq zer32]) (Reads.row (k := 2) (sz := 1) (.head _) (Nat.le_of_ble_eq_true rfl)) (by decide) hks.cons.cons.cons (by rw [hk]; decide) (by simp [gateW, pullB_len, zer32]; decide) ?_)))
 rw [show hmac key ([gateW, pullB user seq zer32] : List (List UInt8)).flatten = pullT key user seq by simp [pullT]]
 refine Ye 1 rfl ?_
 refine OWp.step rfl (Step.storeAs 2 (mlc 2 user seq [] (pullT key user seq) (.slice none 0 0) (.slice none 0 0)) rfl rfl rfl rfl rfl (by assumption) rfl (Unfz.zero _) rfl (Nat.le_of_ble_eq_true rfl) rfl rfl ?_)
 refine OWp.nil ?_
 refine Yg 1 rfl ?_
 refine Yl m2 ?_
 refine OWp.step rfl (Step.call rfl rfl rfl rfl rfl rfl ((cloneStrN ?_)))
 refine Ye 1 rfl ?_
 refine OWp.step rfl (Step.storeAs 2 (mlc 2 user seq [] (pullT key user seq) (.slice none 0 0) (.slice none 0 0)) rfl rfl rfl rfl rfl (by assumption) rfl (Unfz.zero _) rfl (Nat.le_of_ble_eq_true rfl) rfl rfl ?_)
 refine OWp.nil ?_
 refine Yg 1 rfl ?_
 refine Yl m2 ?_
 refine OWp.step rfl (Step.call rfl rfl rfl rfl rfl rfl ((cloneSlN ?_)))
 refine Ye 1 rfl ?_
 refine OWp.step rfl (Step.storeAs 2 (mlc 2 user seq [] (pullT key user seq) (.slice none 0 0) (.slice none 0 0)) rfl rfl rfl rfl rfl (by assumption) rfl (Unfz.zero _) rfl (Nat.le_of_ble_eq_true rfl) rfl rfl ?_)
 refine OWp.nil ?_
 refine Yq ?_
 refine Yl m2 ?_
 refine OWp.step rfl (Step.storeAs 1 (mlc 2 user seq [] (pullT key user seq) (.slice none 0 0) (.slice none 0 0)) rfl rfl rfl rfl rfl (by assumption) rfl (Unfz.zero _) rfl (Nat.le_of_ble_eq_true rfl) rfl rfl ?_)
 refine Yz 1 rfl ?_
 refine Wp.ret ⟨trivial, _, ⟨_, _, _, _, rfl, rfl, ⟨_, _, _, mems, (by first | assumption | rfl)⟩, ⟨_, _, rfl, rfl, rfl⟩⟩, ?_⟩
 exact ⟨S, subl, H⟩
theorem signAckC {key : List UInt8} {user seq : Nat} {iv : Value} {ids : List (List UInt8)} (hks : KsIn S) (hk : key.length = 32) (hu : user < 64) (h1 : 1 ≤ seq) (h2 : seq ≤ 2147483647) (hl : Reads S 1 iv ids.length (strs ids)) (hcap : ∀ a m c, iv = .slice a m c → m ≤ c) (h4 : ids.length ≤ 4) (hid : ∀ s ∈ ids, idP s)
  (H : ∀ v' es', Lg.Own B 9 1 v' ids.length (strs ids) es' → Q (.tuple #[.agg (mlc 4 user seq [] (ackT key user seq ids) (.slice none 0 0) v').toArray, .int .i64 0]) (es' ++ S)) : CallWp Tryz.prog B 91 #[.string (str key), .agg (mlc 4 user seq [] [] (.slice none 0 0) iv).toArray] Q S := by
 obtain ⟨ia, ic, rfl⟩ := hl.form
 have hbl : (ackB user seq zer32 ids).length = 102 := ackB_len (List.length_replicate ..) hid h4
 refine CallWp.dropRet ?_
 refine Yx (args := [_, _]) Tryz.func91 Tryz.ntmps91 ?_
 refine Yq ?_
 refine Yb rfl rfl rfl rfl fun L3 hBL3 hLL3 => ?_
 refine Ya rfl rfl rfl rfl fun L4 hBL4 hLL4 => ?_
 refine Yz 1 rfl ?_
 refine Wp.seq ?_
 refine Yn 3 rfl ?_
 refine Wp.cond rfl (fun cc1 => absurd (ndT cc1) (by omega)) (fun cc1 => ?_)
 have cc1 := ndF cc1
 refine Wp.skip ?_
 refine Yq ?_
 refine Yl m1 ?_
 refine OWp.step rfl (Step.call rfl rfl rfl rfl rfl rfl ((plainAckC hu h1 h2 (hl.mono fun x h => .tail _ (.tail _ h)) hcap h4 hid ?_)))
 refine Yz 5 rfl ?_
 refine Wp.seq ?_
 refine Yn 2 rfl ?_
 refine Wp.cond rfl (fun cc2 => absurd (ndT cc2) (by exact fun h => h rfl)) (fun cc2 => ?_)
 have cc2 := ndF cc2
 refine Wp.skip ?_
 refine Yg 2 rfl ?_
 refine OWp.step rfl (Step.buildSlice rfl rfl rfl ?_); intro L5 hBL5 hLL5
 refine OWp.step rfl (Step.call rfl rfl rfl rfl rfl rfl ((tagC (l := [gateW, ackB user seq zer32 ids]) (Reads.row (k := 2) (sz := 1) (.head _) (Nat.le_of_ble_eq_true rfl)) (by decide) hks.cons.cons.cons (by rw [hk]; decide) (by simp [gateW, hbl]; decide) ?_)))
 rw [show hmac key ([gateW, ackB user seq zer32 ids] : List (List UInt8)).flatten = ackT key user seq ids by simp [ackT]]
 refine Ye 1 rfl ?_
 refine OWp.step rfl (Step.storeAs 2 (mlc 4 user seq [] (ackT key user seq ids) (.slice none 0 0) (.slice ia ids.length ic)) rfl rfl rfl rfl rfl (by assumption) rfl (Unfz.zero _) rfl (Nat.le_of_ble_eq_true rfl) rfl rfl ?_)
 refine OWp.nil ?_
 refine Yg 1 rfl ?_
 refine Yl m2 ?_
 refine OWp.step rfl (Step.call rfl rfl rfl rfl rfl rfl ((cloneStrC (xs := strs ids) (hl.mono fun x h => .tail _ (.tail _ (.tail _ h))) (strs_one ids) (by omega) ?_)))
 intro v' es' ho
 refine OWp.permS (List.perm_append_comm_assoc es' [_, _, _] S) ?_
 obtain ⟨va, vc, rfl⟩ := ho.reads.form
 refine Ye 1 rfl ?_
 refine OWp.step rfl (Step.storeAs 2 (mlc 4 user seq [] (ackT key user seq ids) (.slice none 0 0) (.slice va ids.length vc)) rfl rfl rfl rfl rfl (by assumption) rfl (Unfz.zero _) rfl (Nat.le_of_ble_eq_true rfl) rfl rfl ?_)
 refine OWp.nil ?_
 refine Yg 1 rfl ?_
 refine Yl m2 ?_
 refine OWp.step rfl (Step.call rfl rfl rfl rfl rfl rfl ((cloneSlN ?_)))
 refine Ye 1 rfl ?_
 refine OWp.step rfl (Step.storeAs 2 (mlc 4 user seq [] (ackT key user seq ids) (.slice none 0 0) (.slice va ids.length vc)) rfl rfl rfl rfl rfl (by assumption) rfl (Unfz.zero _) rfl (Nat.le_of_ble_eq_true rfl) rfl rfl ?_)
 refine OWp.nil ?_
 refine Yq ?_
 refine Yl m2 ?_
 refine OWp.step rfl (Step.storeAs 1 (mlc 4 user seq [] (ackT key user seq ids) (.slice none 0 0) (.slice va ids.length vc)) rfl rfl rfl rfl rfl (by assumption) rfl (Unfz.zero _) rfl (Nat.le_of_ble_eq_true rfl) rfl rfl ?_)
 refine Yz 1 rfl ?_
 refine Wp.ret ⟨trivial, _, ⟨_, _, _, _, rfl, rfl, ⟨_, _, _, mems, (by first | assumption | rfl)⟩, ⟨_, _, rfl, rfl, rfl⟩⟩, ?_⟩
 exact ⟨_, subl, H _ es' ho⟩
end
end Go.Proofs.D
