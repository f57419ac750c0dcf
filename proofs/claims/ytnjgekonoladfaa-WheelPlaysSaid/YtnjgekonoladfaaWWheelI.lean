/- What functions of the given program do, one after the other, told by that layer. -/
import Derived.Test.YtnjgekonoladfaaWWheelH
import Derived.Test.YtnjgekonoladfaaLgRow
import Derived.Test.YtnjgekonoladfaaLgArgs
namespace Go.Proofs.E
open Go.Lg Go.Whl
set_option maxRecDepth 100000

/-- The cells of whole numbers. -/
def zi (l : List Int) : List Value := l.map fun x => .int .i64 x
theorem zi_length (l : List Int) : (zi l).length = l.length := by simp [zi]
theorem zi_one (l : List Int) : (zi l).all (·.oneCell') = true := by
  rw [List.all_eq_true]; intro x hx; simp [zi] at hx; obtain ⟨_, _, rfl⟩ := hx; rfl
theorem zi_append (l k : List Int) : zi (l ++ k) = zi l ++ zi k := by simp [zi]
theorem zi_flat (l : List Int) : (l.flatMap fun z => [Value.int .i64 z]) = zi l := by
  induction l with
  | nil => rfl
  | cons x l ih => simp [zi] at ih ⊢; exact ih
attribute [local irreducible] wv flatE tabM slotAt
section
variable {B : Nat} {S : Ents} {Q : Value → Ents → Prop}
theorem zi_get {l : List Int} {i : Nat} {x : Int} (h : l[i]? = some x) : (zi l)[i]? = some (.int .i64 x) := by simp [zi, h]
theorem int_part {l : List Value} {n : Nat} : Lg.partAt Try.prog 3 l n = l[n]? := rfl

theorem sameInts {a b : Value} {n m : Nat} {l k : List Int} (hl : Reads S 1 a n (zi l)) (hk : Reads S 1 b m (zi k)) (hn : n ≤ 1099511627776) (h : Q (.bool (decide (l = k))) S) :
    CallWp Try.prog B 13 #[a, b] Q S := by
  obtain ⟨aa, ac, rfl⟩ := hl.form
  obtain ⟨ba, bc, rfl⟩ := hk.form
  have e1 : l.length = n := by have := hl.1; rw [zi_length] at this; omega
  have e2 : k.length = m := by have := hk.1; rw [zi_length] at this; omega
  refine CallWp.enter (args := [_, _]) Try.func13 rfl Try.ntmps13 rfl ?_
  refine Wp.seq (Wp.region ?_)
  refine OWp.evs 1 rfl ?_
  refine OWp.nil ?_
  refine Wp.seq ?_
  refine Wp.seq (Wp.region ?_)
  refine OWp.evs 5 rfl ?_
  refine OWp.nil ?_
  refine Wp.cond rfl (fun h1 => ?_) (fun h1 => ?_)
  · have h1 := ndT h1
    refine Wp.seq (Wp.region ?_)
    refine OWp.evs 1 rfl ?_
    refine OWp.nil ?_
    refine Wp.ret ⟨trivial, _, ⟨_, _, rfl, rfl, rfl⟩, ?_⟩
    rw [decide_eq_false (by rintro rfl; omega)] at h; exact h
  have h1 := ndF h1
  obtain rfl : n = m := by omega
  refine Wp.skip ?_
  refine Wp.seq ?_
  refine Wp.seq (Wp.region ?_)
  refine OWp.evs 1 rfl ?_
  refine OWp.nil ?_
  refine Wp.block ?_
  refine Wp.loopS (α := Nat) (fun i => n - i) (fun i => [(5, .int .i64 (i : Int)), (0, .slice aa n ac), (1, .slice ba n bc)]) (fun _ => S) (fun i => i ≤ n ∧ l.take i = k.take i) 0 ?_ (.refl _) ⟨Nat.zero_le _, rfl⟩ ?_
  · exact .cons rfl (.cons rfl (.cons rfl (.nil _)))
  rintro i ⟨hi, he⟩
  refine Wp.seq ?_
  refine Wp.seq (Wp.region ?_)
  refine OWp.evs 4 rfl ?_
  refine OWp.nil ?_
  refine Wp.cond rfl (fun h2 => ?_) (fun h2 => ?_)
  · have h2 := of_decide_eq_true h2
    have hlt : i < n := by omega
    obtain ⟨b1, o1, c1, l1, t1, f1, hv1, hm1, _, hg1⟩ := hl.get1 (by omega)
    obtain ⟨b2, o2, c2, l2, t2, f2, hv2, hm2, _, hg2⟩ := hk.get1 (by omega)
    cases hv1; cases hv2
    have x1 : l[i]? = some l[i] := by simp
    have x2 : k[i]? = some k[i] := by simp
    refine Wp.skip ?_
    refine Wp.seq ?_
    refine Wp.block ?_
    refine Wp.seq (Wp.regionDraw [0, 1, 2, 3, 4, 5, 6, 7, 8] [] rfl (by decide +kernel) ?_)
    refine DWp.evs 2 rfl ?_
    refine DWp.g rfl rfl rfl rfl (Gives.indexAddrSlice (i) rfl rfl rfl rfl rfl rfl (by omega)) ?_
    refine DWp.load (hm1) rfl rfl rfl rfl rfl rfl ((hg1 i hlt).trans (zi_get x1)) ?_
    refine DWp.evs 2 rfl ?_
    refine DWp.g rfl rfl rfl rfl (Gives.indexAddrSlice (i) rfl rfl rfl rfl rfl rfl (by omega)) ?_
    refine DWp.load (hm2) rfl rfl rfl rfl rfl rfl ((hg2 i hlt).trans (zi_get x2)) ?_
    refine DWp.evs 1 rfl ?_
    refine DWp.nil ?_
    refine Wp.cond rfl (fun h3 => ?_) (fun h3 => ?_)
    · have h3 := ndT h3
      refine Wp.seq (Wp.region ?_)
      refine OWp.evs 1 rfl ?_
      refine OWp.nil ?_
      refine Wp.ret ⟨trivial, _, ⟨_, _, rfl, rfl, rfl⟩, ?_⟩
      rw [decide_eq_false (fun e => h3 (by subst e; rfl))] at h; exact h
    have h3 := ndF h3
    refine Wp.skip ?_
    refine Wp.region ?_
    refine OWp.evs 3 rfl ?_
    refine OWp.nil ?_
    refine ⟨i + 1, by omega, ⟨by omega, ?_⟩, ?_, .refl _⟩
    · rw [List.take_add_one, List.take_add_one, he, x1, x2, h3]
    · exact .cons' rfl (int_eq (by rw [i64_id] <;> omega)) (.cons rfl (.cons rfl (.nil _)))
  have h2 := of_decide_eq_false h2
  obtain rfl : i = n := by omega
  refine Wp.exit ?_
  refine Wp.seq (Wp.region ?_)
  refine OWp.evs 1 rfl ?_
  refine OWp.nil ?_
  refine Wp.ret ⟨trivial, _, ⟨_, _, rfl, rfl, rfl⟩, ?_⟩
  rw [decide_eq_true (by rw [← List.take_of_length_le (Nat.le_of_eq e1), he, List.take_of_length_le (Nat.le_of_eq e2)])] at h; exact h
theorem iv_zi (l : List Int) : l.map iv = zi l := rfl
/-- A wheel in memory, as a whole. -/
def Wh (B p : Nat) (M : List T) (now put : Nat) (W : Ents) : Prop := B ≤ p ∧ ∃ v es, WOk B M now put v es ∧ W = wE p v now put M.length :: flatE es 448
theorem Wh.mem {p now put : Nat} {M : List T} {W : Ents} (h : Wh B p M now put W) : ∃ v, wE p v now put M.length ∈ W := by
  obtain ⟨_, v, es, _, rfl⟩ := h
  exact ⟨v, .head _⟩
theorem Wh.time {p now put : Nat} {M : List T} {W : Ents} (h : Wh B p M now put W) : now ≤ 1099511627776 := by obtain ⟨_, v, es, h, rfl⟩ := h; exact h.time
theorem Wh.len {p now put : Nat} {M : List T} {W : Ents} (h : Wh B p M now put W) : M.length ≤ 4096 := by obtain ⟨_, v, es, h, rfl⟩ := h; exact h.len
theorem Wh.nos {p now put : Nat} {M : List T} {W : Ents} (h : Wh B p M now put W) : M.Pairwise fun a b => a.no < b.no := by obtain ⟨_, v, es, h, rfl⟩ := h; exact h.nos
theorem Wh.low {p now put : Nat} {M : List T} {W : Ents} (h : Wh B p M now put W) : ∀ t ∈ M, t.no ≤ put := by obtain ⟨_, v, es, h, rfl⟩ := h; exact h.low
theorem Wh.fit {p now put : Nat} {M : List T} {W : Ents} (h : Wh B p M now put W) : ∀ t ∈ M, now ≤ t.due ∧ t.due ≤ 1099511627776 := by obtain ⟨_, v, es, h, rfl⟩ := h; exact h.fit

theorem newW (H : ∀ p W, Wh B p [] 0 0 W → Q (pt p) (W ++ S)) : CallWp Try.prog B 8 #[] Q S := by
  refine newC fun p hp => ?_
  have h := H p [wE p (fun _ => .slice none 0 0) 0 0 0] ⟨hp, _, _, wOk_new B, by rw [flatE_nil, List.length_nil]⟩
  exact h
theorem putW {p now put a : Nat} {M : List T} {W : Ents} {za id : Int} (hza : za = (a : Int)) (h : Wh B p M now put W) (ha : now < a) (ha2 : a ≤ 1099511627776) (hl : M.length < 4096) (hp : put ≤ 1099511627776)
    (H : ∀ W', Wh B p (M ++ [⟨a, id, put + 1⟩]) now (put + 1) W' → Q (.tuple #[.int .i64 ((put + 1 : Nat) : Int), .int .i64 0]) (W' ++ S)) :
    CallWp Try.prog B 10 #[pt p, .int .i64 za, .int .i64 id] Q (W ++ S) := by
  obtain ⟨hB, v, es, hw, rfl⟩ := h
  refine putOkC hza hB hw ha ha2 hl hp fun v' es' hw' => ?_
  have h := H (wE p v' now (put + 1) (M.length + 1) :: flatE es' 448) ⟨hB, v', es', hw', by rw [List.length_append]; rfl⟩
  exact h
theorem putLateW {p now put : Nat} {M : List T} {W : Ents} {za id : Int} (h : Wh B p M now put W) (hs : ∀ x ∈ W, x ∈ S) (ha : za ≤ (now : Int)) (H : Q (.tuple #[.int .i64 0, .int .i64 140]) S) :
    CallWp Try.prog B 10 #[pt p, .int .i64 za, .int .i64 id] Q S := by
  obtain ⟨v, hm⟩ := h.mem
  exact putLateC (hs _ hm) ha H
theorem putFarW {p now put : Nat} {M : List T} {W : Ents} {za id : Int} (h : Wh B p M now put W) (hs : ∀ x ∈ W, x ∈ S) (ha : (now : Int) < za) (ha2 : 1099511627776 < za) (H : Q (.tuple #[.int .i64 0, .int .i64 1]) S) :
    CallWp Try.prog B 10 #[pt p, .int .i64 za, .int .i64 id] Q S := by
  obtain ⟨v, hm⟩ := h.mem
  exact putFarC (hs _ hm) ha ha2 H
theorem putFullW {p now put : Nat} {M : List T} {W : Ents} {za id : Int} (h : Wh B p M now put W) (hs : ∀ x ∈ W, x ∈ S) (hl : M.length = 4096) (ha : (now : Int) < za) (ha2 : za ≤ 1099511627776) (H : Q (.tuple #[.int .i64 0, .int .i64 2]) S) :
    CallWp Try.prog B 10 #[pt p, .int .i64 za, .int .i64 id] Q S := by
  obtain ⟨v, hm⟩ := h.mem
  rw [hl] at hm
  exact putFullC (hs _ hm) ha ha2 H
theorem nowW {p now put : Nat} {M : List T} {W : Ents} (h : Wh B p M now put W) (hs : ∀ x ∈ W, x ∈ S) (H : Q (.int .i64 (now : Int)) S) : CallWp Try.prog B 12 #[pt p] Q S := by
  obtain ⟨v, hm⟩ := h.mem
  exact nowC (hs _ hm) H
theorem lenW {p now put : Nat} {M : List T} {W : Ents} (h : Wh B p M now put W) (hs : ∀ x ∈ W, x ∈ S) (H : Q (.int .i64 (M.length : Int)) S) : CallWp Try.prog B 14 #[pt p] Q S := by
  obtain ⟨v, hm⟩ := h.mem
  exact lenC (hs _ hm) H
theorem nextW {p now put : Nat} {M : List T} {W : Ents} (h : Wh B p M now put W) (hp : put ≤ 1099511627776) (H : ∀ t b, First M t b → Q (.tuple #[iv (t.due : Int), .bool b]) (W ++ S)) :
    CallWp Try.prog B 15 #[pt p] Q (W ++ S) := by
  obtain ⟨hB, v, es, hw, rfl⟩ := h
  exact nextC hw hp H
theorem cancelW {p now put : Nat} {M : List T} {W : Ents} {number : Int} (h : Wh B p M now put W)
    (H0 : ∀ t ∈ M, (t.no : Int) = number → ∀ W', Wh B p (M.filter fun t => decide ((t.no : Int) ≠ number)) now put W' → Q (.int .i64 0) (W' ++ S))
    (H5 : (∀ t ∈ M, (t.no : Int) ≠ number) → Q (.int .i64 5) (W ++ S)) :
    CallWp Try.prog B 17 #[pt p, .int .i64 number] Q (W ++ S) := by
  obtain ⟨hB, v, es, hw, rfl⟩ := h
  refine cancelC hB hw (fun t ht hn v' es' hw' => ?_) H5
  have h := H0 t ht hn (wE p v' now put (M.filter fun t => decide ((t.no : Int) ≠ number)).length :: flatE es' 448) ⟨hB, v', es', hw', rfl⟩
  exact h
theorem advW {p now put to : Nat} {M : List T} {W : Ents} {zt : Int} (hzt : zt = (to : Int)) (h : Wh B p M now put W) (hp : put ≤ 1099511627776) (hle : now ≤ to) (hto : to ≤ 1099511627776)
    (H : ∀ W' ov oe, Wh B p (left M to) to put W' → Own B 3 1 ov (told M to).length (zi (told M to)) oe → Q (.tuple #[ov, .int .i64 0]) (W' ++ (oe ++ S))) :
    CallWp Try.prog B 11 #[pt p, .int .i64 zt] Q (W ++ S) := by
  obtain ⟨hB, v, es, hw, rfl⟩ := h
  refine advC hzt hB hw hp hle hto fun v' es' ov oe hw' ho => ?_
  have h := H (wE p v' to put (left M to).length :: flatE es' 448) ov oe ⟨hB, v', es', hw', rfl⟩ ho
  exact h
theorem advLateW {p now put : Nat} {M : List T} {W : Ents} {zt : Int} (h : Wh B p M now put W) (hs : ∀ x ∈ W, x ∈ S) (ht : zt < (now : Int)) (H : Q (.tuple #[.slice none 0 0, .int .i64 140]) S) :
    CallWp Try.prog B 11 #[pt p, .int .i64 zt] Q S := by
  obtain ⟨v, hm⟩ := h.mem
  exact advLateC (hs _ hm) ht H
theorem advFarW {p now put : Nat} {M : List T} {W : Ents} {zt : Int} (h : Wh B p M now put W) (hs : ∀ x ∈ W, x ∈ S) (ht : (now : Int) ≤ zt) (ht2 : 1099511627776 < zt) (H : Q (.tuple #[.slice none 0 0, .int .i64 1]) S) :
    CallWp Try.prog B 11 #[pt p, .int .i64 zt] Q S := by
  obtain ⟨v, hm⟩ := h.mem
  exact advFarC (hs _ hm) ht ht2 H

theorem told_len {M : List T} {to : Nat} (h : ∀ t ∈ M, t.due ≤ to) : (told M to).length = M.length := by
  unfold told
  rw [List.length_map, List.filter_eq_self.2 (fun t ht => by simpa using h t (mem_srt.1 ht)), srt_len]
theorem told_left_len (M : List T) (to : Nat) : (told M to).length + (left M to).length = M.length := by
  unfold told left
  rw [List.length_map, ← srt_filter, srt_len]
  have h := filter_not_len (fun t : T => decide (t.due ≤ to)) M
  have e : (M.filter fun t => !decide (t.due ≤ to)) = M.filter fun t => decide (to < t.due) := by
    apply List.filter_congr
    intro t _
    by_cases h : t.due ≤ to <;> simp [h] <;> omega
  rw [e] at h
  exact h
theorem left_none {M : List T} {to : Nat} (h : ∀ t ∈ M, t.due ≤ to) : left M to = [] := by
  unfold left
  rw [List.filter_eq_nil_iff]
  intro t ht
  have := h t ht
  simp; omega

def Ms : List T := [⟨5, 1, 1⟩, ⟨3, 2, 2⟩, ⟨5, 3, 3⟩]
theorem Ms_at {i : Nat} (h : i < 3) : ∃ d, ([iv 5, iv 3, iv 5] : List Value)[i]? = some (iv ((d : Nat) : Int)) ∧ 0 < d ∧ d ≤ 5 ∧ Ms.take (i + 1) = Ms.take i ++ [⟨d, ((i + 1 : Nat) : Int), i + 1⟩] ∧ (Ms.take i).length = i := by
  rcases i with _ | _ | _ | i
  · exact ⟨5, rfl, by decide, by decide, rfl, rfl⟩
  · exact ⟨3, rfl, by decide, by decide, rfl, rfl⟩
  · exact ⟨5, rfl, by decide, by decide, rfl, rfl⟩
  · omega
theorem told4 : told Ms 4 = [2] := by decide
theorem left4 : left Ms 4 = [⟨5, 1, 1⟩, ⟨5, 3, 3⟩] := by decide
theorem told5 : told [⟨5, 1, 1⟩, ⟨5, 3, 3⟩] 5 = [1, 3] := by decide
theorem left5 : left [⟨5, 1, 1⟩, ⟨5, 3, 3⟩] 5 = [] := by decide

set_option maxHeartbeats 1000000 in
theorem worksC (H : Q (.bool true) S) : CallWp Try.prog B 9 #[] Q S := by
  refine CallWp.dropRet ?_
  refine CallWp.enter (args := []) Try.func9 rfl Try.ntmps9 rfl ?_
  refine Wp.seq (Wp.region ?_)
  refine OWp.evs 1 rfl ?_
  refine OWp.nil ?_
  refine Wp.seq (Wp.region ?_)
  refine OWp.step rfl (Step.call rfl rfl rfl rfl rfl rfl ((newW ?_)))
  intro p W hW
  refine OWp.evs 1 rfl ?_
  refine OWp.nil ?_
  refine Wp.seq ?_
  refine Wp.seq (Wp.region ?_)
  refine OWp.evs 2 rfl ?_
  refine OWp.nil ?_
  refine Wp.cond rfl (fun c => nomatch c) (fun _ => ?_)
  refine Wp.skip ?_
  refine Wp.seq ?_
  refine Wp.seq (Wp.region ?_)
  refine OWp.step rfl (Step.buildSlice rfl rfl rfl ?_); intro Lb hBLb hLLb
  refine OWp.evs 2 rfl ?_
  refine OWp.nil ?_
  refine Wp.block ?_
  refine Wp.loopS (α := Nat × Ents) (fun z => 3 - z.1) (fun z => [(1, pt p), (13, .slice (some ⟨Lb, 0, none⟩) 3 3), (14, .int .i64 3), (15, .int .i64 (z.1 : Int))]) (fun z => z.2 ++ ((Lb, cel [iv 5, iv 3, iv 5] 3) :: S)) (fun z => z.1 ≤ 3 ∧ Wh B p (Ms.take z.1) 0 z.1 z.2) (0, W) ?_ (List.perm_middle.symm) ⟨Nat.zero_le _, hW⟩ ?_
  · exact .cons rfl (.cons rfl (.cons rfl (.cons rfl (.nil _))))
  rintro ⟨i, W1⟩ ⟨hi, hW1⟩
  simp only at hi hW1 ⊢
  refine Wp.seq (Wp.region ?_)
  refine OWp.evs 1 rfl ?_
  refine OWp.nil ?_
  refine Wp.seq ?_
  refine Wp.cond rfl (fun h1 => ?_) (fun h1 => ?_)
  · have h1 := of_decide_eq_true h1
    have hi2 : i < 3 := by omega
    obtain ⟨d, hd, hd0, hd5, htk, hln⟩ := Ms_at hi2
    refine Wp.skip ?_
    refine Wp.seq ?_
    refine Wp.block ?_
    refine Wp.seq (Wp.region ?_)
    refine OWp.evs 1 rfl ?_
    refine OWp.g rfl rfl (Gives.indexAddrSlice (i) rfl rfl rfl rfl rfl rfl (by omega)) ?_
    refine OWp.load (List.mem_append_right _ (.head _)) rfl rfl rfl rfl ((congrArg _ (by omega : 0 + i * 1 = i)).trans hd) ?_
    refine OWp.evs 2 rfl ?_
    refine OWp.nil ?_
    refine Wp.seq (Wp.region ?_)
    refine OWp.evs 4 rfl ?_
    refine OWp.step rfl (Step.call rfl rfl rfl rfl rfl rfl ((putW (a := d) rfl hW1 hd0 (by omega) (by omega) (by omega) ?_)))
    rw [i64_inc (by omega), ← htk]
    intro W2 hW2
    refine OWp.evs 5 rfl ?_
    refine OWp.nil ?_
    refine Wp.seq (Wp.region ?_)
    refine OWp.evs 5 rfl ?_
    refine OWp.part 32 rfl (fun cc1 => absurd (ndT cc1) (by rw [i64_inc (by omega)]; exact fun h => h rfl)) (fun cc1 => ?_)
    have cc1 := ndF cc1
    refine OWp.evs 3 rfl ?_
    refine OWp.nil ?_
    refine Wp.cond rfl (fun cc2 => absurd (ndT cc2) (by exact fun h => h rfl)) (fun cc2 => ?_)
    have cc2 := ndF cc2
    refine Wp.skip ?_
    refine Wp.region ?_
    refine OWp.evs 2 rfl ?_
    refine OWp.nil ?_
    exact ⟨(i + 1, W2), by simp only; omega, ⟨by simp only; omega, hW2⟩, .cons rfl (.cons rfl (.cons rfl (.cons' rfl (int_eq (i64_inc (by omega))) (.nil _)))), .refl _⟩
  have h1 := of_decide_eq_false h1
  obtain rfl : i = 3 := by omega
  have hW3 : Wh B p Ms 0 3 W1 := hW1
  refine Wp.exit ?_
  refine Wp.seq (Wp.region ?_)
  refine OWp.evs 1 rfl ?_
  refine OWp.step rfl (Step.call rfl rfl rfl rfl rfl rfl ((advW (to := 4) rfl hW3 (by decide) (by decide) (by decide) ?_)))
  rw [told4, left4]
  intro W2 ov1 oe1 hW2 ho1
  refine OWp.evs 5 rfl ?_
  refine OWp.nil ?_
  refine Wp.seq (Wp.region ?_)
  refine OWp.evs 1 rfl ?_
  refine OWp.step rfl (Step.call rfl rfl rfl rfl rfl rfl ((advW (to := 5) rfl hW2 (by decide) (by decide) (by decide) ?_)))
  rw [told5, left5]
  intro W3 ov2 oe2 hW3 ho2
  refine OWp.evs 5 rfl ?_
  refine OWp.nil ?_
  refine Wp.seq (Wp.region ?_)
  refine OWp.evs 3 rfl ?_
  refine OWp.part 49 rfl (fun cc3 => ?_) (fun cc3 => absurd (of_decide_eq_false cc3) (by decide))
  have cc3 := of_decide_eq_true cc3
  refine OWp.evs 1 rfl ?_
  refine OWp.step rfl (Step.buildSlice rfl rfl rfl ?_); intro L51 hBL51 hLL51
  refine OWp.step rfl (Step.call rfl rfl rfl rfl rfl rfl ((sameInts (l := [2]) (k := [2]) (ho1.reads.mono fun x hx => .tail _ (List.mem_append_right _ (List.mem_append_right _ (List.mem_append_left _ hx)))) (Reads.row (k := 1) (sz := 1) (.head _) (Nat.le_refl 1)) (by decide) ?_)))
  refine OWp.evs 2 rfl ?_
  refine OWp.part 54 rfl (fun cc4 => ?_) (fun cc4 => (by contradiction))
  refine OWp.evs 4 rfl ?_
  refine OWp.part 58 rfl (fun cc5 => ?_) (fun cc5 => absurd (of_decide_eq_false cc5) (by contradiction))
  have cc5 := of_decide_eq_true cc5
  refine OWp.evs 1 rfl ?_
  refine OWp.step rfl (Step.buildSlice rfl rfl rfl ?_); intro L60 hBL60 hLL60
  refine OWp.step rfl (Step.call rfl rfl rfl rfl rfl rfl ((sameInts (l := [1, 3]) (k := [1, 3]) (ho2.reads.mono fun x hx => .tail _ (.tail _ (List.mem_append_right _ (List.mem_append_left _ hx)))) (Reads.row (k := 2) (sz := 1) (.head _) (Nat.le_refl 2)) (by decide) ?_)))
  refine OWp.evs 2 rfl ?_
  refine OWp.part 63 rfl (fun cc6 => ?_) (fun cc6 => (by contradiction))
  refine OWp.evs 1 rfl ?_
  refine OWp.step rfl (Step.call rfl rfl rfl rfl rfl rfl ((lenW hW3 (fun x hx => .tail _ (.tail _ (List.mem_append_left _ hx))) ?_)))
  refine OWp.evs 3 rfl ?_
  refine OWp.nil ?_
  refine Wp.ret ⟨trivial, _, ⟨_, _, rfl, rfl, rfl⟩, ?_⟩
  refine ⟨S, ?_, H⟩
  refine .cons _ (.cons _ ?_)
  refine List.Sublist.trans ?_ (List.sublist_append_right _ _)
  refine List.Sublist.trans ?_ (List.sublist_append_right _ _)
  refine List.Sublist.trans ?_ (List.sublist_append_right _ _)
  exact List.sublist_cons_self _ _
end
end Go.Proofs.E
