/- What functions of the given program do, one after the other, told by that layer. -/
import Derived.Test.YtlfhhkdjahcglaaGreatDoorKM12x68f2
import Derived.Test.YtlfhhkdjahcglaaGreatDoorECliP
/- A client: a tick. -/
namespace Go.Proofs.D
open Go.Lg Go.Sha Go.Hd Go.Cv
open Go.Proofs.C (Hop hopP hopB parse pathE encB tp word TIn Nd ndc St stc TownOk HostOf IsHost wayR mayP TownOk belowR WayIn LooseOf HomeOf)
open Go.Cl (first firstOf needs)
set_option maxRecDepth 100000
structure Cs where
 k : Nat
 nx : List Nat
 q : List Nd
 L : List Lp
 lnow : Int
 seq : Nat
 dry : Bool
/-- How long it is to the next slot. -/
def waitN (c : Ck) (kind k : Nat) : Nat := 1 + C.dl (c.mn.getD kind 0).toNat (word c.s k) 255
def doT (c : Ck) (x : Cs) (kind : Nat) : List UInt8 :=
 if kind = 0 then payT c x.k x.q else if kind = 1 then dropT c x.k else if kind = 2 then loopT c x.k else pullB c.user (x.seq + 1) (pullT c.key c.user (x.seq + 1))
def qA (kind : Nat) (q : List Nd) : List Nd := if kind = 0 then q.tail else q
def LA (c : Ck) (kind k : Nat) (at_ : Int) (L : List Lp) : List Lp := if kind = 2 then sentR c.wd c.dl at_ (idAt c.s k) L else L
def lnA (kind : Nat) (at_ lnow : Int) : Int := if kind = 2 then at_ else lnow
def sqA (kind seq : Nat) : Nat := if kind = 3 then seq + 1 else seq
def atN (x : Cs) : Nat := x.nx.getD (first x.nx) 0
def nextS (c : Ck) (x : Cs) : Cs :=
 ⟨x.k + needs c.w (first x.nx), x.nx.set (first x.nx) (atN x + waitN c (first x.nx) (x.k + needs c.w (first x.nx) - 4)), qA (first x.nx) x.q, LA c (first x.nx) x.k (atN x) x.L, lnA (first x.nx) (atN x) x.lnow, sqA (first x.nx) x.seq, x.dry⟩
abbrev Snt := Nat × Nat × List UInt8
def sntc (x : Snt) : List Value := [.int .i64 (x.1 : Int), .int .i64 (x.2.1 : Int), .string (str x.2.2)]
theorem snt_flat (l : List Snt) : ∀ x ∈ l, (sntc x).length = 3 := fun _ _ => rfl
def runT (c : Ck) (to : Nat) : Nat → Cs → List Snt × Cs
 | 0, x => ([], x)
 | f + 1, x =>
  if x.dry = true ∨ to < atN x then ([], x)
  else if c.s.length - x.k < needs c.w (first x.nx) then ([], { x with dry := true })
  else ((atN x, first x.nx, doT c x (first x.nx)) :: (runT c to f (nextS c x)).1, (runT c to f (nextS c x)).2)
/-- What a tick sends, and what is then. -/
def tickT (c : Ck) (to : Nat) (x : Cs) : List Snt × Cs := runT c to (c.s.length + 1) x
theorem runT_fuel {c : Ck} {to : Nat} : ∀ (f g : Nat) (x : Cs), x.k ≤ c.s.length → c.s.length - x.k < f → c.s.length - x.k < g → runT c to f x = runT c to g x
 | 0, _, _, _, h, _ => by omega
 | _ + 1, 0, _, _, _, h => by omega
 | f + 1, g + 1, x, hk, h1, h2 => by
  have hp := Cl.needs_pos c.w (first x.nx)
  rw [runT, runT]
  split
  ·rfl
  ·split
   ·rfl
   ·have e := runT_fuel (c := c) (to := to) f g (nextS c x) (by unfold nextS; simp only; omega) (by unfold nextS; simp only; omega) (by unfold nextS; simp only; omega)
    rw [e]
theorem tickT_end {c : Ck} {to : Nat} {x : Cs} (h : x.dry = true ∨ to < atN x) : tickT c to x = ([], x) := by
 unfold tickT
 rw [runT, if_pos h]
theorem tickT_dry {c : Ck} {to : Nat} {x : Cs} (h : ¬ (x.dry = true ∨ to < atN x)) (hn : c.s.length - x.k < needs c.w (first x.nx)) : tickT c to x = ([], { x with dry := true }) := by
 unfold tickT
 rw [runT, if_neg h, if_pos hn]
theorem tickT_next {c : Ck} {to : Nat} {x : Cs} (hk : x.k ≤ c.s.length) (h : ¬ (x.dry = true ∨ to < atN x)) (hn : ¬ c.s.length - x.k < needs c.w (first x.nx)) :
  tickT c to x = ((atN x, first x.nx, doT c x (first x.nx)) :: (tickT c to (nextS c x)).1, (tickT c to (nextS c x)).2) := by
 have hp := Cl.needs_pos c.w (first x.nx)
 unfold tickT
 rw [runT, if_neg h, if_neg hn]
 have e := runT_fuel (c := c) (to := to) c.s.length (c.s.length + 1) (nextS c x) (by unfold nextS; simp only; omega) (by unfold nextS; simp only; omega) (by unfold nextS; simp only; omega)
 rw [e]
theorem firstOf_min : ∀ (l p : List Nat) (best least : Nat), best < p.length → p.getD best 0 = least → (∀ j, j < p.length → least ≤ p.getD j 0) → ∀ j, j < p.length + l.length → (p ++ l).getD (firstOf l p.length best least) 0 ≤ (p ++ l).getD j 0
 | [], p, best, least, hb, h1, h2, j, hj => by
  rw [List.append_nil, firstOf, h1]
  exact h2 j (by simpa using hj)
 | a :: l, p, best, least, hb, h1, h2, j, hj => by
  rw [firstOf]
  have e : p ++ a :: l = (p ++ [a]) ++ l := by simp
  have hl : (p ++ [a]).length = p.length + 1 := by simp
  have ga : (p ++ [a]).getD p.length 0 = a := by simp [List.getD_eq_getElem?_getD]
  have gp : ∀ i, i < p.length → (p ++ [a]).getD i 0 = p.getD i 0 := fun i hi => by simp [List.getD_eq_getElem?_getD, List.getElem?_append_left hi]
  split
  ·rename_i hlt
   have ih := firstOf_min l (p ++ [a]) p.length a (by omega) ga (fun i hi => by
    rcases Nat.lt_or_ge i p.length with h | h
    ·rw [gp i h]; have := h2 i h; omega
    ·obtain rfl : i = p.length := by omega
     rw [ga]; exact Nat.le_refl _) j (by simp only [List.length_cons] at hj; omega)
   rw [hl, ← e] at ih
   exact ih
  ·rename_i hge
   have ih := firstOf_min l (p ++ [a]) best least (by omega) (by rw [gp best hb]; exact h1) (fun i hi => by
    rcases Nat.lt_or_ge i p.length with h | h
    ·rw [gp i h]; exact h2 i h
    ·obtain rfl : i = p.length := by omega
     rw [ga]; omega) j (by simp only [List.length_cons] at hj; omega)
   rw [hl, ← e] at ih
   exact ih
theorem first_min {nx : List Nat} (j : Nat) (h : j < nx.length) : nx.getD (first nx) 0 ≤ nx.getD j 0 := by
 cases nx with
 | nil => simp at h
 | cons a l =>
  have hz : ∀ i, i < [a].length → a ≤ [a].getD i 0 := by
   intro i hi
   have h0 : i = 0 := by simp at hi; exact hi
   rw [h0]
   exact Nat.le_refl _
  have := firstOf_min l [a] 0 a (by simp) rfl hz j (by rw [List.length_cons] at h; simp only [List.length_singleton]; omega)
  have e : first (a :: l) = firstOf l 1 0 a := by
   show firstOf (a :: l) 0 0 a = _
   rw [firstOf, if_neg (Nat.lt_irrefl _)]
  rw [e]
  exact this
/-- What is right of it between two slots. -/
structure CsOk (c : Ck) (x : Cs) : Prop where
 k : x.k ≤ c.s.length
 nx : x.nx.length = 4
 low : ∀ i, i < 4 → x.lnow ≤ (x.nx.getD i 0 : Nat)
 pos : 0 ≤ x.lnow
 most : ∀ i, i < 4 → x.nx.getD i 0 ≤ 1099511628288
 q : ∀ p ∈ x.q, PartOk c p
 ql : x.q.length ≤ 256
 L : x.L.length ≤ 4096
 seq : x.seq + (c.s.length - x.k) ≤ 1000000
theorem dl_le255 (c : Ck) (kind k : Nat) : waitN c kind k ≤ 256 := by
 have := C.dl_le (c.mn.getD kind 0).toNat (word c.s k) 255
 unfold waitN; omega
theorem CsOk.next {c : Ck} {x : Cs} {to : Nat} (h : CsOk c x) (ht : to ≤ 1099511627776) (h1 : ¬ (x.dry = true ∨ to < atN x)) (hn : ¬ c.s.length - x.k < needs c.w (first x.nx)) : CsOk c (nextS c x) := by
 have hp := Cl.needs_pos c.w (first x.nx)
 have hf : first x.nx < 4 := by have := Cl.first_lt (nx := x.nx) (by rw [h.nx]; decide); rwa [h.nx] at this
 have hw := dl_le255 c (first x.nx) (x.k + needs c.w (first x.nx) - 4)
 have hat : atN x ≤ to := by
  rcases Nat.lt_or_ge to (atN x) with h2 | h2
  ·exact absurd (.inr h2) h1
  ·exact h2
 have hmin : ∀ i, i < 4 → atN x ≤ x.nx.getD i 0 := fun i hi => first_min i (by rw [h.nx]; exact hi)
 have hset : ∀ i, i < 4 → (x.nx.set (first x.nx) (atN x + waitN c (first x.nx) (x.k + needs c.w (first x.nx) - 4))).getD i 0 = if i = first x.nx then atN x + waitN c (first x.nx) (x.k + needs c.w (first x.nx) - 4) else x.nx.getD i 0 := by
  intro i hi
  rw [List.getD_eq_getElem?_getD, List.getElem?_set]
  by_cases e : first x.nx = i
  ·subst e
   rw [if_pos rfl, if_pos (by rw [h.nx]; exact hf), if_pos rfl]
   rfl
  ·rw [if_neg e, if_neg (fun e2 => e e2.symm), List.getD_eq_getElem?_getD]
 have hl0 := h.low (first x.nx) hf
 have hal : x.lnow ≤ (atN x : Nat) := hl0
 refine ⟨?_, ?_, ?_, ?_, ?_, ?_, ?_, ?_, ?_⟩
 ·unfold nextS; simp only; omega
 ·unfold nextS; simp only [List.length_set]; exact h.nx
 ·intro i hi
  unfold nextS; simp only
  rw [hset i hi]
  have h3 := hmin i hi
  have h4 := h.low i hi
  unfold lnA
  split <;> split <;> omega
 ·unfold nextS lnA; simp only; have := h.pos; split <;> omega
 ·intro i hi
  unfold nextS; simp only
  rw [hset i hi]
  have := h.most i hi
  split <;> omega
 ·intro p hp
  unfold nextS qA at hp; simp only at hp
  split at hp
  ·exact h.q p (List.mem_of_mem_tail hp)
  ·exact h.q p hp
 ·unfold nextS qA; simp only
  have := h.ql
  split
  ·rw [List.length_tail]; omega
  ·exact this
 ·unfold nextS LA; simp only
  split
  ·exact sentR_len _ _ _ _ h.L
  ·exact h.L
 ·unfold nextS sqA; simp only
  have := h.seq
  split <;> omega
/-- Times and kinds are those that are reckoned from the tape alone. -/
theorem runT_run {c : Ck} {to : Nat} : ∀ (f : Nat) (x : Cs), (runT c to f x).1.map (fun y => (y.1, y.2.1)) = (Cl.run c.s.length c.w (waitN c) to f ⟨x.k, x.nx, x.dry⟩).1 ∧
  (⟨(runT c to f x).2.k, (runT c to f x).2.nx, (runT c to f x).2.dry⟩ : Cl.Ct) = (Cl.run c.s.length c.w (waitN c) to f ⟨x.k, x.nx, x.dry⟩).2
 | 0, x => ⟨rfl, rfl⟩
 | f + 1, x => by
  have ih := runT_run (c := c) (to := to) f (nextS c x)
  rw [runT, Cl.run]
  by_cases h1 : x.dry = true ∨ to < atN x
  ·rw [if_pos h1]
   have h1' : (⟨x.k, x.nx, x.dry⟩ : Cl.Ct).dry = true ∨ to < (⟨x.k, x.nx, x.dry⟩ : Cl.Ct).nx.getD (first (⟨x.k, x.nx, x.dry⟩ : Cl.Ct).nx) 0 := h1
   rw [if_pos h1']
   exact ⟨rfl, rfl⟩
  ·rw [if_neg h1]
   have h1' : ¬ ((⟨x.k, x.nx, x.dry⟩ : Cl.Ct).dry = true ∨ to < (⟨x.k, x.nx, x.dry⟩ : Cl.Ct).nx.getD (first (⟨x.k, x.nx, x.dry⟩ : Cl.Ct).nx) 0) := h1
   rw [if_neg h1']
   by_cases h2 : c.s.length - x.k < needs c.w (first x.nx)
   ·rw [if_pos h2]
    have h2' : c.s.length - (⟨x.k, x.nx, x.dry⟩ : Cl.Ct).k < needs c.w (first (⟨x.k, x.nx, x.dry⟩ : Cl.Ct).nx) := h2
    rw [if_pos h2']
    exact ⟨rfl, rfl⟩
   ·rw [if_neg h2]
    have h2' : ¬ (c.s.length - (⟨x.k, x.nx, x.dry⟩ : Cl.Ct).k < needs c.w (first (⟨x.k, x.nx, x.dry⟩ : Cl.Ct).nx)) := h2
    rw [if_neg h2']
    have e : (⟨(nextS c x).k, (nextS c x).nx, (nextS c x).dry⟩ : Cl.Ct) = Cl.next c.w (waitN c) ⟨x.k, x.nx, x.dry⟩ := rfl
    rw [e] at ih
    exact ⟨by simp only [List.map_cons, ih.1]; rfl, ih.2⟩
theorem len4 {nx : List Nat} (h : nx.length = 4) : ∃ a b c d, nx = [a, b, c, d] := by
 match nx, h with
 | [a, b, c, d], _ => exact ⟨a, b, c, d, rfl⟩
section
variable {c : Ck} {qv : Value} {nx : List Nat} {now : Int} {many seq : Nat} {dry : Bool} {k kind o : Nat}
theorem mn_at (h : kind < 4) (ho : o = 5 + kind) : Lg.partAt Tryz.prog 3 (clc c qv nx now many seq dry) o = some (.int .i64 (c.mn.getD kind 0)) := by
 subst ho
 rcases kind with _ | _ | _ | _ | _ <;> first | rfl | omega
theorem nx_at (h : kind < 4) (ho : o = 17 + kind) : Lg.partAt Tryz.prog 3 (clc c qv nx now many seq dry) o = some (.int .i64 (nx.getD kind 0 : Nat)) := by
 subst ho
 rcases kind with _ | _ | _ | _ | _ <;> first | rfl | omega
theorem need_at (h : kind < 4) (ho : o = 22 + 2 * kind) : Lg.partAt Tryz.prog 3 (clc c qv nx now many seq dry) o = some (.int .i64 (needs c.w kind : Nat)) := by
 subst ho
 rcases kind with _ | _ | _ | _ | _ <;> first | rfl | omega
theorem nx_set {v : Nat} (hl : nx.length = 4) (h : kind < 4) (ho : o = 17 + kind) : wr (clc c qv nx now many seq dry) o [.int .i64 (v : Int)] = clc c qv (nx.set kind v) now many seq dry := by
 subst ho
 obtain ⟨a, b, e, d, rfl⟩ := len4 hl
 rcases kind with _ | _ | _ | _ | _ <;> first | rfl | omega
theorem nx_cells (h : kind < 4) : Lg.partAt Tryz.prog 3 [.int .i64 (nx.getD 0 0 : Nat), .int .i64 (nx.getD 1 0 : Nat), .int .i64 (nx.getD 2 0 : Nat), .int .i64 (nx.getD 3 0 : Nat)] (kind * 1) = some (.int .i64 (nx.getD kind 0 : Nat)) := by
 rcases kind with _ | _ | _ | _ | _ <;> first | rfl | omega
end
section
variable {B : Nat} {S R : Ents} {Q : Value → Ents → Prop} {c : Ck} {qv : Value} {nx : List Nat} {now : Int} {many seq : Nat} {dry : Bool} {k kind : Nat}
theorem cwaitC (ho : CkOk B R c) (hm : cle c qv nx now many seq dry ∈ S) (h4 : kind < 4) (hk : k + 4 ≤ c.s.length) (H : Q (.int .i64 (waitN c kind k : Nat)) (tp c.px c.s (k + 4) :: S)) :
  CallWp Tryz.prog B 37 #[pt c.p, .int .i64 (kind : Int)] Q (tp c.px c.s k :: S) := by
 have hs : c.s.length ≤ C.lim := by have := ho.sl; unfold C.lim; omega
 have hd := C.dl_le (c.mn.getD kind 0).toNat (word c.s k) 255
 refine Yx (args := [_, _]) Tryz.func37 Tryz.ntmps37 ?_
 refine Yn 1 rfl ?_
 refine Wp.seq (Wp.regionDraw [0, 1, 2, 3, 4, 5, 6, 7, 8, 9, 10, 11, 12, 13, 14, 15, 16] [11] rfl (by decide +kernel) ?_)
 refine DWp.evs 3 rfl ?_
 refine Yd (.tail _ hm) ?_
 refine DWp.evs 5 rfl ?_
 refine DWp.g rfl rfl rfl rfl (Gives.indexAddrArr (kind) rfl rfl rfl rfl rfl rfl h4) ?_
 refine DWp.load (.tail _ hm) rfl rfl rfl rfl rfl rfl (mn_at h4 (by show 0 + 0 + 5 + kind * 1 = 5 + kind; omega)) ?_
 refine DWp.stepAll rfl rfl rfl rfl (Step.call rfl rfl rfl rfl rfl rfl ((C.drawC ho.hpx hs (by omega) ?_)))
 rw [C.drawR_yes (ho.mn kind) hk]
 refine DWp.evs 5 rfl ?_
 refine DWp.nil ?_
 refine Yn 3 rfl ?_
 refine Wp.ret ⟨trivial, _, ⟨_, _, rfl, rfl, rfl⟩, ?_⟩
 have e : IntKind.i64.wrap (1 + ((C.dl (c.mn.getD kind 0).toNat (word c.s k) 255 : Nat) : Int)) = ((waitN c kind k : Nat) : Int) := by unfold waitN; rw [i64_id (by omega) (by omega)]; omega
 show Q (.int .i64 (IntKind.i64.wrap (1 + ((C.dl (c.mn.getD kind 0).toNat (word c.s k) 255 : Nat) : Int)))) _
 rw [e]
 exact H
theorem cfirstC (hm : cle c qv nx now many seq dry ∈ S) (hl : nx.length = 4) (H : Q (.int .i64 (first nx : Nat)) S) : CallWp Tryz.prog B 39 #[pt c.p] Q S := by
 refine Yx (args := [_]) Tryz.func39 Tryz.ntmps39 ?_
 refine Yn 1 rfl ?_
 refine Yn 1 rfl ?_
 refine Wp.seq ?_
 refine Yg 3 rfl ?_
 refine Yl hm ?_
 refine Yz 1 rfl ?_
 refine Wp.block ?_
 refine Wp.loopS (α := Nat × Nat) (fun z => 4 - z.1) (fun z => [(0, pt c.p), (3, .int .i64 (z.2 : Int)), (9, .agg #[.int .i64 (nx.getD 0 0 : Nat), .int .i64 (nx.getD 1 0 : Nat), .int .i64 (nx.getD 2 0 : Nat), .int .i64 (nx.getD 3 0 : Nat)]), (10, .int .i64 (z.1 : Int))]) (fun _ => S) (fun z => z.1 ≤ 4 ∧ z.2 < 4 ∧ firstOf (nx.drop z.1) z.1 z.2 (nx.getD z.2 0) = first nx) (0, 0) ?_ (.refl _) ⟨Nat.zero_le _, by decide, rfl⟩ ?_
 ·exact .cons rfl (.cons rfl (.cons rfl (.cons rfl (.nil _))))
 rintro ⟨i, b⟩ ⟨hi, hb, hf⟩
 simp only at hi hb hf ⊢
 refine Yn 1 rfl ?_
 refine Wp.seq ?_
 refine Wp.cond rfl (fun c1 => ?_) (fun c1 => ?_)
 ·have c1 := of_decide_eq_true c1
  have hlt : i < 4 := by omega
  have hd : nx.drop i = nx.getD i 0 :: nx.drop (i + 1) := by rw [List.drop_eq_getElem_cons (by omega)]; simp [List.getD_eq_getElem?_getD, hl, hlt]
  rw [hd, firstOf] at hf
  refine Wp.skip ?_
  refine Wp.seq ?_
  refine Wp.block ?_
  refine Yg 1 rfl ?_
  refine OWp.g rfl rfl (Gives.indexArr (i) rfl rfl rfl rfl rfl rfl hlt (nx_cells hlt)) ?_
  refine Yz 2 rfl ?_
  refine Yg 5 rfl ?_
  refine OWp.g rfl rfl (Gives.indexAddrArr (b) rfl rfl rfl rfl rfl rfl hb) ?_
  refine OWp.load hm rfl rfl rfl rfl (nx_at hb (by show 0 + 17 + b * 1 = 17 + b; omega)) ?_
  refine Yz 1 rfl ?_
  refine Wp.cond rfl (fun c2 => ?_) (fun c2 => ?_)
  ·have c2 := of_decide_eq_true c2
   rw [if_pos (by omega)] at hf
   refine Wp.region ?_
   refine Yz 2 rfl ?_
   refine Wp.region ?_
   refine Yz 2 rfl ?_
   exact ⟨(i + 1, i), by simp only; omega, ⟨by simp only; omega, hlt, hf⟩, .cons rfl (.cons rfl (.cons rfl (.cons' rfl (int_eq (i64_inc (by omega))) (.nil _)))), .refl _⟩
  have c2 := of_decide_eq_false c2
  rw [if_neg (by omega)] at hf
  refine Wp.skip ?_
  refine Wp.region ?_
  refine Yz 2 rfl ?_
  exact ⟨(i + 1, b), by simp only; omega, ⟨by simp only; omega, hb, hf⟩, .cons rfl (.cons rfl (.cons rfl (.cons' rfl (int_eq (i64_inc (by omega))) (.nil _)))), .refl _⟩
 have c1 := of_decide_eq_false c1
 obtain rfl : i = 4 := by omega
 refine Wp.exit ?_
 refine Yn 2 rfl ?_
 refine Wp.ret ⟨trivial, _, ⟨_, _, rfl, rfl, rfl⟩, ?_⟩
 rw [List.drop_of_length_le (by omega), firstOf] at hf
 rw [← hf] at H
 exact H
end
end Go.Proofs.D

/- A client: a tick, walked. -/
namespace Go.Proofs.D
open Go.Lg Go.Sha Go.Hd Go.Cv
open Go.Proofs.C (Hop hopP hopB parse pathE encB tp word TIn Nd ndc St stc TownOk HostOf IsHost wayR mayP TownOk belowR WayIn LooseOf HomeOf)
open Go.Cl (first firstOf needs)
set_option maxRecDepth 100000
abbrev lde (c : Ck) (lnow : Int) (lv : Value) : Nat × Obj := (c.pl, cel (lgc c.wd c.dl c.th lnow lv) 147)
/-- A client in memory. -/
def CliIn (B : Nat) (c : Ck) (x : Cs) (now : Int) (many : Nat) (W : Ents) : Prop := ∃ qv qes lv les, W = cle c qv x.nx now many x.seq x.dry :: tp c.px c.s x.k :: (qes ++ (lde c x.lnow lv :: les)) ∧
 OwnAt B 165 2 qv x.q.length (x.q.flatMap ndc) qes ∧ Lg.Own B 187 3 lv x.L.length (x.L.flatMap Lp.cells) les
theorem _root_.Go.Lg.OwnAt.form {B : Nat} {e : TypeId} {sz k : Nat} {v : Value} {xs : List Value} {es : Ents} (h : OwnAt B e sz v k xs es) : ∃ a c, v = .slice a k c := h.reads.form
section
variable {c : Ck} {qv : Value} {nx : List Nat} {now : Int} {many seq : Nat} {dry : Bool} {o : Nat}
theorem fn_at0 (ho : o = 21) : Lg.partAt Tryz.prog 92 (clc c qv nx now many seq dry) o = some (.func (.func 32) #[pt c.p] #[]) := by subst ho; rfl
theorem fn_at1 (ho : o = 23) : Lg.partAt Tryz.prog 92 (clc c qv nx now many seq dry) o = some (.func (.func 33) #[pt c.p] #[]) := by subst ho; rfl
theorem fn_at2 (ho : o = 25) : Lg.partAt Tryz.prog 92 (clc c qv nx now many seq dry) o = some (.func (.func 34) #[pt c.p] #[]) := by subst ho; rfl
theorem fn_at3 (ho : o = 27) : Lg.partAt Tryz.prog 92 (clc c qv nx now many seq dry) o = some (.func (.func 35) #[pt c.p] #[]) := by subst ho; rfl
end
section
variable {B : Nat} {S R : Ents} {Q : Value → Ents → Prop} {c : Ck}
set_option maxHeartbeats 8000000 in
theorem tickC {x0 : Cs} {now : Int} {to many : Nat} {W : Ents} (ho : CkOk B R c) (hR : ∀ y ∈ R, y ∈ S) (hok : CsOk c x0) (hW : CliIn B c x0 now many W) (h1 : now ≤ (to : Int)) (h2 : to ≤ 1099511627776) (h3 : (to : Int) - now ≤ 4096) (_hn0 : 0 ≤ now)
  (H : ∀ W' ov oes, CliIn B c (tickT c to x0).2 to many W' → Lg.Own B 47 3 ov (tickT c to x0).1.length ((tickT c to x0).1.flatMap sntc) oes → CsOk c (tickT c to x0).2 → Q (.tuple #[ov, .int .i64 0]) (W' ++ (oes ++ S))) :
  CallWp Tryz.prog B 12 #[pt c.p, .int .i64 (to : Int)] Q (W ++ S) := by
 obtain ⟨qv0, qes0, lv0, les0, rfl, hq0, hl0⟩ := hW
 have hs : c.s.length ≤ C.lim := by have := ho.sl; unfold C.lim; omega
 have hsl := ho.sl
 have fin : ∀ (x : Cs) outs ov oes qv qes lv les, tickT c to x0 = (outs, x) → CsOk c x → Lg.Own B 47 3 ov outs.length (outs.flatMap sntc) oes → OwnAt B 165 2 qv x.q.length (x.q.flatMap ndc) qes → Lg.Own B 187 3 lv x.L.length (x.L.flatMap Lp.cells) les →
   ∃ S1 S2 : Ents, (cle c qv x.nx to many x.seq x.dry :: tp c.px c.s x.k :: (oes ++ (qes ++ (lde c x.lnow lv :: (les ++ S))))).Perm S1 ∧ S2.Sublist S1 ∧ Q (.tuple #[ov, .int .i64 0]) S2 := by
  intro x outs ov oes qv qes lv les he hc h1 h2 h3
  rw [he] at H
  have h := H _ ov oes ⟨qv, qes, lv, les, rfl, h2, h3⟩ h1 hc
  refine ⟨_, _, ?_, .refl _, h⟩
  have e : (cle c qv x.nx to many x.seq x.dry :: tp c.px c.s x.k :: (qes ++ (lde c x.lnow lv :: les))) ++ (oes ++ S) = cle c qv x.nx to many x.seq x.dry :: tp c.px c.s x.k :: (qes ++ (lde c x.lnow lv :: (les ++ (oes ++ S)))) := by simp
  simp only at e ⊢
  rw [e]
  exact (.symm (.cons _ (.cons _ (Pf (Pe (Pf .rfl))))))
 have e0 : (cle c qv0 x0.nx now many x0.seq x0.dry :: tp c.px c.s x0.k :: (qes0 ++ (lde c x0.lnow lv0 :: les0))) ++ S = cle c qv0 x0.nx now many x0.seq x0.dry :: tp c.px c.s x0.k :: ([] ++ (qes0 ++ (lde c x0.lnow lv0 :: (les0 ++ S)))) := by simp
 rw [e0]
 refine C.subRet ?_
 refine Yx (args := [_, _]) Tryz.func12 Tryz.ntmps12 ?_
 refine Yn 2 rfl ?_
 refine Wp.seq ?_
 refine Wp.block ?_
 refine Yg 4 rfl ?_
 refine Yl m0 ?_
 refine Yz 2 rfl ?_
 refine Ct rfl (by omega) fun cc1 => ?_
 refine Yg 3 rfl ?_
 refine Dt 21 rfl (by omega) fun cc2 => ?_
 refine Ye 4 rfl ?_
 refine Yl m0 ?_
 refine Yz 4 rfl ?_
 refine Ct rfl (by rw [i64_id (by omega) (by omega)]; omega) fun cc3 => ?_
 refine Wp.skip ?_
 refine Yg 4 rfl ?_
 refine OWp.step rfl (Step.storeAs 0 (clc c qv0 x0.nx to many x0.seq x0.dry) rfl rfl rfl rfl rfl ho.hp rfl (Unfz.zero _) rfl (Nat.le_of_ble_eq_true rfl) rfl rfl ?_)
 refine OWp.nil ?_
 refine Yn 1 rfl ?_
 refine Wp.seq ?_
 refine Yg 1 rfl ?_
 refine Yc rfl rfl (cfirstC (.head _) hok.nx ?_)
 refine Yz 1 rfl ?_
 refine Wp.block ?_
 refine Wp.loopS (α := Cs × List Snt × (Value × Ents) × (Value × Ents) × (Value × Ents)) (fun z => c.s.length - z.1.k) (fun z => [(0, pt c.p), (1, .int .i64 (to : Int)), (6, z.2.2.1.1), (7, .int .i64 (first z.1.nx : Nat))]) (fun z => cle c z.2.2.2.1.1 z.1.nx to many z.1.seq z.1.dry :: tp c.px c.s z.1.k :: (z.2.2.1.2 ++ (z.2.2.2.1.2 ++ (lde c z.1.lnow z.2.2.2.2.1 :: (z.2.2.2.2.2 ++ S))))) (fun z => CsOk c z.1 ∧ Lg.Own B 47 3 z.2.2.1.1 z.2.1.length (z.2.1.flatMap sntc) z.2.2.1.2 ∧ OwnAt B 165 2 z.2.2.2.1.1 z.1.q.length (z.1.q.flatMap ndc) z.2.2.2.1.2 ∧ Lg.Own B 187 3 z.2.2.2.2.1 z.1.L.length (z.1.L.flatMap Lp.cells) z.2.2.2.2.2 ∧ tickT c to x0 = (z.2.1 ++ (tickT c to z.1).1, (tickT c to z.1).2) ∧ z.2.1.length ≤ z.1.k) (x0, [], (.slice none 0 0, []), (qv0, qes0), (lv0, les0)) ?_ (.refl _) ⟨hok, Own.nil _ _ _, hq0, hl0, rfl, Nat.zero_le _⟩ ?_
 ·exact .cons rfl (.cons rfl (.cons rfl (.cons rfl (.nil _))))
 rintro ⟨⟨k, nx, q, L, lnow, seq, dry⟩, outs, ⟨ov, oes⟩, ⟨qv, qes⟩, ⟨lv, les⟩⟩ ⟨hx, hov, hqv, hlv, hrun, hol⟩
 simp only at hov hqv hlv hrun hol ⊢
 have hnx : nx.length = 4 := hx.nx
 have hf4 : first nx < 4 := by have := Cl.first_lt (nx := nx) (by rw [hnx]; decide); rwa [hnx] at this
 refine Wp.seq ?_
 refine Yg 3 rfl ?_
 refine Yl m0 ?_
 cases dry
 ·skip
  refine Ye 2 rfl ?_
  refine Ye 4 rfl ?_
  refine OWp.g rfl rfl (Gives.indexAddrArr ((first nx)) rfl rfl rfl rfl rfl rfl hf4) ?_
  refine OWp.load (.head _) rfl rfl rfl rfl (nx_at hf4 (by show 0 + 17 + first nx * 1 = 17 + first nx; omega)) ?_
  refine Yz 3 rfl ?_
  refine Wp.cond rfl (fun c1 => ?_) (fun c1 => ?_)
  ·have c1 := of_decide_eq_true c1
   have c1' : ¬ ((⟨k, nx, q, L, lnow, seq, false⟩ : Cs).dry = true ∨ to < atN ⟨k, nx, q, L, lnow, seq, false⟩) := by
    show ¬ (false = true ∨ to < nx.getD (first nx) 0)
    rintro (h | h)
    ·cases h
    ·omega
   refine Wp.skip ?_
   refine Wp.seq ?_
   refine Wp.block ?_
   refine Yg 4 rfl ?_
   refine OWp.g rfl rfl (Gives.indexAddrArr ((first nx)) rfl rfl rfl rfl rfl rfl hf4) ?_
   refine OWp.load (.head _) rfl rfl rfl rfl (nx_at hf4 (by show 0 + 17 + first nx * 1 = 17 + first nx; omega)) ?_
   refine Yz 1 rfl ?_
   refine Wp.seq ?_
   refine Wp.seq (Wp.regionDraw [0, 1, 2, 3, 4, 5, 7, 8, 9, 10, 11, 12, 13, 6, 14] [6] rfl (by decide +kernel) ?_)
   refine DWp.evs 3 rfl ?_
   refine Yd m0 ?_
   refine DWp.evs 6 rfl ?_
   refine DWp.g rfl rfl rfl rfl (Gives.indexAddrArr ((first nx)) rfl rfl rfl rfl rfl rfl hf4) ?_
   refine DWp.evs 1 rfl ?_
   refine DWp.load (.head _) rfl rfl rfl rfl rfl rfl (need_at hf4 (by show 0 + 21 + first nx * 2 + 1 = 22 + 2 * first nx; omega)) ?_
   refine DWp.stepGrow rfl rfl rfl (Step.call rfl rfl rfl rfl rfl rfl ((C.left (s := c.s) (k := k) (.tail _ (.head _)) hx.k hs ?_)))
   refine ⟨fun _ hy => hy, ?_⟩
   refine DWp.evs 1 rfl ?_
   refine DWp.nil ?_
   refine Wp.cond rfl (fun c2 => ?_) (fun c2 => ?_)
   ·have c2 := of_decide_eq_true c2
    refine Yg 3 rfl ?_
    refine OWp.step rfl (Step.storeAs 0 (clc c qv nx to many seq true) rfl rfl rfl rfl rfl ho.hp rfl (Unfz.zero _) rfl (Nat.le_of_ble_eq_true rfl) rfl rfl ?_)
    refine OWp.nil ?_
    refine Wp.exit ?_
    refine Yn 3 rfl ?_
    refine Wp.ret ⟨trivial, _, ⟨_, _, rfl, rfl, _, _, rfl, rfl, rfl⟩, ?_⟩
    have e1 := tickT_dry c1' (show c.s.length - k < needs c.w (first nx) by omega)
    rw [e1, List.append_nil] at hrun
    exact fin _ _ _ _ _ _ _ _ hrun ⟨hx.k, hx.nx, hx.low, hx.pos, hx.most, hx.q, hx.ql, hx.L, hx.seq⟩ hov hqv hlv
   have c2 := of_decide_eq_false c2
   have c2' : ¬ c.s.length - k < needs c.w (first nx) := by omega
   have hkk : k ≤ c.s.length := hx.k
   have hn4 := Cl.needs_pos c.w (first nx)
   have hat : nx.getD (first nx) 0 ≤ to := by omega
   have hlow := hx.low (first nx) hf4
   have hseq := hx.seq
   have hpos := hx.pos
   simp only at hlow hseq hpos
   refine Wp.skip ?_
   refine Wp.seq ?_
   refine Wp.seqS (α := Value × Value × Ents) (fun y => [(0, pt c.p), (1, .int .i64 (to : Int)), (6, ov), (7, .int .i64 (first nx : Nat)), (8, .int .i64 (nx.getD (first nx) 0 : Nat)), (9, .string (str (doT c ⟨k, nx, q, L, lnow, seq, false⟩ (first nx)))), (10, .bool true)]) (fun y => cle c y.1 nx to many (sqA (first nx) seq) false :: tp c.px c.s (k + needs c.w (first nx) - 4) :: (oes ++ (qes ++ (lde c (lnA (first nx) (nx.getD (first nx) 0 : Nat) lnow) y.2.1 :: (y.2.2 ++ S))))) (fun y => OwnAt B 165 2 y.1 (qA (first nx) q).length ((qA (first nx) q).flatMap ndc) qes ∧ Lg.Own B 187 3 y.2.1 (LA c (first nx) k (nx.getD (first nx) 0 : Nat) L).length ((LA c (first nx) k (nx.getD (first nx) 0 : Nat) L).flatMap Lp.cells) y.2.2) ?_ ?_
   ·skip
    generalize nx.getD (first nx) 0 = at_ at *
    generalize first nx = kd at *
    have hR2 : ∀ y ∈ R, y ∈ (cle c qv nx to many seq false :: (oes ++ (qes ++ (lde c lnow lv :: (les ++ S))))) := fun y hy => .tail _ (List.mem_append_right _ (List.mem_append_right _ (.tail _ (List.mem_append_right _ (hR y hy)))))
    refine Wp.region ?_
    refine Ye 4 rfl ?_
    refine OWp.g rfl rfl (Gives.indexAddrArr (kd) rfl rfl rfl rfl rfl rfl hf4) ?_
    rcases (show kd = 0 ∨ kd = 1 ∨ kd = 2 ∨ kd = 3 by omega) with rfl | rfl | rfl | rfl
    ·skip
     refine Ye 1 rfl ?_
     refine OWp.load (.head _) rfl rfl rfl rfl (fn_at0 rfl) ?_
     have hn : needs c.w 0 = 56 + c.w := rfl
     rcases q with _ | ⟨p, r⟩
     ·skip
      obtain ⟨qa, qc, rfl⟩ := hqv.form
      refine Ye 1 rfl ?_
      refine OWp.step rfl (Step.callB rfl rfl rfl rfl rfl rfl (CallWp.focus 1 rfl (cpay0C ho hR2 (.head _) rfl (by omega) ?_)))
      refine Yz 5 rfl ?_
      refine ⟨(_, lv, les), ⟨hqv, hlv⟩, .cons rfl (.cons rfl (.cons rfl (.cons rfl (.cons rfl (.cons rfl (.cons rfl (.nil _))))))), ?_⟩
      rw [show k + needs c.w 0 - 4 = k + 52 + c.w by omega]
      exact List.Perm.swap _ _ _
     refine Ye 1 rfl ?_
     refine OWp.step rfl (Step.callB rfl rfl rfl rfl rfl rfl (CallWp.permS (((List.perm_append_comm_assoc oes qes _).cons _).cons _) (cpay1C (S := oes ++ (lde c lnow lv :: (les ++ S))) ho (fun y hy => List.mem_append_right _ (.tail _ (List.mem_append_right _ (hR y hy)))) hqv (hx.q p (.head _)) (by omega) ?_)))
     intro qv' hqv'
     refine Yz 5 rfl ?_
     refine ⟨(qv', lv, les), ⟨hqv', hlv⟩, .cons rfl (.cons rfl (.cons rfl (.cons rfl (.cons rfl (.cons rfl (.cons rfl (.nil _))))))), ?_⟩
     rw [show k + needs c.w 0 - 4 = k + 52 + c.w by omega]
     exact ((List.perm_append_comm_assoc qes oes _).cons _).cons _
    skip
    ·skip
     refine Ye 1 rfl ?_
     refine OWp.load (.head _) rfl rfl rfl rfl (fn_at1 rfl) ?_
     have hn : needs c.w 1 = 40 + c.w := rfl
     refine Ye 1 rfl ?_
     refine OWp.step rfl (Step.callB rfl rfl rfl rfl rfl rfl (CallWp.focus 1 rfl (cdropC ho hR2 (.head _) (by omega) ?_)))
     refine Yz 5 rfl ?_
     refine ⟨(_, lv, les), ⟨hqv, hlv⟩, .cons rfl (.cons rfl (.cons rfl (.cons rfl (.cons rfl (.cons rfl (.cons rfl (.nil _))))))), ?_⟩
     rw [show k + needs c.w 1 - 4 = k + 36 + c.w by omega]
     exact List.Perm.swap _ _ _
    skip
    ·skip
     refine Ye 1 rfl ?_
     refine OWp.load (.head _) rfl rfl rfl rfl (fn_at2 rfl) ?_
     have hn : needs c.w 2 = 52 + c.w := rfl
     refine Ye 1 rfl ?_
     refine OWp.step rfl (Step.callB rfl rfl rfl rfl rfl rfl (CallWp.permS (.trans (Pc .rfl) (.cons _ (.trans (Pc (Pd (Pd .rfl))) (.cons _ (Pe (Pf (Pf .rfl))))))) (cloopC (now := to) (many := many) ho (fun y hy => .tail _ (List.mem_append_right _ (List.mem_append_right _ (hR y hy)))) (.head _) (by omega) hpos hlow (by omega) hlv hx.L ?_)))
     intro lv' les' hlv'
     refine Yz 5 rfl ?_
     refine ⟨(qv, lv', les'), ⟨hqv, hlv'⟩, .cons rfl (.cons rfl (.cons rfl (.cons rfl (.cons rfl (.cons rfl (.cons rfl (.nil _))))))), ?_⟩
     rw [show k + needs c.w 2 - 4 = k + 48 + c.w by omega]
     exact (.trans (Pc (Pc (Pd .rfl))) (.cons _ (.cons _ (.trans (Pe (Pf .rfl)) (Pa (Pe (Pf .rfl)))))))
    refine Ye 1 rfl ?_
    refine OWp.load (.head _) rfl rfl rfl rfl (fn_at3 rfl) ?_
    have hn : needs c.w 3 = 4 := rfl
    refine Ye 1 rfl ?_
    refine OWp.step rfl (Step.callB rfl rfl rfl rfl rfl rfl (cpullC ho (fun y hy => .tail _ (List.mem_append_right _ (List.mem_append_right _ (.tail _ (List.mem_append_right _ (hR y hy)))))) (by omega) ?_))
    refine Yz 5 rfl ?_
    refine ⟨(qv, lv, les), ⟨hqv, hlv⟩, .cons rfl (.cons rfl (.cons rfl (.cons rfl (.cons rfl (.cons rfl (.cons rfl (.nil _))))))), ?_⟩
    exact .refl _
   rintro ⟨qv2, lv2, les2⟩ ⟨hq2, hl2⟩
   simp only at hq2 hl2 ⊢
   refine Yn 1 rfl ?_
   refine Cy rfl ?_
   refine Wp.region ?_
   refine Ye 4 rfl ?_
   refine OWp.g rfl rfl (Gives.build rfl rfl) ?_
   refine OWp.step rfl (Step.buildSlice rfl rfl rfl ?_); intro Lp4 hBLp4 hLLp4
   refine OWp.step rfl (Step.appendAt [_, _, _] rfl rfl rfl rfl rfl rfl (by decide) rfl rfl hov (Reads.row (k := 1) (sz := 3) (.head _) (Nat.le_of_ble_eq_true rfl)) rfl (by show (_ + 1) * 32 ≤ _; omega) (by unfold maxLen; omega) ?_); intro ov2 oes2 ho2 _
   refine OWp.dropAt 0 rfl ?_
   have hwl := dl_le255 c (first nx) (k + needs c.w (first nx) - 4)
   refine Yz 1 rfl ?_
   refine Wp.regionDraw [0, 1, 2, 3, 4, 7, 8, 5, 6, 9, 10] [5, 10] rfl (by decide +kernel) ?_
   refine DWp.evs 7 rfl ?_
   refine DWp.stepAll rfl rfl rfl rfl (Step.call rfl rfl rfl rfl rfl rfl (CallWp.focus 1 rfl ((cwaitC ho (.head _) hf4 (by omega) ?_))))
   rw [show k + needs c.w (first nx) - 4 + 4 = k + needs c.w (first nx) by omega]
   refine DWp.evs 1 rfl ?_
   refine DWp.g rfl rfl rfl rfl (Gives.indexAddrArr ((first nx)) rfl rfl rfl rfl rfl rfl hf4) ?_
   refine DWp.stepAll rfl rfl rfl rfl (Step.storeAs 1 (clc c qv2 (nx.set (first nx) (nx.getD (first nx) 0 + waitN c (first nx) (k + needs c.w (first nx) - 4))) to many (sqA (first nx) seq) false) rfl rfl rfl rfl rfl ho.hp rfl (Unfz.zero _) rfl (by show 0 + 17 + first nx * 1 + 1 ≤ 35; omega) (by show wr _ _ [Value.int .i64 (IntKind.i64.wrap (((nx.getD (first nx) 0 : Nat) : Int) + ((waitN c (first nx) (k + needs c.w (first nx) - 4) : Nat) : Int)))] = _; rw [i64_id (by omega) (by omega), ← Int.natCast_add]; exact nx_set hnx hf4 (by show 0 + 17 + first nx * 1 = 17 + first nx; omega)) rfl ?_)
   refine DWp.nil ?_
   refine Wp.region ?_
   refine Ye 1 rfl ?_
   refine Yc rfl rfl (cfirstC (.tail _ (.head _)) (by rw [List.length_set]; exact hnx) ?_)
   refine Yz 1 rfl ?_
   refine ⟨(nextS c ⟨k, nx, q, L, lnow, seq, false⟩, outs ++ [(nx.getD (first nx) 0, first nx, doT c ⟨k, nx, q, L, lnow, seq, false⟩ (first nx))], (ov2, oes2), (qv2, qes), (lv2, les2)), ?_, ⟨hx.next h2 c1' c2', ?_, hq2, hl2, ?_, ?_⟩, .cons rfl (.cons rfl (.cons rfl (.cons rfl (.nil _)))), List.Perm.swap _ _ _⟩
   ·show c.s.length - (k + needs c.w (first nx)) < c.s.length - k
    omega
   ·simp only
    rw [List.length_append, List.flatMap_append]
    exact ho2
   ·simp only
    have e1 := tickT_next hx.k c1' c2'
    rw [e1] at hrun
    rw [hrun, List.append_assoc]
    rfl
   ·show (outs ++ [_]).length ≤ k + needs c.w (first nx)
    rw [List.length_append]
    simp only [List.length_singleton]
    omega
  have c1 := of_decide_eq_false c1
  refine Wp.exit ?_
  refine Yn 3 rfl ?_
  refine Wp.ret ⟨trivial, _, ⟨_, _, rfl, rfl, _, _, rfl, rfl, rfl⟩, ?_⟩
  have e1 := tickT_end (c := c) (to := to) (x := ⟨k, nx, q, L, lnow, seq, false⟩) (.inr (by show to < nx.getD (first nx) 0; omega))
  rw [e1, List.append_nil] at hrun
  exact fin _ _ _ _ _ _ _ _ hrun hx hov hqv hlv
 refine Ye 2 rfl ?_
 refine Yz 9 rfl ?_
 refine Cn rfl ?_
 refine Wp.exit ?_
 refine Yn 3 rfl ?_
 refine Wp.ret ⟨trivial, _, ⟨_, _, rfl, rfl, _, _, rfl, rfl, rfl⟩, ?_⟩
 have e1 := tickT_end (c := c) (to := to) (x := ⟨k, nx, q, L, lnow, seq, true⟩) (.inl rfl)
 rw [e1, List.append_nil] at hrun
 exact fin _ _ _ _ _ _ _ _ hrun hx hov hqv hlv
end
end Go.Proofs.D

/- A client: its habit, its own town. -/
namespace Go.Proofs.D
open Go.Lg Go.Sha Go.Hd Go.Cv
open Go.Proofs.C (Hop hopP hopB parse pathE encB tp word TIn Nd ndc St stc TownOk HostOf IsHost wayR mayP TownOk belowR WayIn LooseOf HomeOf NodesIn)
set_option maxRecDepth 100000
/-- A habit's cells. -/
def hbc (c : Ck) (hv mv sv : Value) : List Value :=
 [.int .i64 (c.user : Int), .string (str c.key), hv, mv, sv, .int .i64 (c.mn.getD 0 0), .int .i64 (c.mn.getD 1 0), .int .i64 (c.mn.getD 2 0), .int .i64 (c.mn.getD 3 0), .int .i64 c.mean, .int .i64 c.most, .int .i64 c.wd, .int .i64 c.dl, .int .i64 c.th, .string (str c.s)]
/-- What is right of a habit. -/
structure HbOk (R : Ents) (c : Ck) (hv mv sv : Value) : Prop where
 ks : KsIn R
 town : TIn R hv mv sv c.h0 c.ms c.ss
 ok : TownOk (c.h0 :: c.ms) c.ss
 on : OnT c.h0 c.ms
 host : HostOf (c.h0 :: c.ms) c.ss (c.user : Int) c.a 0
 user : c.user < 64
 key : c.key.length = 32
 mn : ∀ i, mayP 255 [c.mn.getD i 0]
 may : mayP c.most [c.mean]
 lp : lpP c.wd c.dl c.th
 sl : c.s.length ≤ 8000
theorem mns_at {c : Ck} {kind : Nat} (h : kind < 4) : Lg.partAt Tryz.prog 3 [.int .i64 (c.mn.getD 0 0), .int .i64 (c.mn.getD 1 0), .int .i64 (c.mn.getD 2 0), .int .i64 (c.mn.getD 3 0)] (kind * 1) = some (.int .i64 (c.mn.getD kind 0)) := by
 rcases kind with _ | _ | _ | _ | _ <;> first | rfl | omega
theorem lay32 {h0 : List Nd} {ms : List (List Nd)} {ss : List St} (hok : TownOk (h0 :: ms) ss) : ∀ l ∈ h0 :: ms, l.length ≤ 32 := by
 intro l hl
 obtain ⟨hb, hnd⟩ := C.nodesOk_iff.1 hok.2.1
 have hsub : l.Sublist (h0 :: ms).flatten := List.sublist_flatten_of_mem hl
 have hnd' : (l.map (·.1)).Nodup := hnd.sublist (hsub.map _)
 have := C.nodup_le 32 _ hnd' fun x hx => by
  obtain ⟨y, hy, rfl⟩ := List.mem_map.1 hx
  obtain ⟨h1, h2, _⟩ := hb y (hsub.subset hy)
  omega
 simpa using this
section
variable {B : Nat} {S R : Ents} {Q : Value → Ents → Prop} {c : Ck} {hv mv sv : Value}
set_option maxHeartbeats 1000000 in
theorem cwrongC (h : HbOk S c hv mv sv) (H : Q (.int .i64 0) S) : CallWp Tryz.prog B 26 #[.agg (hbc c hv mv sv).toArray] Q S := by
 have hk := h.key
 refine CallWp.dropRet ?_
 refine Yx (args := [_]) Tryz.func26 Tryz.ntmps26 ?_
 refine Yq ?_
 refine Yb rfl rfl rfl rfl fun L1 hBL1 hLL1 => ?_
 refine Yz 1 rfl ?_
 refine Wp.seq ?_
 refine Yg 1 rfl ?_
 refine Yl m0 ?_
 refine Ye 1 rfl ?_
 refine Yl m0 ?_
 refine Yc rfl rfl (C.hostC (h.town.mono fun _ h => .tail _ h) ?_)
 intro n e he
 obtain ⟨rfl, rfl⟩ := C.hostOf_one h.host he
 refine Ye 3 rfl ?_
 refine Ya rfl rfl rfl rfl fun L3 hBL3 hLL3 => ?_
 refine OWp.step rfl (Step.storeAs 0 (ndc c.a) rfl rfl rfl rfl rfl (by assumption) rfl (Unfz.zero _) rfl (Nat.le_of_ble_eq_true rfl) rfl rfl ?_)
 refine Yz 1 rfl ?_
 refine Yn 2 rfl ?_
 refine Cu rfl (by exact fun h => h rfl) fun cc1 => ?_
 refine Wp.skip ?_
 refine Wp.seq ?_
 refine Yg 1 rfl ?_
 refine Yl m1 ?_
 refine Yz 2 rfl ?_
 refine Cu rfl (by exact fun h => h (by omega)) fun cc2 => ?_
 refine Wp.skip ?_
 refine Wp.seq ?_
 refine Yg 1 rfl ?_
 refine Yl m1 ?_
 refine Yz 1 rfl ?_
 refine Wp.block ?_
 refine Wp.loopS (α := Nat) (fun i => 4 - i) (fun i => [(1, pt L1), (27, .agg #[.int .i64 (c.mn.getD 0 0), .int .i64 (c.mn.getD 1 0), .int .i64 (c.mn.getD 2 0), .int .i64 (c.mn.getD 3 0)]), (28, .int .i64 (i : Int))]) (fun _ => (L3, cel (ndc c.a) 135) :: (L1, cel (hbc c hv mv sv) 33) :: S) (fun i => i ≤ 4) 0 ?_ (.refl _) (Nat.zero_le _) ?_
 ·exact .cons rfl (.cons rfl (.cons rfl (.nil _)))
 intro i hi
 refine Yn 1 rfl ?_
 refine Wp.seq ?_
 refine Wp.cond rfl (fun c1 => ?_) (fun c1 => ?_)
 ·have c1 := of_decide_eq_true c1
  have hlt : i < 4 := by omega
  refine Wp.skip ?_
  refine Wp.seq ?_
  refine Wp.block ?_
  refine Yq ?_
  refine OWp.g rfl rfl (Gives.indexArr (i) rfl rfl rfl rfl rfl rfl hlt (mns_at hlt)) ?_
  refine Yz 1 rfl ?_
  refine Yg 1 rfl ?_
  refine Yc rfl rfl (C.tableY (h.mn i) ?_)
  intro LT uT lT hBT
  refine Yz 5 rfl ?_
  refine Yn 2 rfl ?_
  refine Cu rfl (by exact fun h => h rfl) fun cc3 => ?_
  refine Wp.skip ?_
  refine Wp.drop (S' := (L3, cel (ndc c.a) 135) :: (L1, cel (hbc c hv mv sv) 33) :: S) (List.sublist_cons_self _ _) ?_
  refine Wp.region ?_
  refine Yz 2 rfl ?_
  exact ⟨i + 1, by omega, by omega, .cons rfl (.cons rfl (.cons' rfl (int_eq (i64_inc (by omega))) (.nil _))), .refl _⟩
 have c1 := of_decide_eq_false c1
 refine Wp.exit ?_
 refine Yg 2 rfl ?_
 refine Yl m1 ?_
 refine Ye 2 rfl ?_
 refine Yl m1 ?_
 refine Yc rfl rfl (C.tableY h.may ?_)
 intro LT uT lT hBT
 refine Yz 5 rfl ?_
 refine Yn 2 rfl ?_
 refine Wp.ret ⟨trivial, _, ⟨_, _, rfl, rfl, rfl⟩, ?_⟩
 exact ⟨S, subl, H⟩
set_option maxHeartbeats 1000000 in
theorem ccopiedC {h0 : List Nd} {ms : List (List Nd)} {ss : List St} (h : TIn S hv mv sv h0 ms ss) (hok : TownOk (h0 :: ms) ss) (H : ∀ hv' mv' sv' W, TIn W hv' mv' sv' h0 ms ss → Q (.agg #[hv', mv', sv']) (W ++ S)) : CallWp Tryz.prog B 28 #[.agg #[hv, mv, sv]] Q S := by
 obtain ⟨vs, t1, t2, t3, t4, t5, t6⟩ := id h
 obtain ⟨a1, c1, a2, c2, a3, c3, rfl, rfl, rfl⟩ := h.forms
 have hvl : vs.length = ms.length := by have := t3.1; simp only [List.length_cons, Nat.add_right_cancel_iff] at this; exact this
 obtain ⟨hr0, hl0⟩ := t3.2 0 _ h0 rfl rfl
 have hnl : ms.length ≤ 3 := by have := hok.1.2.1; simp only [List.length_cons] at this; omega
 have hsm := lay32 hok
 have hn1 : 1 ≤ ms.length := by have := hok.1.1; simp only [List.length_cons] at this; omega
 obtain ⟨b3, o3, cc3, l3, t3', f3, hv3, hm3, _, hg3⟩ := t1.get1 (by omega)
 obtain ⟨rfl, _, rfl⟩ : a2 = some ⟨b3, o3, none⟩ ∧ ms.length = vs.length ∧ c2 = cc3 := by simpa using hv3
 have hsl : ss.length ≤ 64 := by
  have h1 : ∀ x ∈ ss.map (·.1), (0 : Int) ≤ x ∧ x < ((64 : Nat) : Int) := by
   intro x hx
   obtain ⟨y, hy, rfl⟩ := List.mem_map.1 hx
   have := (hok.2.2.1 y hy).2
   exact this
  have := C.nodup_le 64 _ hok.2.2.2 h1
  rwa [List.length_map] at this
 refine C.subRet ?_
 refine Yx (args := [_]) Tryz.func28 Tryz.ntmps28 ?_
 refine Yq ?_
 refine Yb rfl rfl rfl rfl fun L1 hBL1 hLL1 => ?_
 refine Ya rfl rfl rfl rfl fun L2 hBL2 hLL2 => ?_
 refine OWp.nil ?_
 refine Wp.seq (Wp.regionDraw [0, 1, 3, 4, 9, 9, 9, 9, 9] [2, 5, 7, 8] rfl (by decide +kernel) ?_)
 refine DWp.evs 1 rfl ?_
 refine Yd (show (L1, cel [.slice a1 h0.length c1, .slice (some ⟨b3, o3, none⟩) ms.length c2, .slice a3 ss.length c3] 28) ∈ _ from by repeat (first | exact List.Mem.head _ | assumption | exact List.mem_append_left _ (by assumption) | apply List.mem_cons_of_mem | apply List.mem_append_right)) ?_
 refine DWp.evs 1 rfl ?_
 refine Yd (show (L1, cel [.slice a1 h0.length c1, .slice (some ⟨b3, o3, none⟩) ms.length c2, .slice a3 ss.length c3] 28) ∈ _ from by repeat (first | exact List.Mem.head _ | assumption | exact List.mem_append_left _ (by assumption) | apply List.mem_cons_of_mem | apply List.mem_append_right)) ?_
 refine DWp.forkTo [2, 7] (by decide +kernel) (by simp) ?_
 intro xx hxx
 simp only [List.mem_cons, List.mem_nil_iff, or_false] at hxx
 rcases hxx with rfl | rfl
 ·refine ⟨_, [9, 9, 9, 9], rfl, rfl, by decide +kernel, rfl, ?_⟩
  refine (Step.call rfl rfl rfl rfl rfl rfl (cloneNdC (xs := h0.flatMap ndc) (hr0.mono fun x hx => (by (repeat (first | assumption | exact List.Mem.head _ | exact List.mem_append_left _ (by assumption) | apply List.mem_cons_of_mem | apply List.mem_append_right)))) (flat_one ndc_one h0) (by have := hsm h0 (.head _); omega) ?_))
  intro v1 e1 ho1
  obtain ⟨p1, q1, rfl⟩ := ho1.reads.form
  refine prs ?_
  refine DWp.forkTo [5, 7] (by decide +kernel) (by simp) ?_
  intro xx hxx
  simp only [List.mem_cons, List.mem_nil_iff, or_false] at hxx
  rcases hxx with rfl | rfl
  ·refine ⟨_, [6, 7, 8], rfl, rfl, by decide +kernel, rfl, ?_⟩
   refine (Step.call rfl rfl rfl rfl rfl rfl (cloneStC (xs := ss.flatMap stc) (t5.mono fun x hx => (by (repeat (first | assumption | exact List.Mem.head _ | exact List.mem_append_left _ (by assumption) | apply List.mem_cons_of_mem | apply List.mem_append_right)))) (flat_one stc_one ss) (by omega) ?_))
   intro v2 e2 ho2
   obtain ⟨p2, q2, rfl⟩ := ho2.reads.form
   refine prs ?_
   refine DWp.g rfl rfl rfl rfl (Gives.build rfl rfl) ?_
   refine DWp.step rfl rfl rfl (Step.alloc rfl rfl rfl ?_); intro L3 hBL3 hLL3
   refine prs ?_
   refine DWp.step rfl rfl rfl (Step.permS (.rfl) (Step.storeAs 0 [.slice p1 h0.length q1, .slice none 0 0, .slice p2 ss.length q2] rfl rfl rfl rfl rfl hBL3 rfl (Unfz.zero _) rfl (Nat.le_of_ble_eq_true rfl) rfl rfl ?_))
   refine prs ?_
   refine DWp.nil ?_
   refine Wp.seq ?_
   refine Wp.permS (.cons _ (Pf .rfl)) ?_
   refine Yg 1 rfl ?_
   refine Yl (show (L1, cel [.slice a1 h0.length c1, .slice (some ⟨b3, o3, none⟩) ms.length c2, .slice a3 ss.length c3] 28) ∈ _ from by repeat (first | exact List.Mem.head _ | assumption | exact List.mem_append_left _ (by assumption) | apply List.mem_cons_of_mem | apply List.mem_append_right)) ?_
   refine Yz 2 rfl ?_
   show Wp _ _ _ _ _ _ _
   refine Wp.block ?_
   refine Wp.loopS (α := Nat × (Value × Ents) × List Value × Ents) (fun z => ms.length - z.1) (fun z => [(2, pt L2), (3, pt L3), (14, .slice (some ⟨b3, o3, none⟩) ms.length c2), (15, .int .i64 (ms.length : Int)), (16, .int .i64 (z.1 : Int))]) (fun z => (L3, cel [.slice p1 h0.length q1, z.2.1.1, .slice p2 ss.length q2] 28) :: (z.2.1.2 ++ (z.2.2.2 ++ (e1 ++ (e2 ++ ((L2, cel [.slice none 0 0, .slice none 0 0, .slice none 0 0] 28) :: (L1, cel [.slice a1 h0.length c1, .slice (some ⟨b3, o3, none⟩) ms.length c2, .slice a3 ss.length c3] 28) :: S)))))) (fun z => z.1 ≤ ms.length ∧ z.2.2.1.length = z.1 ∧ Lg.Own B 24 1 z.2.1.1 z.1 z.2.2.1 z.2.1.2 ∧ (∀ (j : Nat) (v : Value) (l : List Nd), z.2.2.1[j]? = some v → ms[j]? = some l → Reads z.2.2.2 2 v l.length (l.flatMap ndc)) ∧ z.2.2.1.all (·.oneCell') = true) (0, (.slice none 0 0, []), [], []) ?_ (.refl _) ⟨Nat.zero_le _, rfl, Own.nil _ _ _, by simp, rfl⟩ ?_
   ·exact .cons rfl (.cons rfl (.cons rfl (.cons rfl (.cons rfl (.nil _)))))
   rintro ⟨i, ⟨mvv, mes⟩, ws, N⟩ ⟨hi, hwl, hmo, hrd, hone⟩
   simp only at hi hwl hmo hrd hone ⊢
   refine Yn 1 rfl ?_
   refine Wp.seq ?_
   refine Wp.cond rfl (fun c5 => ?_) (fun c5 => ?_)
   ·have c5 := of_decide_eq_true c5
    have hlt : i < ms.length := by omega
    have hvi : vs[i]? = some vs[i] := by simp
    obtain ⟨hri, hli⟩ := t3.2 (i + 1) vs[i] ms[i] (by simp) (by simp)
    have hsmi := hsm ms[i] (.tail _ (List.getElem_mem hlt))
    refine Wp.skip ?_
    refine Wp.seq ?_
    refine Wp.block ?_
    refine Yq ?_
    refine OWp.g rfl rfl (Gives.indexAddrSlice (i) rfl rfl rfl rfl rfl rfl (by omega)) ?_
    refine OWp.load (.tail _ (List.mem_append_right _ (List.mem_append_right _ (List.mem_append_right _ (List.mem_append_right _ (.tail _ (.tail _ hm3))))))) rfl rfl rfl rfl ((hg3 i (by omega)).trans hvi) ?_
    refine Yz 1 rfl ?_
    refine Wp.regionDraw [0, 1, 2, 3, 4, 5, 6, 7] [3, 4, 5, 7] rfl (by decide +kernel) ?_
    refine DWp.evs 1 rfl ?_
    refine Yd m0 ?_
    refine DWp.evs 1 rfl ?_
    refine DWp.step rfl rfl rfl (Step.call rfl rfl rfl rfl rfl rfl ((cloneNdC (xs := ms[i].flatMap ndc) (hri.mono fun x hx => (by (repeat (first | assumption | exact List.Mem.head _ | exact List.mem_append_left _ (by assumption) | apply List.mem_cons_of_mem | apply List.mem_append_right)))) (flat_one ndc_one ms[i]) (by omega) ?_)))
    intro nv ne hno
    obtain ⟨na, nc, rfl⟩ := hno.reads.form
    refine prs ?_
    refine DWp.stepGrow rfl rfl rfl (Step.buildSlice rfl rfl rfl ?_); intro L24 hBL24 hLL24; refine ⟨fun _ hy => .tail _ hy, ?_⟩
    refine DWp.step rfl rfl rfl (Step.permS (.symm (.cons _ (Pe (Pf .rfl)))) (Step.appendAt [_, _] rfl rfl rfl rfl rfl rfl (by decide) rfl rfl hmo (Reads.row (k := 1) (sz := 1) (.head _) (Nat.le_of_ble_eq_true rfl)) rfl (by show (_ + 1) * 24 ≤ _; omega) (by unfold maxLen; omega) ?_))
    intro mv2 mes2 ho2' _
    obtain ⟨ma, mc, rfl⟩ := ho2'.reads.form
    refine prs ?_
    refine DWp.evs 1 rfl ?_
    refine DWp.stepAll rfl rfl rfl rfl (Step.storeAs 1 ([.slice p1 h0.length q1, .slice ma (i + 1) mc, .slice p2 ss.length q2]) rfl rfl rfl rfl rfl hBL3 rfl (Unfz.zero _) rfl (Nat.le_of_ble_eq_true rfl) rfl rfl ?_)
    refine DWp.nil ?_
    refine Wp.drop (S' := (L3, cel [.slice p1 h0.length q1, .slice ma (i + 1) mc, .slice p2 ss.length q2] 28) :: (mes2 ++ (ne ++ (N ++ (e1 ++ (e2 ++ ((L2, cel [.slice none 0 0, .slice none 0 0, .slice none 0 0] 28) :: (L1, cel [.slice a1 h0.length c1, .slice (some ⟨b3, o3, none⟩) ms.length c2, .slice a3 ss.length c3] 28) :: S))))))) (List.sublist_cons_self _ _) ?_
    refine Wp.region ?_
    refine Yz 2 rfl ?_
    refine ⟨(i + 1, (.slice ma (i + 1) mc, mes2), ws ++ [Value.slice na ms[i].length nc], ne ++ N), by simp only; omega, ⟨by simp only; omega, by simp [hwl], (show Lg.Own B 24 1 (.slice ma (i + 1) mc) (i + 1) (ws ++ [Value.slice na ms[i].length nc]) mes2 from ho2'), ?_, ?_⟩, .cons rfl (.cons rfl (.cons rfl (.cons rfl (.cons' rfl (int_eq (i64_inc (by omega))) (.nil _))))), ?_⟩
    ·intro j v l h1 h2
     simp only at h1 ⊢
     rcases Nat.lt_or_ge j i with hj | hj
     ·rw [List.getElem?_append_left (by omega)] at h1
      exact (hrd j v l h1 h2).mono fun x hx => List.mem_append_right _ hx
     ·have hj2 : j = i := by
       have := (List.getElem?_eq_some_iff.1 h1).1
       simp at this
       omega
      subst hj2
      rw [List.getElem?_append_right (by omega), hwl, Nat.sub_self] at h1
      rw [List.getElem?_eq_getElem hlt] at h2
      cases h1
      cases h2
      exact hno.reads.mono fun x hx => List.mem_append_left _ hx
    ·simp only
     rw [List.all_append, hone]
     rfl
    ·simp only
     rw [List.append_assoc]
   have c5 := of_decide_eq_false c5
   obtain rfl : i = ms.length := by omega
   obtain ⟨ma, mc, rfl⟩ := hmo.reads.form
   refine Wp.exit ?_
   refine Wp.permS (.trans (Pc (Pd (Pd (Pd (Pd .rfl))))) (.cons _ (.cons _ (.trans (Pd (Pd (Pd (Pd .rfl)))) (.cons _ (Pf (Pf .rfl))))))) ?_
   refine Yq ?_
   refine Yl m1 ?_
   refine OWp.step rfl (Step.storeAs 0 ([.slice p1 h0.length q1, .slice ma ms.length mc, .slice p2 ss.length q2]) rfl rfl rfl rfl rfl hBL2 rfl (Unfz.zero _) rfl (Nat.le_of_ble_eq_true rfl) rfl rfl ?_)
   refine OWp.nil ?_
   refine Wp.ret ⟨trivial, _, ⟨_, _, _, _, rfl, rfl, ⟨_, _, _, mems, (by first | assumption | rfl)⟩, rfl⟩, ?_⟩
   refine ⟨_, (e1 ++ (mes ++ (N ++ e2))) ++ S, .refl _, ?_, H _ _ _ _ ⟨ws, ?_, hone, ⟨by simp [hwl], ?_⟩, by omega, ho2.reads.mono fun x hx => List.mem_append_right _ (List.mem_append_right _ (List.mem_append_right _ hx)), by unfold C.lim; omega⟩⟩
   ·rw [List.append_assoc, List.append_assoc, List.append_assoc]
    exact .cons _ (.cons _ (.cons _ (.refl _)))
   ·rw [hwl]; exact hmo.reads.mono fun x hx => List.mem_append_right _ (List.mem_append_left _ hx)
   ·intro j v l h1 h2
    rcases j with _ | j
    ·cases h1; cases h2
     exact ⟨ho1.reads.mono fun x hx => List.mem_append_left _ hx, by have := hsm h0 (.head _); unfold C.lim; omega⟩
    ·simp only [List.getElem?_cons_succ] at h1 h2
     refine ⟨(hrd j v l h1 h2).mono fun x hx => List.mem_append_right _ (List.mem_append_right _ (List.mem_append_left _ hx)), ?_⟩
     have := hsm l (.tail _ (List.mem_of_getElem? h2))
     unfold C.lim; omega
  ·refine ⟨_, [5, 6, 8], rfl, rfl, by decide +kernel, rfl, ?_⟩
   refine (Step.alloc rfl rfl rfl ?_); intro L3 hBL3 hLL3
   refine prs ?_
   refine DWp.step rfl rfl rfl (Step.call rfl rfl rfl rfl rfl rfl (cloneStC (xs := ss.flatMap stc) (t5.mono fun x hx => (by (repeat (first | assumption | exact List.Mem.head _ | exact List.mem_append_left _ (by assumption) | apply List.mem_cons_of_mem | apply List.mem_append_right)))) (flat_one stc_one ss) (by omega) ?_))
   intro v2 e2 ho2
   obtain ⟨p2, q2, rfl⟩ := ho2.reads.form
   refine prs ?_
   refine DWp.g rfl rfl rfl rfl (Gives.build rfl rfl) ?_
   refine DWp.step rfl rfl rfl (Step.permS (Pd .rfl) (Step.storeAs 0 [.slice p1 h0.length q1, .slice none 0 0, .slice p2 ss.length q2] rfl rfl rfl rfl rfl hBL3 rfl (Unfz.zero _) rfl (Nat.le_of_ble_eq_true rfl) rfl rfl ?_))
   refine prs ?_
   refine DWp.nil ?_
   refine Wp.seq ?_
   refine Wp.permS (.cons _ (Pf .rfl)) ?_
   refine Yg 1 rfl ?_
   refine Yl (show (L1, cel [.slice a1 h0.length c1, .slice (some ⟨b3, o3, none⟩) ms.length c2, .slice a3 ss.length c3] 28) ∈ _ from by repeat (first | exact List.Mem.head _ | assumption | exact List.mem_append_left _ (by assumption) | apply List.mem_cons_of_mem | apply List.mem_append_right)) ?_
   refine Yz 2 rfl ?_
   show Wp _ _ _ _ _ _ _
   refine Wp.block ?_
   refine Wp.loopS (α := Nat × (Value × Ents) × List Value × Ents) (fun z => ms.length - z.1) (fun z => [(2, pt L2), (3, pt L3), (14, .slice (some ⟨b3, o3, none⟩) ms.length c2), (15, .int .i64 (ms.length : Int)), (16, .int .i64 (z.1 : Int))]) (fun z => (L3, cel [.slice p1 h0.length q1, z.2.1.1, .slice p2 ss.length q2] 28) :: (z.2.1.2 ++ (z.2.2.2 ++ (e1 ++ (e2 ++ ((L2, cel [.slice none 0 0, .slice none 0 0, .slice none 0 0] 28) :: (L1, cel [.slice a1 h0.length c1, .slice (some ⟨b3, o3, none⟩) ms.length c2, .slice a3 ss.length c3] 28) :: S)))))) (fun z => z.1 ≤ ms.length ∧ z.2.2.1.length = z.1 ∧ Lg.Own B 24 1 z.2.1.1 z.1 z.2.2.1 z.2.1.2 ∧ (∀ (j : Nat) (v : Value) (l : List Nd), z.2.2.1[j]? = some v → ms[j]? = some l → Reads z.2.2.2 2 v l.length (l.flatMap ndc)) ∧ z.2.2.1.all (·.oneCell') = true) (0, (.slice none 0 0, []), [], []) ?_ (.refl _) ⟨Nat.zero_le _, rfl, Own.nil _ _ _, by simp, rfl⟩ ?_
   ·exact .cons rfl (.cons rfl (.cons rfl (.cons rfl (.cons rfl (.nil _)))))
   rintro ⟨i, ⟨mvv, mes⟩, ws, N⟩ ⟨hi, hwl, hmo, hrd, hone⟩
   simp only at hi hwl hmo hrd hone ⊢
   refine Yn 1 rfl ?_
   refine Wp.seq ?_
   refine Wp.cond rfl (fun c5 => ?_) (fun c5 => ?_)
   ·have c5 := of_decide_eq_true c5
    have hlt : i < ms.length := by omega
    have hvi : vs[i]? = some vs[i] := by simp
    obtain ⟨hri, hli⟩ := t3.2 (i + 1) vs[i] ms[i] (by simp) (by simp)
    have hsmi := hsm ms[i] (.tail _ (List.getElem_mem hlt))
    refine Wp.skip ?_
    refine Wp.seq ?_
    refine Wp.block ?_
    refine Yq ?_
    refine OWp.g rfl rfl (Gives.indexAddrSlice (i) rfl rfl rfl rfl rfl rfl (by omega)) ?_
    refine OWp.load (.tail _ (List.mem_append_right _ (List.mem_append_right _ (List.mem_append_right _ (List.mem_append_right _ (.tail _ (.tail _ hm3))))))) rfl rfl rfl rfl ((hg3 i (by omega)).trans hvi) ?_
    refine Yz 1 rfl ?_
    refine Wp.regionDraw [0, 1, 2, 3, 4, 5, 6, 7] [3, 4, 5, 7] rfl (by decide +kernel) ?_
    refine DWp.evs 1 rfl ?_
    refine Yd m0 ?_
    refine DWp.evs 1 rfl ?_
    refine DWp.step rfl rfl rfl (Step.call rfl rfl rfl rfl rfl rfl ((cloneNdC (xs := ms[i].flatMap ndc) (hri.mono fun x hx => (by (repeat (first | assumption | exact List.Mem.head _ | exact List.mem_append_left _ (by assumption) | apply List.mem_cons_of_mem | apply List.mem_append_right)))) (flat_one ndc_one ms[i]) (by omega) ?_)))
    intro nv ne hno
    obtain ⟨na, nc, rfl⟩ := hno.reads.form
    refine prs ?_
    refine DWp.stepGrow rfl rfl rfl (Step.buildSlice rfl rfl rfl ?_); intro L24 hBL24 hLL24; refine ⟨fun _ hy => .tail _ hy, ?_⟩
    refine DWp.step rfl rfl rfl (Step.permS (.symm (.cons _ (Pe (Pf .rfl)))) (Step.appendAt [_, _] rfl rfl rfl rfl rfl rfl (by decide) rfl rfl hmo (Reads.row (k := 1) (sz := 1) (.head _) (Nat.le_of_ble_eq_true rfl)) rfl (by show (_ + 1) * 24 ≤ _; omega) (by unfold maxLen; omega) ?_))
    intro mv2 mes2 ho2' _
    obtain ⟨ma, mc, rfl⟩ := ho2'.reads.form
    refine prs ?_
    refine DWp.evs 1 rfl ?_
    refine DWp.stepAll rfl rfl rfl rfl (Step.storeAs 1 ([.slice p1 h0.length q1, .slice ma (i + 1) mc, .slice p2 ss.length q2]) rfl rfl rfl rfl rfl hBL3 rfl (Unfz.zero _) rfl (Nat.le_of_ble_eq_true rfl) rfl rfl ?_)
    refine DWp.nil ?_
    refine Wp.drop (S' := (L3, cel [.slice p1 h0.length q1, .slice ma (i + 1) mc, .slice p2 ss.length q2] 28) :: (mes2 ++ (ne ++ (N ++ (e1 ++ (e2 ++ ((L2, cel [.slice none 0 0, .slice none 0 0, .slice none 0 0] 28) :: (L1, cel [.slice a1 h0.length c1, .slice (some ⟨b3, o3, none⟩) ms.length c2, .slice a3 ss.length c3] 28) :: S))))))) (List.sublist_cons_self _ _) ?_
    refine Wp.region ?_
    refine Yz 2 rfl ?_
    refine ⟨(i + 1, (.slice ma (i + 1) mc, mes2), ws ++ [Value.slice na ms[i].length nc], ne ++ N), by simp only; omega, ⟨by simp only; omega, by simp [hwl], (show Lg.Own B 24 1 (.slice ma (i + 1) mc) (i + 1) (ws ++ [Value.slice na ms[i].length nc]) mes2 from ho2'), ?_, ?_⟩, .cons rfl (.cons rfl (.cons rfl (.cons rfl (.cons' rfl (int_eq (i64_inc (by omega))) (.nil _))))), ?_⟩
    ·intro j v l h1 h2
     simp only at h1 ⊢
     rcases Nat.lt_or_ge j i with hj | hj
     ·rw [List.getElem?_append_left (by omega)] at h1
      exact (hrd j v l h1 h2).mono fun x hx => List.mem_append_right _ hx
     ·have hj2 : j = i := by
       have := (List.getElem?_eq_some_iff.1 h1).1
       simp at this
       omega
      subst hj2
      rw [List.getElem?_append_right (by omega), hwl, Nat.sub_self] at h1
      rw [List.getElem?_eq_getElem hlt] at h2
      cases h1
      cases h2
      exact hno.reads.mono fun x hx => List.mem_append_left _ hx
    ·simp only
     rw [List.all_append, hone]
     rfl
    ·simp only
     rw [List.append_assoc]
   have c5 := of_decide_eq_false c5
   obtain rfl : i = ms.length := by omega
   obtain ⟨ma, mc, rfl⟩ := hmo.reads.form
   refine Wp.exit ?_
   refine Wp.permS (.trans (Pc (Pd (Pd (Pd (Pd .rfl))))) (.cons _ (.cons _ (.trans (Pd (Pd (Pd (Pd .rfl)))) (.cons _ (Pf (Pf .rfl))))))) ?_
   refine Yq ?_
   refine Yl m1 ?_
   refine OWp.step rfl (Step.storeAs 0 ([.slice p1 h0.length q1, .slice ma ms.length mc, .slice p2 ss.length q2]) rfl rfl rfl rfl rfl hBL2 rfl (Unfz.zero _) rfl (Nat.le_of_ble_eq_true rfl) rfl rfl ?_)
   refine OWp.nil ?_
   refine Wp.ret ⟨trivial, _, ⟨_, _, _, _, rfl, rfl, ⟨_, _, _, mems, (by first | assumption | rfl)⟩, rfl⟩, ?_⟩
   refine ⟨_, (e1 ++ (mes ++ (N ++ e2))) ++ S, .refl _, ?_, H _ _ _ _ ⟨ws, ?_, hone, ⟨by simp [hwl], ?_⟩, by omega, ho2.reads.mono fun x hx => List.mem_append_right _ (List.mem_append_right _ (List.mem_append_right _ hx)), by unfold C.lim; omega⟩⟩
   ·rw [List.append_assoc, List.append_assoc, List.append_assoc]
    exact .cons _ (.cons _ (.cons _ (.refl _)))
   ·rw [hwl]; exact hmo.reads.mono fun x hx => List.mem_append_right _ (List.mem_append_left _ hx)
   ·intro j v l h1 h2
    rcases j with _ | j
    ·cases h1; cases h2
     exact ⟨ho1.reads.mono fun x hx => List.mem_append_left _ hx, by have := hsm h0 (.head _); unfold C.lim; omega⟩
    ·simp only [List.getElem?_cons_succ] at h1 h2
     refine ⟨(hrd j v l h1 h2).mono fun x hx => List.mem_append_right _ (List.mem_append_right _ (List.mem_append_left _ hx)), ?_⟩
     have := hsm l (.tail _ (List.mem_of_getElem? h2))
     unfold C.lim; omega
 ·refine ⟨_, [2, 5, 6, 8], rfl, rfl, by decide +kernel, rfl, ?_⟩
  refine (Step.alloc rfl rfl rfl ?_); intro L3 hBL3 hLL3
  refine prs ?_
  refine DWp.step rfl rfl rfl (Step.call rfl rfl rfl rfl rfl rfl (cloneNdC (xs := h0.flatMap ndc) (hr0.mono fun x hx => (by (repeat (first | assumption | exact List.Mem.head _ | exact List.mem_append_left _ (by assumption) | apply List.mem_cons_of_mem | apply List.mem_append_right)))) (flat_one ndc_one h0) (by have := hsm h0 (.head _); omega) ?_))
  intro v1 e1 ho1
  obtain ⟨p1, q1, rfl⟩ := ho1.reads.form
  refine prs ?_
  refine DWp.step rfl rfl rfl (Step.call rfl rfl rfl rfl rfl rfl (cloneStC (xs := ss.flatMap stc) (t5.mono fun x hx => (by (repeat (first | assumption | exact List.Mem.head _ | exact List.mem_append_left _ (by assumption) | apply List.mem_cons_of_mem | apply List.mem_append_right)))) (flat_one stc_one ss) (by omega) ?_))
  intro v2 e2 ho2
  obtain ⟨p2, q2, rfl⟩ := ho2.reads.form
  refine prs ?_
  refine DWp.g rfl rfl rfl rfl (Gives.build rfl rfl) ?_
  refine DWp.step rfl rfl rfl (Step.permS (Pd (Pd .rfl)) (Step.storeAs 0 [.slice p1 h0.length q1, .slice none 0 0, .slice p2 ss.length q2] rfl rfl rfl rfl rfl hBL3 rfl (Unfz.zero _) rfl (Nat.le_of_ble_eq_true rfl) rfl rfl ?_))
  refine prs ?_
  refine DWp.nil ?_
  refine Wp.seq ?_
  refine Wp.permS (.cons _ (Pf .rfl)) ?_
  refine Yg 1 rfl ?_
  refine Yl (show (L1, cel [.slice a1 h0.length c1, .slice (some ⟨b3, o3, none⟩) ms.length c2, .slice a3 ss.length c3] 28) ∈ _ from by repeat (first | exact List.Mem.head _ | assumption | exact List.mem_append_left _ (by assumption) | apply List.mem_cons_of_mem | apply List.mem_append_right)) ?_
  refine Yz 2 rfl ?_
  show Wp _ _ _ _ _ _ _
  refine Wp.block ?_
  refine Wp.loopS (α := Nat × (Value × Ents) × List Value × Ents) (fun z => ms.length - z.1) (fun z => [(2, pt L2), (3, pt L3), (14, .slice (some ⟨b3, o3, none⟩) ms.length c2), (15, .int .i64 (ms.length : Int)), (16, .int .i64 (z.1 : Int))]) (fun z => (L3, cel [.slice p1 h0.length q1, z.2.1.1, .slice p2 ss.length q2] 28) :: (z.2.1.2 ++ (z.2.2.2 ++ (e1 ++ (e2 ++ ((L2, cel [.slice none 0 0, .slice none 0 0, .slice none 0 0] 28) :: (L1, cel [.slice a1 h0.length c1, .slice (some ⟨b3, o3, none⟩) ms.length c2, .slice a3 ss.length c3] 28) :: S)))))) (fun z => z.1 ≤ ms.length ∧ z.2.2.1.length = z.1 ∧ Lg.Own B 24 1 z.2.1.1 z.1 z.2.2.1 z.2.1.2 ∧ (∀ (j : Nat) (v : Value) (l : List Nd), z.2.2.1[j]? = some v → ms[j]? = some l → Reads z.2.2.2 2 v l.length (l.flatMap ndc)) ∧ z.2.2.1.all (·.oneCell') = true) (0, (.slice none 0 0, []), [], []) ?_ (.refl _) ⟨Nat.zero_le _, rfl, Own.nil _ _ _, by simp, rfl⟩ ?_
  ·exact .cons rfl (.cons rfl (.cons rfl (.cons rfl (.cons rfl (.nil _)))))
  rintro ⟨i, ⟨mvv, mes⟩, ws, N⟩ ⟨hi, hwl, hmo, hrd, hone⟩
  simp only at hi hwl hmo hrd hone ⊢
  refine Yn 1 rfl ?_
  refine Wp.seq ?_
  refine Wp.cond rfl (fun c5 => ?_) (fun c5 => ?_)
  ·have c5 := of_decide_eq_true c5
   have hlt : i < ms.length := by omega
   have hvi : vs[i]? = some vs[i] := by simp
   obtain ⟨hri, hli⟩ := t3.2 (i + 1) vs[i] ms[i] (by simp) (by simp)
   have hsmi := hsm ms[i] (.tail _ (List.getElem_mem hlt))
   refine Wp.skip ?_
   refine Wp.seq ?_
   refine Wp.block ?_
   refine Yq ?_
   refine OWp.g rfl rfl (Gives.indexAddrSlice (i) rfl rfl rfl rfl rfl rfl (by omega)) ?_
   refine OWp.load (.tail _ (List.mem_append_right _ (List.mem_append_right _ (List.mem_append_right _ (List.mem_append_right _ (.tail _ (.tail _ hm3))))))) rfl rfl rfl rfl ((hg3 i (by omega)).trans hvi) ?_
   refine Yz 1 rfl ?_
   refine Wp.regionDraw [0, 1, 2, 3, 4, 5, 6, 7] [3, 4, 5, 7] rfl (by decide +kernel) ?_
   refine DWp.evs 1 rfl ?_
   refine Yd m0 ?_
   refine DWp.evs 1 rfl ?_
   refine DWp.step rfl rfl rfl (Step.call rfl rfl rfl rfl rfl rfl ((cloneNdC (xs := ms[i].flatMap ndc) (hri.mono fun x hx => (by (repeat (first | assumption | exact List.Mem.head _ | exact List.mem_append_left _ (by assumption) | apply List.mem_cons_of_mem | apply List.mem_append_right)))) (flat_one ndc_one ms[i]) (by omega) ?_)))
   intro nv ne hno
   obtain ⟨na, nc, rfl⟩ := hno.reads.form
   refine prs ?_
   refine DWp.stepGrow rfl rfl rfl (Step.buildSlice rfl rfl rfl ?_); intro L24 hBL24 hLL24; refine ⟨fun _ hy => .tail _ hy, ?_⟩
   refine DWp.step rfl rfl rfl (Step.permS (.symm (.cons _ (Pe (Pf .rfl)))) (Step.appendAt [_, _] rfl rfl rfl rfl rfl rfl (by decide) rfl rfl hmo (Reads.row (k := 1) (sz := 1) (.head _) (Nat.le_of_ble_eq_true rfl)) rfl (by show (_ + 1) * 24 ≤ _; omega) (by unfold maxLen; omega) ?_))
   intro mv2 mes2 ho2' _
   obtain ⟨ma, mc, rfl⟩ := ho2'.reads.form
   refine prs ?_
   refine DWp.evs 1 rfl ?_
   refine DWp.stepAll rfl rfl rfl rfl (Step.storeAs 1 ([.slice p1 h0.length q1, .slice ma (i + 1) mc, .slice p2 ss.length q2]) rfl rfl rfl rfl rfl hBL3 rfl (Unfz.zero _) rfl (Nat.le_of_ble_eq_true rfl) rfl rfl ?_)
   refine DWp.nil ?_
   refine Wp.drop (S' := (L3, cel [.slice p1 h0.length q1, .slice ma (i + 1) mc, .slice p2 ss.length q2] 28) :: (mes2 ++ (ne ++ (N ++ (e1 ++ (e2 ++ ((L2, cel [.slice none 0 0, .slice none 0 0, .slice none 0 0] 28) :: (L1, cel [.slice a1 h0.length c1, .slice (some ⟨b3, o3, none⟩) ms.length c2, .slice a3 ss.length c3] 28) :: S))))))) (List.sublist_cons_self _ _) ?_
   refine Wp.region ?_
   refine Yz 2 rfl ?_
   refine ⟨(i + 1, (.slice ma (i + 1) mc, mes2), ws ++ [Value.slice na ms[i].length nc], ne ++ N), by simp only; omega, ⟨by simp only; omega, by simp [hwl], (show Lg.Own B 24 1 (.slice ma (i + 1) mc) (i + 1) (ws ++ [Value.slice na ms[i].length nc]) mes2 from ho2'), ?_, ?_⟩, .cons rfl (.cons rfl (.cons rfl (.cons rfl (.cons' rfl (int_eq (i64_inc (by omega))) (.nil _))))), ?_⟩
   ·intro j v l h1 h2
    simp only at h1 ⊢
    rcases Nat.lt_or_ge j i with hj | hj
    ·rw [List.getElem?_append_left (by omega)] at h1
     exact (hrd j v l h1 h2).mono fun x hx => List.mem_append_right _ hx
    ·have hj2 : j = i := by
      have := (List.getElem?_eq_some_iff.1 h1).1
      simp at this
      omega
     subst hj2
     rw [List.getElem?_append_right (by omega), hwl, Nat.sub_self] at h1
     rw [List.getElem?_eq_getElem hlt] at h2
     cases h1
     cases h2
     exact hno.reads.mono fun x hx => List.mem_append_left _ hx
   ·simp only
    rw [List.all_append, hone]
    rfl
   ·simp only
    rw [List.append_assoc]
  have c5 := of_decide_eq_false c5
  obtain rfl : i = ms.length := by omega
  obtain ⟨ma, mc, rfl⟩ := hmo.reads.form
  refine Wp.exit ?_
  refine Wp.permS (.trans (Pc (Pd (Pd (Pd (Pd .rfl))))) (.cons _ (.cons _ (.trans (Pd (Pd (Pd (Pd .rfl)))) (.cons _ (Pf (Pf .rfl))))))) ?_
  refine Yq ?_
  refine Yl m1 ?_
  refine OWp.step rfl (Step.storeAs 0 ([.slice p1 h0.length q1, .slice ma ms.length mc, .slice p2 ss.length q2]) rfl rfl rfl rfl rfl hBL2 rfl (Unfz.zero _) rfl (Nat.le_of_ble_eq_true rfl) rfl rfl ?_)
  refine OWp.nil ?_
  refine Wp.ret ⟨trivial, _, ⟨_, _, _, _, rfl, rfl, ⟨_, _, _, mems, (by first | assumption | rfl)⟩, rfl⟩, ?_⟩
  refine ⟨_, (e1 ++ (mes ++ (N ++ e2))) ++ S, .refl _, ?_, H _ _ _ _ ⟨ws, ?_, hone, ⟨by simp [hwl], ?_⟩, by omega, ho2.reads.mono fun x hx => List.mem_append_right _ (List.mem_append_right _ (List.mem_append_right _ hx)), by unfold C.lim; omega⟩⟩
  ·rw [List.append_assoc, List.append_assoc, List.append_assoc]
   exact .cons _ (.cons _ (.cons _ (.refl _)))
  ·rw [hwl]; exact hmo.reads.mono fun x hx => List.mem_append_right _ (List.mem_append_left _ hx)
  ·intro j v l h1 h2
   rcases j with _ | j
   ·cases h1; cases h2
    exact ⟨ho1.reads.mono fun x hx => List.mem_append_left _ hx, by have := hsm h0 (.head _); unfold C.lim; omega⟩
   ·simp only [List.getElem?_cons_succ] at h1 h2
    refine ⟨(hrd j v l h1 h2).mono fun x hx => List.mem_append_right _ (List.mem_append_right _ (List.mem_append_left _ hx)), ?_⟩
    have := hsm l (.tail _ (List.mem_of_getElem? h2))
    unfold C.lim; omega
end
end Go.Proofs.D

/- A client is made. -/
namespace Go.Proofs.D
open Go.Lg Go.Sha Go.Hd Go.Cv
open Go.Proofs.C (Hop hopP hopB parse pathE encB tp word TIn Nd ndc St stc TownOk HostOf IsHost wayR mayP TownOk belowR WayIn LooseOf HomeOf NodesIn)
set_option maxRecDepth 100000
def Ck.laid (c : Ck) (p px pj pl : Nat) (hv mv sv : Value) : Ck := { c with p := p, px := px, pj := pj, pl := pl, hv := hv, mv := mv, sv := sv }
/-- The next slots, as far as they are drawn. -/
def nxs (c : Ck) (i : Nat) : List Nat := [if 0 < i then waitN c 0 0 else 0, if 1 < i then waitN c 1 4 else 0, if 2 < i then waitN c 2 8 else 0, if 3 < i then waitN c 3 12 else 0]
def newCs (c : Ck) : Cs := if c.s.length < 16 then ⟨0, [0, 0, 0, 0], [], [], 0, 0, true⟩ else ⟨16, nxs c 4, [], [], 0, 0, false⟩
theorem nxs_set (c : Ck) {i : Nat} (h : i < 4) : (nxs c i).set i (waitN c i (4 * i)) = nxs c (i + 1) := by
 rcases i with _ | _ | _ | _ | _ <;> first | rfl | omega
theorem newCs_ok (c : Ck) (hs : c.s.length ≤ 8000) : CsOk c (newCs c) := by
 unfold newCs
 split
 ·refine ⟨Nat.zero_le _, rfl, ?_, Int.le_refl 0, ?_, by simp, by simp, by simp, by simp only; omega⟩
  ·intro i hi; rcases i with _ | _ | _ | _ | _ <;> first | exact Int.le_refl 0 | omega
  ·intro i hi; rcases i with _ | _ | _ | _ | _ <;> first | decide | omega
 ·have h1 := dl_le255 c 0 0
  have h2 := dl_le255 c 1 4
  have h3 := dl_le255 c 2 8
  have h4 := dl_le255 c 3 12
  refine ⟨by simp only; omega, rfl, ?_, Int.le_refl 0, ?_, by simp, by simp, by simp, by simp only; omega⟩
  ·intro i hi; exact Int.natCast_nonneg _
  ·intro i hi
   rcases i with _ | _ | _ | _ | _
   ·show waitN c 0 0 ≤ _; omega
   ·show waitN c 1 4 ≤ _; omega
   ·show waitN c 2 8 ≤ _; omega
   ·show waitN c 3 12 ≤ _; omega
   ·omega
theorem HbOk.mono {R R' : Ents} {c : Ck} {hv mv sv : Value} (h : HbOk R c hv mv sv) (hs : ∀ x ∈ R, x ∈ R') : HbOk R' c hv mv sv := { h with ks := KsIn_of h.ks hs, town := h.town.mono hs }
/-- A client's cells while it is made. -/
def clc0 (c : Ck) (hv mv sv : Value) (px : Nat) (f0 : Value) (k0 : Int) (f1 : Value) (k1 : Int) (f2 : Value) (k2 : Int) (f3 : Value) (k3 : Int) (pj : Value) (pl : Nat) (dry : Bool) : List Value :=
  [.int .i64 (c.user : Int), .string (str c.key), hv, mv, sv, .int .i64 (c.mn.getD 0 0), .int .i64 (c.mn.getD 1 0), .int .i64 (c.mn.getD 2 0), .int .i64 (c.mn.getD 3 0), .int .i64 c.mean, .int .i64 c.most, .int .i64 c.wd, .int .i64 c.dl, .int .i64 c.th, .string (str c.s),
   pt px, .slice none 0 0, .int .i64 0, .int .i64 0, .int .i64 0, .int .i64 0, f0, .int .i64 k0, f1, .int .i64 k1, f2, .int .i64 k2, f3, .int .i64 k3, pj, pt pl, .int .i64 0, .int .i64 0, .int .i64 0, .bool dry]
section
variable {B : Nat} {S R : Ents} {Q : Value → Ents → Prop} {c : Ck} {hv mv sv : Value}
set_option maxHeartbeats 4000000 in
theorem cnewC (h : HbOk S c hv mv sv) (H : ∀ p px pj pl hv' mv' sv' W X, (∀ R', KsIn R' → CkOk B (X ++ R') (c.laid p px pj pl hv' mv' sv')) → CliIn B (c.laid p px pj pl hv' mv' sv') (newCs c) 0 0 W → B ≤ pj → Q (.tuple #[pt p, .int .i64 0]) (W ++ ((pj, cel [.int .i64 16, .slice none 0 0, .int .i64 64, .slice none 0 0] 156) :: (X ++ S)))) :
  CallWp Tryz.prog B 9 #[.agg (hbc c hv mv sv).toArray] Q S := by
 have hs : c.s.length ≤ C.lim := by have := h.sl; unfold C.lim; omega
 have hnl : c.ms.length ≤ 3 := by have := h.ok.1.2.1; simp only [List.length_cons] at this; omega
 obtain ⟨b1, d1, b2, d2, b3, d3, rfl, rfl, rfl⟩ := h.town.forms
 refine C.subRet ?_
 refine Yx (args := [_]) Tryz.func9 Tryz.ntmps9 ?_
 refine Yq ?_
 refine Yb rfl rfl rfl rfl fun L1 hBL1 hLL1 => ?_
 refine Yz 2 rfl ?_
 refine Wp.seq ?_
 refine Yq ?_
 refine Yl m0 ?_
 refine Yc rfl rfl (cwrongC (h.mono fun _ h => .tail _ h) ?_)
 refine Yz 1 rfl ?_
 refine Yn 2 rfl ?_
 refine Cu rfl (by exact fun h => h rfl) fun cc1 => ?_
 refine Wp.skip ?_
 refine Yg 1 rfl ?_
 refine Yl m0 ?_
 refine Ye 1 rfl ?_
 refine Yl m0 ?_
 refine Ye 1 rfl ?_
 refine Yl m0 ?_
 refine Yc rfl rfl (lnewC h.lp ?_)
 intro pl hBpl hLpl
 refine Yz 5 rfl ?_
 refine Wp.seq ?_
 refine Yn 2 rfl ?_
 refine Cu rfl (by exact fun h => h rfl) fun cc2 => ?_
 refine Wp.skip ?_
 refine Yg 1 rfl ?_
 refine Yl m1 ?_
 refine Yc rfl rfl (ccopiedC (h.town.mono fun _ h => .tail _ (.tail _ h)) h.ok ?_)
 intro hv' mv' sv' W hT
 obtain ⟨a1, c1, a2, c2, a3, c3, rfl, rfl, rfl⟩ := hT.forms
 refine OWp.permS (permBy [W, [(pl, cel (lgc c.wd c.dl c.th 0 (.slice none 0 0)) 147)], [(L1, cel (hbc c (.slice b1 c.h0.length d1) (.slice b2 c.ms.length d2) (.slice b3 c.ss.length d3)) 33)]] S [0, 1, 2] [2, 1, 0] (by decide)) ?_
 obtain ⟨hb, hhb⟩ : ∃ x, x = hbc c (.slice a1 c.h0.length c1) (.slice a2 c.ms.length c2) (.slice a3 c.ss.length c3) := ⟨_, rfl⟩
 refine Ye 1 rfl ?_
 refine OWp.step rfl (Step.storeAs 0 (hbc c (.slice a1 c.h0.length c1) (.slice a2 c.ms.length c2) (.slice a3 c.ss.length c3)) rfl rfl rfl rfl rfl (by assumption) rfl (Unfz.zero _) rfl (Nat.le_of_ble_eq_true rfl) rfl rfl ?_)
 refine OWp.nil ?_
 refine Wp.seq (Wp.regionDraw [0, 1, 2, 4, 3, 5, 6, 7] [3, 6] rfl (by decide +kernel) ?_)
 refine Yd m0 ?_
 refine DWp.evs 1 rfl ?_
 refine Yd m0 ?_
 refine DWp.evs 1 rfl ?_
 refine DWp.step rfl rfl rfl (Step.call rfl rfl rfl rfl rfl rfl ((C.tapeNew (s := c.s) ?_)))
 intro px hBpx hLpx
 refine prs ?_
 refine DWp.g rfl rfl rfl rfl (Gives.build rfl rfl) ?_
 refine DWp.stepGrow rfl rfl rfl (Step.box rfl rfl rfl ?_); intro p hBp hLp; refine ⟨fun _ hy => .tail _ hy, ?_⟩
 refine DWp.evs 1 rfl ?_
 refine DWp.nil ?_
 refine Yg 1 rfl ?_
 refine Yc rfl rfl (pnewC (a := 16) (b := 64) (by decide) (by decide) (by decide) ?_)
 intro pj hBpj hLpj
 refine Ye 5 rfl ?_
 refine OWp.step rfl (Step.storeAs 1 (clc0 c (.slice a1 c.h0.length c1) (.slice a2 c.ms.length c2) (.slice a3 c.ss.length c3) px .nilFunc 0 .nilFunc 0 .nilFunc 0 .nilFunc 0 (pt pj) pl false) rfl rfl rfl rfl rfl hBp rfl (Unfz.zero _) rfl (Nat.le_of_ble_eq_true rfl) rfl rfl ?_)
 refine OWp.nil ?_
 refine Yg 1 rfl ?_
 refine Yl m3 ?_
 refine Yc rfl rfl (C.wordsC (hT.mono fun x hx => (by (repeat (first | assumption | exact List.Mem.head _ | exact List.mem_append_left _ (by assumption) | apply List.mem_cons_of_mem | apply List.mem_append_right)))) ?_)
 intro n hn
 obtain rfl : n = 2 * (c.ms.length : Int) + 1 := by
  rcases hn with ⟨_, hn⟩ | ⟨hn, _⟩
  ·simpa using hn
  ·exact absurd h.ok hn
 have w0 : IntKind.i64.wrap (4 * (2 * (c.ms.length : Int) + 1)) = ((c.w : Nat) : Int) := by rw [i64_id (by omega) (by omega)]; unfold Ck.w; omega
 have hw9 : c.w ≤ 1000 := by unfold Ck.w; omega
 have w1 : ∀ m : Int, 0 ≤ m → m ≤ 1000 → IntKind.i64.wrap (m + ((c.w : Nat) : Int)) = m + ((c.w : Nat) : Int) := fun m h1 h2 => i64_id (by omega) (by omega)
 refine Yz 2 rfl ?_
 refine Yg 5 rfl ?_
 refine OWp.g rfl rfl (Gives.build rfl rfl) ?_
 refine Ye 4 rfl ?_
 refine OWp.g rfl rfl (Gives.build rfl rfl) ?_
 refine Ye 4 rfl ?_
 refine OWp.g rfl rfl (Gives.build rfl rfl) ?_
 refine Ye 2 rfl ?_
 refine OWp.g rfl rfl (Gives.build rfl rfl) ?_
 refine OWp.g rfl rfl (Gives.build rfl rfl) ?_
 refine Ye 2 rfl ?_
 refine OWp.step rfl (Step.storeAs 1 (clc0 c (.slice a1 c.h0.length c1) (.slice a2 c.ms.length c2) (.slice a3 c.ss.length c3) px (.func (.func 32) #[pt p] #[]) ((56 + c.w : Nat) : Int) (.func (.func 33) #[pt p] #[]) ((40 + c.w : Nat) : Int) (.func (.func 34) #[pt p] #[]) ((52 + c.w : Nat) : Int) (.func (.func 35) #[pt p] #[]) 4 (pt pj) pl false) rfl rfl rfl rfl rfl hBp rfl (Unfz.zero _) rfl (Nat.le_of_ble_eq_true rfl) (by show wr _ _ [_, Value.int .i64 (IntKind.i64.wrap (56 + IntKind.i64.wrap (4 * (2 * (c.ms.length : Int) + 1)))), _, Value.int .i64 (IntKind.i64.wrap (40 + IntKind.i64.wrap (4 * (2 * (c.ms.length : Int) + 1)))), _, Value.int .i64 (IntKind.i64.wrap (52 + IntKind.i64.wrap (4 * (2 * (c.ms.length : Int) + 1)))), _, _] = _; rw [w0, w1 _ (by decide) (by decide), w1 _ (by decide) (by decide), w1 _ (by decide) (by decide)]; simp only [Int.natCast_add]; rfl) rfl ?_)
 refine OWp.nil ?_
 refine Wp.seq ?_
 refine Yg 4 rfl ?_
 refine Yl m1 ?_
 refine Ye 2 rfl ?_
 refine Yc rfl rfl (C.left (s := c.s) (k := 0) (.tail _ (.tail _ (.head _))) (Nat.zero_le _) hs ?_)
 have hck0 : ∀ R', KsIn R' → CkOk B (W ++ R') (c.laid p px pj pl (.slice a1 c.h0.length c1) (.slice a2 c.ms.length c2) (.slice a3 c.ss.length c3)) := fun R' hR' => { hp := hBp, hpx := hBpx, hpl := hBpl, ks := KsIn_of hR' fun x hx => List.mem_append_right _ hx, town := hT.mono fun x hx => List.mem_append_left _ hx, ok := h.ok, on := h.on, host := h.host, user := h.user, key := h.key, mn := h.mn, may := h.may, lp := h.lp, sl := h.sl }
 have hck := hck0 S h.ks
 by_cases hdry : c.s.length < 16
 ·skip
  refine Ye 3 rfl ?_
  refine OWp.step rfl (Step.storeAs 1 (clc0 c (.slice a1 c.h0.length c1) (.slice a2 c.ms.length c2) (.slice a3 c.ss.length c3) px (.func (.func 32) #[pt p] #[]) ((56 + c.w : Nat) : Int) (.func (.func 33) #[pt p] #[]) ((40 + c.w : Nat) : Int) (.func (.func 34) #[pt p] #[]) ((52 + c.w : Nat) : Int) (.func (.func 35) #[pt p] #[]) 4 (pt pj) pl true) rfl rfl rfl rfl rfl hBp rfl (Unfz.zero _) rfl (Nat.le_of_ble_eq_true rfl) (by rw [show decide (((c.s.length - 0 : Nat) : Int) < 16) = true from decide_eq_true (by omega)]; rfl) rfl ?_)
  refine OWp.nil ?_
  refine Yg 3 rfl ?_
  refine Yl m1 ?_
  refine Yz 1 rfl ?_
  refine Cn rfl ?_
  refine Wp.skip ?_
  refine Yn 3 rfl ?_
  refine Wp.ret ⟨trivial, _, ⟨_, _, rfl, rfl, _, _, rfl, rfl, rfl⟩, ?_⟩
  have e : newCs c = ⟨0, [0, 0, 0, 0], [], [], 0, 0, true⟩ := if_pos hdry
  refine ⟨_, _, (.trans (Pc (Pc (Pc .rfl))) (.cons _ (.trans (Pc .rfl) (.cons _ (.trans (Pc .rfl) (.cons _ (Pc .rfl))))))), .cons _ (.refl _), ?_⟩
  exact H p px pj pl _ _ _ [cle (c.laid p px pj pl (.slice a1 c.h0.length c1) (.slice a2 c.ms.length c2) (.slice a3 c.ss.length c3)) (.slice none 0 0) [0, 0, 0, 0] 0 0 0 true, tp px c.s 0, lde (c.laid p px pj pl (.slice a1 c.h0.length c1) (.slice a2 c.ms.length c2) (.slice a3 c.ss.length c3)) 0 (.slice none 0 0)] W hck0 (by rw [e]; exact ⟨_, [], _, [], rfl, (Own.nil _ _ _).at, Own.nil _ _ _⟩) hBpj
 refine Ye 3 rfl ?_
 refine OWp.step rfl (Step.storeAs 1 (clc0 c (.slice a1 c.h0.length c1) (.slice a2 c.ms.length c2) (.slice a3 c.ss.length c3) px (.func (.func 32) #[pt p] #[]) ((56 + c.w : Nat) : Int) (.func (.func 33) #[pt p] #[]) ((40 + c.w : Nat) : Int) (.func (.func 34) #[pt p] #[]) ((52 + c.w : Nat) : Int) (.func (.func 35) #[pt p] #[]) 4 (pt pj) pl false) rfl rfl rfl rfl rfl hBp rfl (Unfz.zero _) rfl (Nat.le_of_ble_eq_true rfl) (by rw [show decide (((c.s.length - 0 : Nat) : Int) < 16) = false from decide_eq_false (by omega)]; rfl) rfl ?_)
 refine OWp.nil ?_
 refine Yg 3 rfl ?_
 refine Yl m1 ?_
 refine Yz 1 rfl ?_
 refine Cy rfl ?_
 refine Yn 1 rfl ?_
 refine Wp.block ?_
 refine Wp.loopS (α := Nat) (fun i => 4 - i) (fun i => [(7, pt p), (88, .int .i64 (i : Int))]) (fun i => cle (c.laid p px pj pl (.slice a1 c.h0.length c1) (.slice a2 c.ms.length c2) (.slice a3 c.ss.length c3)) (.slice none 0 0) (nxs (c.laid p px pj pl (.slice a1 c.h0.length c1) (.slice a2 c.ms.length c2) (.slice a3 c.ss.length c3)) i) 0 0 0 false :: tp px c.s (4 * i) :: (pj, cel [.int .i64 16, .slice none 0 0, .int .i64 64, .slice none 0 0] 156) :: (L1, cel (hbc c (.slice a1 c.h0.length c1) (.slice a2 c.ms.length c2) (.slice a3 c.ss.length c3)) 33) :: lde (c.laid p px pj pl (.slice a1 c.h0.length c1) (.slice a2 c.ms.length c2) (.slice a3 c.ss.length c3)) 0 (.slice none 0 0) :: (W ++ S)) (fun i => i ≤ 4) 0 ?_ (.symm (Pc (Pc .rfl))) (Nat.zero_le _) ?_
 ·exact .cons rfl (.cons rfl (.nil _))
 intro i hi
 refine Yn 1 rfl ?_
 refine Wp.seq ?_
 refine Wp.cond rfl (fun c5 => ?_) (fun c5 => ?_)
 ·have c5 := of_decide_eq_true c5
  have hlt : i < 4 := by omega
  have hwl := dl_le255 (c.laid p px pj pl (.slice a1 c.h0.length c1) (.slice a2 c.ms.length c2) (.slice a3 c.ss.length c3)) i (4 * i)
  refine Wp.skip ?_
  refine Wp.seq ?_
  refine Wp.block ?_
  refine Yn 2 rfl ?_
  refine Wp.regionDraw [0, 1, 2, 3, 5, 6, 4, 7, 8] [4, 8] rfl (by decide +kernel) ?_
  refine DWp.evs 6 rfl ?_
  refine DWp.stepAll rfl rfl rfl rfl (Step.call rfl rfl rfl rfl rfl rfl (CallWp.focus 1 rfl ((cwaitC (c := (c.laid p px pj pl (.slice a1 c.h0.length c1) (.slice a2 c.ms.length c2) (.slice a3 c.ss.length c3))) hck (.head _) hlt (by show 4 * i + 4 ≤ c.s.length; omega) ?_))))
  refine DWp.g rfl rfl rfl rfl (Gives.indexAddrArr (i) rfl rfl rfl rfl rfl rfl hlt) ?_
  refine DWp.stepAll rfl rfl rfl rfl (Step.storeAs 1 (clc (c.laid p px pj pl (.slice a1 c.h0.length c1) (.slice a2 c.ms.length c2) (.slice a3 c.ss.length c3)) (.slice none 0 0) (nxs (c.laid p px pj pl (.slice a1 c.h0.length c1) (.slice a2 c.ms.length c2) (.slice a3 c.ss.length c3)) (i + 1)) 0 0 0 false) rfl rfl rfl rfl rfl hBp rfl (Unfz.zero _) rfl (by show 0 + 17 + i * 1 + 1 ≤ 35; omega) (by rw [← nxs_set (c.laid p px pj pl (.slice a1 c.h0.length c1) (.slice a2 c.ms.length c2) (.slice a3 c.ss.length c3)) hlt]; exact nx_set rfl hlt (by show 0 + 17 + i * 1 = 17 + i; omega)) rfl ?_)
  refine DWp.nil ?_
  refine Wp.region ?_
  refine Yz 2 rfl ?_
  exact ⟨i + 1, by omega, by omega, .cons rfl (.cons' rfl (int_eq (i64_inc (by omega))) (.nil _)), List.Perm.swap _ _ _⟩
 have c5 := of_decide_eq_false c5
 obtain rfl : i = 4 := by omega
 refine Wp.exit ?_
 refine Yn 3 rfl ?_
 refine Wp.ret ⟨trivial, _, ⟨_, _, rfl, rfl, _, _, rfl, rfl, rfl⟩, ?_⟩
 have e : newCs c = ⟨16, nxs (c.laid p px pj pl (.slice a1 c.h0.length c1) (.slice a2 c.ms.length c2) (.slice a3 c.ss.length c3)) 4, [], [], 0, 0, false⟩ := if_neg hdry
 refine ⟨_, _, (.trans (Pc (Pc (Pc .rfl))) (.cons _ (.cons _ (.cons _ (Pc .rfl))))), .cons _ (.refl _), ?_⟩
 exact H p px pj pl _ _ _ [cle (c.laid p px pj pl (.slice a1 c.h0.length c1) (.slice a2 c.ms.length c2) (.slice a3 c.ss.length c3)) (.slice none 0 0) (nxs (c.laid p px pj pl (.slice a1 c.h0.length c1) (.slice a2 c.ms.length c2) (.slice a3 c.ss.length c3)) 4) 0 0 0 false, tp px c.s 16, lde (c.laid p px pj pl (.slice a1 c.h0.length c1) (.slice a2 c.ms.length c2) (.slice a3 c.ss.length c3)) 0 (.slice none 0 0)] W hck0 (by rw [e]; exact ⟨_, [], _, [], rfl, (Own.nil _ _ _).at, Own.nil _ _ _⟩) hBpj
end
end Go.Proofs.D

/- A client: what is submitted. -/
namespace Go.Proofs.D
open Go.Lg Go.Sha Go.Hd Go.Cv
open Go.Proofs.C (Hop hopP hopB parse pathE encB tp word TIn Nd ndc St stc TownOk HostOf IsHost wayR mayP TownOk belowR WayIn LooseOf HomeOf NodesIn)
set_option maxRecDepth 100000
def msgW : List UInt8 := [109, 101, 115, 115, 97, 103, 101]
def subId (c : Ck) (many : Nat) : List UInt8 := (hmac c.key (msgW ++ tail8 (many + 1))).take 8
/-- The parts that a message is cut into, for a user. -/
def subP (c : Ck) (many : Nat) (to : Int) (body : List UInt8) : List Nd := (partsB (subId c many) body).map fun t => (to, t)
theorem subId_len (c : Ck) (many : Nat) : (subId c many).length = 8 := by unfold subId; rw [List.length_take, hmac_len]; rfl
theorem subP_len (c : Ck) (many : Nat) (to : Int) (body : List UInt8) : (subP c many to body).length = partN body := by unfold subP; rw [List.length_map, partsB_len]
theorem subP_ok {c : Ck} {many : Nat} {to : Int} {body : List UInt8} {b : Nd} (hb : HostOf (c.h0 :: c.ms) c.ss to b 0) (h0 : 0 ≤ to) (h1 : to < 64) : ∀ x ∈ subP c many to body, PartOk c x ∧ 16 ≤ x.2.length := by
 intro x hx
 unfold subP at hx
 obtain ⟨t, ht, rfl⟩ := List.mem_map.1 hx
 obtain ⟨l1, l2⟩ := partsB_lens (subId_len c many) t ht
 exact ⟨⟨⟨b, hb⟩, h0, h1, by show t.length ≤ 222; omega⟩, l1⟩
attribute [local irreducible] hmac sha partsB
section
variable {B : Nat} {S R : Ents} {Q : Value → Ents → Prop} {c : Ck} {qv : Value} {nx : List Nat} {now : Int} {many seq : Nat} {dry : Bool}
set_option maxHeartbeats 4000000 in
theorem csubmitC {q : List Nd} {qes : Ents} {to : Int} {b : Nd} {body : List UInt8} (ho : CkOk B R c) (hR : ∀ x ∈ R, x ∈ S) (hq : OwnAt B 165 2 qv q.length (q.flatMap ndc) qes) (hb : HostOf (c.h0 :: c.ms) c.ss to b 0) (hbl : body.length ≤ 2048) (hql : q.length ≤ 256) (hmany : many ≤ 1000000)
  (H0 : 256 < q.length + partN body → Q (.tuple #[.string (str []), .int .i64 180]) (cle c qv nx now many seq dry :: (qes ++ S)))
  (H1 : q.length + partN body ≤ 256 → ∀ qv' qes', OwnAt B 165 2 qv' (q ++ subP c many to body).length ((q ++ subP c many to body).flatMap ndc) qes' → Q (.tuple #[.string (str (subId c many)), .int .i64 0]) (cle c qv' nx now (many + 1) seq dry :: (qes' ++ S))) :
  CallWp Tryz.prog B 38 #[pt c.p, .int .i64 to, .string (str body)] Q (cle c qv nx now many seq dry :: (qes ++ S)) := by
 obtain ⟨a0, c0, rfl⟩ := hq.form
 have hpn : 1 ≤ partN body ∧ partN body ≤ 11 := by unfold partN; omega
 refine C.subRet ?_
 refine Yx (args := [_, _, _]) Tryz.func38 Tryz.ntmps38 ?_
 refine Yn 2 rfl ?_
 refine Wp.seq ?_
 refine Yg 4 rfl ?_
 refine Yl m0 ?_
 refine Ye 1 rfl ?_
 refine Yc rfl rfl (C.hostC (ho.town.mono fun x hx => .tail _ (List.mem_append_right _ (hR x hx))) ?_)
 intro n e he
 obtain ⟨rfl, rfl⟩ := C.hostOf_one hb he
 refine Ye 3 rfl ?_
 refine Ya rfl rfl rfl rfl fun L8 hBL8 hLL8 => ?_
 refine OWp.step rfl (Step.storeAs 0 (ndc b) rfl rfl rfl rfl rfl (by assumption) rfl (Unfz.zero _) rfl (Nat.le_of_ble_eq_true rfl) rfl rfl ?_)
 refine Yz 1 rfl ?_
 refine Yn 2 rfl ?_
 refine Cu rfl (by exact fun h => h rfl) fun cc1 => ?_
 refine Wp.skip ?_
 refine Yg 3 rfl ?_
 refine Yl m1 ?_
 refine Yz 3 rfl ?_
 refine Yq ?_
 refine Ya rfl rfl rfl rfl fun L11 hBL11 hLL11 => ?_
 refine OWp.nil ?_
 refine Wp.seq ?_
 refine Yn 1 rfl ?_
 refine Wp.block ?_
 refine Wp.loopS (α := Nat) (fun i => 8 - i) (fun i => [(0, pt c.p), (1, .int .i64 to), (2, .string (str body)), (10, .int .u64 ((many + 1 : Nat) : Int)), (11, pt L11), (35, .int .i64 (i : Int))]) (fun i => (L11, cel (byteCells ((List.range i).map (fun j => UInt8.ofNat ((many + 1) / 2 ^ (56 - 8 * j))) ++ List.replicate (8 - i) 0)) 171) :: (L8, cel (ndc b) 135) :: cle c (.slice a0 q.length c0) nx now many seq dry :: (qes ++ S)) (fun i => i ≤ 8) 0 ?_ (.refl _) (Nat.zero_le _) ?_
 ·exact .cons rfl (.cons rfl (.cons rfl (.cons' rfl (int_eq (by rw [i64_id (by omega) (by omega), IntKind.wrap_u64]; omega)) (.cons rfl (.cons rfl (.nil _))))))
 intro i hi
 refine Yn 1 rfl ?_
 refine Wp.seq ?_
 refine Wp.cond rfl (fun h1 => ?_) (fun h1 => ?_)
 ·have h1 := of_decide_eq_true h1
  have hlt : i < 8 := by omega
  refine Wp.skip ?_
  refine Wp.seq ?_
  refine Wp.block ?_
  refine Yn 2 rfl ?_
  refine Wp.region ?_
  refine Ye 5 rfl ?_
  refine OWp.g rfl rfl (Gives.shr (m := 56 - 8 * i) rfl rfl rfl (by rw [i64_id (x := 8 * (i : Int)) (by omega) (by omega), i64_id (by omega) (by omega)]; omega)) ?_
  refine Ye 1 rfl ?_
  refine OWp.g rfl rfl (Gives.indexAddrArr (i) rfl rfl rfl rfl rfl rfl (by omega)) ?_
  refine OWp.step rfl (Step.storeAs 0 (byteCells ((List.range (i + 1)).map (fun j => UInt8.ofNat ((many + 1) / 2 ^ (56 - 8 * j))) ++ List.replicate (8 - (i + 1)) 0)) rfl rfl rfl rfl rfl (by assumption) rfl (Unfz.zero _) rfl (by rw [byteCells_length]; simp only [List.length_append, List.length_map, List.length_range, List.length_replicate]; show 0 + i * 1 + 1 ≤ _; omega) (by rw [eight_step (many + 1) i hlt]; exact row_set (fun j => UInt8.ofNat ((many + 1) / 2 ^ (56 - 8 * j))) hlt (by show 0 + i * 1 = i; omega)) rfl ?_)
  refine OWp.nil ?_
  refine Wp.region ?_
  refine Yz 2 rfl ?_
  refine ⟨i + 1, by omega, by omega, ?_, .refl _⟩
  exact .cons rfl (.cons rfl (.cons rfl (.cons rfl (.cons rfl (.cons' rfl (int_eq (i64_inc (by omega))) (.nil _))))))
 have h1 := of_decide_eq_false h1
 obtain rfl : i = 8 := by omega
 refine Wp.exit ?_
 refine Wp.seq (Wp.regionDraw [0, 1, 2, 3, 4, 5, 6, 7, 8, 9, 10] [7, 8] rfl (by decide +kernel) ?_)
 refine DWp.evs 4 rfl ?_
 refine Yd m2 ?_
 refine DWp.g rfl rfl rfl rfl (Gives.sliceArr (l := 0) (h' := 8) rfl rfl rfl rfl rfl rfl (by omega) (by omega) (by omega)) ?_
 refine DWp.gives rfl rfl rfl rfl (Gives.bytesToStr (F := (L11, cel (byteCells (tail8 (many + 1))) 171) :: (L8, cel (ndc b) 135) :: cle c (.slice a0 q.length c0) nx now many seq dry :: (qes ++ S)) (l := tail8 (many + 1)) (k := 8) rfl rfl rfl rfl rfl (Reads.row (k := 8) (sz := 1) (cap := 8) (b := L11) (l := byteCells (tail8 (many + 1))) (e := 171) (fz := (0, 0)) (.head _) (by rw [byteCells_length]; simp [tail8]))) (fun _ h => h) ?_
 refine DWp.stepGrow rfl rfl rfl (Step.buildSlice rfl rfl rfl ?_); intro L54 hBL54 hLL54; refine ⟨fun _ hy => .tail _ hy, ?_⟩
 refine DWp.stepAll rfl rfl rfl rfl (Step.call rfl rfl rfl rfl rfl rfl ((tagC (l := [msgW, tail8 (many + 1)]) (Reads.row (k := 2) (sz := 1) (.head _) (Nat.le_of_ble_eq_true rfl)) (by decide) (KsIn_of ho.ks fun x hx => .tail _ (.tail _ (.tail _ (.tail _ (List.mem_append_right _ (hR x hx)))))) (by rw [ho.key]; decide) (by simp [msgW, tail8, big]) ?_)))
 have hid : (hmac c.key ([msgW, tail8 (many + 1)] : List (List UInt8)).flatten) = hmac c.key (msgW ++ tail8 (many + 1)) := by simp
 rw [hid]
 refine DWp.g rfl rfl rfl rfl (Gives.sliceStr (l := 0) (h' := 8) rfl rfl rfl rfl ⟨_, _, rfl, rfl⟩ (by omega) (by rw [hmac_len]; omega)) ?_
 refine DWp.evs 1 rfl ?_
 refine DWp.nil ?_
 refine Yg 2 rfl ?_
 refine Yc rfl rfl (cutC (id := subId c many) (KsIn_of ho.ks fun x hx => .tail _ (.tail _ (.tail _ (.tail _ (List.mem_append_right _ (hR x hx)))))) (subId_len c many) hbl ?_)
 intro pv pes hp
 refine OWp.permS (.symm (Pe (Pe (Pe (Pe (Pf .rfl)))))) ?_
 refine OWp.drop (.cons _ (.cons _ (.cons _ (.refl _)))) ?_
 refine Yz 5 rfl ?_
 refine Wp.seq ?_
 refine Yn 2 rfl ?_
 refine Cu rfl (by exact fun h => h rfl) fun cc2 => ?_
 refine Wp.skip ?_
 refine Wp.seq ?_
 refine Yg 3 rfl ?_
 refine Yl m0 ?_
 obtain ⟨pa, pc, rfl⟩ := hp.reads.form
 refine Yz 5 rfl ?_
 refine Wp.cond rfl (fun c4 => ?_) (fun c4 => ?_)
 ·have c4 := of_decide_eq_true c4
  rw [i64_id (by omega) (by omega)] at c4
  refine Yn 2 rfl ?_
  refine Wp.ret ⟨trivial, _, ⟨_, _, rfl, rfl, _, _, rfl, rfl, rfl⟩, ?_⟩
  exact ⟨_, _, .refl _, .cons_cons _ (.append (.refl _) (List.sublist_append_right _ _)), H0 (by omega)⟩
 have c4 := of_decide_eq_false c4
 rw [i64_id (by omega) (by omega)] at c4
 refine Wp.skip ?_
 refine Yg 3 rfl ?_
 refine Yl m0 ?_
 refine Ye 3 rfl ?_
 refine OWp.step rfl (Step.storeAs 0 (clc c (.slice a0 q.length c0) nx now (many + 1) seq dry) rfl rfl rfl rfl rfl ho.hp rfl (Unfz.zero _) rfl (Nat.le_of_ble_eq_true rfl) (by rw [i64_inc (by omega)]; rfl) rfl ?_)
 refine OWp.nil ?_
 show Wp _ _ _ _ _ _ _
 obtain ⟨ps, hps⟩ : ∃ x, x = partsB (subId c many) body := ⟨_, rfl⟩
 have hpl : ps.length = partN body := by rw [hps, partsB_len]
 have hP : subP c many to body = ps.map fun t => (to, t) := by rw [hps]; rfl
 rw [← hps] at hp
 obtain ⟨n, hn⟩ : ∃ n, n = partN body := ⟨_, rfl⟩
 rw [← hn] at hp hpl c4 hpn H1
 obtain ⟨b5, o5, cc5, l5, t5, f5, hv5, hm5, _, hg5⟩ := hp.reads.get1 (by omega)
 obtain ⟨rfl, rfl⟩ : pa = some ⟨b5, o5, none⟩ ∧ pc = cc5 := by simpa using hv5
 refine Wp.seq ?_
 refine Yn 3 rfl ?_
 refine Wp.block ?_
 refine Wp.loopS (α := Nat × Value × Ents) (fun z => n - z.1) (fun z => [(0, pt c.p), (1, .int .i64 to), (6, .string (str (subId c many))), (82, .slice (some ⟨b5, o5, none⟩) n pc), (83, .int .i64 (n : Int)), (84, .int .i64 (z.1 : Int))]) (fun z => cle c z.2.1 nx now (many + 1) seq dry :: (z.2.2 ++ (pes ++ S))) (fun z => z.1 ≤ n ∧ OwnAt B 165 2 z.2.1 (q.length + z.1) ((q ++ (ps.take z.1).map fun t => (to, t)).flatMap ndc) z.2.2) (0, .slice a0 q.length c0, qes) ?_ (.refl _) ⟨Nat.zero_le _, by simpa using hq⟩ ?_
 ·exact .cons rfl (.cons rfl (.cons rfl (.cons' rfl (by rw [hn]) (.cons' rfl (by rw [hn]) (.cons rfl (.nil _))))))
 rintro ⟨i, qv1, qes1⟩ ⟨hi, hq1⟩
 simp only at hi hq1 ⊢
 refine Yn 1 rfl ?_
 refine Wp.seq ?_
 refine Wp.cond rfl (fun c5 => ?_) (fun c5 => ?_)
 ·have c5 := of_decide_eq_true c5
  have hlt : i < n := by omega
  have x1 : ps[i]? = some ps[i] := by simp
  refine Wp.skip ?_
  refine Wp.seq ?_
  refine Wp.block ?_
  refine Yq ?_
  refine OWp.g rfl rfl (Gives.indexAddrSlice (i) rfl rfl rfl rfl rfl rfl hlt) ?_
  refine OWp.load (.tail _ (List.mem_append_right _ (List.mem_append_left _ hm5))) rfl rfl rfl rfl ((hg5 i hlt).trans (by rw [strs, List.getElem?_map, x1]; rfl)) ?_
  refine Yz 1 rfl ?_
  refine Wp.region ?_
  refine Ye 4 rfl ?_
  refine Yl m0 ?_
  refine Ye 2 rfl ?_
  refine OWp.g rfl rfl (Gives.build rfl rfl) ?_
  refine OWp.step rfl (Step.buildSlice rfl rfl rfl ?_); intro L96 hBL96 hLL96
  refine OWp.step rfl (Step.appendQ [_, _] rfl rfl rfl rfl rfl rfl (by decide) rfl rfl hq1 (Reads.row (k := 1) (sz := 2) (.head _) (Nat.le_of_ble_eq_true rfl)) rfl (by show (_ + 1) * 24 ≤ _; omega) (by unfold maxLen; omega) ?_)
  intro qv2 qes2 hq2
  obtain ⟨qa2, qc2, rfl⟩ := hq2.form
  refine Ye 2 rfl ?_
  refine OWp.step rfl (Step.storeAs 1 (clc c (.slice qa2 (q.length + i + 1) qc2) nx now (many + 1) seq dry) rfl rfl rfl rfl rfl ho.hp rfl (Unfz.zero _) rfl (Nat.le_of_ble_eq_true rfl) rfl rfl ?_)
  refine OWp.nil ?_
  refine Wp.drop (S' := cle c (.slice qa2 (q.length + i + 1) qc2) nx now (many + 1) seq dry :: (qes2 ++ (pes ++ S))) (List.sublist_cons_self _ _) ?_
  refine Wp.region ?_
  refine Yz 2 rfl ?_
  refine ⟨(i + 1, .slice qa2 (q.length + i + 1) qc2, qes2), by simp only; omega, ⟨hlt, ?_⟩, .cons rfl (.cons rfl (.cons rfl (.cons rfl (.cons rfl (.cons' rfl (int_eq (i64_inc (by omega))) (.nil _)))))), .refl _⟩
  simp only
  have e : (q ++ (ps.take (i + 1)).map fun t => (to, t)).flatMap ndc = (q ++ (ps.take i).map fun t => (to, t)).flatMap ndc ++ ndc (to, ps[i]) := by
   rw [List.take_succ_eq_append_getElem (show i < ps.length by omega), List.map_append, List.map_singleton, ← List.append_assoc, List.flatMap_append, List.flatMap_singleton]
  rw [e]
  exact hq2
 have c5 := of_decide_eq_false c5
 obtain rfl : i = n := by omega
 refine Wp.exit ?_
 refine Yn 3 rfl ?_
 refine Wp.ret ⟨trivial, _, ⟨_, _, rfl, rfl, _, _, rfl, rfl, rfl⟩, ?_⟩
 rw [List.take_of_length_le (by omega)] at hq1
 have h := H1 (by omega) qv1 qes1 (by rw [hP, List.length_append, List.length_map, hpl]; exact hq1)
 exact ⟨_, _, .refl _, .cons_cons _ (.append (.refl _) (List.sublist_append_right _ _)), h⟩
end
end Go.Proofs.D
