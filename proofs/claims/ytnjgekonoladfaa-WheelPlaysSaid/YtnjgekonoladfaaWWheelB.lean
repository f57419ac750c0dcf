/- What functions of the given program do, one after the other, told by that layer. -/
import Derived.Test.YtnjgekonoladfaaWWheelA
namespace Go.Proofs.E
open Go.Lg Go.Whl
set_option maxRecDepth 100000

def far : Nat := 1099511627776
theorem far_most {a : Nat} (h : a ≤ 1099511627776) : a < most := by
  have : most = 4398046511104 := by decide
  omega
/-- A wheel of these timers. -/
structure WOk (B : Nat) (M : List T) (now put : Nat) (v : Nat → Value) (es : Nat → Ents) : Prop where
  slots : SlotsOk B (tabM now M) v es
  time : now ≤ 1099511627776
  fit : ∀ t ∈ M, now ≤ t.due ∧ t.due ≤ 1099511627776
  nos : M.Pairwise fun a b => a.no < b.no
  low : ∀ t ∈ M, t.no ≤ put
  len : M.length ≤ 4096
theorem tabM_len (now : Nat) (M : List T) (j : Nat) : (tabM now M j).length ≤ M.length := List.length_filter_le _ _
theorem open2 {es : Nat → Ents} {j : Nat} (hj : j < 448) (w : Nat × Obj) (S : Ents) : (w :: (flatE es 448 ++ S)).Perm (w :: (es j ++ (flatE (upd es j []) 448 ++ S))) := by
  have h := flatE_upd es (es j) hj
  rw [upd_self] at h
  refine ((h.append_right S).cons w).trans ?_
  rw [List.append_assoc]
theorem shut2 {es : Nat → Ents} {j : Nat} (hj : j < 448) (x : Ents) (w : Nat × Obj) (S : Ents) : (w :: (x ++ (flatE (upd es j []) 448 ++ S))).Perm (w :: (flatE (upd es j x) 448 ++ S)) := by
  refine .cons w ?_
  rw [← List.append_assoc]
  exact (flatE_upd es x hj).symm.append_right S
theorem subRet {P : Program} {B : Nat} {f : FuncId} {args : Array Value} {Q : Value → Ents → Prop} {S : Ents} (h : CallWp P B f args (fun v S' => ∃ S1 S2 : Ents, S'.Perm S1 ∧ S2.Sublist S1 ∧ Q v S2) S) : CallWp P B f args Q S :=
  fun w hS => (h w hS).mono fun _ _ ⟨v, _, e, hb, hs, _, S2, hp, hsub, q⟩ => ⟨v, S2, e, hb, (hs.perm hp).sublist hsub, q⟩
theorem WOk.append {B : Nat} {M : List T} {now put : Nat} {v : Nat → Value} {es : Nat → Ents} (h : WOk B M now put v es) {a : Nat} {id : Int} (ha : now < a) (ha2 : a ≤ 1099511627776) (hl : M.length < 4096) {x : Value} {e : Ents}
    (hx : Own B 59 3 x ((tabM now M (slotAt now a)).length + 1) (tcs (tabM now M (slotAt now a)) ++ tc ⟨a, id, put + 1⟩) e) : WOk B (M ++ [⟨a, id, put + 1⟩]) now (put + 1) (upd v (slotAt now a) x) (upd es (slotAt now a) e) := by
  refine ⟨?_, h.time, ?_, ?_, ?_, by rw [List.length_append]; simp; omega⟩
  · rw [tabM_append]
    refine h.slots.upd ?_
    rw [List.length_append, tcs_append, tcs_one]
    exact hx
  · intro t ht
    rcases List.mem_append.1 ht with ht | ht
    · exact h.fit t ht
    · rw [List.mem_singleton.1 ht]; exact ⟨Nat.le_of_lt ha, ha2⟩
  · refine List.pairwise_append.2 ⟨h.nos, List.pairwise_singleton _ _, fun x hx y hy => ?_⟩
    rw [List.mem_singleton.1 hy]
    have := h.low x hx
    show x.no < put + 1
    omega
  · intro t ht
    rcases List.mem_append.1 ht with ht | ht
    · have := h.low t ht; omega
    · rw [List.mem_singleton.1 ht]; exact Nat.le_refl _
theorem wOk_new (B : Nat) : WOk B [] 0 0 (fun _ => .slice none 0 0) (fun _ => []) := by
  refine ⟨fun j _ => ?_, by decide, by simp, List.Pairwise.nil, by simp, by decide⟩
  exact Own.nil _ _ _

attribute [local irreducible] wv flatE tabM slotAt

section
variable {B : Nat} {S R : Ents} {Q : Value → Ents → Prop}

set_option maxHeartbeats 1000000 in
theorem putOkC {p now put a : Nat} {M : List T} {v : Nat → Value} {es : Nat → Ents} {za id : Int} (hza : za = (a : Int)) (hB : B ≤ p) (hw : WOk B M now put v es) (ha : now < a) (ha2 : a ≤ 1099511627776) (hl : M.length < 4096) (hp : put ≤ 1099511627776)
    (H : ∀ v' es', WOk B (M ++ [⟨a, id, put + 1⟩]) now (put + 1) v' es' → Q (.tuple #[.int .i64 ((put + 1 : Nat) : Int), .int .i64 0]) (wE p v' now (put + 1) (M.length + 1) :: (flatE es' 448 ++ S))) :
    CallWp Try.prog B 10 #[pt p, .int .i64 za, .int .i64 id] Q (wE p v now put M.length :: (flatE es 448 ++ S)) := by
  subst hza
  have hj := slotAt_lt now a
  have hwt := hw.time
  have hlen := Nat.le_trans (tabM_len now M (slotAt now a)) (Nat.le_of_lt hl)
  refine CallWp.permS (open2 hj _ _) (subRet ?_)
  refine CallWp.enter (args := [_, _, _]) Try.func10 rfl Try.ntmps10 rfl ?_
  refine Wp.seq (Wp.region ?_)
  refine OWp.evs 2 rfl ?_
  refine OWp.nil ?_
  refine Wp.seq ?_
  refine Wp.block ?_
  refine Wp.seq (Wp.region ?_)
  refine OWp.evs 4 rfl ?_
  refine OWp.load (.head _) rfl rfl rfl rfl (wv_now rfl) ?_
  refine OWp.evs 2 rfl ?_
  refine OWp.nil ?_
  refine Wp.cond rfl (fun cc1 => absurd (of_decide_eq_true cc1) (by omega)) (fun cc1 => ?_)
  have cc1 := of_decide_eq_false cc1
  refine Wp.seq (Wp.region ?_)
  refine OWp.evs 3 rfl ?_
  refine OWp.nil ?_
  refine Wp.cond rfl (fun cc2 => absurd (of_decide_eq_true cc2) (by omega)) (fun cc2 => ?_)
  have cc2 := of_decide_eq_false cc2
  refine Wp.seq (Wp.region ?_)
  refine OWp.evs 3 rfl ?_
  refine OWp.load (.head _) rfl rfl rfl rfl (wv_many rfl) ?_
  refine OWp.evs 2 rfl ?_
  refine OWp.nil ?_
  refine Wp.cond rfl (fun cc3 => absurd (of_decide_eq_true cc3) (by omega)) (fun cc3 => ?_)
  have cc3 := of_decide_eq_false cc3
  refine Wp.skip ?_
  refine Wp.seq (Wp.region ?_)
  refine OWp.evs 3 rfl ?_
  refine OWp.load (.head _) rfl rfl rfl rfl (wv_put rfl) ?_
  refine OWp.evs 3 rfl ?_
  refine OWp.step rfl (Step.storeAs 0 (wv v now (put + 1) M.length) rfl rfl rfl rfl rfl hB rfl (Unfz.zero _) rfl (by rw [wv_len]; show 0 + 449 + 1 ≤ 451; decide) (by rw [i64_inc (by omega)]; exact wv_set_put rfl) rfl ?_)
  refine OWp.nil ?_
  refine Wp.seq (Wp.region ?_)
  refine OWp.evs 3 rfl ?_
  refine OWp.load (.head _) rfl rfl rfl rfl (wv_many rfl) ?_
  refine OWp.evs 3 rfl ?_
  refine OWp.step rfl (Step.storeAs 0 (wv v now (put + 1) (M.length + 1)) rfl rfl rfl rfl rfl hB rfl (Unfz.zero _) rfl (by rw [wv_len]; show 0 + 450 + 1 ≤ 451; decide) (by rw [i64_inc (by omega)]; exact wv_set_many rfl) rfl ?_)
  refine OWp.nil ?_
  refine Wp.seq (Wp.region ?_)
  refine OWp.evs 2 rfl ?_
  refine OWp.step rfl (Step.call rfl rfl rfl rfl rfl rfl ((placeC rfl (.head _) (far_most hwt) (far_most ha2) ?_)))
  refine OWp.evs 1 rfl ?_
  refine OWp.nil ?_
  refine Wp.seq (Wp.regionDraw [0, 1, 2, 3, 4, 5, 6, 7, 8, 9, 10, 11, 12, 13, 14] [11, 12, 14] rfl (by decide +kernel) ?_)
  refine DWp.evs 3 rfl ?_
  refine DWp.load (.head _) rfl rfl rfl rfl rfl rfl (wv_slot hj rfl) ?_
  refine DWp.evs 5 rfl ?_
  refine DWp.load (.head _) rfl rfl rfl rfl rfl rfl (wv_put rfl) ?_
  refine DWp.g rfl rfl rfl rfl (Gives.build rfl rfl) ?_
  refine DWp.stepGrow rfl rfl rfl (Step.buildSlice rfl rfl rfl ?_); intro Lp4 hBLp4 hLLp4; refine ⟨fun _ hy => .tail _ hy, ?_⟩
  refine DWp.stepAll rfl rfl rfl rfl (Step.appendAt [_, _] rfl rfl rfl rfl rfl rfl (by decide) rfl rfl (hw.slots _ hj) (Reads.row (k := 1) (sz := 3) (.head _) (Nat.le_of_ble_eq_true rfl)) rfl (by show (_ + 1) * 24 ≤ _; omega) (by unfold maxLen; omega) ?_); intro x e2 ho2 _
  refine DWp.drop0 (List.sublist_cons_self _ _) ?_
  obtain ⟨xa, xc, rfl⟩ := ho2.reads.form
  refine DWp.evs 1 rfl ?_
  refine DWp.stepAll rfl rfl rfl rfl (Step.storeAs 0 (wv (upd v (slotAt now a) (.slice xa ((tabM now M (slotAt now a)).length + 1) xc)) now (put + 1) (M.length + 1)) rfl rfl rfl rfl rfl hB rfl (Unfz.zero _) rfl (by rw [wv_len]; show slotAt now a + 1 ≤ 451; omega) (wv_set_slot hj rfl) rfl ?_)
  refine DWp.nil ?_
  refine Wp.seq (Wp.region ?_)
  refine OWp.evs 3 rfl ?_
  refine OWp.load (.head _) rfl rfl rfl rfl (wv_put rfl) ?_
  refine OWp.evs 2 rfl ?_
  refine OWp.nil ?_
  refine Wp.ret ⟨trivial, _, ⟨_, _, rfl, rfl, _, _, rfl, rfl, rfl⟩, ?_⟩
  refine ⟨_, _, shut2 hj _ _ _, .refl _, ?_⟩
  exact H _ _ (hw.append ha ha2 hl ho2)
theorem putLateC {p now put many : Nat} {v : Nat → Value} {za id : Int} (hm : wE p v now put many ∈ S) (ha : za ≤ (now : Int)) (H : Q (.tuple #[.int .i64 0, .int .i64 140]) S) :
    CallWp Try.prog B 10 #[pt p, .int .i64 za, .int .i64 id] Q S := by
  refine CallWp.enter (args := [_, _, _]) Try.func10 rfl Try.ntmps10 rfl ?_
  refine Wp.seq (Wp.region ?_)
  refine OWp.evs 2 rfl ?_
  refine OWp.nil ?_
  refine Wp.seq ?_
  refine Wp.block ?_
  refine Wp.seq (Wp.region ?_)
  refine OWp.evs 4 rfl ?_
  refine OWp.load hm rfl rfl rfl rfl (wv_now rfl) ?_
  refine OWp.evs 2 rfl ?_
  refine OWp.nil ?_
  refine Wp.cond rfl (fun cc1 => ?_) (fun cc1 => absurd (of_decide_eq_false cc1) (by omega))
  have cc1 := of_decide_eq_true cc1
  refine Wp.seq (Wp.region ?_)
  refine OWp.evs 2 rfl ?_
  refine OWp.nil ?_
  refine Wp.ret ⟨trivial, _, ⟨_, _, rfl, rfl, _, _, rfl, rfl, rfl⟩, ?_⟩
  exact H
theorem putFarC {p now put many : Nat} {v : Nat → Value} {za id : Int} (hm : wE p v now put many ∈ S) (ha : (now : Int) < za) (ha2 : 1099511627776 < za) (H : Q (.tuple #[.int .i64 0, .int .i64 1]) S) :
    CallWp Try.prog B 10 #[pt p, .int .i64 za, .int .i64 id] Q S := by
  refine CallWp.enter (args := [_, _, _]) Try.func10 rfl Try.ntmps10 rfl ?_
  refine Wp.seq (Wp.region ?_)
  refine OWp.evs 2 rfl ?_
  refine OWp.nil ?_
  refine Wp.seq ?_
  refine Wp.block ?_
  refine Wp.seq (Wp.region ?_)
  refine OWp.evs 4 rfl ?_
  refine OWp.load hm rfl rfl rfl rfl (wv_now rfl) ?_
  refine OWp.evs 2 rfl ?_
  refine OWp.nil ?_
  refine Wp.cond rfl (fun cc1 => absurd (of_decide_eq_true cc1) (by omega)) (fun cc1 => ?_)
  have cc1 := of_decide_eq_false cc1
  refine Wp.seq (Wp.region ?_)
  refine OWp.evs 3 rfl ?_
  refine OWp.nil ?_
  refine Wp.cond rfl (fun cc2 => ?_) (fun cc2 => absurd (of_decide_eq_false cc2) (by omega))
  have cc2 := of_decide_eq_true cc2
  refine Wp.seq (Wp.region ?_)
  refine OWp.evs 2 rfl ?_
  refine OWp.nil ?_
  refine Wp.ret ⟨trivial, _, ⟨_, _, rfl, rfl, _, _, rfl, rfl, rfl⟩, ?_⟩
  exact H
theorem putFullC {p now put : Nat} {v : Nat → Value} {za id : Int} (hm : wE p v now put 4096 ∈ S) (ha : (now : Int) < za) (ha2 : za ≤ 1099511627776) (H : Q (.tuple #[.int .i64 0, .int .i64 2]) S) :
    CallWp Try.prog B 10 #[pt p, .int .i64 za, .int .i64 id] Q S := by
  refine CallWp.enter (args := [_, _, _]) Try.func10 rfl Try.ntmps10 rfl ?_
  refine Wp.seq (Wp.region ?_)
  refine OWp.evs 2 rfl ?_
  refine OWp.nil ?_
  refine Wp.seq ?_
  refine Wp.block ?_
  refine Wp.seq (Wp.region ?_)
  refine OWp.evs 4 rfl ?_
  refine OWp.load hm rfl rfl rfl rfl (wv_now rfl) ?_
  refine OWp.evs 2 rfl ?_
  refine OWp.nil ?_
  refine Wp.cond rfl (fun cc1 => absurd (of_decide_eq_true cc1) (by omega)) (fun cc1 => ?_)
  have cc1 := of_decide_eq_false cc1
  refine Wp.seq (Wp.region ?_)
  refine OWp.evs 3 rfl ?_
  refine OWp.nil ?_
  refine Wp.cond rfl (fun cc2 => absurd (of_decide_eq_true cc2) (by omega)) (fun cc2 => ?_)
  have cc2 := of_decide_eq_false cc2
  refine Wp.seq (Wp.region ?_)
  refine OWp.evs 3 rfl ?_
  refine OWp.load hm rfl rfl rfl rfl (wv_many rfl) ?_
  refine OWp.evs 2 rfl ?_
  refine OWp.nil ?_
  refine Wp.cond rfl (fun cc3 => ?_) (fun cc3 => absurd (of_decide_eq_false cc3) (by decide))
  have cc3 := of_decide_eq_true cc3
  refine Wp.seq (Wp.region ?_)
  refine OWp.evs 2 rfl ?_
  refine OWp.nil ?_
  refine Wp.ret ⟨trivial, _, ⟨_, _, rfl, rfl, _, _, rfl, rfl, rfl⟩, ?_⟩
  exact H
theorem nowC {p now put many : Nat} {v : Nat → Value} (hm : wE p v now put many ∈ S) (H : Q (.int .i64 (now : Int)) S) : CallWp Try.prog B 12 #[pt p] Q S := by
  refine CallWp.enter (args := [_]) Try.func12 rfl Try.ntmps12 rfl ?_
  refine Wp.seq (Wp.region ?_)
  refine OWp.evs 1 rfl ?_
  refine OWp.nil ?_
  refine Wp.seq (Wp.region ?_)
  refine OWp.evs 3 rfl ?_
  refine OWp.load hm rfl rfl rfl rfl (wv_now rfl) ?_
  refine OWp.evs 1 rfl ?_
  refine OWp.nil ?_
  refine Wp.ret ⟨trivial, _, ⟨_, _, rfl, rfl, rfl⟩, ?_⟩
  exact H
theorem lenC {p now put many : Nat} {v : Nat → Value} (hm : wE p v now put many ∈ S) (H : Q (.int .i64 (many : Int)) S) : CallWp Try.prog B 14 #[pt p] Q S := by
  refine CallWp.enter (args := [_]) Try.func14 rfl Try.ntmps14 rfl ?_
  refine Wp.seq (Wp.region ?_)
  refine OWp.evs 1 rfl ?_
  refine OWp.nil ?_
  refine Wp.seq (Wp.region ?_)
  refine OWp.evs 3 rfl ?_
  refine OWp.load hm rfl rfl rfl rfl (wv_many rfl) ?_
  refine OWp.evs 1 rfl ?_
  refine OWp.nil ?_
  refine Wp.ret ⟨trivial, _, ⟨_, _, rfl, rfl, rfl⟩, ?_⟩
  exact H
def ordI (a b : T) : Int := if a.due = b.due then (a.no : Int) - (b.no : Int) else (a.due : Int) - (b.due : Int)
def Small (t : T) : Prop := t.due ≤ 1099511627776 ∧ t.no ≤ 1099511627776
theorem orderC {a b : T} (ha : Small a) (hb : Small b) (H : Q (.int .i64 (ordI a b)) S) : CallWp Try.prog B 34 #[.agg (tc a).toArray, .agg (tc b).toArray] Q S := by
  obtain ⟨a1, a2⟩ := ha
  obtain ⟨b1, b2⟩ := hb
  refine CallWp.dropRet ?_
  refine CallWp.enter (args := [_, _]) Try.func34 rfl Try.ntmps34 rfl ?_
  refine Wp.seq (Wp.region ?_)
  refine OWp.step rfl (Step.box rfl rfl rfl ?_); intro L1 hBL1 hLL1
  refine OWp.step rfl (Step.box rfl rfl rfl ?_); intro L2 hBL2 hLL2
  refine OWp.evs 1 rfl ?_
  refine OWp.nil ?_
  refine Wp.seq ?_
  refine Wp.seq (Wp.region ?_)
  refine OWp.evs 1 rfl ?_
  refine OWp.load (.tail _ (.head _)) rfl rfl rfl rfl rfl ?_
  refine OWp.evs 1 rfl ?_
  refine OWp.load (.head _) rfl rfl rfl rfl rfl ?_
  refine OWp.evs 1 rfl ?_
  refine OWp.nil ?_
  refine Wp.cond rfl (fun h1 => ?_) (fun h1 => ?_)
  · have h1 := ndT h1
    refine Wp.seq (Wp.region ?_)
    refine OWp.evs 1 rfl ?_
    refine OWp.load (.tail _ (.head _)) rfl rfl rfl rfl rfl ?_
    refine OWp.evs 1 rfl ?_
    refine OWp.load (.head _) rfl rfl rfl rfl rfl ?_
    refine OWp.evs 2 rfl ?_
    refine OWp.nil ?_
    refine Wp.ret ⟨trivial, _, ⟨_, _, rfl, rfl, rfl⟩, ?_⟩
    have e : ordI a b = (a.due : Int) - (b.due : Int) := if_neg (by omega)
    exact ⟨S, (by repeat (first | exact List.Sublist.refl _ | exact List.sublist_append_right _ _ | apply List.Sublist.cons)), by rw [i64_id (by omega) (by omega), ← e]; exact H⟩
  have h1 := ndF h1
  refine Wp.skip ?_
  refine Wp.seq (Wp.region ?_)
  refine OWp.evs 1 rfl ?_
  refine OWp.load (.tail _ (.head _)) rfl rfl rfl rfl rfl ?_
  refine OWp.evs 1 rfl ?_
  refine OWp.load (.head _) rfl rfl rfl rfl rfl ?_
  refine OWp.evs 2 rfl ?_
  refine OWp.nil ?_
  refine Wp.ret ⟨trivial, _, ⟨_, _, rfl, rfl, rfl⟩, ?_⟩
  have e : ordI a b = (a.no : Int) - (b.no : Int) := if_pos (by omega)
  exact ⟨S, (by repeat (first | exact List.Sublist.refl _ | exact List.sublist_append_right _ _ | apply List.Sublist.cons)), by rw [i64_id (by omega) (by omega), ← e]; exact H⟩
end
end Go.Proofs.E
