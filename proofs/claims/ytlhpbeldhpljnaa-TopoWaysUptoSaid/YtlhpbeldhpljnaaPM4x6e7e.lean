/- What functions of the given program do, one after the other, told by that layer. -/
import Derived.Test.YtlhpbeldhpljnaaPM3x846b
namespace Go.Proofs.C
open Go.Lg
set_option maxRecDepth 100000

/-- A town that may be read. -/
def TIn (S : Ents) (hv mv sv : Value) (h0 : List Nd) (ms : List (List Nd)) (ss : List St) : Prop :=
  ∃ vs, Reads S 1 mv vs.length vs ∧ vs.all (·.oneCell') = true ∧ NodesIn S (hv :: vs) (h0 :: ms) ∧ vs.length ≤ lim ∧ Reads S 2 sv ss.length (ss.flatMap stc) ∧ ss.length ≤ lim
theorem NodesIn.mono {S S' : Ents} {vs : List Value} {ls : List (List Nd)} (h : NodesIn S vs ls) (hs : ∀ x ∈ S, x ∈ S') : NodesIn S' vs ls := ⟨h.1, fun i v l h1 h2 => ⟨(h.2 i v l h1 h2).1.mono hs, (h.2 i v l h1 h2).2⟩⟩
theorem TIn.mono {S S' : Ents} {hv mv sv : Value} {h0 : List Nd} {ms : List (List Nd)} {ss : List St} (h : TIn S hv mv sv h0 ms ss) (hs : ∀ x ∈ S, x ∈ S') : TIn S' hv mv sv h0 ms ss := by
  obtain ⟨vs, h1, h2, h3, h4, h5, h6⟩ := h
  exact ⟨vs, h1.mono hs, h2, h3.mono hs, h4, h5.mono hs, h6⟩
theorem TIn.forms {S : Ents} {hv mv sv : Value} {h0 : List Nd} {ms : List (List Nd)} {ss : List St} (h : TIn S hv mv sv h0 ms ss) : ∃ a1 c1 a2 c2 a3 c3, hv = .slice a1 h0.length c1 ∧ mv = .slice a2 ms.length c2 ∧ sv = .slice a3 ss.length c3 := by
  obtain ⟨vs, h1, h2, h3, h4, h5, h6⟩ := h
  obtain ⟨a1, c1, e1⟩ := (h3.2 0 hv h0 rfl rfl).1.form
  obtain ⟨a2, c2, e2⟩ := h1.form
  obtain ⟨a3, c3, e3⟩ := h5.form
  have := h3.1
  simp only [List.length_cons, Nat.add_right_cancel_iff] at this
  exact ⟨a1, c1, a2, c2, a3, c3, e1, by rw [e2, this], e3⟩

section
variable {B : Nat} {S R : Ents} {Q : Value → Ents → Prop} {hv mv sv : Value} {h0 : List Nd} {ms : List (List Nd)} {ss : List St}
theorem town2C (h : TIn S hv mv sv h0 ms ss) (H : ∀ e : Int, (e = 0 ∧ TownOk (h0 :: ms) ss ∨ e = 250 ∧ ¬ TownOk (h0 :: ms) ss) → Q (.int .i64 e) S) : CallWp Try.prog B 12 #[.agg #[hv, mv, sv]] Q S := by
  obtain ⟨vs, h1, h2, h3, h4, h5, h6⟩ := h
  exact townC h1 h2 h3 h4 h5 h6 (fun h => H 0 (.inl ⟨rfl, h⟩)) (fun h => H 250 (.inr ⟨rfl, h⟩))
theorem find2C {number : Int} (h : TIn S hv mv sv h0 ms ss) (hok : TownOk (h0 :: ms) ss) (H : Q (.tuple (findV (findP (h0 :: ms) number)).toArray) S) : CallWp Try.prog B 26 #[.agg #[hv, mv, sv], .int .i64 number] Q S := by
  obtain ⟨vs, h1, h2, h3, h4, h5, h6⟩ := h
  have := h3.1
  have h8 := hok.1.2.1
  simp only [List.length_cons] at this h8
  exact findC h1 h2 h3 (by omega) H

/-- Words. -/
def Words (ls : List (List Nd)) (ss : List St) (n : Int) : Prop := TownOk ls ss ∧ n = 2 * ((ls.length - 1 : Nat) : Int) + 1 ∨ ¬ TownOk ls ss ∧ n = 0
theorem wordsC (h : TIn S hv mv sv h0 ms ss) (H : ∀ n, Words (h0 :: ms) ss n → Q (.int .i64 n) S) : CallWp Try.prog B 14 #[.agg #[hv, mv, sv]] Q S := by
  obtain ⟨a1, c1, a2, c2, a3, c3, rfl, rfl, rfl⟩ := h.forms
  refine CallWp.dropRet ?_
  refine CallWp.enter (args := [_]) Try.func14 rfl Try.ntmps14 rfl ?_
  refine Wp.seq (Wp.region ?_)
  refine OWp.step rfl (Step.box rfl rfl rfl ?_); intro L1 hBL1 hLL1
  refine OWp.evs 1 rfl ?_
  refine OWp.nil ?_
  refine Wp.seq ?_
  refine Wp.seq (Wp.region ?_)
  refine OWp.load (.head _) rfl rfl rfl rfl rfl ?_
  refine OWp.step rfl (Step.call rfl rfl rfl rfl rfl rfl ((town2C (h.mono fun _ h => .tail _ h) ?_)))
  intro e he
  rcases he with ⟨rfl, hok⟩ | ⟨rfl, hok⟩
  · skip
    refine OWp.evs 1 rfl ?_
    refine OWp.nil ?_
    refine Wp.cond rfl (fun cc1 => absurd (ndT cc1) (by exact fun h => h rfl)) (fun cc1 => ?_)
    have cc1 := ndF cc1
    refine Wp.skip ?_
    refine Wp.seq (Wp.region ?_)
    refine OWp.evs 1 rfl ?_
    refine OWp.load (.head _) rfl rfl rfl rfl rfl ?_
    refine OWp.evs 4 rfl ?_
    refine OWp.nil ?_
    refine Wp.ret ⟨trivial, _, ⟨_, _, rfl, rfl, rfl⟩, ?_⟩
    have h8 := hok.1.2.1
    simp only [List.length_cons] at h8
    exact ⟨S, (by repeat (first | exact List.Sublist.refl _ | exact List.sublist_append_right _ _ | apply List.Sublist.cons)), H _ (.inl ⟨hok, by simp only [List.length_cons]; rw [i64_id (by rw [i64_id] <;> omega) (by rw [i64_id] <;> omega), i64_id (by omega) (by omega)]; simp⟩)⟩
  refine OWp.evs 1 rfl ?_
  refine OWp.nil ?_
  refine Wp.cond rfl (fun cc2 => ?_) (fun cc2 => absurd (ndF cc2) (by decide))
  have cc2 := ndT cc2
  refine Wp.seq (Wp.region ?_)
  refine OWp.evs 1 rfl ?_
  refine OWp.nil ?_
  refine Wp.ret ⟨trivial, _, ⟨_, _, rfl, rfl, rfl⟩, ?_⟩
  exact ⟨S, (by repeat (first | exact List.Sublist.refl _ | exact List.sublist_append_right _ _ | apply List.Sublist.cons)), H _ (.inr ⟨hok, rfl⟩)⟩
/-- What Node tells. -/
def NodeOf (ls : List (List Nd)) (ss : List St) (number : Int) (n : Nd) (layer e : Int) : Prop :=
  TownOk ls ss ∧ (findP ls number = some (layer, n) ∧ e = 0 ∨ findP ls number = none ∧ n = (0, []) ∧ layer = 0 ∧ e = 5) ∨ ¬ TownOk ls ss ∧ n = (0, []) ∧ layer = 0 ∧ e = 250
theorem nodeC {number : Int} (h : TIn S hv mv sv h0 ms ss) (H : ∀ n ly e, NodeOf (h0 :: ms) ss number n ly e → Q (.tuple #[.agg (ndc n).toArray, .int .i64 ly, .int .i64 e]) S) : CallWp Try.prog B 10 #[.agg #[hv, mv, sv], .int .i64 number] Q S := by
  obtain ⟨a1, c1, a2, c2, a3, c3, rfl, rfl, rfl⟩ := h.forms
  refine CallWp.dropRet ?_
  refine CallWp.enter (args := [_, _]) Try.func10 rfl Try.ntmps10 rfl ?_
  refine Wp.seq (Wp.region ?_)
  refine OWp.step rfl (Step.box rfl rfl rfl ?_); intro L2 hBL2 hLL2
  refine OWp.step rfl (Step.alloc rfl rfl rfl ?_); intro L4 hBL4 hLL4
  refine OWp.evs 2 rfl ?_
  refine OWp.nil ?_
  refine Wp.seq ?_
  refine Wp.seq (Wp.region ?_)
  refine OWp.load (.tail _ (.head _)) rfl rfl rfl rfl rfl ?_
  refine OWp.step rfl (Step.call rfl rfl rfl rfl rfl rfl ((town2C (h.mono fun _ h => .tail _ (.tail _ h)) ?_)))
  intro e he
  rcases he with ⟨rfl, hok⟩ | ⟨rfl, hok⟩
  · skip
    refine OWp.evs 1 rfl ?_
    refine OWp.nil ?_
    refine Wp.seq (Wp.region ?_)
    refine OWp.evs 2 rfl ?_
    refine OWp.nil ?_
    refine Wp.cond rfl (fun cc1 => absurd (ndT cc1) (by exact fun h => h rfl)) (fun cc1 => ?_)
    have cc1 := ndF cc1
    refine Wp.skip ?_
    refine Wp.seq (Wp.region ?_)
    refine OWp.load (.tail _ (.head _)) rfl rfl rfl rfl rfl ?_
    refine OWp.evs 1 rfl ?_
    refine OWp.step rfl (Step.call rfl rfl rfl rfl rfl rfl ((find2C (h.mono fun _ h => .tail _ (.tail _ h)) hok ?_)))
    rcases hf : findP (h0 :: ms) number with _ | ⟨ly, n⟩
    · skip
      refine OWp.evs 4 rfl ?_
      refine OWp.step rfl (Step.storeAs 0 (ndc (0, [])) rfl rfl rfl rfl rfl hBL4 rfl (Unfz.zero _) rfl (Nat.le_of_ble_eq_true rfl) rfl rfl ?_)
      refine OWp.evs 2 rfl ?_
      refine OWp.nil ?_
      refine Wp.seq ?_
      refine Wp.seq (Wp.region ?_)
      refine OWp.evs 2 rfl ?_
      refine OWp.nil ?_
      refine Wp.cond rfl (fun cc2 => ?_) (fun cc2 => (by contradiction))
      refine Wp.seq (Wp.region ?_)
      refine OWp.g rfl rfl (Gives.build rfl rfl) ?_
      refine OWp.step rfl (Step.storeAs 0 (ndc (0, [])) rfl rfl rfl rfl rfl hBL4 rfl (Unfz.zero _) rfl (Nat.le_of_ble_eq_true rfl) rfl rfl ?_)
      refine OWp.evs 2 rfl ?_
      refine OWp.nil ?_
      refine Wp.ret ⟨trivial, _, ⟨_, _, _, _, rfl, rfl, ⟨_, _, _, (by repeat (first | exact List.Mem.head _ | assumption | apply List.mem_cons_of_mem | apply List.mem_append_right)), (by first | assumption | rfl)⟩, ⟨_, _, rfl, rfl, ⟨_, _, rfl, rfl, rfl⟩⟩⟩, ?_⟩
      exact ⟨S, (by repeat (first | exact List.Sublist.refl _ | exact List.sublist_append_right _ _ | apply List.Sublist.cons)), H (0, []) 0 5 (.inl ⟨hok, .inr ⟨hf, rfl, rfl, rfl⟩⟩)⟩
    refine OWp.evs 4 rfl ?_
    refine OWp.step rfl (Step.storeAs 0 (ndc n) rfl rfl rfl rfl rfl hBL4 rfl (Unfz.zero _) rfl (Nat.le_of_ble_eq_true rfl) rfl rfl ?_)
    refine OWp.evs 2 rfl ?_
    refine OWp.nil ?_
    refine Wp.seq ?_
    refine Wp.seq (Wp.region ?_)
    refine OWp.evs 2 rfl ?_
    refine OWp.nil ?_
    refine Wp.cond rfl (fun cc3 => (by contradiction)) (fun cc3 => ?_)
    refine Wp.skip ?_
    refine Wp.seq (Wp.region ?_)
    refine OWp.load (.head _) rfl rfl rfl rfl rfl ?_
    refine OWp.evs 1 rfl ?_
    refine OWp.step rfl (Step.storeAs 0 (ndc n) rfl rfl rfl rfl rfl hBL4 rfl (Unfz.zero _) rfl (Nat.le_of_ble_eq_true rfl) rfl rfl ?_)
    refine OWp.evs 2 rfl ?_
    refine OWp.nil ?_
    refine Wp.ret ⟨trivial, _, ⟨_, _, _, _, rfl, rfl, ⟨_, _, _, (by repeat (first | exact List.Mem.head _ | assumption | apply List.mem_cons_of_mem | apply List.mem_append_right)), (by first | assumption | rfl)⟩, ⟨_, _, rfl, rfl, ⟨_, _, rfl, rfl, rfl⟩⟩⟩, ?_⟩
    exact ⟨S, (by repeat (first | exact List.Sublist.refl _ | exact List.sublist_append_right _ _ | apply List.Sublist.cons)), H n ly 0 (.inl ⟨hok, .inl ⟨hf, rfl⟩⟩)⟩
  refine OWp.evs 1 rfl ?_
  refine OWp.nil ?_
  refine Wp.seq (Wp.region ?_)
  refine OWp.evs 2 rfl ?_
  refine OWp.nil ?_
  refine Wp.cond rfl (fun cc4 => ?_) (fun cc4 => absurd (ndF cc4) (by decide))
  have cc4 := ndT cc4
  refine Wp.seq (Wp.region ?_)
  refine OWp.g rfl rfl (Gives.build rfl rfl) ?_
  refine OWp.evs 1 rfl ?_
  refine OWp.step rfl (Step.storeAs 0 (ndc (0, [])) rfl rfl rfl rfl rfl hBL4 rfl (Unfz.zero _) rfl (Nat.le_of_ble_eq_true rfl) rfl rfl ?_)
  refine OWp.evs 2 rfl ?_
  refine OWp.nil ?_
  refine Wp.ret ⟨trivial, _, ⟨_, _, _, _, rfl, rfl, ⟨_, _, _, (by repeat (first | exact List.Mem.head _ | assumption | apply List.mem_cons_of_mem | apply List.mem_append_right)), (by first | assumption | rfl)⟩, ⟨_, _, rfl, rfl, ⟨_, _, rfl, rfl, rfl⟩⟩⟩, ?_⟩
  exact ⟨S, (by repeat (first | exact List.Sublist.refl _ | exact List.sublist_append_right _ _ | apply List.Sublist.cons)), H (0, []) 0 250 (.inr ⟨hok, rfl, rfl, rfl⟩)⟩
/-- What Host tells. -/
def HostOf (ls : List (List Nd)) (ss : List St) (user : Int) (n : Nd) (e : Int) : Prop :=
  TownOk ls ss ∧ ((∃ s ly, ss.find? (fun s => s.1 == user) = some s ∧ findP ls s.2 = some (ly, n) ∧ ly ≤ 0 ∧ e = 0) ∨ ss.find? (fun s => s.1 == user) = none ∧ n = (0, []) ∧ e = 5) ∨ ¬ TownOk ls ss ∧ n = (0, []) ∧ e = 250
theorem find_at {ss : List St} {user : Int} {i : Nat} (hi : i < ss.length) (hb : ∀ s ∈ ss.take i, s.1 ≠ user) (h : ss[i].1 = user) : ss.find? (fun s => s.1 == user) = some ss[i] := by
  have e : ss = ss.take i ++ ss[i] :: ss.drop (i + 1) := by rw [← List.drop_eq_getElem_cons hi, List.take_append_drop]
  conv => lhs; rw [e]
  rw [List.find?_append, List.find?_eq_none.2 (fun s hs => by simpa using hb s hs), Option.none_or, List.find?_cons_of_pos (by simpa using h)]
set_option maxHeartbeats 1000000 in
theorem hostC {user : Int} (h : TIn S hv mv sv h0 ms ss) (H : ∀ n e, HostOf (h0 :: ms) ss user n e → Q (.tuple #[.agg (ndc n).toArray, .int .i64 e]) S) : CallWp Try.prog B 8 #[.agg #[hv, mv, sv], .int .i64 user] Q S := by
  obtain ⟨a1, c1, a2, c2, a3, c3, rfl, rfl, rfl⟩ := h.forms
  have hsr : Reads S 2 (.slice a3 ss.length c3) ss.length (ss.flatMap stc) := by obtain ⟨_, _, _, _, _, h5, _⟩ := h; exact h5
  have hsl : ss.length ≤ lim := by obtain ⟨_, _, _, _, _, _, h6⟩ := h; exact h6
  unfold lim at hsl
  refine CallWp.dropRet ?_
  refine CallWp.enter (args := [_, _]) Try.func8 rfl Try.ntmps8 rfl ?_
  refine Wp.seq (Wp.region ?_)
  refine OWp.step rfl (Step.box rfl rfl rfl ?_); intro L2 hBL2 hLL2
  refine OWp.step rfl (Step.alloc rfl rfl rfl ?_); intro L4 hBL4 hLL4
  refine OWp.evs 1 rfl ?_
  refine OWp.nil ?_
  refine Wp.seq ?_
  refine Wp.seq (Wp.region ?_)
  refine OWp.load (.tail _ (.head _)) rfl rfl rfl rfl rfl ?_
  refine OWp.step rfl (Step.call rfl rfl rfl rfl rfl rfl ((town2C (h.mono fun _ h => .tail _ (.tail _ h)) ?_)))
  intro e he
  rcases he with ⟨rfl, hok⟩ | ⟨rfl, hok⟩
  · skip
    refine OWp.evs 1 rfl ?_
    refine OWp.nil ?_
    refine Wp.seq (Wp.region ?_)
    refine OWp.evs 2 rfl ?_
    refine OWp.nil ?_
    refine Wp.cond rfl (fun cc1 => absurd (ndT cc1) (by exact fun h => h rfl)) (fun cc1 => ?_)
    have cc1 := ndF cc1
    refine Wp.skip ?_
    refine Wp.seq ?_
    refine Wp.seq (Wp.region ?_)
    refine OWp.evs 1 rfl ?_
    refine OWp.load (.tail _ (.head _)) rfl rfl rfl rfl rfl ?_
    refine OWp.evs 2 rfl ?_
    refine OWp.nil ?_
    refine Wp.block ?_
    refine Wp.loopS (α := Nat) (fun i => ss.length - i) (fun i => [(1, .int .i64 user), (2, .pointer (some ⟨L2, 0, none⟩)), (4, .pointer (some ⟨L4, 0, none⟩)), (19, .slice a3 ss.length c3), (20, .int .i64 (ss.length : Int)), (21, .int .i64 (i : Int))]) (fun _ => (L4, cel (ndc (0, [])) 31) :: (L2, cel [.slice a1 h0.length c1, .slice a2 ms.length c2, .slice a3 ss.length c3] 26) :: S) (fun i => i ≤ ss.length ∧ ∀ s ∈ ss.take i, s.1 ≠ user) 0 ?_ (.refl _) ⟨Nat.zero_le _, by simp⟩ ?_
    · exact .cons rfl (.cons rfl (.cons rfl (.cons rfl (.cons rfl (.cons rfl (.nil _))))))
    rintro i ⟨hi, hb⟩
    refine Wp.seq (Wp.region ?_)
    refine OWp.evs 1 rfl ?_
    refine OWp.nil ?_
    refine Wp.seq ?_
    refine Wp.cond rfl (fun h1 => ?_) (fun h1 => ?_)
    · have h1 := of_decide_eq_true h1
      have hi1 : i < ss.length := by omega
      obtain ⟨b1, o1, c1', L, e, fz, hv1, hm1, hat⟩ := st_at hsr (by omega)
      cases hv1
      have hsucc : ss.take (i + 1) = ss.take i ++ [ss[i]] := List.take_succ_eq_append_getElem hi1
      refine Wp.skip ?_
      refine Wp.seq ?_
      refine Wp.block ?_
      refine Wp.seq (Wp.region ?_)
      refine OWp.g rfl rfl (Gives.indexAddrSlice (i) rfl rfl rfl rfl rfl rfl (by omega)) ?_
      refine OWp.load (.tail _ (.tail _ hm1)) rfl rfl rfl rfl (hat i hi1) ?_
      refine OWp.step rfl (Step.alloc rfl rfl rfl ?_); intro L8 hBL8 hLL8
      refine OWp.step rfl (Step.storeAs 0 (stc ss[i]) rfl rfl rfl rfl rfl hBL8 rfl (Unfz.zero _) rfl (Nat.le_of_ble_eq_true rfl) rfl rfl ?_)
      refine OWp.nil ?_
      refine Wp.seq (Wp.region ?_)
      refine OWp.evs 1 rfl ?_
      refine OWp.load (.head _) rfl rfl rfl rfl rfl ?_
      refine OWp.evs 2 rfl ?_
      refine OWp.nil ?_
      refine Wp.cond rfl (fun heq => ?_) (fun heq => ?_)
      · have heq := of_decide_eq_true heq
        refine Wp.seq (Wp.region ?_)
        refine OWp.load (.tail _ (.tail _ (.head _))) rfl rfl rfl rfl rfl ?_
        refine OWp.evs 1 rfl ?_
        refine OWp.load (.head _) rfl rfl rfl rfl rfl ?_
        refine OWp.step rfl (Step.call rfl rfl rfl rfl rfl rfl ((find2C (h.mono fun _ h => .tail _ (.tail _ (.tail _ h))) hok ?_)))
        obtain ⟨⟨x, hx, hx2⟩, _⟩ := hok.2.2.1 ss[i] (List.getElem_mem hi1)
        rw [hx]
        refine OWp.evs 4 rfl ?_
        refine OWp.step rfl (Step.alloc rfl rfl rfl ?_); intro L9 hBL9 hLL9
        refine OWp.step rfl (Step.storeAs 0 (ndc x.2) rfl rfl rfl rfl rfl hBL9 rfl (Unfz.zero _) rfl (Nat.le_of_ble_eq_true rfl) rfl rfl ?_)
        refine OWp.evs 2 rfl ?_
        refine OWp.nil ?_
        refine Wp.seq (Wp.region ?_)
        refine OWp.load (.head _) rfl rfl rfl rfl rfl ?_
        refine OWp.step rfl (Step.storeAs 2 (ndc x.2) rfl rfl rfl rfl rfl hBL4 rfl (Unfz.zero _) rfl (Nat.le_of_ble_eq_true rfl) rfl rfl ?_)
        refine OWp.evs 1 rfl ?_
        refine OWp.nil ?_
        refine Wp.ret ⟨trivial, _, ⟨_, _, _, _, rfl, rfl, ⟨_, _, _, (by repeat (first | exact List.Mem.head _ | assumption | apply List.mem_cons_of_mem | apply List.mem_append_right)), (by first | assumption | rfl)⟩, ⟨_, _, rfl, rfl, rfl⟩⟩, ?_⟩
        exact ⟨S, (by repeat (first | exact List.Sublist.refl _ | exact List.sublist_append_right _ _ | apply List.Sublist.cons)), H x.2 0 (.inl ⟨hok, .inl ⟨_, _, find_at hi1 hb heq, hx, hx2, rfl⟩⟩)⟩
      have heq := of_decide_eq_false heq
      refine Wp.skip ?_
      refine Wp.drop (List.sublist_cons_self _ _) ?_
      refine Wp.region ?_
      refine OWp.evs 2 rfl ?_
      refine OWp.nil ?_
      refine ⟨i + 1, by omega, ⟨by omega, fun s hs => ?_⟩, .cons rfl (.cons rfl (.cons rfl (.cons rfl (.cons rfl (.cons' rfl (int_eq (by rw [i64_id] <;> omega)) (.nil _)))))), .refl _⟩
      rw [hsucc] at hs
      rcases List.mem_append.1 hs with hs | hs
      · exact hb s hs
      · rw [List.mem_singleton.1 hs]; exact heq
    have h1 := of_decide_eq_false h1
    obtain rfl : i = ss.length := by omega
    rw [List.take_length] at hb
    refine Wp.exit ?_
    refine Wp.seq (Wp.region ?_)
    refine OWp.g rfl rfl (Gives.build rfl rfl) ?_
    refine OWp.step rfl (Step.storeAs 0 (ndc (0, [])) rfl rfl rfl rfl rfl hBL4 rfl (Unfz.zero _) rfl (Nat.le_of_ble_eq_true rfl) rfl rfl ?_)
    refine OWp.evs 1 rfl ?_
    refine OWp.nil ?_
    refine Wp.ret ⟨trivial, _, ⟨_, _, _, _, rfl, rfl, ⟨_, _, _, (by repeat (first | exact List.Mem.head _ | assumption | apply List.mem_cons_of_mem | apply List.mem_append_right)), (by first | assumption | rfl)⟩, ⟨_, _, rfl, rfl, rfl⟩⟩, ?_⟩
    exact ⟨S, (by repeat (first | exact List.Sublist.refl _ | exact List.sublist_append_right _ _ | apply List.Sublist.cons)), H (0, []) 5 (.inl ⟨hok, .inr ⟨List.find?_eq_none.2 (fun s hs => by simpa using hb s hs), rfl, rfl⟩⟩)⟩
  refine OWp.evs 1 rfl ?_
  refine OWp.nil ?_
  refine Wp.seq (Wp.region ?_)
  refine OWp.evs 2 rfl ?_
  refine OWp.nil ?_
  refine Wp.cond rfl (fun cc2 => ?_) (fun cc2 => absurd (ndF cc2) (by decide))
  have cc2 := ndT cc2
  refine Wp.seq (Wp.region ?_)
  refine OWp.g rfl rfl (Gives.build rfl rfl) ?_
  refine OWp.evs 1 rfl ?_
  refine OWp.step rfl (Step.storeAs 0 (ndc (0, [])) rfl rfl rfl rfl rfl hBL4 rfl (Unfz.zero _) rfl (Nat.le_of_ble_eq_true rfl) rfl rfl ?_)
  refine OWp.evs 1 rfl ?_
  refine OWp.nil ?_
  refine Wp.ret ⟨trivial, _, ⟨_, _, _, _, rfl, rfl, ⟨_, _, _, (by repeat (first | exact List.Mem.head _ | assumption | apply List.mem_cons_of_mem | apply List.mem_append_right)), (by first | assumption | rfl)⟩, ⟨_, _, rfl, rfl, rfl⟩⟩, ?_⟩
  exact ⟨S, (by repeat (first | exact List.Sublist.refl _ | exact List.sublist_append_right _ _ | apply List.Sublist.cons)), H (0, []) 250 (.inr ⟨hok, rfl, rfl⟩)⟩
end
end Go.Proofs.C

namespace Go.Proofs.C
open Go.Lg
set_option maxRecDepth 100000

theorem ncell_at {S : Ents} {v : Value} {l : List Nd} (h : Reads S 2 v l.length (l.flatMap ndc)) (h0 : 0 < l.length) :
    ∃ b o cap L e fz, v = .slice (some ⟨b, o, none⟩) l.length cap ∧ (b, cel L e fz) ∈ S ∧ ∀ i (hi : i < l.length), L[o + i * 2]? = some (.int .i64 l[i].1) ∧ L[o + i * 2 + 1]? = some (.string (str l[i].2)) := by
  obtain ⟨b, o, cap, L, e, fz, hv, hm, hat⟩ := Reads.elem (f := ndc) (xs := l) h (fun _ _ => rfl) h0
  refine ⟨b, o, cap, L, e, fz, hv, hm, fun i hi => ?_⟩
  have key : ∀ j, j < 2 → L[o + i * 2 + j]? = (ndc l[i])[j]? := fun j hj => by
    rw [← hat i hi, List.getElem?_take, if_pos hj, List.getElem?_drop]
  exact ⟨key 0 (by decide), key 1 (by decide)⟩
theorem scell_at {S : Ents} {v : Value} {l : List St} (h : Reads S 2 v l.length (l.flatMap stc)) (h0 : 0 < l.length) :
    ∃ b o cap L e fz, v = .slice (some ⟨b, o, none⟩) l.length cap ∧ (b, cel L e fz) ∈ S ∧ ∀ i (hi : i < l.length), L[o + i * 2]? = some (.int .i64 l[i].1) ∧ L[o + i * 2 + 1]? = some (.int .i64 l[i].2) := by
  obtain ⟨b, o, cap, L, e, fz, hv, hm, hat⟩ := Reads.elem (f := stc) (xs := l) h (fun _ _ => rfl) h0
  refine ⟨b, o, cap, L, e, fz, hv, hm, fun i hi => ?_⟩
  have key : ∀ j, j < 2 → L[o + i * 2 + j]? = (stc l[i])[j]? := fun j hj => by
    rw [← hat i hi, List.getElem?_take, if_pos hj, List.getElem?_drop]
  exact ⟨key 0 (by decide), key 1 (by decide)⟩
/-- Where a host of a number is. -/
def HostAt (h0 : List Nd) (number z : Int) : Prop := (∃ i : Nat, ∃ h : i < h0.length, z = (i : Int) ∧ h0[i].1 = number ∧ ∀ y ∈ h0.take i, y.1 ≠ number) ∨ z = -1 ∧ ∀ y ∈ h0, y.1 ≠ number
theorem findP_host {h0 : List Nd} {ms : List (List Nd)} {number : Int} {i : Nat} (hi : i < h0.length) (h : h0[i].1 = number) (hb : ∀ y ∈ h0.take i, y.1 ≠ number) : findP (h0 :: ms) number = some (0, h0[i]) := by
  have hpre : (h0.take i).map (fun x => ((0 : Int), x)) ++ [((0 : Int), h0[i])] <+: lay (h0 :: ms) 0 := by
    have := lay_prefix (ls := h0 :: ms) (i := 0) (by simp) (j := i) hi
    simpa [lay] using this
  refine findP_some hpre ?_ h
  intro y hy
  obtain ⟨z, hz, rfl⟩ := List.mem_map.1 hy
  exact hb z hz
theorem lay_high {ms : List (List Nd)} {k : Nat} {x : Int × Nd} (h : x ∈ lay ms k) : (k : Int) ≤ x.1 := by
  unfold lay at h
  obtain ⟨p, hp, hx⟩ := List.mem_flatMap.1 h
  obtain ⟨y, _, rfl⟩ := List.mem_map.1 hx
  have := (List.mem_zipIdx hp).1
  show (k : Int) ≤ (p.2 : Int)
  omega
theorem findP_high {h0 : List Nd} {ms : List (List Nd)} {number : Int} (h : ∀ y ∈ h0, y.1 ≠ number) {x : Int × Nd} (hx : findP (h0 :: ms) number = some x) : 1 ≤ x.1 := by
  unfold findP at hx
  rw [lay_cons, List.find?_append, List.find?_eq_none.2, Option.none_or] at hx
  · have := lay_high (List.mem_of_find?_eq_some hx)
    simpa using this
  · intro y hy
    obtain ⟨z, hz, rfl⟩ := List.mem_map.1 hy
    simpa using h z hz
theorem host_iff {h0 : List Nd} {ms : List (List Nd)} {number z : Int} (hz : HostAt h0 number z) : (∃ x, findP (h0 :: ms) number = some x ∧ x.1 ≤ 0) ↔ 0 ≤ z := by
  rcases hz with ⟨i, hi, rfl, h, hb⟩ | ⟨rfl, h⟩
  · exact ⟨fun _ => by omega, fun _ => ⟨_, findP_host hi h hb, Int.le_refl _⟩⟩
  · constructor
    · rintro ⟨x, hx, hx2⟩
      have := findP_high h hx
      omega
    · intro h; omega

theorem subRet {P : Program} {B : Nat} {f : FuncId} {args : Array Value} {Q : Value → Ents → Prop} {S : Ents} (h : CallWp P B f args (fun v S' => ∃ S1 S2 : Ents, S'.Perm S1 ∧ S2.Sublist S1 ∧ Q v S2) S) : CallWp P B f args Q S :=
  fun w hS => (h w hS).mono fun _ _ ⟨v, _, e, hb, hs, _, S2, hp, hsub, q⟩ => ⟨v, S2, e, hb, (hs.perm hp).sublist hsub, q⟩
theorem ndcs_cells (l : List Nd) : (l.flatMap ndc).all (·.oneCell') = true := by
  rw [List.all_eq_true]
  intro v hv
  simp only [List.mem_flatMap] at hv
  obtain ⟨t, _, hv⟩ := hv
  simp only [ndc, List.mem_cons, List.mem_nil_iff, or_false] at hv
  rcases hv with rfl | rfl <;> rfl
theorem flat_len {ls : List (List Nd)} {l : List Nd} (h : l ∈ ls) : l.length ≤ ls.flatten.length := by
  induction ls with
  | nil => cases h
  | cons x ls ih =>
    rw [List.flatten_cons, List.length_append]
    rcases List.mem_cons.1 h with rfl | h
    · omega
    · have := ih h; omega
theorem flat_take (ls : List (List Nd)) (i : Nat) : (ls.take i).flatten.length ≤ ls.flatten.length := by
  have e : ls.flatten = (ls.take i).flatten ++ (ls.drop i).flatten := by rw [← List.flatten_append, List.take_append_drop]
  rw [e, List.length_append]; omega
section
variable {B : Nat} {S R : Ents} {Q : Value → Ents → Prop} {hv mv sv : Value} {h0 : List Nd} {ms : List (List Nd)} {ss : List St}
theorem rhostC {number : Int} (h : TIn S hv mv sv h0 ms ss) (H : ∀ z, HostAt h0 number z → Q (.int .i64 z) S) : CallWp Try.prog B 27 #[.agg #[hv, mv, sv], .int .i64 number] Q S := by
  obtain ⟨a1, c1, a2, c2, a3, c3, rfl, rfl, rfl⟩ := h.forms
  obtain ⟨hr, hl⟩ : Reads S 2 (.slice a1 h0.length c1) h0.length (h0.flatMap ndc) ∧ h0.length ≤ lim := by obtain ⟨_, _, _, h3, _⟩ := h; exact h3.2 0 _ _ rfl rfl
  unfold lim at hl
  refine CallWp.dropRet ?_
  refine CallWp.enter (args := [_, _]) Try.func27 rfl Try.ntmps27 rfl ?_
  refine Wp.seq (Wp.region ?_)
  refine OWp.step rfl (Step.box rfl rfl rfl ?_); intro L2 hBL2 hLL2
  refine OWp.evs 1 rfl ?_
  refine OWp.nil ?_
  refine Wp.seq ?_
  refine Wp.seq (Wp.region ?_)
  refine OWp.evs 1 rfl ?_
  refine OWp.nil ?_
  refine Wp.block ?_
  refine Wp.loopS (α := Nat) (fun i => h0.length - i) (fun i => [(1, .int .i64 number), (2, .pointer (some ⟨L2, 0, none⟩)), (5, .int .i64 (i : Int))]) (fun _ => (L2, cel [.slice a1 h0.length c1, .slice a2 ms.length c2, .slice a3 ss.length c3] 26) :: S) (fun i => i ≤ h0.length ∧ ∀ y ∈ h0.take i, y.1 ≠ number) 0 ?_ (.refl _) ⟨Nat.zero_le _, by simp⟩ ?_
  · exact .cons rfl (.cons rfl (.cons rfl (.nil _)))
  rintro i ⟨hi, hb⟩
  refine Wp.seq ?_
  refine Wp.seq (Wp.region ?_)
  refine OWp.evs 2 rfl ?_
  refine OWp.load (.head _) rfl rfl rfl rfl rfl ?_
  refine OWp.evs 2 rfl ?_
  refine OWp.nil ?_
  refine Wp.cond rfl (fun h1 => ?_) (fun h1 => ?_)
  · have h1 := of_decide_eq_true h1
    have hi1 : i < h0.length := by omega
    obtain ⟨b1, o1, c1', L, e, fz, hv1, hm1, hat⟩ := ncell_at hr (by omega)
    cases hv1
    refine Wp.skip ?_
    refine Wp.seq ?_
    refine Wp.block ?_
    refine Wp.seq (Wp.region ?_)
    refine OWp.evs 1 rfl ?_
    refine OWp.load (.head _) rfl rfl rfl rfl rfl ?_
    refine OWp.evs 1 rfl ?_
    refine OWp.g rfl rfl (Gives.indexAddrSlice (i) rfl rfl rfl rfl rfl rfl (by omega)) ?_
    refine OWp.evs 1 rfl ?_
    refine OWp.load (.tail _ hm1) rfl rfl rfl rfl (hat i hi1).1 ?_
    refine OWp.evs 2 rfl ?_
    refine OWp.nil ?_
    refine Wp.cond rfl (fun heq => ?_) (fun heq => ?_)
    · have heq := of_decide_eq_true heq
      refine Wp.seq (Wp.region ?_)
      refine OWp.evs 2 rfl ?_
      refine OWp.nil ?_
      refine Wp.ret ⟨trivial, _, ⟨_, _, rfl, rfl, rfl⟩, ?_⟩
      exact ⟨S, (by repeat (first | exact List.Sublist.refl _ | exact List.sublist_append_right _ _ | apply List.Sublist.cons)), H i (.inl ⟨i, hi1, rfl, heq, hb⟩)⟩
    have heq := of_decide_eq_false heq
    refine Wp.skip ?_
    refine Wp.region ?_
    refine OWp.evs 3 rfl ?_
    refine OWp.nil ?_
    refine ⟨i + 1, by omega, ⟨by omega, fun s hs => ?_⟩, .cons rfl (.cons rfl (.cons' rfl (int_eq (by rw [i64_id] <;> omega)) (.nil _))), .refl _⟩
    rw [List.take_succ_eq_append_getElem hi1] at hs
    rcases List.mem_append.1 hs with hs | hs
    · exact hb s hs
    · rw [List.mem_singleton.1 hs]; exact heq
  have h1 := of_decide_eq_false h1
  obtain rfl : i = h0.length := by omega
  rw [List.take_length] at hb
  refine Wp.exit ?_
  refine Wp.seq (Wp.region ?_)
  refine OWp.evs 1 rfl ?_
  refine OWp.nil ?_
  refine Wp.ret ⟨trivial, _, ⟨_, _, rfl, rfl, rfl⟩, ?_⟩
  exact ⟨S, (by repeat (first | exact List.Sublist.refl _ | exact List.sublist_append_right _ _ | apply List.Sublist.cons)), H (-1) (.inr ⟨rfl, hb⟩)⟩
set_option maxHeartbeats 1000000 in
theorem rallC (h : TIn S hv mv sv h0 ms ss) (ht : (h0 :: ms).flatten.length ≤ 1099511627776) (H : ∀ v es, Lg.Own B 31 2 v (h0 :: ms).flatten.length ((h0 :: ms).flatten.flatMap ndc) es → Q v (es ++ S)) :
    CallWp Try.prog B 30 #[.agg #[hv, mv, sv]] Q S := by
  obtain ⟨a1, c1, a2, c2, a3, c3, rfl, rfl, rfl⟩ := h.forms
  obtain ⟨hr, hl⟩ : Reads S 2 (.slice a1 h0.length c1) h0.length (h0.flatMap ndc) ∧ h0.length ≤ lim := by obtain ⟨_, _, _, h3, _⟩ := h; exact h3.2 0 _ _ rfl rfl
  have hl0 := flat_len (ls := h0 :: ms) List.mem_cons_self
  refine subRet ?_
  refine CallWp.enter (args := [_]) Try.func30 rfl Try.ntmps30 rfl ?_
  refine Wp.seq (Wp.region ?_)
  refine OWp.step rfl (Step.box rfl rfl rfl ?_); intro L1 hBL1 hLL1
  refine OWp.evs 1 rfl ?_
  refine OWp.nil ?_
  refine Wp.seq (Wp.region ?_)
  refine OWp.step rfl (Step.buildSlice rfl rfl rfl ?_); intro L5 hBL5 hLL5
  refine OWp.evs 1 rfl ?_
  refine OWp.load (.tail _ (.head _)) rfl rfl rfl rfl rfl ?_
  refine OWp.step rfl (Step.appendAt [] rfl rfl rfl rfl rfl rfl (by decide) rfl rfl (Own.row (k := 0) hBL5 rfl (Nat.zero_le _)) (hr.mono fun x hx => List.mem_append_right _ (.tail _ (.tail _ hx))) (ndcs_cells _) (by show (_ + _) * 24 ≤ _; omega) (by unfold maxLen; omega) ?_)
  intro v1 e1 ho1 _
  refine OWp.evs 1 rfl ?_
  refine OWp.nil ?_
  refine Wp.seq ?_
  refine Wp.seq (Wp.region ?_)
  refine OWp.evs 1 rfl ?_
  refine OWp.nil ?_
  refine Wp.block ?_
  refine Wp.loopS (α := Nat × Value × Ents) (fun z => ms.length - z.1) (fun z => [(1, .pointer (some ⟨L1, 0, none⟩)), (3, z.2.1), (4, .int .i64 (z.1 : Int))]) (fun z => z.2.2 ++ ((L1, cel [.slice a1 h0.length c1, .slice a2 ms.length c2, .slice a3 ss.length c3] 26) :: S)) (fun z => z.1 ≤ ms.length ∧ Lg.Own B 31 2 z.2.1 (h0 :: ms.take z.1).flatten.length ((h0 :: ms.take z.1).flatten.flatMap ndc) z.2.2) (0, v1, e1) ?_ (.refl _) ⟨Nat.zero_le _, by simp only [List.take_zero, List.flatten_cons, List.flatten_nil, List.append_nil]; rw [← Nat.zero_add h0.length]; exact ho1⟩ ?_
  · exact .cons rfl (.cons rfl (.cons rfl (.nil _)))
  rintro ⟨i, v, es⟩ ⟨hi, ho⟩
  simp only at hi ho ⊢
  obtain ⟨vs, hm, hvs, hn, hvl, _⟩ := h
  have hn1 := hn.1
  simp only [List.length_cons, Nat.add_right_cancel_iff] at hn1
  rw [hn1] at hm hvl
  unfold lim at hvl
  refine Wp.seq ?_
  refine Wp.seq (Wp.region ?_)
  refine OWp.evs 2 rfl ?_
  refine OWp.load (List.mem_append_right _ (.head _)) rfl rfl rfl rfl rfl ?_
  refine OWp.evs 2 rfl ?_
  refine OWp.nil ?_
  refine Wp.cond rfl (fun h1 => ?_) (fun h1 => ?_)
  · have h1 := of_decide_eq_true h1
    have hi1 : i < ms.length := by omega
    obtain ⟨b2, o2, c2', l2, t2, f2, hv2, hm2, _, hg2⟩ := hm.get1 (by omega)
    cases hv2
    obtain ⟨hnr, hnl⟩ := hn.2 (i + 1) vs[i] ms[i] (by simp) (by simp)
    obtain ⟨na, nc, hvf⟩ := hnr.form
    have hgi : l2[o2 + i * 1]? = some vs[i] := by rw [hg2 i (by omega)]; simp
    have hsucc : (h0 :: ms.take (i + 1)).flatten = (h0 :: ms.take i).flatten ++ ms[i] := by rw [List.take_succ_eq_append_getElem hi1, ← List.cons_append, List.flatten_append, List.flatten_singleton]
    have hlt := flat_take (h0 :: ms) (i + 1 + 1)
    rw [List.take_succ_cons, hsucc, List.length_append] at hlt
    refine Wp.skip ?_
    refine Wp.seq ?_
    refine Wp.block ?_
    refine Wp.region ?_
    refine OWp.evs 2 rfl ?_
    refine OWp.load (List.mem_append_right _ (.head _)) rfl rfl rfl rfl rfl ?_
    refine OWp.evs 1 rfl ?_
    refine OWp.g rfl rfl (Gives.indexAddrSlice (i) rfl rfl rfl rfl rfl rfl (by omega)) ?_
    refine OWp.load (List.mem_append_right _ (.tail _ hm2)) rfl rfl rfl rfl hgi ?_
    refine OWp.step rfl (Step.appendAt [] rfl rfl rfl rfl rfl rfl (by decide) rfl rfl ho (hnr.mono fun x hx => List.mem_append_right _ (List.mem_append_right _ (.tail _ hx))) (ndcs_cells _) (by show (_ + _) * 24 ≤ _; omega) (by unfold maxLen; omega) ?_)
    intro v3 e3 ho3 _
    refine OWp.evs 1 rfl ?_
    refine OWp.nil ?_
    refine Wp.region ?_
    refine OWp.evs 3 rfl ?_
    refine OWp.nil ?_
    refine ⟨(i + 1, v3, e3), by simp only; omega, ⟨by simp only; omega, ?_⟩, .cons rfl (.cons rfl (.cons' rfl (int_eq (by simp only; rw [i64_id] <;> omega)) (.nil _))), .refl _⟩
    simp only
    rw [hsucc, List.length_append, List.flatMap_append]
    exact ho3
  have h1 := of_decide_eq_false h1
  obtain rfl : i = ms.length := by omega
  rw [List.take_length] at ho
  refine Wp.exit ?_
  refine Wp.seq (Wp.region ?_)
  refine OWp.evs 2 rfl ?_
  refine OWp.nil ?_
  refine Wp.ret ⟨trivial, _, ⟨_, _, rfl, rfl, rfl⟩, ?_⟩
  exact ⟨_, _, .refl _, (List.Sublist.refl _).append (List.sublist_cons_self _ _), H _ _ ho⟩
end
end Go.Proofs.C

namespace Go.Proofs.C
open Go.Lg
set_option maxRecDepth 100000

theorem lay_snd : ∀ (ls : List (List Nd)) (k : Nat), (lay ls k).map (·.2) = ls.flatten
  | [], _ => rfl
  | l :: ls, k => by
    rw [lay_cons, List.map_append, lay_snd ls (k + 1), List.map_map, List.flatten_cons]
    congr 1
    exact List.map_id _
theorem nodesOk_iff {ls : List (List Nd)} : NodesOk ls ↔ (∀ x ∈ ls.flatten, NdOk x) ∧ (ls.flatten.map (·.1)).Nodup := by
  unfold NodesOk nums
  rw [← lay_snd ls 0, List.map_map]
  constructor
  · rintro ⟨h1, h2⟩
    refine ⟨fun x hx => ?_, h2⟩
    obtain ⟨y, hy, rfl⟩ := List.mem_map.1 hx
    exact h1 y hy
  · rintro ⟨h1, h2⟩
    exact ⟨fun x hx => h1 _ (List.mem_map.2 ⟨x, hx, rfl⟩), h2⟩
theorem nodup_no {α : Type} {l : List (Int × α)} {i j : Nat} (hj : j < i) (hi : i < l.length) (h : l[j].1 = l[i].1) : ¬ (l.map (·.1)).Nodup := by
  intro hn
  have := List.pairwise_iff_getElem.1 hn j i (by simp; omega) (by simpa using hi) hj
  simp at this
  exact this h
theorem nodup_add {α : Type} {l : List (Int × α)} {i : Nat} (hi : i < l.length) (hn : ((l.take i).map (·.1)).Nodup) (h : ∀ x ∈ l.take i, x.1 ≠ l[i].1) : ((l.take (i + 1)).map (·.1)).Nodup := by
  rw [List.take_succ_eq_append_getElem hi, List.map_append, List.nodup_append]
  refine ⟨hn, by simp, fun a ha b hb => ?_⟩
  obtain ⟨y, hy, rfl⟩ := List.mem_map.1 ha
  rw [List.mem_singleton.1 hb]
  exact h y hy
theorem take_add {α : Type} {l : List α} {p : α → Prop} {i : Nat} (hi : i < l.length) (h : ∀ x ∈ l.take i, p x) (h2 : p l[i]) : ∀ x ∈ l.take (i + 1), p x := by
  intro x hx
  rw [List.take_succ_eq_append_getElem hi] at hx
  rcases List.mem_append.1 hx with hx | hx
  · exact h x hx
  · rw [List.mem_singleton.1 hx]; exact h2

section
variable {B : Nat} {S R : Ents} {Q : Value → Ents → Prop} {hv mv sv : Value} {h0 : List Nd} {ms : List (List Nd)} {ss : List St}
set_option maxHeartbeats 4000000 in
theorem rtownC (h : TIn S hv mv sv h0 ms ss) (ht : (h0 :: ms).flatten.length ≤ 1099511627776) (H : ∀ e : Int, (e = 0 ∧ TownOk (h0 :: ms) ss ∨ e = 250 ∧ ¬ TownOk (h0 :: ms) ss) → Q (.int .i64 e) S) :
    CallWp Try.prog B 13 #[.agg #[hv, mv, sv]] Q S := by
  obtain ⟨a1, c1, a2, c2, a3, c3, rfl, rfl, rfl⟩ := h.forms
  obtain ⟨vs, hm, hvs, hn, hvl, hsr, hsl⟩ := id h
  have hn1 := hn.1
  simp only [List.length_cons, Nat.add_right_cancel_iff] at hn1
  rw [hn1] at hm hvl
  unfold lim at hvl hsl
  refine CallWp.dropRet ?_
  refine CallWp.enter (args := [_]) Try.func13 rfl Try.ntmps13 rfl ?_
  refine Wp.seq (Wp.region ?_)
  refine OWp.step rfl (Step.box rfl rfl rfl ?_); intro L1 hBL1 hLL1
  refine OWp.evs 1 rfl ?_
  refine OWp.nil ?_
  refine Wp.seq ?_
  refine Wp.seq (Wp.region ?_)
  refine OWp.evs 1 rfl ?_
  refine OWp.load (.head _) rfl rfl rfl rfl rfl ?_
  refine OWp.evs 3 rfl ?_
  refine OWp.part 14 rfl (fun g1 => ?_) (fun g1 => ?_)
  · have g1 := of_decide_eq_true g1
    refine OWp.evs 11 rfl ?_
    refine OWp.nil ?_
    refine Wp.cond rfl (fun _ => ?_) (fun c => nomatch c)
    refine Wp.seq (Wp.region ?_)
    refine OWp.evs 1 rfl ?_
    refine OWp.nil ?_
    refine Wp.ret ⟨trivial, _, ⟨_, _, rfl, rfl, rfl⟩, ?_⟩
    exact ⟨S, (by repeat (first | exact List.Sublist.refl _ | exact List.sublist_append_right _ _ | apply List.Sublist.cons)), H 250 (.inr ⟨rfl, fun hok => hok.1.2.2 h0 List.mem_cons_self (List.eq_nil_of_length_eq_zero (by omega))⟩)⟩
  have g1 := of_decide_eq_false g1
  refine OWp.evs 1 rfl ?_
  refine OWp.load (.head _) rfl rfl rfl rfl rfl ?_
  refine OWp.evs 4 rfl ?_
  refine OWp.part 20 rfl (fun g2 => ?_) (fun g2 => ?_)
  · have g2 := of_decide_eq_true g2
    refine OWp.evs 5 rfl ?_
    refine OWp.nil ?_
    refine Wp.cond rfl (fun _ => ?_) (fun c => nomatch c)
    refine Wp.seq (Wp.region ?_)
    refine OWp.evs 1 rfl ?_
    refine OWp.nil ?_
    refine Wp.ret ⟨trivial, _, ⟨_, _, rfl, rfl, rfl⟩, ?_⟩
    exact ⟨S, (by repeat (first | exact List.Sublist.refl _ | exact List.sublist_append_right _ _ | apply List.Sublist.cons)), H 250 (.inr ⟨rfl, fun hok => by have := hok.1.1; simp only [List.length_cons] at this; omega⟩)⟩
  have g2 := of_decide_eq_false g2
  refine OWp.evs 1 rfl ?_
  refine OWp.load (.head _) rfl rfl rfl rfl rfl ?_
  refine OWp.evs 3 rfl ?_
  refine OWp.nil ?_
  refine Wp.cond rfl (fun g3 => ?_) (fun g3 => ?_)
  · have g3 := of_decide_eq_true g3
    refine Wp.seq (Wp.region ?_)
    refine OWp.evs 1 rfl ?_
    refine OWp.nil ?_
    refine Wp.ret ⟨trivial, _, ⟨_, _, rfl, rfl, rfl⟩, ?_⟩
    exact ⟨S, (by repeat (first | exact List.Sublist.refl _ | exact List.sublist_append_right _ _ | apply List.Sublist.cons)), H 250 (.inr ⟨rfl, fun hok => by have := hok.1.2.1; simp only [List.length_cons] at this; omega⟩)⟩
  have g3 := of_decide_eq_false g3
  refine Wp.skip ?_
  refine Wp.seq ?_
  refine Wp.seq (Wp.region ?_)
  refine OWp.evs 1 rfl ?_
  refine OWp.nil ?_
  refine Wp.block ?_
  refine Wp.loopS (α := Nat) (fun i => ms.length - i) (fun i => [(1, .pointer (some ⟨L1, 0, none⟩)), (3, .int .i64 (i : Int))]) (fun _ => (L1, cel [.slice a1 h0.length c1, .slice a2 ms.length c2, .slice a3 ss.length c3] 26) :: S) (fun i => i ≤ ms.length ∧ ∀ l ∈ ms.take i, l ≠ []) 0 ?_ (.refl _) ⟨Nat.zero_le _, by simp⟩ ?_
  · exact .cons rfl (.cons rfl (.nil _))
  rintro i ⟨hi, hb⟩
  refine Wp.seq ?_
  refine Wp.seq (Wp.region ?_)
  refine OWp.evs 2 rfl ?_
  refine OWp.load (.head _) rfl rfl rfl rfl rfl ?_
  refine OWp.evs 2 rfl ?_
  refine OWp.nil ?_
  refine Wp.cond rfl (fun h1 => ?_) (fun h1 => ?_)
  · have h1 := of_decide_eq_true h1
    have hi1 : i < ms.length := by omega
    obtain ⟨b2, o2, c2', l2, t2, f2, hv2, hm2, _, hg2⟩ := hm.get1 (by omega)
    cases hv2
    obtain ⟨hnr, hnl⟩ := hn.2 (i + 1) vs[i] ms[i] (by simp) (by simp)
    obtain ⟨na, nc, hvf⟩ := hnr.form
    have hgi : l2[o2 + i * 1]? = some (.slice na ms[i].length nc) := by rw [hg2 i (by omega), ← hvf]; simp
    refine Wp.skip ?_
    refine Wp.seq ?_
    refine Wp.block ?_
    refine Wp.seq (Wp.region ?_)
    refine OWp.evs 1 rfl ?_
    refine OWp.load (.head _) rfl rfl rfl rfl rfl ?_
    refine OWp.evs 1 rfl ?_
    refine OWp.g rfl rfl (Gives.indexAddrSlice (i) rfl rfl rfl rfl rfl rfl (by omega)) ?_
    refine OWp.load (.tail _ hm2) rfl rfl rfl rfl hgi ?_
    refine OWp.evs 2 rfl ?_
    refine OWp.nil ?_
    refine Wp.cond rfl (fun h2 => ?_) (fun h2 => ?_)
    · have h2 := of_decide_eq_true h2
      refine Wp.seq (Wp.region ?_)
      refine OWp.evs 1 rfl ?_
      refine OWp.nil ?_
      refine Wp.ret ⟨trivial, _, ⟨_, _, rfl, rfl, rfl⟩, ?_⟩
      exact ⟨S, (by repeat (first | exact List.Sublist.refl _ | exact List.sublist_append_right _ _ | apply List.Sublist.cons)), H 250 (.inr ⟨rfl, fun hok => hok.1.2.2 ms[i] (List.mem_cons_of_mem _ (List.getElem_mem hi1)) (List.eq_nil_of_length_eq_zero (by omega))⟩)⟩
    have h2 := of_decide_eq_false h2
    refine Wp.skip ?_
    refine Wp.region ?_
    refine OWp.evs 3 rfl ?_
    refine OWp.nil ?_
    exact ⟨i + 1, by omega, ⟨by omega, take_add hi1 hb (fun e => by rw [e] at h2; simp at h2)⟩, .cons rfl (.cons' rfl (int_eq (by rw [i64_id] <;> omega)) (.nil _)), .refl _⟩
  have h1 := of_decide_eq_false h1
  obtain rfl : i = ms.length := by omega
  rw [List.take_length] at hb
  have hshape : ShapeOk (h0 :: ms) := by
    refine ⟨by simp only [List.length_cons]; omega, by simp only [List.length_cons]; omega, fun l hl e => ?_⟩
    rcases List.mem_cons.1 hl with rfl | hl
    · subst e; simp at g1
    · exact hb l hl e
  refine Wp.exit ?_
  refine Wp.seq (Wp.region ?_)
  refine OWp.load (.head _) rfl rfl rfl rfl rfl ?_
  refine OWp.step rfl (Step.call rfl rfl rfl rfl rfl rfl ((rallC (h.mono fun _ h => .tail _ h) ht ?_)))
  obtain ⟨l, hl⟩ : ∃ l, l = (h0 :: ms).flatten := ⟨_, rfl⟩
  rw [← hl] at ht ⊢
  intro v es ho
  have hr := ho.reads
  obtain ⟨va, vc, rfl⟩ := hr.form
  have hno : ∀ {P : Prop}, ¬ ((∀ x ∈ l, NdOk x) ∧ (l.map (·.1)).Nodup) → TownOk (h0 :: ms) ss → P := fun hh hok => absurd (nodesOk_iff.1 hok.2.1) (by rw [← hl]; exact hh)
  refine OWp.evs 1 rfl ?_
  refine OWp.nil ?_
  refine Wp.seq ?_
  refine Wp.seq (Wp.region ?_)
  refine OWp.evs 1 rfl ?_
  refine OWp.nil ?_
  refine Wp.block ?_
  refine Wp.loopS (α := Nat) (fun i => l.length - i) (fun i => [(1, .pointer (some ⟨L1, 0, none⟩)), (4, .slice va l.length vc), (5, .int .i64 (i : Int))]) (fun _ => es ++ ((L1, cel [.slice a1 h0.length c1, .slice a2 ms.length c2, .slice a3 ss.length c3] 26) :: S)) (fun i => i ≤ l.length ∧ (∀ x ∈ l.take i, NdOk x) ∧ ((l.take i).map (·.1)).Nodup) 0 ?_ (.refl _) ⟨Nat.zero_le _, by simp, by simp⟩ ?_
  · exact .cons rfl (.cons rfl (.cons rfl (.nil _)))
  rintro i ⟨hi, hok1, hnd1⟩
  refine Wp.seq ?_
  refine Wp.seq (Wp.region ?_)
  refine OWp.evs 4 rfl ?_
  refine OWp.nil ?_
  refine Wp.cond rfl (fun h1 => ?_) (fun h1 => ?_)
  · have h1 := of_decide_eq_true h1
    have hi1 : i < l.length := by omega
    obtain ⟨b3, o3, c3', L, e, fz, hv1, hm1, hat⟩ := ncell_at hr (by omega)
    cases hv1
    refine Wp.skip ?_
    refine Wp.seq ?_
    refine Wp.block ?_
    refine Wp.seq ?_
    refine Wp.seq (Wp.region ?_)
    refine OWp.evs 2 rfl ?_
    refine OWp.g rfl rfl (Gives.indexAddrSlice (i) rfl rfl rfl rfl rfl rfl (by omega)) ?_
    refine OWp.evs 1 rfl ?_
    refine OWp.load (List.mem_append_left _ hm1) rfl rfl rfl rfl (hat i hi1).1 ?_
    refine OWp.evs 2 rfl ?_
    refine OWp.part 54 rfl (fun h2 => ?_) (fun h2 => ?_)
    · have h2 := of_decide_eq_true h2
      refine OWp.evs 16 rfl ?_
      refine OWp.nil ?_
      refine Wp.cond rfl (fun _ => ?_) (fun c => nomatch c)
      refine Wp.seq (Wp.region ?_)
      refine OWp.evs 1 rfl ?_
      refine OWp.nil ?_
      refine Wp.ret ⟨trivial, _, ⟨_, _, rfl, rfl, rfl⟩, ?_⟩
      exact ⟨S, (List.sublist_cons_self _ _).trans (List.sublist_append_right _ _), H 250 (.inr ⟨rfl, hno fun hh => by have := (hh.1 _ (List.getElem_mem hi1)).1; omega⟩)⟩
    have h2 := of_decide_eq_false h2
    refine OWp.evs 2 rfl ?_
    refine OWp.g rfl rfl (Gives.indexAddrSlice (i) rfl rfl rfl rfl rfl rfl (by omega)) ?_
    refine OWp.evs 1 rfl ?_
    refine OWp.load (List.mem_append_left _ hm1) rfl rfl rfl rfl (hat i hi1).1 ?_
    refine OWp.evs 3 rfl ?_
    refine OWp.part 62 rfl (fun h3 => ?_) (fun h3 => ?_)
    · have h3 := of_decide_eq_true h3
      refine OWp.evs 8 rfl ?_
      refine OWp.nil ?_
      refine Wp.cond rfl (fun _ => ?_) (fun c => nomatch c)
      refine Wp.seq (Wp.region ?_)
      refine OWp.evs 1 rfl ?_
      refine OWp.nil ?_
      refine Wp.ret ⟨trivial, _, ⟨_, _, rfl, rfl, rfl⟩, ?_⟩
      exact ⟨S, (List.sublist_cons_self _ _).trans (List.sublist_append_right _ _), H 250 (.inr ⟨rfl, hno fun hh => by have := (hh.1 _ (List.getElem_mem hi1)).2.1; omega⟩)⟩
    have h3 := of_decide_eq_false h3
    refine OWp.evs 2 rfl ?_
    refine OWp.g rfl rfl (Gives.indexAddrSlice (i) rfl rfl rfl rfl rfl rfl (by omega)) ?_
    refine OWp.evs 1 rfl ?_
    refine OWp.load (List.mem_append_left _ hm1) rfl rfl rfl rfl (hat i hi1).2 ?_
    refine OWp.evs 3 rfl ?_
    refine OWp.nil ?_
    refine Wp.cond rfl (fun h4 => ?_) (fun h4 => ?_)
    · have h4 := ndT h4
      refine Wp.seq (Wp.region ?_)
      refine OWp.evs 1 rfl ?_
      refine OWp.nil ?_
      refine Wp.ret ⟨trivial, _, ⟨_, _, rfl, rfl, rfl⟩, ?_⟩
      exact ⟨S, (List.sublist_cons_self _ _).trans (List.sublist_append_right _ _), H 250 (.inr ⟨rfl, hno fun hh => by have h9 := (hh.1 _ (List.getElem_mem hi1)).2.2; first | omega | exact h4 (by rw [h9])⟩)⟩
    have h4 := ndF h4
    refine Wp.skip ?_
    refine Wp.seq (Wp.region ?_)
    refine OWp.evs 1 rfl ?_
    refine OWp.nil ?_
    refine Wp.block ?_
    refine Wp.loopS (α := Nat) (fun j => i - j) (fun j => [(1, .pointer (some ⟨L1, 0, none⟩)), (4, .slice (some ⟨b3, o3, none⟩) l.length vc), (5, .int .i64 (i : Int)), (6, .int .i64 (j : Int))]) (fun _ => es ++ ((L1, cel [.slice a1 h0.length c1, .slice a2 ms.length c2, .slice a3 ss.length c3] 26) :: S)) (fun j => j ≤ i ∧ ∀ x ∈ l.take j, x.1 ≠ l[i].1) 0 ?_ (.refl _) ⟨Nat.zero_le _, by simp⟩ ?_
    · exact .cons rfl (.cons rfl (.cons rfl (.cons rfl (.nil _))))
    rintro j ⟨hj, hbj⟩
    refine Wp.seq ?_
    refine Wp.seq (Wp.region ?_)
    refine OWp.evs 3 rfl ?_
    refine OWp.nil ?_
    refine Wp.cond rfl (fun h5 => ?_) (fun h5 => ?_)
    · have h5 := of_decide_eq_true h5
      have hj1 : j < i := by omega
      have hj2 : j < l.length := by omega
      refine Wp.skip ?_
      refine Wp.seq ?_
      refine Wp.block ?_
      refine Wp.seq (Wp.regionDraw [0, 1, 2, 3, 4, 5, 6, 7, 8, 9, 10] [] rfl (by decide +kernel) ?_)
      refine DWp.evs 2 rfl ?_
      refine DWp.g rfl rfl rfl rfl (Gives.indexAddrSlice (j) rfl rfl rfl rfl rfl rfl (by omega)) ?_
      refine DWp.evs 1 rfl ?_
      refine DWp.load (List.mem_append_left _ hm1) rfl rfl rfl rfl rfl rfl (hat j hj2).1 ?_
      refine DWp.evs 2 rfl ?_
      refine DWp.g rfl rfl rfl rfl (Gives.indexAddrSlice (i) rfl rfl rfl rfl rfl rfl (by omega)) ?_
      refine DWp.evs 1 rfl ?_
      refine DWp.load (List.mem_append_left _ hm1) rfl rfl rfl rfl rfl rfl (hat i hi1).1 ?_
      refine DWp.evs 1 rfl ?_
      refine DWp.nil ?_
      refine Wp.cond rfl (fun h6 => ?_) (fun h6 => ?_)
      · have h6 := of_decide_eq_true h6
        refine Wp.seq (Wp.region ?_)
        refine OWp.evs 1 rfl ?_
        refine OWp.nil ?_
        refine Wp.ret ⟨trivial, _, ⟨_, _, rfl, rfl, rfl⟩, ?_⟩
        exact ⟨S, (List.sublist_cons_self _ _).trans (List.sublist_append_right _ _), H 250 (.inr ⟨rfl, hno fun hh => nodup_no hj1 hi1 h6 hh.2⟩)⟩
      have h6 := of_decide_eq_false h6
      refine Wp.skip ?_
      refine Wp.region ?_
      refine OWp.evs 3 rfl ?_
      refine OWp.nil ?_
      exact ⟨j + 1, by omega, ⟨by omega, take_add hj2 hbj h6⟩, .cons rfl (.cons rfl (.cons rfl (.cons' rfl (int_eq (by rw [i64_id] <;> omega)) (.nil _)))), .refl _⟩
    have h5 := of_decide_eq_false h5
    obtain rfl : j = i := by omega
    refine Wp.exit ?_
    refine Wp.region ?_
    refine OWp.evs 3 rfl ?_
    refine OWp.nil ?_
    exact ⟨j + 1, by omega, ⟨by omega, take_add hi1 hok1 ⟨by omega, by omega, by omega⟩, nodup_add hi1 hnd1 hbj⟩, .cons rfl (.cons rfl (.cons' rfl (int_eq (by rw [i64_id] <;> omega)) (.nil _))), .refl _⟩
  have h1 := of_decide_eq_false h1
  obtain rfl : i = l.length := by omega
  rw [List.take_length] at hok1 hnd1
  have hnodes : NodesOk (h0 :: ms) := nodesOk_iff.2 (by rw [← hl]; exact ⟨hok1, hnd1⟩)
  refine Wp.exit ?_
  refine Wp.seq ?_
  refine Wp.seq (Wp.region ?_)
  refine OWp.evs 1 rfl ?_
  refine OWp.nil ?_
  refine Wp.block ?_
  refine Wp.loopS (α := Nat) (fun i => ss.length - i) (fun i => [(1, .pointer (some ⟨L1, 0, none⟩)), (7, .int .i64 (i : Int))]) (fun _ => es ++ ((L1, cel [.slice a1 h0.length c1, .slice a2 ms.length c2, .slice a3 ss.length c3] 26) :: S)) (fun i => i ≤ ss.length ∧ (∀ x ∈ ss.take i, SeatOk (h0 :: ms) x) ∧ ((ss.take i).map (·.1)).Nodup) 0 ?_ (.refl _) ⟨Nat.zero_le _, by simp, by simp⟩ ?_
  · exact .cons rfl (.cons rfl (.nil _))
  rintro i ⟨hi, hok2, hnd2⟩
  refine Wp.seq ?_
  refine Wp.seq (Wp.region ?_)
  refine OWp.evs 2 rfl ?_
  refine OWp.load (List.mem_append_right _ (.head _)) rfl rfl rfl rfl rfl ?_
  refine OWp.evs 2 rfl ?_
  refine OWp.nil ?_
  refine Wp.cond rfl (fun h1 => ?_) (fun h1 => ?_)
  · have h1 := of_decide_eq_true h1
    have hi1 : i < ss.length := by omega
    obtain ⟨b4, o4, c4', L, e, fz, hv1, hm1, hat⟩ := scell_at hsr (by omega)
    obtain ⟨b5, o5, c5', L', e', fz', hv2, hm5, hat5⟩ := st_at hsr (by omega)
    cases hv1
    cases hv2
    refine Wp.skip ?_
    refine Wp.seq ?_
    refine Wp.block ?_
    refine Wp.seq (Wp.region ?_)
    refine OWp.evs 1 rfl ?_
    refine OWp.load (List.mem_append_right _ (.head _)) rfl rfl rfl rfl rfl ?_
    refine OWp.evs 1 rfl ?_
    refine OWp.g rfl rfl (Gives.indexAddrSlice (i) rfl rfl rfl rfl rfl rfl (by omega)) ?_
    refine OWp.load (List.mem_append_right _ (.tail _ hm5)) rfl rfl rfl rfl (hat5 i hi1) ?_
    refine OWp.step rfl (Step.alloc rfl rfl rfl ?_); intro L8 hBL8 hLL8
    refine OWp.step rfl (Step.storeAs 0 (stc ss[i]) rfl rfl rfl rfl rfl hBL8 rfl (Unfz.zero _) rfl (Nat.le_of_ble_eq_true rfl) rfl rfl ?_)
    refine OWp.nil ?_
    refine Wp.seq ?_
    refine Wp.seq (Wp.region ?_)
    refine OWp.evs 1 rfl ?_
    refine OWp.load (.head _) rfl rfl rfl rfl rfl ?_
    refine OWp.evs 2 rfl ?_
    refine OWp.part 102 rfl (fun h2 => ?_) (fun h2 => ?_)
    · have h2 := of_decide_eq_true h2
      refine OWp.evs 11 rfl ?_
      refine OWp.nil ?_
      refine Wp.cond rfl (fun _ => ?_) (fun c => nomatch c)
      refine Wp.seq (Wp.region ?_)
      refine OWp.evs 1 rfl ?_
      refine OWp.nil ?_
      refine Wp.ret ⟨trivial, _, ⟨_, _, rfl, rfl, rfl⟩, ?_⟩
      exact ⟨S, .cons _ ((List.sublist_cons_self _ _).trans (List.sublist_append_right _ _)), H 250 (.inr ⟨rfl, fun hh => by have := (hh.2.2.1 _ (List.getElem_mem hi1)).2.1; omega⟩)⟩
    have h2 := of_decide_eq_false h2
    refine OWp.evs 1 rfl ?_
    refine OWp.load (.head _) rfl rfl rfl rfl rfl ?_
    refine OWp.evs 3 rfl ?_
    refine OWp.part 107 rfl (fun h3 => ?_) (fun h3 => ?_)
    · have h3 := of_decide_eq_true h3
      refine OWp.evs 6 rfl ?_
      refine OWp.nil ?_
      refine Wp.cond rfl (fun _ => ?_) (fun c => nomatch c)
      refine Wp.seq (Wp.region ?_)
      refine OWp.evs 1 rfl ?_
      refine OWp.nil ?_
      refine Wp.ret ⟨trivial, _, ⟨_, _, rfl, rfl, rfl⟩, ?_⟩
      exact ⟨S, .cons _ ((List.sublist_cons_self _ _).trans (List.sublist_append_right _ _)), H 250 (.inr ⟨rfl, fun hh => by have := (hh.2.2.1 _ (List.getElem_mem hi1)).2.2; omega⟩)⟩
    have h3 := of_decide_eq_false h3
    refine OWp.load (.tail _ (List.mem_append_right _ (.head _))) rfl rfl rfl rfl rfl ?_
    refine OWp.evs 1 rfl ?_
    refine OWp.load (.head _) rfl rfl rfl rfl rfl ?_
    refine OWp.step rfl (Step.call rfl rfl rfl rfl rfl rfl ((rhostC (h.mono fun _ h => .tail _ (List.mem_append_right _ (.tail _ h))) ?_)))
    intro z hz
    have hzi := host_iff (ms := ms) hz
    refine OWp.evs 2 rfl ?_
    refine OWp.nil ?_
    refine Wp.cond rfl (fun h4 => ?_) (fun h4 => ?_)
    · have h4 := of_decide_eq_true h4
      refine Wp.seq (Wp.region ?_)
      refine OWp.evs 1 rfl ?_
      refine OWp.nil ?_
      refine Wp.ret ⟨trivial, _, ⟨_, _, rfl, rfl, rfl⟩, ?_⟩
      exact ⟨S, .cons _ ((List.sublist_cons_self _ _).trans (List.sublist_append_right _ _)), H 250 (.inr ⟨rfl, fun hh => by have := hzi.1 (hh.2.2.1 _ (List.getElem_mem hi1)).1; omega⟩)⟩
    have h4 := of_decide_eq_false h4
    refine Wp.skip ?_
    refine Wp.seq (Wp.region ?_)
    refine OWp.evs 1 rfl ?_
    refine OWp.nil ?_
    refine Wp.block ?_
    refine Wp.loopS (α := Nat) (fun j => i - j) (fun j => [(1, .pointer (some ⟨L1, 0, none⟩)), (7, .int .i64 (i : Int)), (8, .pointer (some ⟨L8, 0, none⟩)), (9, .int .i64 (j : Int))]) (fun _ => (L8, cel (stc ss[i]) 71) :: (es ++ ((L1, cel [.slice a1 h0.length c1, .slice a2 ms.length c2, .slice (some ⟨b4, o4, none⟩) ss.length c3] 26) :: S))) (fun j => j ≤ i ∧ ∀ x ∈ ss.take j, x.1 ≠ ss[i].1) 0 ?_ (.refl _) ⟨Nat.zero_le _, by simp⟩ ?_
    · exact .cons rfl (.cons rfl (.cons rfl (.cons rfl (.nil _))))
    rintro j ⟨hj, hbj⟩
    refine Wp.seq ?_
    refine Wp.seq (Wp.region ?_)
    refine OWp.evs 3 rfl ?_
    refine OWp.nil ?_
    refine Wp.cond rfl (fun h5 => ?_) (fun h5 => ?_)
    · have h5 := of_decide_eq_true h5
      have hj1 : j < i := by omega
      have hj2 : j < ss.length := by omega
      refine Wp.skip ?_
      refine Wp.seq ?_
      refine Wp.block ?_
      refine Wp.seq (Wp.regionDraw [0, 1, 2, 3, 4, 5, 6, 7, 8] [] rfl (by decide +kernel) ?_)
      refine DWp.evs 1 rfl ?_
      refine DWp.load (.tail _ (List.mem_append_right _ (.head _))) rfl rfl rfl rfl rfl rfl rfl ?_
      refine DWp.evs 1 rfl ?_
      refine DWp.g rfl rfl rfl rfl (Gives.indexAddrSlice (j) rfl rfl rfl rfl rfl rfl (by omega)) ?_
      refine DWp.evs 1 rfl ?_
      refine DWp.load (.tail _ (List.mem_append_right _ (.tail _ hm1))) rfl rfl rfl rfl rfl rfl (hat j hj2).1 ?_
      refine DWp.evs 1 rfl ?_
      refine DWp.load (.head _) rfl rfl rfl rfl rfl rfl rfl ?_
      refine DWp.evs 1 rfl ?_
      refine DWp.nil ?_
      refine Wp.cond rfl (fun h6 => ?_) (fun h6 => ?_)
      · have h6 := of_decide_eq_true h6
        refine Wp.seq (Wp.region ?_)
        refine OWp.evs 1 rfl ?_
        refine OWp.nil ?_
        refine Wp.ret ⟨trivial, _, ⟨_, _, rfl, rfl, rfl⟩, ?_⟩
        exact ⟨S, .cons _ ((List.sublist_cons_self _ _).trans (List.sublist_append_right _ _)), H 250 (.inr ⟨rfl, fun hh => nodup_no hj1 hi1 h6 hh.2.2.2⟩)⟩
      have h6 := of_decide_eq_false h6
      refine Wp.skip ?_
      refine Wp.region ?_
      refine OWp.evs 3 rfl ?_
      refine OWp.nil ?_
      exact ⟨j + 1, by omega, ⟨by omega, take_add hj2 hbj h6⟩, .cons rfl (.cons rfl (.cons rfl (.cons' rfl (int_eq (by rw [i64_id] <;> omega)) (.nil _)))), .refl _⟩
    have h5 := of_decide_eq_false h5
    obtain rfl : j = i := by omega
    refine Wp.exit ?_
    refine Wp.drop (List.sublist_cons_self _ _) ?_
    refine Wp.region ?_
    refine OWp.evs 3 rfl ?_
    refine OWp.nil ?_
    exact ⟨j + 1, by omega, ⟨by omega, take_add hi1 hok2 ⟨hzi.2 (by omega), by omega, by omega⟩, nodup_add hi1 hnd2 hbj⟩, .cons rfl (.cons' rfl (int_eq (by rw [i64_id] <;> omega)) (.nil _)), .refl _⟩
  have h1 := of_decide_eq_false h1
  obtain rfl : i = ss.length := by omega
  rw [List.take_length] at hok2 hnd2
  refine Wp.exit ?_
  refine Wp.seq (Wp.region ?_)
  refine OWp.evs 1 rfl ?_
  refine OWp.nil ?_
  refine Wp.ret ⟨trivial, _, ⟨_, _, rfl, rfl, rfl⟩, ?_⟩
  exact ⟨S, (List.sublist_cons_self _ _).trans (List.sublist_append_right _ _), H 0 (.inl ⟨rfl, hshape, hnodes, hok2, hnd2⟩)⟩
end
end Go.Proofs.C

namespace Go.Proofs.C
open Go.Lg
set_option maxRecDepth 100000

section
variable {B : Nat} {S R : Ents} {Q : Value → Ents → Prop} {hv mv sv : Value} {h0 : List Nd} {ms : List (List Nd)} {ss : List St}
theorem rwordsC (h : TIn S hv mv sv h0 ms ss) (ht : (h0 :: ms).flatten.length ≤ 1099511627776) (H : ∀ n, Words (h0 :: ms) ss n → Q (.int .i64 n) S) : CallWp Try.prog B 15 #[.agg #[hv, mv, sv]] Q S := by
  obtain ⟨a1, c1, a2, c2, a3, c3, rfl, rfl, rfl⟩ := h.forms
  refine CallWp.dropRet ?_
  refine CallWp.enter (args := [_]) Try.func15 rfl Try.ntmps15 rfl ?_
  refine Wp.seq (Wp.region ?_)
  refine OWp.step rfl (Step.box rfl rfl rfl ?_); intro L1 hBL1 hLL1
  refine OWp.evs 1 rfl ?_
  refine OWp.nil ?_
  refine Wp.seq ?_
  refine Wp.seq (Wp.region ?_)
  refine OWp.load (.head _) rfl rfl rfl rfl rfl ?_
  refine OWp.step rfl (Step.call rfl rfl rfl rfl rfl rfl ((rtownC (h.mono fun _ h => .tail _ h) ht ?_)))
  intro e he
  rcases he with ⟨rfl, hok⟩ | ⟨rfl, hok⟩
  · skip
    refine OWp.evs 1 rfl ?_
    refine OWp.nil ?_
    refine Wp.cond rfl (fun cc1 => absurd (ndT cc1) (by exact fun h => h rfl)) (fun cc1 => ?_)
    have cc1 := ndF cc1
    refine Wp.skip ?_
    refine Wp.seq (Wp.region ?_)
    refine OWp.evs 1 rfl ?_
    refine OWp.load (.head _) rfl rfl rfl rfl rfl ?_
    refine OWp.evs 4 rfl ?_
    refine OWp.nil ?_
    refine Wp.ret ⟨trivial, _, ⟨_, _, rfl, rfl, rfl⟩, ?_⟩
    have h8 := hok.1.2.1
    simp only [List.length_cons] at h8
    exact ⟨S, (by repeat (first | exact List.Sublist.refl _ | exact List.sublist_append_right _ _ | apply List.Sublist.cons)), H _ (.inl ⟨hok, by simp only [List.length_cons]; rw [i64_id (by rw [i64_id] <;> omega) (by rw [i64_id] <;> omega), i64_id (by omega) (by omega)]; simp⟩)⟩
  refine OWp.evs 1 rfl ?_
  refine OWp.nil ?_
  refine Wp.cond rfl (fun cc2 => ?_) (fun cc2 => absurd (ndF cc2) (by decide))
  have cc2 := ndT cc2
  refine Wp.seq (Wp.region ?_)
  refine OWp.evs 1 rfl ?_
  refine OWp.nil ?_
  refine Wp.ret ⟨trivial, _, ⟨_, _, rfl, rfl, rfl⟩, ?_⟩
  exact ⟨S, (by repeat (first | exact List.Sublist.refl _ | exact List.sublist_append_right _ _ | apply List.Sublist.cons)), H _ (.inr ⟨hok, rfl⟩)⟩
set_option maxHeartbeats 1000000 in
theorem rHostC {user : Int} (h : TIn S hv mv sv h0 ms ss) (ht : (h0 :: ms).flatten.length ≤ 1099511627776) (H : ∀ n e, HostOf (h0 :: ms) ss user n e → Q (.tuple #[.agg (ndc n).toArray, .int .i64 e]) S) : CallWp Try.prog B 9 #[.agg #[hv, mv, sv], .int .i64 user] Q S := by
  obtain ⟨a1, c1, a2, c2, a3, c3, rfl, rfl, rfl⟩ := h.forms
  have hsr : Reads S 2 (.slice a3 ss.length c3) ss.length (ss.flatMap stc) := by obtain ⟨_, _, _, _, _, h5, _⟩ := h; exact h5
  have hsl : ss.length ≤ lim := by obtain ⟨_, _, _, _, _, _, h6⟩ := h; exact h6
  have hhr : Reads S 2 (.slice a1 h0.length c1) h0.length (h0.flatMap ndc) := by obtain ⟨_, _, _, h3, _⟩ := h; exact (h3.2 0 _ _ rfl rfl).1
  unfold lim at hsl
  refine CallWp.dropRet ?_
  refine CallWp.enter (args := [_, _]) Try.func9 rfl Try.ntmps9 rfl ?_
  refine Wp.seq (Wp.region ?_)
  refine OWp.step rfl (Step.box rfl rfl rfl ?_); intro L2 hBL2 hLL2
  refine OWp.step rfl (Step.alloc rfl rfl rfl ?_); intro L4 hBL4 hLL4
  refine OWp.evs 1 rfl ?_
  refine OWp.nil ?_
  refine Wp.seq ?_
  refine Wp.seq (Wp.region ?_)
  refine OWp.load (.tail _ (.head _)) rfl rfl rfl rfl rfl ?_
  refine OWp.step rfl (Step.call rfl rfl rfl rfl rfl rfl ((rtownC (h.mono fun _ h => .tail _ (.tail _ h)) ht ?_)))
  intro e he
  rcases he with ⟨rfl, hok⟩ | ⟨rfl, hok⟩
  · skip
    refine OWp.evs 1 rfl ?_
    refine OWp.nil ?_
    refine Wp.seq (Wp.region ?_)
    refine OWp.evs 2 rfl ?_
    refine OWp.nil ?_
    refine Wp.cond rfl (fun cc1 => absurd (ndT cc1) (by exact fun h => h rfl)) (fun cc1 => ?_)
    have cc1 := ndF cc1
    refine Wp.skip ?_
    refine Wp.seq ?_
    refine Wp.seq (Wp.region ?_)
    refine OWp.evs 1 rfl ?_
    refine OWp.nil ?_
    refine Wp.block ?_
    refine Wp.loopS (α := Nat) (fun i => ss.length - i) (fun i => [(1, .int .i64 user), (2, .pointer (some ⟨L2, 0, none⟩)), (4, .pointer (some ⟨L4, 0, none⟩)), (7, .int .i64 (i : Int))]) (fun _ => (L4, cel (ndc (0, [])) 31) :: (L2, cel [.slice a1 h0.length c1, .slice a2 ms.length c2, .slice a3 ss.length c3] 26) :: S) (fun i => i ≤ ss.length ∧ ∀ s ∈ ss.take i, s.1 ≠ user) 0 ?_ (.refl _) ⟨Nat.zero_le _, by simp⟩ ?_
    · exact .cons rfl (.cons rfl (.cons rfl (.cons rfl (.nil _))))
    rintro i ⟨hi, hb⟩
    refine Wp.seq ?_
    refine Wp.seq (Wp.region ?_)
    refine OWp.evs 2 rfl ?_
    refine OWp.load (.tail _ (.head _)) rfl rfl rfl rfl rfl ?_
    refine OWp.evs 2 rfl ?_
    refine OWp.nil ?_
    refine Wp.cond rfl (fun h1 => ?_) (fun h1 => ?_)
    · have h1 := of_decide_eq_true h1
      have hi1 : i < ss.length := by omega
      obtain ⟨b1, o1, c1', L, e, fz, hv1, hm1, hat⟩ := scell_at hsr (by omega)
      cases hv1
      refine Wp.skip ?_
      refine Wp.seq ?_
      refine Wp.block ?_
      refine Wp.seq (Wp.region ?_)
      refine OWp.evs 1 rfl ?_
      refine OWp.load (.tail _ (.head _)) rfl rfl rfl rfl rfl ?_
      refine OWp.evs 1 rfl ?_
      refine OWp.g rfl rfl (Gives.indexAddrSlice (i) rfl rfl rfl rfl rfl rfl (by omega)) ?_
      refine OWp.evs 1 rfl ?_
      refine OWp.load (.tail _ (.tail _ hm1)) rfl rfl rfl rfl (hat i hi1).1 ?_
      refine OWp.evs 2 rfl ?_
      refine OWp.nil ?_
      refine Wp.cond rfl (fun heq => ?_) (fun heq => ?_)
      · have heq := of_decide_eq_true heq
        obtain ⟨x, hx, hx2⟩ := (hok.2.2.1 ss[i] (List.getElem_mem hi1)).1
        refine Wp.seq (Wp.regionDraw [0, 1, 2, 3, 4, 5, 6, 7, 8, 9, 10, 11, 12, 13] [9, 12] rfl (by decide +kernel) ?_)
        refine DWp.evs 1 rfl ?_
        refine DWp.load (.tail _ (.head _)) rfl rfl rfl rfl rfl rfl rfl ?_
        refine DWp.load (.tail _ (.head _)) rfl rfl rfl rfl rfl rfl rfl ?_
        refine DWp.evs 1 rfl ?_
        refine DWp.load (.tail _ (.head _)) rfl rfl rfl rfl rfl rfl rfl ?_
        refine DWp.evs 1 rfl ?_
        refine DWp.g rfl rfl rfl rfl (Gives.indexAddrSlice (i) rfl rfl rfl rfl rfl rfl (by omega)) ?_
        refine DWp.evs 1 rfl ?_
        refine DWp.load (.tail _ (.tail _ hm1)) rfl rfl rfl rfl rfl rfl (hat i hi1).2 ?_
        refine DWp.step rfl rfl rfl (Step.call rfl rfl rfl rfl rfl rfl (rhostC (h.mono fun _ h => .tail _ (.tail _ h)) ?_))
        intro z hz
        refine ⟨by (repeat (first | exact pr_nil | refine pr_kept ?_ | refine pr_free ?_ | refine pr_cons (by repeat (first | exact List.Mem.head _ | assumption | apply List.mem_cons_of_mem | apply List.mem_append_right)) ?_)), ?_⟩
        have hz0 := (host_iff (ms := ms) hz).1 ⟨x, hx, hx2⟩
        obtain ⟨k, hk, rfl, hke, hkb⟩ := hz.resolve_right (fun h => by omega)
        obtain ⟨b6, o6, c6, L6, e6, fz6, hv6, hm6, hat6⟩ := nd_at hhr (by omega)
        cases hv6
        refine DWp.g rfl rfl rfl rfl (Gives.indexAddrSlice (k) rfl rfl rfl rfl rfl rfl (by omega)) ?_
        refine DWp.load (.tail _ (.tail _ hm6)) rfl rfl rfl rfl rfl rfl (hat6 k hk) ?_
        refine DWp.stepAll rfl rfl rfl rfl (Step.storeAs 0 (ndc h0[k]) rfl rfl rfl rfl rfl hBL4 rfl (Unfz.zero _) rfl (Nat.le_of_ble_eq_true rfl) rfl rfl ?_)
        refine DWp.evs 1 rfl ?_
        refine DWp.nil ?_
        refine Wp.ret ⟨trivial, _, ⟨_, _, _, _, rfl, rfl, ⟨_, _, _, (by repeat (first | exact List.Mem.head _ | assumption | apply List.mem_cons_of_mem | apply List.mem_append_right)), (by first | assumption | rfl)⟩, ⟨_, _, rfl, rfl, rfl⟩⟩, ?_⟩
        exact ⟨S, (by repeat (first | exact List.Sublist.refl _ | exact List.sublist_append_right _ _ | apply List.Sublist.cons)), H h0[k] 0 (.inl ⟨hok, .inl ⟨_, 0, find_at hi1 hb heq, findP_host hk hke hkb, Int.le_refl _, rfl⟩⟩)⟩
      have heq := of_decide_eq_false heq
      refine Wp.skip ?_
      refine Wp.region ?_
      refine OWp.evs 3 rfl ?_
      refine OWp.nil ?_
      exact ⟨i + 1, by omega, ⟨by omega, take_add hi1 hb heq⟩, .cons rfl (.cons rfl (.cons rfl (.cons' rfl (int_eq (by rw [i64_id] <;> omega)) (.nil _)))), .refl _⟩
    have h1 := of_decide_eq_false h1
    obtain rfl : i = ss.length := by omega
    rw [List.take_length] at hb
    refine Wp.exit ?_
    refine Wp.seq (Wp.region ?_)
    refine OWp.g rfl rfl (Gives.build rfl rfl) ?_
    refine OWp.step rfl (Step.storeAs 0 (ndc (0, [])) rfl rfl rfl rfl rfl hBL4 rfl (Unfz.zero _) rfl (Nat.le_of_ble_eq_true rfl) rfl rfl ?_)
    refine OWp.evs 1 rfl ?_
    refine OWp.nil ?_
    refine Wp.ret ⟨trivial, _, ⟨_, _, _, _, rfl, rfl, ⟨_, _, _, (by repeat (first | exact List.Mem.head _ | assumption | apply List.mem_cons_of_mem | apply List.mem_append_right)), (by first | assumption | rfl)⟩, ⟨_, _, rfl, rfl, rfl⟩⟩, ?_⟩
    exact ⟨S, (by repeat (first | exact List.Sublist.refl _ | exact List.sublist_append_right _ _ | apply List.Sublist.cons)), H (0, []) 5 (.inl ⟨hok, .inr ⟨List.find?_eq_none.2 (fun s hs => by simpa using hb s hs), rfl, rfl⟩⟩)⟩
  refine OWp.evs 1 rfl ?_
  refine OWp.nil ?_
  refine Wp.seq (Wp.region ?_)
  refine OWp.evs 2 rfl ?_
  refine OWp.nil ?_
  refine Wp.cond rfl (fun cc2 => ?_) (fun cc2 => absurd (ndF cc2) (by decide))
  have cc2 := ndT cc2
  refine Wp.seq (Wp.region ?_)
  refine OWp.g rfl rfl (Gives.build rfl rfl) ?_
  refine OWp.evs 1 rfl ?_
  refine OWp.step rfl (Step.storeAs 0 (ndc (0, [])) rfl rfl rfl rfl rfl hBL4 rfl (Unfz.zero _) rfl (Nat.le_of_ble_eq_true rfl) rfl rfl ?_)
  refine OWp.evs 1 rfl ?_
  refine OWp.nil ?_
  refine Wp.ret ⟨trivial, _, ⟨_, _, _, _, rfl, rfl, ⟨_, _, _, (by repeat (first | exact List.Mem.head _ | assumption | apply List.mem_cons_of_mem | apply List.mem_append_right)), (by first | assumption | rfl)⟩, ⟨_, _, rfl, rfl, rfl⟩⟩, ?_⟩
  exact ⟨S, (by repeat (first | exact List.Sublist.refl _ | exact List.sublist_append_right _ _ | apply List.Sublist.cons)), H (0, []) 250 (.inr ⟨hok, rfl, rfl⟩)⟩
set_option maxHeartbeats 2000000 in
theorem rNodeC {number : Int} (h : TIn S hv mv sv h0 ms ss) (ht : (h0 :: ms).flatten.length ≤ 1099511627776) (H : ∀ n ly e, NodeOf (h0 :: ms) ss number n ly e → Q (.tuple #[.agg (ndc n).toArray, .int .i64 ly, .int .i64 e]) S) : CallWp Try.prog B 11 #[.agg #[hv, mv, sv], .int .i64 number] Q S := by
  obtain ⟨a1, c1, a2, c2, a3, c3, rfl, rfl, rfl⟩ := h.forms
  have hhr : Reads S 2 (.slice a1 h0.length c1) h0.length (h0.flatMap ndc) := by obtain ⟨_, _, _, h3, _⟩ := h; exact (h3.2 0 _ _ rfl rfl).1
  obtain ⟨vs, hm, hvs, hn, hvl, _⟩ := id h
  have hn1 := hn.1
  simp only [List.length_cons, Nat.add_right_cancel_iff] at hn1
  rw [hn1] at hm hvl
  unfold lim at hvl
  refine CallWp.dropRet ?_
  refine CallWp.enter (args := [_, _]) Try.func11 rfl Try.ntmps11 rfl ?_
  refine Wp.seq (Wp.region ?_)
  refine OWp.step rfl (Step.box rfl rfl rfl ?_); intro L2 hBL2 hLL2
  refine OWp.step rfl (Step.alloc rfl rfl rfl ?_); intro L4 hBL4 hLL4
  refine OWp.evs 2 rfl ?_
  refine OWp.nil ?_
  refine Wp.seq ?_
  refine Wp.seq (Wp.region ?_)
  refine OWp.load (.tail _ (.head _)) rfl rfl rfl rfl rfl ?_
  refine OWp.step rfl (Step.call rfl rfl rfl rfl rfl rfl ((rtownC (h.mono fun _ h => .tail _ (.tail _ h)) ht ?_)))
  intro e he
  rcases he with ⟨rfl, hok⟩ | ⟨rfl, hok⟩
  · skip
    refine OWp.evs 1 rfl ?_
    refine OWp.nil ?_
    refine Wp.seq (Wp.region ?_)
    refine OWp.evs 2 rfl ?_
    refine OWp.nil ?_
    refine Wp.cond rfl (fun cc1 => absurd (ndT cc1) (by exact fun h => h rfl)) (fun cc1 => ?_)
    have cc1 := ndF cc1
    refine Wp.skip ?_
    refine Wp.seq ?_
    refine Wp.seq (Wp.region ?_)
    refine OWp.load (.tail _ (.head _)) rfl rfl rfl rfl rfl ?_
    refine OWp.evs 1 rfl ?_
    refine OWp.step rfl (Step.call rfl rfl rfl rfl rfl rfl ((rhostC (h.mono fun _ h => .tail _ (.tail _ h)) ?_)))
    intro z hz
    refine OWp.evs 1 rfl ?_
    refine OWp.nil ?_
    refine Wp.seq (Wp.region ?_)
    refine OWp.evs 2 rfl ?_
    refine OWp.nil ?_
    refine Wp.cond rfl (fun h1 => ?_) (fun h1 => ?_)
    · have h1 := of_decide_eq_true h1
      obtain ⟨k, hk, rfl, hke, hkb⟩ := hz.resolve_right (fun h => by omega)
      obtain ⟨b6, o6, c6, L6, e6, fz6, hv6, hm6, hat6⟩ := nd_at hhr (by omega)
      cases hv6
      refine Wp.seq (Wp.region ?_)
      refine OWp.evs 1 rfl ?_
      refine OWp.load (.tail _ (.head _)) rfl rfl rfl rfl rfl ?_
      refine OWp.evs 1 rfl ?_
      refine OWp.g rfl rfl (Gives.indexAddrSlice (k) rfl rfl rfl rfl rfl rfl (by omega)) ?_
      refine OWp.load (.tail _ (.tail _ hm6)) rfl rfl rfl rfl (hat6 k hk) ?_
      refine OWp.step rfl (Step.storeAs 0 (ndc h0[k]) rfl rfl rfl rfl rfl hBL4 rfl (Unfz.zero _) rfl (Nat.le_of_ble_eq_true rfl) rfl rfl ?_)
      refine OWp.evs 2 rfl ?_
      refine OWp.nil ?_
      refine Wp.ret ⟨trivial, _, ⟨_, _, _, _, rfl, rfl, ⟨_, _, _, (by repeat (first | exact List.Mem.head _ | assumption | apply List.mem_cons_of_mem | apply List.mem_append_right)), (by first | assumption | rfl)⟩, ⟨_, _, rfl, rfl, ⟨_, _, rfl, rfl, rfl⟩⟩⟩, ?_⟩
      exact ⟨S, (by repeat (first | exact List.Sublist.refl _ | exact List.sublist_append_right _ _ | apply List.Sublist.cons)), H h0[k] 0 0 (.inl ⟨hok, .inl ⟨findP_host hk hke hkb, rfl⟩⟩)⟩
    have h1 := of_decide_eq_false h1
    have hnoh : ∀ y ∈ h0, y.1 ≠ number := by
      rcases hz with ⟨k, _, rfl, _⟩ | ⟨_, hz⟩
      · omega
      · exact hz
    have hfirst : ∀ y ∈ lay ((h0 :: ms).take (0 + 1)) 0, y.2.1 ≠ number := by
      intro y hy
      rw [show List.take (0 + 1) (h0 :: ms) = [h0] from rfl, lay_cons] at hy
      rcases List.mem_append.1 hy with hy | hy
      · obtain ⟨w, hw, rfl⟩ := List.mem_map.1 hy
        exact hnoh w hw
      · cases hy
    refine Wp.skip ?_
    refine Wp.seq ?_
    refine Wp.seq (Wp.region ?_)
    refine OWp.evs 1 rfl ?_
    refine OWp.nil ?_
    refine Wp.block ?_
    refine Wp.loopS (α := Nat) (fun i => ms.length - i) (fun i => [(1, .int .i64 number), (2, .pointer (some ⟨L2, 0, none⟩)), (4, .pointer (some ⟨L4, 0, none⟩)), (9, .int .i64 (i : Int))]) (fun _ => (L4, cel (ndc (0, [])) 31) :: (L2, cel [.slice a1 h0.length c1, .slice a2 ms.length c2, .slice a3 ss.length c3] 26) :: S) (fun i => i ≤ ms.length ∧ ∀ y ∈ lay ((h0 :: ms).take (i + 1)) 0, y.2.1 ≠ number) 0 ?_ (.refl _) ⟨Nat.zero_le _, hfirst⟩ ?_
    · exact .cons rfl (.cons rfl (.cons rfl (.cons rfl (.nil _))))
    rintro i ⟨hi, hb⟩
    refine Wp.seq ?_
    refine Wp.seq (Wp.region ?_)
    refine OWp.evs 2 rfl ?_
    refine OWp.load (.tail _ (.head _)) rfl rfl rfl rfl rfl ?_
    refine OWp.evs 2 rfl ?_
    refine OWp.nil ?_
    refine Wp.cond rfl (fun h2 => ?_) (fun h2 => ?_)
    · have h2 := of_decide_eq_true h2
      have hi1 : i < ms.length := by omega
      obtain ⟨b2, o2, c2', l2, t2, f2, hv2, hm2, _, hg2⟩ := hm.get1 (by omega)
      cases hv2
      obtain ⟨hnr, hnl⟩ := hn.2 (i + 1) vs[i] ms[i] (by simp) (by simp)
      obtain ⟨na, nc, hvf⟩ := hnr.form
      rw [hvf] at hnr
      unfold lim at hnl
      have hgi : l2[o2 + i * 1]? = some (.slice na ms[i].length nc) := by rw [hg2 i (by omega), ← hvf]; simp
      refine Wp.skip ?_
      refine Wp.seq ?_
      refine Wp.block ?_
      refine Wp.seq (Wp.region ?_)
      refine OWp.evs 1 rfl ?_
      refine OWp.nil ?_
      refine Wp.block ?_
      refine Wp.loopS (α := Nat) (fun k => ms[i].length - k) (fun k => [(1, .int .i64 number), (2, .pointer (some ⟨L2, 0, none⟩)), (4, .pointer (some ⟨L4, 0, none⟩)), (9, .int .i64 (i : Int)), (10, .int .i64 (k : Int))]) (fun _ => (L4, cel (ndc (0, [])) 31) :: (L2, cel [.slice a1 h0.length c1, .slice (some ⟨b2, o2, none⟩) ms.length c2, .slice a3 ss.length c3] 26) :: S) (fun k => k ≤ ms[i].length ∧ ∀ x ∈ ms[i].take k, x.1 ≠ number) 0 ?_ (.refl _) ⟨Nat.zero_le _, by simp⟩ ?_
      · exact .cons rfl (.cons rfl (.cons rfl (.cons rfl (.cons rfl (.nil _)))))
      rintro k ⟨hk, hbk⟩
      refine Wp.seq ?_
      refine Wp.seq (Wp.region ?_)
      refine OWp.evs 2 rfl ?_
      refine OWp.load (.tail _ (.head _)) rfl rfl rfl rfl rfl ?_
      refine OWp.evs 1 rfl ?_
      refine OWp.g rfl rfl (Gives.indexAddrSlice (i) rfl rfl rfl rfl rfl rfl (by omega)) ?_
      refine OWp.load (.tail _ (.tail _ hm2)) rfl rfl rfl rfl hgi ?_
      refine OWp.evs 2 rfl ?_
      refine OWp.nil ?_
      refine Wp.cond rfl (fun h3 => ?_) (fun h3 => ?_)
      · have h3 := of_decide_eq_true h3
        have hk1 : k < ms[i].length := by omega
        obtain ⟨b7, o7, c7, L7, e7, fz7, hv7, hm7, hat7⟩ := ncell_at hnr (by omega)
        obtain ⟨b8, o8, c8, L8, e8, fz8, hv8, hm8, hat8⟩ := nd_at hnr (by omega)
        cases hv7
        cases hv8
        refine Wp.skip ?_
        refine Wp.seq ?_
        refine Wp.block ?_
        refine Wp.seq (Wp.region ?_)
        refine OWp.evs 1 rfl ?_
        refine OWp.load (.tail _ (.head _)) rfl rfl rfl rfl rfl ?_
        refine OWp.evs 1 rfl ?_
        refine OWp.g rfl rfl (Gives.indexAddrSlice (i) rfl rfl rfl rfl rfl rfl (by omega)) ?_
        refine OWp.load (.tail _ (.tail _ hm2)) rfl rfl rfl rfl hgi ?_
        refine OWp.evs 1 rfl ?_
        refine OWp.g rfl rfl (Gives.indexAddrSlice (k) rfl rfl rfl rfl rfl rfl (by omega)) ?_
        refine OWp.evs 1 rfl ?_
        refine OWp.load (.tail _ (.tail _ hm7)) rfl rfl rfl rfl (hat7 k hk1).1 ?_
        refine OWp.evs 2 rfl ?_
        refine OWp.nil ?_
        refine Wp.cond rfl (fun heq => ?_) (fun heq => ?_)
        · have heq := of_decide_eq_true heq
          refine Wp.seq (Wp.region ?_)
          refine OWp.evs 1 rfl ?_
          refine OWp.load (.tail _ (.head _)) rfl rfl rfl rfl rfl ?_
          refine OWp.evs 1 rfl ?_
          refine OWp.g rfl rfl (Gives.indexAddrSlice (i) rfl rfl rfl rfl rfl rfl (by omega)) ?_
          refine OWp.load (.tail _ (.tail _ hm2)) rfl rfl rfl rfl hgi ?_
          refine OWp.evs 1 rfl ?_
          refine OWp.g rfl rfl (Gives.indexAddrSlice (k) rfl rfl rfl rfl rfl rfl (by omega)) ?_
          refine OWp.load (.tail _ (.tail _ hm8)) rfl rfl rfl rfl (hat8 k hk1) ?_
          refine OWp.evs 2 rfl ?_
          refine OWp.step rfl (Step.storeAs 0 (ndc ms[i][k]) rfl rfl rfl rfl rfl hBL4 rfl (Unfz.zero _) rfl (Nat.le_of_ble_eq_true rfl) rfl rfl ?_)
          refine OWp.evs 2 rfl ?_
          refine OWp.nil ?_
          refine Wp.ret ⟨trivial, _, ⟨_, _, _, _, rfl, rfl, ⟨_, _, _, (by repeat (first | exact List.Mem.head _ | assumption | apply List.mem_cons_of_mem | apply List.mem_append_right)), (by first | assumption | rfl)⟩, ⟨_, _, rfl, rfl, ⟨_, _, rfl, rfl, rfl⟩⟩⟩, ?_⟩
          have hpre := lay_prefix (ls := h0 :: ms) (i := i + 1) (by simp; omega) (j := k) hk1
          refine ⟨S, (by repeat (first | exact List.Sublist.refl _ | exact List.sublist_append_right _ _ | apply List.Sublist.cons)), H ms[i][k] _ 0 (.inl ⟨hok, .inl ⟨?_, rfl⟩⟩)⟩
          rw [show IntKind.i64.wrap ((i : Int) + 1) = ((i + 1 : Nat) : Int) by rw [i64_id] <;> omega]
          refine findP_some hpre (fun y hy => ?_) heq
          rcases List.mem_append.1 hy with hy | hy
          · exact hb y hy
          · obtain ⟨w, hw, rfl⟩ := List.mem_map.1 hy
            exact hbk w hw
        have heq := of_decide_eq_false heq
        refine Wp.skip ?_
        refine Wp.region ?_
        refine OWp.evs 3 rfl ?_
        refine OWp.nil ?_
        exact ⟨k + 1, by omega, ⟨by omega, take_add hk1 hbk heq⟩, .cons rfl (.cons rfl (.cons rfl (.cons rfl (.cons' rfl (int_eq (by rw [i64_id] <;> omega)) (.nil _))))), .refl _⟩
      have h3 := of_decide_eq_false h3
      obtain rfl : k = ms[i].length := by omega
      rw [List.take_length] at hbk
      refine Wp.exit ?_
      refine Wp.region ?_
      refine OWp.evs 3 rfl ?_
      refine OWp.nil ?_
      refine ⟨i + 1, by omega, ⟨by omega, ?_⟩, .cons rfl (.cons rfl (.cons rfl (.cons' rfl (int_eq (by rw [i64_id] <;> omega)) (.nil _)))), .refl _⟩
      intro y hy
      rw [lay_take_succ (ls := h0 :: ms) (i := i + 1) (by simp; omega)] at hy
      rcases List.mem_append.1 hy with hy | hy
      · exact hb y hy
      · obtain ⟨w, hw, rfl⟩ := List.mem_map.1 hy
        exact hbk w hw
    have h2 := of_decide_eq_false h2
    obtain rfl : i = ms.length := by omega
    rw [List.take_of_length_le (by simp)] at hb
    refine Wp.exit ?_
    refine Wp.seq (Wp.region ?_)
    refine OWp.g rfl rfl (Gives.build rfl rfl) ?_
    refine OWp.step rfl (Step.storeAs 0 (ndc (0, [])) rfl rfl rfl rfl rfl hBL4 rfl (Unfz.zero _) rfl (Nat.le_of_ble_eq_true rfl) rfl rfl ?_)
    refine OWp.evs 2 rfl ?_
    refine OWp.nil ?_
    refine Wp.ret ⟨trivial, _, ⟨_, _, _, _, rfl, rfl, ⟨_, _, _, (by repeat (first | exact List.Mem.head _ | assumption | apply List.mem_cons_of_mem | apply List.mem_append_right)), (by first | assumption | rfl)⟩, ⟨_, _, rfl, rfl, ⟨_, _, rfl, rfl, rfl⟩⟩⟩, ?_⟩
    exact ⟨S, (by repeat (first | exact List.Sublist.refl _ | exact List.sublist_append_right _ _ | apply List.Sublist.cons)), H (0, []) 0 5 (.inl ⟨hok, .inr ⟨findP_none hb, rfl, rfl, rfl⟩⟩)⟩
  refine OWp.evs 1 rfl ?_
  refine OWp.nil ?_
  refine Wp.seq (Wp.region ?_)
  refine OWp.evs 2 rfl ?_
  refine OWp.nil ?_
  refine Wp.cond rfl (fun cc2 => ?_) (fun cc2 => absurd (ndF cc2) (by decide))
  have cc2 := ndT cc2
  refine Wp.seq (Wp.region ?_)
  refine OWp.g rfl rfl (Gives.build rfl rfl) ?_
  refine OWp.evs 1 rfl ?_
  refine OWp.step rfl (Step.storeAs 0 (ndc (0, [])) rfl rfl rfl rfl rfl hBL4 rfl (Unfz.zero _) rfl (Nat.le_of_ble_eq_true rfl) rfl rfl ?_)
  refine OWp.evs 2 rfl ?_
  refine OWp.nil ?_
  refine Wp.ret ⟨trivial, _, ⟨_, _, _, _, rfl, rfl, ⟨_, _, _, (by repeat (first | exact List.Mem.head _ | assumption | apply List.mem_cons_of_mem | apply List.mem_append_right)), (by first | assumption | rfl)⟩, ⟨_, _, rfl, rfl, ⟨_, _, rfl, rfl, rfl⟩⟩⟩, ?_⟩
  exact ⟨S, (by repeat (first | exact List.Sublist.refl _ | exact List.sublist_append_right _ _ | apply List.Sublist.cons)), H (0, []) 0 250 (.inr ⟨hok, rfl, rfl, rfl⟩)⟩
end
end Go.Proofs.C

namespace Go.Proofs.C
open Go.Lg
set_option maxRecDepth 100000

theorem ndG : Try.prog.eqGuardType Try.prog.depth 31 = false := by decide +kernel
theorem stG : Try.prog.eqGuardType Try.prog.depth 71 = false := by decide +kernel
def eqNd (x y : Nd) : Bool := decide (x.1 = y.1) && (decide (x.2 = y.2) && true)
def eqSt (x y : St) : Bool := decide (x.1 = y.1) && (decide (x.2 = y.2) && true)
theorem ndH : Try.prog.stoodInHeld 31 = false := by decide +kernel
theorem stH : Try.prog.stoodInHeld 71 = false := by decide +kernel
theorem eqNd_in (x y : Nd) : eqIn Try.prog 10 31 (.agg (ndc x).toArray) (.agg (ndc y).toArray) = some (eqNd x y) := by
  rw [eqIn, ndH]; rfl
theorem eqSt_in (x y : St) : eqIn Try.prog 10 71 (.agg (stc x).toArray) (.agg (stc y).toArray) = some (eqSt x y) := by
  rw [eqIn, stH]; rfl
theorem eqNd_self (x : Nd) : eqNd x x = true := by simp [eqNd]
theorem eqSt_self (x : St) : eqSt x x = true := by simp [eqSt]

section
variable {B : Nat} {S R : Ents} {Q : Value → Ents → Prop}
theorem sameNodesC {a b : Value} {l : List Nd} (ha : Reads S 2 a l.length (l.flatMap ndc)) (hb : Reads S 2 b l.length (l.flatMap ndc)) (hl : l.length ≤ lim) (H : Q (.bool true) S) : CallWp Try.prog B 31 #[a, b] Q S := by
  obtain ⟨a1, c1, rfl⟩ := ha.form
  obtain ⟨a2, c2, rfl⟩ := hb.form
  unfold lim at hl
  refine CallWp.enter (args := [_, _]) Try.func31 rfl Try.ntmps31 rfl ?_
  refine Wp.seq (Wp.region ?_)
  refine OWp.evs 1 rfl ?_
  refine OWp.nil ?_
  refine Wp.seq ?_
  refine Wp.seq (Wp.region ?_)
  refine OWp.evs 5 rfl ?_
  refine OWp.nil ?_
  refine Wp.cond rfl (fun cc1 => absurd (ndT cc1) (by exact fun h => h rfl)) (fun cc1 => ?_)
  have cc1 := ndF cc1
  refine Wp.skip ?_
  refine Wp.seq ?_
  refine Wp.seq (Wp.region ?_)
  refine OWp.evs 1 rfl ?_
  refine OWp.nil ?_
  refine Wp.block ?_
  refine Wp.loopS (α := Nat) (fun i => l.length - i) (fun i => [(0, .slice a1 l.length c1), (1, .slice a2 l.length c2), (5, .int .i64 (i : Int))]) (fun _ => S) (fun i => i ≤ l.length) 0 ?_ (.refl _) (Nat.zero_le _) ?_
  · exact .cons rfl (.cons rfl (.cons rfl (.nil _)))
  rintro i hi
  refine Wp.seq ?_
  refine Wp.seq (Wp.region ?_)
  refine OWp.evs 4 rfl ?_
  refine OWp.nil ?_
  refine Wp.cond rfl (fun h1 => ?_) (fun h1 => ?_)
  · have h1 := of_decide_eq_true h1
    have hi1 : i < l.length := by omega
    obtain ⟨b3, o3, c3, L, e, fz, hv1, hm1, hat⟩ := nd_at ha (by omega)
    obtain ⟨b4, o4, c4, L', e', fz', hv2, hm2, hat2⟩ := nd_at hb (by omega)
    cases hv1
    cases hv2
    refine Wp.skip ?_
    refine Wp.seq ?_
    refine Wp.block ?_
    refine Wp.seq (Wp.regionDraw [0, 1, 2, 3, 4, 5, 6, 7, 8] [] rfl (by decide +kernel) ?_)
    refine DWp.evs 2 rfl ?_
    refine DWp.g rfl rfl rfl rfl (Gives.indexAddrSlice (i) rfl rfl rfl rfl rfl rfl (by omega)) ?_
    refine DWp.load hm1 rfl rfl rfl rfl rfl rfl (hat i hi1) ?_
    refine DWp.evs 2 rfl ?_
    refine DWp.g rfl rfl rfl rfl (Gives.indexAddrSlice (i) rfl rfl rfl rfl rfl rfl (by omega)) ?_
    refine DWp.load hm2 rfl rfl rfl rfl rfl rfl (hat2 i hi1) ?_
    refine DWp.g rfl rfl rfl rfl (Gives.neqStruct (r := eqNd l[i] l[i]) 10 rfl rfl rfl rfl ndG (eqNd_in _ _)) ?_
    rw [eqNd_self]
    refine DWp.nil ?_
    refine Wp.cond rfl (fun c => nomatch c) (fun _ => ?_)
    refine Wp.skip ?_
    refine Wp.region ?_
    refine OWp.evs 3 rfl ?_
    refine OWp.nil ?_
    exact ⟨i + 1, by omega, by omega, .cons rfl (.cons rfl (.cons' rfl (int_eq (by rw [i64_id] <;> omega)) (.nil _))), .refl _⟩
  have h1 := of_decide_eq_false h1
  refine Wp.exit ?_
  refine Wp.seq (Wp.region ?_)
  refine OWp.evs 1 rfl ?_
  refine OWp.nil ?_
  refine Wp.ret ⟨trivial, _, ⟨_, _, rfl, rfl, rfl⟩, ?_⟩
  exact H
set_option maxHeartbeats 1000000 in
theorem sameC {hv mv sv hv' mv' sv' : Value} {h0 : List Nd} {ms : List (List Nd)} {ss : List St} (ha : TIn S hv mv sv h0 ms ss) (hb : TIn S hv' mv' sv' h0 ms ss) (H : Q (.bool true) S) : CallWp Try.prog B 16 #[.agg #[hv, mv, sv], .agg #[hv', mv', sv']] Q S := by
  obtain ⟨a1, c1, a2, c2, a3, c3, rfl, rfl, rfl⟩ := ha.forms
  obtain ⟨b1, d1, b2, d2, b3, d3, rfl, rfl, rfl⟩ := hb.forms
  obtain ⟨vs, hm, hvs, hn, hvl, hsr, hsl⟩ := ha
  obtain ⟨us, gm, gvs, gn, gvl, gsr, gsl⟩ := hb
  have hn1 := hn.1
  have gn1 := gn.1
  simp only [List.length_cons, Nat.add_right_cancel_iff] at hn1 gn1
  rw [hn1] at hm hvl
  rw [gn1] at gm
  unfold lim at hvl hsl
  refine CallWp.dropRet ?_
  refine CallWp.enter (args := [_, _]) Try.func16 rfl Try.ntmps16 rfl ?_
  refine Wp.seq (Wp.region ?_)
  refine OWp.step rfl (Step.box rfl rfl rfl ?_); intro L2 hBL2 hLL2
  refine OWp.step rfl (Step.box rfl rfl rfl ?_); intro L3 hBL3 hLL3
  refine OWp.evs 1 rfl ?_
  refine OWp.nil ?_
  refine Wp.seq ?_
  refine Wp.seq (Wp.region ?_)
  refine OWp.evs 1 rfl ?_
  refine OWp.load (.tail _ (.head _)) rfl rfl rfl rfl rfl ?_
  refine OWp.evs 1 rfl ?_
  refine OWp.load (.head _) rfl rfl rfl rfl rfl ?_
  refine OWp.step rfl (Step.call rfl rfl rfl rfl rfl rfl ((sameNodesC ((hn.2 0 _ _ rfl rfl).1.mono fun _ h => .tail _ (.tail _ h)) ((gn.2 0 _ _ rfl rfl).1.mono fun _ h => .tail _ (.tail _ h)) (hn.2 0 _ _ rfl rfl).2 ?_)))
  refine OWp.evs 2 rfl ?_
  refine OWp.part 13 rfl (fun cc1 => (by contradiction)) (fun cc1 => ?_)
  refine OWp.evs 1 rfl ?_
  refine OWp.load (.tail _ (.head _)) rfl rfl rfl rfl rfl ?_
  refine OWp.evs 2 rfl ?_
  refine OWp.load (.head _) rfl rfl rfl rfl rfl ?_
  refine OWp.evs 4 rfl ?_
  refine OWp.part 22 rfl (fun cc2 => absurd (ndT cc2) (by exact fun h => h rfl)) (fun cc2 => ?_)
  have cc2 := ndF cc2
  refine OWp.evs 1 rfl ?_
  refine OWp.load (.tail _ (.head _)) rfl rfl rfl rfl rfl ?_
  refine OWp.evs 2 rfl ?_
  refine OWp.load (.head _) rfl rfl rfl rfl rfl ?_
  refine OWp.evs 3 rfl ?_
  refine OWp.nil ?_
  refine Wp.cond rfl (fun cc3 => absurd (ndT cc3) (by exact fun h => h rfl)) (fun cc3 => ?_)
  have cc3 := ndF cc3
  refine Wp.skip ?_
  refine Wp.seq ?_
  refine Wp.seq (Wp.region ?_)
  refine OWp.evs 1 rfl ?_
  refine OWp.nil ?_
  refine Wp.block ?_
  refine Wp.loopS (α := Nat) (fun i => ms.length - i) (fun i => [(2, .pointer (some ⟨L2, 0, none⟩)), (3, .pointer (some ⟨L3, 0, none⟩)), (5, .int .i64 (i : Int))]) (fun _ => (L3, cel [.slice b1 h0.length d1, .slice b2 ms.length d2, .slice b3 ss.length d3] 26) :: (L2, cel [.slice a1 h0.length c1, .slice a2 ms.length c2, .slice a3 ss.length c3] 26) :: S) (fun i => i ≤ ms.length) 0 ?_ (.refl _) (Nat.zero_le _) ?_
  · exact .cons rfl (.cons rfl (.cons rfl (.nil _)))
  rintro i hi
  refine Wp.seq ?_
  refine Wp.seq (Wp.region ?_)
  refine OWp.evs 2 rfl ?_
  refine OWp.load (.tail _ (.head _)) rfl rfl rfl rfl rfl ?_
  refine OWp.evs 2 rfl ?_
  refine OWp.nil ?_
  refine Wp.cond rfl (fun h1 => ?_) (fun h1 => ?_)
  · have h1 := of_decide_eq_true h1
    have hi1 : i < ms.length := by omega
    obtain ⟨b5, o5, c5, l5, t5, f5, hv5, hm5, _, hg5⟩ := hm.get1 (by omega)
    obtain ⟨b6, o6, c6, l6, t6, f6, hv6, hm6, _, hg6⟩ := gm.get1 (by omega)
    cases hv5
    cases hv6
    obtain ⟨hnr, hnl⟩ := hn.2 (i + 1) vs[i] ms[i] (by simp) (by simp)
    obtain ⟨gnr, _⟩ := gn.2 (i + 1) us[i] ms[i] (by simp) (by simp)
    have hgi : l5[o5 + i * 1]? = some vs[i] := by rw [hg5 i (by omega)]; simp
    have ggi : l6[o6 + i * 1]? = some us[i] := by rw [hg6 i (by omega)]; simp
    refine Wp.skip ?_
    refine Wp.seq ?_
    refine Wp.block ?_
    refine Wp.seq (Wp.regionDraw [0, 1, 2, 3, 4, 5, 6, 7, 8, 9, 10, 11] [10] rfl (by decide +kernel) ?_)
    refine DWp.evs 1 rfl ?_
    refine DWp.load (.tail _ (.head _)) rfl rfl rfl rfl rfl rfl rfl ?_
    refine DWp.evs 1 rfl ?_
    refine DWp.g rfl rfl rfl rfl (Gives.indexAddrSlice (i) rfl rfl rfl rfl rfl rfl (by omega)) ?_
    refine DWp.load (.tail _ (.tail _ hm5)) rfl rfl rfl rfl rfl rfl hgi ?_
    refine DWp.evs 1 rfl ?_
    refine DWp.load (.head _) rfl rfl rfl rfl rfl rfl rfl ?_
    refine DWp.evs 1 rfl ?_
    refine DWp.g rfl rfl rfl rfl (Gives.indexAddrSlice (i) rfl rfl rfl rfl rfl rfl (by omega)) ?_
    refine DWp.load (.tail _ (.tail _ hm6)) rfl rfl rfl rfl rfl rfl ggi ?_
    refine DWp.stepGrow rfl rfl rfl (Step.call rfl rfl rfl rfl rfl rfl ((sameNodesC (hnr.mono fun _ h => .tail _ (.tail _ h)) (gnr.mono fun _ h => .tail _ (.tail _ h)) hnl ?_)))
    refine ⟨fun _ hy => hy, ?_⟩
    refine DWp.evs 1 rfl ?_
    refine DWp.nil ?_
    refine Wp.cond rfl (fun cc4 => (by contradiction)) (fun cc4 => ?_)
    refine Wp.skip ?_
    refine Wp.region ?_
    refine OWp.evs 3 rfl ?_
    refine OWp.nil ?_
    exact ⟨i + 1, by omega, by omega, .cons rfl (.cons rfl (.cons' rfl (int_eq (by rw [i64_id] <;> omega)) (.nil _))), .refl _⟩
  have h1 := of_decide_eq_false h1
  refine Wp.exit ?_
  refine Wp.seq ?_
  refine Wp.seq (Wp.region ?_)
  refine OWp.evs 1 rfl ?_
  refine OWp.nil ?_
  refine Wp.block ?_
  refine Wp.loopS (α := Nat) (fun i => ss.length - i) (fun i => [(2, .pointer (some ⟨L2, 0, none⟩)), (3, .pointer (some ⟨L3, 0, none⟩)), (6, .int .i64 (i : Int))]) (fun _ => (L3, cel [.slice b1 h0.length d1, .slice b2 ms.length d2, .slice b3 ss.length d3] 26) :: (L2, cel [.slice a1 h0.length c1, .slice a2 ms.length c2, .slice a3 ss.length c3] 26) :: S) (fun i => i ≤ ss.length) 0 ?_ (.refl _) (Nat.zero_le _) ?_
  · exact .cons rfl (.cons rfl (.cons rfl (.nil _)))
  rintro j hj
  refine Wp.seq ?_
  refine Wp.seq (Wp.region ?_)
  refine OWp.evs 2 rfl ?_
  refine OWp.load (.tail _ (.head _)) rfl rfl rfl rfl rfl ?_
  refine OWp.evs 2 rfl ?_
  refine OWp.nil ?_
  refine Wp.cond rfl (fun h2 => ?_) (fun h2 => ?_)
  · have h2 := of_decide_eq_true h2
    have hj1 : j < ss.length := by omega
    obtain ⟨b7, o7, c7, L7, e7, fz7, hv7, hm7, hat7⟩ := st_at hsr (by omega)
    obtain ⟨b8, o8, c8, L8, e8, fz8, hv8, hm8, hat8⟩ := st_at gsr (by omega)
    cases hv7
    cases hv8
    refine Wp.skip ?_
    refine Wp.seq ?_
    refine Wp.block ?_
    refine Wp.seq (Wp.regionDraw [0, 1, 2, 3, 4, 5, 6, 7, 8, 9, 10] [] rfl (by decide +kernel) ?_)
    refine DWp.evs 1 rfl ?_
    refine DWp.load (.tail _ (.head _)) rfl rfl rfl rfl rfl rfl rfl ?_
    refine DWp.evs 1 rfl ?_
    refine DWp.g rfl rfl rfl rfl (Gives.indexAddrSlice (j) rfl rfl rfl rfl rfl rfl (by omega)) ?_
    refine DWp.load (.tail _ (.tail _ hm7)) rfl rfl rfl rfl rfl rfl (hat7 j hj1) ?_
    refine DWp.evs 1 rfl ?_
    refine DWp.load (.head _) rfl rfl rfl rfl rfl rfl rfl ?_
    refine DWp.evs 1 rfl ?_
    refine DWp.g rfl rfl rfl rfl (Gives.indexAddrSlice (j) rfl rfl rfl rfl rfl rfl (by omega)) ?_
    refine DWp.load (.tail _ (.tail _ hm8)) rfl rfl rfl rfl rfl rfl (hat8 j hj1) ?_
    refine DWp.g rfl rfl rfl rfl (Gives.neqStruct (r := eqSt ss[j] ss[j]) 10 rfl rfl rfl rfl stG (eqSt_in _ _)) ?_
    rw [eqSt_self]
    refine DWp.nil ?_
    refine Wp.cond rfl (fun c => nomatch c) (fun _ => ?_)
    refine Wp.skip ?_
    refine Wp.region ?_
    refine OWp.evs 3 rfl ?_
    refine OWp.nil ?_
    exact ⟨j + 1, by omega, by omega, .cons rfl (.cons rfl (.cons' rfl (int_eq (by rw [i64_id] <;> omega)) (.nil _))), .refl _⟩
  have h2 := of_decide_eq_false h2
  refine Wp.exit ?_
  refine Wp.seq (Wp.region ?_)
  refine OWp.evs 1 rfl ?_
  refine OWp.nil ?_
  refine Wp.ret ⟨trivial, _, ⟨_, _, rfl, rfl, rfl⟩, ?_⟩
  exact ⟨S, (by repeat (first | exact List.Sublist.refl _ | exact List.sublist_append_right _ _ | apply List.Sublist.cons)), H⟩
end
end Go.Proofs.C

namespace Go.Proofs.C
open Go.Lg
set_option maxRecDepth 100000

theorem words_one {ls : List (List Nd)} {ss : List St} {n n' : Int} (h : Words ls ss n) (h' : Words ls ss n') : n = n' := by
  rcases h with ⟨h1, h2⟩ | ⟨h1, h2⟩ <;> rcases h' with ⟨h3, h4⟩ | ⟨h3, h4⟩
  · rw [h2, h4]
  · exact absurd h1 h3
  · exact absurd h3 h1
  · rw [h2, h4]
theorem nodeOf_one {ls : List (List Nd)} {ss : List St} {number : Int} {n n' : Nd} {ly ly' e e' : Int} (h : NodeOf ls ss number n ly e) (h' : NodeOf ls ss number n' ly' e') : n = n' ∧ ly = ly' ∧ e = e' := by
  rcases h with ⟨h1, h2⟩ | ⟨h1, h2, h5, h6⟩ <;> rcases h' with ⟨h3, h4⟩ | ⟨h3, h4, h7, h8⟩
  · rcases h2 with ⟨a, b⟩ | ⟨a, b, c, d⟩ <;> rcases h4 with ⟨a', b'⟩ | ⟨a', b', c', d'⟩
    · rw [a] at a'; cases a'; exact ⟨rfl, rfl, by rw [b, b']⟩
    · rw [a] at a'; cases a'
    · rw [a] at a'; cases a'
    · exact ⟨by rw [b, b'], by rw [c, c'], by rw [d, d']⟩
  · exact absurd h1 h3
  · exact absurd h3 h1
  · exact ⟨by rw [h2, h4], by rw [h5, h7], by rw [h6, h8]⟩
theorem hostOf_one {ls : List (List Nd)} {ss : List St} {user : Int} {n n' : Nd} {e e' : Int} (h : HostOf ls ss user n e) (h' : HostOf ls ss user n' e') : n = n' ∧ e = e' := by
  rcases h with ⟨h1, h2⟩ | ⟨h1, h2, h6⟩ <;> rcases h' with ⟨h3, h4⟩ | ⟨h3, h4, h8⟩
  · rcases h2 with ⟨s, ly, a, b, c, d⟩ | ⟨a, b, d⟩ <;> rcases h4 with ⟨s', ly', a', b', c', d'⟩ | ⟨a', b', d'⟩
    · rw [a] at a'; cases a'; rw [b] at b'; cases b'; exact ⟨rfl, by rw [d, d']⟩
    · rw [a] at a'; cases a'
    · rw [a] at a'; cases a'
    · exact ⟨by rw [b, b'], by rw [d, d']⟩
  · exact absurd h1 h3
  · exact absurd h3 h1
  · exact ⟨by rw [h2, h4], by rw [h6, h8]⟩
end Go.Proofs.C
