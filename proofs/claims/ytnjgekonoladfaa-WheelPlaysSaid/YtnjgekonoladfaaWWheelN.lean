/- What functions of the given program do, one after the other, told by that layer. -/
import Derived.Test.YtnjgekonoladfaaWWheelL
import Derived.Test.YtnjgekonoladfaaLgBld
namespace Go.Proofs.E
open Go.Lg Go.Whl
set_option maxRecDepth 100000

theorem Rf.mem {B r now put : Nat} {L : List T} {W : Ents} (h : Rf B r L now put W) : ∃ a c, rE r (.slice a L.length c) now put ∈ W := by
  obtain ⟨_, _, lv, le, hown, rfl⟩ := h
  obtain ⟨a, c, rfl⟩ := hown.reads.form
  exact ⟨a, c, .head _⟩
abbrev AT := Int × Int × Int × Bool
def af (x : AT) : List Value := [.int .i64 x.1, .int .i64 x.2.1, .int .i64 x.2.2.1, .bool x.2.2.2]
theorem rdActs {S : Ents} {v : Value} (h : Rd Try.prog S 41 [v]) : ∃ zs : List AT, Reads S 4 v zs.length (zs.flatMap af) ∧ zs.length ≤ 35184372088832 := by
  obtain ⟨zs, hr, hw, _, _⟩ := h.rows (f := af) (p := fun _ => True) Try.underlying41 (sz := 4) rfl (fun r hr => by
    obtain ⟨hl, hf⟩ := hr.open_struct Try.underlying47
    obtain ⟨a, ha, _⟩ := (hf _ (List.mem_cons_self)).open_int Try.underlying3
    obtain ⟨b, hb, _⟩ := (hf _ (List.mem_cons_of_mem _ List.mem_cons_self)).open_int Try.underlying3
    obtain ⟨c, hc, _⟩ := (hf _ (List.mem_cons_of_mem _ (List.mem_cons_of_mem _ List.mem_cons_self))).open_int Try.underlying3
    obtain ⟨d, hd⟩ := (hf _ (List.mem_cons_of_mem _ (List.mem_cons_of_mem _ (List.mem_cons_of_mem _ List.mem_cons_self)))).open_bool Try.underlying4
    refine ⟨(a, b, c, d), ?_, trivial⟩
    match r, hl with
    | [x, y, z, w], _ =>
      cases ha
      cases hb
      cases hc
      cases hd
      rfl)
  refine ⟨zs, hr, ?_⟩
  have : zs.length * 32 ≤ reachBytes ∨ zs.length * 25 ≤ reachBytes := .inl hw
  unfold reachBytes at this; omega
theorem nos_ne {M : List T} (h : M.Pairwise fun a b => a.no < b.no) : (srt M).Pairwise fun a b => a.no ≠ b.no :=
  ((srt_perm M).pairwise_iff (R := fun a b => a.no ≠ b.no) (fun h => Ne.symm h)).2 (h.imp fun h => Nat.ne_of_lt h)

section
variable {B : Nat} {S R : Ents} {Q : Value → Ents → Prop}

theorem rAdvLateC {r now put : Nat} {L : List T} {W : Ents} {zt : Int} (h : Rf B r L now put W) (hs : ∀ x ∈ W, x ∈ S) (ht : zt < (now : Int)) (H : Q (.tuple #[.slice none 0 0, .int .i64 140]) S) :
    CallWp Try.prog B 21 #[pt r, .int .i64 zt] Q S := by
  obtain ⟨a, c, hm⟩ := h.mem
  refine CallWp.enter (args := [_, _]) Try.func21 rfl Try.ntmps21 rfl ?_
  refine Wp.seq (Wp.region ?_)
  refine OWp.evs 2 rfl ?_
  refine OWp.nil ?_
  refine Wp.seq ?_
  refine Wp.seq (Wp.region ?_)
  refine OWp.evs 4 rfl ?_
  refine OWp.load (hs _ hm) rfl rfl rfl rfl rfl ?_
  refine OWp.evs 1 rfl ?_
  refine OWp.nil ?_
  refine Wp.cond rfl (fun cc1 => ?_) (fun cc1 => absurd (of_decide_eq_false cc1) (by omega))
  have cc1 := of_decide_eq_true cc1
  refine Wp.seq (Wp.region ?_)
  refine OWp.evs 2 rfl ?_
  refine OWp.nil ?_
  refine Wp.ret ⟨trivial, _, ⟨_, _, rfl, rfl, _, _, rfl, rfl, rfl⟩, ?_⟩
  exact H
theorem rAdvFarC {r now put : Nat} {L : List T} {W : Ents} {zt : Int} (h : Rf B r L now put W) (hs : ∀ x ∈ W, x ∈ S) (ht : (now : Int) ≤ zt) (ht2 : 1099511627776 < zt) (H : Q (.tuple #[.slice none 0 0, .int .i64 1]) S) :
    CallWp Try.prog B 21 #[pt r, .int .i64 zt] Q S := by
  obtain ⟨a, c, hm⟩ := h.mem
  refine CallWp.enter (args := [_, _]) Try.func21 rfl Try.ntmps21 rfl ?_
  refine Wp.seq (Wp.region ?_)
  refine OWp.evs 2 rfl ?_
  refine OWp.nil ?_
  refine Wp.seq ?_
  refine Wp.seq (Wp.region ?_)
  refine OWp.evs 4 rfl ?_
  refine OWp.load (hs _ hm) rfl rfl rfl rfl rfl ?_
  refine OWp.evs 1 rfl ?_
  refine OWp.nil ?_
  refine Wp.cond rfl (fun cc1 => absurd (of_decide_eq_true cc1) (by omega)) (fun cc1 => ?_)
  have cc1 := of_decide_eq_false cc1
  refine Wp.skip ?_
  refine Wp.seq ?_
  refine Wp.seq (Wp.region ?_)
  refine OWp.evs 2 rfl ?_
  refine OWp.nil ?_
  refine Wp.cond rfl (fun cc2 => ?_) (fun cc2 => absurd (of_decide_eq_false cc2) (by omega))
  have cc2 := of_decide_eq_true cc2
  refine Wp.seq (Wp.region ?_)
  refine OWp.evs 2 rfl ?_
  refine OWp.nil ?_
  refine Wp.ret ⟨trivial, _, ⟨_, _, rfl, rfl, _, _, rfl, rfl, rfl⟩, ?_⟩
  exact H
theorem timeC {x : AT} {now : Int} (H : ∀ z : Int, Q (.int .i64 z) S) : CallWp Try.prog B 18 #[.agg (af x).toArray, .int .i64 now] Q S := by
  obtain ⟨k, a, i, b⟩ := x
  refine CallWp.dropRet ?_
  refine CallWp.enter (args := [_, _]) Try.func18 rfl Try.ntmps18 rfl ?_
  refine Wp.seq (Wp.region ?_)
  refine OWp.step rfl (Step.box rfl rfl rfl ?_); intro L2 hBL2 hLL2
  refine OWp.evs 1 rfl ?_
  refine OWp.nil ?_
  refine Wp.seq ?_
  refine Wp.seq (Wp.region ?_)
  refine OWp.evs 1 rfl ?_
  refine OWp.load (.head _) rfl rfl rfl rfl rfl ?_
  cases b
  · skip
    refine OWp.evs 1 rfl ?_
    refine OWp.part 7 rfl (fun cc1 => (by contradiction)) (fun cc1 => ?_)
    refine OWp.evs 1 rfl ?_
    refine OWp.load (.head _) rfl rfl rfl rfl rfl ?_
    refine OWp.evs 3 rfl ?_
    refine OWp.part 12 rfl (fun h1 => ?_) (fun h1 => ?_)
    · have h1 := of_decide_eq_true h1
      refine OWp.evs 4 rfl ?_
      refine OWp.nil ?_
      refine Wp.cond rfl (fun _ => ?_) (fun c => nomatch c)
      refine Wp.seq (Wp.region ?_)
      refine OWp.evs 1 rfl ?_
      refine OWp.load (.head _) rfl rfl rfl rfl rfl ?_
      refine OWp.evs 1 rfl ?_
      refine OWp.nil ?_
      refine Wp.ret ⟨trivial, _, ⟨_, _, rfl, rfl, rfl⟩, ?_⟩
      exact ⟨_, List.sublist_cons_self _ _, H _⟩
    have h1 := of_decide_eq_false h1
    refine OWp.evs 1 rfl ?_
    refine OWp.load (.head _) rfl rfl rfl rfl rfl ?_
    refine OWp.evs 2 rfl ?_
    refine OWp.nil ?_
    refine Wp.cond rfl (fun h2 => ?_) (fun h2 => ?_)
    · have h2 := of_decide_eq_true h2
      refine Wp.seq (Wp.region ?_)
      refine OWp.evs 1 rfl ?_
      refine OWp.load (.head _) rfl rfl rfl rfl rfl ?_
      refine OWp.evs 1 rfl ?_
      refine OWp.nil ?_
      refine Wp.ret ⟨trivial, _, ⟨_, _, rfl, rfl, rfl⟩, ?_⟩
      exact ⟨_, List.sublist_cons_self _ _, H _⟩
    have h2 := of_decide_eq_false h2
    refine Wp.skip ?_
    refine Wp.seq (Wp.region ?_)
    refine OWp.evs 2 rfl ?_
    refine OWp.load (.head _) rfl rfl rfl rfl rfl ?_
    refine OWp.evs 2 rfl ?_
    refine OWp.nil ?_
    refine Wp.ret ⟨trivial, _, ⟨_, _, rfl, rfl, rfl⟩, ?_⟩
    exact ⟨_, List.sublist_cons_self _ _, H _⟩
  refine OWp.evs 1 rfl ?_
  refine OWp.part 7 rfl (fun cc2 => ?_) (fun cc2 => (by contradiction))
  refine OWp.evs 9 rfl ?_
  refine OWp.nil ?_
  refine Wp.cond rfl (fun _ => ?_) (fun c => nomatch c)
  refine Wp.seq (Wp.region ?_)
  refine OWp.evs 1 rfl ?_
  refine OWp.load (.head _) rfl rfl rfl rfl rfl ?_
  refine OWp.evs 1 rfl ?_
  refine OWp.nil ?_
  refine Wp.ret ⟨trivial, _, ⟨_, _, rfl, rfl, rfl⟩, ?_⟩
  exact ⟨_, List.sublist_cons_self _ _, H _⟩
theorem spoilC {k : Nat} {v : Value} {xs : List Value} {es : Ents} {mark : Int} (h : Own B 3 1 v k xs es) (H : Q (.tuple #[]) S) :
    CallWp Try.prog B 22 #[v, .int .i64 mark] Q (es ++ S) := by
  refine CallWp.dropRet ?_
  obtain ⟨hl, ⟨rfl, rfl, rfl⟩ | ⟨b, cap, cur, rfl, rfl, hB, hk, hmx, hcl, htk⟩⟩ := h
  · skip
    refine CallWp.enter (args := [_, _]) Try.func22 rfl Try.ntmps22 rfl ?_
    refine Wp.seq (Wp.region ?_)
    refine OWp.evs 2 rfl ?_
    refine OWp.gives rfl rfl (Gives.cap rfl rfl rfl) (fun _ h => nomatch h) ?_
    refine OWp.g rfl rfl (Gives.sliceNil rfl rfl rfl rfl rfl ⟨_, _, rfl, rfl⟩) ?_
    refine OWp.evs 1 rfl ?_
    refine OWp.nil ?_
    refine Wp.seq (Wp.region ?_)
    refine OWp.evs 1 rfl ?_
    refine OWp.nil ?_
    refine Wp.block ?_
    refine Wp.loopS (α := Unit) (fun _ => 0) (fun _ => [(0, .slice none 0 0), (4, .int .i64 0)]) (fun _ => [] ++ S) (fun _ => True) () ?_ (.refl _) trivial ?_
    · exact .cons rfl (.cons rfl (.nil _))
    rintro ⟨⟩ -
    refine Wp.seq ?_
    refine Wp.seq (Wp.region ?_)
    refine OWp.evs 4 rfl ?_
    refine OWp.nil ?_
    refine Wp.cond rfl (fun cc1 => absurd (of_decide_eq_true cc1) (by decide)) (fun cc1 => ?_)
    have cc1 := of_decide_eq_false cc1
    refine Wp.exit ?_
    refine ⟨trivial, [], rfl, ?_⟩
    exact ⟨_, .refl _, H⟩
  · unfold maxLen at hmx
    refine CallWp.enter (args := [_, _]) Try.func22 rfl Try.ntmps22 rfl ?_
    refine Wp.seq (Wp.region ?_)
    refine OWp.evs 2 rfl ?_
    refine OWp.gives rfl rfl (Gives.cap rfl rfl rfl) (fun _ h => nomatch h) ?_
    refine OWp.g rfl rfl (Gives.sliceSlice (l := 0) (h' := cap) rfl rfl rfl rfl rfl ⟨_, _, rfl, rfl⟩ (Nat.zero_le _) (Nat.le_refl _) (.inr rfl)) ?_
    refine OWp.evs 1 rfl ?_
    refine OWp.nil ?_
    refine Wp.seq (Wp.region ?_)
    refine OWp.evs 1 rfl ?_
    refine OWp.nil ?_
    refine Wp.block ?_
    refine Wp.loopS (α := Nat × List Value) (fun z => cap - z.1) (fun z => [(0, .slice (some ⟨b, 0, none⟩) cap cap), (1, .int .i64 mark), (4, .int .i64 (z.1 : Int))]) (fun z => (b, cel z.2 3) :: S) (fun z => z.1 ≤ cap ∧ z.2.length = cap) (0, cur) ?_ (.refl _) ⟨Nat.zero_le _, by show cur.length = cap; omega⟩ ?_
    · exact .cons rfl (.cons rfl (.cons rfl (.nil _)))
    rintro ⟨i, l⟩ ⟨hi, hll⟩
    simp only at hi hll ⊢
    refine Wp.seq ?_
    refine Wp.seq (Wp.region ?_)
    refine OWp.evs 4 rfl ?_
    refine OWp.nil ?_
    refine Wp.cond rfl (fun h1 => ?_) (fun h1 => ?_)
    · have h1 := of_decide_eq_true h1
      refine Wp.skip ?_
      refine Wp.seq ?_
      refine Wp.block ?_
      refine Wp.region ?_
      refine OWp.evs 3 rfl ?_
      refine OWp.g rfl rfl (Gives.indexAddrSlice (i) rfl rfl rfl rfl rfl rfl (by omega)) ?_
      refine OWp.step rfl (Step.storeAs 0 (wr l (0 + i * 1) [.int .i64 mark]) rfl rfl rfl rfl rfl hB rfl (Unfz.zero _) rfl (by show 0 + i * 1 + 1 ≤ _; omega) rfl rfl ?_)
      refine OWp.nil ?_
      refine Wp.region ?_
      refine OWp.evs 3 rfl ?_
      refine OWp.nil ?_
      refine ⟨(i + 1, _), by simp only; omega, ⟨by simp only; omega, ?_⟩, .cons rfl (.cons rfl (.cons' rfl (int_eq (by simp only; rw [i64_id] <;> omega)) (.nil _))), .refl _⟩
      show (wr l (0 + i * 1) [.int .i64 mark]).length = cap
      rw [wr_one (by omega), List.length_set, hll]
    have h1 := of_decide_eq_false h1
    refine Wp.exit ?_
    refine ⟨trivial, [], rfl, ?_⟩
    exact ⟨_, List.sublist_cons_self _ _, H⟩
end
end Go.Proofs.E
