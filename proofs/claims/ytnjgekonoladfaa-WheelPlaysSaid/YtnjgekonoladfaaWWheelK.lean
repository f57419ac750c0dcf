/- What functions of the given program do, one after the other, told by that layer. -/
import Derived.Test.YtnjgekonoladfaaWWheelJ
namespace Go.Lg
theorem Gives.sliceNil {P : Program} {n : Nat} {E : Env} {o : Oper} {t e : TypeId} {x : Operand} {lo hi : Option Operand} {sz : Nat} (ho : o.op = .slice t x lo hi none)
    (hu : P.underlying t = some (.slice e)) (hs : sizeOfT P e = some sz) (hx : opd E x = some (.slice none 0 0)) (hlo : Bound E lo 0 0) (hhi : Bound E hi 0 0) :
    Gives P n [] E o (.slice none 0 0) := by
  intro a w hS hA
  have e1 := hhi.run (P := P) hA w 0 (Nat.le_refl _) .sliceAcap
  have e2 := hlo.run (P := P) hA w 0 (Nat.le_refl _) .sliceB
  have key : (Instr.sliceBounds true 0 0 (lo.map a.eval) (hi.map a.eval) none).run P w = .ok (0, 0, 0) w := by
    simp only [Instr.sliceBounds, Sem.run_bind, Sem.run_pure, Result.andThen_ok]
    cases hi with
    | none =>
      cases lo with
      | none => simp
      | some y => simp only [Option.map_some] at e2 ⊢; simp [e2]
    | some z =>
      simp only [Option.map_some] at e1 ⊢
      cases lo with
      | none => simp [e1]
      | some y => simp only [Option.map_some] at e2 ⊢; simp [e1, e2]
  simp only [execOp, ho, opd_sound hA hx, Option.map_none, Instr.sliceAt, Sem.run_bind, run_underlying hu, Result.andThen_ok]
  simp only [Instr.slice, Sem.run_bind, run_underlying hu, Result.andThen_ok, key, sizeOfT_run hs, Sem.run_pure]
  simp
end Go.Lg
namespace Go.Proofs.E
open Go.Lg Go.Whl
set_option maxRecDepth 100000

/-- What slicing the owned timers gives. -/
theorem cutOf {B k l h' : Nat} {e : TypeId} {v : Value} {L : List T} {es : Ents} (h : Own B e 3 v k (tcs L) es) (h1 : l ≤ h') (h2 : h' ≤ k) :
    ∃ u, (∀ {P : Program} {n : Nat} {E : Env} {o : Oper} {t : TypeId} {x : Operand} {lo hi : Option Operand}, o.op = .slice t x lo hi none → P.underlying t = some (.slice e) → sizeOfT P e = some 3 → opd E x = some v → Bound E lo 0 l → Bound E hi k h' → Gives P n [] E o u) ∧
      Reads es 3 u (h' - l) (tcs ((L.drop l).take (h' - l))) := by
  obtain ⟨hl, ⟨rfl, rfl, rfl⟩ | ⟨b, cap, cur, rfl, rfl, hB, hk, hmx, hcl, htk⟩⟩ := h
  · obtain rfl : h' = 0 := by omega
    obtain rfl : l = 0 := by omega
    refine ⟨.slice none 0 0, fun ho hu hs hx hlo hhi => Gives.sliceNil ho hu hs hx hlo hhi, ?_⟩
    rw [Nat.sub_self, List.take_zero]
    exact Reads.nil _ _
  · rw [tcs_len] at hl
    refine ⟨.slice (some ⟨b, if cap = l then 0 else 0 + l * 3, none⟩) (h' - l) (cap - l), fun ho hu hs hx hlo hhi => Gives.sliceEnd ho hu hs hx hlo hhi h1 (by omega), ?_⟩
    refine ⟨by rw [tcs_len, List.length_take, List.length_drop]; congr 1; omega, ?_⟩
    by_cases hz : h' - l = 0
    · left; rw [hz]; exact ⟨⟨_, _, rfl⟩, rfl⟩
    · right
      rw [if_neg (by omega)]
      refine ⟨b, 0 + l * 3, cap - l, cur, e, (0, 0), rfl, .head _, by omega, ?_⟩
      rw [← tcs_take, ← tcs_drop, ← htk, List.drop_take, List.take_take, Nat.zero_add]
      congr 1
      omega

theorem ins_split {t : T} : ∀ {i : Nat} {L : List T}, (∀ u ∈ L.take i, u.due ≤ t.due) → (∀ u ∈ L.drop i, t.due < u.due) → ins t L = L.take i ++ t :: L.drop i
  | 0, L, _, h2 => by
    rw [List.drop_zero] at h2
    rw [ins_early h2]; rfl
  | i + 1, [], _, _ => rfl
  | i + 1, u :: L, h1, h2 => by
    rw [ins_cons, if_pos (h1 u (by simp)), ins_split (i := i) (fun v hv => h1 v (by simp [hv])) h2]
    rfl
/-- The cells of a timer in a row. -/
theorem tcell_at {S : Ents} {v : Value} {l : List T} (h : Reads S 3 v l.length (tcs l)) (h0 : 0 < l.length) :
    ∃ b o cap L e fz, v = .slice (some ⟨b, o, none⟩) l.length cap ∧ (b, cel L e fz) ∈ S ∧ ∀ i (hi : i < l.length), L[o + i * 3]? = some (iv l[i].due) ∧ L[o + i * 3 + 1]? = some (iv l[i].id) ∧ L[o + i * 3 + 2]? = some (iv l[i].no) := by
  obtain ⟨b, o, cap, L, e, fz, hv, hm, hat⟩ := Reads.elem (f := tc) (xs := l) h (fun _ _ => rfl) h0
  refine ⟨b, o, cap, L, e, fz, hv, hm, fun i hi => ?_⟩
  have key : ∀ j, j < 3 → L[o + i * 3 + j]? = (tc l[i])[j]? := fun j hj => by
    rw [← hat i hi, List.getElem?_take, if_pos hj, List.getElem?_drop]
  exact ⟨key 0 (by decide), key 1 (by decide), key 2 (by decide)⟩

abbrev rE (r : Nat) (lv : Value) (now put : Nat) : Nat × Obj := (r, cel [lv, .int .i64 (now : Int), .int .i64 (put : Int)] 45)
/-- The wheel of the reference, as a whole. -/
def Rf (B r : Nat) (L : List T) (now put : Nat) (W : Ents) : Prop := B ≤ r ∧ Up L ∧ ∃ lv le, Own B 68 3 lv L.length (tcs L) le ∧ W = rE r lv now put :: le
theorem take_below {L : List T} (hu : Up L) {i a : Nat} (h : i = 0 ∨ ∃ hi : i - 1 < L.length, L[i - 1].due ≤ a) : ∀ u ∈ L.take i, u.due ≤ a := by
  intro u hu2
  obtain ⟨k, hk, rfl⟩ := List.mem_iff_getElem.1 hu2
  rw [List.length_take] at hk
  rw [List.getElem_take]
  rcases h with h | ⟨hi, h⟩
  · omega
  · rcases Nat.lt_or_ge k (i - 1) with h2 | h2
    · have := List.pairwise_iff_getElem.1 hu k (i - 1) (by omega) hi h2
      omega
    · obtain rfl : k = i - 1 := by omega
      exact h

section
variable {B : Nat} {S R : Ents} {Q : Value → Ents → Prop}
set_option maxHeartbeats 2000000 in
theorem rPutC {r now put a : Nat} {L : List T} {W : Ents} {za id : Int} (hza : za = (a : Int)) (h : Rf B r L now put W) (ha : now < a) (ha2 : a ≤ 1099511627776) (hl : L.length < 4096) (hp : put ≤ 1099511627776)
    (H : ∀ W', Rf B r (ins ⟨a, id, put + 1⟩ L) now (put + 1) W' → Q (.tuple #[.int .i64 ((put + 1 : Nat) : Int), .int .i64 0]) (W' ++ S)) :
    CallWp Try.prog B 19 #[pt r, .int .i64 za, .int .i64 id] Q (W ++ S) := by
  subst hza
  obtain ⟨hB, hup, lv, le, hown, rfl⟩ := h
  obtain ⟨la, lc, rfl⟩ := hown.reads.form
  refine subRet ?_
  refine CallWp.enter (args := [_, _, _]) Try.func19 rfl Try.ntmps19 rfl ?_
  refine Wp.seq (Wp.region ?_)
  refine OWp.evs 2 rfl ?_
  refine OWp.nil ?_
  refine Wp.seq ?_
  refine Wp.seq (Wp.region ?_)
  refine OWp.evs 4 rfl ?_
  refine OWp.load (.head _) rfl rfl rfl rfl rfl ?_
  refine OWp.evs 1 rfl ?_
  refine OWp.nil ?_
  refine Wp.cond rfl (fun cc1 => absurd (of_decide_eq_true cc1) (by omega)) (fun cc1 => ?_)
  have cc1 := of_decide_eq_false cc1
  refine Wp.skip ?_
  refine Wp.seq ?_
  refine Wp.seq (Wp.region ?_)
  refine OWp.evs 2 rfl ?_
  refine OWp.nil ?_
  refine Wp.cond rfl (fun cc2 => absurd (of_decide_eq_true cc2) (by omega)) (fun cc2 => ?_)
  have cc2 := of_decide_eq_false cc2
  refine Wp.skip ?_
  refine Wp.seq ?_
  refine Wp.seq (Wp.region ?_)
  refine OWp.evs 3 rfl ?_
  refine OWp.load (.head _) rfl rfl rfl rfl rfl ?_
  refine OWp.evs 2 rfl ?_
  refine OWp.nil ?_
  refine Wp.cond rfl (fun cc3 => absurd (of_decide_eq_true cc3) (by omega)) (fun cc3 => ?_)
  have cc3 := of_decide_eq_false cc3
  refine Wp.skip ?_
  refine Wp.seq (Wp.region ?_)
  refine OWp.evs 3 rfl ?_
  refine OWp.load (.head _) rfl rfl rfl rfl rfl ?_
  refine OWp.evs 3 rfl ?_
  refine OWp.step rfl (Step.storeAs 0 [.slice la L.length lc, .int .i64 (now : Int), .int .i64 ((put + 1 : Nat) : Int)] rfl rfl rfl rfl rfl hB rfl (Unfz.zero _) rfl (Nat.le_of_ble_eq_true rfl) (by rw [i64_inc (by omega)]; rfl) rfl ?_)
  refine OWp.nil ?_
  refine Wp.seq (Wp.region ?_)
  refine OWp.evs 3 rfl ?_
  refine OWp.load (.head _) rfl rfl rfl rfl rfl ?_
  refine OWp.evs 2 rfl ?_
  refine OWp.nil ?_
  refine Wp.seq ?_
  refine Wp.block ?_
  refine Wp.loopS (α := Nat) (fun i => i) (fun i => [(0, pt r), (1, .int .i64 (a : Int)), (2, .int .i64 id), (8, .int .i64 (i : Int))]) (fun _ => rE r (.slice la L.length lc) now (put + 1) :: (le ++ S)) (fun i => i ≤ L.length ∧ ∀ u ∈ L.drop i, a < u.due) L.length ?_ (.refl _) ⟨Nat.le_refl _, by rw [List.drop_length]; exact fun _ h => nomatch h⟩ ?_
  · exact .cons rfl (.cons rfl (.cons rfl (.cons rfl (.nil _))))
  rintro i ⟨hi, hab⟩
  refine Wp.seq ?_
  refine Wp.seq (Wp.region ?_)
  by_cases hi0 : i = 0
  · skip
    refine OWp.evs 3 rfl ?_
    refine OWp.part 38 rfl (fun cc4 => absurd (of_decide_eq_true cc4) (by omega)) (fun cc4 => ?_)
    have cc4 := of_decide_eq_false cc4
    have hbel := take_below hup (i := i) (a := a) (.inl hi0)
    have hins := ins_split (t := ⟨a, id, put + 1⟩) hbel hab
    obtain ⟨u1, hg1, hr1⟩ := cutOf hown (l := 0) (h' := i) (Nat.zero_le _) hi
    obtain ⟨u2, hg2, hr2⟩ := cutOf hown (l := i) (h' := L.length) hi (Nat.le_refl _)
    rw [List.drop_zero, Nat.sub_zero] at hr1
    rw [List.take_of_length_le (by rw [List.length_drop]; exact Nat.le_refl _)] at hr2
    refine OWp.evs 12 rfl ?_
    refine OWp.nil ?_
    refine Wp.cond rfl (fun c => nomatch c) (fun _ => ?_)
    refine Wp.exit ?_
    refine Wp.seq (Wp.region ?_)
    refine OWp.evs 1 rfl ?_
    refine OWp.nil ?_
    refine Wp.seq (Wp.region ?_)
    refine OWp.evs 4 rfl ?_
    refine OWp.load (.head _) rfl rfl rfl rfl rfl ?_
    refine OWp.evs 1 rfl ?_
    refine OWp.g rfl rfl (hg1 rfl rfl rfl rfl rfl ⟨_, _, rfl, rfl⟩) ?_
    refine OWp.step rfl (Step.appendAt (es := []) [] rfl rfl rfl rfl rfl rfl (by decide) rfl rfl (Own.nil _ _ _) (hr1.mono fun x hx => .tail _ (List.mem_append_left _ hx)) (tcs_cells _) (by show (_ + _) * 24 ≤ _; omega) (by unfold maxLen; omega) ?_)
    intro v1 e1 ho1 _
    refine OWp.evs 1 rfl ?_
    refine OWp.nil ?_
    refine Wp.seq (Wp.region ?_)
    refine OWp.evs 6 rfl ?_
    refine OWp.load (List.mem_append_right _ (List.mem_append_right _ (.head _))) rfl rfl rfl rfl rfl ?_
    refine OWp.g rfl rfl (Gives.build rfl rfl) ?_
    refine OWp.step rfl (Step.buildSlice rfl rfl rfl ?_); intro Lp5 hBLp5 hLLp5
    refine OWp.step rfl (Step.appendAt [_] rfl rfl rfl rfl rfl rfl (by decide) rfl rfl ho1 (Reads.row (k := 1) (sz := 3) (.head _) (Nat.le_of_ble_eq_true rfl)) rfl (by show (_ + 1) * 24 ≤ _; omega) (by unfold maxLen; omega) ?_); intro x1 e2 ho2 _
    refine OWp.dropAt 0 rfl ?_
    refine OWp.evs 1 rfl ?_
    refine OWp.nil ?_
    refine Wp.seq (Wp.region ?_)
    refine OWp.evs 5 rfl ?_
    refine OWp.load (List.mem_append_right _ (List.mem_append_right _ (.head _))) rfl rfl rfl rfl rfl ?_
    refine OWp.evs 1 rfl ?_
    refine OWp.g rfl rfl (hg2 rfl rfl rfl rfl ⟨_, _, rfl, rfl⟩ rfl) ?_
    refine OWp.step rfl (Step.appendAt [] rfl rfl rfl rfl rfl rfl (by decide) rfl rfl ho2 (hr2.mono fun x hx => List.mem_append_right _ (List.mem_append_right _ (.tail _ (List.mem_append_left _ hx)))) (tcs_cells _) (by show (_ + _) * 24 ≤ _; omega) (by unfold maxLen; omega) ?_)
    intro v3 e3 ho3 _
    obtain ⟨xa, xc, rfl⟩ := ho3.reads.form
    refine OWp.permS (S' := rE r _ now (put + 1) :: (e3 ++ (le ++ S))) List.perm_middle ?_
    refine OWp.evs 2 rfl ?_
    refine OWp.step rfl (Step.storeAs 0 [.slice xa (0 + i + 1 + (L.length - i)) xc, .int .i64 (now : Int), .int .i64 ((put + 1 : Nat) : Int)] rfl rfl rfl rfl rfl hB rfl (Unfz.zero _) rfl (Nat.le_of_ble_eq_true rfl) rfl rfl ?_)
    refine OWp.nil ?_
    refine Wp.seq (Wp.region ?_)
    refine OWp.evs 3 rfl ?_
    refine OWp.load (.head _) rfl rfl rfl rfl rfl ?_
    refine OWp.evs 2 rfl ?_
    refine OWp.nil ?_
    refine Wp.ret ⟨trivial, _, ⟨_, _, rfl, rfl, _, _, rfl, rfl, rfl⟩, ?_⟩
    refine ⟨_, _, .refl _, .cons_cons _ ((List.Sublist.refl _).append (List.sublist_append_right _ _)), H _ ⟨hB, ins_up hup, _, _, ?_, rfl⟩⟩
    rw [hins, show (L.take i ++ (⟨a, id, put + 1⟩ : T) :: L.drop i).length = 0 + i + 1 + (L.length - i) by simp; omega]
    rw [show tcs (L.take i ++ (⟨a, id, put + 1⟩ : T) :: L.drop i) = [] ++ tcs (L.take i) ++ tc ⟨a, id, put + 1⟩ ++ tcs (L.drop i) by simp [tcs]]
    exact ho3
  have e1 : IntKind.i64.wrap ((i : Int) - 1) = ((i - 1 : Nat) : Int) := by rw [i64_id] <;> omega
  have hi1 : i - 1 < L.length := by omega
  obtain ⟨b1, o1, c1, L1, e, fz, hvl, hm, hat⟩ := tcell_at hown.reads (by omega)
  cases hvl
  refine OWp.evs 3 rfl ?_
  refine OWp.part 38 rfl (fun cc6 => ?_) (fun cc6 => absurd (of_decide_eq_false cc6) (by omega))
  have cc6 := of_decide_eq_true cc6
  refine OWp.evs 3 rfl ?_
  refine OWp.load (.head _) rfl rfl rfl rfl rfl ?_
  refine OWp.evs 2 rfl ?_
  refine OWp.g rfl rfl (Gives.indexAddrSlice ((i - 1)) rfl rfl rfl rfl rfl e1 (by omega)) ?_
  refine OWp.evs 1 rfl ?_
  refine OWp.load (.tail _ (List.mem_append_left _ hm)) rfl rfl rfl rfl (hat (i - 1) hi1).1 ?_
  refine OWp.evs 3 rfl ?_
  refine OWp.nil ?_
  refine Wp.cond rfl (fun h2 => ?_) (fun h2 => ?_)
  · have h2 := of_decide_eq_true h2
    refine Wp.skip ?_
    refine Wp.block ?_
    refine Wp.region ?_
    refine OWp.evs 3 rfl ?_
    refine OWp.nil ?_
    refine ⟨i - 1, by omega, ⟨by omega, fun u hu => ?_⟩, .cons rfl (.cons rfl (.cons rfl (.cons' rfl (int_eq e1) (.nil _)))), .refl _⟩
    rw [List.drop_eq_getElem_cons hi1, show i - 1 + 1 = i by omega] at hu
    rcases List.mem_cons.1 hu with rfl | hu
    · omega
    · exact hab u hu
  have h2 := of_decide_eq_false h2
  have hbel := take_below hup (i := i) (a := a) (.inr ⟨hi1, by omega⟩)
  have hins := ins_split (t := ⟨a, id, put + 1⟩) hbel hab
  obtain ⟨u1, hg1, hr1⟩ := cutOf hown (l := 0) (h' := i) (Nat.zero_le _) hi
  obtain ⟨u2, hg2, hr2⟩ := cutOf hown (l := i) (h' := L.length) hi (Nat.le_refl _)
  rw [List.drop_zero, Nat.sub_zero] at hr1
  rw [List.take_of_length_le (by rw [List.length_drop]; exact Nat.le_refl _)] at hr2
  refine Wp.exit ?_
  refine Wp.seq (Wp.region ?_)
  refine OWp.evs 1 rfl ?_
  refine OWp.nil ?_
  refine Wp.seq (Wp.region ?_)
  refine OWp.evs 4 rfl ?_
  refine OWp.load (.head _) rfl rfl rfl rfl rfl ?_
  refine OWp.evs 1 rfl ?_
  refine OWp.g rfl rfl (hg1 rfl rfl rfl rfl rfl ⟨_, _, rfl, rfl⟩) ?_
  refine OWp.step rfl (Step.appendAt (es := []) [] rfl rfl rfl rfl rfl rfl (by decide) rfl rfl (Own.nil _ _ _) (hr1.mono fun x hx => .tail _ (List.mem_append_left _ hx)) (tcs_cells _) (by show (_ + _) * 24 ≤ _; omega) (by unfold maxLen; omega) ?_)
  intro v1 e1 ho1 _
  refine OWp.evs 1 rfl ?_
  refine OWp.nil ?_
  refine Wp.seq (Wp.region ?_)
  refine OWp.evs 6 rfl ?_
  refine OWp.load (List.mem_append_right _ (List.mem_append_right _ (.head _))) rfl rfl rfl rfl rfl ?_
  refine OWp.g rfl rfl (Gives.build rfl rfl) ?_
  refine OWp.step rfl (Step.buildSlice rfl rfl rfl ?_); intro Lp7 hBLp7 hLLp7
  refine OWp.step rfl (Step.appendAt [_] rfl rfl rfl rfl rfl rfl (by decide) rfl rfl ho1 (Reads.row (k := 1) (sz := 3) (.head _) (Nat.le_of_ble_eq_true rfl)) rfl (by show (_ + 1) * 24 ≤ _; omega) (by unfold maxLen; omega) ?_); intro x1 e2 ho2 _
  refine OWp.dropAt 0 rfl ?_
  refine OWp.evs 1 rfl ?_
  refine OWp.nil ?_
  refine Wp.seq (Wp.region ?_)
  refine OWp.evs 5 rfl ?_
  refine OWp.load (List.mem_append_right _ (List.mem_append_right _ (.head _))) rfl rfl rfl rfl rfl ?_
  refine OWp.evs 1 rfl ?_
  refine OWp.g rfl rfl (hg2 rfl rfl rfl rfl ⟨_, _, rfl, rfl⟩ rfl) ?_
  refine OWp.step rfl (Step.appendAt [] rfl rfl rfl rfl rfl rfl (by decide) rfl rfl ho2 (hr2.mono fun x hx => List.mem_append_right _ (List.mem_append_right _ (.tail _ (List.mem_append_left _ hx)))) (tcs_cells _) (by show (_ + _) * 24 ≤ _; omega) (by unfold maxLen; omega) ?_)
  intro v3 e3 ho3 _
  obtain ⟨xa, xc, rfl⟩ := ho3.reads.form
  refine OWp.permS (S' := rE r _ now (put + 1) :: (e3 ++ (le ++ S))) List.perm_middle ?_
  refine OWp.evs 2 rfl ?_
  refine OWp.step rfl (Step.storeAs 0 [.slice xa (0 + i + 1 + (L.length - i)) xc, .int .i64 (now : Int), .int .i64 ((put + 1 : Nat) : Int)] rfl rfl rfl rfl rfl hB rfl (Unfz.zero _) rfl (Nat.le_of_ble_eq_true rfl) rfl rfl ?_)
  refine OWp.nil ?_
  refine Wp.seq (Wp.region ?_)
  refine OWp.evs 3 rfl ?_
  refine OWp.load (.head _) rfl rfl rfl rfl rfl ?_
  refine OWp.evs 2 rfl ?_
  refine OWp.nil ?_
  refine Wp.ret ⟨trivial, _, ⟨_, _, rfl, rfl, _, _, rfl, rfl, rfl⟩, ?_⟩
  refine ⟨_, _, .refl _, .cons_cons _ ((List.Sublist.refl _).append (List.sublist_append_right _ _)), H _ ⟨hB, ins_up hup, _, _, ?_, rfl⟩⟩
  rw [hins, show (L.take i ++ (⟨a, id, put + 1⟩ : T) :: L.drop i).length = 0 + i + 1 + (L.length - i) by simp; omega]
  rw [show tcs (L.take i ++ (⟨a, id, put + 1⟩ : T) :: L.drop i) = [] ++ tcs (L.take i) ++ tc ⟨a, id, put + 1⟩ ++ tcs (L.drop i) by simp [tcs]]
  exact ho3
theorem rPutLateC {r now put : Nat} {L : List T} {W : Ents} {za id : Int} (h : Rf B r L now put W) (hs : ∀ x ∈ W, x ∈ S) (ha : za ≤ (now : Int)) (H : Q (.tuple #[.int .i64 0, .int .i64 140]) S) :
    CallWp Try.prog B 19 #[pt r, .int .i64 za, .int .i64 id] Q S := by
  obtain ⟨hB, hup, lv, le, hown, rfl⟩ := h
  refine CallWp.enter (args := [_, _, _]) Try.func19 rfl Try.ntmps19 rfl ?_
  refine Wp.seq (Wp.region ?_)
  refine OWp.evs 2 rfl ?_
  refine OWp.nil ?_
  refine Wp.seq ?_
  refine Wp.seq (Wp.region ?_)
  refine OWp.evs 4 rfl ?_
  refine OWp.load (hs _ (.head _)) rfl rfl rfl rfl rfl ?_
  refine OWp.evs 1 rfl ?_
  refine OWp.nil ?_
  refine Wp.cond rfl (fun cc1 => ?_) (fun cc1 => absurd (of_decide_eq_false cc1) (by omega))
  have cc1 := of_decide_eq_true cc1
  refine Wp.seq (Wp.region ?_)
  refine OWp.evs 2 rfl ?_
  refine OWp.nil ?_
  refine Wp.ret ⟨trivial, _, ⟨_, _, rfl, rfl, _, _, rfl, rfl, rfl⟩, ?_⟩
  exact H
theorem rPutFarC {r now put : Nat} {L : List T} {W : Ents} {za id : Int} (h : Rf B r L now put W) (hs : ∀ x ∈ W, x ∈ S) (ha : (now : Int) < za) (ha2 : 1099511627776 < za) (H : Q (.tuple #[.int .i64 0, .int .i64 1]) S) :
    CallWp Try.prog B 19 #[pt r, .int .i64 za, .int .i64 id] Q S := by
  obtain ⟨hB, hup, lv, le, hown, rfl⟩ := h
  refine CallWp.enter (args := [_, _, _]) Try.func19 rfl Try.ntmps19 rfl ?_
  refine Wp.seq (Wp.region ?_)
  refine OWp.evs 2 rfl ?_
  refine OWp.nil ?_
  refine Wp.seq ?_
  refine Wp.seq (Wp.region ?_)
  refine OWp.evs 4 rfl ?_
  refine OWp.load (hs _ (.head _)) rfl rfl rfl rfl rfl ?_
  refine OWp.evs 1 rfl ?_
  refine OWp.nil ?_
  refine Wp.cond rfl (fun cc1 => absurd (of_decide_eq_true cc1) (by omega)) (fun cc1 => ?_)
  have cc1 := of_decide_eq_false cc1
  refine Wp.skip ?_
  refine Wp.seq ?_
  refine Wp.seq (Wp.region ?_)
  refine OWp.evs 2 rfl ?_
  refine OWp.nil ?_
  refine Wp.cond rfl (fun cc2 => ?_) (fun cc2 => absurd (of_decide_eq_false cc2) (by omega))
  have cc2 := of_decide_eq_true cc2
  refine Wp.seq (Wp.region ?_)
  refine OWp.evs 2 rfl ?_
  refine OWp.nil ?_
  refine Wp.ret ⟨trivial, _, ⟨_, _, rfl, rfl, _, _, rfl, rfl, rfl⟩, ?_⟩
  exact H
theorem rPutFullC {r now put : Nat} {L : List T} {W : Ents} {za id : Int} (h : Rf B r L now put W) (hs : ∀ x ∈ W, x ∈ S) (hl : 4096 ≤ L.length) (ha : (now : Int) < za) (ha2 : za ≤ 1099511627776) (H : Q (.tuple #[.int .i64 0, .int .i64 2]) S) :
    CallWp Try.prog B 19 #[pt r, .int .i64 za, .int .i64 id] Q S := by
  obtain ⟨hB, hup, lv, le, hown, rfl⟩ := h
  obtain ⟨la, lc, rfl⟩ := hown.reads.form
  refine CallWp.enter (args := [_, _, _]) Try.func19 rfl Try.ntmps19 rfl ?_
  refine Wp.seq (Wp.region ?_)
  refine OWp.evs 2 rfl ?_
  refine OWp.nil ?_
  refine Wp.seq ?_
  refine Wp.seq (Wp.region ?_)
  refine OWp.evs 4 rfl ?_
  refine OWp.load (hs _ (.head _)) rfl rfl rfl rfl rfl ?_
  refine OWp.evs 1 rfl ?_
  refine OWp.nil ?_
  refine Wp.cond rfl (fun cc1 => absurd (of_decide_eq_true cc1) (by omega)) (fun cc1 => ?_)
  have cc1 := of_decide_eq_false cc1
  refine Wp.skip ?_
  refine Wp.seq ?_
  refine Wp.seq (Wp.region ?_)
  refine OWp.evs 2 rfl ?_
  refine OWp.nil ?_
  refine Wp.cond rfl (fun cc2 => absurd (of_decide_eq_true cc2) (by omega)) (fun cc2 => ?_)
  have cc2 := of_decide_eq_false cc2
  refine Wp.skip ?_
  refine Wp.seq ?_
  refine Wp.seq (Wp.region ?_)
  refine OWp.evs 3 rfl ?_
  refine OWp.load (hs _ (.head _)) rfl rfl rfl rfl rfl ?_
  refine OWp.evs 2 rfl ?_
  refine OWp.nil ?_
  refine Wp.cond rfl (fun cc3 => ?_) (fun cc3 => absurd (of_decide_eq_false cc3) (by omega))
  have cc3 := of_decide_eq_true cc3
  refine Wp.seq (Wp.region ?_)
  refine OWp.evs 2 rfl ?_
  refine OWp.nil ?_
  refine Wp.ret ⟨trivial, _, ⟨_, _, rfl, rfl, _, _, rfl, rfl, rfl⟩, ?_⟩
  exact H
/-- The first of a list in order. -/
theorem rNextC {r now put : Nat} {L : List T} {W : Ents} (h : Rf B r L now put W) (hs : ∀ x ∈ W, x ∈ S)
    (H0 : L = [] → Q (.tuple #[.int .i64 0, .bool false]) S) (H1 : ∀ t l, L = t :: l → Q (.tuple #[iv (t.due : Int), .bool true]) S) :
    CallWp Try.prog B 23 #[pt r] Q S := by
  obtain ⟨hB, hup, lv, le, hown, rfl⟩ := h
  obtain ⟨la, lc, rfl⟩ := hown.reads.form
  refine CallWp.enter (args := [_]) Try.func23 rfl Try.ntmps23 rfl ?_
  refine Wp.seq (Wp.region ?_)
  refine OWp.evs 2 rfl ?_
  refine OWp.nil ?_
  refine Wp.seq ?_
  refine Wp.seq (Wp.region ?_)
  refine OWp.evs 3 rfl ?_
  refine OWp.load (hs _ (.head _)) rfl rfl rfl rfl rfl ?_
  by_cases h0 : L = []
  · skip
    refine OWp.evs 2 rfl ?_
    refine OWp.nil ?_
    refine Wp.cond rfl (fun cc1 => ?_) (fun cc1 => absurd (of_decide_eq_false cc1) (by rw [h0]; exact fun h => h rfl))
    have cc1 := of_decide_eq_true cc1
    refine Wp.seq (Wp.region ?_)
    refine OWp.evs 2 rfl ?_
    refine OWp.nil ?_
    refine Wp.ret ⟨trivial, _, ⟨_, _, rfl, rfl, _, _, rfl, rfl, rfl⟩, ?_⟩
    exact H0 h0
  obtain ⟨t, l, hL⟩ := List.exists_cons_of_ne_nil h0
  have hpos : 0 < L.length := List.length_pos_iff.2 h0
  obtain ⟨b1, o1, c1, L1, e, fz, hvl, hm, hat⟩ := tcell_at hown.reads hpos
  cases hvl
  refine OWp.evs 2 rfl ?_
  refine OWp.nil ?_
  refine Wp.cond rfl (fun cc2 => absurd (of_decide_eq_true cc2) (by omega)) (fun cc2 => ?_)
  have cc2 := of_decide_eq_false cc2
  refine Wp.skip ?_
  refine Wp.seq (Wp.region ?_)
  refine OWp.evs 3 rfl ?_
  refine OWp.load (hs _ (.head _)) rfl rfl rfl rfl rfl ?_
  refine OWp.g rfl rfl (Gives.indexAddrSlice (0) rfl rfl rfl rfl rfl rfl (by omega)) ?_
  refine OWp.evs 1 rfl ?_
  refine OWp.load (hs _ (.tail _ hm)) rfl rfl rfl rfl (hat 0 hpos).1 ?_
  refine OWp.evs 2 rfl ?_
  refine OWp.nil ?_
  refine Wp.ret ⟨trivial, _, ⟨_, _, rfl, rfl, _, _, rfl, rfl, rfl⟩, ?_⟩
  have e0 : L[0] = t := by simp [hL]
  rw [e0]
  exact H1 t l hL
end
end Go.Proofs.E
