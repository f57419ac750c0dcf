/- What functions of the given program do, one after the other, told by that layer. -/
import Derived.Test.YtdgbbfbgakeaaaaARoute5
import Derived.Test.YtdgbbfbgakeaaaaARd
namespace Go.Proofs.C
open Go.Lg
set_option maxRecDepth 100000

theorem rdHopL {S : Ents} {r : List Value} (h : Rd Try.prog S 63 r) : ∃ x : Hop, r = x.cells ∧ x.id.length ≤ lim := by
  obtain ⟨hl, hf⟩ := h.open_struct Try.underlying63
  obtain ⟨a, ha, _⟩ := (hf _ (.head _)).open_int Try.underlying3
  obtain ⟨b, hb, _⟩ := (hf _ (.tail _ (.head _))).open_int Try.underlying3
  obtain ⟨c, hc, _⟩ := (hf _ (.tail _ (.tail _ (.head _)))).open_int Try.underlying3
  obtain ⟨d, hd, _⟩ := (hf _ (.tail _ (.tail _ (.tail _ (.head _))))).open_int Try.underlying3
  obtain ⟨e, he, hw⟩ := (hf _ (.tail _ (.tail _ (.tail _ (.tail _ (.head _)))))).open_str Try.underlying9
  refine ⟨⟨a, b, c, d, e⟩, ?_, by unfold reachBytes at hw; show e.length ≤ lim; unfold lim; omega⟩
  match r, hl with
  | [x1, x2, x3, x4, x5], _ =>
    cases ha; cases hb; cases hc; cases hd; cases he
    rfl

theorem rdHop {S : Ents} {z : Array Value} (h : Rd Try.prog S 63 z.toList) : ∃ x : Hop, z = x.cells.toArray ∧ x.id.length ≤ lim := by
  obtain ⟨x, hx, hl⟩ := rdHopL h
  exact ⟨x, by rw [← hx], hl⟩

theorem rdHops {S : Ents} {v : Value} (h : Rd Try.prog S 67 [v]) : ∃ l : List Hop, Reads S 5 v l.length (l.flatMap Hop.cells) ∧ l.length ≤ 2932031007320 ∧ ∀ x ∈ l, x.id.length ≤ lim := by
  obtain ⟨l, hr, hw, _, hp⟩ := h.rows (f := Hop.cells) (p := fun x => x.id.length ≤ lim) Try.underlying67 (sz := 5) rfl (fun r hr => by
    obtain ⟨x, hx, hl⟩ := rdHopL hr
    exact ⟨x, hx, hl⟩)
  refine ⟨l, hr, ?_, hp⟩
  have : l.length * 48 ≤ reachBytes := hw
  unfold reachBytes at this; omega

theorem _root_.Go.Lg.Reads.take {S : Ents} {sz n m cap cap' b o : Nat} {xs : List Value} (h : Reads S sz (.slice (some ⟨b, o, none⟩) n cap) n xs) (hm : m ≤ n) (h0 : 0 < n) :
    Reads S sz (.slice (some ⟨b, o, none⟩) m cap') m (xs.take (m * sz)) := by
  obtain ⟨hl, ⟨_, hk⟩ | ⟨b', o', cap2, l, e, fz, hv, hmm, hle, hx⟩⟩ := h
  · omega
  · cases hv
    have h1 : m * sz ≤ n * sz := Nat.mul_le_mul_right _ hm
    refine ⟨by rw [List.length_take]; omega, .inr ⟨b, o, cap', l, e, fz, rfl, hmm, by omega, ?_⟩⟩
    rw [← hx, List.take_take, Nat.min_eq_left h1]

theorem flat_take (l : List Hop) (m : Nat) (h : m ≤ l.length) : (l.flatMap Hop.cells).take (m * 5) = (l.take m).flatMap Hop.cells := by
  induction m generalizing l with
  | zero => simp
  | succ m ih =>
    cases l with
    | nil => simp at h
    | cons x l =>
      have := ih l (by simpa using h)
      rw [List.flatMap_cons, List.take_succ_cons, List.flatMap_cons, ← this, show (m + 1) * 5 = x.cells.length + m * 5 by rw [Hop.len]; omega, List.take_length_add_append]

def encB (x : Hop) : List UInt8 := if hopP x then hopB x else []

section
variable {B : Nat} {S R : Ents} {Q : Value → Ents → Prop}

theorem encodeC {x : Hop} (h : Q (.tuple #[.string (str (encB x)), .int .i64 (hopE x)]) S) : CallWp Try.prog B 40 #[.agg x.cells.toArray] Q S := by
  unfold encB hopE at h
  by_cases hp : hopP x
  · rw [if_pos hp, if_pos hp] at h; exact encode_yes hp h
  · rw [if_neg hp, if_neg hp] at h; exact encode_no hp h
theorem rencodeC {x : Hop} (h : Q (.tuple #[.string (str (encB x)), .int .i64 (hopE x)]) S) : CallWp Try.prog B 41 #[.agg x.cells.toArray] Q S := by
  unfold encB hopE at h
  by_cases hp : hopP x
  · rw [if_pos hp, if_pos hp] at h; exact rencode_yes hp h
  · rw [if_neg hp, if_neg hp] at h; exact rencode_no hp h
theorem decode_both (b : List UInt8) : ∃ (y : Hop) (e : Int),
    (∀ (B : Nat) (S : Ents) (Q : Value → Ents → Prop), Q (.tuple #[.agg y.cells.toArray, .int .i64 e]) S → CallWp Try.prog B 47 #[.string (str b)] Q S) ∧
    (∀ (B : Nat) (S : Ents) (Q : Value → Ents → Prop), Q (.tuple #[.agg y.cells.toArray, .int .i64 e]) S → CallWp Try.prog B 48 #[.string (str b)] Q S) ∧
    ((e = 0 ∧ hopP y ∧ hopB y = b) ∨ (e ≠ 0 ∧ y = Hop.zero ∧ ∀ x, hopP x → hopB x ≠ b)) := by
  by_cases hb : b.length = 24
  · by_cases hx : ∃ x, hopP x ∧ hopB x = b
    · obtain ⟨x, hp, hx⟩ := hx
      refine ⟨x, 0, fun B S Q h => decodeC hb ⟨fun y hy e => ?_, fun hn => (hn x hp hx).elim⟩, fun B S Q h => rdecodeC hb ⟨fun y hy e => ?_, fun hn => (hn x hp hx).elim⟩, .inl ⟨rfl, hp, hx⟩⟩
      · rw [hopB_inj hy hp (e.trans hx.symm)]; exact h
      · rw [hopB_inj hy hp (e.trans hx.symm)]; exact h
    · exact ⟨Hop.zero, 70, fun B S Q h => decodeC hb ⟨fun y hy e => (hx ⟨y, hy, e⟩).elim, fun _ => h⟩, fun B S Q h => rdecodeC hb ⟨fun y hy e => (hx ⟨y, hy, e⟩).elim, fun _ => h⟩, .inr ⟨by decide, rfl, fun x hp e => hx ⟨x, hp, e⟩⟩⟩
  · exact ⟨Hop.zero, 3, fun B S Q h => decode_len hb h, fun B S Q h => rdecode_len hb h, .inr ⟨by decide, rfl, fun x hp e => hb (by rw [← e]; exact hopB_len hp)⟩⟩

theorem rworks (h : Q (.bool true) S) : CallWp Try.prog B 44 #[] Q S := by
  refine CallWp.enter (args := []) Try.func44 rfl Try.ntmps44 rfl ?_
  refine Wp.seq (Wp.region ?_)
  refine OWp.evs 1 rfl ?_
  refine OWp.nil ?_
  refine Wp.seq (Wp.region ?_)
  refine OWp.g rfl rfl (Gives.build rfl rfl) ?_
  refine OWp.step rfl (Step.call rfl rfl rfl rfl rfl rfl ((encode_yes (x := ⟨1, 3, 0, 258, []⟩) (by decide) ?_)))
  refine OWp.evs 5 rfl ?_
  refine OWp.nil ?_
  refine Wp.seq (Wp.region ?_)
  refine OWp.evs 3 rfl ?_
  refine OWp.evs 1 rfl ?_
  refine OWp.step rfl (Step.makeSlice (len := 20) (cap := 20) rfl rfl rfl rfl rfl rfl (by decide) rfl rfl (Nat.le_refl _) (by decide) (by decide) ?_)
  intro L hBL hLL
  refine OWp.gives rfl rfl (Gives.bytesToStr (F := (L, cel (byteCells (List.replicate 20 0)) 5) :: S) (l := List.replicate 20 0) (k := 20) rfl rfl rfl rfl rfl (Reads.row (k := 20) (sz := 1) (cap := 20) (b := L) (l := byteCells (List.replicate 20 0)) (e := 5) (fz := (0, 0)) (.head _) (by decide))) (fun _ h => h) ?_
  refine OWp.g rfl rfl (Gives.addStr rfl rfl rfl (by first | omega | decide | (simp only [List.length_append, List.length_cons, List.length_nil]; omega))) ?_
  refine OWp.evs 3 rfl ?_
  refine OWp.part 17 rfl (fun cc1 => ?_) (fun cc1 => absurd (of_decide_eq_false cc1) (by decide))
  have cc1 := of_decide_eq_true cc1
  refine OWp.g rfl rfl (Gives.build rfl rfl) ?_
  refine OWp.g rfl rfl (Gives.build rfl rfl) ?_
  refine OWp.step rfl (Step.buildSlice rfl rfl rfl ?_); intro L2 hBL2 hLL2
  refine OWp.step rfl (Step.call rfl rfl rfl rfl rfl rfl ((pathC (l := [⟨1, 0, 0, 0, []⟩, ⟨4, 0, 0, 0, []⟩]) (Reads.row (k := 2) (sz := 5) (cap := 2) (.head _) (Nat.le_of_ble_eq_true rfl)) rfl (by decide) ?_)))
  rw [show pathE [⟨1, 0, 0, 0, []⟩, ⟨4, 0, 0, 0, []⟩] = 0 by decide]
  refine OWp.evs 3 rfl ?_
  refine OWp.step rfl (Step.call rfl rfl rfl rfl rfl rfl ((pathC (l := []) (Reads.nil _ 5) rfl (by decide) ?_)))
  rw [show pathE [] = 4 by decide]
  refine OWp.evs 3 rfl ?_
  refine OWp.nil ?_
  refine Wp.drop (S' := S) (by repeat (first | exact List.Sublist.refl _ | exact List.sublist_append_right _ _ | apply List.Sublist.cons)) ?_
  refine Wp.ret ⟨trivial, _, ⟨_, _, rfl, rfl, rfl⟩, ?_⟩
  exact h
end
end Go.Proofs.C
