/- What functions of the given program do, one after the other, told by that layer. -/
import Derived.Test.YtlhpbeldhpljnaaPM5xa080
namespace Go.Proofs.C
open Go.Lg
set_option maxRecDepth 100000

/-- Points, path, why not, where the tape stands. -/
abbrev WayT := List (List UInt8) × List Hop × Int × Nat
def HomeOf (h0 : List Nd) (ms : List (List Nd)) (ss : List St) (s : List UInt8) (k : Nat) (frm to : Int) (id : List UInt8) (mean most : Int) (w : WayT) : Prop :=
  (∃ a e, HostOf (h0 :: ms) ss frm a e ∧ e ≠ 0 ∧ w = ([], [], e, k)) ∨ (∃ a b e, HostOf (h0 :: ms) ss frm a 0 ∧ HostOf (h0 :: ms) ss to b e ∧ e ≠ 0 ∧ w = ([], [], e, k)) ∨
  (∃ a b, HostOf (h0 :: ms) ss frm a 0 ∧ HostOf (h0 :: ms) ss to b 0 ∧ ¬ hopP ⟨2, 0, to, 0, id⟩ ∧ w = ([], [], 70, k)) ∨
  (∃ a b, HostOf (h0 :: ms) ss frm a 0 ∧ HostOf (h0 :: ms) ss to b 0 ∧ hopP ⟨2, 0, to, 0, id⟩ ∧ w = wayR s k a b ms ⟨2, 0, to, 0, id⟩ mean most)
def LooseOf (h0 : List Nd) (ms : List (List Nd)) (ss : List St) (s : List UInt8) (k : Nat) (frm number : Int) (h : Hop) (mean most : Int) (w : WayT) : Prop :=
  (∃ a e, HostOf (h0 :: ms) ss frm a e ∧ e ≠ 0 ∧ w = ([], [], e, k)) ∨ (∃ a, HostOf (h0 :: ms) ss frm a 0 ∧ (¬ ∃ x, findP (h0 :: ms) number = some x ∧ x.1 ≤ 0) ∧ w = ([], [], 5, k)) ∨
  (∃ a b ly, HostOf (h0 :: ms) ss frm a 0 ∧ findP (h0 :: ms) number = some (ly, b) ∧ ly ≤ 0 ∧ ¬ looseP h ∧ w = ([], [], 70, k)) ∨
  (∃ a b ly, HostOf (h0 :: ms) ss frm a 0 ∧ findP (h0 :: ms) number = some (ly, b) ∧ ly ≤ 0 ∧ looseP h ∧ w = wayR s k a b ms h mean most)

/-- What a way's value is in memory. -/
def WayIn (B : Nat) (w : WayT) (pv qv : Value) (es1 es2 : Ents) : Prop := Lg.Own B 9 1 pv w.1.length (txt w.1) es1 ∧ Lg.Own B 43 5 qv w.2.1.length (w.2.1.flatMap Hop.cells) es2
theorem WayIn.none (B : Nat) (e : Int) (k : Nat) : WayIn B ([], [], e, k) (.slice none 0 0) (.slice none 0 0) [] [] := ⟨Own.nil _ _ _, Own.nil _ _ _⟩
def WayPost (B : Nat) (s : List UInt8) (k p : Nat) (ms : List (List Nd)) (h : Hop) (mean most : Int) (R : Ents) (a b : Nd) (way : List Value) (e : Int) (F G : Ents) : Prop :=
  e = (wayR s k a b ms h mean most).2.2.1 ∧ ∃ pv qv es1 es2, way = [pv, qv] ∧ F = tp p s (wayR s k a b ms h mean most).2.2.2 :: (es1 ++ es2) ∧ G = R ∧ WayIn B (wayR s k a b ms h mean most) pv qv es1 es2

section
variable {B : Nat} {S R : Ents} {Q : Value → Ents → Prop} {p k : Nat} {s : List UInt8} {hv mv sv : Value} {h0 : List Nd} {ms : List (List Nd)} {ss : List St} {a b : Nd} {h : Hop} {mean most : Int}
theorem tapeSpec (hB : B ≤ p) (hs : s.length ≤ lim) (hk : k ≤ s.length) (hT : TIn R hv mv sv h0 ms ss) (hok : TownOk (h0 :: ms) ss) :
    DrawSpec 33 B (.agg #[hv, mv, sv]) (pt p) (.agg #[.int .i64 mean, .int .i64 most]) h (tp p s k :: R) (WayPost B s k p ms h mean most R) := by
  intro a b L Q H
  refine CallWp.permS List.perm_middle ?_
  refine drawWC hB hs hk (hT.mono fun x hx => List.mem_append_right _ hx) hok ?_
  intro pv qv es1 es2 h1 h2
  obtain ⟨pa, pc, hp⟩ := h1.reads.form
  obtain ⟨qa, qc, hq⟩ := h2.reads.form
  have := H pa _ pc qa _ qc _ _ R ⟨rfl, pv, qv, es1, es2, by rw [hp, hq], rfl, rfl, h1, h2⟩
  rw [List.cons_append, List.append_assoc] at this
  rw [hp, hq]
  exact this
theorem nilSpec (hm : mayP most [mean]) : DrawSpec 33 B (.agg #[hv, mv, sv]) (.pointer none) (.agg #[.int .i64 mean, .int .i64 most]) h R (fun _ _ way e F G => way = [.slice none 0 0, .slice none 0 0] ∧ e = 120 ∧ F = [] ∧ G = R) := by
  intro a b L Q H
  have := H none 0 0 none 0 0 120 [] R ⟨rfl, rfl, rfl, rfl⟩
  refine CallWp.dropRet ?_
  refine CallWp.enter (args := [_, _, _, _, _, _]) Try.func33 rfl Try.ntmps33 rfl ?_
  refine Wp.seq (Wp.region ?_)
  refine OWp.step rfl (Step.box rfl rfl rfl ?_); intro L6 hBL6 hLL6
  refine OWp.step rfl (Step.box rfl rfl rfl ?_); intro L8 hBL8 hLL8
  refine OWp.step rfl (Step.box rfl rfl rfl ?_); intro L9 hBL9 hLL9
  refine OWp.step rfl (Step.box rfl rfl rfl ?_); intro L10 hBL10 hLL10
  refine OWp.step rfl (Step.box rfl rfl rfl ?_); intro L11 hBL11 hLL11
  refine OWp.step rfl (Step.alloc rfl rfl rfl ?_); intro L12 hBL12 hLL12
  refine OWp.evs 1 rfl ?_
  refine OWp.nil ?_
  refine Wp.seq ?_
  refine Wp.seq (Wp.region ?_)
  refine OWp.evs 1 rfl ?_
  refine OWp.load (.tail _ (.head _)) rfl rfl rfl rfl rfl ?_
  refine OWp.evs 1 rfl ?_
  refine OWp.load (.tail _ (.head _)) rfl rfl rfl rfl rfl ?_
  refine OWp.step rfl (Step.call rfl rfl rfl rfl rfl rfl ((tableY hm ?_)))
  intro LT uT lT hBT
  refine OWp.evs 5 rfl ?_
  refine OWp.nil ?_
  refine Wp.seq (Wp.region ?_)
  refine OWp.evs 2 rfl ?_
  refine OWp.nil ?_
  refine Wp.cond rfl (fun cc1 => absurd (ndT cc1) (by exact fun h => h rfl)) (fun cc1 => ?_)
  have cc1 := ndF cc1
  refine Wp.skip ?_
  refine Wp.seq ?_
  refine Wp.seq (Wp.regionDraw [0, 1, 2, 3, 4, 5, 7, 6, 8, 9, 10, 11] [6, 8] rfl (by decide +kernel) ?_)
  refine DWp.evs 3 rfl ?_
  refine DWp.evs 4 rfl ?_
  refine DWp.stepSkip rfl rfl rfl rfl ?_
  refine DWp.stepSkip rfl rfl rfl rfl ?_
  refine DWp.evs 3 rfl ?_
  refine DWp.nil ?_
  refine Wp.cond rfl (fun _ => ?_) (fun c => nomatch c)
  refine Wp.seq (Wp.region ?_)
  refine OWp.g rfl rfl (Gives.build rfl rfl) ?_
  refine OWp.step rfl (Step.storeAs 1 ([.slice none 0 0, .slice none 0 0]) rfl rfl rfl rfl rfl (by assumption) rfl (Unfz.zero _) rfl (Nat.le_of_ble_eq_true rfl) rfl rfl ?_)
  refine OWp.evs 1 rfl ?_
  refine OWp.nil ?_
  refine Wp.ret ⟨trivial, _, ⟨_, _, _, _, rfl, rfl, ⟨_, _, _, (by repeat (first | exact List.Mem.head _ | assumption | exact List.mem_append_left _ (by assumption) | apply List.mem_cons_of_mem | apply List.mem_append_right)), (by first | assumption | rfl)⟩, ⟨_, _, rfl, rfl, rfl⟩⟩, ?_⟩
  exact ⟨_, (by repeat (first | exact List.Sublist.refl _ | exact List.sublist_append_right _ _ | apply List.Sublist.cons)), this⟩
theorem homeC {frm to : Int} {id : List UInt8} (hB : B ≤ p) (hs : s.length ≤ lim) (hk : k ≤ s.length) (hT : TIn R hv mv sv h0 ms ss)
    (H : ∀ w pv qv es1 es2, HomeOf h0 ms ss s k frm to id mean most w → WayIn B w pv qv es1 es2 → Q (.tuple #[.agg #[pv, qv], .int .i64 w.2.2.1]) (tp p s w.2.2.2 :: (es1 ++ (es2 ++ R)))) :
    CallWp Try.prog B 19 #[.agg #[hv, mv, sv], pt p, .int .i64 frm, .int .i64 to, .string (str id), .agg #[.int .i64 mean, .int .i64 most]] Q (tp p s k :: R) := by
  refine homeG (hT.mono fun _ h => .tail _ h) (fun hok hp => tapeSpec hB hs hk hT hok) ?_ ?_ ?_ ?_
  · intro a e ha he
    exact H _ _ _ _ _ (.inl ⟨a, e, ha, he, rfl⟩) (WayIn.none _ _ _)
  · intro a b e ha hb he
    exact H _ _ _ _ _ (.inr (.inl ⟨a, b, e, ha, hb, he, rfl⟩)) (WayIn.none _ _ _)
  · intro a b ha hb hp
    exact H _ _ _ _ _ (.inr (.inr (.inl ⟨a, b, ha, hb, hp, rfl⟩))) (WayIn.none _ _ _)
  · rintro a b a1 n1 c1 a2 n2 c2 e F G ha hb hp ⟨rfl, pv, qv, es1, es2, hw, rfl, rfl, hin⟩
    have := H _ _ _ _ _ (.inr (.inr (.inr ⟨a, b, ha, hb, hp, rfl⟩))) hin
    rw [hw, List.cons_append, List.append_assoc]
    exact this
theorem looseC {frm number : Int} (hB : B ≤ p) (hs : s.length ≤ lim) (hk : k ≤ s.length) (hT : TIn R hv mv sv h0 ms ss)
    (H : ∀ w pv qv es1 es2, LooseOf h0 ms ss s k frm number h mean most w → WayIn B w pv qv es1 es2 → Q (.tuple #[.agg #[pv, qv], .int .i64 w.2.2.1]) (tp p s w.2.2.2 :: (es1 ++ (es2 ++ R)))) :
    CallWp Try.prog B 23 #[.agg #[hv, mv, sv], pt p, .int .i64 frm, .int .i64 number, .agg h.cells.toArray, .agg #[.int .i64 mean, .int .i64 most]] Q (tp p s k :: R) := by
  refine looseG (hT.mono fun _ h => .tail _ h) (fun hok hp => tapeSpec hB hs hk hT hok) ?_ ?_ ?_ ?_
  · intro a e ha he
    exact H _ _ _ _ _ (.inl ⟨a, e, ha, he, rfl⟩) (WayIn.none _ _ _)
  · intro a ha hx
    exact H _ _ _ _ _ (.inr (.inl ⟨a, ha, hx, rfl⟩)) (WayIn.none _ _ _)
  · intro a b ly ha hb hl hp
    exact H _ _ _ _ _ (.inr (.inr (.inl ⟨a, b, ly, ha, hb, hl, hp, rfl⟩))) (WayIn.none _ _ _)
  · rintro a b ly a1 n1 c1 a2 n2 c2 e F G ha hb hl hp ⟨rfl, pv, qv, es1, es2, hw, rfl, rfl, hin⟩
    have := H _ _ _ _ _ (.inr (.inr (.inr ⟨a, b, ly, ha, hb, hl, hp, rfl⟩))) hin
    rw [hw, List.cons_append, List.append_assoc]
    exact this
end
end Go.Proofs.C

namespace Go.Proofs.C
open Go.Lg
set_option maxRecDepth 100000

def pt0 : List UInt8 := List.replicate 32 0
def idW : List UInt8 := [115, 105, 120, 116, 101, 101, 110, 32, 98, 121, 116, 101, 115, 32, 33, 33]
theorem wTown : TownOk [[((0 : Int), pt0)], [((1 : Int), pt0)]] [((7 : Int), (0 : Int))] := by
  refine ⟨⟨by decide, by decide, by simp⟩, nodesOk_iff.2 ⟨?_, by decide⟩, ?_, by decide⟩
  · intro x hx
    simp only [List.flatten_cons, List.flatten_nil, List.cons_append, List.nil_append, List.mem_cons, List.mem_nil_iff, or_false] at hx
    rcases hx with rfl | rfl <;> exact ⟨by decide, by decide, rfl⟩
  · intro x hx
    rw [List.mem_singleton.1 hx]
    exact ⟨⟨(0, (0, pt0)), rfl, by decide⟩, by decide, by decide⟩
theorem wHost : HostOf [[((0 : Int), pt0)], [((1 : Int), pt0)]] [((7 : Int), (0 : Int))] 7 (0, pt0) 0 :=
  .inl ⟨wTown, .inl ⟨(7, 0), 0, rfl, rfl, by decide, rfl⟩⟩
theorem wMay : mayP 0 [0] := ⟨by decide, by decide, by decide⟩
theorem wHop : hopP ⟨2, 0, 7, 0, idW⟩ := by decide
def s0 : List UInt8 := List.replicate 12 0
theorem wWay : wayR s0 0 (0, pt0) (0, pt0) [[((1 : Int), pt0)]] ⟨2, 0, 7, 0, idW⟩ 0 0 = ([pt0, pt0, pt0], [⟨1, 1, 0, 0, []⟩, ⟨1, 0, 0, 0, []⟩, ⟨2, 0, 7, 0, idW⟩], 0, 12) := by
  unfold wayR
  rw [if_neg (by simpa using wMay), if_neg (by decide)]
  rfl
theorem wHome {w : WayT} (h : HomeOf [((0 : Int), pt0)] [[((1 : Int), pt0)]] [((7 : Int), (0 : Int))] s0 0 7 7 idW 0 0 w) : w = ([pt0, pt0, pt0], [⟨1, 1, 0, 0, []⟩, ⟨1, 0, 0, 0, []⟩, ⟨2, 0, 7, 0, idW⟩], 0, 12) := by
  rcases h with ⟨a, e, ha, he, _⟩ | ⟨a, b, e, ha, hb, he, _⟩ | ⟨a, b, ha, hb, hp, _⟩ | ⟨a, b, ha, hb, hp, rfl⟩
  · exact absurd (hostOf_one ha wHost).2 he
  · exact absurd (hostOf_one hb wHost).2 he
  · exact absurd wHop hp
  · rw [(hostOf_one ha wHost).1, (hostOf_one hb wHost).1]; exact wWay

theorem hopSelf (x : Hop) : eqIn Try.prog 10 43 (.agg x.cells.toArray) (.agg x.cells.toArray) = some true := by
  have h : eqIn Try.prog 10 43 (.agg x.cells.toArray) (.agg x.cells.toArray) = some (eqHop x x) := by rfl
  rw [h, eqHop_iff.2 rfl]
theorem homeNilW {B : Nat} {S : Ents} {Q : Value → Ents → Prop} {hv mv sv : Value} (hT : TIn S hv mv sv [((0 : Int), pt0)] [[((1 : Int), pt0)]] [((7 : Int), (0 : Int))]) (H : Q (.tuple #[.agg #[.slice none 0 0, .slice none 0 0], .int .i64 120]) S) :
    CallWp Try.prog B 19 #[.agg #[hv, mv, sv], .pointer none, .int .i64 7, .int .i64 7, .string (str idW), .agg #[.int .i64 0, .int .i64 0]] Q S := by
  refine homeG hT (fun _ _ => nilSpec wMay) ?_ ?_ ?_ ?_
  · intro a e ha he; exact absurd (hostOf_one ha wHost).2 he
  · intro a b e ha hb he; exact absurd (hostOf_one hb wHost).2 he
  · intro a b ha hb hp; exact absurd wHop hp
  · rintro a b a1 n1 c1 a2 n2 c2 e F G ha hb hp ⟨h1, rfl, rfl, rfl⟩
    cases h1
    exact H
section
variable {B : Nat} {S R : Ents} {Q : Value → Ents → Prop}
theorem hop_at {S : Ents} {v : Value} {l : List Hop} (h : Reads S 5 v l.length (l.flatMap Hop.cells)) (h0 : 0 < l.length) :
    ∃ b o cap L e fz, v = .slice (some ⟨b, o, none⟩) l.length cap ∧ (b, cel L e fz) ∈ S ∧ ∀ i (hi : i < l.length), Lg.partAt Try.prog 43 L (o + i * 5) = some (.agg l[i].cells.toArray) := by
  obtain ⟨b, o, cap, L, e, fz, hv, hm, hat⟩ := Reads.elem (f := Hop.cells) (xs := l) h (hop_flat l) h0
  exact ⟨b, o, cap, L, e, fz, hv, hm, fun i hi => partAt_agg (n := 5) (hat i hi) rfl rfl rfl⟩
set_option maxHeartbeats 4000000 in
theorem worksC (H : ∀ S', (∀ x ∈ S, x ∈ S') → Q (.bool true) S') : CallWp Try.prog B 17 #[] Q S := by
  refine CallWp.enter (args := []) Try.func17 rfl Try.ntmps17 rfl ?_
  refine Wp.seq (Wp.region ?_)
  refine OWp.evs 1 rfl ?_
  refine OWp.nil ?_
  refine Wp.seq (Wp.region ?_)
  refine OWp.step rfl (Step.makeSlice (len := 32) (cap := 32) rfl rfl rfl rfl rfl rfl (by decide) rfl rfl (Nat.le_refl _) (by decide) (by decide) ?_)
  intro Lz hBz _
  refine OWp.gives rfl rfl (Gives.bytesToStr (F := (Lz, cel (byteCells pt0) 5) :: S) (l := pt0) (k := 32) rfl rfl rfl rfl rfl (Reads.row (k := 32) (sz := 1) (cap := 32) (b := Lz) (l := byteCells pt0) (e := 5) (fz := (0, 0)) (.head _) (by decide))) (fun _ h => h) ?_
  refine OWp.evs 1 rfl ?_
  refine OWp.nil ?_
  refine Wp.seq (Wp.region ?_)
  refine OWp.evs 1 rfl ?_
  refine OWp.g rfl rfl (Gives.build rfl rfl) ?_
  refine OWp.step rfl (Step.buildSlice rfl rfl rfl ?_); intro La hBLa hLLa
  refine OWp.evs 1 rfl ?_
  refine OWp.g rfl rfl (Gives.build rfl rfl) ?_
  refine OWp.step rfl (Step.buildSlice rfl rfl rfl ?_); intro Lb hBLb hLLb
  refine OWp.step rfl (Step.buildSlice rfl rfl rfl ?_); intro Lc hBLc hLLc
  refine OWp.g rfl rfl (Gives.build rfl rfl) ?_
  refine OWp.step rfl (Step.buildSlice rfl rfl rfl ?_); intro Ld hBLd hLLd
  refine OWp.g rfl rfl (Gives.build rfl rfl) ?_
  refine OWp.step rfl (Step.alloc rfl rfl rfl ?_); intro L2 hBL2 hLL2
  refine OWp.step rfl (Step.storeAs 0 ([.slice (some ⟨La, 0, none⟩) 1 1, .slice (some ⟨Lc, 0, none⟩) 1 1, .slice (some ⟨Ld, 0, none⟩) 1 1]) rfl rfl rfl rfl rfl (by assumption) rfl (Unfz.zero _) rfl (Nat.le_of_ble_eq_true rfl) rfl rfl ?_)
  refine OWp.nil ?_
  obtain ⟨M, hM⟩ : ∃ M : Ents, M = (L2, cel [.slice (some ⟨La, 0, none⟩) 1 1, .slice (some ⟨Lc, 0, none⟩) 1 1, .slice (some ⟨Ld, 0, none⟩) 1 1] 26) :: (Ld, cel [.int .i64 7, .int .i64 0] 71) :: (Lc, cel [.slice (some ⟨Lb, 0, none⟩) 1 1] 22) :: (Lb, cel (ndc (1, pt0)) 31) :: (La, cel (ndc (0, pt0)) 31) :: (Lz, cel (byteCells pt0) 5) :: S := ⟨_, rfl⟩
  have h2 : (L2, cel [.slice (some ⟨La, 0, none⟩) 1 1, .slice (some ⟨Lc, 0, none⟩) 1 1, .slice (some ⟨Ld, 0, none⟩) 1 1] 26) ∈ M := by rw [hM]; exact .head _
  have hSM : ∀ x ∈ S, x ∈ M := fun x hx => by rw [hM]; exact .tail _ (.tail _ (.tail _ (.tail _ (.tail _ (.tail _ hx)))))
  have hT : TIn M (.slice (some ⟨La, 0, none⟩) 1 1) (.slice (some ⟨Lc, 0, none⟩) 1 1) (.slice (some ⟨Ld, 0, none⟩) 1 1) [((0 : Int), pt0)] [[((1 : Int), pt0)]] [((7 : Int), (0 : Int))] := by
    rw [hM]
    refine ⟨[.slice (some ⟨Lb, 0, none⟩) 1 1], Reads.row (k := 1) (sz := 1) (.tail _ (.tail _ (.head _))) (Nat.le_of_ble_eq_true rfl), rfl, ⟨rfl, ?_⟩, Nat.le_of_ble_eq_true rfl, Reads.row (k := 1) (sz := 2) (.tail _ (.head _)) (by decide), by decide⟩
    intro i v l h1 h2
    match i with
    | 0 => cases h1; cases h2; exact ⟨Reads.row (k := 1) (sz := 2) (.tail _ (.tail _ (.tail _ (.tail _ (.head _))))) (by decide), by decide⟩
    | 1 => cases h1; cases h2; exact ⟨Reads.row (k := 1) (sz := 2) (.tail _ (.tail _ (.tail _ (.head _)))) (by decide), by decide⟩
  show Wp _ _ _ _ _ _ _
  refine Wp.weaken (S' := M) (Env.Sub.refl _) (fun w h => by rw [hM]; exact h) ?_
  refine Wp.seqS (α := Nat × (Option Addr × Nat) × (Option Addr × Nat) × Ents × Ents × Ents) (fun z => [(2, pt L2), (3, pt z.1), (4, .int .i64 0)]) (fun z => (z.1, cel [.slice z.2.1.1 3 z.2.1.2, .slice z.2.2.1.1 3 z.2.2.1.2] 56) :: (z.2.2.2.1 ++ (z.2.2.2.2.1 ++ (z.2.2.2.2.2 ++ M)))) (fun z => B ≤ z.1 ∧ WayIn B ([pt0, pt0, pt0], [⟨1, 1, 0, 0, []⟩, ⟨1, 0, 0, 0, []⟩, ⟨2, 0, 7, 0, idW⟩], 0, 12) (.slice z.2.1.1 3 z.2.1.2) (.slice z.2.2.1.1 3 z.2.2.1.2) z.2.2.2.1 z.2.2.2.2.1) ?_ ?_
  · skip
    refine Wp.regionDraw [0, 4, 12, 12, 12, 12, 12, 12, 12, 12, 12, 12] [1, 3, 5, 9, 10] rfl (by decide +kernel) ?_
    refine DWp.load h2 rfl rfl rfl rfl rfl rfl rfl ?_
    refine DWp.g rfl rfl rfl rfl (Gives.build rfl rfl) ?_
    refine DWp.forkTo [1, 9] (by decide +kernel) (by simp) ?_
    intro xx hxx
    simp only [List.mem_cons, List.mem_nil_iff, or_false] at hxx
    rcases hxx with rfl | rfl
    · refine ⟨_, [2, 12, 12, 12, 12, 12, 12, 12, 12], rfl, rfl, by decide +kernel, rfl, ?_⟩
      refine (Step.makeSlice (len := 12) (cap := 12) rfl rfl rfl rfl rfl rfl (by decide) rfl rfl (Nat.le_refl _) (by decide) (by decide) ?_)
      intro Ly hBy _
      refine ⟨by (repeat (first | exact pr_nil | refine pr_kept ?_ | refine pr_free ?_ | refine pr_cons (by repeat (first | exact List.Mem.head _ | assumption | exact List.mem_append_left _ (by assumption) | apply List.mem_cons_of_mem | apply List.mem_append_right)) ?_)), ?_⟩
      refine DWp.gives rfl rfl rfl rfl (Gives.bytesToStr (F := [(Ly, cel (byteCells s0) 5)]) (l := s0) (k := 12) rfl rfl rfl rfl rfl (Reads.row (k := 12) (sz := 1) (cap := 12) (b := Ly) (l := byteCells s0) (e := 5) (fz := (0, 0)) (.head _) (by decide))) (fun y hy => by rw [List.mem_singleton.1 hy]; exact (by repeat (first | exact List.Mem.head _ | assumption | exact List.mem_append_left _ (by assumption) | apply List.mem_cons_of_mem | apply List.mem_append_right))) ?_
      refine DWp.forkTo [3, 9] (by decide +kernel) (by simp) ?_
      intro xx hxx
      simp only [List.mem_cons, List.mem_nil_iff, or_false] at hxx
      rcases hxx with rfl | rfl
      · refine ⟨_, [12, 12, 12, 12, 12, 12, 12], rfl, rfl, by decide +kernel, rfl, ?_⟩
        refine (Step.call rfl rfl rfl rfl rfl rfl (tapeNew ?_))
        intro Lt hBt _
        refine ⟨by (repeat (first | exact pr_nil | refine pr_kept ?_ | refine pr_free ?_ | refine pr_cons (by repeat (first | exact List.Mem.head _ | assumption | exact List.mem_append_left _ (by assumption) | apply List.mem_cons_of_mem | apply List.mem_append_right)) ?_)), ?_⟩
        refine DWp.forkTo [5, 9] (by decide +kernel) (by simp) ?_
        intro xx hxx
        simp only [List.mem_cons, List.mem_nil_iff, or_false] at hxx
        rcases hxx with rfl | rfl
        · refine ⟨_, [6, 7, 8, 9, 10, 11], rfl, rfl, by decide +kernel, rfl, ?_⟩
          refine (Step.permS (permBy [[tp Lt s0 0], [(Ly, cel (byteCells s0) 5)]] (M) [0, 1] [0, 1] (by decide) : List.Perm ([tp Lt s0 0] ++ ([(Ly, cel (byteCells s0) 5)] ++ (M))) ([tp Lt s0 0] ++ ([(Ly, cel (byteCells s0) 5)] ++ (M)))) (Step.call rfl rfl rfl rfl rfl rfl (homeC (s := s0) (k := 0) (id := idW) hBt (by decide) (by decide) (hT.mono (fun x hx => (by repeat (first | exact hx | apply List.mem_cons_of_mem | apply List.mem_append_right)))) ?_)))
          intro w pv qv es1 es2 hw hin
          obtain rfl := wHome hw
          obtain ⟨pa, pc, rfl⟩ := hin.1.reads.form
          obtain ⟨qa, qc, rfl⟩ := hin.2.reads.form
          refine ⟨by (repeat (first | exact pr_nil | refine pr_kept ?_ | refine pr_free ?_ | refine pr_cons (by repeat (first | exact List.Mem.head _ | assumption | exact List.mem_append_left _ (by assumption) | apply List.mem_cons_of_mem | apply List.mem_append_right)) ?_)), ?_⟩
          refine DWp.evs 3 rfl ?_
          refine DWp.step rfl rfl rfl (Step.alloc rfl rfl rfl ?_); intro L3 hBL3 hLL3
          refine ⟨by (repeat (first | exact pr_nil | refine pr_kept ?_ | refine pr_free ?_ | refine pr_cons (by repeat (first | exact List.Mem.head _ | assumption | exact List.mem_append_left _ (by assumption) | apply List.mem_cons_of_mem | apply List.mem_append_right)) ?_)), ?_⟩
          refine DWp.step rfl rfl rfl (Step.permS (permBy [[(L3, cel [.slice none 0 0, .slice none 0 0] 56)], [tp Lt s0 12], es1, es2, [(Ly, cel (byteCells s0) 5)]] (M) [0, 1, 2, 3, 4] [0, 1, 2, 3, 4] (by decide) : List.Perm ([(L3, cel [.slice none 0 0, .slice none 0 0] 56)] ++ ([tp Lt s0 12] ++ (es1 ++ (es2 ++ ([(Ly, cel (byteCells s0) 5)] ++ (M)))))) ([(L3, cel [.slice none 0 0, .slice none 0 0] 56)] ++ ([tp Lt s0 12] ++ (es1 ++ (es2 ++ ([(Ly, cel (byteCells s0) 5)] ++ (M))))))) (Step.storeAs 0 [.slice pa 3 pc, .slice qa 3 qc] rfl rfl rfl rfl rfl hBL3 rfl (Unfz.zero _) rfl (Nat.le_of_ble_eq_true rfl) rfl rfl ?_))
          refine ⟨by (repeat (first | exact pr_nil | refine pr_kept ?_ | refine pr_free ?_ | refine pr_cons (by repeat (first | exact List.Mem.head _ | assumption | exact List.mem_append_left _ (by assumption) | apply List.mem_cons_of_mem | apply List.mem_append_right)) ?_)), ?_⟩
          refine DWp.evs 1 rfl ?_
          refine DWp.nil ?_
          exact ⟨(L3, (pa, pc), (qa, qc), es1, es2, [tp Lt s0 12, (Ly, cel (byteCells s0) 5)]), ⟨hBL3, hin⟩, .cons rfl (.cons rfl (.cons rfl (.nil _))), (permBy [[(L3, cel [.slice pa 3 pc, .slice qa 3 qc] 56)], [tp Lt s0 12], es1, es2, [(Ly, cel (byteCells s0) 5)]] (M) [0, 1, 2, 3, 4] [0, 2, 3, 1, 4] (by decide) : List.Perm ([(L3, cel [.slice pa 3 pc, .slice qa 3 qc] 56)] ++ ([tp Lt s0 12] ++ (es1 ++ (es2 ++ ([(Ly, cel (byteCells s0) 5)] ++ (M)))))) ([(L3, cel [.slice pa 3 pc, .slice qa 3 qc] 56)] ++ (es1 ++ (es2 ++ ([tp Lt s0 12] ++ ([(Ly, cel (byteCells s0) 5)] ++ (M)))))))⟩
        · refine ⟨_, [5, 6, 7, 8, 10, 11], rfl, rfl, by decide +kernel, rfl, ?_⟩
          refine (Step.alloc rfl rfl rfl ?_); intro L3 hBL3 hLL3
          refine ⟨by (repeat (first | exact pr_nil | refine pr_kept ?_ | refine pr_free ?_ | refine pr_cons (by repeat (first | exact List.Mem.head _ | assumption | exact List.mem_append_left _ (by assumption) | apply List.mem_cons_of_mem | apply List.mem_append_right)) ?_)), ?_⟩
          refine DWp.step rfl rfl rfl (Step.permS (permBy [[(L3, cel [.slice none 0 0, .slice none 0 0] 56)], [tp Lt s0 0], [(Ly, cel (byteCells s0) 5)]] (M) [0, 1, 2] [1, 0, 2] (by decide) : List.Perm ([(L3, cel [.slice none 0 0, .slice none 0 0] 56)] ++ ([tp Lt s0 0] ++ ([(Ly, cel (byteCells s0) 5)] ++ (M)))) ([tp Lt s0 0] ++ ([(L3, cel [.slice none 0 0, .slice none 0 0] 56)] ++ ([(Ly, cel (byteCells s0) 5)] ++ (M))))) (Step.call rfl rfl rfl rfl rfl rfl (homeC (s := s0) (k := 0) (id := idW) hBt (by decide) (by decide) (hT.mono (fun x hx => (by repeat (first | exact hx | apply List.mem_cons_of_mem | apply List.mem_append_right)))) ?_)))
          intro w pv qv es1 es2 hw hin
          obtain rfl := wHome hw
          obtain ⟨pa, pc, rfl⟩ := hin.1.reads.form
          obtain ⟨qa, qc, rfl⟩ := hin.2.reads.form
          refine ⟨by (repeat (first | exact pr_nil | refine pr_kept ?_ | refine pr_free ?_ | refine pr_cons (by repeat (first | exact List.Mem.head _ | assumption | exact List.mem_append_left _ (by assumption) | apply List.mem_cons_of_mem | apply List.mem_append_right)) ?_)), ?_⟩
          refine DWp.evs 3 rfl ?_
          refine DWp.step rfl rfl rfl (Step.permS (permBy [[tp Lt s0 12], es1, es2, [(L3, cel [.slice none 0 0, .slice none 0 0] 56)], [(Ly, cel (byteCells s0) 5)]] (M) [0, 1, 2, 3, 4] [3, 0, 1, 2, 4] (by decide) : List.Perm ([tp Lt s0 12] ++ (es1 ++ (es2 ++ ([(L3, cel [.slice none 0 0, .slice none 0 0] 56)] ++ ([(Ly, cel (byteCells s0) 5)] ++ (M)))))) ([(L3, cel [.slice none 0 0, .slice none 0 0] 56)] ++ ([tp Lt s0 12] ++ (es1 ++ (es2 ++ ([(Ly, cel (byteCells s0) 5)] ++ (M))))))) (Step.storeAs 0 [.slice pa 3 pc, .slice qa 3 qc] rfl rfl rfl rfl rfl hBL3 rfl (Unfz.zero _) rfl (Nat.le_of_ble_eq_true rfl) rfl rfl ?_))
          refine ⟨by (repeat (first | exact pr_nil | refine pr_kept ?_ | refine pr_free ?_ | refine pr_cons (by repeat (first | exact List.Mem.head _ | assumption | exact List.mem_append_left _ (by assumption) | apply List.mem_cons_of_mem | apply List.mem_append_right)) ?_)), ?_⟩
          refine DWp.evs 1 rfl ?_
          refine DWp.nil ?_
          exact ⟨(L3, (pa, pc), (qa, qc), es1, es2, [tp Lt s0 12, (Ly, cel (byteCells s0) 5)]), ⟨hBL3, hin⟩, .cons rfl (.cons rfl (.cons rfl (.nil _))), (permBy [[(L3, cel [.slice pa 3 pc, .slice qa 3 qc] 56)], [tp Lt s0 12], es1, es2, [(Ly, cel (byteCells s0) 5)]] (M) [0, 1, 2, 3, 4] [0, 2, 3, 1, 4] (by decide) : List.Perm ([(L3, cel [.slice pa 3 pc, .slice qa 3 qc] 56)] ++ ([tp Lt s0 12] ++ (es1 ++ (es2 ++ ([(Ly, cel (byteCells s0) 5)] ++ (M)))))) ([(L3, cel [.slice pa 3 pc, .slice qa 3 qc] 56)] ++ (es1 ++ (es2 ++ ([tp Lt s0 12] ++ ([(Ly, cel (byteCells s0) 5)] ++ (M)))))))⟩
      · refine ⟨_, [3, 5, 6, 7, 8, 10, 11], rfl, rfl, by decide +kernel, rfl, ?_⟩
        refine (Step.alloc rfl rfl rfl ?_); intro L3 hBL3 hLL3
        refine ⟨by (repeat (first | exact pr_nil | refine pr_kept ?_ | refine pr_free ?_ | refine pr_cons (by repeat (first | exact List.Mem.head _ | assumption | exact List.mem_append_left _ (by assumption) | apply List.mem_cons_of_mem | apply List.mem_append_right)) ?_)), ?_⟩
        refine DWp.step rfl rfl rfl (Step.call rfl rfl rfl rfl rfl rfl (tapeNew ?_))
        intro Lt hBt _
        refine ⟨by (repeat (first | exact pr_nil | refine pr_kept ?_ | refine pr_free ?_ | refine pr_cons (by repeat (first | exact List.Mem.head _ | assumption | exact List.mem_append_left _ (by assumption) | apply List.mem_cons_of_mem | apply List.mem_append_right)) ?_)), ?_⟩
        refine DWp.step rfl rfl rfl (Step.permS (permBy [[tp Lt s0 0], [(L3, cel [.slice none 0 0, .slice none 0 0] 56)], [(Ly, cel (byteCells s0) 5)]] (M) [0, 1, 2] [0, 1, 2] (by decide) : List.Perm ([tp Lt s0 0] ++ ([(L3, cel [.slice none 0 0, .slice none 0 0] 56)] ++ ([(Ly, cel (byteCells s0) 5)] ++ (M)))) ([tp Lt s0 0] ++ ([(L3, cel [.slice none 0 0, .slice none 0 0] 56)] ++ ([(Ly, cel (byteCells s0) 5)] ++ (M))))) (Step.call rfl rfl rfl rfl rfl rfl (homeC (s := s0) (k := 0) (id := idW) hBt (by decide) (by decide) (hT.mono (fun x hx => (by repeat (first | exact hx | apply List.mem_cons_of_mem | apply List.mem_append_right)))) ?_)))
        intro w pv qv es1 es2 hw hin
        obtain rfl := wHome hw
        obtain ⟨pa, pc, rfl⟩ := hin.1.reads.form
        obtain ⟨qa, qc, rfl⟩ := hin.2.reads.form
        refine ⟨by (repeat (first | exact pr_nil | refine pr_kept ?_ | refine pr_free ?_ | refine pr_cons (by repeat (first | exact List.Mem.head _ | assumption | exact List.mem_append_left _ (by assumption) | apply List.mem_cons_of_mem | apply List.mem_append_right)) ?_)), ?_⟩
        refine DWp.evs 3 rfl ?_
        refine DWp.step rfl rfl rfl (Step.permS (permBy [[tp Lt s0 12], es1, es2, [(L3, cel [.slice none 0 0, .slice none 0 0] 56)], [(Ly, cel (byteCells s0) 5)]] (M) [0, 1, 2, 3, 4] [3, 0, 1, 2, 4] (by decide) : List.Perm ([tp Lt s0 12] ++ (es1 ++ (es2 ++ ([(L3, cel [.slice none 0 0, .slice none 0 0] 56)] ++ ([(Ly, cel (byteCells s0) 5)] ++ (M)))))) ([(L3, cel [.slice none 0 0, .slice none 0 0] 56)] ++ ([tp Lt s0 12] ++ (es1 ++ (es2 ++ ([(Ly, cel (byteCells s0) 5)] ++ (M))))))) (Step.storeAs 0 [.slice pa 3 pc, .slice qa 3 qc] rfl rfl rfl rfl rfl hBL3 rfl (Unfz.zero _) rfl (Nat.le_of_ble_eq_true rfl) rfl rfl ?_))
        refine ⟨by (repeat (first | exact pr_nil | refine pr_kept ?_ | refine pr_free ?_ | refine pr_cons (by repeat (first | exact List.Mem.head _ | assumption | exact List.mem_append_left _ (by assumption) | apply List.mem_cons_of_mem | apply List.mem_append_right)) ?_)), ?_⟩
        refine DWp.evs 1 rfl ?_
        refine DWp.nil ?_
        exact ⟨(L3, (pa, pc), (qa, qc), es1, es2, [tp Lt s0 12, (Ly, cel (byteCells s0) 5)]), ⟨hBL3, hin⟩, .cons rfl (.cons rfl (.cons rfl (.nil _))), (permBy [[(L3, cel [.slice pa 3 pc, .slice qa 3 qc] 56)], [tp Lt s0 12], es1, es2, [(Ly, cel (byteCells s0) 5)]] (M) [0, 1, 2, 3, 4] [0, 2, 3, 1, 4] (by decide) : List.Perm ([(L3, cel [.slice pa 3 pc, .slice qa 3 qc] 56)] ++ ([tp Lt s0 12] ++ (es1 ++ (es2 ++ ([(Ly, cel (byteCells s0) 5)] ++ (M)))))) ([(L3, cel [.slice pa 3 pc, .slice qa 3 qc] 56)] ++ (es1 ++ (es2 ++ ([tp Lt s0 12] ++ ([(Ly, cel (byteCells s0) 5)] ++ (M)))))))⟩
    · refine ⟨_, [1, 2, 3, 5, 6, 7, 8, 10, 11], rfl, rfl, by decide +kernel, rfl, ?_⟩
      refine (Step.alloc rfl rfl rfl ?_); intro L3 hBL3 hLL3
      refine ⟨by (repeat (first | exact pr_nil | refine pr_kept ?_ | refine pr_free ?_ | refine pr_cons (by repeat (first | exact List.Mem.head _ | assumption | exact List.mem_append_left _ (by assumption) | apply List.mem_cons_of_mem | apply List.mem_append_right)) ?_)), ?_⟩
      refine DWp.step rfl rfl rfl (Step.makeSlice (len := 12) (cap := 12) rfl rfl rfl rfl rfl rfl (by decide) rfl rfl (Nat.le_refl _) (by decide) (by decide) ?_)
      intro Ly hBy _
      refine ⟨by (repeat (first | exact pr_nil | refine pr_kept ?_ | refine pr_free ?_ | refine pr_cons (by repeat (first | exact List.Mem.head _ | assumption | exact List.mem_append_left _ (by assumption) | apply List.mem_cons_of_mem | apply List.mem_append_right)) ?_)), ?_⟩
      refine DWp.gives rfl rfl rfl rfl (Gives.bytesToStr (F := [(Ly, cel (byteCells s0) 5)]) (l := s0) (k := 12) rfl rfl rfl rfl rfl (Reads.row (k := 12) (sz := 1) (cap := 12) (b := Ly) (l := byteCells s0) (e := 5) (fz := (0, 0)) (.head _) (by decide))) (fun y hy => by rw [List.mem_singleton.1 hy]; exact (by repeat (first | exact List.Mem.head _ | assumption | exact List.mem_append_left _ (by assumption) | apply List.mem_cons_of_mem | apply List.mem_append_right))) ?_
      refine DWp.step rfl rfl rfl (Step.call rfl rfl rfl rfl rfl rfl (tapeNew ?_))
      intro Lt hBt _
      refine ⟨by (repeat (first | exact pr_nil | refine pr_kept ?_ | refine pr_free ?_ | refine pr_cons (by repeat (first | exact List.Mem.head _ | assumption | exact List.mem_append_left _ (by assumption) | apply List.mem_cons_of_mem | apply List.mem_append_right)) ?_)), ?_⟩
      refine DWp.step rfl rfl rfl (Step.permS (permBy [[tp Lt s0 0], [(Ly, cel (byteCells s0) 5)], [(L3, cel [.slice none 0 0, .slice none 0 0] 56)]] (M) [0, 1, 2] [0, 1, 2] (by decide) : List.Perm ([tp Lt s0 0] ++ ([(Ly, cel (byteCells s0) 5)] ++ ([(L3, cel [.slice none 0 0, .slice none 0 0] 56)] ++ (M)))) ([tp Lt s0 0] ++ ([(Ly, cel (byteCells s0) 5)] ++ ([(L3, cel [.slice none 0 0, .slice none 0 0] 56)] ++ (M))))) (Step.call rfl rfl rfl rfl rfl rfl (homeC (s := s0) (k := 0) (id := idW) hBt (by decide) (by decide) (hT.mono (fun x hx => (by repeat (first | exact hx | apply List.mem_cons_of_mem | apply List.mem_append_right)))) ?_)))
      intro w pv qv es1 es2 hw hin
      obtain rfl := wHome hw
      obtain ⟨pa, pc, rfl⟩ := hin.1.reads.form
      obtain ⟨qa, qc, rfl⟩ := hin.2.reads.form
      refine ⟨by (repeat (first | exact pr_nil | refine pr_kept ?_ | refine pr_free ?_ | refine pr_cons (by repeat (first | exact List.Mem.head _ | assumption | exact List.mem_append_left _ (by assumption) | apply List.mem_cons_of_mem | apply List.mem_append_right)) ?_)), ?_⟩
      refine DWp.evs 3 rfl ?_
      refine DWp.step rfl rfl rfl (Step.permS (permBy [[tp Lt s0 12], es1, es2, [(Ly, cel (byteCells s0) 5)], [(L3, cel [.slice none 0 0, .slice none 0 0] 56)]] (M) [0, 1, 2, 3, 4] [4, 0, 1, 2, 3] (by decide) : List.Perm ([tp Lt s0 12] ++ (es1 ++ (es2 ++ ([(Ly, cel (byteCells s0) 5)] ++ ([(L3, cel [.slice none 0 0, .slice none 0 0] 56)] ++ (M)))))) ([(L3, cel [.slice none 0 0, .slice none 0 0] 56)] ++ ([tp Lt s0 12] ++ (es1 ++ (es2 ++ ([(Ly, cel (byteCells s0) 5)] ++ (M))))))) (Step.storeAs 0 [.slice pa 3 pc, .slice qa 3 qc] rfl rfl rfl rfl rfl hBL3 rfl (Unfz.zero _) rfl (Nat.le_of_ble_eq_true rfl) rfl rfl ?_))
      refine ⟨by (repeat (first | exact pr_nil | refine pr_kept ?_ | refine pr_free ?_ | refine pr_cons (by repeat (first | exact List.Mem.head _ | assumption | exact List.mem_append_left _ (by assumption) | apply List.mem_cons_of_mem | apply List.mem_append_right)) ?_)), ?_⟩
      refine DWp.evs 1 rfl ?_
      refine DWp.nil ?_
      exact ⟨(L3, (pa, pc), (qa, qc), es1, es2, [tp Lt s0 12, (Ly, cel (byteCells s0) 5)]), ⟨hBL3, hin⟩, .cons rfl (.cons rfl (.cons rfl (.nil _))), (permBy [[(L3, cel [.slice pa 3 pc, .slice qa 3 qc] 56)], [tp Lt s0 12], es1, es2, [(Ly, cel (byteCells s0) 5)]] (M) [0, 1, 2, 3, 4] [0, 2, 3, 1, 4] (by decide) : List.Perm ([(L3, cel [.slice pa 3 pc, .slice qa 3 qc] 56)] ++ ([tp Lt s0 12] ++ (es1 ++ (es2 ++ ([(Ly, cel (byteCells s0) 5)] ++ (M)))))) ([(L3, cel [.slice pa 3 pc, .slice qa 3 qc] 56)] ++ (es1 ++ (es2 ++ ([tp Lt s0 12] ++ ([(Ly, cel (byteCells s0) 5)] ++ (M)))))))⟩
  rintro ⟨L3, ⟨pa, pc⟩, ⟨qa, qc⟩, es1, es2, X⟩ ⟨hBL3, hin⟩
  simp only at hBL3 hin ⊢
  obtain ⟨b5, o5, c5, l5, t5, f5, hv5, hm5, hat5⟩ := hop_at hin.2.reads (by decide)
  cases hv5
  have hMM : ∀ x ∈ M, x ∈ es1 ++ (es2 ++ (X ++ M)) := fun x hx => List.mem_append_right _ (List.mem_append_right _ (List.mem_append_right _ hx))
  have hm5' : (b5, cel l5 t5 f5) ∈ es1 ++ (es2 ++ (X ++ M)) := List.mem_append_right _ (List.mem_append_left _ hm5)
  refine Wp.seq (Wp.region ?_)
  refine OWp.load (.tail _ (hMM _ h2)) rfl rfl rfl rfl rfl ?_
  refine OWp.g rfl rfl (Gives.build rfl rfl) ?_
  refine OWp.step rfl (Step.call rfl rfl rfl rfl rfl rfl ((homeNilW (hT.mono fun x hx => .tail _ (hMM _ hx)) ?_)))
  refine OWp.evs 3 rfl ?_
  refine OWp.step rfl (Step.alloc rfl rfl rfl ?_); intro L5 hBL5 hLL5
  refine OWp.step rfl (Step.storeAs 0 ([.slice none 0 0, .slice none 0 0]) rfl rfl rfl rfl rfl (by assumption) rfl (Unfz.zero _) rfl (Nat.le_of_ble_eq_true rfl) rfl rfl ?_)
  refine OWp.evs 1 rfl ?_
  refine OWp.nil ?_
  refine Wp.seq (Wp.region ?_)
  refine OWp.evs 3 rfl ?_
  refine OWp.evs 4 rfl ?_
  refine OWp.evs 1 rfl ?_
  refine OWp.load (.tail _ (.head _)) rfl rfl rfl rfl rfl ?_
  refine OWp.evs 4 rfl ?_
  refine OWp.evs 1 rfl ?_
  refine OWp.load (.tail _ (.head _)) rfl rfl rfl rfl rfl ?_
  refine OWp.evs 4 rfl ?_
  refine OWp.evs 1 rfl ?_
  refine OWp.load (.tail _ (.head _)) rfl rfl rfl rfl rfl ?_
  refine OWp.g rfl rfl (Gives.indexAddrSlice (0) rfl rfl rfl rfl rfl rfl (by decide)) ?_
  refine OWp.load (.tail _ (.tail _ hm5')) rfl rfl rfl rfl (hat5 0 (by decide)) ?_
  refine OWp.g rfl rfl (Gives.build rfl rfl) ?_
  refine OWp.g rfl rfl (Gives.eqStruct (r := true) 10 rfl rfl rfl rfl hopG (hopSelf ⟨1, 1, 0, 0, []⟩)) ?_
  refine OWp.evs 2 rfl ?_
  refine OWp.evs 1 rfl ?_
  refine OWp.load (.tail _ (.head _)) rfl rfl rfl rfl rfl ?_
  refine OWp.g rfl rfl (Gives.indexAddrSlice (1) rfl rfl rfl rfl rfl rfl (by decide)) ?_
  refine OWp.load (.tail _ (.tail _ hm5')) rfl rfl rfl rfl (hat5 1 (by decide)) ?_
  refine OWp.g rfl rfl (Gives.build rfl rfl) ?_
  refine OWp.g rfl rfl (Gives.eqStruct (r := true) 10 rfl rfl rfl rfl hopG (hopSelf ⟨1, 0, 0, 0, []⟩)) ?_
  refine OWp.evs 2 rfl ?_
  refine OWp.evs 1 rfl ?_
  refine OWp.load (.tail _ (.head _)) rfl rfl rfl rfl rfl ?_
  refine OWp.g rfl rfl (Gives.indexAddrSlice (2) rfl rfl rfl rfl rfl rfl (by decide)) ?_
  refine OWp.load (.tail _ (.tail _ hm5')) rfl rfl rfl rfl (hat5 2 (by decide)) ?_
  refine OWp.g rfl rfl (Gives.build rfl rfl) ?_
  refine OWp.g rfl rfl (Gives.eqStruct (r := true) 10 rfl rfl rfl rfl hopG (hopSelf ⟨2, 0, 7, 0, idW⟩)) ?_
  refine OWp.evs 2 rfl ?_
  refine OWp.load (.tail _ (.tail _ (hMM _ h2))) rfl rfl rfl rfl rfl ?_
  refine OWp.step rfl (Step.call rfl rfl rfl rfl rfl rfl ((wordsC (hT.mono fun x hx => .tail _ (.tail _ (hMM _ hx))) ?_)))
  intro n hn
  obtain rfl := words_one hn (.inl ⟨wTown, rfl⟩)
  refine OWp.evs 3 rfl ?_
  refine OWp.nil ?_
  refine Wp.ret ⟨trivial, _, ⟨_, _, rfl, rfl, rfl⟩, ?_⟩
  exact H _ fun x hx => .tail _ (.tail _ (hMM _ (hSM _ hx)))
end
end Go.Proofs.C

namespace Go.Proofs.C
open Go.Lg
set_option maxRecDepth 100000

/-! Arguments. -/
theorem rdNode {S : Ents} {cs : List Value} (h : Rd Try.prog S 31 cs) : ∃ x : Nd, cs = ndc x ∧ True := by
  obtain ⟨hl, hf⟩ := h.open_struct Try.underlying31
  obtain ⟨n, hn, _⟩ := (hf _ (by simp; exact .inl rfl)).open_int Try.underlying3
  obtain ⟨s, hs, _⟩ := (hf _ (by simp; exact .inr rfl)).open_str Try.underlying9
  refine ⟨(n, s), ?_, trivial⟩
  have hl2 : cs.length = 2 := hl
  match cs, hl2 with
  | [x, y], _ =>
    have h1 : [x] = [.int .i64 n] := hn
    have h2 : [y] = [.string ⟨⟨s⟩⟩] := hs
    cases h1; cases h2; rfl
theorem rdSeat {S : Ents} {cs : List Value} (h : Rd Try.prog S 71 cs) : ∃ x : St, cs = stc x ∧ True := by
  obtain ⟨hl, hf⟩ := h.open_struct Try.underlying71
  obtain ⟨n, hn, _⟩ := (hf _ (by simp; exact .inl rfl)).open_int Try.underlying3
  obtain ⟨s, hs, _⟩ := (hf _ (by simp; exact .inr rfl)).open_int Try.underlying3
  refine ⟨(n, s), ?_, trivial⟩
  have hl2 : cs.length = 2 := hl
  match cs, hl2 with
  | [x, y], _ =>
    have h1 : [x] = [.int .i64 n] := hn
    have h2 : [y] = [.int .i64 s] := hs
    cases h1; cases h2; rfl
theorem rdNodes {S : Ents} {v : Value} (h : Rd Try.prog S 22 [v]) : ∃ l : List Nd, Reads S 2 v l.length (l.flatMap ndc) ∧ l.length ≤ lim := by
  obtain ⟨l, hr, hw, _, _⟩ := h.rows (f := ndc) (p := fun _ => True) Try.underlying22 (sz := 2) rfl (fun r hr => rdNode hr)
  refine ⟨l, hr, ?_⟩
  have : l.length * 24 ≤ reachBytes := hw
  unfold reachBytes at this; unfold lim; omega
theorem rdSeats {S : Ents} {v : Value} (h : Rd Try.prog S 24 [v]) : ∃ l : List St, Reads S 2 v l.length (l.flatMap stc) ∧ l.length ≤ lim := by
  obtain ⟨l, hr, hw, _, _⟩ := h.rows (f := stc) (p := fun _ => True) Try.underlying24 (sz := 2) rfl (fun r hr => rdSeat hr)
  refine ⟨l, hr, ?_⟩
  have : l.length * 16 ≤ reachBytes := hw
  unfold reachBytes at this; unfold lim; omega
theorem rdMixes {S : Ents} {v : Value} (h : Rd Try.prog S 23 [v]) : ∃ (vs : List Value) (ms : List (List Nd)), Reads S 1 v vs.length vs ∧ vs.all (·.oneCell') = true ∧ NodesIn S vs ms ∧ vs.length ≤ lim := by
  obtain ⟨xs, hr, hw, _, hp⟩ := h.rows (f := fun x : Value => [x]) (p := fun x => ∃ l : List Nd, Reads S 2 x l.length (l.flatMap ndc) ∧ l.length ≤ lim) Try.underlying23 (sz := 1) rfl (fun r hr => by
    obtain ⟨v, rs, rfl, _⟩ := hr.open_slice Try.underlying22
    exact ⟨v, rfl, rdNodes hr⟩)
  have e : (xs.flatMap fun x => [x]) = xs := by
    clear hr hw hp
    induction xs with
    | nil => rfl
    | cons x xs ih => simp [ih]
  rw [e] at hr
  have hall : ∀ xs : List Value, (∀ x ∈ xs, ∃ l : List Nd, Reads S 2 x l.length (l.flatMap ndc) ∧ l.length ≤ lim) → ∃ ms : List (List Nd), NodesIn S xs ms := by
    intro xs
    induction xs with
    | nil => intro _; exact ⟨[], rfl, fun i v l h => by simp at h⟩
    | cons x xs ih =>
      intro h
      obtain ⟨ms, h1, h2⟩ := ih fun y hy => h y (by simp [hy])
      obtain ⟨l, hl1, hl2⟩ := h x (by simp)
      refine ⟨l :: ms, by simp [h1], fun i v l' h3 h4 => ?_⟩
      cases i with
      | zero => simp at h3 h4; subst h3 h4; exact ⟨hl1, hl2⟩
      | succ i => exact h2 i v l' (by simpa using h3) (by simpa using h4)
  obtain ⟨ms, hms⟩ := hall xs hp
  refine ⟨xs, ms, hr, ?_, hms, ?_⟩
  · rw [List.all_eq_true]
    intro x hx
    obtain ⟨l, hl, _⟩ := hp x hx
    obtain ⟨a, c, rfl⟩ := hl.form
    rfl
  · have : xs.length * 24 ≤ reachBytes := hw
    unfold reachBytes at this; unfold lim; omega
theorem rdTown {S : Ents} {cs : List Value} (h : Rd Try.prog S 26 cs) : ∃ hv mv sv h0 ms ss, cs = [hv, mv, sv] ∧ TIn S hv mv sv h0 ms ss := by
  obtain ⟨hl, hf⟩ := h.open_struct Try.underlying26
  have hl2 : cs.length = 3 := hl
  match cs, hl2 with
  | [x, y, z], _ =>
    have h1 : Rd Try.prog S 22 [x] := hf _ (by simp; exact .inl rfl)
    have h2 : Rd Try.prog S 23 [y] := hf _ (by simp; exact .inr (.inl rfl))
    have h3 : Rd Try.prog S 24 [z] := hf _ (by simp; exact .inr (.inr rfl))
    obtain ⟨l, hl, hll⟩ := rdNodes h1
    obtain ⟨vs, ms, hm, hvs, hn, hvl⟩ := rdMixes h2
    obtain ⟨ss, hs, hsl⟩ := rdSeats h3
    refine ⟨x, y, z, l, ms, ss, rfl, vs, hm, hvs, ⟨by simp [hn.1], fun i v l' h5 h6 => ?_⟩, hvl, hs, hsl⟩
    cases i with
    | zero => simp at h5 h6; subst h5 h6; exact ⟨hl, hll⟩
    | succ i => exact hn.2 i v l' (by simpa using h5) (by simpa using h6)
theorem rdAsk {S : Ents} {cs : List Value} (h : Rd Try.prog S 28 cs) : ∃ a b c : Int, cs = [.int .i64 a, .int .i64 b, .int .i64 c] := by
  obtain ⟨hl, hf⟩ := h.open_struct Try.underlying28
  have hl2 : cs.length = 3 := hl
  match cs, hl2 with
  | [x, y, z], _ =>
    have h1 : Rd Try.prog S 3 [x] := hf _ (by simp; exact .inl rfl)
    have h2 : Rd Try.prog S 3 [y] := hf _ (by simp; exact .inr (.inl rfl))
    have h3 : Rd Try.prog S 3 [z] := hf _ (by simp; exact .inr (.inr rfl))
    obtain ⟨a, ha, _⟩ := h1.open_int Try.underlying3
    obtain ⟨b, hb, _⟩ := h2.open_int Try.underlying3
    obtain ⟨c, hc, _⟩ := h3.open_int Try.underlying3
    cases ha; cases hb; cases hc
    exact ⟨a, b, c, rfl⟩
theorem rdHop {S : Ents} {cs : List Value} (h : Rd Try.prog S 43 cs) : ∃ x : Hop, cs = x.cells := by
  obtain ⟨hl, hf⟩ := h.open_struct Try.underlying43
  have hl2 : cs.length = 5 := hl
  match cs, hl2 with
  | [x, y, z, u, v], _ =>
    have h1 : Rd Try.prog S 3 [x] := hf _ (by simp; exact .inl rfl)
    have h2 : Rd Try.prog S 3 [y] := hf _ (by simp; exact .inr (.inl rfl))
    have h3 : Rd Try.prog S 3 [z] := hf _ (by simp; exact .inr (.inr (.inl rfl)))
    have h4 : Rd Try.prog S 3 [u] := hf _ (by simp; exact .inr (.inr (.inr (.inl rfl))))
    have h5 : Rd Try.prog S 9 [v] := hf _ (by simp; exact .inr (.inr (.inr (.inr rfl))))
    obtain ⟨a, ha, _⟩ := h1.open_int Try.underlying3
    obtain ⟨b, hb, _⟩ := h2.open_int Try.underlying3
    obtain ⟨c, hc, _⟩ := h3.open_int Try.underlying3
    obtain ⟨d, hd, _⟩ := h4.open_int Try.underlying3
    obtain ⟨e, he, _⟩ := h5.open_str Try.underlying9
    cases ha; cases hb; cases hc; cases hd; cases he
    exact ⟨⟨a, b, c, d, e⟩, rfl⟩
def drc (s id : List UInt8) (h : Hop) (mean most : Int) : List Value := .string (str s) :: .string (str id) :: (h.cells ++ [.int .i64 mean, .int .i64 most])
theorem rdDraw {S : Ents} {cs : List Value} (h : Rd Try.prog S 47 cs) : ∃ s id h mean most, cs = drc s id h mean most ∧ s.length ≤ lim := by
  obtain ⟨hl, hf⟩ := h.open_struct Try.underlying47
  have hl2 : cs.length = 9 := hl
  match cs, hl2 with
  | [x1, x2, x3, x4, x5, x6, x7, x8, x9], _ =>
    have h1 : Rd Try.prog S 9 [x1] := hf _ (by simp; exact .inl rfl)
    have h2 : Rd Try.prog S 9 [x2] := hf _ (by simp; exact .inr (.inl rfl))
    have h3 : Rd Try.prog S 43 [x3, x4, x5, x6, x7] := hf _ (by simp; exact .inr (.inr (.inl rfl)))
    have h4 : Rd Try.prog S 45 [x8, x9] := hf _ (by simp; exact .inr (.inr (.inr rfl)))
    obtain ⟨s, hs, hsl⟩ := rdStr' h1
    obtain ⟨id, hid, _⟩ := rdStr' h2
    obtain ⟨hh, hhe⟩ := rdHop h3
    obtain ⟨_, hf4⟩ := h4.open_struct Try.underlying45
    have h5 : Rd Try.prog S 3 [x8] := hf4 _ (by simp; exact .inl rfl)
    have h6 : Rd Try.prog S 3 [x9] := hf4 _ (by simp; exact .inr rfl)
    obtain ⟨a, ha, _⟩ := h5.open_int Try.underlying3
    obtain ⟨b, hb, _⟩ := h6.open_int Try.underlying3
    cases ha; cases hb
    refine ⟨s, id, hh, a, b, ?_, hsl⟩
    unfold drc
    rw [← hhe, hs, hid]
    rfl
where
  rdStr' {S : Ents} {v : Value} (h : Rd Try.prog S 9 [v]) : ∃ s : List UInt8, v = .string (str s) ∧ s.length ≤ lim := by
    obtain ⟨l, hl, hw⟩ := h.open_str Try.underlying9
    cases hl
    exact ⟨l, rfl, by unfold reachBytes at hw; unfold lim; omega⟩
end Go.Proofs.C

namespace Go.Proofs.C
open Go.Lg
set_option maxRecDepth 100000

/-- What a way that was drawn is. -/
theorem wayR_ok {s : List UInt8} {k : Nat} {a b : Nd} {ms : List (List Nd)} {h : Hop} {mean most : Int} (he : (wayR s k a b ms h mean most).2.2.1 = 0) :
    mayP most [mean] ∧ k + 4 * (2 * ms.length + 1) ≤ s.length ∨ s.length < k := by
  unfold wayR at he
  split at he
  · cases he
  · rename_i h1
    split at he
    · cases he
    · by_cases h3 : k ≤ s.length
      · exact .inl ⟨by simpa using h1, by omega⟩
      · exact .inr (by omega)
theorem wayR_is {s : List UInt8} {k : Nat} {a b : Nd} {ms : List (List Nd)} {h : Hop} {mean most : Int} (h1 : mayP most [mean]) (h2 : k + 4 * (2 * ms.length + 1) ≤ s.length) :
    wayR s k a b ms h mean most = ((wayN s k a b ms).map (·.2), hopsW s k mean most ms.length (wayN s k a b ms) (ms.length + 1) ++ [h], 0, k + 4 * (2 * ms.length + 1)) := by
  unfold wayR
  rw [if_neg (by simpa using h1), if_neg (by omega)]
theorem home_drawn {h0 : List Nd} {ms : List (List Nd)} {ss : List St} {s : List UInt8} {frm to : Int} {id : List UInt8} {mean most : Int} {w : WayT} (h : HomeOf h0 ms ss s 0 frm to id mean most w) (he : w.2.2.1 = 0) :
    ∃ a b, HostOf (h0 :: ms) ss frm a 0 ∧ HostOf (h0 :: ms) ss to b 0 ∧ hopP ⟨2, 0, to, 0, id⟩ ∧ mayP most [mean] ∧ 4 * (2 * ms.length + 1) ≤ s.length ∧
      w = ((wayN s 0 a b ms).map (·.2), hopsW s 0 mean most ms.length (wayN s 0 a b ms) (ms.length + 1) ++ [⟨2, 0, to, 0, id⟩], 0, 4 * (2 * ms.length + 1)) := by
  rcases h with ⟨a, e, _, h1, rfl⟩ | ⟨a, b, e, _, _, h1, rfl⟩ | ⟨a, b, _, _, _, rfl⟩ | ⟨a, b, ha, hb, hp, rfl⟩
  · exact absurd he h1
  · exact absurd he h1
  · cases he
  · rcases wayR_ok he with ⟨h1, h2⟩ | h2
    · have e := wayR_is (a := a) (b := b) (h := ⟨2, 0, to, 0, id⟩) h1 h2
      rw [Nat.zero_add] at h2 e
      exact ⟨a, b, ha, hb, hp, h1, h2, e⟩
    · omega
theorem loose_drawn {h0 : List Nd} {ms : List (List Nd)} {ss : List St} {s : List UInt8} {frm number : Int} {h : Hop} {mean most : Int} {w : WayT} (hw : LooseOf h0 ms ss s 0 frm number h mean most w) (he : w.2.2.1 = 0) :
    ∃ a b, HostOf (h0 :: ms) ss frm a 0 ∧ mayP most [mean] ∧ 4 * (2 * ms.length + 1) ≤ s.length ∧
      w = ((wayN s 0 a b ms).map (·.2), hopsW s 0 mean most ms.length (wayN s 0 a b ms) (ms.length + 1) ++ [h], 0, 4 * (2 * ms.length + 1)) := by
  rcases hw with ⟨a, e, _, h1, rfl⟩ | ⟨a, _, _, rfl⟩ | ⟨a, b, ly, _, _, _, _, rfl⟩ | ⟨a, b, ly, ha, _, _, _, rfl⟩
  · exact absurd he h1
  · cases he
  · cases he
  · rcases wayR_ok he with ⟨h1, h2⟩ | h2
    · have e := wayR_is (a := a) (b := b) (h := h) h1 h2
      rw [Nat.zero_add] at h2 e
      exact ⟨a, b, ha, h1, h2, e⟩
    · omega
theorem wayN_front {s : List UInt8} {k : Nat} {a b b' : Nd} {ms : List (List Nd)} {i : Nat} (hi : i < ms.length + 1) : (wayN s k a b ms)[i]? = (wayN s k a b' ms)[i]? := by
  unfold wayN
  cases i with
  | zero => rfl
  | succ i =>
    rw [List.getElem?_cons_succ, List.getElem?_cons_succ, List.getElem?_append_left (by rw [picks_len]; omega), List.getElem?_append_left (by rw [picks_len]; omega)]
theorem getD_of {α : Type} {l l' : List α} {i : Nat} {d : α} (h : l[i]? = l'[i]?) : l.getD i d = l'.getD i d := by rw [List.getD_eq_getElem?_getD, List.getD_eq_getElem?_getD, h]
theorem points_front {s : List UInt8} {k : Nat} {a b b' : Nd} {ms : List (List Nd)} {i : Nat} (hi : i < ms.length + 1) (h1 : i < ((wayN s k a b ms).map (·.2)).length) (h2 : i < ((wayN s k a b' ms).map (·.2)).length) :
    ((wayN s k a b ms).map (·.2))[i] = ((wayN s k a b' ms).map (·.2))[i] := by
  have := wayN_front (s := s) (k := k) (a := a) (b := b) (b' := b') hi
  simp only [List.getElem_map]
  rw [List.length_map] at h1 h2
  rw [List.getElem?_eq_getElem h1, List.getElem?_eq_getElem h2] at this
  rw [Option.some.inj this]
theorem path_front {s : List UInt8} {k : Nat} {a b b' : Nd} {ms : List (List Nd)} {mean most : Int} {h h' : Hop} {i : Nat} (hi : i < ms.length) (h1 : i < (hopsW s k mean most ms.length (wayN s k a b ms) (ms.length + 1) ++ [h]).length) (h2 : i < (hopsW s k mean most ms.length (wayN s k a b' ms) (ms.length + 1) ++ [h']).length) :
    (hopsW s k mean most ms.length (wayN s k a b ms) (ms.length + 1) ++ [h])[i] = (hopsW s k mean most ms.length (wayN s k a b' ms) (ms.length + 1) ++ [h'])[i] := by
  rw [List.getElem_append_left (by rw [hopsW_len]; omega), List.getElem_append_left (by rw [hopsW_len]; omega)]
  simp only [hopsW, List.getElem_map, List.getElem_range, hopW]
  rw [getD_of (wayN_front (i := i + 1) (b := b) (b' := b') (by omega))]
theorem path_delay {s : List UInt8} {k : Nat} {N : List Nd} {nl : Nat} {mean most : Int} {h : Hop} {i : Nat} (hi : i < nl + 1) (h1 : i < (hopsW s k mean most nl N (nl + 1) ++ [h]).length) :
    (hopsW s k mean most nl N (nl + 1) ++ [h])[i] = ⟨1, (N.getD (i + 1) (0, [])).1, 0, (waitW s k mean most nl i : Nat), []⟩ := by
  rw [List.getElem_append_left (by rw [hopsW_len]; omega)]
  simp only [hopsW, List.getElem_map, List.getElem_range, hopW]

section
variable {B : Nat} {S R : Ents} {hv mv sv : Value} {h0 : List Nd} {ms : List (List Nd)} {ss : List St}
theorem txt_at {S : Ents} {v : Value} {l : List (List UInt8)} (h : Reads S 1 v l.length (txt l)) (h0 : 0 < l.length) :
    ∃ b o cap L e fz, v = .slice (some ⟨b, o, none⟩) l.length cap ∧ (b, cel L e fz) ∈ S ∧ ∀ i (hi : i < l.length), L[o + i * 1]? = some (.string (str l[i])) := by
  obtain ⟨b, o, cap, L, e, fz, hv, hm, _, hat⟩ := h.get1 h0
  exact ⟨b, o, cap, L, e, fz, hv, hm, fun i hi => (hat i hi).trans (txt_get hi)⟩
theorem hcell_at {S : Ents} {v : Value} {l : List Hop} (h : Reads S 5 v l.length (l.flatMap Hop.cells)) (h0 : 0 < l.length) :
    ∃ b o cap L e fz, v = .slice (some ⟨b, o, none⟩) l.length cap ∧ (b, cel L e fz) ∈ S ∧ ∀ i (hi : i < l.length) j, j < 5 → L[o + i * 5 + j]? = l[i].cells[j]? := by
  obtain ⟨b, o, cap, L, e, fz, hv, hm, hat⟩ := Reads.elem (f := Hop.cells) (xs := l) h (hop_flat l) h0
  refine ⟨b, o, cap, L, e, fz, hv, hm, fun i hi j hj => ?_⟩
  rw [← hat i hi, List.getElem?_take, if_pos hj, List.getElem?_drop]
set_option maxHeartbeats 4000000 in
theorem topoLikeL {frm to number : Int} {s id : List UInt8} {h : Hop} {mean most : Int} (hT : TIn S hv mv sv h0 ms ss) (hs : s.length ≤ lim) :
    CallWp Try.prog B 5 #[.agg #[hv, mv, sv], .agg #[.int .i64 frm, .int .i64 to, .int .i64 number], .agg (drc s id h mean most).toArray] (fun v _ => v = .bool true) S := by
  obtain ⟨a1, c1, a2, c2, a3, c3, rfl, rfl, rfl⟩ := hT.forms
  refine CallWp.enter (args := [_, _, _]) Try.func5 rfl Try.ntmps5 rfl ?_
  refine Wp.seq (Wp.region ?_)
  refine OWp.step rfl (Step.box rfl rfl rfl ?_); intro L3 hBL3 hLL3
  refine OWp.step rfl (Step.box rfl rfl rfl ?_); intro L4 hBL4 hLL4
  refine OWp.step rfl (Step.box rfl rfl rfl ?_); intro L5 hBL5 hLL5
  refine OWp.evs 1 rfl ?_
  refine OWp.nil ?_
  obtain ⟨M0, hM0⟩ : ∃ M0 : Ents, M0 = (L5, cel (drc s id h mean most) 47) :: (L4, cel [.int .i64 frm, .int .i64 to, .int .i64 number] 28) :: (L3, cel [.slice a1 h0.length c1, .slice a2 ms.length c2, .slice a3 ss.length c3] 26) :: S := ⟨_, rfl⟩
  have hT0 : TIn M0 (.slice a1 h0.length c1) (.slice a2 ms.length c2) (.slice a3 ss.length c3) h0 ms ss := by rw [hM0]; exact hT.mono fun _ h => .tail _ (.tail _ (.tail _ h))
  have h50 : (L5, cel (drc s id h mean most) 47) ∈ M0 := by rw [hM0]; exact .head _
  have h40 : (L4, cel [.int .i64 frm, .int .i64 to, .int .i64 number] 28) ∈ M0 := by rw [hM0]; exact .tail _ (.head _)
  have h30 : (L3, cel [.slice a1 h0.length c1, .slice a2 ms.length c2, .slice a3 ss.length c3] 26) ∈ M0 := by rw [hM0]; exact .tail _ (.tail _ (.head _))
  show Wp _ _ _ _ _ _ _
  refine Wp.weaken (S' := M0) (Env.Sub.refl _) (fun w h => by rw [hM0]; exact h) ?_
  refine Wp.seq ?_
  refine Wp.seq (Wp.region ?_)
  refine OWp.step rfl (Step.call rfl rfl rfl rfl rfl rfl ((worksC ?_)))
  intro M hMs
  have hTM := hT0.mono hMs
  replace h50 := hMs _ h50
  replace h40 := hMs _ h40
  replace h30 := hMs _ h30
  refine OWp.evs 1 rfl ?_
  refine OWp.nil ?_
  refine Wp.cond rfl (fun cc1 => (by contradiction)) (fun cc1 => ?_)
  refine Wp.skip ?_
  refine Wp.seq (Wp.regionDraw [0, 1, 3, 4, 2, 5, 6, 7] [2, 5] rfl (by decide +kernel) ?_)
  refine DWp.evs 1 rfl ?_
  refine DWp.load h50 rfl rfl rfl rfl rfl rfl rfl ?_
  refine DWp.evs 1 rfl ?_
  refine DWp.load h50 rfl rfl rfl rfl rfl rfl rfl ?_
  refine DWp.step rfl rfl rfl (Step.call rfl rfl rfl rfl rfl rfl ((tapeNew ?_)))
  intro Lx hBx _
  refine ⟨by (repeat (first | exact pr_nil | refine pr_kept ?_ | refine pr_free ?_ | refine pr_cons (by repeat (first | exact List.Mem.head _ | assumption | exact List.mem_append_left _ (by assumption) | apply List.mem_cons_of_mem | apply List.mem_append_right)) ?_)), ?_⟩
  refine DWp.step rfl rfl rfl (Step.call rfl rfl rfl rfl rfl rfl ((tapeNew ?_)))
  intro Ly hBy _
  refine ⟨by (repeat (first | exact pr_nil | refine pr_kept ?_ | refine pr_free ?_ | refine pr_cons (by repeat (first | exact List.Mem.head _ | assumption | exact List.mem_append_left _ (by assumption) | apply List.mem_cons_of_mem | apply List.mem_append_right)) ?_)), ?_⟩
  refine DWp.evs 2 rfl ?_
  refine DWp.nil ?_
  show Wp _ _ _ _ _ _ (tp Ly s 0 :: tp Lx s 0 :: M)
  refine Wp.seq (Wp.region ?_)
  refine OWp.load (.tail _ (.tail _ h30)) rfl rfl rfl rfl rfl ?_
  refine OWp.evs 2 rfl ?_
  refine OWp.load (.tail _ (.tail _ h40)) rfl rfl rfl rfl rfl ?_
  refine OWp.evs 1 rfl ?_
  refine OWp.load (.tail _ (.tail _ h40)) rfl rfl rfl rfl rfl ?_
  refine OWp.evs 1 rfl ?_
  refine OWp.load (.tail _ (.tail _ h50)) rfl rfl rfl rfl rfl ?_
  refine OWp.step rfl (Step.call rfl rfl rfl rfl rfl rfl (CallWp.focus 1 rfl ((homeC (s := s) (k := 0) (id := idW) hBx hs (Nat.zero_le _) (hTM.mono fun _ h => .tail _ h) ?_))))
  intro w pv qv es1 es2 hw hin
  obtain ⟨pa, pc, rfl⟩ := hin.1.reads.form
  obtain ⟨qa, qc, rfl⟩ := hin.2.reads.form
  refine OWp.evs 3 rfl ?_
  refine OWp.step rfl (Step.alloc rfl rfl rfl ?_); intro L9 hBL9 hLL9
  refine OWp.step rfl (Step.storeAs 0 ([.slice pa w.1.length pc, .slice qa w.2.1.length qc]) rfl rfl rfl rfl rfl (by assumption) rfl (Unfz.zero _) rfl (Nat.le_of_ble_eq_true rfl) rfl rfl ?_)
  refine OWp.evs 1 rfl ?_
  refine OWp.nil ?_
  show Wp _ _ _ _ _ _ ((L9, _) :: tp Lx s w.2.2.2 :: (es1 ++ (es2 ++ (tp Ly s 0 :: M))))
  refine Wp.permS (S' := tp Ly s 0 :: ((L9, cel [.slice pa w.1.length pc, .slice qa w.2.1.length qc] 56) :: tp Lx s w.2.2.2 :: (es1 ++ (es2 ++ M)))) (permBy [[(L9, cel [.slice pa w.1.length pc, .slice qa w.2.1.length qc] 56), tp Lx s w.2.2.2], es1, es2, [tp Ly s 0]] M [0, 1, 2, 3] [3, 0, 1, 2] (by decide)) ?_
  obtain ⟨M1, hM1⟩ : ∃ M1 : Ents, M1 = (L9, cel [.slice pa w.1.length pc, .slice qa w.2.1.length qc] 56) :: tp Lx s w.2.2.2 :: (es1 ++ (es2 ++ M)) := ⟨_, rfl⟩
  have h9 : (L9, cel [.slice pa w.1.length pc, .slice qa w.2.1.length qc] 56) ∈ M1 := by rw [hM1]; exact .head _
  have hx : tp Lx s w.2.2.2 ∈ M1 := by rw [hM1]; exact .tail _ (.head _)
  have hr1 : Reads M1 1 (.slice pa w.1.length pc) w.1.length (txt w.1) := hin.1.reads.mono fun x hx => by rw [hM1]; exact .tail _ (.tail _ (List.mem_append_left _ hx))
  have hr2 : Reads M1 5 (.slice qa w.2.1.length qc) w.2.1.length (w.2.1.flatMap Hop.cells) := hin.2.reads.mono fun x hx => by rw [hM1]; exact .tail _ (.tail _ (List.mem_append_right _ (List.mem_append_left _ hx)))
  have hMM : ∀ x ∈ M, x ∈ M1 := fun x hx => by rw [hM1]; exact .tail _ (.tail _ (List.mem_append_right _ (List.mem_append_right _ hx)))
  refine Wp.weaken (S' := tp Ly s 0 :: M1) (Env.Sub.refl _) (fun w h => by rw [hM1]; exact h) ?_
  refine Wp.seq (Wp.region ?_)
  refine OWp.load (.tail _ (hMM _ h30)) rfl rfl rfl rfl rfl ?_
  refine OWp.evs 2 rfl ?_
  refine OWp.load (.tail _ (hMM _ h40)) rfl rfl rfl rfl rfl ?_
  refine OWp.evs 1 rfl ?_
  refine OWp.load (.tail _ (hMM _ h40)) rfl rfl rfl rfl rfl ?_
  refine OWp.g rfl rfl (Gives.build rfl rfl) ?_
  refine OWp.evs 1 rfl ?_
  refine OWp.load (.tail _ (hMM _ h50)) rfl rfl rfl rfl rfl ?_
  refine OWp.step rfl (Step.call rfl rfl rfl rfl rfl rfl ((looseC (s := s) (k := 0) (h := ⟨4, 0, 0, 0, []⟩) hBy hs (Nat.zero_le _) (hTM.mono hMM) ?_)))
  intro u pv' qv' fs1 fs2 hu hun
  obtain ⟨pb, pd, rfl⟩ := hun.1.reads.form
  obtain ⟨qb, qd, rfl⟩ := hun.2.reads.form
  refine OWp.evs 3 rfl ?_
  refine OWp.step rfl (Step.alloc rfl rfl rfl ?_); intro L11 hBL11 hLL11
  refine OWp.step rfl (Step.storeAs 0 ([.slice pb u.1.length pd, .slice qb u.2.1.length qd]) rfl rfl rfl rfl rfl (by assumption) rfl (Unfz.zero _) rfl (Nat.le_of_ble_eq_true rfl) rfl rfl ?_)
  refine OWp.evs 1 rfl ?_
  refine OWp.nil ?_
  obtain ⟨M2, hM2⟩ : ∃ M2 : Ents, M2 = (L11, cel [.slice pb u.1.length pd, .slice qb u.2.1.length qd] 56) :: tp Ly s u.2.2.2 :: (fs1 ++ (fs2 ++ M1)) := ⟨_, rfl⟩
  have h11 : (L11, cel [.slice pb u.1.length pd, .slice qb u.2.1.length qd] 56) ∈ M2 := by rw [hM2]; exact .head _
  have hy : tp Ly s u.2.2.2 ∈ M2 := by rw [hM2]; exact .tail _ (.head _)
  have hMM2 : ∀ x ∈ M1, x ∈ M2 := fun x hx => by rw [hM2]; exact .tail _ (.tail _ (List.mem_append_right _ (List.mem_append_right _ hx)))
  have hr3 : Reads M2 1 (.slice pb u.1.length pd) u.1.length (txt u.1) := hun.1.reads.mono fun x hx => by rw [hM2]; exact .tail _ (.tail _ (List.mem_append_left _ hx))
  have hr4 : Reads M2 5 (.slice qb u.2.1.length qd) u.2.1.length (u.2.1.flatMap Hop.cells) := hun.2.reads.mono fun x hx => by rw [hM2]; exact .tail _ (.tail _ (List.mem_append_right _ (List.mem_append_left _ hx)))
  replace hr1 := hr1.mono hMM2
  replace hr2 := hr2.mono hMM2
  replace h9 := hMM2 _ h9
  replace hx := hMM2 _ hx
  show Wp _ _ _ _ _ _ _
  refine Wp.weaken (S' := M2) (Env.Sub.refl _) (fun w h => by rw [hM2]; exact h) ?_
  refine Wp.seq ?_
  refine Wp.seq (Wp.region ?_)
  refine OWp.evs 3 rfl ?_
  refine OWp.part 50 rfl (fun e1 => ?_) (fun e1 => ?_)
  · have e1 := ndT e1
    refine OWp.evs 3 rfl ?_
    refine OWp.nil ?_
    refine Wp.cond rfl (fun _ => ?_) (fun c => nomatch c)
    refine Wp.seq (Wp.region ?_)
    refine OWp.evs 1 rfl ?_
    refine OWp.nil ?_
    refine Wp.ret ⟨trivial, _, ⟨_, _, rfl, rfl, rfl⟩, ?_⟩
    rfl
  have e1 := ndF e1
  refine OWp.evs 3 rfl ?_
  refine OWp.nil ?_
  refine Wp.cond rfl (fun e2 => ?_) (fun e2 => ?_)
  · have e2 := ndT e2
    refine Wp.seq (Wp.region ?_)
    refine OWp.evs 1 rfl ?_
    refine OWp.nil ?_
    refine Wp.ret ⟨trivial, _, ⟨_, _, rfl, rfl, rfl⟩, ?_⟩
    rfl
  have e2 := ndF e2
  obtain ⟨a, b, ha, hb, hp, hm, hlen, rfl⟩ := home_drawn hw e1
  obtain ⟨a', b', ha', hm', hlen', rfl⟩ := loose_drawn hu e2
  obtain rfl := (hostOf_one ha ha').1
  have hnl : ms.length ≤ 3 := by
    rcases hostOf_no ha with ⟨_, hok, _⟩ | h | h
    · have := hok.1.2.1; simp only [List.length_cons] at this; omega
    · cases h
    · cases h
  obtain ⟨P1, hP1⟩ : ∃ P1, P1 = (wayN s 0 a b ms).map (·.2) := ⟨_, rfl⟩
  obtain ⟨P2, hP2⟩ : ∃ P2, P2 = (wayN s 0 a b' ms).map (·.2) := ⟨_, rfl⟩
  obtain ⟨H1, hH1⟩ : ∃ H1, H1 = hopsW s 0 mean most ms.length (wayN s 0 a b ms) (ms.length + 1) ++ [⟨2, 0, to, 0, idW⟩] := ⟨_, rfl⟩
  obtain ⟨H2, hH2⟩ : ∃ H2, H2 = hopsW s 0 mean most ms.length (wayN s 0 a b' ms) (ms.length + 1) ++ [⟨4, 0, 0, 0, []⟩] := ⟨_, rfl⟩
  have lP1 : P1.length = ms.length + 2 := by rw [hP1, List.length_map, wayN_len]
  have lP2 : P2.length = ms.length + 2 := by rw [hP2, List.length_map, wayN_len]
  have lH1 : H1.length = ms.length + 2 := by rw [hH1, List.length_append, hopsW_len]; rfl
  have lH2 : H2.length = ms.length + 2 := by rw [hH2, List.length_append, hopsW_len]; rfl
  have eP : ∀ i (h1 : i < P1.length) (h2 : i < P2.length), i < ms.length + 1 → P1[i] = P2[i] := fun i h1 h2 hi => by subst hP1 hP2; exact points_front hi h1 h2
  have eH : ∀ i (h1 : i < H1.length) (h2 : i < H2.length), i < ms.length → H1[i] = H2[i] := fun i h1 h2 hi => by subst hH1 hH2; exact path_front hi h1 h2
  have eD : ∀ i (h1 : i < H1.length) (h2 : i < H2.length), i < ms.length + 1 → H1[i].delay = H2[i].delay := fun i h1 h2 hi => by subst hH1 hH2; rw [path_delay hi, path_delay hi]
  simp only [← hP1, ← hP2, ← hH1, ← hH2] at *
  obtain ⟨b1, o1, k1, l1, t1, f1, hv1, hm1, hat1⟩ := txt_at hr1 (by omega)
  obtain ⟨b2, o2, k2, l2, t2, f2, hv2, hm2, hat2⟩ := hop_at hr2 (by omega)
  obtain ⟨b3, o3, k3, l3, t3, f3, hv3, hm3, hat3⟩ := txt_at hr3 (by omega)
  obtain ⟨b4, o4, k4, l4, t4, f4, hv4, hm4, hat4⟩ := hop_at hr4 (by omega)
  cases hv1
  cases hv2
  cases hv3
  cases hv4
  obtain ⟨b5, o5, k5, l5, t5, f5, hv5, hm5, hat5⟩ := hcell_at hr2 (by omega)
  obtain ⟨b6, o6, k6, l6, t6, f6, hv6, hm6, hat6⟩ := hcell_at hr4 (by omega)
  cases hv5
  cases hv6
  refine Wp.skip ?_
  refine Wp.seq (Wp.region ?_)
  refine OWp.evs 1 rfl ?_
  refine OWp.load h9 rfl rfl rfl rfl rfl ?_
  refine OWp.evs 2 rfl ?_
  refine OWp.nil ?_
  refine Wp.seq ?_
  refine Wp.seq (Wp.regionDraw [0, 1, 2, 3, 4, 5, 6, 7, 8, 10, 11, 12, 9, 13, 14, 15] [9, 13] rfl (by decide +kernel) ?_)
  refine DWp.evs 1 rfl ?_
  refine DWp.load h11 rfl rfl rfl rfl rfl rfl rfl ?_
  refine DWp.evs 4 rfl ?_
  refine DWp.part 62 rfl (fun cc2 => absurd (ndT cc2) (by omega)) (fun cc2 => ?_)
  have cc2 := ndF cc2
  refine DWp.evs 6 rfl ?_
  refine DWp.stepGrow rfl rfl rfl (Step.call rfl rfl rfl rfl rfl rfl ((left (s := s) (k := 4 * (2 * ms.length + 1)) hx (by omega) hs ?_)))
  refine ⟨fun _ hy => hy, ?_⟩
  refine DWp.stepGrow rfl rfl rfl (Step.call rfl rfl rfl rfl rfl rfl ((left (s := s) (k := 4 * (2 * ms.length + 1)) hy (by omega) hs ?_)))
  refine ⟨fun _ hy => hy, ?_⟩
  refine DWp.evs 2 rfl ?_
  refine DWp.nil ?_
  refine Wp.cond rfl (fun cc3 => absurd (ndT cc3) (by simp)) (fun cc3 => ?_)
  have cc3 := ndF cc3
  refine Wp.skip ?_
  refine Wp.seq ?_
  refine Wp.seq (Wp.region ?_)
  refine OWp.evs 3 rfl ?_
  refine OWp.nil ?_
  refine Wp.block ?_
  refine Wp.loopS (α := Nat) (fun i => ms.length - i) (fun i => [(9, pt L9), (11, pt L11), (13, .int .i64 (H1.length : Int)), (74, .int .i64 (ms.length : Int)), (75, .int .i64 (i : Int))]) (fun _ => M2) (fun i => i ≤ ms.length) 0 ?_ (.refl _) (Nat.zero_le _) ?_
  · exact .cons rfl (.cons rfl (.cons rfl (.cons' rfl (int_eq (by rw [i64_id] <;> omega)) (.cons rfl (.nil _)))))
  rintro i hi
  refine Wp.seq (Wp.region ?_)
  refine OWp.evs 1 rfl ?_
  refine OWp.nil ?_
  refine Wp.seq ?_
  refine Wp.cond rfl (fun h1 => ?_) (fun h1 => ?_)
  · have h1 := of_decide_eq_true h1
    have hi1 : i < ms.length := by omega
    refine Wp.skip ?_
    refine Wp.seq ?_
    refine Wp.block ?_
    refine Wp.seq (Wp.region ?_)
    refine OWp.evs 2 rfl ?_
    refine OWp.nil ?_
    refine Wp.seq (Wp.regionDraw [0, 1, 2, 3, 4, 5, 6, 7, 8, 9, 10, 11, 12, 13, 14, 15, 16, 17, 18, 19, 20, 21, 22, 23] [] rfl (by decide +kernel) ?_)
    refine DWp.evs 1 rfl ?_
    refine DWp.load h9 rfl rfl rfl rfl rfl rfl rfl ?_
    refine DWp.evs 1 rfl ?_
    refine DWp.g rfl rfl rfl rfl (Gives.indexAddrSlice (i) rfl rfl rfl rfl rfl rfl (by omega)) ?_
    refine DWp.load hm2 rfl rfl rfl rfl rfl rfl (hat2 i (by omega)) ?_
    refine DWp.evs 1 rfl ?_
    refine DWp.load h11 rfl rfl rfl rfl rfl rfl rfl ?_
    refine DWp.evs 1 rfl ?_
    refine DWp.g rfl rfl rfl rfl (Gives.indexAddrSlice (i) rfl rfl rfl rfl rfl rfl (by omega)) ?_
    refine DWp.load hm4 rfl rfl rfl rfl rfl rfl (hat4 i (by omega)) ?_
    rw [eH i (by omega) (by omega) hi1]
    refine DWp.g rfl rfl rfl rfl (Gives.neqStruct (r := true) 10 rfl rfl rfl rfl hopG (hopSelf _)) ?_
    refine DWp.evs 1 rfl ?_
    refine DWp.evs 1 rfl ?_
    refine DWp.load h9 rfl rfl rfl rfl rfl rfl rfl ?_
    refine DWp.evs 1 rfl ?_
    refine DWp.g rfl rfl rfl rfl (Gives.indexAddrSlice (i) rfl rfl rfl rfl rfl rfl (by omega)) ?_
    refine DWp.load hm1 rfl rfl rfl rfl rfl rfl (hat1 i (by omega)) ?_
    refine DWp.evs 1 rfl ?_
    refine DWp.load h11 rfl rfl rfl rfl rfl rfl rfl ?_
    refine DWp.evs 1 rfl ?_
    refine DWp.g rfl rfl rfl rfl (Gives.indexAddrSlice (i) rfl rfl rfl rfl rfl rfl (by omega)) ?_
    refine DWp.load hm3 rfl rfl rfl rfl rfl rfl (hat3 i (by omega)) ?_
    rw [eP i (by omega) (by omega) (by omega)]
    refine DWp.evs 2 rfl ?_
    refine DWp.nil ?_
    refine Wp.cond rfl (fun cc4 => absurd (ndT cc4) (by simp)) (fun cc4 => ?_)
    have cc4 := ndF cc4
    refine Wp.skip ?_
    refine Wp.region ?_
    refine OWp.evs 2 rfl ?_
    refine OWp.nil ?_
    exact ⟨i + 1, by omega, by omega, .cons rfl (.cons rfl (.cons rfl (.cons rfl (.cons' rfl (int_eq (by rw [i64_id] <;> omega)) (.nil _))))), .refl _⟩
  have h1 := of_decide_eq_false h1
  obtain rfl : i = ms.length := by omega
  refine Wp.exit ?_
  refine Wp.seq (Wp.regionDraw [0, 1, 2, 3, 4, 5, 6, 7, 8, 9, 10, 11, 12, 13, 14, 15, 16, 17, 18, 19, 20, 21, 22, 23, 24, 25, 26, 27, 28, 29, 30] [] rfl (by decide +kernel) ?_)
  refine DWp.evs 1 rfl ?_
  refine DWp.load h9 rfl rfl rfl rfl rfl rfl rfl ?_
  refine DWp.evs 2 rfl ?_
  refine DWp.g rfl rfl rfl rfl (Gives.indexAddrSlice (ms.length) rfl rfl rfl rfl rfl (by rw [i64_id] <;> omega) (by omega)) ?_
  refine DWp.load hm1 rfl rfl rfl rfl rfl rfl (hat1 _ (by omega)) ?_
  refine DWp.evs 1 rfl ?_
  refine DWp.load h11 rfl rfl rfl rfl rfl rfl rfl ?_
  refine DWp.evs 2 rfl ?_
  refine DWp.g rfl rfl rfl rfl (Gives.indexAddrSlice (ms.length) rfl rfl rfl rfl rfl (by rw [i64_id] <;> omega) (by omega)) ?_
  refine DWp.load hm3 rfl rfl rfl rfl rfl rfl (hat3 _ (by omega)) ?_
  rw [eP ms.length (by omega) (by omega) (by omega)]
  refine DWp.evs 2 rfl ?_
  refine DWp.part 116 rfl (fun cc5 => ?_) (fun cc5 => absurd (of_decide_eq_false cc5) (by simp))
  have cc5 := of_decide_eq_true cc5
  refine DWp.evs 1 rfl ?_
  refine DWp.load h9 rfl rfl rfl rfl rfl rfl rfl ?_
  refine DWp.evs 2 rfl ?_
  refine DWp.g rfl rfl rfl rfl (Gives.indexAddrSlice (ms.length) rfl rfl rfl rfl rfl (by rw [i64_id] <;> omega) (by omega)) ?_
  refine DWp.evs 1 rfl ?_
  refine DWp.load hm5 rfl rfl rfl rfl rfl rfl ((hat5 ms.length (by omega) 3 (by decide)).trans rfl) ?_
  refine DWp.evs 1 rfl ?_
  refine DWp.load h11 rfl rfl rfl rfl rfl rfl rfl ?_
  refine DWp.evs 2 rfl ?_
  refine DWp.g rfl rfl rfl rfl (Gives.indexAddrSlice (ms.length) rfl rfl rfl rfl rfl (by rw [i64_id] <;> omega) (by omega)) ?_
  refine DWp.evs 1 rfl ?_
  refine DWp.load hm6 rfl rfl rfl rfl rfl rfl ((hat6 ms.length (by omega) 3 (by decide)).trans rfl) ?_
  refine DWp.evs 3 rfl ?_
  refine DWp.nil ?_
  rw [eD ms.length (by omega) (by omega) (by omega)]
  refine Wp.ret ⟨trivial, _, ⟨_, _, rfl, rfl, rfl⟩, ?_⟩
  simp [tup]
end

theorem topoLikeW {a0 a1 a2 : Array Value} {S : Ents} {B : Nat} (h0 : Rd Try.prog S 26 a0.toList) (h1 : Rd Try.prog S 28 a1.toList) (h2 : Rd Try.prog S 47 a2.toList) :
    CallWp Try.prog B 5 #[.agg a0, .agg a1, .agg a2] (fun v _ => v = .bool true) S := by
  obtain ⟨hv, mv, sv, h0, ms, ss, e0, hT⟩ := rdTown h0
  obtain ⟨a, b, c, e1⟩ := rdAsk h1
  obtain ⟨s, id, h, mean, most, e2, hs⟩ := rdDraw h2
  have e0' : a0 = #[hv, mv, sv] := by rw [← Array.toArray_toList (xs := a0), e0]
  have e1' : a1 = #[.int .i64 a, .int .i64 b, .int .i64 c] := by rw [← Array.toArray_toList (xs := a1), e1]
  have e2' : a2 = (drc s id h mean most).toArray := by rw [← Array.toArray_toList (xs := a2), e2]
  subst e0' e1' e2'
  exact topoLikeL hT hs
end Go.Proofs.C
