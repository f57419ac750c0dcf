/- What functions of the given program do, one after the other, told by that layer. -/
import Derived.Test.YtlhpbeldhpljnaaPM5xa080
namespace Go.Proofs.C
open Go.Lg
set_option maxRecDepth 100000

/-- Points, path, why not, where the tape stands. -/
abbrev WayT := List (List UInt8) × List Hop × Int × Nat
def HomeOf (h0 : List Nd) (ms : List (List Nd)) (ss : List St) (s : List UInt8) (k : Nat) (frm to : Int) (id : List UInt8) (mean most : Int) (w : WayT) : Prop :=
  (∃ a e, HostOf (h0 :: ms) ss frm a e ∧ e ≠ 0 ∧ w = ([], [], e, k)) ∨ (∃ a b e, HostOf (h0 :: ms) ss frm a 0 ∧ HostOf (h0 :: ms) ss to b e ∧ e ≠ 0 ∧ w = ([], [], e, k)) ∨
  (∃ a b, HostOf (h0 :: ms) ss frm a 0 ∧ HostOf (h0 :: ms) ss to b 0 ∧ ¬ hopP ⟨2, 0, to, 0, id⟩ ∧ w = ([], [], 70, k)) ∨
  (∃ a b, HostOf (h0 :: ms) ss frm a 0 ∧ HostOf (h0 :: ms) ss to b 0 ∧ hopP ⟨2, 0, to, 0, id⟩ ∧ w = wayR s k a b ms ⟨2, 0, to, 0, id⟩ mean most)
def LooseOf (h0 : List Nd) (ms : List (List Nd)) (ss : List St) (s : List UInt8) (k : Nat) (frm number : Int) (h : Hop) (mean most : Int) (w : WayT) : Prop :=
  (∃ a e, HostOf (h0 :: ms) ss frm a e ∧ e ≠ 0 ∧ w = ([], [], e, k)) ∨ (∃ a, HostOf (h0 :: ms) ss frm a 0 ∧ (¬ ∃ x, findP (h0 :: ms) number = some x ∧ x.1 ≤ 0) ∧ w = ([], [], 5, k)) ∨
  (∃ a b ly, HostOf (h0 :: ms) ss frm a 0 ∧ findP (h0 :: ms) number = some (ly, b) ∧ ly ≤ 0 ∧ ¬ looseP h ∧ w = ([], [], 70, k)) ∨
  (∃ a b ly, HostOf (h0 :: ms) ss frm a 0 ∧ findP (h0 :: ms) number = some (ly, b) ∧ ly ≤ 0 ∧ looseP h ∧ w = wayR s k a b ms h mean most)

/-- What a way's value is in memory. -/
def WayIn (B : Nat) (w : WayT) (pv qv : Value) (es1 es2 : Ents) : Prop := Lg.Own B 9 1 pv w.1.length (txt w.1) es1 ∧ Lg.Own B 43 5 qv w.2.1.length (w.2.1.flatMap Hop.cells) es2
theorem WayIn.none (B : Nat) (e : Int) (k : Nat) : WayIn B ([], [], e, k) (.slice none 0 0) (.slice none 0 0) [] [] := ⟨Own.nil _ _ _, Own.nil _ _ _⟩
def WayPost (B : Nat) (s : List UInt8) (k p : Nat) (ms : List (List Nd)) (h : Hop) (mean most : Int) (R : Ents) (a b : Nd) (way : List Value) (e : Int) (F G : Ents) : Prop :=
  e = (wayR s k a b ms h mean most).2.2.1 ∧ ∃ pv qv es1 es2, way = [pv, qv] ∧ F = tp p s (wayR s k a b ms h mean most).2.2.2 :: (es1 ++ es2) ∧ G = R ∧ WayIn B (wayR s k a b ms h mean most) pv qv es1 es2

section
variable {B : Nat} {S R : Ents} {Q : Value → Ents → Prop} {p k : Nat} {s : List UInt8} {hv mv sv : Value} {h0 : List Nd} {ms : List (List Nd)} {ss : List St} {a b : Nd} {h : Hop} {mean most : Int}
theorem tapeSpec (hB : B ≤ p) (hs : s.length ≤ lim) (hk : k ≤ s.length) (hT : TIn R hv mv sv h0 ms ss) (hok : TownOk (h0 :: ms) ss) :
    DrawSpec 33 B (.agg #[hv, mv, sv]) (pt p) (.agg #[.int .i64 mean, .int .i64 most]) h (tp p s k :: R) (WayPost B s k p ms h mean most R) := by
  intro a b L Q H
  refine CallWp.permS List.perm_middle ?_
  refine drawWC hB hs hk (hT.mono fun x hx => List.mem_append_right _ hx) hok ?_
  intro pv qv es1 es2 h1 h2
  obtain ⟨pa, pc, hp⟩ := h1.reads.form
  obtain ⟨qa, qc, hq⟩ := h2.reads.form
  have := H pa _ pc qa _ qc _ _ R ⟨rfl, pv, qv, es1, es2, by rw [hp, hq], rfl, rfl, h1, h2⟩
  rw [List.cons_append, List.append_assoc] at this
  rw [hp, hq]
  exact this
theorem nilSpec (hm : mayP most [mean]) : DrawSpec 33 B (.agg #[hv, mv, sv]) (.pointer none) (.agg #[.int .i64 mean, .int .i64 most]) h R (fun _ _ way e F G => way = [.slice none 0 0, .slice none 0 0] ∧ e = 120 ∧ F = [] ∧ G = R) := by
  intro a b L Q H
  have := H none 0 0 none 0 0 120 [] R ⟨rfl, rfl, rfl, rfl⟩
  refine CallWp.dropRet ?_
  refine CallWp.enter (args := [_, _, _, _, _, _]) Try.func33 rfl Try.ntmps33 rfl ?_
  refine Wp.seq (Wp.region ?_)
  refine OWp.step rfl (Step.box rfl rfl rfl ?_); intro L6 hBL6 hLL6
  refine OWp.step rfl (Step.box rfl rfl rfl ?_); intro L8 hBL8 hLL8
  refine OWp.step rfl (Step.box rfl rfl rfl ?_); intro L9 hBL9 hLL9
  refine OWp.step rfl (Step.box rfl rfl rfl ?_); intro L10 hBL10 hLL10
  refine OWp.step rfl (Step.box rfl rfl rfl ?_); intro L11 hBL11 hLL11
  refine OWp.step rfl (Step.alloc rfl rfl rfl ?_); intro L12 hBL12 hLL12
  refine OWp.evs 1 rfl ?_
  refine OWp.nil ?_
  refine Wp.seq ?_
  refine Wp.seq (Wp.region ?_)
  refine OWp.evs 1 rfl ?_
  refine OWp.load (.tail _ (.head _)) rfl rfl rfl rfl rfl ?_
  refine OWp.evs 1 rfl ?_
  refine OWp.load (.tail _ (.head _)) rfl rfl rfl rfl rfl ?_
  refine OWp.step rfl (Step.call rfl rfl rfl rfl rfl rfl ((tableY hm ?_)))
  intro LT uT lT hBT
  refine OWp.evs 5 rfl ?_
  refine OWp.nil ?_
  refine Wp.seq (Wp.region ?_)
  refine OWp.evs 2 rfl ?_
  refine OWp.nil ?_
  refine Wp.cond rfl (fun cc1 => absurd (ndT cc1) (by exact fun h => h rfl)) (fun cc1 => ?_)
  have cc1 := ndF cc1
  refine Wp.skip ?_
  refine Wp.seq ?_
  refine Wp.seq (Wp.regionDraw [0, 1, 2, 3, 4, 5, 7, 6, 8, 9, 10, 11] [6, 8] rfl (by decide +kernel) ?_)
  refine DWp.evs 3 rfl ?_
  refine DWp.evs 4 rfl ?_
  refine DWp.stepSkip rfl rfl rfl rfl ?_
  refine DWp.stepSkip rfl rfl rfl rfl ?_
  refine DWp.evs 3 rfl ?_
  refine DWp.nil ?_
  refine Wp.cond rfl (fun _ => ?_) (fun c => nomatch c)
  refine Wp.seq (Wp.region ?_)
  refine OWp.g rfl rfl (Gives.build rfl rfl) ?_
  refine OWp.step rfl (Step.storeAs 1 ([.slice none 0 0, .slice none 0 0]) rfl rfl rfl rfl rfl (by assumption) rfl (Unfz.zero _) rfl (Nat.le_of_ble_eq_true rfl) rfl rfl ?_)
  refine OWp.evs 1 rfl ?_
  refine OWp.nil ?_
  refine Wp.ret ⟨trivial, _, ⟨_, _, _, _, rfl, rfl, ⟨_, _, _, (by repeat (first | exact List.Mem.head _ | assumption | exact List.mem_append_left _ (by assumption) | apply List.mem_cons_of_mem | apply List.mem_append_right)), (by first | assumption | rfl)⟩, ⟨_, _, rfl, rfl, rfl⟩⟩, ?_⟩
  exact ⟨_, (by repeat (first | exact List.Sublist.refl _ | exact List.sublist_append_right _ _ | apply List.Sublist.cons)), this⟩
theorem homeC {frm to : Int} {id : List UInt8} (hB : B ≤ p) (hs : s.length ≤ lim) (hk : k ≤ s.length) (hT : TIn R hv mv sv h0 ms ss)
    (H : ∀ w pv qv es1 es2, HomeOf h0 ms ss s k frm to id mean most w → WayIn B w pv qv es1 es2 → Q (.tuple #[.agg #[pv, qv], .int .i64 w.2.2.1]) (tp p s w.2.2.2 :: (es1 ++ (es2 ++ R)))) :
    CallWp Try.prog B 19 #[.agg #[hv, mv, sv], pt p, .int .i64 frm, .int .i64 to, .string (str id), .agg #[.int .i64 mean, .int .i64 most]] Q (tp p s k :: R) := by
  refine homeG (hT.mono fun _ h => .tail _ h) (fun hok hp => tapeSpec hB hs hk hT hok) ?_ ?_ ?_ ?_
  · intro a e ha he
    exact H _ _ _ _ _ (.inl ⟨a, e, ha, he, rfl⟩) (WayIn.none _ _ _)
  · intro a b e ha hb he
    exact H _ _ _ _ _ (.inr (.inl ⟨a, b, e, ha, hb, he, rfl⟩)) (WayIn.none _ _ _)
  · intro a b ha hb hp
    exact H _ _ _ _ _ (.inr (.inr (.inl ⟨a, b, ha, hb, hp, rfl⟩))) (WayIn.none _ _ _)
  · rintro a b a1 n1 c1 a2 n2 c2 e F G ha hb hp ⟨rfl, pv, qv, es1, es2, hw, rfl, rfl, hin⟩
    have := H _ _ _ _ _ (.inr (.inr (.inr ⟨a, b, ha, hb, hp, rfl⟩))) hin
    rw [hw, List.cons_append, List.append_assoc]
    exact this
theorem looseC {frm number : Int} (hB : B ≤ p) (hs : s.length ≤ lim) (hk : k ≤ s.length) (hT : TIn R hv mv sv h0 ms ss)
    (H : ∀ w pv qv es1 es2, LooseOf h0 ms ss s k frm number h mean most w → WayIn B w pv qv es1 es2 → Q (.tuple #[.agg #[pv, qv], .int .i64 w.2.2.1]) (tp p s w.2.2.2 :: (es1 ++ (es2 ++ R)))) :
    CallWp Try.prog B 23 #[.agg #[hv, mv, sv], pt p, .int .i64 frm, .int .i64 number, .agg h.cells.toArray, .agg #[.int .i64 mean, .int .i64 most]] Q (tp p s k :: R) := by
  refine looseG (hT.mono fun _ h => .tail _ h) (fun hok hp => tapeSpec hB hs hk hT hok) ?_ ?_ ?_ ?_
  · intro a e ha he
    exact H _ _ _ _ _ (.inl ⟨a, e, ha, he, rfl⟩) (WayIn.none _ _ _)
  · intro a ha hx
    exact H _ _ _ _ _ (.inr (.inl ⟨a, ha, hx, rfl⟩)) (WayIn.none _ _ _)
  · intro a b ly ha hb hl hp
    exact H _ _ _ _ _ (.inr (.inr (.inl ⟨a, b, ly, ha, hb, hl, hp, rfl⟩))) (WayIn.none _ _ _)
  · rintro a b ly a1 n1 c1 a2 n2 c2 e F G ha hb hl hp ⟨rfl, pv, qv, es1, es2, hw, rfl, rfl, hin⟩
    have := H _ _ _ _ _ (.inr (.inr (.inr ⟨a, b, ly, ha, hb, hl, hp, rfl⟩))) hin
    rw [hw, List.cons_append, List.append_assoc]
    exact this
end
end Go.Proofs.C

namespace Go.Proofs.C
open Go.Lg
set_option maxRecDepth 100000

def pt0 : List UInt8 := List.replicate 32 0
def idW : List UInt8 := [115, 105, 120, 116, 101, 101, 110, 32, 98, 121, 116, 101, 115, 32, 33, 33]
theorem wTown : TownOk [[((0 : Int), pt0)], [((1 : Int), pt0)]] [((7 : Int), (0 : Int))] := by
  refine ⟨⟨by decide, by decide, by simp⟩, nodesOk_iff.2 ⟨?_, by decide⟩, ?_, by decide⟩
  · intro x hx
    simp only [List.flatten_cons, List.flatten_nil, List.cons_append, List.nil_append, List.mem_cons, List.mem_nil_iff, or_false] at hx
    rcases hx with rfl | rfl <;> exact ⟨by decide, by decide, rfl⟩
  · intro x hx
    rw [List.mem_singleton.1 hx]
    exact ⟨⟨(0, (0, pt0)), rfl, by decide⟩, by decide, by decide⟩
theorem wHost : HostOf [[((0 : Int), pt0)], [((1 : Int), pt0)]] [((7 : Int), (0 : Int))] 7 (0, pt0) 0 :=
  .inl ⟨wTown, .inl ⟨(7, 0), 0, rfl, rfl, by decide, rfl⟩⟩
theorem wMay : mayP 0 [0] := ⟨by decide, by decide, by decide⟩
theorem wHop : hopP ⟨2, 0, 7, 0, idW⟩ := by decide
def s0 : List UInt8 := List.replicate 12 0
theorem wWay : wayR s0 0 (0, pt0) (0, pt0) [[((1 : Int), pt0)]] ⟨2, 0, 7, 0, idW⟩ 0 0 = ([pt0, pt0, pt0], [⟨1, 1, 0, 0, []⟩, ⟨1, 0, 0, 0, []⟩, ⟨2, 0, 7, 0, idW⟩], 0, 12) := by
  unfold wayR
  rw [if_neg (by simpa using wMay), if_neg (by decide)]
  rfl
theorem wHome {w : WayT} (h : HomeOf [((0 : Int), pt0)] [[((1 : Int), pt0)]] [((7 : Int), (0 : Int))] s0 0 7 7 idW 0 0 w) : w = ([pt0, pt0, pt0], [⟨1, 1, 0, 0, []⟩, ⟨1, 0, 0, 0, []⟩, ⟨2, 0, 7, 0, idW⟩], 0, 12) := by
  rcases h with ⟨a, e, ha, he, _⟩ | ⟨a, b, e, ha, hb, he, _⟩ | ⟨a, b, ha, hb, hp, _⟩ | ⟨a, b, ha, hb, hp, rfl⟩
  · exact absurd (hostOf_one ha wHost).2 he
  · exact absurd (hostOf_one hb wHost).2 he
  · exact absurd wHop hp
  · rw [(hostOf_one ha wHost).1, (hostOf_one hb wHost).1]; exact wWay

theorem hopSelf (x : Hop) : eqIn Try.prog 10 43 (.agg x.cells.toArray) (.agg x.cells.toArray) = some true := by
  have h : eqIn Try.prog 10 43 (.agg x.cells.toArray) (.agg x.cells.toArray) = some (eqHop x x) := by rfl
  rw [h, eqHop_iff.2 rfl]
theorem homeNilW {B : Nat} {S : Ents} {Q : Value → Ents → Prop} {hv mv sv : Value} (hT : TIn S hv mv sv [((0 : Int), pt0)] [[((1 : Int), pt0)]] [((7 : Int), (0 : Int))]) (H : Q (.tuple #[.agg #[.slice none 0 0, .slice none 0 0], .int .i64 120]) S) :
    CallWp Try.prog B 19 #[.agg #[hv, mv, sv], .pointer none, .int .i64 7, .int .i64 7, .string (str idW), .agg #[.int .i64 0, .int .i64 0]] Q S := by
  refine homeG hT (fun _ _ => nilSpec wMay) ?_ ?_ ?_ ?_
  · intro a e ha he; exact absurd (hostOf_one ha wHost).2 he
  · intro a b e ha hb he; exact absurd (hostOf_one hb wHost).2 he
  · intro a b ha hb hp; exact absurd wHop hp
  · rintro a b a1 n1 c1 a2 n2 c2 e F G ha hb hp ⟨h1, rfl, rfl, rfl⟩
    cases h1
    exact H
section
variable {B : Nat} {S R : Ents} {Q : Value → Ents → Prop}
theorem hop_at {S : Ents} {v : Value} {l : List Hop} (h : Reads S 5 v l.length (l.flatMap Hop.cells)) (h0 : 0 < l.length) :
    ∃ b o cap L e fz, v = .slice (some ⟨b, o, none⟩) l.length cap ∧ (b, cel L e fz) ∈ S ∧ ∀ i (hi : i < l.length), Lg.partAt Try.prog 43 L (o + i * 5) = some (.agg l[i].cells.toArray) := by
  obtain ⟨b, o, cap, L, e, fz, hv, hm, hat⟩ := Reads.elem (f := Hop.cells) (xs := l) h (hop_flat l) h0
  exact ⟨b, o, cap, L, e, fz, hv, hm, fun i hi => partAt_agg (n := 5) (hat i hi) rfl rfl rfl⟩
set_option maxHeartbeats 4000000 in
theorem worksC (H : ∀ S', (∀ x ∈ S, x ∈ S') → Q (.bool true) S') : CallWp Try.prog B 17 #[] Q S := by
  refine CallWp.enter (args := []) Try.func17 rfl Try.ntmps17 rfl ?_
  refine Wp.seq (Wp.region ?_)
  refine OWp.evs 1 rfl ?_
  refine OWp.nil ?_
  refine Wp.seq (Wp.region ?_)
  refine OWp.step rfl (Step.makeSlice (len := 32) (cap := 32) rfl rfl rfl rfl rfl rfl (by decide) rfl rfl (Nat.le_refl _) (by decide) (by decide) ?_)
  intro Lz hBz _
  refine OWp.gives rfl rfl (Gives.bytesToStr (F := (Lz, cel (byteCells pt0) 5) :: S) (l := pt0) (k := 32) rfl rfl rfl rfl rfl (Reads.row (k := 32) (sz := 1) (cap := 32) (b := Lz) (l := byteCells pt0) (e := 5) (fz := (0, 0)) (.head _) (by decide))) (fun _ h => h) ?_
  refine OWp.evs 1 rfl ?_
  refine OWp.nil ?_
  refine Wp.seq (Wp.region ?_)
  refine OWp.evs 1 rfl ?_
  refine OWp.g rfl rfl (Gives.build rfl rfl) ?_
  refine OWp.step rfl (Step.buildSlice rfl rfl rfl ?_); intro La hBLa hLLa
  refine OWp.evs 1 rfl ?_
  refine OWp.g rfl rfl (Gives.build rfl rfl) ?_
  refine OWp.step rfl (Step.buildSlice rfl rfl rfl ?_); intro Lb hBLb hLLb
  refine OWp.step rfl (Step.buildSlice rfl rfl rfl ?_); intro Lc hBLc hLLc
  refine OWp.g rfl rfl (Gives.build rfl rfl) ?_
  refine OWp.step rfl (Step.buildSlice rfl rfl rfl ?_); intro Ld hBLd hLLd
  refine OWp.g rfl rfl (Gives.build rfl rfl) ?_
  refine OWp.step rfl (Step.alloc rfl rfl rfl ?_); intro L2 hBL2 hLL2
  refine OWp.step rfl (Step.storeAs 0 ([.slice (some ⟨La, 0, none⟩) 1 1, .slice (some ⟨Lc, 0, none⟩) 1 1, .slice (some ⟨Ld, 0, none⟩) 1 1]) rfl rfl rfl rfl rfl (by assumption) rfl (Unfz.zero _) rfl (Nat.le_of_ble_eq_true rfl) rfl rfl ?_)
  refine OWp.nil ?_
  obtain ⟨M, hM⟩ : ∃ M : Ents, M = (L2, cel [.slice (some ⟨La, 0, none⟩) 1 1, .slice (some ⟨Lc, 0, none⟩) 1 1, .slice (some ⟨Ld, 0, none⟩) 1 1] 26) :: (Ld, cel [.int .i64 7, .int .i64 0] 71) :: (Lc, cel [.slice (some ⟨Lb, 0, none⟩) 1 1] 22) :: (Lb, cel (ndc (1, pt0)) 31) :: (La, cel (ndc (0, pt0)) 31) :: (Lz, cel (byteCells pt0) 5) :: S := ⟨_, rfl⟩
  have h2 : (L2, cel [.slice (some ⟨La, 0, none⟩) 1 1, .slice (some ⟨Lc, 0, none⟩) 1 1, .slice (some ⟨Ld, 0, none⟩) 1 1] 26) ∈ M := by rw [hM]; exact .head _
  have hSM : ∀ x ∈ S, x ∈ M := fun x hx => by rw [hM]; exact .tail _ (.tail _ (.tail _ (.tail _ (.tail _ (.tail _ hx)))))
  have hT : TIn M (.slice (some ⟨La, 0, none⟩) 1 1) (.slice (some ⟨Lc, 0, none⟩) 1 1) (.slice (some ⟨Ld, 0, none⟩) 1 1) [((0 : Int), pt0)] [[((1 : Int), pt0)]] [((7 : Int), (0 : Int))] := by
    rw [hM]
    refine ⟨[.slice (some ⟨Lb, 0, none⟩) 1 1], Reads.row (k := 1) (sz := 1) (.tail _ (.tail _ (.head _))) (Nat.le_of_ble_eq_true rfl), rfl, ⟨rfl, ?_⟩, Nat.le_of_ble_eq_true rfl, Reads.row (k := 1) (sz := 2) (.tail _ (.head _)) (by decide), by decide⟩
    intro i v l h1 h2
    match i with
    | 0 => cases h1; cases h2; exact ⟨Reads.row (k := 1) (sz := 2) (.tail _ (.tail _ (.tail _ (.tail _ (.head _))))) (by decide), by decide⟩
    | 1 => cases h1; cases h2; exact ⟨Reads.row (k := 1) (sz := 2) (.tail _ (.tail _ (.tail _ (.head _)))) (by decide), by decide⟩
  show Wp _ _ _ _ _ _ _
  refine Wp.weaken (S' := M) (Env.Sub.refl _) (fun w h => by rw [hM]; exact h) ?_
  refine Wp.seqS (α := Nat × (Option Addr × Nat) × (Option Addr × Nat) × Ents × Ents × Ents) (fun z => [(2, pt L2), (3, pt z.1), (4, .int .i64 0)]) (fun z => (z.1, cel [.slice z.2.1.1 3 z.2.1.2, .slice z.2.2.1.1 3 z.2.2.1.2] 56) :: (z.2.2.2.1 ++ (z.2.2.2.2.1 ++ (z.2.2.2.2.2 ++ M)))) (fun z => B ≤ z.1 ∧ WayIn B ([pt0, pt0, pt0], [⟨1, 1, 0, 0, []⟩, ⟨1, 0, 0, 0, []⟩, ⟨2, 0, 7, 0, idW⟩], 0, 12) (.slice z.2.1.1 3 z.2.1.2) (.slice z.2.2.1.1 3 z.2.2.1.2) z.2.2.2.1 z.2.2.2.2.1) ?_ ?_
  · skip
    refine Wp.regionDraw [0, 4, 12, 12, 12, 12, 12, 12, 12, 12, 12, 12] [1, 3, 5, 9, 10] rfl (by decide +kernel) ?_
    refine DWp.load h2 rfl rfl rfl rfl rfl rfl rfl ?_
    refine DWp.g rfl rfl rfl rfl (Gives.build rfl rfl) ?_
    refine DWp.forkTo [1, 9] (by decide +kernel) (by simp) ?_
    intro xx hxx
    simp only [List.mem_cons, List.mem_nil_iff, or_false] at hxx
    rcases hxx with rfl | rfl
    · refine ⟨_, [2, 12, 12, 12, 12, 12, 12, 12, 12], rfl, rfl, by decide +kernel, rfl, ?_⟩
      refine (Step.makeSlice (len := 12) (cap := 12) rfl rfl rfl rfl rfl rfl (by decide) rfl rfl (Nat.le_refl _) (by decide) (by decide) ?_)
      intro Ly hBy _
      refine ⟨by (repeat (first | exact pr_nil | refine pr_kept ?_ | refine pr_free ?_ | refine pr_cons (by repeat (first | exact List.Mem.head _ | assumption | exact List.mem_append_left _ (by assumption) | apply List.mem_cons_of_mem | apply List.mem_append_right)) ?_)), ?_⟩
      refine DWp.gives rfl rfl rfl rfl (Gives.bytesToStr (F := [(Ly, cel (byteCells s0) 5)]) (l := s0) (k := 12) rfl rfl rfl rfl rfl (Reads.row (k := 12) (sz := 1) (cap := 12) (b := Ly) (l := byteCells s0) (e := 5) (fz := (0, 0)) (.head _) (by decide))) (fun y hy => by rw [List.mem_singleton.1 hy]; exact (by repeat (first | exact List.Mem.head _ | assumption | exact List.mem_append_left _ (by assumption) | apply List.mem_cons_of_mem | apply List.mem_append_right))) ?_
      refine DWp.forkTo [3, 9] (by decide +kernel) (by simp) ?_
      intro xx hxx
      simp only [List.mem_cons, List.mem_nil_iff, or_false] at hxx
      rcases hxx with rfl | rfl
      · refine ⟨_, [12, 12, 12, 12, 12, 12, 12], rfl, rfl, by decide +kernel, rfl, ?_⟩
        refine (Step.call rfl rfl rfl rfl rfl rfl (tapeNew ?_))
        intro Lt hBt _
        refine ⟨by (repeat (first | exact pr_nil | refine pr_kept ?_ | refine pr_free ?_ | refine pr_cons (by repeat (first | exact List.Mem.head _ | assumption | exact List.mem_append_left _ (by assumption) | apply List.mem_cons_of_mem | apply List.mem_append_right)) ?_)), ?_⟩
        refine DWp.forkTo [5, 9] (by decide +kernel) (by simp) ?_
        intro xx hxx
        simp only [List.mem_cons, List.mem_nil_iff, or_false] at hxx
        rcases hxx with rfl | rfl
        · refine ⟨_, [6, 7, 8, 9, 10, 11], rfl, rfl, by decide +kernel, rfl, ?_⟩
          refine (Step.permS (permBy [[tp Lt s0 0], [(Ly, cel (byteCells s0) 5)]] (M) [0, 1] [0, 1] (by decide) : List.Perm ([tp Lt s0 0] ++ ([(Ly, cel (byteCells s0) 5)] ++ (M))) ([tp Lt s0 0] ++ ([(Ly, cel (byteCells s0) 5)] ++ (M)))) (Step.call rfl rfl rfl rfl rfl rfl (homeC (s := s0) (k := 0) (id := idW) hBt (by decide) (by decide) (hT.mono (fun x hx => (by repeat (first | exact hx | apply List.mem_cons_of_mem | apply List.mem_append_right)))) ?_)))
          intro w pv qv es1 es2 hw hin
          obtain rfl := wHome hw
          obtain ⟨pa, pc, rfl⟩ := hin.1.reads.form
          obtain ⟨qa, qc, rfl⟩ := hin.2.reads.form
          refine ⟨by (repeat (first | exact pr_nil | refine pr_kept ?_ | refine pr_free ?_ | refine pr_cons (by repeat (first | exact List.Mem.head _ | assumption | exact List.mem_append_left _ (by assumption) | apply List.mem_cons_of_mem | apply List.mem_append_right)) ?_)), ?_⟩
          refine DWp.evs 3 rfl ?_
          refine DWp.step rfl rfl rfl (Step.alloc rfl rfl rfl ?_); intro L3 hBL3 hLL3
          refine ⟨by (repeat (first | exact pr_nil | refine pr_kept ?_ | refine pr_free ?_ | refine pr_cons (by repeat (first | exact List.Mem.head _ | assumption | exact List.mem_append_left _ (by assumption) | apply List.mem_cons_of_mem | apply List.mem_append_right)) ?_)), ?_⟩
          refine DWp.step rfl rfl rfl (Step.permS (permBy [[(L3, cel [.slice none 0 0, .slice none 0 0] 56)], [tp Lt s0 12], es1, es2, [(Ly, cel (byteCells s0) 5)]] (M) [0, 1, 2, 3, 4] [0, 1, 2, 3, 4] (by decide) : List.Perm ([(L3, cel [.slice none 0 0, .slice none 0 0] 56)] ++ ([tp Lt s0 12] ++ (es1 ++ (es2 ++ ([(Ly, cel (byteCells s0) 5)] ++ (M)))))) ([(L3, cel [.slice none 0 0, .slice none 0 0] 56)] ++ ([tp Lt s0 12] ++ (es1 ++ (es2 ++ ([(Ly, cel (byteCells s0) 5)] ++ (M))))))) (Step.storeAs 0 [.slice pa 3 pc, .slice qa 3 qc] rfl rfl rfl rfl rfl hBL3 rfl (Unfz.zero _) rfl (Nat.le_of_ble_eq_true rfl) rfl rfl ?_))
          refine ⟨by (repeat (first | exact pr_nil | refine pr_kept ?_ | refine pr_free ?_ | refine pr_cons (by repeat (first | exact List.Mem.head _ | assumption | exact List.mem_append_left _ (by assumption) | apply List.mem_cons_of_mem | apply List.mem_append_right)) ?_)), ?_⟩
          refine DWp.evs 1 rfl ?_
          refine DWp.nil ?_
          exact ⟨(L3, (pa, pc), (qa, qc), es1, es2, [tp Lt s0 12, (Ly, cel (byteCells s0) 5)]), ⟨hBL3, hin⟩, .cons rfl (.cons rfl (.cons rfl (.nil _))), (permBy [[(L3, cel [.slice pa 3 pc, .slice qa 3 qc] 56)], [tp Lt s0 12], es1, es2, [(Ly, cel (byteCells s0) 5)]] (M) [0, 1, 2, 3, 4] [0, 2, 3, 1, 4] (by decide) : List.Perm ([(L3, cel [.slice pa 3 pc, .slice qa 3 qc] 56)] ++ ([tp Lt s0 12] ++ (es1 ++ (es2 ++ ([(Ly, cel (byteCells s0) 5)] ++ (M)))))) ([(L3, cel [.slice pa 3 pc, .slice qa 3 qc] 56)] ++ (es1 ++ (es2 ++ ([tp Lt s0 12] ++ ([(Ly, cel (byteCells s0) 5)] ++ (M)))))))⟩
        · refine ⟨_, [5, 6, 7, 8, 10, 11], rfl, rfl, by decide +kernel, rfl, ?_⟩
          refine (Step.alloc rfl rfl rfl ?_); intro L3 hBL3 hLL3
          refine ⟨by (repeat (first | exact pr_nil | refine pr_kept ?_ | refine pr_free ?_ | refine pr_cons (by repeat (first | exact List.Mem.head _ | assumption | exact List.mem_append_left _ (by assumption) | apply List.mem_cons_of_mem | apply List.mem_append_right)) ?_)), ?_⟩
          refine DWp.step rfl rfl rfl (Step.permS (permBy [[(L3, cel [.slice none 0 0, .slice none 0 0] 56)], [tp Lt s0 0], [(Ly, cel (byteCells s0) 5)]] (M) [0, 1, 2] [1, 0, 2] (by decide) : List.Perm ([(L3, cel [.slice none 0 0, .slice none 0 0] 56)] ++ ([tp Lt s0 0] ++ ([(Ly, cel (byteCells s0) 5)] ++ (M)))) ([tp Lt s0 0] ++ ([(L3, cel [.slice none 0 0, .slice none 0 0] 56)] ++ ([(Ly, cel (byteCells s0) 5)] ++ (M))))) (Step.call rfl rfl rfl rfl rfl rfl (homeC (s := s0) (k := 0) (id := idW) hBt (by decide) (by decide) (hT.mono (fun x hx => (by repeat (first | exact hx | apply List.mem_cons_of_mem | apply List.mem_append_right)))) ?_)))
          intro w pv qv es1 es2 hw hin
          obtain rfl := wHome hw
          obtain ⟨pa, pc, rfl⟩ := hin.1.reads.form
          obtain ⟨qa, qc, rfl⟩ := hin.2.reads.form
          refine ⟨by (repeat (first | exact pr_nil | refine pr_kept ?_ | refine pr_free ?_ | refine pr_cons (by repeat (first | exact List.Mem.head _ | assumption | exact List.mem_append_left _ (by assumption) | apply List.mem_cons_of_mem | apply List.mem_append_right)) ?_)), ?_⟩
          refine DWp.evs 3 rfl ?_
          refine DWp.step rfl rfl rfl (Step.permS (permBy [[tp Lt s0 12], es1, es2, [(L3, cel [.slice none 0 0, .slice none 0 0] 56)], [(Ly, cel (byteCells s0) 5)]] (M) [0, 1, 2, 3, 4] [3, 0, 1, 2, 4] (by decide) : List.Perm ([tp Lt s0 12] ++ (es1 ++ (es2 ++ ([(L3, cel [.slice none 0 0, .slice none 0 0] 56)] ++ ([(Ly, cel (byteCells s0) 5)] ++ (M)))))) ([(L3, cel [.slice none 0 0, .slice none 0 0] 56)] ++ ([tp Lt s0 12] ++ (es1 ++ (es2 ++ ([(Ly, cel (byteCells s0) 5)] ++ (M))))))) (Step.storeAs 0 [.slice pa 3 pc, .slice qa 3 qc] rfl rfl rfl rfl rfl hBL3 rfl (Unfz.zero _) rfl (Nat.le_of_ble_eq_true rfl) rfl rfl ?_))
          refine ⟨by (repeat (first | exact pr_nil | refine pr_kept ?_ | refine pr_free ?_ | refine pr_cons (by repeat (first | exact List.Mem.head _ | assumption | exact List.mem_append_left _ (by assumption) | apply List.mem_cons_of_mem | apply List.mem_append_right)) ?_)), ?_⟩
          refine DWp.evs 1 rfl ?_
          refine DWp.nil ?_
          exact ⟨(L3, (pa, pc), (qa, qc), es1, es2, [tp Lt s0 12, (Ly, cel (byteCells s0) 5)]), ⟨hBL3, hin⟩, .cons rfl (.cons rfl (.cons rfl (.nil _))), (permBy [[(L3, cel [.slice pa 3 pc, .slice qa 3 qc] 56)], [tp Lt s0 12], es1, es2, [(Ly, cel (byteCells s0) 5)]] (M) [0, 1, 2, 3, 4] [0, 2, 3, 1, 4] (by decide) : List.Perm ([(L3, cel [.slice pa 3 pc, .slice qa 3 qc] 56)] ++ ([tp Lt s0 12] ++ (es1 ++ (es2 ++ ([(Ly, cel (byteCells s0) 5)] ++ (M)))))) ([(L3, cel [.slice pa 3 pc, .slice qa 3 qc] 56)] ++ (es1 ++ (es2 ++ ([tp Lt s0 12] ++ ([(Ly, cel (byteCells s0) 5)] ++ (M)))))))⟩
      · refine ⟨_, [3, 5, 6, 7, 8, 10, 11], rfl, rfl, by decide +kernel, rfl, ?_⟩
        refine (Step.alloc rfl rfl rfl ?_); intro L3 hBL3 hLL3
        refine ⟨by (repeat (first | exact pr_nil | refine pr_kept ?_ | refine pr_free ?_ | refine pr_cons (by repeat (first | exact List.Mem.head _ | assumption | exact List.mem_append_left _ (by assumption) | apply List.mem_cons_of_mem | apply List.mem_append_right)) ?_)), ?_⟩
        refine DWp.step rfl rfl rfl (Step.call rfl rfl rfl rfl rfl rfl (tapeNew ?_))
        intro Lt hBt _
        refine ⟨by (repeat (first | exact pr_nil | refine pr_kept ?_ | refine pr_free ?_ | refine pr_cons (by repeat (first | exact List.Mem.head _ | assumption | exact List.mem_append_left _ (by assumption) | apply List.mem_cons_of_mem | apply List.mem_append_right)) ?_)), ?_⟩
        refine DWp.step rfl rfl rfl (Step.permS (permBy [[tp Lt s0 0], [(L3, cel [.slice none 0 0, .slice none 0 0] 56)], [(Ly, cel (byteCells s0) 5)]] (M) [0, 1, 2] [0, 1, 2] (by decide) : List.Perm ([tp Lt s0 0] ++ ([(L3, cel [.slice none 0 0, .slice none 0 0] 56)] ++ ([(Ly, cel (byteCells s0) 5)] ++ (M)))) ([tp Lt s0 0] ++ ([(L3, cel [.slice none 0 0, .slice none 0 0] 56)] ++ ([(Ly, cel (byteCells s0) 5)] ++ (M))))) (Step.call rfl rfl rfl rfl rfl rfl (homeC (s := s0) (k := 0) (id := idW) hBt (by decide) (by decide) (hT.mono (fun x hx => (by repeat (first | exact hx | apply List.mem_cons_of_mem | apply List.mem_append_right)))) ?_)))
        intro w pv qv es1 es2 hw hin
        obtain rfl := wHome hw
        obtain ⟨pa, pc, rfl⟩ := hin.1.reads.form
        obtain ⟨qa, qc, rfl⟩ := hin.2.reads.form
        refine ⟨by (repeat (first | exact pr_nil | refine pr_kept ?_ | refine pr_free ?_ | refine pr_cons (by repeat (first | exact List.Mem.head _ | assumption | exact List.mem_append_left _ (by assumption) | apply List.mem_cons_of_mem | apply List.mem_append_right)) ?_)), ?_⟩
        refine DWp.evs 3 rfl ?_
        refine DWp.step rfl rfl rfl (Step.permS (permBy [[tp Lt s0 12], es1, es2, [(L3, cel [.slice none 0 0, .slice none 0 0] 56)], [(Ly, cel (byteCells s0) 5)]] (M) [0, 1, 2, 3, 4] [3, 0, 1, 2, 4] (by decide) : List.Perm ([tp Lt s0 12] ++ (es1 ++ (es2 ++ ([(L3, cel [.slice none 0 0, .slice none 0 0] 56)] ++ ([(Ly, cel (byteCells s0) 5)] ++ (M)))))) ([(L3, cel [.slice none 0 0, .slice none 0 0] 56)] ++ ([tp Lt s0 12] ++ (es1 ++ (es2 ++ ([(Ly, cel (byteCells s0) 5)] ++ (M))))))) (Step.storeAs 0 [.slice pa 3 pc, .slice qa 3 qc] rfl rfl rfl rfl rfl hBL3 rfl (Unfz.zero _) rfl (Nat.le_of_ble_eq_true rfl) rfl rfl ?_))
        refine ⟨by (repeat (first | exact pr_nil | refine pr_kept ?_ | refine pr_free ?_ | refine pr_cons (by repeat (first | exact List.Mem.head _ | assumption | exact List.mem_append_left _ (by assumption) | apply List.mem_cons_of_mem | apply List.mem_append_right)) ?_)), ?_⟩
        refine DWp.evs 1 rfl ?_
        refine DWp.nil ?_
        exact ⟨(L3, (pa, pc), (qa, qc), es1, es2, [tp Lt s0 12, (Ly, cel (byteCells s0) 5)]), ⟨hBL3, hin⟩, .cons rfl (.cons rfl (.cons rfl (.nil _))), (permBy [[(L3, cel [.slice pa 3 pc, .slice qa 3 qc] 56)], [tp Lt s0 12], es1, es2, [(Ly, cel (byteCells s0) 5)]] (M) [0, 1, 2, 3, 4] [0, 2, 3, 1, 4] (by decide) : List.Perm ([(L3, cel [.slice pa 3 pc, .slice qa 3 qc] 56)] ++ ([tp Lt s0 12] ++ (es1 ++ (es2 ++ ([(Ly, cel (byteCells s0) 5)] ++ (M)))))) ([(L3, cel [.slice pa 3 pc, .slice qa 3 qc] 56)] ++ (es1 ++ (es2 ++ ([tp Lt s0 12] ++ ([(Ly, cel (byteCells s0) 5)] ++ (M)))))))⟩
    · refine ⟨_, [1, 2, 3, 5, 6, 7, 8, 10, 11], rfl, rfl, by decide +kernel, rfl, ?_⟩
      refine (Step.alloc rfl rfl rfl ?_); intro L3 hBL3 hLL3
      refine ⟨by (repeat (first | exact pr_nil | refine pr_kept ?_ | refine pr_free ?_ | refine pr_cons (by repeat (first | exact List.Mem.head _ | assumption | exact List.mem_append_left _ (by assumption) | apply List.mem_cons_of_mem | apply List.mem_append_right)) ?_)), ?_⟩
      refine DWp.step rfl rfl rfl (Step.makeSlice (len := 12) (cap := 12) rfl rfl rfl rfl rfl rfl (by decide) rfl rfl (Nat.le_refl _) (by decide) (by decide) ?_)
      intro Ly hBy _
      refine ⟨by (repeat (first | exact pr_nil | refine pr_kept ?_ | refine pr_free ?_ | refine pr_cons (by repeat (first | exact List.Mem.head _ | assumption | exact List.mem_append_left _ (by assumption) | apply List.mem_cons_of_mem | apply List.mem_append_right)) ?_)), ?_⟩
      refine DWp.gives rfl rfl rfl rfl (Gives.bytesToStr (F := [(Ly, cel (byteCells s0) 5)]) (l := s0) (k := 12) rfl rfl rfl rfl rfl (Reads.row (k := 12) (sz := 1) (cap := 12) (b := Ly) (l := byteCells s0) (e := 5) (fz := (0, 0)) (.head _) (by decide))) (fun y hy => by rw [List.mem_singleton.1 hy]; exact (by repeat (first | exact List.Mem.head _ | assumption | exact List.mem_append_left _ (by assumption) | apply List.mem_cons_of_mem | apply List.mem_append_right))) ?_
      refine DWp.step rfl rfl rfl (Step.call rfl rfl rfl rfl rfl rfl (tapeNew ?_))
      intro Lt hBt _
      refine ⟨by (repeat (first | exact pr_nil | refine pr_kept ?_ | refine pr_free ?_ | refine pr_cons (by repeat (first | exact List.Mem.head _ | assumption | exact List.mem_append_left _ (by assumption) | apply List.mem_cons_of_mem | apply List.mem_append_right)) ?_)), ?_⟩
      refine DWp.step rfl rfl rfl (Step.permS (permBy [[tp Lt s0 0], [(Ly, cel (byteCells s0) 5)], [(L3, cel [.slice none 0 0, .slice none 0 0] 56)]] (M) [0, 1, 2] [0, 1, 2] (by decide) : List.Perm ([tp Lt s0 0] ++ ([(Ly, cel (byteCells s0) 5)] ++ ([(L3, cel [.slice none 0 0, .slice none 0 0] 56)] ++ (M)))) ([tp Lt s0 0] ++ ([(Ly, cel (byteCells s0) 5)] ++ ([(L3, cel [.slice none 0 0, .slice none 0 0] 56)] ++ (M))))) (Step.call rfl rfl rfl rfl rfl rfl (homeC (s := s0) (k := 0) (id := idW) hBt (by decide) (by decide) (hT.mono (fun x hx => (by repeat (first | exact hx | apply List.mem_cons_of_mem | apply List.mem_append_right)))) ?_)))
      intro w pv qv es1 es2 hw hin
      obtain rfl := wHome hw
      obtain ⟨pa, pc, rfl⟩ := hin.1.reads.form
      obtain ⟨qa, qc, rfl⟩ := hin.2.reads.form
      refine ⟨by (repeat (first | exact pr_nil | refine pr_kept ?_ | refine pr_free ?_ | refine pr_cons (by repeat (first | exact List.Mem.head _ | assumption | exact List.mem_append_left _ (by assumption) | apply List.mem_cons_of_mem | apply List.mem_append_right)) ?_)), ?_⟩
      refine DWp.evs 3 rfl ?_
      refine DWp.step rfl rfl rfl (Step.permS (permBy [[tp Lt s0 12], es1, es2, [(Ly, cel (byteCells s0) 5)], [(L3, cel [.slice none 0 0, .slice none 0 0] 56)]] (M) [0, 1, 2, 3, 4] [4, 0, 1, 2, 3] (by decide) : List.Perm ([tp Lt s0 12] ++ (es1 ++ (es2 ++ ([(Ly, cel (byteCells s0) 5)] ++ ([(L3, cel [.slice none 0 0, .slice none 0 0] 56)] ++ (M)))))) ([(L3, cel [.slice none 0 0, .slice none 0 0] 56)] ++ ([tp Lt s0 12] ++ (es1 ++ (es2 ++ ([(Ly, cel (byteCells s0) 5)] ++ (M))))))) (Step.storeAs 0 [.slice pa 3 pc, .slice qa 3 qc] rfl rfl rfl rfl rfl hBL3 rfl (Unfz.zero _) rfl (Nat.le_of_ble_eq_true rfl) rfl rfl ?_))
      refine ⟨by (repeat (first | exact pr_nil | refine pr_kept ?_ | refine pr_free ?_ | refine pr_cons (by repeat (first | exact List.Mem.head _ | assumption | exact List.mem_append_left _ (by assumption) | apply List.mem_cons_of_mem | apply List.mem_append_right)) ?_)), ?_⟩
      refine DWp.evs 1 rfl ?_
      refine DWp.nil ?_
      exact ⟨(L3, (pa, pc), (qa, qc), es1, es2, [tp Lt s0 12, (Ly, cel (byteCells s0) 5)]), ⟨hBL3, hin⟩, .cons rfl (.cons rfl (.cons rfl (.nil _))), (permBy [[(L3, cel [.slice pa 3 pc, .slice qa 3 qc] 56)], [tp Lt s0 12], es1, es2, [(Ly, cel (byteCells s0) 5)]] (M) [0, 1, 2, 3, 4] [0, 2, 3, 1, 4] (by decide) : List.Perm ([(L3, cel [.slice pa 3 pc, .slice qa 3 qc] 56)] ++ ([tp Lt s0 12] ++ (es1 ++ (es2 ++ ([(Ly, cel (byteCells s0) 5)] ++ (M)))))) ([(L3, cel [.slice pa 3 pc, .slice qa 3 qc] 56)] ++ (es1 ++ (es2 ++ ([tp Lt s0 12] ++ ([(Ly, cel (byteCells s0) 5)] ++ (M)))))))⟩
  rintro ⟨L3, ⟨pa, pc⟩, ⟨qa, qc⟩, es1, es2, X⟩ ⟨hBL3, hin⟩
  simp only at hBL3 hin ⊢
  obtain ⟨b5, o5, c5, l5, t5, f5, hv5, hm5, hat5⟩ := hop_at hin.2.reads (by decide)
  cases hv5
  have hMM : ∀ x ∈ M, x ∈ es1 ++ (es2 ++ (X ++ M)) := fun x hx => List.mem_append_right _ (List.mem_append_right _ (List.mem_append_right _ hx))
  have hm5' : (b5, cel l5 t5 f5) ∈ es1 ++ (es2 ++ (X ++ M)) := List.mem_append_right _ (List.mem_append_left _ hm5)
  refine Wp.seq (Wp.region ?_)
  refine OWp.load (.tail _ (hMM _ h2)) rfl rfl rfl rfl rfl ?_
  refine OWp.g rfl rfl (Gives.build rfl rfl) ?_
  refine OWp.step rfl (Step.call rfl rfl rfl rfl rfl rfl ((homeNilW (hT.mono fun x hx => .tail _ (hMM _ hx)) ?_)))
  refine OWp.evs 3 rfl ?_
  refine OWp.step rfl (Step.alloc rfl rfl rfl ?_); intro L5 hBL5 hLL5
  refine OWp.step rfl (Step.storeAs 0 ([.slice none 0 0, .slice none 0 0]) rfl rfl rfl rfl rfl (by assumption) rfl (Unfz.zero _) rfl (Nat.le_of_ble_eq_true rfl) rfl rfl ?_)
  refine OWp.evs 1 rfl ?_
  refine OWp.nil ?_
  refine Wp.seq (Wp.region ?_)
  refine OWp.evs 3 rfl ?_
  refine OWp.evs 4 rfl ?_
  refine OWp.evs 1 rfl ?_
  refine OWp.load (.tail _ (.head _)) rfl rfl rfl rfl rfl ?_
  refine OWp.evs 4 rfl ?_
  refine OWp.evs 1 rfl ?_
  refine OWp.load (.tail _ (.head _)) rfl rfl rfl rfl rfl ?_
  refine OWp.evs 4 rfl ?_
  refine OWp.evs 1 rfl ?_
  refine OWp.load (.tail _ (.head _)) rfl rfl rfl rfl rfl ?_
  refine OWp.g rfl rfl (Gives.indexAddrSlice (0) rfl rfl rfl rfl rfl rfl (by decide)) ?_
  refine OWp.load (.tail _ (.tail _ hm5')) rfl rfl rfl rfl (hat5 0 (by decide)) ?_
  refine OWp.g rfl rfl (Gives.build rfl rfl) ?_
  refine OWp.g rfl rfl (Gives.eqStruct (r := true) 10 rfl rfl rfl rfl hopG (hopSelf ⟨1, 1, 0, 0, []⟩)) ?_
  refine OWp.evs 2 rfl ?_
  refine OWp.evs 1 rfl ?_
  refine OWp.load (.tail _ (.head _)) rfl rfl rfl rfl rfl ?_
  refine OWp.g rfl rfl (Gives.indexAddrSlice (1) rfl rfl rfl rfl rfl rfl (by decide)) ?_
  refine OWp.load (.tail _ (.tail _ hm5')) rfl rfl rfl rfl (hat5 1 (by decide)) ?_
  refine OWp.g rfl rfl (Gives.build rfl rfl) ?_
  refine OWp.g rfl rfl (Gives.eqStruct (r := true) 10 rfl rfl rfl rfl hopG (hopSelf ⟨1, 0, 0, 0, []⟩)) ?_
  refine OWp.evs 2 rfl ?_
  refine OWp.evs 1 rfl ?_
  refine OWp.load (.tail _ (.head _)) rfl rfl rfl rfl rfl ?_
  refine OWp.g rfl rfl (Gives.indexAddrSlice (2) rfl rfl rfl rfl rfl rfl (by decide)) ?_
  refine OWp.load (.tail _ (.tail _ hm5')) rfl rfl rfl rfl (hat5 2 (by decide)) ?_
  refine OWp.g rfl rfl (Gives.build rfl rfl) ?_
  refine OWp.g rfl rfl (Gives.eqStruct (r := true) 10 rfl rfl rfl rfl hopG (hopSelf ⟨2, 0, 7, 0, idW⟩)) ?_
  refine OWp.evs 2 rfl ?_
  refine OWp.load (.tail _ (.tail _ (hMM _ h2))) rfl rfl rfl rfl rfl ?_
  refine OWp.step rfl (Step.call rfl rfl rfl rfl rfl rfl ((wordsC (hT.mono fun x hx => .tail _ (.tail _ (hMM _ hx))) ?_)))
  intro n hn
  obtain rfl := words_one hn (.inl ⟨wTown, rfl⟩)
  refine OWp.evs 3 rfl ?_
  refine OWp.nil ?_
  refine Wp.ret ⟨trivial, _, ⟨_, _, rfl, rfl, rfl⟩, ?_⟩
  exact H _ fun x hx => .tail _ (.tail _ (hMM _ (hSM _ hx)))
end
end Go.Proofs.C

namespace Go.Proofs.C
open Go.Lg
set_option maxRecDepth 100000

/-! Arguments. -/
theorem rdNode {S : Ents} {cs : List Value} (h : Rd Try.prog S 31 cs) : ∃ x : Nd, cs = ndc x ∧ True := by
  obtain ⟨hl, hf⟩ := h.open_struct Try.underlying31
  obtain ⟨n, hn, _⟩ := (hf _ (by simp; exact .inl rfl)).open_int Try.underlying3
  obtain ⟨s, hs, _⟩ := (hf _ (by simp; exact .inr rfl)).open_str Try.underlying9
  refine ⟨(n, s), ?_, trivial⟩
  have hl2 : cs.length = 2 := hl
  match cs, hl2 with
  | [x, y], _ =>
    have h1 : [x] = [.int .i64 n] := hn
    have h2 : [y] = [.string ⟨⟨s⟩⟩] := hs
    cases h1; cases h2; rfl
theorem rdSeat {S : Ents} {cs : List Value} (h : Rd Try.prog S 71 cs) : ∃ x : St, cs = stc x ∧ True := by
  obtain ⟨hl, hf⟩ := h.open_struct Try.underlying71
  obtain ⟨n, hn, _⟩ := (hf _ (by simp; exact .inl rfl)).open_int Try.underlying3
  obtain ⟨s, hs, _⟩ := (hf _ (by simp; exact .inr rfl)).open_int Try.underlying3
  refine ⟨(n, s), ?_, trivial⟩
  have hl2 : cs.length = 2 := hl
  match cs, hl2 with
  | [x, y], _ =>
    have h1 : [x] = [.int .i64 n] := hn
    have h2 : [y] = [.int .i64 s] := hs
    cases h1; cases h2; rfl
theorem rdNodes {S : Ents} {v : Value} (h : Rd Try.prog S 22 [v]) : ∃ l : List Nd, Reads S 2 v l.length (l.flatMap ndc) ∧ l.length ≤ lim := by
  obtain ⟨l, hr, hw, _, _⟩ := h.rows (f := ndc) (p := fun _ => True) Try.underlying22 (sz := 2) rfl (fun r hr => rdNode hr)
  refine ⟨l, hr, ?_⟩
  have : l.length * 24 ≤ reachBytes := hw
  unfold reachBytes at this; unfold lim; omega
theorem rdSeats {S : Ents} {v : Value} (h : Rd Try.prog S 24 [v]) : ∃ l : List St, Reads S 2 v l.length (l.flatMap stc) ∧ l.length ≤ lim := by
  obtain ⟨l, hr, hw, _, _⟩ := h.rows (f := stc) (p := fun _ => True) Try.underlying24 (sz := 2) rfl (fun r hr => rdSeat hr)
  refine ⟨l, hr, ?_⟩
  have : l.length * 16 ≤ reachBytes := hw
  unfold reachBytes at this; unfold lim; omega
theorem rdMixes {S : Ents} {v : Value} (h : Rd Try.prog S 23 [v]) : ∃ (vs : List Value) (ms : List (List Nd)), Reads S 1 v vs.length vs ∧ vs.all (·.oneCell') = true ∧ NodesIn S vs ms ∧ vs.length ≤ lim := by
  obtain ⟨xs, hr, hw, _, hp⟩ := h.rows (f := fun x : Value => [x]) (p := fun x => ∃ l : List Nd, Reads S 2 x l.length (l.flatMap ndc) ∧ l.length ≤ lim) Try.underlying23 (sz := 1) rfl (fun r hr => by
    obtain ⟨v, rs, rfl, _⟩ := hr.open_slice Try.underlying22
    exact ⟨v, rfl, rdNodes hr⟩)
  have e : (xs.flatMap fun x => [x]) = xs := by
    clear hr hw hp
    induction xs with
    | nil => rfl
    | cons x xs ih => simp [ih]
  rw [e] at hr
  have hall : ∀ xs : List Value, (∀ x ∈ xs, ∃ l : List Nd, Reads S 2 x l.length (l.flatMap ndc) ∧ l.length ≤ lim) → ∃ ms : List (List Nd), NodesIn S xs ms := by
    intro xs
    induction xs with
    | nil => intro _; exact ⟨[], rfl, fun i v l h => by simp at h⟩
    | cons x xs ih =>
      intro h
      obtain ⟨ms, h1, h2⟩ := ih fun y hy => h y (by simp [hy])
      obtain ⟨l, hl1, hl2⟩ := h x (by simp)
      refine ⟨l :: ms, by simp [h1], fun i v l' h3 h4 => ?_⟩
      cases i with
      | zero => simp at h3 h4; subst h3 h4; exact ⟨hl1, hl2⟩
      | succ i => exact h2 i v l' (by simpa using h3) (by simpa using h4)
  obtain ⟨ms, hms⟩ := hall xs hp
  refine ⟨xs, ms, hr, ?_, hms, ?_⟩
  · rw [List.all_eq_true]
    intro x hx
    obtain ⟨l, hl, _⟩ := hp x hx
    obtain ⟨a, c, rfl⟩ := hl.form
    rfl
  · have : xs.length * 24 ≤ reachBytes := hw
    unfold reachBytes at this; unfold lim; omega
theorem rdTown {S : Ents} {cs : List Value} (h : Rd Try.prog S 26 cs) : ∃ hv mv sv h0 ms ss, cs = [hv, mv, sv] ∧ TIn S hv mv sv h0 ms ss := by
  obtain ⟨hl, hf⟩ := h.open_struct Try.underlying26
  have hl2 : cs.length = 3 := hl
  match cs, hl2 with
  | [x, y, z], _ =>
    have h1 : Rd Try.prog S 22 [x] := hf _ (by simp; exact .inl rfl)
    have h2 : Rd Try.prog S 23 [y] := hf _ (by simp; exact .inr (.inl rfl))
    have h3 : Rd Try.prog S 24 [z] := hf _ (by simp; exact .inr (.inr rfl))
    obtain ⟨l, hl, hll⟩ := rdNodes h1
    obtain ⟨vs, ms, hm, hvs, hn, hvl⟩ := rdMixes h2
    obtain ⟨ss, hs, hsl⟩ := rdSeats h3
    refine ⟨x, y, z, l, ms, ss, rfl, vs, hm, hvs, ⟨by simp [hn.1], fun i v l' h5 h6 => ?_⟩, hvl, hs, hsl⟩
    cases i with
    | zero => simp at h5 h6; subst h5 h6; exact ⟨hl, hll⟩
    | succ i => exact hn.2 i v l' (by simpa using h5) (by simpa using h6)
theorem rdAsk {S : Ents} {cs : List Value} (h : Rd Try.prog S 28 cs) : ∃ a b c : Int, cs = [.int .i64 a, .int .i64 b, .int .i64 c] := by
  obtain ⟨hl, hf⟩ := h.open_struct Try.underlying28
  have hl2 : cs.length = 3 := hl
  match cs, hl2 with
  | [x, y, z], _ =>
    have h1 : Rd Try.prog S 3 [x] := hf _ (by simp; exact .inl rfl)
    have h2 : Rd Try.prog S 3 [y] := hf _ (by simp; exact .inr (.inl rfl))
    have h3 : Rd Try.prog S 3 [z] := hf _ (by simp; exact .inr (.inr rfl))
    obtain ⟨a, ha, _⟩ := h1.open_int Try.underlying3
    obtain ⟨b, hb, _⟩ := h2.open_int Try.underlying3
    obtain ⟨c, hc, _⟩ := h3.open_int Try.underlying3
    cases ha; cases hb; cases hc
    exact ⟨a, b, c, rfl⟩
theorem rdHop {S : Ents} {cs : List Value} (h : Rd Try.prog S 43 cs) : ∃ x : Hop, cs = x.cells := by
  obtain ⟨hl, hf⟩ := h.open_struct Try.underlying43
  have hl2 : cs.length = 5 := hl
  match cs, hl2 with
  | [x, y, z, u, v], _ =>
    have h1 : Rd Try.prog S 3 [x] := hf _ (by simp; exact .inl rfl)
    have h2 : Rd Try.prog S 3 [y] := hf _ (by simp; exact .inr (.inl rfl))
    have h3 : Rd Try.prog S 3 [z] := hf _ (by simp; exact .inr (.inr (.inl rfl)))
    have h4 : Rd Try.prog S 3 [u] := hf _ (by simp; exact .inr (.inr (.inr (.inl rfl))))
    have h5 : Rd Try.prog S 9 [v] := hf _ (by simp; exact .inr (.inr (.inr (.inr rfl))))
    obtain ⟨a, ha, _⟩ := h1.open_int Try.underlying3
    obtain ⟨b, hb, _⟩ := h2.open_int Try.underlying3
    obtain ⟨c, hc, _⟩ := h3.open_int Try.underlying3
    obtain ⟨d, hd, _⟩ := h4.open_int Try.underlying3
    obtain ⟨e, he, _⟩ := h5.open_str Try.underlying9
    cases ha; cases hb; cases hc; cases hd; cases he
    exact ⟨⟨a, b, c, d, e⟩, rfl⟩
def drc (s id : List UInt8) (h : Hop) (mean most : Int) : List Value := .string (str s) :: .string (str id) :: (h.cells ++ [.int .i64 mean, .int .i64 most])
theorem rdDraw {S : Ents} {cs : List Value} (h : Rd Try.prog S 47 cs) : ∃ s id h mean most, cs = drc s id h mean most ∧ s.length ≤ lim := by
  obtain ⟨hl, hf⟩ := h.open_struct Try.underlying47
  have hl2 : cs.length = 9 := hl
  match cs, hl2 with
  | [x1, x2, x3, x4, x5, x6, x7, x8, x9], _ =>
    have h1 : Rd Try.prog S 9 [x1] := hf _ (by simp; exact .inl rfl)
    have h2 : Rd Try.prog S 9 [x2] := hf _ (by simp; exact .inr (.inl rfl))
    have h3 : Rd Try.prog S 43 [x3, x4, x5, x6, x7] := hf _ (by simp; exact .inr (.inr (.inl rfl)))
    have h4 : Rd Try.prog S 45 [x8, x9] := hf _ (by simp; exact .inr (.inr (.inr rfl)))
    obtain ⟨s, hs, hsl⟩ := rdStr' h1
    obtain ⟨id, hid, _⟩ := rdStr' h2
    obtain ⟨hh, hhe⟩ := rdHop h3
    obtain ⟨_, hf4⟩ := h4.open_struct Try.underlying45
    have h5 : Rd Try.prog S 3 [x8] := hf4 _ (by simp; exact .inl rfl)
    have h6 : Rd Try.prog S 3 [x9] := hf4 _ (by simp; exact .inr rfl)
    obtain ⟨a, ha, _⟩ := h5.open_int Try.underlying3
    obtain ⟨b, hb, _⟩ := h6.open_int Try.underlying3
    cases ha; cases hb
    refine ⟨s, id, hh, a, b, ?_, hsl⟩
    unfold drc
    rw [← hhe, hs, hid]
    rfl
where
  rdStr' {S : Ents} {v : Value} (h : Rd Try.prog S 9 [v]) : ∃ s : List UInt8, v = .string (str s) ∧ s.length ≤ lim := by
    obtain ⟨l, hl, hw⟩ := h.open_str Try.underlying9
    cases hl
    exact ⟨l, rfl, by unfold reachBytes at hw; unfold lim; omega⟩
end Go.Proofs.C
