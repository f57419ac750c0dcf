/- What functions of the given program do, one after the other, told by that layer. -/
import Derived.Test.YtfimmdafjalonaaDoorBHash5
import Derived.Test.YtfimmdafjalonaaDoorLgBld
namespace Go.Proofs.D
open Go.Lg Go.Sha
set_option maxRecDepth 100000

/-- A builder that a call has made: its block and its bytes. -/
def Bd (B b : Nat) (x : List UInt8) (es : Ents) : Prop :=
  B ≤ b ∧ ∃ adr v ys, (adr = Value.pointer none ∨ adr = pt b) ∧ es = (b, cel [adr, v] 91) :: ys ∧ OwnF B 5 v x ys

section
variable {B : Nat} {S R : Ents} {Q : Value → Ents → Prop}

theorem checkC {b : Nat} {adr v : Value} (hB : B ≤ b) (ha : adr = Value.pointer none ∨ adr = pt b) (H : Q (.tuple #[]) ((b, cel [pt b, v] 91) :: R)) :
    CallWp Tryd.prog B 100 #[pt b] Q ((b, cel [adr, v] 91) :: R) := by
  rcases ha with rfl | rfl
  · skip
    refine CallWp.enter (args := [_]) Tryd.func100 rfl Tryd.ntmps100 rfl ?_
    refine Wp.seq (Wp.region ?_)
    refine OWp.evs 3 rfl ?_
    refine OWp.load (.head _) rfl rfl rfl rfl rfl ?_
    refine OWp.evs 1 rfl ?_
    refine OWp.nil ?_
    refine Wp.cond rfl (fun _ => ?_) (fun c => nomatch c)
    refine Wp.region ?_
    refine OWp.evs 2 rfl ?_
    refine OWp.gives rfl rfl (Gives.toUnsafe (e := 91) (l := [Value.pointer none, v]) (fz := (0, 0)) rfl rfl rfl rfl rfl (by decide) (Nat.zero_lt_succ 1)) sub1 ?_
    refine OWp.step rfl (Step.noEscape rfl rfl rfl rfl rfl rfl rfl rfl rfl rfl ?_)
    refine OWp.gives rfl rfl (Gives.ofUnsafe (e := 91) (l := [Value.pointer none, v]) (fz := (0, 0)) rfl rfl rfl rfl rfl (by show liesAt _ _ _ (2 / _) _ _ _ = true; decide +kernel)) sub1 ?_
    refine OWp.evs 2 rfl ?_
    refine OWp.step rfl (Step.store 0 rfl rfl rfl rfl rfl hB rfl (Nat.le_of_ble_eq_true rfl) (Unfz.zero _) rfl rfl ?_)
    refine OWp.nil ?_
    refine ⟨trivial, [], rfl, ?_⟩
    exact H
  · skip
    refine CallWp.enter (args := [_]) Tryd.func100 rfl Tryd.ntmps100 rfl ?_
    refine Wp.seq (Wp.region ?_)
    refine OWp.evs 3 rfl ?_
    refine OWp.load (.head _) rfl rfl rfl rfl rfl ?_
    refine OWp.evs 1 rfl ?_
    refine OWp.nil ?_
    refine Wp.cond rfl (fun c => nomatch c) (fun _ => ?_)
    refine Wp.seq (Wp.region ?_)
    refine OWp.evs 3 rfl ?_
    refine OWp.load (.head _) rfl rfl rfl rfl rfl ?_
    refine OWp.evs 1 rfl ?_
    refine OWp.g rfl rfl (Gives.neqSame rfl rfl rfl rfl rfl) ?_
    refine OWp.nil ?_
    refine Wp.cond rfl (fun c => nomatch c) (fun _ => ?_)
    refine Wp.skip ?_
    refine ⟨trivial, [], rfl, ?_⟩
    exact H
theorem _root_.Go.Lg.OwnF.form {e : TypeId} {v : Value} {x : List UInt8} {ys : Ents} (h : OwnF B e v x ys) : ∃ q c, v = .slice q x.length c ∧ (q = none ∨ 0 < c) := by
  rcases h with ⟨rfl, rfl, _⟩ | ⟨_, _, _, _, rfl, _, _, _, h, _⟩
  · exact ⟨_, _, rfl, .inl rfl⟩
  · exact ⟨_, _, rfl, .inr h⟩

theorem bLenC {b : Nat} {x : List UInt8} {es : Ents} (h : Bd B b x es) (H : Q (.int .i64 (x.length : Int)) (es ++ R)) :
    CallWp Tryd.prog B 69 #[pt b] Q (es ++ R) := by
  obtain ⟨hB, adr, v, ys, ha, rfl, ho⟩ := h
  obtain ⟨q, c, rfl, _⟩ := ho.form
  refine CallWp.enter (args := [_]) Tryd.func69 rfl Tryd.ntmps69 rfl ?_
  refine Wp.seq (Wp.region ?_)
  refine OWp.evs 1 rfl ?_
  refine OWp.nil ?_
  refine Wp.seq (Wp.region ?_)
  refine OWp.evs 3 rfl ?_
  refine OWp.load (.head _) rfl rfl rfl rfl rfl ?_
  refine OWp.evs 2 rfl ?_
  refine OWp.nil ?_
  refine Wp.ret ⟨trivial, _, ⟨_, _, rfl, rfl, rfl⟩, ?_⟩
  exact H
theorem bWriteC {b : Nat} {x s : List UInt8} {es : Ents} (h : Bd B b x es) (hl : x.length + s.length ≤ 140737488355328) (H : ∀ es', Bd B b (x ++ s) es' → Q (.tuple #[.int .i64 (s.length : Int), .nilIface]) (es' ++ R)) :
    CallWp Tryd.prog B 68 #[pt b, .string (str s)] Q (es ++ R) := by
  obtain ⟨hB, adr, v, ys, ha, rfl, ho⟩ := h
  refine CallWp.enter (args := [_, _]) Tryd.func68 rfl Tryd.ntmps68 rfl ?_
  refine Wp.seq (Wp.region ?_)
  refine OWp.evs 2 rfl ?_
  refine OWp.nil ?_
  refine Wp.seq (Wp.region ?_)
  refine OWp.evs 1 rfl ?_
  refine OWp.step rfl (Step.call rfl rfl rfl rfl rfl rfl ((checkC hB ha ?_)))
  refine OWp.nil ?_
  refine Wp.seq (Wp.region ?_)
  refine OWp.evs 4 rfl ?_
  refine OWp.load (.head _) rfl rfl rfl rfl rfl ?_
  refine OWp.evs 1 rfl ?_
  refine OWp.step rfl (Step.appendF (R := (b, cel [pt b, v] 91) :: R) rfl rfl rfl rfl rfl rfl rfl rfl rfl rfl (fun _ h => h.perm List.perm_middle.symm) ho hl ?_)
  intro v' ys' ho'
  refine OWp.permS List.perm_middle ?_
  obtain ⟨q', c', rfl, _⟩ := ho'.form
  refine OWp.evs 2 rfl ?_
  refine OWp.step rfl (Step.store 0 rfl rfl rfl rfl rfl hB rfl (Nat.le_of_ble_eq_true rfl) (Unfz.zero _) rfl rfl ?_)
  refine OWp.nil ?_
  refine Wp.seq (Wp.region ?_)
  refine OWp.evs 4 rfl ?_
  refine OWp.nil ?_
  refine Wp.ret ⟨trivial, _, ⟨_, _, rfl, rfl, _, _, rfl, rfl, rfl⟩, ?_⟩
  exact H ((b, cel [pt b, .slice q' (x ++ s).length c'] 91) :: ys') ⟨hB, _, _, _, .inr rfl, rfl, ho'⟩
theorem bStringC {b : Nat} {x : List UInt8} {es : Ents} (h : Bd B b x es) (H : ∀ es', Bd B b x es' → Q (.string (str x)) (es' ++ R)) :
    CallWp Tryd.prog B 70 #[pt b] Q (es ++ R) := by
  obtain ⟨hB, adr, v, ys, ha, rfl, ho⟩ := h
  obtain ⟨q, c, rfl, hq⟩ := ho.form
  refine CallWp.enter (args := [_]) Tryd.func70 rfl Tryd.ntmps70 rfl ?_
  refine Wp.seq (Wp.region ?_)
  refine OWp.evs 1 rfl ?_
  refine OWp.nil ?_
  refine Wp.seq (Wp.regionDraw [0, 1, 2, 3, 5, 6, 7, 8, 9, 4, 10, 11] [4, 10] rfl (by decide +kernel) ?_)
  refine DWp.evs 3 rfl ?_
  refine DWp.load (.head _) rfl rfl rfl rfl rfl rfl rfl ?_
  refine DWp.evs 3 rfl ?_
  refine DWp.load (.head _) rfl rfl rfl rfl rfl rfl rfl ?_
  refine DWp.evs 1 rfl ?_
  refine DWp.stepGrow rfl rfl rfl (Step.sliceData rfl rfl rfl rfl hq ?_); refine ⟨fun _ hy => hy, ?_⟩
  refine DWp.stepAll rfl rfl rfl rfl (Step.unsafeStr (R := (b, cel [adr, .slice q x.length c] 91) :: R) rfl rfl rfl rfl rfl rfl rfl (fun _ h => h.perm List.perm_middle.symm) ho ?_)
  intro ys' ho'
  refine DWp.evs 1 rfl ?_
  refine DWp.nil ?_
  refine Wp.weaken (.refl _) (fun _ h => h.perm List.perm_middle) ?_
  refine Wp.ret ⟨trivial, _, ⟨_, _, rfl, rfl, rfl⟩, ?_⟩
  exact H ((b, cel [adr, .slice q x.length c] 91) :: ys') ⟨hB, _, _, _, ha, rfl, ho'⟩
theorem bGrowC {b n : Nat} (hB : B ≤ b) (h0 : 0 < n) (hn : n ≤ 281474976710656) (H : ∀ es', Bd B b [] es' → Q (.tuple #[]) (es' ++ R)) :
    CallWp Tryd.prog B 101 #[pt b, .int .i64 (n : Int)] Q ((b, cel [pt b, .slice none 0 0] 91) :: R) := by
  refine CallWp.enter (args := [_, _]) Tryd.func101 rfl Tryd.ntmps101 rfl ?_
  refine Wp.seq (Wp.regionDraw [0, 1, 2, 3, 4, 5, 6, 7, 9, 10, 11, 12, 13, 8, 14, 15] [8] rfl (by decide +kernel) ?_)
  refine DWp.evs 3 rfl ?_
  refine DWp.load (.head _) rfl rfl rfl rfl rfl rfl rfl ?_
  refine DWp.g rfl rfl rfl rfl (Gives.cap rfl rfl rfl) ?_
  refine DWp.evs 6 rfl ?_
  refine DWp.load (.head _) rfl rfl rfl rfl rfl rfl rfl ?_
  refine DWp.evs 1 rfl ?_
  refine DWp.stepGrow rfl rfl rfl (Step.makeNoZero (k := n) rfl rfl rfl rfl rfl (by rw [i64_id (x := 2 * ((0 : Nat) : Int)) (by omega) (by omega), i64_id (by omega) (by omega)]; omega) rfl rfl rfl rfl rfl rfl hn ?_); intro L cs hBL hLL hc hm; refine ⟨fun _ hy => .tail _ hy, ?_⟩
  refine DWp.g rfl rfl rfl rfl (Gives.sliceSlice (l := 0) (h' := 0) rfl rfl rfl rfl rfl ⟨_, _, rfl, rfl⟩ (by omega) (by omega) (by omega)) ?_
  refine DWp.evs 1 rfl ?_
  refine DWp.nil ?_
  refine Wp.seq (Wp.region ?_)
  refine OWp.evs 4 rfl ?_
  refine OWp.load (.tail _ (.head _)) rfl rfl rfl rfl rfl ?_
  refine OWp.step rfl (Step.copyNone rfl rfl rfl rfl rfl rfl ?_)
  refine OWp.nil ?_
  refine Wp.region ?_
  refine OWp.evs 4 rfl ?_
  refine OWp.step rfl (Step.store 1 rfl rfl rfl rfl rfl hB rfl (Nat.le_of_ble_eq_true rfl) (Unfz.zero _) rfl rfl ?_)
  refine OWp.permS (List.Perm.swap _ _ _) ?_
  refine OWp.nil ?_
  refine ⟨trivial, [], rfl, ?_⟩
  exact H [(b, cel [pt b, .slice (some ⟨L, 0, none⟩) 0 cs.length] 91), (L, cel cs 5)] ⟨hB, _, _, _, .inr rfl, rfl, .inr ⟨L, cs.length, cs, (0, 0), rfl, rfl, hBL, Nat.zero_le _, by omega, hm, by simp⟩⟩
theorem bGrowOutC {b n : Nat} (hB : B ≤ b) (h0 : 0 < n) (hn : n ≤ 281474976710656) (H : ∀ es', Bd B b [] es' → Q (.tuple #[]) (es' ++ R)) :
    CallWp Tryd.prog B 67 #[pt b, .int .i64 (n : Int)] Q ((b, cel [.pointer none, .slice none 0 0] 91) :: R) := by
  refine CallWp.enter (args := [_, _]) Tryd.func67 rfl Tryd.ntmps67 rfl ?_
  refine Wp.seq (Wp.region ?_)
  refine OWp.evs 1 rfl ?_
  refine OWp.step rfl (Step.call rfl rfl rfl rfl rfl rfl ((checkC hB (.inl rfl) ?_)))
  refine OWp.nil ?_
  refine Wp.seq ?_
  refine Wp.seq (Wp.region ?_)
  refine OWp.evs 2 rfl ?_
  refine OWp.nil ?_
  refine Wp.cond rfl (fun cc1 => absurd (of_decide_eq_true cc1) (by omega)) (fun cc1 => ?_)
  have cc1 := of_decide_eq_false cc1
  refine Wp.skip ?_
  refine Wp.seq (Wp.regionDraw [0, 1, 2, 3, 4, 5, 6, 7, 8, 9, 10, 11, 12] [] rfl (by decide +kernel) ?_)
  refine DWp.evs 3 rfl ?_
  refine DWp.load (.head _) rfl rfl rfl rfl rfl rfl rfl ?_
  refine DWp.g rfl rfl rfl rfl (Gives.cap rfl rfl rfl) ?_
  refine DWp.evs 3 rfl ?_
  refine DWp.load (.head _) rfl rfl rfl rfl rfl rfl rfl ?_
  refine DWp.evs 4 rfl ?_
  refine DWp.nil ?_
  refine Wp.cond rfl (fun cc2 => ?_) (fun cc2 => absurd (of_decide_eq_false cc2) (by (rw [i64_id] <;> omega)))
  have cc2 := of_decide_eq_true cc2
  refine Wp.region ?_
  refine OWp.evs 2 rfl ?_
  refine OWp.step rfl (Step.call rfl rfl rfl rfl rfl rfl ((bGrowC hB h0 hn ?_)))
  intro es' h'
  refine OWp.nil ?_
  refine ⟨trivial, [], rfl, ?_⟩
  exact H es' h'
theorem mulC {n : Nat} (hn : n < 4294967296) (H : Q (.tuple #[.int .u64 0, .int .u64 (n : Int)]) S) :
    CallWp Tryd.prog B 98 #[.int .u64 1, .int .u64 (n : Int)] Q S := by
  have hand : n &&& 4294967295 = n := by rw [Nat.and_two_pow_sub_one_eq_mod n 32]; omega
  have a1 : bits .and .u64 1 4294967295 = 1 := by decide +kernel
  have a0 : bits .and .u64 0 4294967295 = 0 := by decide +kernel
  have an : bits .and .u64 (n : Int) 4294967295 = (n : Int) := by
    have := Go.Lg.u64_and (a := n) (b := 4294967295) (by omega) (by decide)
    rw [hand] at this
    exact this
  have d1 : (1 : Int).fdiv (2 ^ min 32 IntKind.u64.bits) = 0 := by decide +kernel
  have d0 : (0 : Int).fdiv (2 ^ min 32 IntKind.u64.bits) = 0 := by decide +kernel
  have dn : (n : Int).fdiv (2 ^ min 32 IntKind.u64.bits) = 0 := by
    rw [Int.fdiv_eq_ediv_of_nonneg _ (by decide)]
    exact Int.ediv_eq_zero_of_lt (by omega) (by show (n : Int) < 4294967296; omega)
  have w0 : IntKind.u64.wrap 0 = 0 := by decide +kernel
  have wn : IntKind.u64.wrap (n : Int) = (n : Int) := by rw [IntKind.wrap_u64]; omega
  refine CallWp.enter (args := [_, _]) Tryd.func98 rfl Tryd.ntmps98 rfl ?_
  refine Wp.seq (Wp.region ?_)
  refine OWp.evs 2 rfl ?_
  refine OWp.nil ?_
  refine Wp.seq (Wp.region ?_)
  refine OWp.evs 3 rfl ?_
  refine OWp.nil ?_
  refine Wp.seq (Wp.region ?_)
  refine OWp.evs 3 rfl ?_
  refine OWp.nil ?_
  refine Wp.seq (Wp.region ?_)
  refine OWp.evs 3 rfl ?_
  refine OWp.nil ?_
  refine Wp.seq (Wp.region ?_)
  refine OWp.evs 3 rfl ?_
  refine OWp.nil ?_
  refine Wp.seq (Wp.region ?_)
  refine OWp.evs 4 rfl ?_
  refine OWp.nil ?_
  refine Wp.seq (Wp.region ?_)
  refine OWp.evs 7 rfl ?_
  refine OWp.nil ?_
  refine Wp.seq (Wp.region ?_)
  refine OWp.evs 3 rfl ?_
  refine OWp.nil ?_
  refine Wp.seq (Wp.region ?_)
  refine OWp.evs 3 rfl ?_
  refine OWp.nil ?_
  refine Wp.seq (Wp.region ?_)
  refine OWp.evs 6 rfl ?_
  refine OWp.nil ?_
  refine Wp.seq (Wp.region ?_)
  refine OWp.evs 9 rfl ?_
  refine OWp.nil ?_
  refine Wp.seq (Wp.region ?_)
  refine OWp.evs 4 rfl ?_
  refine OWp.nil ?_
  refine Wp.ret ⟨trivial, _, ⟨_, _, rfl, rfl, _, _, rfl, rfl, rfl⟩, ?_⟩
  simp only [a1, a0, an, d1, d0, dn, Int.zero_mul, Int.mul_zero, Int.one_mul, w0, wn, Int.add_zero]
  exact H
theorem mul1C {n : Nat} {a b : Int} (hn : n < 4294967296) (ha : a = 1) (hb : b = (n : Int)) (H : Q (.tuple #[.int .u64 0, .int .u64 (n : Int)]) S) :
    CallWp Tryd.prog B 65 #[.int .u64 a, .int .u64 b] Q S := by
  subst ha hb
  refine CallWp.enter (args := [_, _]) Tryd.func65 rfl Tryd.ntmps65 rfl ?_
  refine Wp.seq (Wp.region ?_)
  refine OWp.evs 2 rfl ?_
  refine OWp.nil ?_
  refine Wp.seq ?_
  refine Wp.cond rfl (fun c => nomatch c) (fun _ => ?_)
  refine Wp.skip ?_
  refine Wp.seq (Wp.region ?_)
  refine OWp.evs 2 rfl ?_
  refine OWp.step rfl (Step.call rfl rfl rfl rfl rfl rfl ((mulC hn ?_)))
  refine OWp.evs 5 rfl ?_
  refine OWp.nil ?_
  refine Wp.seq (Wp.region ?_)
  refine OWp.evs 4 rfl ?_
  refine OWp.nil ?_
  refine Wp.ret ⟨trivial, _, ⟨_, _, rfl, rfl, _, _, rfl, rfl, rfl⟩, ?_⟩
  exact H
theorem trimLC {l : List UInt8} (hl : l.length ≤ big) (H : Q (.string (str (l.dropWhile (· == 0)))) S) :
    CallWp Tryd.prog B 71 #[.string (str l), .int .u8 0] Q S := by
  refine CallWp.enter (args := [_, _]) Tryd.func71 rfl Tryd.ntmps71 rfl ?_
  refine Wp.seq (Wp.region ?_)
  refine OWp.evs 1 rfl ?_
  refine OWp.nil ?_
  refine Wp.seq ?_
  refine Wp.block ?_
  refine Wp.loopS (α := List UInt8) (fun z => z.length) (fun z => [(0, .string (str z)), (1, .int .u8 0)]) (fun _ => S) (fun z => z.length ≤ big ∧ z.dropWhile (· == 0) = l.dropWhile (· == 0)) l ?_ (.refl _) ⟨hl, rfl⟩ ?_
  · exact .cons rfl (.cons rfl (.nil _))
  rintro z ⟨hz, hd⟩
  have hb : big = 281474976710656 := rfl
  refine Wp.seq ?_
  refine Wp.seq (Wp.region ?_)
  refine OWp.evs 4 rfl ?_
  refine OWp.part 8 rfl (fun h1 => ?_) (fun h1 => ?_)
  · have h1 := of_decide_eq_true h1
    obtain ⟨c, z', rfl⟩ : ∃ c z', z = c :: z' := by
      cases z with
      | nil => exact absurd h1 (by simp)
      | cons c z' => exact ⟨c, z', rfl⟩
    refine OWp.evs 1 rfl ?_
    refine OWp.g rfl rfl (Gives.indexStr (b := c) rfl rfl rfl rfl (by simp) rfl) ?_
    refine OWp.evs 3 rfl ?_
    refine OWp.nil ?_
    refine Wp.cond rfl (fun h2 => ?_) (fun h2 => ?_)
    · have h2 := of_decide_eq_true h2
      have hc : c = 0 := UInt8.toNat_inj.1 (by simpa using h2)
      refine Wp.skip ?_
      refine Wp.block ?_
      refine Wp.region ?_
      refine OWp.evs 1 rfl ?_
      refine OWp.g rfl rfl (Gives.sliceStr (l := 1) (h' := (z'.length + 1)) rfl rfl rfl ⟨_, _, rfl, rfl⟩ rfl (by omega) (by simp)) ?_
      refine OWp.evs 1 rfl ?_
      refine OWp.nil ?_
      subst hc
      refine ⟨z', by simp, ⟨by simp only [List.length_cons] at hz; omega, by rw [← hd]; simp⟩, .cons' rfl ?_ (.cons rfl (.nil _)), .refl _⟩
      simp
    have h2 := of_decide_eq_false h2
    have hc : ¬ c = 0 := fun e => h2 (by rw [e]; rfl)
    refine Wp.exit ?_
    refine Wp.seq (Wp.region ?_)
    refine OWp.evs 2 rfl ?_
    refine OWp.nil ?_
    refine Wp.ret ⟨trivial, _, ⟨_, _, rfl, rfl, rfl⟩, ?_⟩
    rw [← hd, List.dropWhile_cons_of_neg (by simpa using hc)] at H; exact H
  have h1 := of_decide_eq_false h1
  obtain rfl : z = [] := by
    cases z with
    | nil => rfl
    | cons c z' => exact absurd (by simp) h1
  refine OWp.evs 5 rfl ?_
  refine OWp.nil ?_
  refine Wp.cond rfl (fun c => nomatch c) (fun _ => ?_)
  refine Wp.exit ?_
  refine Wp.seq (Wp.region ?_)
  refine OWp.evs 2 rfl ?_
  refine OWp.nil ?_
  refine Wp.ret ⟨trivial, _, ⟨_, _, rfl, rfl, rfl⟩, ?_⟩
  rw [← hd] at H; exact H
theorem trimRC {l : List UInt8} (hl : l.length ≤ big) (H : Q (.string (str (l.reverse.dropWhile (· == 0)).reverse)) S) :
    CallWp Tryd.prog B 72 #[.string (str l), .int .u8 0] Q S := by
  refine CallWp.enter (args := [_, _]) Tryd.func72 rfl Tryd.ntmps72 rfl ?_
  refine Wp.seq (Wp.region ?_)
  refine OWp.evs 1 rfl ?_
  refine OWp.nil ?_
  refine Wp.seq ?_
  refine Wp.block ?_
  refine Wp.loopS (α := List UInt8) (fun z => z.length) (fun z => [(0, .string (str z.reverse)), (1, .int .u8 0)]) (fun _ => S) (fun z => z.length ≤ big ∧ z.dropWhile (· == 0) = l.reverse.dropWhile (· == 0)) l.reverse ?_ (.refl _) ⟨by simpa using hl, rfl⟩ ?_
  · exact .cons (by rw [List.reverse_reverse]; rfl) (.cons rfl (.nil _))
  rintro z ⟨hz, hd⟩
  have hb : big = 281474976710656 := rfl
  refine Wp.seq ?_
  refine Wp.seq (Wp.region ?_)
  refine OWp.evs 4 rfl ?_
  refine OWp.part 8 rfl (fun h1 => ?_) (fun h1 => ?_)
  · have h1 := of_decide_eq_true h1
    obtain ⟨c, z', rfl⟩ : ∃ c z', z = c :: z' := by
      cases z with
      | nil => exact absurd h1 (by simp)
      | cons c z' => exact ⟨c, z', rfl⟩
    have e1 : IntKind.i64.wrap (((c :: z').reverse.length : Int) - 1) = (z'.length : Int) := by
      simp only [List.length_cons] at hz
      rw [List.length_reverse, List.length_cons, i64_id (by omega) (by omega)]; omega
    refine OWp.evs 4 rfl ?_
    refine OWp.g rfl rfl (Gives.indexStr (b := c) rfl rfl rfl rfl (by show 0 ≤ IntKind.i64.wrap (((c :: z').reverse.length : Int) - 1); rw [e1]; omega) (by show (c :: z').reverse[(IntKind.i64.wrap (((c :: z').reverse.length : Int) - 1)).toNat]? = _; rw [e1]; simp)) ?_
    refine OWp.evs 3 rfl ?_
    refine OWp.nil ?_
    refine Wp.cond rfl (fun h2 => ?_) (fun h2 => ?_)
    · have h2 := of_decide_eq_true h2
      have hc : c = 0 := UInt8.toNat_inj.1 (by simpa using h2)
      refine Wp.skip ?_
      refine Wp.block ?_
      refine Wp.region ?_
      refine OWp.evs 4 rfl ?_
      refine OWp.g rfl rfl (Gives.sliceStr (l := 0) (h' := z'.length) rfl rfl rfl rfl ⟨_, _, rfl, e1⟩ (by omega) (by simp)) ?_
      refine OWp.evs 1 rfl ?_
      refine OWp.nil ?_
      subst hc
      refine ⟨z', by simp, ⟨by simp only [List.length_cons] at hz; omega, by rw [← hd]; simp⟩, .cons' rfl ?_ (.cons rfl (.nil _)), .refl _⟩
      simp
    have h2 := of_decide_eq_false h2
    have hc : ¬ c = 0 := fun e => h2 (by rw [e]; rfl)
    refine Wp.exit ?_
    refine Wp.seq (Wp.region ?_)
    refine OWp.evs 2 rfl ?_
    refine OWp.nil ?_
    refine Wp.ret ⟨trivial, _, ⟨_, _, rfl, rfl, rfl⟩, ?_⟩
    rw [← hd, List.dropWhile_cons_of_neg (by simpa using hc)] at H; exact H
  have h1 := of_decide_eq_false h1
  obtain rfl : z = [] := by
    cases z with
    | nil => rfl
    | cons c z' => exact absurd (by simp) h1
  refine OWp.evs 8 rfl ?_
  refine OWp.nil ?_
  refine Wp.cond rfl (fun c => nomatch c) (fun _ => ?_)
  refine Wp.exit ?_
  refine Wp.seq (Wp.region ?_)
  refine OWp.evs 2 rfl ?_
  refine OWp.nil ?_
  refine Wp.ret ⟨trivial, _, ⟨_, _, rfl, rfl, rfl⟩, ?_⟩
  rw [← hd] at H; exact H
end
end Go.Proofs.D
