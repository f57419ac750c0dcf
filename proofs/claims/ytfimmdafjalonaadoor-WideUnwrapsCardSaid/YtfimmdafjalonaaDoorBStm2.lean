/- What functions of the given program do, one after the other, told by that layer. -/
import Derived.Test.YtfimmdafjalonaaDoorBStm1
namespace Go.Proofs.D
open Go.Lg Go.Sha
set_option maxRecDepth 100000

/-- Words of a state. -/
def Good (x : List Nat) : Prop := x.length = 16 ∧ ∀ y ∈ x, y < 4294967296
theorem quarter_lt {a b c d : Nat} (hb : b < 4294967296) (hd : d < 4294967296) :
    (quarter a b c d).1 < 4294967296 ∧ (quarter a b c d).2.1 < 4294967296 ∧ (quarter a b c d).2.2.1 < 4294967296 ∧ (quarter a b c d).2.2.2 < 4294967296 := by
  have x32 : ∀ a b, a < 4294967296 → b < 4294967296 → a ^^^ b < 4294967296 := fun a b => xor_lt32
  have d1 := rl_lt (n := 16) (x32 _ _ hd (add_lt a b)) (by decide)
  have b1 := rl_lt (n := 12) (x32 _ _ hb (add_lt c (rl (d ^^^ add a b) 16))) (by decide)
  exact ⟨add_lt _ _, rl_lt (x32 _ _ b1 (add_lt _ _)) (by decide), add_lt _ _, rl_lt (x32 _ _ d1 (add_lt _ _)) (by decide)⟩
theorem set_all {l : List Nat} {i x : Nat} (h : ∀ y ∈ l, y < 4294967296) (hx : x < 4294967296) : ∀ y ∈ l.set i x, y < 4294967296 := by
  intro y hy
  rcases List.mem_or_eq_of_mem_set hy with h1 | h1
  · exact h y h1
  · rw [h1]; exact hx
def qr (h : Nat) (x : List Nat) (j : Nat) : List Nat := turn x j (4 + (j + h) % 4) (8 + (j + 2 * h) % 4) (12 + (j + 3 * h) % 4)
theorem qr_good {h j : Nat} {x : List Nat} (hx : Good x) : Good (qr h x j) := by
  have q := quarter_lt (a := x.getD j 0) (c := x.getD (8 + (j + 2 * h) % 4) 0) (getD_lt hx.2 (4 + (j + h) % 4)) (getD_lt hx.2 (12 + (j + 3 * h) % 4))
  refine ⟨by simp [qr, turn, hx.1], ?_⟩
  unfold qr turn
  exact set_all (set_all (set_all (set_all hx.2 q.1) q.2.1) q.2.2.1) q.2.2.2
def row4 (h : Nat) (x : List Nat) : Nat → List Nat
  | 0 => x
  | j + 1 => qr h (row4 h x j) j
theorem row4_good {h : Nat} {x : List Nat} (hx : Good x) : ∀ j, Good (row4 h x j)
  | 0 => hx
  | j + 1 => qr_good (row4_good hx j)
theorem row4_succ (h : Nat) (x : List Nat) (j : Nat) : row4 h x (j + 1) = qr h (row4 h x j) j := rfl
def half (x : List Nat) : Nat → List Nat
  | 0 => x
  | h + 1 => row4 h (half x h) 4
theorem half_succ (x : List Nat) (h : Nat) : half x (h + 1) = row4 h (half x h) 4 := rfl
theorem half_good {x : List Nat} (hx : Good x) : ∀ h, Good (half x h)
  | 0 => hx
  | h + 1 => row4_good (half_good hx h) 4
theorem half_zero (x : List Nat) : half x 0 = x := rfl
theorem row4_zero (h : Nat) (x : List Nat) : row4 h x 0 = x := rfl
theorem half_two (x : List Nat) : half x 2 = twice x := by
  have c : ∀ s i, i < 4 → column s i = qr 0 s i := fun s i h => by
    unfold column qr
    rw [show (i + 0) % 4 = i by omega]
  have d : ∀ s i, diagonal s i = qr 1 s i := fun s i => by
    unfold diagonal qr
    rw [Nat.mul_one, Nat.mul_one]
  have r : List.range 4 = [0, 1, 2, 3] := by decide
  unfold twice
  rw [r]
  simp only [List.foldl_cons, List.foldl_nil, d, c _ 0 (by decide), c _ 1 (by decide), c _ 2 (by decide), c _ 3 (by decide), half, row4]

theorem at4 {c j m : Nat} {z : Int} (hz : z = (m : Int)) (hj : j + m ≤ 1000) (hc : c ≤ 1000) : IntKind.i64.wrap ((c : Int) + (IntKind.i64.wrap ((j : Int) + z)).tmod (Int.ofNat (3 + 1))) = ((c + (j + m) % 4 : Nat) : Int) := by
  subst hz
  have e1 : IntKind.i64.wrap ((j : Int) + (m : Int)) = ((j + m : Nat) : Int) := by rw [i64_id (by omega) (by omega)]; rfl
  have e2 : (((j + m : Nat) : Int)).tmod (Int.ofNat (3 + 1)) = (((j + m) % 4 : Nat) : Int) := rfl
  rw [e1, e2, i64_id (by omega) (by omega)]; rfl
theorem i64_mul {c h : Nat} (hc : c * h ≤ 1000) : IntKind.i64.wrap ((c : Int) * (h : Int)) = ((c * h : Nat) : Int) := by
  have : ((c : Int) * (h : Int)) = ((c * h : Nat) : Int) := by simp
  rw [this, i64_id (by omega) (by omega)]
theorem u32s_one (l : List Nat) : (u32s l).all (·.oneCell') = true := by
  rw [List.all_eq_true]
  intro v hv
  simp only [u32s, List.mem_map] at hv
  obtain ⟨s, _, rfl⟩ := hv
  rfl
theorem wr_all {l X : List Value} (h : X.length = l.length) : wr l 0 X = X := by
  unfold wr
  rw [Nat.zero_add, h, List.drop_length, List.take_zero]
  simp
theorem u32s_agg {x : List Nat} (hx : x.length = 16) : Lg.partAt Tryd.prog 149 (u32s x) 0 = some (.agg (u32s x).toArray) :=
  partAt_agg (n := 16) (r := u32s x) (by rw [List.drop_zero, List.take_of_length_le (by rw [u32s_length, hx]; exact Nat.le_refl _)]) rfl rfl (by rw [u32s_length]; exact hx)
attribute [local irreducible] row4 half turned twice
section
variable {B : Nat} {S R : Ents} {Q : Value → Ents → Prop}

set_option maxHeartbeats 1000000 in
theorem turnedC {s : List Nat} (hs : Good s) (H : Q (.agg (u32s (turned 10 s)).toArray) S) :
    CallWp Tryd.prog B 139 #[.agg (u32s s).toArray] Q S := by
  refine CallWp.dropRet ?_
  refine CallWp.enter (args := [_]) Tryd.func139 rfl Tryd.ntmps139 rfl ?_
  refine Wp.seq (Wp.region ?_)
  refine OWp.step rfl (Step.box rfl rfl rfl ?_); intro L1 hBL1 hLL1
  refine OWp.step rfl (Step.alloc rfl rfl rfl ?_); intro L2 hBL2 hLL2
  refine OWp.nil ?_
  refine Wp.seq ?_
  refine Wp.seq (Wp.region ?_)
  refine OWp.evs 1 rfl ?_
  refine OWp.nil ?_
  refine Wp.block ?_
  refine Wp.loopS (α := Nat × List Nat) (fun z => 10 - z.1) (fun z => [(1, pt L1), (2, pt L2), (8, .int .i64 (z.1 : Int))]) (fun z => (L2, cel (u32s (List.replicate 16 0)) 149) :: (L1, cel (u32s z.2) 149) :: S) (fun z => z.1 ≤ 10 ∧ turned (10 - z.1) z.2 = turned 10 s ∧ Good z.2) (0, s) ?_ (.refl _) ⟨Nat.zero_le _, rfl, hs⟩ ?_
  · exact .cons rfl (.cons rfl (.cons rfl (.nil _)))
  rintro ⟨i, x⟩ ⟨hi, ht, hx⟩
  simp only at hi ht hx ⊢
  refine Wp.seq (Wp.region ?_)
  refine OWp.evs 1 rfl ?_
  refine OWp.nil ?_
  refine Wp.seq ?_
  refine Wp.cond rfl (fun h1 => ?_) (fun h1 => ?_)
  · have h1 := of_decide_eq_true h1
    have hi2 : i < 10 := by omega
    refine Wp.skip ?_
    refine Wp.seq ?_
    refine Wp.block ?_
    refine Wp.seq (Wp.region ?_)
    refine OWp.evs 1 rfl ?_
    refine OWp.nil ?_
    refine Wp.block ?_
    refine Wp.loopS (α := Nat) (fun h => 2 - h) (fun h => [(1, pt L1), (2, pt L2), (8, .int .i64 (i : Int)), (10, .int .i64 (h : Int))]) (fun h => (L2, cel (u32s (List.replicate 16 0)) 149) :: (L1, cel (u32s (half x h)) 149) :: S) (fun h => h ≤ 2) 0 ?_ (by simp only [half_zero]; exact .refl _) (Nat.zero_le _) ?_
    · exact .cons rfl (.cons rfl (.cons rfl (.cons rfl (.nil _))))
    intro h hh
    refine Wp.seq (Wp.region ?_)
    refine OWp.evs 1 rfl ?_
    refine OWp.nil ?_
    refine Wp.seq ?_
    refine Wp.cond rfl (fun h2 => ?_) (fun h2 => ?_)
    · have h2 := of_decide_eq_true h2
      have hh2 : h < 2 := by omega
      refine Wp.skip ?_
      refine Wp.seq ?_
      refine Wp.block ?_
      refine Wp.seq (Wp.region ?_)
      refine OWp.evs 2 rfl ?_
      refine OWp.nil ?_
      refine Wp.seq (Wp.region ?_)
      refine OWp.evs 1 rfl ?_
      refine OWp.nil ?_
      refine Wp.block ?_
      refine Wp.loopS (α := Nat) (fun j => 4 - j) (fun j => [(1, pt L1), (2, pt L2), (8, .int .i64 (i : Int)), (10, .int .i64 (h : Int)), (3, .int .i64 (h : Int)), (13, .int .i64 (j : Int))]) (fun j => (L2, cel (u32s (List.replicate 16 0)) 149) :: (L1, cel (u32s (row4 h (half x h) j)) 149) :: S) (fun j => j ≤ 4) 0 ?_ (by simp only [row4_zero]; exact .refl _) (Nat.zero_le _) ?_
      · exact .cons rfl (.cons rfl (.cons rfl (.cons rfl (.cons rfl (.cons rfl (.nil _))))))
      intro j hj
      refine Wp.seq (Wp.region ?_)
      refine OWp.evs 1 rfl ?_
      refine OWp.nil ?_
      refine Wp.seq ?_
      refine Wp.cond rfl (fun h3 => ?_) (fun h3 => ?_)
      · have h3 := of_decide_eq_true h3
        have hj2 : j < 4 := by omega
        refine Wp.skip ?_
        refine Wp.seq ?_
        refine Wp.block ?_
        refine Wp.seq (Wp.region ?_)
        refine OWp.evs 2 rfl ?_
        refine OWp.nil ?_
        refine Wp.seq (Wp.region ?_)
        refine OWp.evs 20 rfl ?_
        refine OWp.nil ?_
        refine Wp.weaken (E' := [(1, pt L1), (2, pt L2), (8, .int .i64 (i : Int)), (10, .int .i64 (h : Int)), (3, .int .i64 (h : Int)), (13, .int .i64 (j : Int)), (4, .int .i64 (j : Int)), (5, .int .i64 ((4 + (j + h) % 4 : Nat) : Int)), (6, .int .i64 ((8 + (j + 2 * h) % 4 : Nat) : Int)), (7, .int .i64 ((12 + (j + 3 * h) % 4 : Nat) : Int))]) (.cons rfl (.cons rfl (.cons rfl (.cons rfl (.cons rfl (.cons rfl (.cons rfl (.cons' rfl (int_eq (at4 (c := 4) rfl (by omega) (by omega))) (.cons' rfl (int_eq (at4 (c := 8) (i64_mul (c := 2) (by omega)) (by omega) (by omega))) (.cons' rfl (int_eq (at4 (c := 12) (i64_mul (c := 3) (by omega)) (by omega) (by omega))) (.nil _))))))))))) (fun _ h => h) ?_
        obtain ⟨z, hz⟩ : ∃ z, z = row4 h (half x h) j := ⟨_, rfl⟩
        have hzg : Good z := hz ▸ row4_good (half_good hx h) j
        rw [← hz]
        have hm1 := Nat.mod_lt (j + h) (show 4 > 0 by decide)
        have hm2 := Nat.mod_lt (j + 2 * h) (show 4 > 0 by decide)
        have hm3 := Nat.mod_lt (j + 3 * h) (show 4 > 0 by decide)
        refine Wp.regionDraw [0, 1, 2, 3, 4, 5, 6, 7, 8, 9, 10, 11, 12, 13, 14, 15, 16, 17, 18, 19, 20, 21, 22, 23, 24, 25, 26, 27, 28, 29] [16, 23, 25, 27, 29] rfl (by decide +kernel) ?_
        refine DWp.evs 5 rfl ?_
        refine DWp.g rfl rfl rfl rfl (Gives.indexAddrArr (j) rfl rfl rfl rfl rfl rfl (by omega)) ?_
        refine DWp.load (.tail _ (.head _)) rfl rfl rfl rfl rfl rfl (u32s_part (by rw [hzg.1]; omega)) ?_
        refine DWp.evs 1 rfl ?_
        refine DWp.g rfl rfl rfl rfl (Gives.indexAddrArr ((4 + (j + h) % 4)) rfl rfl rfl rfl rfl rfl (by omega)) ?_
        refine DWp.load (.tail _ (.head _)) rfl rfl rfl rfl rfl rfl (u32s_part (by rw [hzg.1]; omega)) ?_
        refine DWp.evs 1 rfl ?_
        refine DWp.g rfl rfl rfl rfl (Gives.indexAddrArr ((8 + (j + 2 * h) % 4)) rfl rfl rfl rfl rfl rfl (by omega)) ?_
        refine DWp.load (.tail _ (.head _)) rfl rfl rfl rfl rfl rfl (u32s_part (by rw [hzg.1]; omega)) ?_
        refine DWp.evs 1 rfl ?_
        refine DWp.g rfl rfl rfl rfl (Gives.indexAddrArr ((12 + (j + 3 * h) % 4)) rfl rfl rfl rfl rfl rfl (by omega)) ?_
        refine DWp.load (.tail _ (.head _)) rfl rfl rfl rfl rfl rfl (u32s_part (by rw [hzg.1]; omega)) ?_
        refine DWp.stepGrow rfl rfl rfl (Step.call rfl rfl rfl rfl rfl rfl ((quarterC (getD_lt hzg.2 _) (getD_lt hzg.2 _) (getD_lt hzg.2 _) (getD_lt hzg.2 _) ?_)))
        refine ⟨fun _ hy => hy, ?_⟩
        obtain ⟨q, hq⟩ : ∃ q, q = quarter (z.getD j 0) (z.getD (4 + (j + h) % 4) 0) (z.getD (8 + (j + 2 * h) % 4) 0) (z.getD (12 + (j + 3 * h) % 4) 0) := ⟨_, rfl⟩
        rw [← hq]
        refine DWp.evs 5 rfl ?_
        refine DWp.g rfl rfl rfl rfl (Gives.indexAddrArr (j) rfl rfl rfl rfl rfl rfl (by omega)) ?_
        refine DWp.step rfl rfl rfl (Step.storeAs 1 (u32s (z.set j q.1)) rfl rfl rfl rfl rfl hBL1 rfl (Unfz.zero _) rfl (by rw [u32s_length]; simp only [hzg.1]; show 0 + j * 1 + 1 ≤ 16; omega) (u32s_set (by simp only [hzg.1]; omega) (by show 0 + j * 1 = j; omega)) rfl ?_)
        refine ⟨by (repeat (first | exact pr_nil | refine pr_kept ?_ | refine pr_free ?_ | refine pr_cons (by repeat (first | exact List.Mem.head _ | assumption | apply List.mem_cons_of_mem | apply List.mem_append_right)) ?_)), ?_⟩
        refine DWp.g rfl rfl rfl rfl (Gives.indexAddrArr ((4 + (j + h) % 4)) rfl rfl rfl rfl rfl rfl (by omega)) ?_
        refine DWp.step rfl rfl rfl (Step.storeAs 1 (u32s ((z.set j q.1).set (4 + (j + h) % 4) q.2.1)) rfl rfl rfl rfl rfl hBL1 rfl (Unfz.zero _) rfl (by rw [u32s_length]; simp only [List.length_set, hzg.1]; show 0 + (4 + (j + h) % 4) * 1 + 1 ≤ 16; omega) (u32s_set (by simp only [List.length_set, hzg.1]; omega) (by show 0 + (4 + (j + h) % 4) * 1 = (4 + (j + h) % 4); omega)) rfl ?_)
        refine ⟨by (repeat (first | exact pr_nil | refine pr_kept ?_ | refine pr_free ?_ | refine pr_cons (by repeat (first | exact List.Mem.head _ | assumption | apply List.mem_cons_of_mem | apply List.mem_append_right)) ?_)), ?_⟩
        refine DWp.g rfl rfl rfl rfl (Gives.indexAddrArr ((8 + (j + 2 * h) % 4)) rfl rfl rfl rfl rfl rfl (by omega)) ?_
        refine DWp.step rfl rfl rfl (Step.storeAs 1 (u32s (((z.set j q.1).set (4 + (j + h) % 4) q.2.1).set (8 + (j + 2 * h) % 4) q.2.2.1)) rfl rfl rfl rfl rfl hBL1 rfl (Unfz.zero _) rfl (by rw [u32s_length]; simp only [List.length_set, hzg.1]; show 0 + (8 + (j + 2 * h) % 4) * 1 + 1 ≤ 16; omega) (u32s_set (by simp only [List.length_set, hzg.1]; omega) (by show 0 + (8 + (j + 2 * h) % 4) * 1 = (8 + (j + 2 * h) % 4); omega)) rfl ?_)
        refine ⟨by (repeat (first | exact pr_nil | refine pr_kept ?_ | refine pr_free ?_ | refine pr_cons (by repeat (first | exact List.Mem.head _ | assumption | apply List.mem_cons_of_mem | apply List.mem_append_right)) ?_)), ?_⟩
        refine DWp.g rfl rfl rfl rfl (Gives.indexAddrArr ((12 + (j + 3 * h) % 4)) rfl rfl rfl rfl rfl rfl (by omega)) ?_
        refine DWp.step rfl rfl rfl (Step.storeAs 1 (u32s ((((z.set j q.1).set (4 + (j + h) % 4) q.2.1).set (8 + (j + 2 * h) % 4) q.2.2.1).set (12 + (j + 3 * h) % 4) q.2.2.2)) rfl rfl rfl rfl rfl hBL1 rfl (Unfz.zero _) rfl (by rw [u32s_length]; simp only [List.length_set, hzg.1]; show 0 + (12 + (j + 3 * h) % 4) * 1 + 1 ≤ 16; omega) (u32s_set (by simp only [List.length_set, hzg.1]; omega) (by show 0 + (12 + (j + 3 * h) % 4) * 1 = (12 + (j + 3 * h) % 4); omega)) rfl ?_)
        refine ⟨by (repeat (first | exact pr_nil | refine pr_kept ?_ | refine pr_free ?_ | refine pr_cons (by repeat (first | exact List.Mem.head _ | assumption | apply List.mem_cons_of_mem | apply List.mem_append_right)) ?_)), ?_⟩
        refine DWp.nil ?_
        refine Wp.region ?_
        refine OWp.evs 2 rfl ?_
        refine OWp.nil ?_
        exact ⟨j + 1, by omega, by omega, .cons rfl (.cons rfl (.cons rfl (.cons rfl (.cons rfl (.cons' rfl (int_eq (i64_inc (by omega))) (.nil _)))))), by rw [row4_succ, ← hz, hq]; exact .refl _⟩
      have h3 := of_decide_eq_false h3
      refine Wp.exit ?_
      refine Wp.region ?_
      refine OWp.evs 2 rfl ?_
      refine OWp.nil ?_
      obtain rfl : j = 4 := by omega
      exact ⟨h + 1, by omega, by omega, .cons rfl (.cons rfl (.cons rfl (.cons' rfl (int_eq (i64_inc (by omega))) (.nil _)))), by rw [half_succ]⟩
    have h2 := of_decide_eq_false h2
    refine Wp.exit ?_
    refine Wp.region ?_
    refine OWp.evs 2 rfl ?_
    refine OWp.nil ?_
    obtain rfl : h = 2 := by omega
    refine ⟨(i + 1, half x 2), by simp only; omega, ⟨by simp only; omega, ?_, half_good hx 2⟩, .cons rfl (.cons rfl (.cons' rfl (int_eq (i64_inc (by omega))) (.nil _))), .refl _⟩
    simp only
    rw [half_two, ← ht, show 10 - i = (10 - (i + 1)) + 1 by omega, turned]
  have h1 := of_decide_eq_false h1
  obtain rfl : i = 10 := by omega
  rw [Nat.sub_self, turned] at ht
  refine Wp.exit ?_
  refine Wp.seq (Wp.region ?_)
  refine OWp.load (.tail _ (.head _)) rfl rfl rfl rfl (u32s_agg hx.1) ?_
  refine OWp.step rfl (Step.storeAs 0 (u32s x) rfl rfl rfl rfl rfl hBL2 (by show some 16 = some (u32s x).length; rw [u32s_length, hx.1]) (Unfz.zero _) (u32s_one x) (by rw [u32s_length]; show 0 + (u32s x).length ≤ _; rw [u32s_length, hx.1, List.length_replicate]; exact Nat.le_refl _) (wr_all (X := u32s x) (by rw [u32s_length, u32s_length, hx.1, List.length_replicate])) rfl ?_)
  have hp : Lg.partAt Tryd.prog 149 (u32s x) 0 = some (.agg (u32s x).toArray) := u32s_agg hx.1
  refine OWp.nil ?_
  refine Wp.ret ⟨trivial, _, ⟨_, _, _, _, rfl, rfl, ⟨_, _, _, (by repeat (first | exact List.Mem.head _ | assumption | apply List.mem_cons_of_mem | apply List.mem_append_right)), (by first | assumption | rfl)⟩, rfl⟩, ?_⟩
  subst ht; exact ⟨S, (by repeat (first | exact List.Sublist.refl _ | exact List.sublist_append_right _ _ | apply List.Sublist.cons)), H⟩
end
end Go.Proofs.D
