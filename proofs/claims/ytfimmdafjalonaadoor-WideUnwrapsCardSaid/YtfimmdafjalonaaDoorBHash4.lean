/- What functions of the given program do, one after the other, told by that layer. -/
import Derived.Test.YtfimmdafjalonaaDoorBHash3
import Derived.Test.YtfimmdafjalonaaDoorBShaR
namespace Go.Proofs.D
open Go.Lg Go.Sha
set_option maxRecDepth 100000

def big : Nat := 281474976710656
/-- A hasher that has taken a text. -/
abbrev hx (p : Nat) (x r : List UInt8) : Nat × Obj := hs p (hv x).list r (x.length % 64) x.length

theorem str_ne {l : List UInt8} : (l = []) ↔ l.length = 0 := by cases l <;> simp

section
variable {B : Nat} {S R : Ents} {Q : Value → Ents → Prop}

set_option maxHeartbeats 1000000 in
theorem takeC {x r s : List UInt8} {p : Nat} (hB : B ≤ p) (hr : Waits x r) (hk : KsIn R) (hl : x.length + s.length ≤ big) (H : ∀ r', Waits (x ++ s) r' → Q (.tuple #[]) (hx p (x ++ s) r' :: R)) :
    CallWp Tryd.prog B 91 #[pt p, .string (str s)] Q (hx p x r :: R) := by
  unfold big at hl
  refine CallWp.enter (args := [_, _]) Tryd.func91 rfl Tryd.ntmps91 rfl ?_
  refine Wp.seq (Wp.region ?_)
  refine OWp.evs 3 rfl ?_
  refine OWp.load (.head _) rfl rfl rfl rfl (hc_total (vlist_len _) hr.len rfl) ?_
  refine OWp.evs 6 rfl ?_
  refine OWp.step rfl (Step.storeAs 0 (hc (hv x).list r (x.length % 64) (x.length + s.length)) rfl rfl rfl rfl rfl (by assumption) rfl (Unfz.zero _) rfl (by rw [hc_len (vlist_len _) hr.len]; show 73 + 1 ≤ 74; decide) (by rw [IntKind.wrap_u64, IntKind.wrap_u64, show ((x.length : Int) + (s.length : Int) % 18446744073709551616) % 18446744073709551616 = ((x.length + s.length : Nat) : Int) by omega]; exact hc_set_total (vlist_len _) hr.len rfl) rfl ?_)
  refine OWp.nil ?_
  refine Wp.block ?_
  refine Wp.loopS (α := Nat × List UInt8) (fun z => s.length - z.1) (fun z => [(1, .string (str (s.drop z.1))), (0, pt p)]) (fun z => hs p (hv (x ++ s.take z.1)).list z.2 ((x ++ s.take z.1).length % 64) (x.length + s.length) :: R) (fun z => z.1 ≤ s.length ∧ Waits (x ++ s.take z.1) z.2) (0, r) ?_ ?_ ⟨Nat.zero_le _, by simpa using hr⟩ ?_
  · exact .cons rfl (.cons rfl (.nil _))
  · simp only [List.take_zero, List.append_nil]; exact .refl _
  rintro ⟨m, r'⟩ ⟨hm, hr'⟩
  simp only at hm hr' ⊢
  generalize hy : x ++ s.take m = y at hr' ⊢
  have hyl : y.length = x.length + m := by rw [← hy, List.length_append, List.length_take]; omega
  have hql : (s.drop m).length = s.length - m := List.length_drop
  refine Wp.seq ?_
  refine Wp.seq (Wp.region ?_)
  refine OWp.evs 2 rfl ?_
  refine OWp.nil ?_
  refine Wp.cond rfl (fun h1 => ?_) (fun h1 => ?_)
  · have h1 := ndT h1
    have hne : (s.drop m).length ≠ 0 := fun e => h1 (str_ne.2 e)
    refine Wp.skip ?_
    refine Wp.block ?_
    refine Wp.seq (Wp.regionDraw [0, 1, 2, 3, 4, 5, 6, 7, 8, 9, 10] [9] rfl (by decide +kernel) ?_)
    refine DWp.evs 6 rfl ?_
    refine DWp.load (.head _) rfl rfl rfl rfl rfl rfl (hc_have (vlist_len _) hr'.len rfl) ?_
    refine DWp.g rfl rfl rfl rfl (Gives.sliceArr (l := y.length % 64) (h' := 64) rfl rfl rfl rfl ⟨_, _, rfl, rfl⟩ rfl (by omega) (by omega) (by omega)) ?_
    have hmod : y.length % 64 < 64 := Nat.mod_lt _ (by decide)
    obtain ⟨n, hn⟩ : ∃ n, n = min (s.drop m).length (64 - y.length % 64) := ⟨_, rfl⟩
    have htl : ((s.drop m).take n).length = n := by rw [List.length_take]; omega
    refine DWp.evs 1 rfl ?_
    refine DWp.stepAll rfl rfl rfl rfl (Step.copyStr 0 (hc (hv y).list (r'.take (y.length % 64) ++ (s.drop m).take n ++ r'.drop (y.length % 64 + ((s.drop m).take n).length)) (y.length % 64) (x.length + s.length)) rfl rfl rfl rfl rfl rfl rfl (by assumption) (Unfz.zero _) (by rw [hc_len (vlist_len _) hr'.len]; show 0 + 8 + (y.length % 64) * 1 + min (s.drop m).length (64 - y.length % 64) ≤ 74; omega) (by show wr _ (0 + 8 + (y.length % 64) * 1) (byteCells ((s.drop m).take (min (s.drop m).length (64 - y.length % 64)))) = _; rw [← hn]; exact hc_copy (vlist_len _) (by rw [htl, hr'.len]; omega) (by omega)) rfl ?_)
    rw [← hn]
    have hput := (rest_put (q := (s.drop m).take n) hr' (by rw [htl]; omega)).1
    have hmore := rest_more (q := (s.drop m).take n) hr'
    have hfull := rest_full (q := (s.drop m).take n) hr'
    rw [htl] at hput hmore hfull ⊢
    generalize r'.take (y.length % 64) ++ (s.drop m).take n ++ r'.drop (y.length % 64 + n) = r2 at hput hmore hfull ⊢
    have hxy : x ++ s.take (m + n) = y ++ (s.drop m).take n := by rw [List.take_add, ← List.append_assoc, hy]
    have hdr : ((s.drop m).drop n).take ((s.drop m).length - n) = s.drop (m + n) := by
      rw [List.drop_drop, List.take_of_length_le]
      rw [List.length_drop, hql]; omega
    refine DWp.evs 1 rfl ?_
    refine DWp.nil ?_
    refine Wp.seq (Wp.region ?_)
    refine OWp.evs 3 rfl ?_
    refine OWp.load (.head _) rfl rfl rfl rfl (hc_have (vlist_len _) hput rfl) ?_
    refine OWp.evs 4 rfl ?_
    refine OWp.step rfl (Step.storeAs 0 (hc (hv y).list r2 (y.length % 64 + n) (x.length + s.length)) rfl rfl rfl rfl rfl (by assumption) rfl (Unfz.zero _) rfl (by rw [hc_len (vlist_len _) hput]; show 72 + 1 ≤ 74; decide) (by rw [show IntKind.i64.wrap (((y.length % 64 : Nat) : Int) + (n : Int)) = ((y.length % 64 + n : Nat) : Int) by rw [i64_id (by omega) (by omega)]; omega]; exact hc_set_have (vlist_len _) hput rfl) rfl ?_)
    refine OWp.nil ?_
    refine Wp.seq (Wp.region ?_)
    refine OWp.evs 2 rfl ?_
    refine OWp.g rfl rfl (Gives.sliceStr (l := n) (h' := (s.drop m).length) rfl rfl rfl ⟨_, _, rfl, rfl⟩ rfl (by omega) (by omega)) ?_
    rw [hdr]
    refine OWp.evs 1 rfl ?_
    refine OWp.nil ?_
    refine Wp.seq (Wp.region ?_)
    refine OWp.evs 3 rfl ?_
    refine OWp.load (.head _) rfl rfl rfl rfl (hc_have (vlist_len _) hput rfl) ?_
    refine OWp.evs 1 rfl ?_
    refine OWp.nil ?_
    refine Wp.cond rfl (fun h2 => ?_) (fun h2 => ?_)
    · have h2 := of_decide_eq_true h2
      have h64 : y.length % 64 + n = 64 := by omega
      obtain ⟨f1, f2, f3⟩ := hfull h64
      refine Wp.region ?_
      refine OWp.evs 1 rfl ?_
      refine OWp.step rfl (Step.call rfl rfl rfl rfl rfl rfl ((mixC (v := hv y) (r := r2) hB (hv_ok y) hput hk ?_)))
      refine OWp.nil ?_
      refine ⟨(m + n, r2), by simp only; omega, ⟨by simp only; omega, by simp only; rw [hxy]; exact f1⟩, .cons rfl (.cons rfl (.nil _)), ?_⟩
      simp only
      rw [hxy, ← f2, f3]
    have h2 := of_decide_eq_false h2
    have h64 : y.length % 64 + n < 64 := by omega
    obtain ⟨f1, f2, f3⟩ := hmore h64
    refine Wp.skip ?_
    refine ⟨(m + n, r2), by simp only; omega, ⟨by simp only; omega, by simp only; rw [hxy]; exact f1⟩, .cons rfl (.cons rfl (.nil _)), ?_⟩
    simp only
    rw [hxy, f2, f3]
  have h1 := ndF h1
  have h0 : s.drop m = [] := h1
  have hm2 : m = s.length := by rw [h0] at hql; simp at hql; omega
  subst hm2
  refine Wp.exit ?_
  refine ⟨trivial, [], rfl, ?_⟩
  rw [List.take_length] at hy
  subst hy
  have := H r' hr'
  unfold hx at this
  rw [List.length_append] at this ⊢
  exact this
theorem beginC (H : ∀ L, B ≤ L → (∀ x ∈ S, x.1 < L) → Q (pt L) (hx L [] (List.replicate 64 0) :: S)) : CallWp Tryd.prog B 90 #[] Q S := by
  refine CallWp.enter (args := []) Tryd.func90 rfl Tryd.ntmps90 rfl ?_
  refine Wp.seq (Wp.region ?_)
  refine OWp.evs 1 rfl ?_
  refine OWp.nil ?_
  refine Wp.seq (Wp.region ?_)
  refine OWp.g rfl rfl (Gives.build rfl rfl) ?_
  refine OWp.g rfl rfl (Gives.build rfl rfl) ?_
  refine OWp.step rfl (Step.box rfl rfl rfl ?_); intro L hBL hLL
  refine OWp.evs 1 rfl ?_
  refine OWp.nil ?_
  refine Wp.ret ⟨trivial, _, ⟨_, _, rfl, rfl, rfl⟩, ?_⟩
  exact H L hBL hLL
theorem eight_step (n i : Nat) (h : i < 8) : IntKind.u8.wrap (((n : Nat) : Int).fdiv (2 ^ (min (56 - 8 * i) IntKind.u64.bits))) = ((UInt8.ofNat (n / 2 ^ (56 - 8 * i))).toNat : Int) := by
  have e : min (56 - 8 * i) IntKind.u64.bits = 56 - 8 * i := by show min _ 64 = _; omega
  rw [e, Int.fdiv_eq_ediv_of_nonneg _ (by exact Int.le_of_lt (Int.pow_pos (by decide))), IntKind.wrap_u8, UInt8.toNat_ofNat']
  have : ((n : Nat) : Int) / 2 ^ (56 - 8 * i) = ((n / 2 ^ (56 - 8 * i) : Nat) : Int) := by simp
  rw [this]
  omega

theorem row_set (f : Nat → UInt8) {n i o : Nat} (h : i < n) (ho : o = i) : wr (byteCells ((List.range i).map f ++ List.replicate (n - i) 0)) o (Value.int .u8 ((f i).toNat : Int)).cells.toList = byteCells ((List.range (i + 1)).map f ++ List.replicate (n - (i + 1)) 0) := by
  subst ho
  obtain ⟨r, hr⟩ : ∃ r, n - o = r + 1 := ⟨n - o - 1, by omega⟩
  have e1 : n - (o + 1) = r := by omega
  rw [hr, e1]
  unfold wr
  show List.take o _ ++ byteCells [f o] ++ List.drop (o + 1) _ = _
  have hl : ((List.range o).map f).length = o := by simp
  simp only [byteCells, ← List.map_take, ← List.map_drop, ← List.map_append]
  congr 1
  rw [List.take_left' hl, List.drop_append, hl, List.drop_of_length_le (by omega), List.replicate_succ, List.range_succ, show o + 1 - o = 1 by omega]
  simp

theorem eightC {n : Nat} (h : Q (.string (str (tail8 n))) S) : CallWp Tryd.prog B 115 #[.int .u64 (n : Int)] Q S := by
  refine CallWp.enter (args := [_]) Tryd.func115 rfl Tryd.ntmps115 rfl ?_
  refine Wp.seq (Wp.region ?_)
  refine OWp.evs 1 rfl ?_
  refine OWp.nil ?_
  refine Wp.seq (Wp.region ?_)
  refine OWp.step rfl (Step.alloc rfl rfl rfl ?_); intro L hBL hLL
  refine OWp.nil ?_
  refine Wp.seq ?_
  refine Wp.seq (Wp.region ?_)
  refine OWp.evs 1 rfl ?_
  refine OWp.nil ?_
  refine Wp.block ?_
  refine Wp.loopS (α := Nat) (fun i => 8 - i) (fun i => [(5, .int .i64 (i : Int)), (0, .int .u64 (n : Int)), (3, pt L)]) (fun i => (L, cel (byteCells ((List.range i).map (fun j => UInt8.ofNat (n / 2 ^ (56 - 8 * j))) ++ List.replicate (8 - i) 0)) 170) :: S) (fun i => i ≤ 8) 0 ?_ (.refl _) (Nat.zero_le _) ?_
  · exact .cons rfl (.cons rfl (.cons rfl (.nil _)))
  intro i hi
  refine Wp.seq (Wp.region ?_)
  refine OWp.evs 1 rfl ?_
  refine OWp.nil ?_
  refine Wp.seq ?_
  refine Wp.cond rfl (fun h1 => ?_) (fun h1 => ?_)
  · have h1 := of_decide_eq_true h1
    have hlt : i < 8 := by omega
    refine Wp.skip ?_
    refine Wp.seq ?_
    refine Wp.block ?_
    refine Wp.seq (Wp.region ?_)
    refine OWp.evs 2 rfl ?_
    refine OWp.nil ?_
    refine Wp.region ?_
    refine OWp.evs 5 rfl ?_
    refine OWp.g rfl rfl (Gives.shr (m := 56 - 8 * i) rfl rfl rfl (by rw [i64_id (x := 8 * (i : Int)) (by omega) (by omega), i64_id (by omega) (by omega)]; omega)) ?_
    refine OWp.evs 1 rfl ?_
    refine OWp.g rfl rfl (Gives.indexAddrArr (i) rfl rfl rfl rfl rfl rfl (by omega)) ?_
    refine OWp.step rfl (Step.storeAs 0 (byteCells ((List.range (i + 1)).map (fun j => UInt8.ofNat (n / 2 ^ (56 - 8 * j))) ++ List.replicate (8 - (i + 1)) 0)) rfl rfl rfl rfl rfl (by assumption) rfl (Unfz.zero _) rfl (by rw [byteCells_length]; simp only [List.length_append, List.length_map, List.length_range, List.length_replicate]; show 0 + i * 1 + 1 ≤ _; omega) (by rw [eight_step n i hlt]; exact row_set (fun j => UInt8.ofNat (n / 2 ^ (56 - 8 * j))) hlt (by show 0 + i * 1 = i; omega)) rfl ?_)
    refine OWp.nil ?_
    refine Wp.region ?_
    refine OWp.evs 2 rfl ?_
    refine OWp.nil ?_
    refine ⟨i + 1, by omega, by omega, ?_, .refl _⟩
    exact .cons' rfl (int_eq (i64_inc (by omega))) (.cons rfl (.cons rfl (.nil _)))
  have h1 := of_decide_eq_false h1
  obtain rfl : i = 8 := by omega
  refine Wp.exit ?_
  refine Wp.seq (Wp.region ?_)
  refine OWp.g rfl rfl (Gives.sliceArr (l := 0) (h' := 8) rfl rfl rfl rfl rfl rfl (by omega) (by omega) (by omega)) ?_
  refine OWp.gives rfl rfl (Gives.bytesToStr (F := (L, cel (byteCells (tail8 n)) 170) :: S) (l := tail8 n) (k := 8) rfl rfl rfl rfl rfl (Reads.row (k := 8) (sz := 1) (cap := 8) (b := L) (l := byteCells (tail8 n)) (e := 170) (fz := (0, 0)) (.head _) (by rw [byteCells_length]; simp [tail8]))) (fun _ h => h) ?_
  refine OWp.evs 1 rfl ?_
  refine OWp.nil ?_
  refine Wp.drop (S' := S) (by repeat (first | exact List.Sublist.refl _ | exact List.sublist_append_right _ _ | apply List.Sublist.cons)) ?_
  refine Wp.ret ⟨trivial, _, ⟨_, _, rfl, rfl, rfl⟩, ?_⟩
  exact h
end
end Go.Proofs.D
