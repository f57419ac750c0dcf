/- What functions of the given program do, one after the other, told by that layer. -/
import Derived.Test.YtnjgekonoladfaaWWheelI
namespace Go.Proofs.E
open Go.Lg Go.Whl
set_option maxRecDepth 100000

def dueOf (m : Nat) (x : Int) : Nat := (IntKind.u64.wrap x).toNat % m + 1
theorem u64_pos (x : Int) : 0 ≤ IntKind.u64.wrap x := by rw [IntKind.wrap_u64]; omega
theorem tmod_eq {m : Nat} {x : Int} (hm : 0 < m) (hm2 : m ≤ 1073741824) : IntKind.i64.wrap ((IntKind.u64.wrap x).tmod (m : Int)) = (((IntKind.u64.wrap x).toNat % m : Nat) : Int) := by
  have h := u64_pos x
  obtain ⟨n, hn⟩ := Int.eq_ofNat_of_zero_le h
  rw [hn]
  have h2 : n % m < m := Nat.mod_lt _ hm
  have h3 : ((n : Int)).tmod (m : Int) = ((n % m : Nat) : Int) := by
    rw [Int.tmod_eq_emod_of_nonneg (by omega)]; simp
  rw [h3, i64_id (by omega) (by omega)]
  simp
theorem dueOf_eq {m : Nat} {mi x : Int} (hmi : mi = (m : Int)) (hm : 0 < m) (hm2 : m ≤ 1073741824) : IntKind.i64.wrap (1 + IntKind.i64.wrap ((IntKind.u64.wrap x).tmod mi)) = ((dueOf m x : Nat) : Int) := by
  subst hmi
  rw [tmod_eq hm hm2]
  have h2 : (IntKind.u64.wrap x).toNat % m < m := Nat.mod_lt _ hm
  unfold dueOf
  rw [i64_id (by omega) (by omega)]
  omega
theorem dueOf_pos (m : Nat) (x : Int) : 0 < dueOf m x := Nat.succ_pos _
theorem dueOf_le {m : Nat} {x : Int} (hm : 0 < m) : dueOf m x ≤ m := Nat.mod_lt _ hm
theorem rdInts {S : Ents} {a : Option Addr} {len cap : Nat} (h2 : Rd Try.prog S 22 [.slice a len cap]) : ∃ zs : List Int, Reads S 1 (.slice a len cap) zs.length (zi zs) ∧ zs.length = len ∧ zs.length ≤ 35184372088832 := by
  obtain ⟨zs, hz, hw, _, _⟩ := h2.rows (f := fun z : Int => [.int .i64 z]) (p := fun z => (Lit.int .i64 z).wf = true) Try.underlying22 (sz := 1) rfl (fun r hr => by
    obtain ⟨n, rfl, hn⟩ := hr.open_int Try.underlying3
    exact ⟨n, rfl, hn⟩)
  rw [zi_flat] at hz
  have : zs.length * 8 ≤ reachBytes := hw
  unfold reachBytes at this
  have e := hz.len
  exact ⟨zs, hz, e.symm, by omega⟩
theorem zi_at {S : Ents} {v : Value} {zs : List Int} (hz : Reads S 1 v zs.length (zi zs)) (h0 : 0 < zs.length) :
    ∃ b o cap l e fz, v = .slice (some ⟨b, o, none⟩) zs.length cap ∧ (b, cel l e fz) ∈ S ∧ ∀ i (h : i < zs.length), l[o + i * 1]? = some (.int .i64 zs[i]) := by
  obtain ⟨b1, o1, c1, l1, t1, f1, hv1, hm1, _, hg1⟩ := hz.get1 h0
  exact ⟨b1, o1, c1, l1, t1, f1, hv1, hm1, fun i h => (hg1 i h).trans (zi_get (by simp))⟩
theorem told_none_len {M : List T} {to : Nat} (h : ∀ t ∈ M, to < t.due) : told M to = [] := told_none h
theorem left_late (M : List T) (to : Nat) : ∀ t ∈ left M to, to < t.due := fun t ht => by simpa using (List.mem_filter.1 ht).2
theorem mem_told {M : List T} {to : Nat} {x : Int} (h : x ∈ told M to) : ∃ t ∈ M, t.due ≤ to ∧ t.id = x := by
  unfold told at h
  obtain ⟨t, ht, hx⟩ := List.mem_map.1 h
  obtain ⟨h1, h2⟩ := List.mem_filter.1 ht
  exact ⟨t, mem_srt.1 h1, by simpa using h2, hx⟩
theorem told_some {M : List T} {to : Nat} {t : T} (ht : t ∈ M) (h : t.due ≤ to) : told M to ≠ [] := by
  unfold told
  intro e
  have := List.map_eq_nil_iff.1 e
  have h2 : t ∈ (srt M).filter fun t => decide (t.due ≤ to) := List.mem_filter.2 ⟨mem_srt.2 ht, by simpa using h⟩
  rw [this] at h2
  exact nomatch h2
/-- A list in order, cut at a time. -/
theorem cut_at {a b : Nat} (h : a ≤ b) : ∀ {l : List T}, Up l → l.filter (fun t => decide (t.due ≤ b)) = l.filter (fun t => decide (t.due ≤ a)) ++ (l.filter fun t => decide (a < t.due)).filter (fun t => decide (t.due ≤ b))
  | [], _ => rfl
  | u :: l, hu => by
    obtain ⟨h1, h2⟩ := List.pairwise_cons.1 hu
    have ih := cut_at h h2
    by_cases e : u.due ≤ a
    · rw [List.filter_cons_of_pos (by simp; omega), List.filter_cons_of_pos (by simp; omega), List.filter_cons_of_neg (by simp; omega), ih]
      rfl
    · have hgt : ∀ t ∈ u :: l, a < t.due := by
        intro t ht
        rcases List.mem_cons.1 ht with rfl | ht
        · omega
        · have := h1 t ht; omega
      have e1 : (u :: l).filter (fun t => decide (t.due ≤ a)) = [] := by
        rw [List.filter_eq_nil_iff]
        intro t ht
        have := hgt t ht
        simp; omega
      have e2 : (u :: l).filter (fun t => decide (a < t.due)) = u :: l := by
        rw [List.filter_eq_self]
        intro t ht
        have := hgt t ht
        simp; omega
      rw [e1, e2]; rfl
theorem told_on {M : List T} {a b : Nat} (h : a ≤ b) : told M b = told M a ++ told (left M a) b := by
  unfold told left
  rw [cut_at h (srt_up M), List.map_append, srt_filter]
theorem left_on {M : List T} {a b : Nat} (h : a ≤ b) : left (left M a) b = left M b := by
  unfold left
  rw [List.filter_filter]
  apply List.filter_congr
  intro t _
  by_cases h1 : b < t.due
  · have : a < t.due := by omega
    simp [h1, this]
  · simp [h1]
def strip (t : T) : T := ⟨t.due, t.id, 0⟩
theorem ins_strip (t : T) : ∀ l : List T, ins (strip t) (l.map strip) = (ins t l).map strip
  | [] => rfl
  | u :: l => by
    have ih := ins_strip t l
    rw [List.map_cons, ins_cons, ins_cons, ih]
    show (if u.due ≤ t.due then _ else _) = _
    split <;> rfl
theorem srt_strip (M : List T) : srt (M.map strip) = (srt M).map strip := by
  suffices h : ∀ (M l : List T), (M.map strip).foldl (fun l t => ins t l) (l.map strip) = (M.foldl (fun l t => ins t l) l).map strip from h M []
  intro M
  induction M with
  | nil => intro l; rfl
  | cons t M ih => intro l; rw [List.map_cons, List.foldl_cons, List.foldl_cons, ins_strip, ih]
theorem told_strip (M : List T) (to : Nat) : told (M.map strip) to = told M to := by
  unfold told
  rw [srt_strip, List.filter_map, List.map_map]
  rfl
theorem told_congr {M N : List T} (to : Nat) (h : M.map strip = N.map strip) : told M to = told N to := by
  rw [← told_strip, h, told_strip]
theorem sameEq {B : Nat} {S : Ents} {Q : Value → Ents → Prop} {a b : Value} {n m : Nat} {l : List Int} (hl : Reads S 1 a n (zi l)) (hk : Reads S 1 b m (zi l)) (hn : n ≤ 1099511627776) (h : Q (.bool true) S) :
    CallWp Try.prog B 13 #[a, b] Q S := sameInts hl hk hn (by rw [decide_eq_true rfl]; exact h)
end Go.Proofs.E
