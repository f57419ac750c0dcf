/- What functions of the given program do, one after the other, told by that layer. -/
import Derived.Test.YtfimmdafjalonaaDoorBStm3
namespace Go.Proofs.D
open Go.Lg Go.Sha
set_option maxRecDepth 100000

/-- Byte i of a block. -/
def sb (s : List Nat) (i : Nat) : UInt8 := UInt8.ofNat (add (s.getD (i / 4) 0) ((turned 10 s).getD (i / 4) 0) / 2 ^ (i % 4 * 8))
theorem turned_good : ∀ (n : Nat) {s : List Nat}, Good s → Good (turned n s)
  | 0, _, h => h
  | n + 1, s, h => turned_good n (s := twice s) (by rw [← half_two]; exact half_good h 2)
theorem lebytes_get (x : Nat) {k : Nat} (h : k < 4) : (lebytes x)[k]? = some (UInt8.ofNat (x / 2 ^ (k * 8))) := by
  match k, h with
  | 0, _ => simp [lebytes]
  | 1, _ => rfl
  | 2, _ => rfl
  | 3, _ => rfl
theorem flat_get : ∀ (l : List Nat) (i : Nat), i < 4 * l.length → (l.flatMap lebytes)[i]? = some (UInt8.ofNat (l.getD (i / 4) 0 / 2 ^ (i % 4 * 8)))
  | [], i, h => by simp at h
  | x :: l, i, h => by
    have hl : (lebytes x).length = 4 := rfl
    rw [List.flatMap_cons]
    by_cases hi : i < 4
    · rw [List.getElem?_append_left (by rw [hl]; exact hi), lebytes_get x hi, Nat.div_eq_of_lt hi, Nat.mod_eq_of_lt hi]; rfl
    · obtain ⟨j, rfl⟩ : ∃ j, i = j + 4 := ⟨i - 4, by omega⟩
      rw [List.getElem?_append_right (by rw [hl]; omega), hl, Nat.add_sub_cancel, flat_get l j (by simp only [List.length_cons] at h; omega), Nat.add_div_right _ (by decide), Nat.add_mod_right]
      rfl
theorem sblock_range {s : List Nat} (hs : Good s) : sblock s = (List.range 64).map (sb s) := by
  have ht := turned_good 10 hs
  apply List.ext_getElem?
  intro i
  have hz : (List.zipWith add s (turned 10 s)).length = 16 := by simp [hs.1, ht.1]
  by_cases hi : i < 64
  · unfold sblock
    rw [flat_get _ i (by rw [hz]; omega)]
    have e : (List.zipWith add s (turned 10 s)).getD (i / 4) 0 = add (s.getD (i / 4) 0) ((turned 10 s).getD (i / 4) 0) := by
      have h1 : i / 4 < s.length := by rw [hs.1]; omega
      have h2 : i / 4 < (turned 10 s).length := by rw [ht.1]; omega
      simp [List.getD_eq_getElem?_getD, List.getElem?_zipWith, h1, h2]
    rw [e]
    simp [sb, hi]
  · rw [List.getElem?_eq_none (by rw [sblock_len hs.1]; omega), List.getElem?_eq_none (by simp; omega)]

section
variable {B : Nat} {S R : Ents} {Q : Value → Ents → Prop}

theorem sbytes_step (s : List Nat) (i : Nat) (z : Int) (hz : z = ((add (s.getD (i / 4) 0) ((turned 10 s).getD (i / 4) 0) : Nat) : Int)) : IntKind.u8.wrap (z.fdiv (2 ^ (min (i % 4 * 8) IntKind.u32.bits))) = ((sb s i).toNat : Int) := by
  subst hz
  have hm := Nat.mod_lt i (show 4 > 0 by decide)
  have e : min (i % 4 * 8) IntKind.u32.bits = i % 4 * 8 := by show min _ 32 = _; omega
  unfold sb
  rw [e, Int.fdiv_eq_ediv_of_nonneg _ (by exact Int.le_of_lt (Int.pow_pos (by decide))), IntKind.wrap_u8, UInt8.toNat_ofNat']
  generalize add _ _ = y
  have : (y : Int) / 2 ^ (i % 4 * 8) = ((y / 2 ^ (i % 4 * 8) : Nat) : Int) := by simp
  rw [this]
  omega

theorem bytes_agg {x : List UInt8} (hx : x.length = 64) : Lg.partAt Tryd.prog 145 (byteCells x) 0 = some (.agg (byteCells x).toArray) :=
  partAt_agg (n := 64) (r := byteCells x) (by rw [List.drop_zero, List.take_of_length_le (by rw [byteCells_length, hx]; exact Nat.le_refl _)]) rfl rfl (by rw [byteCells_length]; exact hx)

set_option maxHeartbeats 1000000 in
theorem sbytesC {s : List Nat} (hs : Good s) (H : Q (.agg (byteCells (sblock s)).toArray) S) :
    CallWp Tryd.prog B 117 #[.agg (u32s s).toArray] Q S := by
  refine CallWp.dropRet ?_
  refine CallWp.enter (args := [_]) Tryd.func117 rfl Tryd.ntmps117 rfl ?_
  refine Wp.seq (Wp.region ?_)
  refine OWp.step rfl (Step.box rfl rfl rfl ?_); intro L1 hBL1 hLL1
  refine OWp.step rfl (Step.alloc rfl rfl rfl ?_); intro L2 hBL2 hLL2
  refine OWp.nil ?_
  refine Wp.seq (Wp.region ?_)
  refine OWp.load (.tail _ (.head _)) rfl rfl rfl rfl (u32s_agg hs.1) ?_
  refine OWp.step rfl (Step.call rfl rfl rfl rfl rfl rfl ((turnedC hs ?_)))
  obtain ⟨t, ht⟩ : ∃ t, t = turned 10 s := ⟨_, rfl⟩
  have htg : Good t := ht ▸ turned_good 10 hs
  rw [← ht]
  refine OWp.step rfl (Step.alloc rfl rfl rfl ?_); intro L3 hBL3 hLL3
  refine OWp.step rfl (Step.storeAs 0 (u32s t) rfl rfl rfl rfl rfl hBL3 (by show some 16 = some (u32s t).length; rw [u32s_length, htg.1]) (Unfz.zero _) (u32s_one t) (by show 0 + (u32s t).length ≤ 16; rw [u32s_length, htg.1]; decide) (wr_all (X := u32s t) (by rw [u32s_length, htg.1]; rfl)) rfl ?_)
  refine OWp.nil ?_
  refine Wp.seq (Wp.region ?_)
  refine OWp.step rfl (Step.alloc rfl rfl rfl ?_); intro L4 hBL4 hLL4
  refine OWp.nil ?_
  refine Wp.seq ?_
  refine Wp.seq (Wp.region ?_)
  refine OWp.evs 1 rfl ?_
  refine OWp.nil ?_
  refine Wp.block ?_
  refine Wp.loopS (α := Nat) (fun i => 64 - i) (fun i => [(1, pt L1), (2, pt L2), (3, pt L3), (4, pt L4), (8, .int .i64 (i : Int))]) (fun i => (L4, cel (byteCells ((List.range i).map (sb s) ++ List.replicate (64 - i) 0)) 145) :: (L3, cel (u32s t) 149) :: (L2, cel (byteCells (List.replicate 64 0)) 145) :: (L1, cel (u32s s) 149) :: S) (fun i => i ≤ 64) 0 ?_ (.refl _) (Nat.zero_le _) ?_
  · exact .cons rfl (.cons rfl (.cons rfl (.cons rfl (.cons rfl (.nil _)))))
  intro i hi
  refine Wp.seq (Wp.region ?_)
  refine OWp.evs 1 rfl ?_
  refine OWp.nil ?_
  refine Wp.seq ?_
  refine Wp.cond rfl (fun h1 => ?_) (fun h1 => ?_)
  · have h1 := of_decide_eq_true h1
    have hi2 : i < 64 := by omega
    refine Wp.skip ?_
    refine Wp.seq ?_
    refine Wp.block ?_
    refine Wp.seq (Wp.region ?_)
    refine OWp.evs 2 rfl ?_
    refine OWp.nil ?_
    refine Wp.regionDraw [0, 1, 2, 3, 4, 5, 6, 7, 8, 9, 10, 11, 12, 13, 14, 15, 16] [16] rfl (by decide +kernel) ?_
    refine DWp.evs 3 rfl ?_
    refine DWp.g rfl rfl rfl rfl (Gives.indexAddrArr ((i / 4)) rfl rfl rfl rfl rfl (q4 (by omega)) (by omega)) ?_
    refine DWp.load (.tail _ (.tail _ (.tail _ (.head _)))) rfl rfl rfl rfl rfl rfl (u32s_part (by rw [hs.1]; omega)) ?_
    refine DWp.evs 2 rfl ?_
    refine DWp.g rfl rfl rfl rfl (Gives.indexAddrArr ((i / 4)) rfl rfl rfl rfl rfl (q4 (by omega)) (by omega)) ?_
    refine DWp.load (.tail _ (.head _)) rfl rfl rfl rfl rfl rfl (u32s_part (by rw [htg.1]; omega)) ?_
    refine DWp.evs 4 rfl ?_
    refine DWp.g rfl rfl rfl rfl (Gives.shr (m := i % 4 * 8) rfl rfl rfl (by show IntKind.i64.wrap ((i : Int) % 4 * 8) = _; rw [i64_id (by omega) (by omega)]; omega)) ?_
    refine DWp.evs 1 rfl ?_
    refine DWp.g rfl rfl rfl rfl (Gives.indexAddrArr (i) rfl rfl rfl rfl rfl rfl (by omega)) ?_
    refine DWp.stepAll rfl rfl rfl rfl (Step.storeAs 0 (byteCells ((List.range (i + 1)).map (sb s) ++ List.replicate (64 - (i + 1)) 0)) rfl rfl rfl rfl rfl hBL4 rfl (Unfz.zero _) rfl (by rw [byteCells_length]; simp only [List.length_append, List.length_map, List.length_range, List.length_replicate]; show 0 + i * 1 + 1 ≤ _; omega) (by rw [sbytes_step s i _ (by rw [u32_add, ← ht]; rfl)]; exact row_set (sb s) hi2 (by show 0 + i * 1 = i; omega)) rfl ?_)
    refine DWp.nil ?_
    refine Wp.region ?_
    refine OWp.evs 2 rfl ?_
    refine OWp.nil ?_
    exact ⟨i + 1, by omega, by omega, .cons rfl (.cons rfl (.cons rfl (.cons rfl (.cons' rfl (int_eq (i64_inc (by omega))) (.nil _))))), .refl _⟩
  have h1 := of_decide_eq_false h1
  obtain rfl : i = 64 := by omega
  rw [Nat.sub_self, List.replicate_zero, List.append_nil, ← sblock_range hs]
  obtain ⟨x, hx⟩ : ∃ x, x = sblock s := ⟨_, rfl⟩
  have hxl : x.length = 64 := by rw [hx]; exact sblock_len hs.1
  rw [← hx] at H ⊢
  refine Wp.exit ?_
  refine Wp.seq (Wp.region ?_)
  refine OWp.load (.head _) rfl rfl rfl rfl (bytes_agg hxl) ?_
  refine OWp.step rfl (Step.storeAs 2 (byteCells x) rfl rfl rfl rfl rfl hBL2 (by show some 64 = some (byteCells x).length; rw [byteCells_length, hxl]) (Unfz.zero _) (byteCells_one x) (by show 0 + (byteCells x).length ≤ _; rw [byteCells_length, byteCells_length, hxl, List.length_replicate]; decide) (wr_all (X := byteCells x) (by rw [byteCells_length, byteCells_length, hxl, List.length_replicate])) rfl ?_)
  have hp : Lg.partAt Tryd.prog 145 (byteCells x) 0 = some (.agg (byteCells x).toArray) := bytes_agg hxl
  refine OWp.nil ?_
  refine Wp.ret ⟨trivial, _, ⟨_, _, _, _, rfl, rfl, ⟨_, _, _, (by repeat (first | exact List.Mem.head _ | assumption | apply List.mem_cons_of_mem | apply List.mem_append_right)), (by first | assumption | rfl)⟩, rfl⟩, ?_⟩
  exact ⟨S, (by repeat (first | exact List.Sublist.refl _ | exact List.sublist_append_right _ _ | apply List.Sublist.cons)), H⟩
end
end Go.Proofs.D
