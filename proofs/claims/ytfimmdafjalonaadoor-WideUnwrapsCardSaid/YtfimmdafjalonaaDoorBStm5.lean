/- What functions of the given program do, one after the other, told by that layer. -/
import Derived.Test.YtfimmdafjalonaaDoorBStm4
namespace Go.Proofs.D
open Go.Lg Go.Sha
set_option maxRecDepth 100000

theorem blocks_get (key nonce : List UInt8) : ∀ (m c i : Nat), i < 64 * m → (blocks key nonce m c)[i]? = (cblock key nonce ((c + i / 64) % 4294967296))[i % 64]?
  | 0, _, i, h => by omega
  | m + 1, c, i, h => by
    have hl := cblock_len key nonce (c % 4294967296)
    rw [blocks]
    by_cases hi : i < 64
    · rw [List.getElem?_append_left (by rw [hl]; exact hi), Nat.div_eq_of_lt hi, Nat.mod_eq_of_lt hi, Nat.add_zero]
    · obtain ⟨j, rfl⟩ : ∃ j, i = j + 64 := ⟨i - 64, by omega⟩
      rw [List.getElem?_append_right (by rw [hl]; omega), hl, Nat.add_sub_cancel, blocks_get key nonce m (c + 1) j (by omega), Nat.add_div_right _ (by decide), Nat.add_mod_right, Nat.add_assoc, Nat.add_comm 1]
def xb (key nonce : List UInt8) (c : Nat) (text : List UInt8) (i : Nat) : UInt8 := text.getD i 0 ^^^ (cblock key nonce ((c + i / 64) % 4294967296)).getD (i % 64) 0
theorem xors_range (key nonce : List UInt8) (c : Nat) (text : List UInt8) : xors text (stream key nonce c text.length) = (List.range text.length).map (xb key nonce c text) := by
  apply List.ext_getElem?
  intro i
  have hl := stream_len key nonce c text.length
  by_cases hi : i < text.length
  · have hs : (stream key nonce c text.length)[i]? = (cblock key nonce ((c + i / 64) % 4294967296))[i % 64]? := by
      unfold stream
      rw [List.getElem?_take_of_lt hi, blocks_get key nonce _ c i (by omega)]
    have hc : i % 64 < (cblock key nonce ((c + i / 64) % 4294967296)).length := by rw [cblock_len]; omega
    rw [List.getElem?_eq_getElem hc] at hs
    unfold xors
    rw [List.getElem?_zipWith, hs, List.getElem?_eq_getElem hi]
    simp [xb, hi, hc]
  · rw [List.getElem?_eq_none (by simp [xors, hl]; omega), List.getElem?_eq_none (by simp; omega)]

theorem zeros_bytes : ∀ n : Nat, zeros [Value.int .u8 0] n = byteCells (List.replicate n 0)
  | 0 => rfl
  | n + 1 => by
    rw [zeros, zeros_bytes n, List.replicate_succ]; rfl
theorem start_count (key nonce : List UInt8) (c : Nat) : (Go.Sha.start key nonce c).getD 12 0 = c := by
  have h : (c4 ++ lewords 8 key).length = 12 := by simp [c4, lewords_len]
  have e : Go.Sha.start key nonce c = (c4 ++ lewords 8 key) ++ c :: lewords 3 nonce := by simp [Go.Sha.start, c4]
  rw [e, List.getD_eq_getElem?_getD, List.getElem?_append_right (by rw [h]; decide), h]
  rfl
theorem start_turn (key nonce : List UInt8) (c d : Nat) : (Go.Sha.start key nonce c).set 12 d = Go.Sha.start key nonce d := by
  have h : (c4 ++ lewords 8 key).length = 12 := by simp [c4, lewords_len]
  have e : ∀ c, Go.Sha.start key nonce c = (c4 ++ lewords 8 key) ++ c :: lewords 3 nonce := fun c => by simp [Go.Sha.start, c4]
  rw [e c, e d, set_mid h.symm]

theorem sblock_start (key nonce : List UInt8) (c : Nat) : sblock (Go.Sha.start key nonce c) = cblock key nonce c := rfl
theorem blk_get {b : List UInt8} {i o : Nat} (hb : b.length = 64) (hi : i < 64) (ho : o = i) : (byteCells b)[o]? = some (Value.int .u8 ((b.getD i 0).toNat : Int)) := by
  subst ho
  simp [byteCells, hb, hi]
attribute [local irreducible] Go.Sha.start cblock
section
variable {B : Nat} {S R : Ents} {Q : Value → Ents → Prop}

theorem wrongC {key nonce : List UInt8} {c : Nat} (hk : key.length = 32) (hn : nonce.length = 12) (hc : c < 4294967296) (H : Q (.int .i64 0) S) :
    CallWp Tryd.prog B 93 #[.string (str key), .string (str nonce), .int .i64 (c : Int)] Q S := by
  refine CallWp.enter (args := [_, _, _]) Tryd.func93 rfl Tryd.ntmps93 rfl ?_
  refine Wp.seq (Wp.region ?_)
  refine OWp.evs 1 rfl ?_
  refine OWp.nil ?_
  refine Wp.seq ?_
  refine Wp.block ?_
  refine Wp.seq (Wp.region ?_)
  refine OWp.evs 4 rfl ?_
  refine OWp.part 11 rfl (fun cc1 => absurd (ndT cc1) (by omega)) (fun cc1 => ?_)
  have cc1 := ndF cc1
  refine OWp.evs 5 rfl ?_
  refine OWp.nil ?_
  refine Wp.cond rfl (fun cc2 => absurd (ndT cc2) (by omega)) (fun cc2 => ?_)
  have cc2 := ndF cc2
  refine Wp.seq (Wp.region ?_)
  refine OWp.evs 3 rfl ?_
  refine OWp.part 19 rfl (fun cc3 => absurd (of_decide_eq_true cc3) (by omega)) (fun cc3 => ?_)
  have cc3 := of_decide_eq_false cc3
  refine OWp.evs 4 rfl ?_
  refine OWp.nil ?_
  refine Wp.cond rfl (fun cc4 => absurd (of_decide_eq_true cc4) (by omega)) (fun cc4 => ?_)
  have cc4 := of_decide_eq_false cc4
  refine Wp.skip ?_
  refine Wp.seq (Wp.region ?_)
  refine OWp.evs 1 rfl ?_
  refine OWp.nil ?_
  refine Wp.ret ⟨trivial, _, ⟨_, _, rfl, rfl, rfl⟩, ?_⟩
  exact H
theorem sbeginEqC {key nonce : List UInt8} {c : Nat} {z : Int} (hz : z = (c : Int)) (hk : key.length = 32) (hn : nonce.length = 12) (hc : c < 4294967296) (H : Q (.agg (u32s (Go.Sha.start key nonce c)).toArray) S) :
    CallWp Tryd.prog B 116 #[.string (str key), .string (str nonce), .int .u32 z] Q S := by
  subst hz; exact sbeginC hk hn hc H

theorem u32_one (a : Nat) : IntKind.u32.wrap ((a : Int) + 1) = (((a + 1) % 4294967296 : Nat) : Int) := by rw [IntKind.wrap_u32]; omega

set_option maxHeartbeats 1000000 in
theorem xorC {key nonce text : List UInt8} {c : Nat} (hk : key.length = 32) (hn : nonce.length = 12) (hc : c < 4294967296) (ht : text.length ≤ 65536) (H : Q (.tuple #[.string (str (xors text (stream key nonce c text.length))), .int .i64 0]) S) :
    CallWp Tryd.prog B 94 #[.string (str key), .string (str nonce), .int .i64 (c : Int), .string (str text)] Q S := by
  obtain ⟨n, hn2⟩ : ∃ n, n = text.length := ⟨_, rfl⟩
  rw [xors_range] at H
  rw [← hn2] at ht H
  refine CallWp.dropRet ?_
  refine CallWp.enter (args := [_, _, _, _]) Tryd.func94 rfl Tryd.ntmps94 rfl ?_
  refine Wp.seq (Wp.region ?_)
  refine OWp.evs 2 rfl ?_
  refine OWp.nil ?_
  refine Wp.seq ?_
  refine Wp.seq (Wp.region ?_)
  refine OWp.evs 3 rfl ?_
  refine OWp.step rfl (Step.call rfl rfl rfl rfl rfl rfl ((wrongC hk hn hc ?_)))
  refine OWp.evs 1 rfl ?_
  refine OWp.nil ?_
  refine Wp.seq (Wp.region ?_)
  refine OWp.evs 2 rfl ?_
  refine OWp.nil ?_
  refine Wp.cond rfl (fun cc1 => absurd (ndT cc1) (by omega)) (fun cc1 => ?_)
  have cc1 := ndF cc1
  refine Wp.skip ?_
  refine Wp.seq ?_
  refine Wp.seq (Wp.region ?_)
  refine OWp.evs 3 rfl ?_
  refine OWp.nil ?_
  refine Wp.cond rfl (fun cc2 => absurd (of_decide_eq_true cc2) (by omega)) (fun cc2 => ?_)
  have cc2 := of_decide_eq_false cc2
  refine Wp.skip ?_
  refine Wp.seq (Wp.region ?_)
  refine OWp.evs 4 rfl ?_
  refine OWp.step rfl (Step.call rfl rfl rfl rfl rfl rfl ((sbeginEqC (c := c) (by rw [IntKind.wrap_u32]; omega) hk hn hc ?_)))
  refine OWp.step rfl (Step.alloc rfl rfl rfl ?_); intro L1 hBL1 hLL1
  refine OWp.step rfl (Step.storeAs 0 (u32s (Go.Sha.start key nonce c)) rfl rfl rfl rfl rfl hBL1 (by show some 16 = some (u32s _).length; rw [u32s_length, start_len]) (Unfz.zero _) (u32s_one _) (by show 0 + (u32s (Go.Sha.start key nonce c)).length ≤ 16; rw [u32s_length, start_len]; decide) (wr_all (X := u32s (Go.Sha.start key nonce c)) (by rw [u32s_length, start_len]; rfl)) rfl ?_)
  refine OWp.nil ?_
  refine Wp.seq (Wp.region ?_)
  refine OWp.step rfl (Step.alloc rfl rfl rfl ?_); intro L2 hBL2 hLL2
  refine OWp.nil ?_
  refine Wp.seq (Wp.region ?_)
  refine OWp.evs 2 rfl ?_
  refine OWp.step rfl (Step.makeSlice (len := n) (cap := n) rfl rfl rfl rfl rfl rfl (by decide) (by rw [hn2]; rfl) (by rw [hn2]; rfl) (Nat.le_refl _) (by show 1 * n ≤ _; omega) (by omega) ?_)
  intro L3 hBL3 hLL3
  rw [show zeros (cellsOf (Value.int .u8 0)) n = byteCells (List.replicate n 0) from zeros_bytes n]
  refine OWp.evs 1 rfl ?_
  refine OWp.nil ?_
  refine Wp.seq ?_
  refine Wp.seq (Wp.region ?_)
  refine OWp.evs 3 rfl ?_
  refine OWp.nil ?_
  refine Wp.block ?_
  refine Wp.loopS (α := Nat) (fun i => n - i) (fun i => [(3, .string (str text)), (11, pt L1), (12, pt L2), (13, .slice (some ⟨L3, 0, none⟩) n n), (35, .int .i64 (n : Int)), (36, .int .i64 (i : Int))]) (fun i => (L3, cel (byteCells ((List.range i).map (xb key nonce c text) ++ List.replicate (n - i) 0)) 5) :: (L2, cel (byteCells (if i = 0 then List.replicate 64 0 else cblock key nonce ((c + (i - 1) / 64) % 4294967296))) 145) :: (L1, cel (u32s (Go.Sha.start key nonce ((c + (i + 63) / 64) % 4294967296))) 149) :: S) (fun i => i ≤ n) 0 ?_ (by rw [if_pos rfl, show (c + (0 + 63) / 64) % 4294967296 = c by omega]; exact .refl _) (Nat.zero_le _) ?_
  · exact .cons rfl (.cons rfl (.cons rfl (.cons rfl (.cons rfl (.cons rfl (.nil _))))))
  intro i hi
  refine Wp.seq (Wp.region ?_)
  refine OWp.evs 1 rfl ?_
  refine OWp.nil ?_
  refine Wp.seq ?_
  refine Wp.cond rfl (fun h1 => ?_) (fun h1 => ?_)
  · have h1 := of_decide_eq_true h1
    have hi2 : i < n := by omega
    obtain ⟨ct, hct⟩ : ∃ ct, ct = (c + i / 64) % 4294967296 := ⟨_, rfl⟩
    refine Wp.skip ?_
    refine Wp.seq ?_
    refine Wp.block ?_
    refine Wp.seq (Wp.region ?_)
    refine OWp.evs 2 rfl ?_
    refine OWp.nil ?_
    refine Wp.seq (Wp.region ?_)
    refine OWp.evs 3 rfl ?_
    refine OWp.nil ?_
    refine Wp.seqS (α := Unit) (fun _ => [(3, .string (str text)), (11, pt L1), (12, pt L2), (13, .slice (some ⟨L3, 0, none⟩) n n), (35, .int .i64 (n : Int)), (36, .int .i64 (i : Int)), (14, .int .i64 (i : Int)), (15, .int .i64 ((i % 64 : Nat) : Int))]) (fun _ => (L3, cel (byteCells ((List.range i).map (xb key nonce c text) ++ List.replicate (n - i) 0)) 5) :: (L2, cel (byteCells (cblock key nonce ct)) 145) :: (L1, cel (u32s (Go.Sha.start key nonce ((c + i / 64 + 1) % 4294967296))) 149) :: S) (fun _ => True) ?_ ?_
    · skip
      refine Wp.seq (Wp.region ?_)
      refine OWp.evs 2 rfl ?_
      refine OWp.nil ?_
      refine Wp.cond rfl (fun k1 => ?_) (fun k1 => ?_)
      · have k1 := of_decide_eq_true k1
        have k2 : i % 64 = 0 := by
          have k3 : ((i % 64 : Nat) : Int) = 0 := k1
          omega
        have hcount : (c + (i + 63) / 64) % 4294967296 = ct := by rw [hct, show (i + 63) / 64 = i / 64 by omega]
        have hcl : ct < 4294967296 := hct ▸ Nat.mod_lt _ (by decide)
        have hbl : (if i = 0 then List.replicate 64 0 else cblock key nonce ((c + (i - 1) / 64) % 4294967296)).length = 64 := by split <;> simp [cblock_len]
        rw [hcount]
        generalize (if i = 0 then List.replicate 64 0 else cblock key nonce ((c + (i - 1) / 64) % 4294967296)) = ob at *
        refine Wp.seq (Wp.region ?_)
        refine OWp.load (.tail _ (.tail _ (.head _))) rfl rfl rfl rfl (u32s_agg (start_len _ _ _)) ?_
        refine OWp.step rfl (Step.call rfl rfl rfl rfl rfl rfl ((sbytesC (start_good key nonce hcl) ?_)))
        rw [sblock_start]
        refine OWp.step rfl (Step.storeAs 1 (byteCells (cblock key nonce ct)) rfl rfl rfl rfl rfl hBL2 (by show some 64 = some (byteCells _).length; rw [byteCells_length, cblock_len]) (Unfz.zero _) (byteCells_one _) (by show 0 + (byteCells (cblock key nonce ct)).length ≤ _; rw [byteCells_length, byteCells_length, cblock_len, hbl]; decide) (wr_all (X := byteCells (cblock key nonce ct)) (by rw [byteCells_length, byteCells_length, cblock_len, hbl])) rfl ?_)
        refine OWp.nil ?_
        refine Wp.region ?_
        refine OWp.g rfl rfl (Gives.indexAddrArr (12) rfl rfl rfl rfl rfl rfl (by omega)) ?_
        refine OWp.load (.tail _ (.tail _ (.head _))) rfl rfl rfl rfl (u32s_part (by rw [start_len]; decide)) ?_
        refine OWp.evs 1 rfl ?_
        refine OWp.g rfl rfl (Gives.indexAddrArr (12) rfl rfl rfl rfl rfl rfl (by omega)) ?_
        refine OWp.step rfl (Step.storeAs 2 (u32s (Go.Sha.start key nonce ((c + i / 64 + 1) % 4294967296))) rfl rfl rfl rfl rfl hBL1 rfl (Unfz.zero _) rfl (by rw [u32s_length, start_len]; show 0 + 12 * 1 + 1 ≤ 16; decide) (by rw [start_count, u32_one]; exact (u32s_set (i := 12) (by rw [start_len]; decide) rfl).trans (by rw [start_turn, show (c + i / 64 + 1) % 4294967296 = (ct + 1) % 4294967296 by omega])) rfl ?_)
        refine OWp.nil ?_
        exact ⟨(), trivial, .cons rfl (.cons rfl (.cons rfl (.cons rfl (.cons rfl (.cons rfl (.cons rfl (.cons' rfl rfl (.nil _)))))))), .refl _⟩
      have k1 := of_decide_eq_false k1
      have k2 : ¬ i % 64 = 0 := fun k3 => k1 (show ((i % 64 : Nat) : Int) = 0 by omega)
      refine Wp.skip ?_
      refine ⟨(), trivial, .cons rfl (.cons rfl (.cons rfl (.cons rfl (.cons rfl (.cons rfl (.cons rfl (.cons' rfl rfl (.nil _)))))))), ?_⟩
      rw [if_neg (by omega), show (i - 1) / 64 = i / 64 by omega, show (c + (i + 63) / 64) = c + i / 64 + 1 by omega, ← hct]
    rintro ⟨⟩ -
    refine Wp.regionDraw [0, 1, 2, 3, 4, 5, 6, 7, 8, 9, 10] [10] rfl (by decide +kernel) ?_
    refine DWp.evs 4 rfl ?_
    refine DWp.g rfl rfl rfl rfl (Gives.indexStr (b := (text.getD i 0)) rfl rfl rfl rfl (by omega) (by show text[i]? = _; rw [List.getElem?_eq_getElem (by omega)]; simp [List.getD_eq_getElem?_getD, show i < text.length by omega])) ?_
    refine DWp.evs 1 rfl ?_
    refine DWp.g rfl rfl rfl rfl (Gives.indexAddrArr ((i % 64)) rfl rfl rfl rfl rfl rfl (by omega)) ?_
    refine DWp.load (.tail _ (.head _)) rfl rfl rfl rfl rfl rfl (blk_get (cblock_len key nonce ct) (Nat.mod_lt _ (by decide)) (by show 0 + i % 64 * 1 = i % 64; omega)) ?_
    refine DWp.evs 1 rfl ?_
    refine DWp.g rfl rfl rfl rfl (Gives.indexAddrSlice (i) rfl rfl rfl rfl rfl rfl (by omega)) ?_
    refine DWp.stepAll rfl rfl rfl rfl (Step.storeAs 0 (byteCells ((List.range (i + 1)).map (xb key nonce c text) ++ List.replicate (n - (i + 1)) 0)) rfl rfl rfl rfl rfl hBL3 rfl (Unfz.zero _) rfl (by rw [byteCells_length]; simp only [List.length_append, List.length_map, List.length_range, List.length_replicate]; show 0 + i * 1 + 1 ≤ _; omega) (by rw [xor8, hct]; exact row_set (xb key nonce c text) hi2 (by show 0 + i * 1 = i; omega)) rfl ?_)
    refine DWp.nil ?_
    refine Wp.region ?_
    refine OWp.evs 2 rfl ?_
    refine OWp.nil ?_
    refine ⟨i + 1, by omega, by omega, .cons rfl (.cons rfl (.cons rfl (.cons rfl (.cons rfl (.cons' rfl (int_eq (i64_inc (by omega))) (.nil _)))))), ?_⟩
    rw [if_neg (by omega), Nat.add_sub_cancel, ← hct, show c + (i + 1 + 63) / 64 = c + i / 64 + 1 by omega]
  have h1 := of_decide_eq_false h1
  obtain rfl : i = n := by omega
  rw [Nat.sub_self, List.replicate_zero, List.append_nil]
  obtain ⟨z, hz⟩ : ∃ z, z = (List.range i).map (xb key nonce c text) := ⟨_, rfl⟩
  have hzl : z.length = i := by rw [hz]; simp
  rw [← hz] at H ⊢
  refine Wp.drop (S' := (L3, cel (byteCells z) 5) :: S) (List.Sublist.cons_cons _ (List.Sublist.cons _ (List.Sublist.cons _ (List.Sublist.refl _)))) ?_
  refine Wp.exit ?_
  refine Wp.seq (Wp.region ?_)
  refine OWp.evs 1 rfl ?_
  refine OWp.gives rfl rfl (Gives.bytesToStr (F := (L3, cel (byteCells z) 5) :: S) (l := z) (k := i) rfl rfl rfl rfl rfl (by have := Reads.row (S := (L3, cel (byteCells z) 5) :: S) (sz := 1) (k := i) (cap := i) (.head _) (by rw [byteCells_length, hzl]; omega); rw [List.take_of_length_le (by rw [byteCells_length, hzl]; omega)] at this; exact this)) (fun _ h => h) ?_
  refine OWp.evs 2 rfl ?_
  refine OWp.nil ?_
  refine Wp.ret ⟨trivial, _, ⟨_, _, rfl, rfl, _, _, rfl, rfl, rfl⟩, ?_⟩
  exact ⟨S, (by repeat (first | exact List.Sublist.refl _ | exact List.sublist_append_right _ _ | apply List.Sublist.cons)), H⟩
end
end Go.Proofs.D
