/- What functions of the given program do, one after the other, told by that layer. -/
import Derived.Test.YtfimmdafjalonaaDoorBRef3
namespace Go.Proofs.D
open Go.Lg Go.Sha
set_option maxRecDepth 100000
theorem one_byte {L : Nat} {t : TypeId} {S : Ents} {a : Int} {x : UInt8} (ha : a = (x.toNat : Int)) : Reads ((L, cel [.int .u8 a] t) :: S) 1 (.slice (some ⟨L, 0, none⟩) 1 1) 1 (byteCells [x]) := by
  subst ha; exact Reads.row (k := 1) (sz := 1) (.head _) (Nat.le_of_ble_eq_true rfl)

section
variable {B : Nat} {S R : Ents} {Q : Value → Ents → Prop}

set_option maxHeartbeats 1000000 in
theorem rtagC {key text : List UInt8} (hk : key.length + 1000 ≤ big) (ht : text.length + 2000 ≤ big) (H : Q (.string (str (hmac key text))) S) :
    CallWp Tryd.prog B 64 #[.string (str key), .string (str text)] Q S := by
  have hb : big = 281474976710656 := rfl
  refine CallWp.dropRet ?_
  refine CallWp.enter (args := [_, _]) Tryd.func64 rfl Tryd.ntmps64 rfl ?_
  refine Wp.seq (Wp.region ?_)
  refine OWp.evs 1 rfl ?_
  refine OWp.nil ?_
  refine Wp.seqS (α := List UInt8) (fun x => [(0, .string (str x)), (1, .string (str text))]) (fun _ => S) (fun x => x = if 64 < key.length then sha key else key) ?_ ?_
  · skip
    refine Wp.seq (Wp.region ?_)
    refine OWp.evs 3 rfl ?_
    refine OWp.nil ?_
    refine Wp.cond rfl (fun h1 => ?_) (fun h1 => ?_)
    · have h1 := of_decide_eq_true h1
      refine Wp.region ?_
      refine OWp.evs 1 rfl ?_
      refine OWp.step rfl (Step.call rfl rfl rfl rfl rfl rfl ((rdigestC hk ?_)))
      refine OWp.evs 1 rfl ?_
      refine OWp.nil ?_
      exact ⟨_, rfl, .cons' rfl (by rw [if_pos (by omega)]) (.cons rfl (.nil _)), .refl _⟩
    have h1 := of_decide_eq_false h1
    refine Wp.skip ?_
    exact ⟨_, rfl, .cons' rfl (by rw [if_neg (by omega)]) (.cons rfl (.nil _)), .refl _⟩
  rintro x hx
  have hx64 : x.length ≤ 64 := by subst hx; split <;> first | omega | (rw [sha_len]; omega)
  have e54 : rowAt (padB x 54) (List.replicate 64 0) 64 = keyPad key 54 := by rw [rowAt_pad _ hx64, hx]; rfl
  have e92 : rowAt (padB x 92) (List.replicate 64 0) 64 = keyPad key 92 := by rw [rowAt_pad _ hx64, hx]; rfl
  refine Wp.seq (Wp.regionDraw [4, 4, 4, 4] [0, 1] rfl (by decide +kernel) ?_)
  refine DWp.fork (i := 0) (j := 1) (r1 := [2, 1, 3]) (r2 := [0, 2, 3]) (by decide +kernel) rfl rfl rfl rfl (by decide +kernel) (by decide +kernel) rfl rfl ?_ ?_
  · skip
    refine (Step.makeSlice (len := 64) (cap := 64) rfl rfl rfl rfl rfl rfl (by decide) rfl rfl (Nat.le_refl _) (by decide) (by decide) ?_)
    intro Li hBi _
    refine ⟨fun _ hy => .tail _ hy, ?_⟩
    refine DWp.evs 1 rfl ?_
    refine DWp.stepAll rfl rfl rfl rfl (Step.makeSlice (len := 64) (cap := 64) rfl rfl rfl rfl rfl rfl (by decide) rfl rfl (Nat.le_refl _) (by decide) (by decide) ?_)
    intro Lo hBo _
    refine DWp.evs 1 rfl ?_
    refine DWp.nil ?_
    refine Wp.permS (.swap _ _ _) ?_
    have ez : zeros (cellsOf (Value.int .u8 0)) 64 = byteCells (rowAt (padB x 54) (List.replicate 64 0) 0) := by rw [rowAt_zero]; exact zeros_u8 64
    have ez2 : zeros (cellsOf (Value.int .u8 0)) 64 = byteCells (rowAt (padB x 92) (List.replicate 64 0) 0) := by rw [rowAt_zero]; exact zeros_u8 64
    refine Wp.seq ?_
    refine Wp.seq (Wp.region ?_)
    refine OWp.evs 1 rfl ?_
    refine OWp.nil ?_
    refine Wp.block ?_
    refine Wp.loopS (α := Nat) (fun i => 64 - i) (fun i => [(0, .string (str x)), (1, .string (str text)), (5, .slice (some ⟨Li, 0, none⟩) 64 64), (6, .slice (some ⟨Lo, 0, none⟩) 64 64), (7, .int .i64 (i : Int))]) (fun i => (Li, cel (byteCells (rowAt (padB x 54) (List.replicate 64 0) i)) 5) :: (Lo, cel (byteCells (rowAt (padB x 92) (List.replicate 64 0) i)) 5) :: S) (fun i => i ≤ 64) 0 ?_ (by rw [← ez, ← ez2]) (Nat.zero_le _) ?_
    · exact .cons rfl (.cons rfl (.cons rfl (.cons rfl (.cons rfl (.nil _)))))
    intro i hi
    refine Wp.seq ?_
    refine Wp.seq (Wp.region ?_)
    refine OWp.evs 2 rfl ?_
    refine OWp.nil ?_
    refine Wp.cond rfl (fun k1 => ?_) (fun k1 => ?_)
    · have k1 := of_decide_eq_true k1
      have hi2 : i < 64 := by omega
      refine Wp.skip ?_
      refine Wp.seq ?_
      refine Wp.block ?_
      refine Wp.seq (Wp.region ?_)
      refine OWp.evs 1 rfl ?_
      refine OWp.nil ?_
      refine Wp.seqS (α := Unit) (fun _ => [(0, .string (str x)), (1, .string (str text)), (5, .slice (some ⟨Li, 0, none⟩) 64 64), (6, .slice (some ⟨Lo, 0, none⟩) 64 64), (7, .int .i64 (i : Int)), (8, .int .u8 ((x.getD i 0).toNat : Int))]) (fun _ => (Li, cel (byteCells (rowAt (padB x 54) (List.replicate 64 0) i)) 5) :: (Lo, cel (byteCells (rowAt (padB x 92) (List.replicate 64 0) i)) 5) :: S) (fun _ => True) ?_ ?_
      · skip
        refine Wp.seq (Wp.region ?_)
        refine OWp.evs 4 rfl ?_
        refine OWp.nil ?_
        refine Wp.cond rfl (fun k2 => ?_) (fun k2 => ?_)
        · have k2 := of_decide_eq_true k2
          refine Wp.region ?_
          refine OWp.evs 2 rfl ?_
          refine OWp.g rfl rfl (Gives.indexStr (b := (x.getD i 0)) rfl rfl rfl rfl (by omega) (getD_some (by omega))) ?_
          refine OWp.evs 1 rfl ?_
          refine OWp.nil ?_
          exact ⟨(), trivial, .cons rfl (.cons rfl (.cons rfl (.cons rfl (.cons rfl (.cons rfl (.nil _)))))), .refl _⟩
        have k2 := of_decide_eq_false k2
        have hz : x.getD i 0 = 0 := by rw [List.getD_eq_getElem?_getD, List.getElem?_eq_none (by omega)]; rfl
        refine Wp.skip ?_
        exact ⟨(), trivial, .cons rfl (.cons rfl (.cons rfl (.cons rfl (.cons rfl (.cons' rfl (int_eq (by rw [hz]; rfl)) (.nil _)))))), .refl _⟩
      rintro ⟨⟩ -
      refine Wp.seq (Wp.region ?_)
      refine OWp.evs 4 rfl ?_
      refine OWp.g rfl rfl (Gives.indexAddrSlice (i) rfl rfl rfl rfl rfl rfl (by omega)) ?_
      refine OWp.step rfl (Step.storeAs 0 (byteCells (rowAt (padB x 54) (List.replicate 64 0) (i + 1))) rfl rfl rfl rfl rfl hBi rfl (Unfz.zero _) rfl (by rw [byteCells_length, rowAt_len _ _ (by rw [List.length_replicate]; exact hi), List.length_replicate]; show 0 + i * 1 + 1 ≤ 64; omega) (rowB_set _ (by rw [List.length_replicate]; exact hi2) (xor8 _ 54) (by show 0 + i * 1 = i; omega)) rfl ?_)
      refine OWp.nil ?_
      refine Wp.region ?_
      refine OWp.evs 4 rfl ?_
      refine OWp.g rfl rfl (Gives.indexAddrSlice (i) rfl rfl rfl rfl rfl rfl (by omega)) ?_
      refine OWp.step rfl (Step.storeAs 1 (byteCells (rowAt (padB x 92) (List.replicate 64 0) (i + 1))) rfl rfl rfl rfl rfl hBo rfl (Unfz.zero _) rfl (by rw [byteCells_length, rowAt_len _ _ (by rw [List.length_replicate]; exact hi), List.length_replicate]; show 0 + i * 1 + 1 ≤ 64; omega) (rowB_set _ (by rw [List.length_replicate]; exact hi2) (xor8 _ 92) (by show 0 + i * 1 = i; omega)) rfl ?_)
      refine OWp.nil ?_
      refine Wp.region ?_
      refine OWp.evs 3 rfl ?_
      refine OWp.nil ?_
      exact ⟨i + 1, by omega, by omega, .cons rfl (.cons rfl (.cons rfl (.cons rfl (.cons' rfl (int_eq (i64_inc (by omega))) (.nil _))))), .refl _⟩
    have k1 := of_decide_eq_false k1
    obtain rfl : i = 64 := by omega
    rw [e54, e92]
    refine Wp.exit ?_
    refine Wp.seq (Wp.regionDraw [0, 1, 2, 3, 4, 5, 6, 7, 8, 9] [6, 8] rfl (by decide +kernel) ?_)
    refine DWp.evs 1 rfl ?_
    refine DWp.gives rfl rfl rfl rfl (Gives.bytesToStr (F := [(Lo, cel (byteCells (keyPad key 92)) 5)]) (l := keyPad key 92) (k := 64) rfl rfl rfl rfl rfl (bc_reads (keyPad_len _ _) (.head _))) (mem1 (.tail _ (.head _))) ?_
    refine DWp.evs 1 rfl ?_
    refine DWp.gives rfl rfl rfl rfl (Gives.bytesToStr (F := [(Li, cel (byteCells (keyPad key 54)) 5)]) (l := keyPad key 54) (k := 64) rfl rfl rfl rfl rfl (bc_reads (keyPad_len _ _) (.head _))) (mem1 (.head _)) ?_
    refine DWp.evs 1 rfl ?_
    refine DWp.g rfl rfl rfl rfl (Gives.addStr rfl rfl rfl (by rw [hb] at ht; rw [keyPad_len]; omega)) ?_
    refine DWp.stepGrow rfl rfl rfl (Step.call rfl rfl rfl rfl rfl rfl ((rdigestC (by rw [List.length_append, keyPad_len]; omega) ?_)))
    refine ⟨fun _ hy => hy, ?_⟩
    refine DWp.g rfl rfl rfl rfl (Gives.addStr rfl rfl rfl (by rw [sha_len, keyPad_len]; omega)) ?_
    refine DWp.stepGrow rfl rfl rfl (Step.call rfl rfl rfl rfl rfl rfl ((rdigestC (by rw [List.length_append, keyPad_len, sha_len, hb]; decide) ?_)))
    refine ⟨fun _ hy => hy, ?_⟩
    refine DWp.evs 1 rfl ?_
    refine DWp.nil ?_
    refine Wp.ret ⟨trivial, _, ⟨_, _, rfl, rfl, rfl⟩, ?_⟩
    exact ⟨S, (by repeat (first | exact List.Sublist.refl _ | exact List.sublist_append_right _ _ | apply List.Sublist.cons)), H⟩
  refine (Step.makeSlice (len := 64) (cap := 64) rfl rfl rfl rfl rfl rfl (by decide) rfl rfl (Nat.le_refl _) (by decide) (by decide) ?_)
  intro Lo hBo _
  refine ⟨fun _ hy => .tail _ hy, ?_⟩
  refine DWp.stepAll rfl rfl rfl rfl (Step.makeSlice (len := 64) (cap := 64) rfl rfl rfl rfl rfl rfl (by decide) rfl rfl (Nat.le_refl _) (by decide) (by decide) ?_)
  intro Li hBi _
  refine DWp.evs 2 rfl ?_
  refine DWp.nil ?_
  have ez : zeros (cellsOf (Value.int .u8 0)) 64 = byteCells (rowAt (padB x 54) (List.replicate 64 0) 0) := by rw [rowAt_zero]; exact zeros_u8 64
  have ez2 : zeros (cellsOf (Value.int .u8 0)) 64 = byteCells (rowAt (padB x 92) (List.replicate 64 0) 0) := by rw [rowAt_zero]; exact zeros_u8 64
  refine Wp.seq ?_
  refine Wp.seq (Wp.region ?_)
  refine OWp.evs 1 rfl ?_
  refine OWp.nil ?_
  refine Wp.block ?_
  refine Wp.loopS (α := Nat) (fun i => 64 - i) (fun i => [(0, .string (str x)), (1, .string (str text)), (5, .slice (some ⟨Li, 0, none⟩) 64 64), (6, .slice (some ⟨Lo, 0, none⟩) 64 64), (7, .int .i64 (i : Int))]) (fun i => (Li, cel (byteCells (rowAt (padB x 54) (List.replicate 64 0) i)) 5) :: (Lo, cel (byteCells (rowAt (padB x 92) (List.replicate 64 0) i)) 5) :: S) (fun i => i ≤ 64) 0 ?_ (by rw [← ez, ← ez2]) (Nat.zero_le _) ?_
  · exact .cons rfl (.cons rfl (.cons rfl (.cons rfl (.cons rfl (.nil _)))))
  intro i hi
  refine Wp.seq ?_
  refine Wp.seq (Wp.region ?_)
  refine OWp.evs 2 rfl ?_
  refine OWp.nil ?_
  refine Wp.cond rfl (fun k1 => ?_) (fun k1 => ?_)
  · have k1 := of_decide_eq_true k1
    have hi2 : i < 64 := by omega
    refine Wp.skip ?_
    refine Wp.seq ?_
    refine Wp.block ?_
    refine Wp.seq (Wp.region ?_)
    refine OWp.evs 1 rfl ?_
    refine OWp.nil ?_
    refine Wp.seqS (α := Unit) (fun _ => [(0, .string (str x)), (1, .string (str text)), (5, .slice (some ⟨Li, 0, none⟩) 64 64), (6, .slice (some ⟨Lo, 0, none⟩) 64 64), (7, .int .i64 (i : Int)), (8, .int .u8 ((x.getD i 0).toNat : Int))]) (fun _ => (Li, cel (byteCells (rowAt (padB x 54) (List.replicate 64 0) i)) 5) :: (Lo, cel (byteCells (rowAt (padB x 92) (List.replicate 64 0) i)) 5) :: S) (fun _ => True) ?_ ?_
    · skip
      refine Wp.seq (Wp.region ?_)
      refine OWp.evs 4 rfl ?_
      refine OWp.nil ?_
      refine Wp.cond rfl (fun k2 => ?_) (fun k2 => ?_)
      · have k2 := of_decide_eq_true k2
        refine Wp.region ?_
        refine OWp.evs 2 rfl ?_
        refine OWp.g rfl rfl (Gives.indexStr (b := (x.getD i 0)) rfl rfl rfl rfl (by omega) (getD_some (by omega))) ?_
        refine OWp.evs 1 rfl ?_
        refine OWp.nil ?_
        exact ⟨(), trivial, .cons rfl (.cons rfl (.cons rfl (.cons rfl (.cons rfl (.cons rfl (.nil _)))))), .refl _⟩
      have k2 := of_decide_eq_false k2
      have hz : x.getD i 0 = 0 := by rw [List.getD_eq_getElem?_getD, List.getElem?_eq_none (by omega)]; rfl
      refine Wp.skip ?_
      exact ⟨(), trivial, .cons rfl (.cons rfl (.cons rfl (.cons rfl (.cons rfl (.cons' rfl (int_eq (by rw [hz]; rfl)) (.nil _)))))), .refl _⟩
    rintro ⟨⟩ -
    refine Wp.seq (Wp.region ?_)
    refine OWp.evs 4 rfl ?_
    refine OWp.g rfl rfl (Gives.indexAddrSlice (i) rfl rfl rfl rfl rfl rfl (by omega)) ?_
    refine OWp.step rfl (Step.storeAs 0 (byteCells (rowAt (padB x 54) (List.replicate 64 0) (i + 1))) rfl rfl rfl rfl rfl hBi rfl (Unfz.zero _) rfl (by rw [byteCells_length, rowAt_len _ _ (by rw [List.length_replicate]; exact hi), List.length_replicate]; show 0 + i * 1 + 1 ≤ 64; omega) (rowB_set _ (by rw [List.length_replicate]; exact hi2) (xor8 _ 54) (by show 0 + i * 1 = i; omega)) rfl ?_)
    refine OWp.nil ?_
    refine Wp.region ?_
    refine OWp.evs 4 rfl ?_
    refine OWp.g rfl rfl (Gives.indexAddrSlice (i) rfl rfl rfl rfl rfl rfl (by omega)) ?_
    refine OWp.step rfl (Step.storeAs 1 (byteCells (rowAt (padB x 92) (List.replicate 64 0) (i + 1))) rfl rfl rfl rfl rfl hBo rfl (Unfz.zero _) rfl (by rw [byteCells_length, rowAt_len _ _ (by rw [List.length_replicate]; exact hi), List.length_replicate]; show 0 + i * 1 + 1 ≤ 64; omega) (rowB_set _ (by rw [List.length_replicate]; exact hi2) (xor8 _ 92) (by show 0 + i * 1 = i; omega)) rfl ?_)
    refine OWp.nil ?_
    refine Wp.region ?_
    refine OWp.evs 3 rfl ?_
    refine OWp.nil ?_
    exact ⟨i + 1, by omega, by omega, .cons rfl (.cons rfl (.cons rfl (.cons rfl (.cons' rfl (int_eq (i64_inc (by omega))) (.nil _))))), .refl _⟩
  have k1 := of_decide_eq_false k1
  obtain rfl : i = 64 := by omega
  rw [e54, e92]
  refine Wp.exit ?_
  refine Wp.seq (Wp.regionDraw [0, 1, 2, 3, 4, 5, 6, 7, 8, 9] [6, 8] rfl (by decide +kernel) ?_)
  refine DWp.evs 1 rfl ?_
  refine DWp.gives rfl rfl rfl rfl (Gives.bytesToStr (F := [(Lo, cel (byteCells (keyPad key 92)) 5)]) (l := keyPad key 92) (k := 64) rfl rfl rfl rfl rfl (bc_reads (keyPad_len _ _) (.head _))) (mem1 (.tail _ (.head _))) ?_
  refine DWp.evs 1 rfl ?_
  refine DWp.gives rfl rfl rfl rfl (Gives.bytesToStr (F := [(Li, cel (byteCells (keyPad key 54)) 5)]) (l := keyPad key 54) (k := 64) rfl rfl rfl rfl rfl (bc_reads (keyPad_len _ _) (.head _))) (mem1 (.head _)) ?_
  refine DWp.evs 1 rfl ?_
  refine DWp.g rfl rfl rfl rfl (Gives.addStr rfl rfl rfl (by rw [hb] at ht; rw [keyPad_len]; omega)) ?_
  refine DWp.stepGrow rfl rfl rfl (Step.call rfl rfl rfl rfl rfl rfl ((rdigestC (by rw [List.length_append, keyPad_len]; omega) ?_)))
  refine ⟨fun _ hy => hy, ?_⟩
  refine DWp.g rfl rfl rfl rfl (Gives.addStr rfl rfl rfl (by rw [sha_len, keyPad_len]; omega)) ?_
  refine DWp.stepGrow rfl rfl rfl (Step.call rfl rfl rfl rfl rfl rfl ((rdigestC (by rw [List.length_append, keyPad_len, sha_len, hb]; decide) ?_)))
  refine ⟨fun _ hy => hy, ?_⟩
  refine DWp.evs 1 rfl ?_
  refine DWp.nil ?_
  refine Wp.ret ⟨trivial, _, ⟨_, _, rfl, rfl, rfl⟩, ?_⟩
  exact ⟨S, (by repeat (first | exact List.Sublist.refl _ | exact List.sublist_append_right _ _ | apply List.Sublist.cons)), H⟩
theorem rexpandC {key info : List UInt8} {n : Nat} (hn : n ≤ 8160) (h1 : key.length + 1000 ≤ big) (h2 : info.length + 3000 ≤ big) (H : Q (.tuple #[.string (str (expand key info n)), .int .i64 0]) S) :
    CallWp Tryd.prog B 112 #[.string (str key), .string (str info), .int .i64 (n : Int)] Q S := by
  have hb : big = 281474976710656 := rfl
  obtain ⟨m, hm⟩ : ∃ m, m = (n + 31) / 32 := ⟨_, rfl⟩
  have h2' := h2
  rw [hb] at h2'
  refine CallWp.enter (args := [_, _, _]) Tryd.func112 rfl Tryd.ntmps112 rfl ?_
  refine Wp.seq (Wp.region ?_)
  refine OWp.evs 2 rfl ?_
  refine OWp.nil ?_
  refine Wp.seq ?_
  refine Wp.seq (Wp.region ?_)
  refine OWp.evs 3 rfl ?_
  refine OWp.part 13 rfl (fun cc1 => absurd (of_decide_eq_true cc1) (by omega)) (fun cc1 => ?_)
  have cc1 := of_decide_eq_false cc1
  refine OWp.evs 3 rfl ?_
  refine OWp.nil ?_
  refine Wp.cond rfl (fun cc2 => absurd (of_decide_eq_true cc2) (by omega)) (fun cc2 => ?_)
  have cc2 := of_decide_eq_false cc2
  refine Wp.skip ?_
  refine Wp.seq (Wp.region ?_)
  refine OWp.evs 2 rfl ?_
  refine OWp.nil ?_
  refine Wp.seq ?_
  refine Wp.seq (Wp.region ?_)
  refine OWp.evs 1 rfl ?_
  refine OWp.nil ?_
  refine Wp.block ?_
  refine Wp.loopS (α := Nat × List UInt8 × List UInt8) (fun z => m - z.1) (fun z => [(0, .string (str key)), (1, .string (str info)), (2, .int .i64 (n : Int)), (8, .string (str z.2.2)), (9, .string (str z.2.1)), (10, .int .i64 ((z.1 + 1 : Nat) : Int))]) (fun _ => S) (fun z => z.1 ≤ m ∧ z.2.1.length ≤ 32 ∧ z.2.2.length = 32 * z.1 ∧ z.2.2 ++ pieces key info (m - z.1) (z.1 + 1) z.2.1 = pieces key info m 1 []) (0, [], []) ?_ (.refl _) ⟨by omega, Nat.zero_le _, rfl, rfl⟩ ?_
  · exact .cons rfl (.cons rfl (.cons rfl (.cons rfl (.cons rfl (.cons rfl (.nil _))))))
  rintro ⟨j, last, built⟩ ⟨hj, hl, hbl, hp⟩
  simp only at hj hl hbl hp ⊢
  refine Wp.seq ?_
  refine Wp.seq (Wp.region ?_)
  refine OWp.evs 4 rfl ?_
  refine OWp.nil ?_
  refine Wp.cond rfl (fun h5 => ?_) (fun h5 => ?_)
  · have h5 := of_decide_eq_true h5
    have hjm : j < m := by omega
    refine Wp.skip ?_
    refine Wp.seq ?_
    refine Wp.block ?_
    refine Wp.seq (Wp.region ?_)
    refine OWp.evs 3 rfl ?_
    refine OWp.g rfl rfl (Gives.addStr rfl rfl rfl (by omega)) ?_
    refine OWp.evs 2 rfl ?_
    refine OWp.step rfl (Step.buildSlice rfl rfl rfl ?_); intro L1 hBL1 hLL1
    refine OWp.gives rfl rfl (Gives.bytesToStr (F := (L1, cel [.int .u8 (IntKind.u8.wrap ((j + 1 : Nat) : Int))] 5) :: S) (l := [UInt8.ofNat (j + 1)]) (k := 1) rfl rfl rfl rfl rfl (one_byte (u8_lo _))) (fun _ h => h) ?_
    refine OWp.g rfl rfl (Gives.addStr rfl rfl rfl (by simp; omega)) ?_
    refine OWp.step rfl (Step.call rfl rfl rfl rfl rfl rfl ((rtagC h1 (by rw [hb]; simp; omega) ?_)))
    refine OWp.dropAt 0 rfl ?_
    refine OWp.evs 1 rfl ?_
    refine OWp.nil ?_
    refine Wp.region ?_
    refine OWp.evs 2 rfl ?_
    refine OWp.g rfl rfl (Gives.addStr rfl rfl rfl (by rw [hmac_len]; omega)) ?_
    refine OWp.evs 1 rfl ?_
    refine OWp.nil ?_
    refine Wp.region ?_
    refine OWp.evs 3 rfl ?_
    refine OWp.nil ?_
    obtain ⟨q, hq⟩ : ∃ q, m - j = q + 1 := ⟨m - j - 1, by omega⟩
    rw [hq, pieces] at hp
    refine ⟨(j + 1, hmac key (last ++ info ++ [UInt8.ofNat (j + 1)]), built ++ hmac key (last ++ info ++ [UInt8.ofNat (j + 1)])), by simp only; omega, ⟨by simp only; omega, by simp only [hmac_len]; omega, by simp only [List.length_append, hmac_len, hbl]; omega, ?_⟩, .cons rfl (.cons rfl (.cons rfl (.cons rfl (.cons rfl (.cons' rfl (int_eq (i64_inc (by omega))) (.nil _)))))), .refl _⟩
    simp only
    rw [show m - (j + 1) = q by omega, List.append_assoc]
    exact hp
  have h5 := of_decide_eq_false h5
  obtain rfl : j = m := by omega
  rw [Nat.sub_self, pieces, List.append_nil] at hp
  refine Wp.exit ?_
  refine Wp.seq (Wp.region ?_)
  refine OWp.evs 2 rfl ?_
  refine OWp.g rfl rfl (Gives.sliceStr (l := 0) (h' := n) rfl rfl rfl rfl ⟨_, _, rfl, rfl⟩ (by omega) (by rw [hbl]; omega)) ?_
  refine OWp.evs 2 rfl ?_
  refine OWp.nil ?_
  refine Wp.ret ⟨trivial, _, ⟨_, _, rfl, rfl, _, _, rfl, rfl, rfl⟩, ?_⟩
  show Q (.tuple #[.string _, _]) S
  rw [hp, hm]; exact H
theorem rderiveC {secret label : List UInt8} {n : Nat} (hn : n ≤ 8160) (h1 : secret.length + 2000 ≤ big) (h2 : label.length + 3000 ≤ big) (H : Q (.tuple #[.string (str (derive secret label n)), .int .i64 0]) S) :
    CallWp Tryd.prog B 87 #[.string (str secret), .string (str label), .int .i64 (n : Int)] Q S := by
  have hb : big = 281474976710656 := rfl
  refine CallWp.enter (args := [_, _, _]) Tryd.func87 rfl Tryd.ntmps87 rfl ?_
  refine Wp.seq (Wp.region ?_)
  refine OWp.evs 2 rfl ?_
  refine OWp.nil ?_
  refine Wp.seq (Wp.region ?_)
  refine OWp.evs 1 rfl ?_
  refine OWp.step rfl (Step.call rfl rfl rfl rfl rfl rfl ((rtagC (key := salt) (by rw [hb]; decide) h1 ?_)))
  refine OWp.evs 2 rfl ?_
  refine OWp.step rfl (Step.call rfl rfl rfl rfl rfl rfl ((rexpandC hn (by rw [hmac_len, hb]; decide) h2 ?_)))
  refine OWp.evs 4 rfl ?_
  refine OWp.nil ?_
  refine Wp.ret ⟨trivial, _, ⟨_, _, rfl, rfl, _, _, rfl, rfl, rfl⟩, ?_⟩
  exact H
theorem rkeyC {secret label : List UInt8} {n : Nat} (hn : n ≤ 8160) (h1 : secret.length + 2000 ≤ big) (h2 : label.length + 3000 ≤ big) (H : Q (.string (str (derive secret label n))) S) :
    CallWp Tryd.prog B 55 #[.string (str secret), .string (str label), .int .i64 (n : Int)] Q S := by
  refine CallWp.enter (args := [_, _, _]) Tryd.func55 rfl Tryd.ntmps55 rfl ?_
  refine Wp.seq (Wp.region ?_)
  refine OWp.evs 1 rfl ?_
  refine OWp.nil ?_
  refine Wp.seq (Wp.region ?_)
  refine OWp.evs 3 rfl ?_
  refine OWp.step rfl (Step.call rfl rfl rfl rfl rfl rfl ((rderiveC hn h1 h2 ?_)))
  refine OWp.evs 5 rfl ?_
  refine OWp.nil ?_
  refine Wp.seq (Wp.region ?_)
  refine OWp.evs 2 rfl ?_
  refine OWp.nil ?_
  refine Wp.ret ⟨trivial, _, ⟨_, _, rfl, rfl, rfl⟩, ?_⟩
  exact H
end
end Go.Proofs.D
