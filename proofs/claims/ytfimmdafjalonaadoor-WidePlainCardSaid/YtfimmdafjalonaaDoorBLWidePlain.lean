/- What functions of the given program do, one after the other, told by that layer. -/
import Derived.Test.YtfimmdafjalonaaDoorBLaw0
namespace Go.Proofs.D
open Go.Lg Go.Sha
set_option maxRecDepth 100000
theorem bc_setN {l : List UInt8} {o i : Nat} {x : Int} {c : UInt8} (h : i < l.length) (hx : x = c.toNat) (ho : o = i) :
    wr (byteCells l) o (Value.int .u8 x).cells.toList = byteCells (l.set i c) := by
  have := bc_set (g := []) h hx ho
  rwa [List.append_nil, List.append_nil] at this
theorem zeros_u8 (n : Nat) : zeros [Value.int .u8 0] n = byteCells (List.replicate n 0) := by
  induction n with
  | zero => rfl
  | succ n ih => rw [zeros, ih, List.replicate_succ]; rfl
theorem plain_put {text : List UInt8} {n : Nat} (_h : text.length + 34 ≤ n) : wr (byteCells (plainAt text n 0)) 34 (byteCells text) = byteCells (wplain text n) := by
  unfold wr plainAt wplain byteCells
  simp only [List.map_append, List.map_cons, List.map_replicate, List.take_zero, List.nil_append, List.length_map, Nat.sub_zero]
  rw [List.take_append, List.drop_append]
  simp only [List.length_replicate]
  rw [List.take_of_length_le (by simp), List.drop_of_length_le (by simp; omega)]
  rw [show 34 - 32 = 2 by rfl, show 34 + text.length - 32 = text.length + 2 by omega]
  simp [List.drop_succ_cons]
section
variable {B : Nat} {S : Ents}

theorem widePlainL {key text : List UInt8} {more : Int} (hk : KsIn S) (h1 : key.length + 1000 ≤ big) (h2 : text.length + 1000 ≤ big) :
    CallWp Tryd.prog B 9 #[.string (str key), .string (str text), .int .i64 more] (fun v _ => v = .bool true) S := by
  have hb : big = 281474976710656 := rfl
  rw [hb] at h2
  have hj := umod_lt more (m := 100) (by decide)
  have ej := umod_eq more (m := 100) (by decide) (by decide)
  obtain ⟨j, hj0⟩ : ∃ j, j = umod more 100 := ⟨_, rfl⟩
  rw [← hj0] at hj ej
  have e34 : IntKind.i64.wrap ((text.length : Int) + 34) = ((text.length + 34 : Nat) : Int) := by rw [i64_id] <;> omega
  obtain ⟨n, hn⟩ : ∃ n, n = max 64 (text.length + 34) + j := ⟨_, rfl⟩
  refine CallWp.enter (args := [_, _, _]) Tryd.func9 rfl Tryd.ntmps9 rfl ?_
  refine Wp.seq (Wp.region ?_)
  refine OWp.evs 1 rfl ?_
  refine OWp.nil ?_
  refine Wp.seq ?_
  refine Wp.seq (Wp.region ?_)
  refine OWp.step rfl (Step.call rfl rfl rfl rfl rfl rfl ((wworksC hk ?_)))
  refine OWp.evs 1 rfl ?_
  refine OWp.nil ?_
  refine Wp.cond rfl (fun c => nomatch c) (fun _ => ?_)
  refine Wp.skip ?_
  refine Wp.seq ?_
  refine Wp.seq (Wp.region ?_)
  refine OWp.evs 3 rfl ?_
  refine OWp.nil ?_
  refine Wp.cond rfl (fun c1 => ?_) (fun c1 => ?_)
  · have c1 := of_decide_eq_true c1
    refine Wp.seq (Wp.region ?_)
    refine OWp.evs 1 rfl ?_
    refine OWp.nil ?_
    refine Wp.ret ⟨trivial, _, ⟨_, _, rfl, rfl, rfl⟩, ?_⟩
    rfl
  have c1 := of_decide_eq_false c1
  refine Wp.skip ?_
  refine Wp.seq (Wp.region ?_)
  refine OWp.evs 10 rfl ?_
  refine OWp.nil ?_
  refine Wp.weaken (E' := [(0, .string (str key)), (1, .string (str text)), (7, .int .i64 (n : Int))]) (.cons rfl (.cons rfl (.cons' rfl (int_eq (by
    show IntKind.i64.wrap ((if IntKind.i64.wrap ((text.length : Int) + 34) > 64 then IntKind.i64.wrap ((text.length : Int) + 34) else 64) + IntKind.i64.wrap ((IntKind.u64.wrap more).tmod ((100 : Nat) : Int))) = _
    rw [max_eq e34, ej, i64_id (by omega) (by omega), hn]; omega)) (.nil _)))) (fun _ h => h) ?_
  have hpl : (wplain text n).length = n := wplain_len (by omega)
  have hwl : (wshut key (wplain text n)).length = n := by rw [wshut_len key (by omega), hpl]
  have ho : wopen key (wshut key (wplain text n)) = wplain text n := wopen_shut key (by omega)
  refine Wp.seq (Wp.region ?_)
  refine OWp.evs 1 rfl ?_
  refine OWp.step rfl (Step.makeSlice (len := n) (cap := n) rfl rfl rfl rfl rfl rfl (by decide) rfl rfl (Nat.le_refl _) (by show 1 * n ≤ _; omega) (by omega) ?_)
  intro L hBL _
  have ez : zeros (cellsOf (Value.int .u8 0)) n = byteCells (List.replicate n 0) := zeros_u8 n
  rw [ez]
  refine OWp.evs 1 rfl ?_
  refine OWp.nil ?_
  refine Wp.seq (Wp.region ?_)
  refine OWp.evs 9 rfl ?_
  refine OWp.g rfl rfl (Gives.indexAddrSlice (32) rfl rfl rfl rfl rfl rfl (by omega)) ?_
  refine OWp.step rfl (Step.storeAs 0 (byteCells ((List.replicate n (0 : UInt8)).set 32 (UInt8.ofNat (text.length / 256)))) rfl rfl rfl rfl rfl hBL rfl (Unfz.zero _) rfl (by rw [byteCells_length, List.length_replicate]; show 0 + 32 * 1 + 1 ≤ _; omega) (bc_setN (by rw [List.length_replicate]; omega) (u8_hi _) rfl) rfl ?_)
  refine OWp.g rfl rfl (Gives.indexAddrSlice (33) rfl rfl rfl rfl rfl rfl (by omega)) ?_
  refine OWp.step rfl (Step.storeAs 0 (byteCells (plainAt text n 0)) rfl rfl rfl rfl rfl hBL rfl (Unfz.zero _) rfl (by rw [byteCells_length, List.length_set, List.length_replicate]; show 0 + 33 * 1 + 1 ≤ _; omega) (by rw [← plainAt_first text (by omega)]; exact bc_setN (by rw [List.length_set, List.length_replicate]; omega) (u8_lo _) rfl) rfl ?_)
  refine OWp.nil ?_
  refine Wp.seq (Wp.region ?_)
  refine OWp.evs 1 rfl ?_
  refine OWp.g rfl rfl (Gives.sliceSlice (l := 34) (h' := n) rfl rfl rfl rfl ⟨_, _, rfl, rfl⟩ rfl (by omega) (by omega) (by omega)) ?_
  refine OWp.evs 1 rfl ?_
  refine OWp.step rfl (Step.copyStr 0 (byteCells (wplain text n)) rfl rfl rfl rfl rfl rfl rfl (by assumption) (Unfz.zero _) (by rw [byteCells_length, plainAt_len (Nat.zero_le _) (by omega)]; show 0 + 34 * 1 + min text.length (n - 34) ≤ _; omega) (by rw [Nat.min_eq_left (by omega), List.take_of_length_le (Nat.le_refl _)]; exact plain_put (by omega)) rfl ?_)
  refine OWp.nil ?_
  refine Wp.seq (Wp.region ?_)
  refine OWp.evs 3 rfl ?_
  refine OWp.step rfl (Step.call rfl rfl rfl rfl rfl rfl ((wwrapOkC (n := n) hk.cons h1 (by omega) (by omega) (by omega) ?_)))
  refine OWp.evs 5 rfl ?_
  refine OWp.nil ?_
  refine Wp.seq (Wp.region ?_)
  refine OWp.evs 2 rfl ?_
  refine OWp.gives rfl rfl (Gives.bytesToStr (F := (L, cel (byteCells (wplain text n)) 5) :: S) (l := wplain text n) (k := n) rfl rfl rfl rfl rfl (by have := Reads.row (S := (L, cel (byteCells (wplain text n)) 5) :: S) (sz := 1) (k := n) (cap := n) (.head _) (by rw [byteCells_length]; omega); rw [List.take_of_length_le (by rw [byteCells_length]; omega)] at this; exact this)) (fun _ h => h) ?_
  refine OWp.step rfl (Step.call rfl rfl rfl rfl rfl rfl ((wshutC (block := wplain text n) hk.cons h1 ?_)))
  rw [blockR_ok (by omega) (by omega)]
  obtain ⟨w, hw⟩ : ∃ w, w = wshut key (wplain text n) := ⟨_, rfl⟩
  rw [← hw] at hwl ho ⊢
  dsimp only
  refine OWp.evs 5 rfl ?_
  refine OWp.nil ?_
  refine Wp.seq (Wp.region ?_)
  refine OWp.evs 2 rfl ?_
  refine OWp.step rfl (Step.call rfl rfl rfl rfl rfl rfl ((wopenC hk.cons h1 ?_)))
  rw [blockR_ok (by omega) (by omega), ho]
  dsimp only
  refine OWp.evs 5 rfl ?_
  refine OWp.nil ?_
  refine Wp.seq (Wp.region ?_)
  refine OWp.evs 3 rfl ?_
  refine OWp.part 68 rfl (fun cc1 => ?_) (fun cc1 => absurd (of_decide_eq_false cc1) (by decide))
  have cc1 := of_decide_eq_true cc1
  refine OWp.evs 4 rfl ?_
  refine OWp.part 72 rfl (fun cc2 => ?_) (fun cc2 => absurd (of_decide_eq_false cc2) (by decide))
  have cc2 := of_decide_eq_true cc2
  refine OWp.evs 4 rfl ?_
  refine OWp.part 76 rfl (fun cc3 => ?_) (fun cc3 => absurd (of_decide_eq_false cc3) (by decide))
  have cc3 := of_decide_eq_true cc3
  refine OWp.evs 5 rfl ?_
  refine OWp.part 81 rfl (fun cc4 => ?_) (fun cc4 => absurd (of_decide_eq_false cc4) (by exact fun h => h rfl))
  have cc4 := of_decide_eq_true cc4
  refine OWp.evs 2 rfl ?_
  refine OWp.gives rfl rfl (Gives.bytesToStr (F := (L, cel (byteCells (wplain text n)) 5) :: S) (l := wplain text n) (k := n) rfl rfl rfl rfl rfl (by have := Reads.row (S := (L, cel (byteCells (wplain text n)) 5) :: S) (sz := 1) (k := n) (cap := n) (.head _) (by rw [byteCells_length]; omega); rw [List.take_of_length_le (by rw [byteCells_length]; omega)] at this; exact this)) (fun _ h => h) ?_
  refine OWp.evs 3 rfl ?_
  refine OWp.nil ?_
  refine Wp.ret ⟨trivial, _, ⟨_, _, rfl, rfl, rfl⟩, ?_⟩
  exact congrArg Value.bool (decide_eq_true rfl)
theorem widePlainW {key text : ByteArray} {more : Int} (hk : KsIn S) (h0 : Rd Tryd.prog S 9 [.string key]) (h1 : Rd Tryd.prog S 9 [.string text]) (_h2 : Rd Tryd.prog S 3 [.int .i64 more]) :
    CallWp Tryd.prog B 9 #[.string key, .string text, .int .i64 more] (fun v _ => v = .bool true) S := by
  obtain ⟨s, rfl, hs⟩ := rdStrB h0
  obtain ⟨t, rfl, ht⟩ := rdStrB h1
  exact widePlainL hk (by omega) (by omega)
end
end Go.Proofs.D
