/- What functions of the given program do, one after the other, told by that layer. -/
import Derived.Test.YtfimmdafjalonaaDoorBRef4
namespace Go.Proofs.D
open Go.Lg Go.Sha
set_option maxRecDepth 100000

theorem u32g_part {l : List Nat} {g : List Value} {i : Nat} (h : i < l.length) : Lg.partAt Tryd.prog 120 (u32s l ++ g) (0 + i * 1) = some (.int .u32 (l.getD i 0 : Nat)) := by
  show (u32s l ++ g)[0 + i * 1]? = _
  rw [Nat.zero_add, Nat.mul_one, List.getElem?_append_left (by rw [u32s_length]; exact h), u32s_get h]
theorem u32g_set {l : List Nat} {g : List Value} {o i x : Nat} (h : i < l.length) (ho : o = i) : wr (u32s l ++ g) o (Value.int .u32 (x : Int)).cells.toList = u32s (l.set i x) ++ g := by
  rw [wr_left (by subst ho; rw [u32s_length]; show o + 1 ≤ _; omega), u32s_set h ho]
theorem good_set {s : List Nat} {i x : Nat} (h : Good s) (hx : x < 4294967296) : Good (s.set i x) := ⟨by rw [List.length_set]; exact h.1, set_all h.2 hx⟩
def nT (r : Nat) : Nat := if r = 0 then 16 else 8
def mT (r : Nat) : Nat := if r = 0 then 12 else 7
def qs (s : List Nat) (a b c d : Nat) : Nat → List Nat
  | 0 => s
  | r + 1 => hq (qs s a b c d r) a b c d (nT r) (mT r)
theorem qs_two {s : List Nat} {a b c d : Nat} (h : Apart s.length a b c d) : qs s a b c d 2 = turn s a b c d := hq_twice h
theorem hq_good {s : List Nat} {a b c d n m : Nat} (h : Good s) (hn : n ≤ 32) (hm : m ≤ 32) : Good (hq s a b c d n m) := by
  unfold hq
  have g1 := good_set (i := a) h (add_lt (s.getD a 0) (s.getD b 0))
  have g2 := good_set (i := d) g1 (rl_lt (n := n) (xor_lt32 (getD_lt g1.2 d) (getD_lt g1.2 a)) hn)
  have g3 := good_set (i := c) g2 (add_lt ((((s.set a (add (s.getD a 0) (s.getD b 0))).set d (rl ((s.set a (add (s.getD a 0) (s.getD b 0))).getD d 0 ^^^ (s.set a (add (s.getD a 0) (s.getD b 0))).getD a 0) n)).getD c 0)) ((((s.set a (add (s.getD a 0) (s.getD b 0))).set d (rl ((s.set a (add (s.getD a 0) (s.getD b 0))).getD d 0 ^^^ (s.set a (add (s.getD a 0) (s.getD b 0))).getD a 0) n)).getD d 0)))
  exact good_set (i := b) g3 (rl_lt (n := m) (xor_lt32 (getD_lt g3.2 b) (getD_lt g3.2 c)) hm)
theorem nT_le (r : Nat) : nT r ≤ 32 := by unfold nT; split <;> decide
theorem mT_le (r : Nat) : mT r ≤ 32 := by unfold mT; split <;> decide
theorem qs_good {s : List Nat} {a b c d : Nat} (h : Good s) : ∀ r, Good (qs s a b c d r)
  | 0 => h
  | r + 1 => hq_good (qs_good h r) (nT_le r) (mT_le r)
theorem le_word {a b c d : UInt8} {r : List UInt8} : IntKind.u32.wrap (IntKind.u32.wrap (IntKind.u32.wrap (IntKind.u32.wrap (a.toNat : Int) + IntKind.u32.wrap (IntKind.u32.wrap (b.toNat : Int) * 2 ^ (min 8 IntKind.u32.bits))) + IntKind.u32.wrap (IntKind.u32.wrap (c.toNat : Int) * 2 ^ (min 16 IntKind.u32.bits))) + IntKind.u32.wrap (IntKind.u32.wrap (d.toNat : Int) * 2 ^ (min 24 IntKind.u32.bits))) = ((le (a :: b :: c :: d :: r) : Nat) : Int) := by
  have h1 := a.toNat_lt
  have h2 := b.toNat_lt
  have h3 := c.toNat_lt
  have h4 := d.toNat_lt
  rw [u8_u32, u8_u32, u8_u32, u8_u32, shl_u32 b 8 (by decide), shl_u32 c 16 (by decide), shl_u32 d 24 (by decide)]
  rw [IntKind.wrap_u32, IntKind.wrap_u32, IntKind.wrap_u32]
  show _ = ((a.toNat + b.toNat * 256 + c.toNat * 65536 + d.toNat * 16777216 : Nat) : Int)
  omega
theorem byte_of (x k : Nat) : IntKind.u8.wrap ((x : Int).fdiv (2 ^ (min k IntKind.u32.bits))) = ((UInt8.ofNat (x / 2 ^ (min k IntKind.u32.bits))).toNat : Int) := by
  rw [u32_fdiv x k _ rfl, u8_lo]
theorem le_bytes (x : Nat) : [Value.int .u8 (IntKind.u8.wrap (x : Int)), .int .u8 (IntKind.u8.wrap ((x : Int).fdiv (2 ^ (min 8 IntKind.u32.bits)))), .int .u8 (IntKind.u8.wrap ((x : Int).fdiv (2 ^ (min 16 IntKind.u32.bits)))), .int .u8 (IntKind.u8.wrap ((x : Int).fdiv (2 ^ (min 24 IntKind.u32.bits))))] = byteCells (lebytes x) := by
  rw [byte_of, byte_of, byte_of, u8_lo]; rfl
theorem lewords_snoc (n : Nat) (l : List UInt8) : lewords (n + 1) l = lewords n l ++ [le (l.drop (4 * n))] := lewords_succ n l
theorem ownF_form {B : Nat} {e : TypeId} {v : Value} {xs : List UInt8} {es : Ents} (h : OwnF B e v xs es) : ∃ q c, v = .slice q xs.length c := by
  rcases h with ⟨rfl, rfl, _⟩ | ⟨b, cap, g, fz, rfl, _⟩
  · exact ⟨_, _, rfl⟩
  · exact ⟨_, _, rfl⟩
attribute [local irreducible] cblock in
theorem blocks_snoc (k n : List UInt8) : ∀ (m c : Nat), blocks k n (m + 1) c = blocks k n m c ++ cblock k n ((c + m) % 4294967296)
  | 0, c => by
    show cblock k n (c % 4294967296) ++ [] = [] ++ cblock k n ((c + 0) % 4294967296)
    rw [List.append_nil, List.nil_append, Nat.add_zero]
  | m + 1, c => by
    have ih := blocks_snoc k n m (c + 1)
    show cblock k n (c % 4294967296) ++ blocks k n (m + 1) (c + 1) = (cblock k n (c % 4294967296) ++ blocks k n m (c + 1)) ++ cblock k n ((c + (m + 1)) % 4294967296)
    rw [ih, List.append_assoc, show c + 1 + m = c + (m + 1) by omega]
theorem add_comm' (x y : Nat) : add x y = add y x := by unfold add; rw [Nat.add_comm]

section
variable {B : Nat} {S R : Ents} {Q : Value → Ents → Prop}

theorem rleftC {x n : Nat} {v z : Int} (hv : v = (x : Int)) (hz : z = (n : Int)) (hx : x < 4294967296) (hn : n ≤ 32) (H : Q (.int .u32 (rl x n : Nat)) S) :
    CallWp Tryd.prog B 140 #[.int .u32 v, .int .i64 z] Q S := by
  subst hv hz
  refine CallWp.enter (args := [_, _]) Tryd.func140 rfl Tryd.ntmps140 rfl ?_
  refine Wp.seq (Wp.region ?_)
  refine OWp.evs 1 rfl ?_
  refine OWp.nil ?_
  refine Wp.seq (Wp.regionDraw [0, 1, 2, 3, 4, 5, 6, 7, 8] [] rfl (by decide +kernel) ?_)
  refine DWp.evs 2 rfl ?_
  refine DWp.g rfl rfl rfl rfl (Gives.shl (m := n) rfl rfl rfl rfl) ?_
  refine DWp.evs 3 rfl ?_
  refine DWp.g rfl rfl rfl rfl (Gives.shr (m := 32 - n) rfl rfl rfl (by rw [i64_id (by omega) (by omega)]; omega)) ?_
  refine DWp.evs 2 rfl ?_
  refine DWp.nil ?_
  refine Wp.ret ⟨trivial, _, ⟨_, _, rfl, rfl, rfl⟩, ?_⟩
  rw [u32_turn hx hn (show n + (32 - n) = 32 by omega)]; exact H
set_option maxHeartbeats 2000000 in
theorem rquarterC {W a b c d cap : Nat} {s : List Nat} {g : List Value} (hB : B ≤ W) (hs : Good s) (hap : Apart 16 a b c d) (H : Q (.tuple #[]) ((W, cel (u32s (turn s a b c d) ++ g) 120) :: R)) :
    CallWp Tryd.prog B 119 #[.slice (some ⟨W, 0, none⟩) 16 cap, .int .i64 (a : Int), .int .i64 (b : Int), .int .i64 (c : Int), .int .i64 (d : Int)] Q ((W, cel (u32s s ++ g) 120) :: R) := by
  have hap' : Apart s.length a b c d := by rw [hs.1]; exact hap
  rw [← qs_two hap'] at H
  obtain ⟨ab, ac, ad, bc, bd, cd, la, lb, lc, ld⟩ := hap
  refine subRet ?_
  refine CallWp.enter (args := [_, _, _, _, _]) Tryd.func119 rfl Tryd.ntmps119 rfl ?_
  refine Wp.seq (Wp.region ?_)
  refine OWp.step rfl (Step.buildSlice rfl rfl rfl ?_); intro L hBL hLL
  refine OWp.evs 1 rfl ?_
  refine OWp.nil ?_
  refine Wp.seq (Wp.region ?_)
  refine OWp.evs 1 rfl ?_
  refine OWp.nil ?_
  refine Wp.block ?_
  refine Wp.loopS (α := Nat) (fun r => 2 - r) (fun r => [(0, .slice (some ⟨W, 0, none⟩) 16 cap), (1, .int .i64 (a : Int)), (2, .int .i64 (b : Int)), (3, .int .i64 (c : Int)), (4, .int .i64 (d : Int)), (10, .slice (some ⟨L, 0, none⟩) 4 4), (11, .int .i64 ((2 * r : Nat) : Int))]) (fun r => (L, cel [.int .i64 16, .int .i64 12, .int .i64 8, .int .i64 7] 3) :: (W, cel (u32s (qs s a b c d r) ++ g) 120) :: R) (fun r => r ≤ 2) 0 ?_ (.refl _) (Nat.zero_le _) ?_
  · exact .cons rfl (.cons rfl (.cons rfl (.cons rfl (.cons rfl (.cons rfl (.cons rfl (.nil _)))))))
  intro r hr
  refine Wp.seq ?_
  refine Wp.seq (Wp.region ?_)
  refine OWp.evs 2 rfl ?_
  refine OWp.nil ?_
  refine Wp.cond rfl (fun h1 => ?_) (fun h1 => ?_)
  · have h1 := of_decide_eq_true h1
    have hr2 : r < 2 := by omega
    have tn : [Value.int .i64 16, .int .i64 12, .int .i64 8, .int .i64 7][0 + 2 * r * 1]? = some (.int .i64 (nT r : Nat)) := by
      match r, hr2 with
      | 0, _ => rfl
      | 1, _ => rfl
    have tm : [Value.int .i64 16, .int .i64 12, .int .i64 8, .int .i64 7][0 + (2 * r + 1) * 1]? = some (.int .i64 (mT r : Nat)) := by
      match r, hr2 with
      | 0, _ => rfl
      | 1, _ => rfl
    have hg := qs_good (a := a) (b := b) (c := c) (d := d) hs r
    have hnext : qs s a b c d (r + 1) = hq (qs s a b c d r) a b c d (nT r) (mT r) := rfl
    generalize qs s a b c d r = x at hg hnext ⊢
    have hxl := hg.1
    obtain ⟨x1, hx1⟩ : ∃ x1, x1 = x.set a (add (x.getD a 0) (x.getD b 0)) := ⟨_, rfl⟩
    have g1 : Good x1 := hx1 ▸ good_set hg (add_lt _ _)
    obtain ⟨x2, hx2⟩ : ∃ x2, x2 = x1.set d (rl (x1.getD d 0 ^^^ x1.getD a 0) (nT r)) := ⟨_, rfl⟩
    have g2 : Good x2 := hx2 ▸ good_set g1 (rl_lt (xor_lt32 (getD_lt g1.2 d) (getD_lt g1.2 a)) (nT_le r))
    obtain ⟨x3, hx3⟩ : ∃ x3, x3 = x2.set c (add (x2.getD c 0) (x2.getD d 0)) := ⟨_, rfl⟩
    have g3 : Good x3 := hx3 ▸ good_set g2 (add_lt _ _)
    have hx4 : x3.set b (rl (x3.getD b 0 ^^^ x3.getD c 0) (mT r)) = qs s a b c d (r + 1) := by rw [hnext, hx3, hx2, hx1]; rfl
    have l1 := g1.1
    have l2 := g2.1
    have l3 := g3.1
    refine Wp.skip ?_
    refine Wp.seq ?_
    refine Wp.block ?_
    refine Wp.seq (Wp.regionDraw [0, 1, 2, 3, 4, 5, 6, 7, 8, 9, 10] [10] rfl (by decide +kernel) ?_)
    refine DWp.evs 2 rfl ?_
    refine DWp.g rfl rfl rfl rfl (Gives.indexAddrSlice (a) rfl rfl rfl rfl rfl rfl (by omega)) ?_
    refine DWp.load (.tail _ (.head _)) rfl rfl rfl rfl rfl rfl (u32g_part (by omega)) ?_
    refine DWp.evs 2 rfl ?_
    refine DWp.g rfl rfl rfl rfl (Gives.indexAddrSlice (b) rfl rfl rfl rfl rfl rfl (by omega)) ?_
    refine DWp.load (.tail _ (.head _)) rfl rfl rfl rfl rfl rfl (u32g_part (by omega)) ?_
    refine DWp.evs 1 rfl ?_
    refine DWp.g rfl rfl rfl rfl (Gives.indexAddrSlice (a) rfl rfl rfl rfl rfl rfl (by omega)) ?_
    refine DWp.stepAll rfl rfl rfl rfl (Step.storeAs 1 (u32s x1 ++ g) rfl rfl rfl rfl rfl hB rfl (Unfz.zero _) rfl (by rw [List.length_append, u32s_length, hxl]; show 0 + a * 1 + 1 ≤ _; omega) (by rw [u32_add, hx1]; exact u32g_set (by omega) (by show 0 + a * 1 = a; omega)) rfl ?_)
    refine DWp.nil ?_
    refine Wp.seq (Wp.regionDraw [0, 1, 2, 3, 4, 5, 6, 7, 8, 9, 10, 11, 12, 13, 14, 15, 16, 17] [15, 17] rfl (by decide +kernel) ?_)
    refine DWp.evs 4 rfl ?_
    refine DWp.g rfl rfl rfl rfl (Gives.indexAddrSlice (d) rfl rfl rfl rfl rfl rfl (by omega)) ?_
    refine DWp.load (.tail _ (.head _)) rfl rfl rfl rfl rfl rfl (u32g_part (by omega)) ?_
    refine DWp.evs 2 rfl ?_
    refine DWp.g rfl rfl rfl rfl (Gives.indexAddrSlice (a) rfl rfl rfl rfl rfl rfl (by omega)) ?_
    refine DWp.load (.tail _ (.head _)) rfl rfl rfl rfl rfl rfl (u32g_part (by omega)) ?_
    refine DWp.evs 3 rfl ?_
    refine DWp.g rfl rfl rfl rfl (Gives.indexAddrSlice ((2 * r)) rfl rfl rfl rfl rfl rfl (by omega)) ?_
    refine DWp.load (.head _) rfl rfl rfl rfl rfl rfl tn ?_
    refine DWp.stepGrow rfl rfl rfl (Step.call rfl rfl rfl rfl rfl rfl ((rleftC (Go.Lg.u32_xor (getD_lt g1.2 d) (getD_lt g1.2 a)) rfl (xor_lt32 (getD_lt g1.2 d) (getD_lt g1.2 a)) (nT_le r) ?_)))
    refine ⟨fun _ hy => hy, ?_⟩
    refine DWp.g rfl rfl rfl rfl (Gives.indexAddrSlice (d) rfl rfl rfl rfl rfl rfl (by omega)) ?_
    refine DWp.stepAll rfl rfl rfl rfl (Step.storeAs 1 (u32s x2 ++ g) rfl rfl rfl rfl rfl hB rfl (Unfz.zero _) rfl (by rw [List.length_append, u32s_length, l1]; show 0 + d * 1 + 1 ≤ _; omega) (by rw [hx2]; exact u32g_set (by omega) (by show 0 + d * 1 = d; omega)) rfl ?_)
    refine DWp.nil ?_
    refine Wp.seq (Wp.regionDraw [0, 1, 2, 3, 4, 5, 6, 7, 8, 9, 10] [10] rfl (by decide +kernel) ?_)
    refine DWp.evs 2 rfl ?_
    refine DWp.g rfl rfl rfl rfl (Gives.indexAddrSlice (c) rfl rfl rfl rfl rfl rfl (by omega)) ?_
    refine DWp.load (.tail _ (.head _)) rfl rfl rfl rfl rfl rfl (u32g_part (by omega)) ?_
    refine DWp.evs 2 rfl ?_
    refine DWp.g rfl rfl rfl rfl (Gives.indexAddrSlice (d) rfl rfl rfl rfl rfl rfl (by omega)) ?_
    refine DWp.load (.tail _ (.head _)) rfl rfl rfl rfl rfl rfl (u32g_part (by omega)) ?_
    refine DWp.evs 1 rfl ?_
    refine DWp.g rfl rfl rfl rfl (Gives.indexAddrSlice (c) rfl rfl rfl rfl rfl rfl (by omega)) ?_
    refine DWp.stepAll rfl rfl rfl rfl (Step.storeAs 1 (u32s x3 ++ g) rfl rfl rfl rfl rfl hB rfl (Unfz.zero _) rfl (by rw [List.length_append, u32s_length, l2]; show 0 + c * 1 + 1 ≤ _; omega) (by rw [u32_add, hx3]; exact u32g_set (by omega) (by show 0 + c * 1 = c; omega)) rfl ?_)
    refine DWp.nil ?_
    refine Wp.regionDraw [0, 1, 2, 3, 4, 5, 6, 7, 8, 9, 10, 11, 12, 13, 14, 15, 16, 17, 18] [16, 18] rfl (by decide +kernel) ?_
    refine DWp.evs 4 rfl ?_
    refine DWp.g rfl rfl rfl rfl (Gives.indexAddrSlice (b) rfl rfl rfl rfl rfl rfl (by omega)) ?_
    refine DWp.load (.tail _ (.head _)) rfl rfl rfl rfl rfl rfl (u32g_part (by omega)) ?_
    refine DWp.evs 2 rfl ?_
    refine DWp.g rfl rfl rfl rfl (Gives.indexAddrSlice (c) rfl rfl rfl rfl rfl rfl (by omega)) ?_
    refine DWp.load (.tail _ (.head _)) rfl rfl rfl rfl rfl rfl (u32g_part (by omega)) ?_
    refine DWp.evs 4 rfl ?_
    refine DWp.g rfl rfl rfl rfl (Gives.indexAddrSlice ((2 * r + 1)) rfl rfl rfl rfl rfl (by rw [i64_id] <;> omega) (by omega)) ?_
    refine DWp.load (.head _) rfl rfl rfl rfl rfl rfl tm ?_
    refine DWp.stepGrow rfl rfl rfl (Step.call rfl rfl rfl rfl rfl rfl ((rleftC (Go.Lg.u32_xor (getD_lt g3.2 b) (getD_lt g3.2 c)) rfl (xor_lt32 (getD_lt g3.2 b) (getD_lt g3.2 c)) (mT_le r) ?_)))
    refine ⟨fun _ hy => hy, ?_⟩
    refine DWp.g rfl rfl rfl rfl (Gives.indexAddrSlice (b) rfl rfl rfl rfl rfl rfl (by omega)) ?_
    refine DWp.stepAll rfl rfl rfl rfl (Step.storeAs 1 (u32s (qs s a b c d (r + 1)) ++ g) rfl rfl rfl rfl rfl hB rfl (Unfz.zero _) rfl (by rw [List.length_append, u32s_length, l3]; show 0 + b * 1 + 1 ≤ _; omega) (by rw [← hx4]; exact u32g_set (by omega) (by show 0 + b * 1 = b; omega)) rfl ?_)
    refine DWp.nil ?_
    refine Wp.region ?_
    refine OWp.evs 3 rfl ?_
    refine OWp.nil ?_
    exact ⟨r + 1, by omega, by omega, .cons rfl (.cons rfl (.cons rfl (.cons rfl (.cons rfl (.cons rfl (.cons' rfl (int_eq (by rw [i64_id] <;> omega)) (.nil _))))))), .refl _⟩
  have h1 := of_decide_eq_false h1
  obtain rfl : r = 2 := by omega
  refine Wp.exit ?_
  refine ⟨trivial, [], rfl, ?_⟩
  exact ⟨_, _, .refl _, List.sublist_cons_self _ _, H⟩
theorem rreadC {s : List UInt8} {n : Nat} (hs : s.length = 4 * n) (hn : n ≤ 100) (H : ∀ v es, Own B 120 1 v n (u32s (lewords n s)) es → Q v (es ++ S)) :
    CallWp Tryd.prog B 118 #[.string (str s)] Q S := by
  refine CallWp.enter (args := [_]) Tryd.func118 rfl Tryd.ntmps118 rfl ?_
  refine Wp.seq (Wp.region ?_)
  refine OWp.evs 1 rfl ?_
  refine OWp.nil ?_
  refine Wp.seq (Wp.region ?_)
  refine OWp.evs 1 rfl ?_
  refine OWp.nil ?_
  refine Wp.seq ?_
  refine Wp.seq (Wp.region ?_)
  refine OWp.evs 1 rfl ?_
  refine OWp.nil ?_
  refine Wp.block ?_
  refine Wp.loopS (α := Nat × Value × Ents) (fun z => n - z.1) (fun z => [(0, .string (str s)), (3, z.2.1), (4, .int .i64 ((4 * z.1 : Nat) : Int))]) (fun z => z.2.2 ++ S) (fun z => z.1 ≤ n ∧ Own B 120 1 z.2.1 z.1 (u32s (lewords z.1 s)) z.2.2) (0, .slice none 0 0, []) ?_ (.refl _) ⟨Nat.zero_le _, Own.nil _ _ _⟩ ?_
  · exact .cons rfl (.cons rfl (.cons rfl (.nil _)))
  rintro ⟨j, v, es⟩ ⟨hj, hown⟩
  simp only at hj hown ⊢
  refine Wp.seq ?_
  refine Wp.seq (Wp.region ?_)
  refine OWp.evs 4 rfl ?_
  refine OWp.nil ?_
  refine Wp.cond rfl (fun h1 => ?_) (fun h1 => ?_)
  · have h1 := of_decide_eq_true h1
    have hj2 : j < n := by omega
    have k1 : IntKind.i64.wrap (((4 * j : Nat) : Int) + 1) = ((4 * j + 1 : Nat) : Int) := by rw [i64_id] <;> omega
    have k2 : IntKind.i64.wrap (((4 * j : Nat) : Int) + 2) = ((4 * j + 2 : Nat) : Int) := by rw [i64_id] <;> omega
    have k3 : IntKind.i64.wrap (((4 * j : Nat) : Int) + 3) = ((4 * j + 3 : Nat) : Int) := by rw [i64_id] <;> omega
    have hd : ∃ r, s.drop (4 * j) = s.getD (4 * j) 0 :: s.getD (4 * j + 1) 0 :: s.getD (4 * j + 2) 0 :: s.getD (4 * j + 3) 0 :: r := by
      have c1 : ∀ i, i < s.length → s.drop i = s.getD i 0 :: s.drop (i + 1) := fun i hi => by
        rw [List.drop_eq_getElem_cons hi, List.getD_eq_getElem?_getD, List.getElem?_eq_getElem hi]; rfl
      exact ⟨s.drop (4 * j + 4), by rw [c1 _ (by omega), c1 _ (by omega), c1 _ (by omega), c1 _ (by omega)]⟩
    obtain ⟨r, hr⟩ := hd
    refine Wp.skip ?_
    refine Wp.seq ?_
    refine Wp.block ?_
    refine Wp.regionDraw [0, 1, 2, 3, 4, 5, 6, 7, 8, 9, 10, 11, 12, 13, 14, 15, 16, 17, 18, 19, 20, 21, 22, 23, 24, 25, 26, 27, 28] [26, 27] rfl (by decide +kernel) ?_
    refine DWp.evs 3 rfl ?_
    refine DWp.g rfl rfl rfl rfl (Gives.indexStr (b := (s.getD (4 * j) 0)) rfl rfl rfl rfl (by omega) (getD_some (by omega))) ?_
    refine DWp.evs 4 rfl ?_
    refine DWp.g rfl rfl rfl rfl (Gives.indexStr (b := (s.getD (4 * j + 1) 0)) rfl rfl rfl rfl (by rw [k1]; omega) (by rw [k1]; exact getD_some (by omega))) ?_
    refine DWp.evs 6 rfl ?_
    refine DWp.g rfl rfl rfl rfl (Gives.indexStr (b := (s.getD (4 * j + 2) 0)) rfl rfl rfl rfl (by rw [k2]; omega) (by rw [k2]; exact getD_some (by omega))) ?_
    refine DWp.evs 6 rfl ?_
    refine DWp.g rfl rfl rfl rfl (Gives.indexStr (b := (s.getD (4 * j + 3) 0)) rfl rfl rfl rfl (by rw [k3]; omega) (by rw [k3]; exact getD_some (by omega))) ?_
    refine DWp.evs 3 rfl ?_
    refine DWp.stepAll rfl rfl rfl rfl (Step.buildSlice rfl rfl rfl ?_); intro Lp1 hBLp1 hLLp1
    refine DWp.stepAll rfl rfl rfl rfl (Step.appendAt [_] rfl rfl rfl rfl rfl rfl (by decide) rfl rfl hown (Reads.row (k := 1) (sz := 1) (.head _) (Nat.le_of_ble_eq_true rfl)) rfl (by show (_ + 1) * 4 ≤ _; omega) (by unfold maxLen; omega) ?_); intro v2 es2 ho2 _
    refine DWp.drop0 (List.sublist_cons_self _ _) ?_
    refine DWp.evs 1 rfl ?_
    refine DWp.nil ?_
    refine Wp.region ?_
    refine OWp.evs 3 rfl ?_
    refine OWp.nil ?_
    refine ⟨(j + 1, v2, es2), by simp only; omega, ⟨by simp only; omega, ?_⟩, .cons rfl (.cons rfl (.cons' rfl (int_eq (by simp only; rw [i64_id] <;> omega)) (.nil _))), .refl _⟩
    simp only
    rw [lewords_snoc, u32s_snoc, hr]
    exact own_last ho2 (int_eq le_word)
  have h1 := of_decide_eq_false h1
  obtain rfl : j = n := by omega
  refine Wp.exit ?_
  refine Wp.seq (Wp.region ?_)
  refine OWp.evs 2 rfl ?_
  refine OWp.nil ?_
  refine Wp.ret ⟨trivial, _, ⟨_, _, rfl, rfl, rfl⟩, ?_⟩
  exact H _ _ hown
theorem rwithC {a b : List UInt8} (hl : a.length ≤ b.length) (ha : a.length ≤ 100000) (H : Q (.string (str (xors a b))) S) :
    CallWp Tryd.prog B 62 #[.string (str a), .string (str b)] Q S := by
  refine CallWp.dropRet ?_
  refine CallWp.enter (args := [_, _]) Tryd.func62 rfl Tryd.ntmps62 rfl ?_
  refine Wp.seq (Wp.region ?_)
  refine OWp.evs 1 rfl ?_
  refine OWp.nil ?_
  refine Wp.seq (Wp.region ?_)
  refine OWp.evs 1 rfl ?_
  refine OWp.nil ?_
  refine Wp.seq ?_
  refine Wp.seq (Wp.region ?_)
  refine OWp.evs 1 rfl ?_
  refine OWp.nil ?_
  refine Wp.block ?_
  refine Wp.loopS (α := Nat × Value × Ents) (fun z => a.length - z.1) (fun z => [(0, .string (str a)), (1, .string (str b)), (5, z.2.1), (6, .int .i64 (z.1 : Int))]) (fun z => z.2.2 ++ S) (fun z => z.1 ≤ a.length ∧ Own B 5 1 z.2.1 z.1 (byteCells ((List.range z.1).map (mixB a b))) z.2.2) (0, .slice none 0 0, []) ?_ (.refl _) ⟨Nat.zero_le _, Own.nil _ _ _⟩ ?_
  · exact .cons rfl (.cons rfl (.cons rfl (.cons rfl (.nil _))))
  rintro ⟨j, v, es⟩ ⟨hj, hown⟩
  simp only at hj hown ⊢
  refine Wp.seq ?_
  refine Wp.seq (Wp.region ?_)
  refine OWp.evs 4 rfl ?_
  refine OWp.nil ?_
  refine Wp.cond rfl (fun h1 => ?_) (fun h1 => ?_)
  · have h1 := of_decide_eq_true h1
    have hj2 : j < a.length := by omega
    refine Wp.skip ?_
    refine Wp.seq ?_
    refine Wp.block ?_
    refine Wp.regionDraw [0, 1, 2, 3, 4, 5, 6, 7, 8, 9, 10] [8, 9] rfl (by decide +kernel) ?_
    refine DWp.evs 3 rfl ?_
    refine DWp.g rfl rfl rfl rfl (Gives.indexStr (b := (a.getD j 0)) rfl rfl rfl rfl (by omega) (getD_some (by omega))) ?_
    refine DWp.evs 2 rfl ?_
    refine DWp.g rfl rfl rfl rfl (Gives.indexStr (b := (b.getD j 0)) rfl rfl rfl rfl (by omega) (getD_some (by omega))) ?_
    refine DWp.evs 1 rfl ?_
    refine DWp.stepAll rfl rfl rfl rfl (Step.buildSlice rfl rfl rfl ?_); intro Lp1 hBLp1 hLLp1
    refine DWp.stepAll rfl rfl rfl rfl (Step.appendAt [_] rfl rfl rfl rfl rfl rfl (by decide) rfl rfl hown (Reads.row (k := 1) (sz := 1) (.head _) (Nat.le_of_ble_eq_true rfl)) rfl (by show (_ + 1) * 1 ≤ _; omega) (by unfold maxLen; omega) ?_); intro v2 es2 ho2 _
    refine DWp.drop0 (List.sublist_cons_self _ _) ?_
    refine DWp.evs 1 rfl ?_
    refine DWp.nil ?_
    refine Wp.region ?_
    refine OWp.evs 3 rfl ?_
    refine OWp.nil ?_
    refine ⟨(j + 1, v2, es2), by simp only; omega, ⟨by simp only; omega, ?_⟩, .cons rfl (.cons rfl (.cons rfl (.cons' rfl (int_eq (i64_inc (by omega))) (.nil _)))), .refl _⟩
    simp only
    rw [range_snoc, bc_snoc]
    exact own_last ho2 (int_eq (xor8 _ _))
  have h1 := of_decide_eq_false h1
  obtain rfl : j = a.length := by omega
  have hx : (List.range a.length).map (mixB a b) = xors a b := by rw [← rowAt_mix hl]; simp [rowAt]
  refine Wp.exit ?_
  refine Wp.seq (Wp.region ?_)
  refine OWp.evs 1 rfl ?_
  refine OWp.gives rfl rfl (Gives.bytesToStr (F := es) (l := (List.range a.length).map (mixB a b)) (k := a.length) rfl rfl rfl rfl rfl hown.reads) (fun x hx => List.mem_append_left _ hx) ?_
  refine OWp.evs 1 rfl ?_
  refine OWp.nil ?_
  refine Wp.ret ⟨trivial, _, ⟨_, _, rfl, rfl, rfl⟩, ?_⟩
  exact ⟨S, List.sublist_append_right _ _, by rw [hx]; exact H⟩
end
end Go.Proofs.D
