/- A layer over the weakest preconditions of the model: what is known of memory and of the slots, told by rules. -/
import Derived.Test.YtlfhhkdjahcglaaGreatDoorLgM4x2b7b
import Derived.Test.YtlfhhkdjahcglaaGreatDoorLgM2x52c3
import Derived.Scope
/- Calls of function values that bear arguments; maps from whole numbers to any values. -/
namespace Go.Lg
open Go.RowKit (Below)
open Go.MapKept (run_findKey run_checkKey run_setObj_map heap_set IsKey)
section
variable {P : Program} {B n : Nat} {E : Env} {S : Ents} {o : Oper} {K : Env → Ents → Prop}
theorem Step.callB {c : Call} {f : FuncId} {bnd cap : Array Value} {x : Operand} {vs : List Value} (hd : dstOk n o.dst = true)
    (ho : o.op = .call c) (hc : c.callee = .value x) (hx : opd E x = some (.func (.func f) bnd cap)) (hvs : opds E c.args.toList = some vs)
    (hbody : callable P f = true) (h : CallWp P B f (bnd.toList ++ vs ++ cap.toList).toArray (fun v S' => K (putE E o.dst v) S') S) : Step P B n o K E S := by
  intro a w hS hA
  unfold Oper.wp
  have hargs : c.args.map a.eval = vs.toArray := by
    apply Array.ext'
    simpa using opds_sound hA hvs
  have e : (execOp a.eval o).run P w = .ok (.enter f (bnd.toList ++ vs ++ cap.toList).toArray) w := by
    have hh : execOp a.eval o = callFunc f (bnd ++ vs.toArray ++ cap) := by
      simp [execOp, ho, resolve, hc, opd_sound hA hx, Deferred.ofValue, hargs, invoke]
    rw [hh, callable_run hbody]
    congr 2
    apply Array.ext'
    simp
  rw [e]
  simp only [Oper.upon]
  refine (h w hS).mono ?_
  rintro e w' ⟨v, S', rfl, hb, hs, q⟩
  exact ⟨hb, _, S', hs, hA.putE hd v, q⟩

/-! Maps: entries, each a key, what it holds, and its stamp. -/
abbrev MEnt := Int × Value × Nat
def mapE (L : List MEnt) : List MapEntry := L.map fun x => { key := .int .i64 x.1, val := x.2.1, born := x.2.2 }
def mapS (L : List MEnt) (c : Nat) : Obj := .map (mapE L).toArray c
def findL (k : Int) : List MEnt → Nat → Option (Nat × Value)
  | [], _ => none
  | x :: L, j => if k = x.1 then some (j, x.2.1) else findL k L (j + 1)
def delL (k : Int) : List MEnt → List MEnt
  | [] => []
  | x :: L => if k = x.1 then L else x :: delL k L
end
end Go.Lg

namespace Go.Lg
open Go.RowKit (Below)
section
variable {P : Program} {B n : Nat} {E : Env} {S : Ents} {o : Oper} {K : Env → Ents → Prop}

def noGotoQ (Q : Exit → Env → Ents → Prop) : Exit → Env → Ents → Prop
  | .goto _, _, _ => False
  | e, E, S => Q e E S
theorem Wp.label {l : Nat} {Q : Exit → Env → Ents → Prop} (h : Q .normal E S) : Wp P B n (.label l) Q E S :=
  fun _ w hS hA => wp_label ⟨trivial, E, S, Below.refl B w, hS, hA, h⟩

/-- clear(s) of a slice that is not empty. -/
theorem Step.clear {t e : TypeId} {x : Operand} {b o' k cap : Nat} (i : Nat) {z l : List Value} (l' : List Value) {t' : TypeId} {fz : Nat × Nat} {S' : Ents} (hd : dstOk n o.dst = true) (ho : o.op = .call ⟨.builtin .clear, #[x], #[t]⟩)
    (hu : P.underlying t = some (.slice e)) (hz : zeroOf P e = some z) (hz0 : 0 < z.length) (hone : z.all (·.oneCell') = true) (hx : opd E x = some (.slice (some ⟨b, o', none⟩) k cap)) (hk : 0 < k) (he : entAt S i = some (b, cel l t' fz)) (hB : B ≤ b) (hf : Unfz fz l.length)
    (hl : o' + k * z.length ≤ l.length) (hw : wr l o' (zeros z k) = l') (hS' : setEnt S i (b, cel l' t' fz) = some S') (h : K (putE E o.dst (.tuple #[])) S') : Step P B n o K E S := by
  intro a w hS hA
  unfold Oper.wp
  have hgb := hS.holds _ (entAt_mem he)
  obtain ⟨zv, hzr, hzc⟩ := zeroOf_run (P := P) hz w
  have hzl := zeros_length z k
  have hones : ∀ v ∈ zeros z k, v.oneCell' = true := by
    intro v hv
    have : ∀ k, ∀ v ∈ zeros z k, v.oneCell' = true := by
      intro k
      induction k with
      | zero => intro v hv; cases hv
      | succ k ih =>
        intro v hv
        rcases List.mem_append.1 hv with h | h
        · exact List.all_eq_true.1 hone v h
        · exact ih v h
    exact this k v hv
  have hc : Builtin.zeroCells zv.cells k = (zeros z k).toArray := by
    have := range_zeros z k hz0
    rw [hzc, ← this]
    simp [Builtin.zeroCells]
  have hst := storeCells_run (P := P) b o' t' fz (zeros z k) 0 l.toArray w hgb (by simp only [List.size_toArray]; omega) (by simpa using hf) hones
  have hr : (execOp a.eval o).run P w = .ok (.value (.tuple #[])) (w.setRow b l'.toArray) := by
    have hclear : (Builtin.clear_ #[t] o.type #[.slice (some ⟨b, o', none⟩) k cap]).run P w = .ok (.tuple #[]) (w.setRow b l'.toArray) := by
      obtain ⟨k, rfl⟩ : ∃ j, k = j + 1 := ⟨k - 1, by omega⟩
      rw [← hw]
      simp only [Nat.add_zero] at hst
      simp [Builtin.clear_, run_underlying hu, hzr, hc, hst, wr]
    simp [execOp, ho, resolve, invoke, builtin, opd_sound hA hx, hclear]
  rw [hr]
  refine ⟨below_setRow hB _, _, S', ?_, hA.putE hd _, h⟩
  exact hS.turn he hS' hB (setRow_heap w b _ _ t' fz hgb) (fun k hk => setRow_other w b k _ hk) (by simp)
end
end Go.Lg
namespace Go.Lg
open Go.RowKit (Below)
section
variable {P : Program} {B n : Nat} {E : Env} {S : Ents} {o : Oper} {K : Env → Ents → Prop}
/-- s[lo:hi] of a slice, at its very end too. -/
theorem Gives.sliceEnd {t e : TypeId} {x : Operand} {lo hi : Option Operand} {b o' len cap sz l h' : Nat} (ho : o.op = .slice t x lo hi none)
    (hu : P.underlying t = some (.slice e)) (hs : sizeOfT P e = some sz) (hx : opd E x = some (.slice (some ⟨b, o', none⟩) len cap)) (hlo : Bound E lo 0 l) (hhi : Bound E hi len h') (h1 : l ≤ h') (h2 : h' ≤ cap) :
    Gives P n [] E o (.slice (some ⟨b, if cap = l then o' else o' + l * sz, none⟩) (h' - l) (cap - l)) := by
  intro a w hS hA
  have e1 := hhi.run (P := P) hA w cap h2 .sliceAcap
  have e2 := hlo.run (P := P) hA w h' h1 .sliceB
  have key : (Instr.sliceBounds true len cap (lo.map a.eval) (hi.map a.eval) none).run P w = .ok (l, h', cap) w := by
    simp only [Instr.sliceBounds, Sem.run_bind, Sem.run_pure, Result.andThen_ok]
    cases hi with
    | none =>
      simp only [Bound] at hhi; subst hhi
      cases lo with
      | none => simp only [Bound] at hlo; subst hlo; simp
      | some y => simp only [Option.map_some] at e2 ⊢; simp [e2]
    | some z =>
      simp only [Option.map_some] at e1 ⊢
      cases lo with
      | none => simp only [Bound] at hlo; subst hlo; simp [e1]
      | some y => simp only [Option.map_some] at e2 ⊢; simp [e1, e2]
  simp only [execOp, ho, opd_sound hA hx, Option.map_none, Instr.sliceAt, Sem.run_bind, run_underlying hu, Result.andThen_ok]
  simp only [Instr.slice, Sem.run_bind, run_underlying hu, Result.andThen_ok, key, sizeOfT_run hs, Sem.run_pure]
  split
  · rfl
  · simp [Addr.add_lit]

end
end Go.Lg

/- Rows of the call's own that begin anywhere in their block: what is left of a queue whose front was cut off. -/
namespace Go.Lg
open Go.RowKit (Below)
section
variable {P : Program} {B n : Nat} {K : Env → Ents → Prop} {E : Env} {S : Ents} {o : Oper}

def OwnAt (B : Nat) (e : TypeId) (sz : Nat) (v : Value) (k : Nat) (xs : List Value) (es : Ents) : Prop :=
  xs.length = k * sz ∧
  ((v = .slice none 0 0 ∧ k = 0 ∧ es = []) ∨
   ∃ b off cap cur, v = .slice (some ⟨b, off, none⟩) k cap ∧ es = [(b, cel cur e)] ∧ B ≤ b ∧ k ≤ cap ∧ cap ≤ maxLen ∧ off + cap * sz ≤ cur.length ∧ (cur.drop off).take (k * sz) = xs)

theorem Own.at {e : TypeId} {sz : Nat} {v : Value} {k : Nat} {xs : List Value} {es : Ents} (h : Own B e sz v k xs es) : OwnAt B e sz v k xs es := by
  obtain ⟨hl, h | ⟨b, cap, cur, h1, h2, h3, h4, h5, h6, h7⟩⟩ := h
  · exact ⟨hl, .inl h⟩
  · exact ⟨hl, .inr ⟨b, 0, cap, cur, h1, h2, h3, h4, h5, by omega, by rw [List.drop_zero]; exact h7⟩⟩
theorem OwnAt.reads {e : TypeId} {sz : Nat} {v : Value} {k : Nat} {xs : List Value} {es : Ents} (h : OwnAt B e sz v k xs es) : Reads es sz v k xs := by
  obtain ⟨hl, ⟨rfl, rfl, rfl⟩ | ⟨b, off, cap, cur, rfl, rfl, _, h4, _, h6, h7⟩⟩ := h
  · exact ⟨hl, .inl ⟨⟨none, 0, rfl⟩, rfl⟩⟩
  · refine ⟨hl, .inr ⟨b, off, cap, cur, e, (0, 0), rfl, .head _, ?_, h7⟩⟩
    have := Nat.mul_le_mul_right sz h4
    omega
/-- The front is cut off. -/
theorem OwnAt.tail {e : TypeId} {sz b off k cap : Nat} {x xs : List Value} {es : Ents} (h : OwnAt B e sz (.slice (some ⟨b, off, none⟩) (k + 1) cap) (k + 1) (x ++ xs) es) (hx : x.length = sz) : OwnAt B e sz (.slice (some ⟨b, off + sz, none⟩) k (cap - 1)) k xs es := by
  obtain ⟨hl, ⟨h, _, _⟩ | ⟨b', off', cap', cur, h1, rfl, hB, h4, h5, h6, h7⟩⟩ := h
  · cases h
  · cases h1
    rw [List.length_append, hx, Nat.add_mul, Nat.one_mul] at hl
    have h8 : cap * sz = sz + (cap - 1) * sz := by
      obtain ⟨c, rfl⟩ : ∃ c, cap = c + 1 := ⟨cap - 1, by omega⟩
      rw [Nat.add_sub_cancel, Nat.add_mul, Nat.one_mul, Nat.add_comm]
    refine ⟨by omega, .inr ⟨b, off + sz, cap - 1, cur, rfl, rfl, hB, by omega, by omega, by omega, ?_⟩⟩
    have h9 := congrArg (List.drop sz) h7
    rw [List.drop_take, List.drop_drop, ← hx, List.drop_left, hx] at h9
    rw [← h9]
    congr 1
    rw [Nat.add_mul, Nat.one_mul]
    omega
theorem OwnAt.tailE {e : TypeId} {sz b off k cap : Nat} {x xs : List Value} {es : Ents} (h : OwnAt B e sz (.slice (some ⟨b, off, none⟩) (k + 1) cap) (k + 1) (x ++ xs) es) (hx : x.length = sz) : OwnAt B e sz (.slice (some ⟨b, if cap = 1 then off else off + 1 * sz, none⟩) (k + 1 - 1) (cap - 1)) k xs es := by
  have h' := h.tail hx
  by_cases hc : cap = 1
  · subst hc
    obtain ⟨hl, ⟨h, _, _⟩ | ⟨b', off', cap', cur, h1, rfl, hB, h4, h5, h6, h7⟩⟩ := h
    · cases h
    · cases h1
      obtain ⟨hl', _⟩ := h'
      obtain rfl : k = 0 := by omega
      refine ⟨hl', .inr ⟨b, off, 0, cur, rfl, rfl, hB, by omega, by unfold maxLen; omega, by omega, ?_⟩⟩
      have : xs = [] := List.eq_nil_of_length_eq_zero (by omega)
      subst this
      simp
  · rw [if_neg hc, Nat.one_mul, Nat.add_sub_cancel]
    exact h'
theorem run_append_room_at (w : World) (t ty e : TypeId) (i : TypeInfo) (ht : P.underlying t = some (.slice e)) (hi : P.info? e = some i)
    (g off sLen sCap : Nat) (cur : Array Value) (hg : w.heap[g]? = some (.cells cur e (0, 0)))
    (a : Addr) (m c : Nat) (news : List Value) (hl : news.length = m * i.size) (hnews : ∀ j u, news[j]? = some u → w.cell? (a.add j) = some u) (h1 : ∀ u ∈ news, u.oneCell' = true)
    (hroom : sLen + m ≤ sCap) (hfit : off + sLen * i.size + news.length ≤ cur.size) :
    (Builtin.append_ #[t, t] ty #[.slice (some ⟨g, off, none⟩) sLen sCap, .slice (some a) m c]).run P w =
      .ok (.slice (some ⟨g, off, none⟩) (sLen + m) sCap) (w.setRow g (cur.toList.take (off + sLen * i.size) ++ news ++ cur.toList.drop (off + sLen * i.size + news.length)).toArray) := by
  have hf := run_firstCells_some (P := P) w i.size m a m c news hl hnews
  have hst := run_storeCells_at P g (off + sLen * i.size) e news 0 cur w hg (by simpa using hfit) h1
  simp only [Nat.add_zero] at hst
  simp [Builtin.append_, run_underlying ht, sizeOf, typeInfo, hi, Builtin.lenOf, hroom, hf, Addr.add_lit, hst]
theorem append_core_at {t ty e : TypeId} {i : TypeInfo} {z : Value} (ht : P.underlying t = some (.slice e)) (hi : P.info? e = some i) (hz : i.zero = some z) (hzs : z.cells.size = i.size) (hsz : 0 < i.size)
    {v x : Value} {k m : Nat} {xs news : List Value} {es R : Ents} {w : World} (hS : Sim B (es ++ R) w) (hown : OwnAt B e i.size v k xs es) (hx : Reads (es ++ R) i.size x m news)
    (h1 : news.all (·.oneCell') = true) (hbytes : (k + m) * i.bytes ≤ 140737488355328) (h63 : k + m ≤ maxLen) :
    ∃ v' w' es', (Builtin.append_ #[t, t] ty #[v, x]).run P w = .ok v' w' ∧ OwnAt B e i.size v' (k + m) (xs ++ news) es' ∧ Sim B (es' ++ R) w' ∧ Below B w w' := by
  have hR : Sim B R w := hS.sublist (List.sublist_append_right es R)
  have hone : ∀ u ∈ news, u.oneCell' = true := fun u hu => List.all_eq_true.1 h1 u hu
  have hown' := hown
  obtain ⟨hl, hv⟩ := hown'
  rcases hv with ⟨rfl, rfl, rfl⟩ | ⟨g, off, gcap, cur, rfl, rfl, hB, hk, hmx, hc, htk⟩
  · have hxs : xs = [] := List.eq_nil_of_length_eq_zero (by simpa using hl)
    subst hxs
    obtain ⟨v', w', es', a1, a2, a3, a4, _⟩ := append_core (P := P) (ty := ty) ht hi hz hzs hsz hS (Own.nil B e i.size) hx h1 hbytes h63
    exact ⟨v', w', es', a1, a2.at, a3, a4⟩
  · have hx' := hx
    obtain ⟨hnl, hxv⟩ := hx'
    rcases hxv with ⟨⟨a', c', rfl⟩, rfl⟩ | ⟨b, o', cap, l, e', fz, rfl, hm, hle, hnews⟩
    · have hn : news = [] := List.eq_nil_of_length_eq_zero (by simpa using hnl)
      subst hn
      have hrun : (Builtin.append_ #[t, t] ty #[.slice (some ⟨g, off, none⟩) k gcap, .slice a' 0 c']).run P w = .ok (.slice (some ⟨g, off, none⟩) k gcap) w := by
        cases a'
        · simp [Builtin.append_, run_underlying ht, sizeOf, typeInfo, hi, Builtin.lenOf, Builtin.firstCells, hk, storeCells]
        · simp [Builtin.append_, run_underlying ht, sizeOf, typeInfo, hi, Builtin.lenOf, Builtin.firstCells, hk, storeCells, loadCells, loadCellsFrom]
      exact ⟨_, w, _, hrun, by simpa using hown, hS, Below.refl B w⟩
    · have hcells := hx.cells hS.holds
      by_cases hroom : k + m ≤ gcap
      · have hgb : w.heap[g]? = some (.cells cur.toArray e (0, 0)) := hS.holds (g, cel cur e) (by simp)
        have hfit : off + k * i.size + news.length ≤ cur.toArray.size := by
          have h2 : (k + m) * i.size ≤ gcap * i.size := Nat.mul_le_mul_right _ hroom
          rw [Nat.add_mul] at h2
          rw [hnl, List.size_toArray]
          omega
        have hrun := run_append_room_at (P := P) w t ty e i ht hi g off k gcap cur.toArray hgb ⟨b, o', none⟩ m cap news hnl hcells hone hroom hfit
        have hfit' : off + k * i.size + news.length ≤ cur.length := by simpa using hfit
        refine ⟨_, _, [(g, cel (cur.take (off + k * i.size) ++ news ++ cur.drop (off + k * i.size + news.length)) e)], hrun, ?_, ?_, ?_⟩
        · refine ⟨by rw [List.length_append, hl, hnl, Nat.add_mul], .inr ⟨g, off, gcap, _, rfl, rfl, hB, hroom, hmx, ?_, ?_⟩⟩
          · simp only [List.length_append, List.length_take, List.length_drop]; omega
          · have e1 : (cur.take (off + k * i.size) ++ news ++ cur.drop (off + k * i.size + news.length)).drop off = (cur.drop off).take (k * i.size) ++ news ++ cur.drop (off + k * i.size + news.length) := by
              rw [List.append_assoc, List.drop_append_of_le_length (by rw [List.length_take]; omega), List.drop_take, Nat.add_sub_cancel_left, List.append_assoc]
            rw [e1, htk]
            have : (k + m) * i.size = (xs ++ news).length := by rw [List.length_append, hl, hnl, Nat.add_mul]
            rw [this, List.take_left]
        · refine Sim.turn (i := 0) (b := g) hS rfl rfl hB ?_ (fun q hq => setRow_other w g q _ hq) (by simp)
          simpa using setRow_heap w g _ _ e (0, 0) hgb
        · exact below_setRow hB _
      · have hold : ∀ j u, xs[j]? = some u → w.cell? ((⟨g, off, none⟩ : Addr).add j) = some u :=
          ((hown.reads).mono (S' := [(g, cel cur e)] ++ R) (fun x hx => by simp at hx; simp [hx])).cells hS.holds
        obtain ⟨v', w', hrun, ho, hg⟩ := run_append_arg_grows (P := P) w t ty e i z i.size i.bytes ht hi hz rfl rfl hzs hsz ⟨g, off, none⟩ k gcap xs hl hold ⟨b, o', none⟩ m cap news hnl hcells (by omega) h63 hbytes
        obtain ⟨es', a1, a2⟩ := Own.of_new hR ho hg
        exact ⟨v', w', es', hrun, a1.at, a2, below_grown hR.base hg⟩
/-- append to a row that begins anywhere. -/
theorem Step.appendQ {t e : TypeId} {i : TypeInfo} {z : Value} {x y : Operand} {v u : Value} {k m : Nat} {xs news : List Value} {es R : Ents} (A : Ents)
    (hd : dstOk n o.dst = true) (ho : o.op = .call ⟨.builtin .append, #[x, y], #[t, t]⟩)
    (ht : P.underlying t = some (.slice e)) (hi : P.info? e = some i) (hz : i.zero = some z) (hzs : z.cells.size = i.size) (hsz : 0 < i.size)
    (hx : opd E x = some v) (hy : opd E y = some u) (hown : OwnAt B e i.size v k xs es) (hr : Reads (A ++ (es ++ R)) i.size u m news)
    (h1 : news.all (·.oneCell') = true) (hbytes : (k + m) * i.bytes ≤ 140737488355328) (h63 : k + m ≤ maxLen)
    (h : ∀ v' es', OwnAt B e i.size v' (k + m) (xs ++ news) es' → K (putE E o.dst v') (A ++ (es' ++ R))) : Step P B n o K E (A ++ (es ++ R)) := by
  intro a w hS hA
  unfold Oper.wp
  have hS2 : Sim B (es ++ (A ++ R)) w := hS.perm (List.perm_append_comm_assoc A es R)
  obtain ⟨v', w', es', hrun, hown', hS', hb⟩ := append_core_at (P := P) (ty := o.type) ht hi hz hzs hsz hS2 hown (hr.mono fun q hq => by simp only [List.mem_append] at hq ⊢; rcases hq with h | h | h <;> simp [h]) h1 hbytes h63
  have hr : (execOp a.eval o).run P w = .ok (.value v') w' := by
    simp [execOp, ho, resolve, invoke, builtin, opd_sound hA hx, opd_sound hA hy, hrun]
  rw [hr]
  exact ⟨hb, _, _, hS'.perm (List.perm_append_comm_assoc es' A R), hA.putE hd _, h v' es' hown'⟩
end
end Go.Lg
