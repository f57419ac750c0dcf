/- A layer over the weakest preconditions of the model: what is known of memory and of the slots, told by rules. -/
import Derived.Test.YtnjgekonoladfaaLgRules
namespace Go.Lg
open Go.RowKit (Below)

section
variable {P : Program} {B n : Nat} {E : Env} {S : Ents} {o : Oper} {K : Env → Ents → Prop}

/-- make([]T, len, cap). -/
theorem Step.makeSlice {t e : TypeId} {x y : Operand} {len cap : Nat} {kl kc : IntKind} {i : TypeInfo} {z : Value} (hd : dstOk n o.dst = true) (ho : o.op = .makeSlice t x y)
    (hu : P.underlying t = some (.slice e)) (hi : P.info? e = some i) (hz : i.zero = some z) (hs : z.cells.size = i.size) (hs0 : 0 < i.size)
    (hx : opd E x = some (.int kl len)) (hy : opd E y = some (.int kc cap)) (hlc : len ≤ cap) (hb : i.bytes * cap ≤ 281474976710656) (hm : cap ≤ 9223372036854775807)
    (h : ∀ L, B ≤ L → (∀ x ∈ S, x.1 < L) → K (putE E o.dst (.slice (some ⟨L, 0, none⟩) len cap)) ((L, cel (zeros (cellsOf z) cap) e) :: S)) : Step P B n o K E S := by
  refine Step.makes (v := fun L => .slice (some ⟨L, 0, none⟩) len cap) hd (fun a w hS hA => ?_) h
  have h1 := run_make (P := P) w t e i z hu hi hz kl kc (len : Int) (cap : Int) (by omega) (by omega) (by
    have : (i.bytes : Int) * cap = ((i.bytes * cap : Nat) : Int) := by simp
    rw [this]; omega) (by omega)
  have h2 : madeCells z.cells (cap * i.size) = (zeros (cellsOf z) cap).toArray := by
    have hc := cellsOf_eq z
    have hl : (cellsOf z).length = i.size := by rw [← hs, hc]; simp
    have := range_zeros (cellsOf z) cap (by omega)
    rw [hl] at this
    rw [← this, hc]
    rfl
  simp only [execOp, ho, opd_sound hA hx, opd_sound hA hy, Sem.run_bind, h1, Result.andThen_ok, Int.toNat_natCast, h2, Sem.run_pure]

/-- A slice that is nil, or a row of the call's own. -/
def Own (B : Nat) (e : TypeId) (sz : Nat) (v : Value) (k : Nat) (xs : List Value) (es : Ents) : Prop :=
  xs.length = k * sz ∧
  ((v = .slice none 0 0 ∧ k = 0 ∧ es = []) ∨
   ∃ b cap cur, v = .slice (some ⟨b, 0, none⟩) k cap ∧ es = [(b, cel cur e)] ∧ B ≤ b ∧ k ≤ cap ∧ cap ≤ maxLen ∧ cur.length = cap * sz ∧ cur.take (k * sz) = xs)

theorem Own.nil (B : Nat) (e : TypeId) (sz : Nat) : Own B e sz (.slice none 0 0) 0 [] [] := ⟨by simp, .inl ⟨rfl, rfl, rfl⟩⟩

theorem Own.row {e : TypeId} {sz b k : Nat} {xs : List Value} (hB : B ≤ b) (hl : xs.length = k * sz) (hm : k ≤ maxLen) : Own B e sz (.slice (some ⟨b, 0, none⟩) k k) k xs [(b, cel xs e)] :=
  ⟨hl, .inr ⟨b, k, xs, rfl, rfl, hB, Nat.le_refl _, hm, hl, by rw [← hl, List.take_length]⟩⟩

theorem Own.of_new {e : TypeId} {sz : Nat} {v : Value} {k : Nat} {xs : List Value} {w w' : World} {R : Ents} (hS : Sim B R w)
    (h : w'.ownsRow w.heap.size e sz v k xs) (hg : w.grownBy w' none) : ∃ es, Own B e sz v k xs es ∧ Sim B (es ++ R) w' := by
  have hkeep : ∀ x ∈ R, w'.heap[x.1]? = some x.2 := fun x hx => by rw [hg.block x.1 (hS.lt hx) (by simp)]; exact hS.holds x hx
  obtain ⟨hl, h⟩ := h
  rcases h with ⟨rfl, rfl⟩ | ⟨g, cap, cur, rfl, hB, hh, hk, hm, hc, ht⟩
  · exact ⟨[], ⟨hl, .inl ⟨rfl, rfl, rfl⟩⟩, ⟨by simpa using hkeep, by simpa using hS.own, Nat.le_trans hS.base hg.size⟩⟩
  · refine ⟨[(g, cel cur.toList e)], ⟨hl, .inr ⟨g, cap, cur.toList, rfl, rfl, Nat.le_trans hS.base hB, hk, hm, by simpa using hc, by simpa using ht⟩⟩, ?_, ?_, Nat.le_trans hS.base hg.size⟩
    · intro x hx
      simp at hx
      rcases hx with rfl | hx
      · simpa [cel] using hh
      · exact hkeep x hx
    · refine List.pairwise_cons.2 ⟨fun x hx e' => ?_, hS.own⟩
      have := hS.lt hx
      simp only at e'
      omega

theorem below_grown {w w' : World} (hS : B ≤ w.heap.size) (hg : w.grownBy w' none) : Below B w w' :=
  ⟨hg.os, hg.tape, hg.output, hg.size, fun k hk => hg.block k (by omega) (by simp)⟩

/-- What is read of a slice: its elements' cells. -/
def Reads (S : Ents) (sz : Nat) (v : Value) (k : Nat) (xs : List Value) : Prop :=
  xs.length = k * sz ∧
  (((∃ a c, v = .slice a 0 c) ∧ k = 0) ∨ ∃ b o cap l e fz, v = .slice (some ⟨b, o, none⟩) k cap ∧ (b, cel l e fz) ∈ S ∧ o + k * sz ≤ l.length ∧ (l.drop o).take (k * sz) = xs)

theorem Reads.mono {S' : Ents} {sz k : Nat} {v : Value} {xs : List Value} (h : Reads S sz v k xs) (hs : ∀ x ∈ S, x ∈ S') : Reads S' sz v k xs := by
  obtain ⟨hl, h⟩ := h
  refine ⟨hl, h.imp id ?_⟩
  rintro ⟨b, o, cap, l, e, fz, h1, h2, h3, h4⟩
  exact ⟨b, o, cap, l, e, fz, h1, hs _ h2, h3, h4⟩

theorem Reads.nil (S : Ents) (sz : Nat) : Reads S sz (.slice none 0 0) 0 [] := ⟨by simp, .inl ⟨⟨_, _, rfl⟩, rfl⟩⟩

theorem Reads.empty (S : Ents) (sz : Nat) (a : Option Addr) (c : Nat) : Reads S sz (.slice a 0 c) 0 [] := ⟨by simp, .inl ⟨⟨_, _, rfl⟩, rfl⟩⟩

theorem Reads.row {b sz k cap : Nat} {l : List Value} {e : TypeId} {fz : Nat × Nat} (hm : (b, cel l e fz) ∈ S) (hk : k * sz ≤ l.length) : Reads S sz (.slice (some ⟨b, 0, none⟩) k cap) k (l.take (k * sz)) :=
  ⟨by rw [List.length_take]; omega, .inr ⟨b, 0, cap, l, e, fz, rfl, hm, by omega, by simp⟩⟩

theorem Own.reads {e : TypeId} {sz : Nat} {v : Value} {k : Nat} {xs : List Value} {es : Ents} (h : Own B e sz v k xs es) : Reads es sz v k xs := by
  obtain ⟨hl, h⟩ := h
  refine ⟨hl, ?_⟩
  rcases h with ⟨rfl, rfl, rfl⟩ | ⟨b, cap, cur, rfl, rfl, hB, hk, hm, hc, ht⟩
  · exact .inl ⟨⟨_, _, rfl⟩, rfl⟩
  · have : k * sz ≤ cap * sz := Nat.mul_le_mul_right sz hk
    exact .inr ⟨b, 0, cap, cur, e, (0, 0), rfl, by simp, by omega, by simpa using ht⟩

theorem Reads.cells {b o sz k cap : Nat} {xs : List Value} (h : Reads S sz (.slice (some ⟨b, o, none⟩) k cap) k xs) {w : World} (hS : ∀ x ∈ S, w.heap[x.1]? = some x.2) :
    ∀ j u, xs[j]? = some u → w.cell? ((⟨b, o, none⟩ : Addr).add j) = some u := by
  obtain ⟨hl, h⟩ := h
  rcases h with ⟨⟨a', c', h⟩, rfl⟩ | ⟨b', o', cap', l, e, fz, hv, hm, hle, rfl⟩
  · have : xs = [] := List.eq_nil_of_length_eq_zero (by simpa using hl)
    subst this
    intro j u hj
    simp at hj
  · cases hv
    intro j u hj
    rw [Addr.add_lit]
    rw [List.getElem?_take] at hj
    split at hj
    · simp only [World.cell?, hS _ hm]
      simpa using hj
    · cases hj

/-- Whatever the append does with capacities: the row that it leaves. -/
theorem append_core {t ty e : TypeId} {i : TypeInfo} {z : Value} (ht : P.underlying t = some (.slice e)) (hi : P.info? e = some i) (hz : i.zero = some z) (hzs : z.cells.size = i.size) (hsz : 0 < i.size)
    {v x : Value} {k m : Nat} {xs news : List Value} {es R : Ents} {w : World} (hS : Sim B (es ++ R) w) (hown : Own B e i.size v k xs es) (hx : Reads (es ++ R) i.size x m news)
    (h1 : news.all (·.oneCell') = true) (hbytes : (k + m) * i.bytes ≤ 140737488355328) (h63 : k + m ≤ maxLen) :
    ∃ v' w' es', (Builtin.append_ #[t, t] ty #[v, x]).run P w = .ok v' w' ∧ Own B e i.size v' (k + m) (xs ++ news) es' ∧ Sim B (es' ++ R) w' ∧ Below B w w' ∧ (v' = .slice none 0 0 ↔ v = .slice none 0 0 ∧ m = 0) := by
  have hR : Sim B R w := hS.sublist (List.sublist_append_right es R)
  have hone : ∀ u ∈ news, u.oneCell' = true := fun u hu => List.all_eq_true.1 h1 u hu
  have hown' := hown
  obtain ⟨hl, hv⟩ := hown'
  -- nothing is appended: a nil source
  have hx' := hx
  obtain ⟨hnl, hxv⟩ := hx'
  rcases hxv with ⟨⟨a', c', rfl⟩, rfl⟩ | ⟨b, o', cap, l, e', fz, rfl, hm, hle, hnews⟩
  · have hn : news = [] := List.eq_nil_of_length_eq_zero (by simpa using hnl)
    subst hn
    have hrun : (Builtin.append_ #[t, t] ty #[v, .slice a' 0 c']).run P w = .ok v w := by
      rcases hv with ⟨rfl, rfl, rfl⟩ | ⟨b, cap, cur, rfl, rfl, hB, hk, hm, hc, htk⟩ <;> cases a'
      · simp [Builtin.append_, run_underlying ht, sizeOf, typeInfo, hi, Builtin.lenOf, Builtin.firstCells]
      · simp [Builtin.append_, run_underlying ht, sizeOf, typeInfo, hi, Builtin.lenOf, Builtin.firstCells, loadCells, loadCellsFrom]
      · simp [Builtin.append_, run_underlying ht, sizeOf, typeInfo, hi, Builtin.lenOf, Builtin.firstCells, hk, storeCells]
      · simp [Builtin.append_, run_underlying ht, sizeOf, typeInfo, hi, Builtin.lenOf, Builtin.firstCells, hk, storeCells, loadCells, loadCellsFrom]
    refine ⟨v, w, es, hrun, by simpa using hown, hS, Below.refl B w, by simp⟩
  · have hcells := hx.cells hS.holds
    rcases hv with ⟨rfl, rfl, rfl⟩ | ⟨g, gcap, cur, rfl, rfl, hB, hk, hmx, hc, htk⟩
    · have hxs : xs = [] := List.eq_nil_of_length_eq_zero (by simpa using hl)
      subst hxs
      obtain ⟨v', w', hrun, ho, hg, hn⟩ := run_append_own (P := P) w w.heap.size t ty e i z i.size i.bytes ht hi hz rfl rfl hzs hsz (.slice none 0 0) 0 [] (World.ownsRow_nil w _ e i.size) ⟨b, o', none⟩ m cap news hnl hcells hone h63 hbytes (Nat.le_refl _)
      obtain ⟨es', h1, h2⟩ := Own.of_new hR ho hg
      exact ⟨v', w', es', hrun, h1, h2, below_grown hR.base hg, hn⟩
    · by_cases hroom : k + m ≤ gcap
      · have hgb : w.heap[g]? = some (.cells cur.toArray e (0, 0)) := hS.holds (g, cel cur e) (by simp)
        have hfit : k * i.size + news.length ≤ cur.toArray.size := by
          have : (k + m) * i.size ≤ gcap * i.size := Nat.mul_le_mul_right _ hroom
          rw [hnl, List.size_toArray, hc, ← Nat.add_mul]; exact this
        have hrun := run_append_room (P := P) w t ty e i ht hi g k gcap cur.toArray hgb ⟨b, o', none⟩ m cap news hnl hcells hone hroom hfit
        have hfit' : k * i.size + news.length ≤ cur.length := by simpa using hfit
        refine ⟨_, _, [(g, cel (cur.take (k * i.size) ++ news ++ cur.drop (k * i.size + news.length)) e)], hrun, ?_, ?_, ?_, by simp⟩
        · refine ⟨by rw [List.length_append, hl, hnl, Nat.add_mul], .inr ⟨g, gcap, _, rfl, rfl, hB, hroom, hmx, ?_, ?_⟩⟩
          · simp only [List.length_append, List.length_take, List.length_drop]; omega
          · have : (k + m) * i.size = (cur.take (k * i.size) ++ news).length := by simp only [List.length_append, List.length_take, hnl, Nat.add_mul]; omega
            rw [this, List.take_left, htk]
        · refine Sim.turn (i := 0) (b := g) hS rfl rfl hB ?_ (fun q hq => setRow_other w g q _ hq) (by simp)
          simpa using setRow_heap w g _ _ e (0, 0) hgb
        · exact below_setRow hB _
      · have hold : ∀ j u, xs[j]? = some u → w.cell? ((⟨g, 0, none⟩ : Addr).add j) = some u :=
          ((hown.reads).mono (S' := [(g, cel cur e)] ++ R) (fun x hx => by simp at hx; simp [hx])).cells hS.holds
        obtain ⟨v', w', hrun, ho, hg⟩ := run_append_arg_grows (P := P) w t ty e i z i.size i.bytes ht hi hz rfl rfl hzs hsz ⟨g, 0, none⟩ k gcap xs hl hold ⟨b, o', none⟩ m cap news hnl hcells (by omega) h63 hbytes
        obtain ⟨es', h1, h2⟩ := Own.of_new hR ho hg
        refine ⟨v', w', es', hrun, h1, h2, below_grown hR.base hg, ?_⟩
        constructor
        · intro hv'
          subst hv'
          rcases h1.2 with ⟨_, h, _⟩ | ⟨_, _, _, h, _⟩
          · omega
          · cases h
        · rintro ⟨h, _⟩; cases h

theorem Step.append {t e : TypeId} {i : TypeInfo} {z : Value} {x y : Operand} {v u : Value} {k m : Nat} {xs news : List Value} {es R : Ents}
    (hd : dstOk n o.dst = true) (ho : o.op = .call ⟨.builtin .append, #[x, y], #[t, t]⟩)
    (ht : P.underlying t = some (.slice e)) (hi : P.info? e = some i) (hz : i.zero = some z) (hzs : z.cells.size = i.size) (hsz : 0 < i.size)
    (hx : opd E x = some v) (hy : opd E y = some u) (hSR : ∀ w, Sim B S w → Sim B (es ++ R) w) (hown : Own B e i.size v k xs es) (hr : Reads (es ++ R) i.size u m news)
    (h1 : news.all (·.oneCell') = true) (hbytes : (k + m) * i.bytes ≤ 140737488355328) (h63 : k + m ≤ maxLen)
    (h : ∀ v' es', Own B e i.size v' (k + m) (xs ++ news) es' → (v' = .slice none 0 0 ↔ v = .slice none 0 0 ∧ m = 0) → K (putE E o.dst v') (es' ++ R)) : Step P B n o K E S := by
  intro a w hS hA
  unfold Oper.wp
  obtain ⟨v', w', es', hrun, hown', hS', hb, hn⟩ := append_core (P := P) (ty := o.type) ht hi hz hzs hsz (hSR w hS) hown hr h1 hbytes h63
  have hr : (execOp a.eval o).run P w = .ok (.value v') w' := by
    simp [execOp, ho, resolve, invoke, builtin, opd_sound hA hx, opd_sound hA hy, hrun]
  rw [hr]
  exact ⟨hb, _, _, hS', hA.putE hd _, h v' es' hown' hn⟩

end
end Go.Lg
