/- A layer over the weakest preconditions of the model: what is known of memory and of the slots, told by rules. -/
import Derived.Test.YtnjgekonoladfaaLgUse
import Derived.ChangeArms
import Derived.SizedLaws
namespace Go.Lg
open Go.RowKit (Below)

/-- All that memory holds. -/
def All (W : World) : Ents := (List.range W.heap.size).filterMap fun b => (W.heap[b]?).map fun o => (b, o)

theorem All.mem {W : World} {b : Nat} {o : Obj} (h : W.heap[b]? = some o) : (b, o) ∈ All W := by
  refine List.mem_filterMap.2 ⟨b, ?_, by simp [h]⟩
  obtain ⟨hb, _⟩ := Array.getElem?_eq_some_iff.1 h
  exact List.mem_range.2 hb

theorem All.of_mem {W : World} {x : Nat × Obj} (h : x ∈ All W) : W.heap[x.1]? = some x.2 := by
  obtain ⟨b, _, hx⟩ := List.mem_filterMap.1 h
  obtain ⟨o, ho, rfl⟩ := Option.map_eq_some_iff.1 hx
  exact ho

theorem All.lt {W : World} {x : Nat × Obj} (h : x ∈ All W) : x.1 < W.heap.size :=
  (Array.getElem?_eq_some_iff.1 (All.of_mem h)).1

theorem pairwise_of_all {α : Type} {R : α → α → Prop} : ∀ {l : List α}, (∀ x ∈ l, ∀ y, R x y) → l.Pairwise R
  | [], _ => .nil
  | x :: l, h => .cons (fun y _ => h x (by simp) y) (pairwise_of_all fun z hz => h z (by simp [hz]))

theorem All.sim (W : World) : Sim W.heap.size (All W) W :=
  ⟨fun _ => All.of_mem, pairwise_of_all fun _ hx _ _ => All.lt hx, Nat.le_refl _⟩

/-- What an argument of this type is, in memory. -/
inductive Rd (P : Program) (S : Ents) : TypeId → List Value → Prop
  | bool {t : TypeId} (h : P.underlying t = some .bool) (b : Bool) : Rd P S t [.bool b]
  | int {t : TypeId} {k : IntKind} (h : P.underlying t = some (.int k)) (n : Int) (w : (Lit.int k n).wf = true) : Rd P S t [.int k n]
  | str {t : TypeId} (h : P.underlying t = some .string) (l : List UInt8) (w : l.length ≤ reachBytes) : Rd P S t [.string ⟨⟨l⟩⟩]
  | slice {t e : TypeId} (h : P.underlying t = some (.slice e)) (v : Value) (rs : List (List Value)) (r : Reads S (P.cellsOf e) v rs.length rs.flatten)
      (w : rs.length * P.bytesOf e ≤ reachBytes) (hc : ∀ r ∈ rs, r.length = P.cellsOf e) (hr : ∀ r ∈ rs, Rd P S e r) (hcap : ∀ a n c, v = .slice a n c → n ≤ c) : Rd P S t [v]
  | struct {t : TypeId} {fs : Array Field} (h : P.underlying t = some (.struct fs)) (cs : List Value) (hl : cs.length = P.cellsOf t)
      (hr : ∀ f ∈ fs.toList, Rd P S f.type ((cs.drop f.offset).take (P.cellsOf f.type))) : Rd P S t cs

def plain (P : Program) : Nat → TypeId → Bool
  | 0, _ => false
  | m + 1, t => match P.underlying t with
    | some .bool => true
    | some (.int _) => true
    | some .string => true
    | some (.slice e) => Nat.ble 1 (P.cellsOf e) && plain P m e
    | some (.struct fs) => fs.toList.all fun f => plain P m f.type
    | _ => false

section
variable {P : Program} {S : Ents} {t : TypeId} {cs : List Value}

theorem Rd.open_bool (ht : P.underlying t = some .bool) (h : Rd P S t cs) : ∃ b, cs = [.bool b] := by
  cases h <;> simp_all
theorem Rd.open_int {k : IntKind} (ht : P.underlying t = some (.int k)) (h : Rd P S t cs) : ∃ n, cs = [.int k n] ∧ (Lit.int k n).wf = true := by
  cases h <;> simp_all
theorem Rd.open_str (ht : P.underlying t = some .string) (h : Rd P S t cs) : ∃ l : List UInt8, cs = [.string ⟨⟨l⟩⟩] ∧ l.length ≤ reachBytes := by
  cases h <;> simp_all
theorem Rd.open_slice {e : TypeId} (ht : P.underlying t = some (.slice e)) (h : Rd P S t cs) :
    ∃ (v : Value) (rs : List (List Value)), cs = [v] ∧ Reads S (P.cellsOf e) v rs.length rs.flatten ∧ rs.length * P.bytesOf e ≤ reachBytes ∧ (∀ r ∈ rs, r.length = P.cellsOf e) ∧ ∀ r ∈ rs, Rd P S e r := by
  cases h with
  | slice h v rs r w hc hr _ =>
    rw [ht] at h
    cases h
    exact ⟨v, rs, rfl, r, w, hc, hr⟩
  | _ => simp_all
theorem Rd.cap_le {e : TypeId} {a : Option Addr} {n c : Nat} (ht : P.underlying t = some (.slice e)) (h : Rd P S t [.slice a n c]) : n ≤ c := by
  cases h with
  | slice _ _ _ _ _ _ _ hcap => exact hcap a n c rfl
  | struct h cs hl hr => rw [ht] at h; cases h
theorem Rd.open_struct {fs : Array Field} (ht : P.underlying t = some (.struct fs)) (h : Rd P S t cs) :
    cs.length = P.cellsOf t ∧ ∀ f ∈ fs.toList, Rd P S f.type ((cs.drop f.offset).take (P.cellsOf f.type)) := by
  cases h with
  | struct h cs hl hr =>
    rw [ht] at h
    cases h
    exact ⟨hl, hr⟩
  | _ => simp_all
end

theorem weightsAll_mem {H : Type} {P : Program} {e : TypeId} : ∀ {ds : List (DataW H)} {d : DataW H}, d ∈ ds → ∀ n ∈ d.weights P e, n ∈ DataW.weightsAll P e ds
  | d0 :: ds, d, hd, n, hn => by
    simp only [DataW.weightsAll, List.mem_append]
    rcases List.mem_cons.1 hd with rfl | hd
    · exact .inl hn
    · exact .inr (weightsAll_mem hd n hn)

section
variable {H : Type} {enc : TypeId × Value → H} {P : Program} {W : World}

theorem flatten_get {α : Type} (c : Nat) : ∀ (rs : List (List α)), (∀ r ∈ rs, r.length = c) → ∀ i j, j < c → rs.flatten[i * c + j]? = (rs[i]?).bind (·[j]?)
  | [], _, i, j, _ => by simp
  | r :: rs, h, 0, j, hj => by
    have := h r (by simp)
    simp [List.getElem?_append, this, hj]
  | r :: rs, h, i + 1, j, hj => by
    have h1 := h r (by simp)
    have e : (i + 1) * c + j = c + (i * c + j) := by rw [Nat.add_mul]; omega
    have := flatten_get c rs (fun x hx => h x (by simp [hx])) i j hj
    rw [e, List.flatten_cons, List.getElem?_append_right (by omega), h1, Nat.add_sub_cancel_left, this]
    simp

theorem flatten_len {α : Type} (c : Nat) : ∀ (rs : List (List α)), (∀ r ∈ rs, r.length = c) → rs.flatten.length = rs.length * c
  | [], _ => by simp
  | r :: rs, h => by
    have := flatten_len c rs (fun x hx => h x (by simp [hx]))
    simp only [List.flatten_cons, List.length_append, h r (by simp), this, List.length_cons, Nat.add_mul]
    omega

/-- Cells that can be read lie in one block, in a row. -/
theorem rows_block {a : Addr} {c k : Nat} {rs : List (List Value)} (hc : 0 < c) (hk : 0 < k) (hl : rs.length = k)
    (h : ∀ i, i < k → ∃ r, rs[i]? = some r ∧ W.cells? 0 (a.add (i * c)) c = some r) :
    ∃ b o l e fz, a = ⟨b, o, none⟩ ∧ (b, cel l e fz) ∈ All W ∧ o + k * c ≤ l.length ∧ (l.drop o).take (k * c) = rs.flatten := by
  have cell : ∀ i, i < k → ∀ j, j < c → ∃ v, (rs[i]?).bind (·[j]?) = some v ∧ W.cell? ((a.add (i * c)).add j) = some v := by
    intro i hi j hj
    obtain ⟨r, hr, hw⟩ := h i hi
    obtain ⟨_, hlen, hg⟩ := World.cells?_some hw
    refine ⟨r[j], ?_, ?_⟩
    · simp [hr, hlen, hj]
    · rw [hg j hj]; simp [hlen, hj]
  obtain ⟨v0, _, h0⟩ := cell 0 hk 0 hc
  have hs := World.cell?_spot h0
  obtain ⟨b, o, sp⟩ := a
  simp [Addr.add] at hs h0
  subst hs
  have : ∃ l e fz, W.heap[b]? = some (.cells l e fz) := by
    unfold World.cell? at h0
    split at h0
    · rename_i c0 e0 f0 hb; exact ⟨c0, e0, f0, hb⟩
    · simp at h0
  obtain ⟨l, e, fz, hb⟩ := this
  have at_ : ∀ i, i < k → ∀ j, j < c → ∃ v, (rs[i]?).bind (·[j]?) = some v ∧ l[o + (i * c + j)]? = some v := by
    intro i hi j hj
    obtain ⟨v, hv, hw⟩ := cell i hi j hj
    refine ⟨v, hv, ?_⟩
    have e1 : ((⟨b, o, none⟩ : Addr).add (i * c)).add j = ⟨b, o + (i * c + j), none⟩ := by
      unfold Addr.add
      split <;> split <;> simp_all
      omega
    rw [e1] at hw
    simpa [World.cell?, hb] using hw
  have rl : ∀ r ∈ rs, r.length = c := by
    intro r hr
    obtain ⟨i, hi, rfl⟩ := List.mem_iff_getElem.1 hr
    obtain ⟨r', hr', hw⟩ := h i (by omega)
    obtain ⟨_, hlen, _⟩ := World.cells?_some hw
    have : rs[i]? = some rs[i] := by simp [hi]
    rw [this] at hr'
    cases hr'
    exact hlen
  have all : ∀ x, x < k * c → ∃ v, rs.flatten[x]? = some v ∧ l[o + x]? = some v := by
    intro x hx
    have hd : x / c < k := (Nat.div_lt_iff_lt_mul hc).2 hx
    have hm : x % c < c := Nat.mod_lt _ hc
    have e1 : x / c * c + x % c = x := by rw [Nat.mul_comm]; exact Nat.div_add_mod x c
    obtain ⟨v, h1, h2⟩ := at_ _ hd _ hm
    refine ⟨v, ?_, ?_⟩
    · rw [← e1, flatten_get c rs rl _ _ hm]; exact h1
    · rw [e1] at h2; exact h2
  have hlen : o + k * c ≤ l.toList.length := by
    obtain ⟨v, _, hv⟩ := all (k * c - 1) (by have : 0 < k * c := Nat.mul_pos hk hc; omega)
    have := (Array.getElem?_eq_some_iff.1 hv).1
    have : 0 < k * c := Nat.mul_pos hk hc
    simp; omega
  refine ⟨b, o, l.toList, e, fz, rfl, All.mem hb, hlen, ?_⟩
  apply List.ext_getElem?
  intro x
  by_cases hx : x < k * c
  · obtain ⟨v, h1, h2⟩ := all x hx
    rw [h1, List.getElem?_take, if_pos hx, List.getElem?_drop]
    simpa using h2
  · have f1 : rs.flatten.length = k * c := by
      rw [flatten_len c rs rl, hl]
    rw [List.getElem?_eq_none (by rw [List.length_take]; omega), List.getElem?_eq_none (by omega)]

theorem reads_rows {e : TypeId} {n : Nat} {a : Addr} {len cap : Nat} {elems : List (DataW H × List MemPlace)} (hc : 0 < P.cellsOf e) (hl : elems.length = len)
    (h : ∀ i, i < len → (W.cells? 0 (a.add (i * P.cellsOf e)) (P.cellsOf e)).bind (DataW.trod enc P W 0 (fun _ => true) true n e) = elems[i]?) :
    ∃ rs : List (List Value), rs.length = len ∧ Reads (All W) (P.cellsOf e) (.slice (some a) len cap) len rs.flatten ∧ (∀ r ∈ rs, r.length = P.cellsOf e) ∧
      ∀ r ∈ rs, ∃ x ∈ elems, DataW.trod enc P W 0 (fun _ => true) true n e r = some x := by
  have rowAt : ∀ i, i < len → ∃ r, W.cells? 0 (a.add (i * P.cellsOf e)) (P.cellsOf e) = some r ∧ ∃ x ∈ elems, DataW.trod enc P W 0 (fun _ => true) true n e r = some x := by
    intro i hi
    have := h i hi
    have hx : elems[i]? = some elems[i] := by simp
    rw [hx] at this
    obtain ⟨r, hr, ht⟩ := Option.bind_eq_some_iff.1 this
    exact ⟨r, hr, elems[i], by simp, ht⟩
  let rs : List (List Value) := (List.range len).map fun i => (W.cells? 0 (a.add (i * P.cellsOf e)) (P.cellsOf e)).getD []
  have rsl : rs.length = len := by simp [rs]
  have rsat : ∀ i, i < len → ∃ r, rs[i]? = some r ∧ W.cells? 0 (a.add (i * P.cellsOf e)) (P.cellsOf e) = some r := by
    intro i hi
    obtain ⟨r, hr, _⟩ := rowAt i hi
    exact ⟨r, by simp [rs, hi, hr], hr⟩
  have rin : ∀ r ∈ rs, ∃ i, i < len ∧ W.cells? 0 (a.add (i * P.cellsOf e)) (P.cellsOf e) = some r := by
    intro r hr
    obtain ⟨i, hi, rfl⟩ := List.mem_iff_getElem.1 hr
    obtain ⟨r', h1, h2⟩ := rsat i (by omega)
    have : rs[i]? = some rs[i] := by simp [hi]
    rw [this] at h1
    cases h1
    exact ⟨i, by omega, h2⟩
  have rl : ∀ r ∈ rs, r.length = P.cellsOf e := by
    intro r hr
    obtain ⟨i, _, hw⟩ := rin r hr
    exact (World.cells?_some hw).2.1
  refine ⟨rs, rsl, ⟨by rw [flatten_len _ rs rl, rsl], ?_⟩, rl, ?_⟩
  · by_cases h0 : len = 0
    · subst h0
      exact .inl ⟨⟨_, _, rfl⟩, rfl⟩
    · obtain ⟨b, o, l, e', fz, rfl, hm, h1, h2⟩ := rows_block hc (Nat.pos_of_ne_zero h0) rsl rsat
      exact .inr ⟨b, o, cap, l, e', fz, rfl, hm, h1, h2⟩
  · intro r hr
    obtain ⟨i, hi, hw⟩ := rin r hr
    obtain ⟨r', h1, h2⟩ := rowAt i hi
    rw [hw] at h1
    cases h1
    exact h2

theorem Rd.of_trod : ∀ {m n : Nat} {t : TypeId} {cs : List Value} {x : DataW H × List MemPlace}, plain P m t = true →
    DataW.trod enc P W 0 (fun _ => true) true n t cs = some x → (∀ k ∈ x.1.weights P t, k ≤ reachBytes) → Rd P (All W) t cs
  | m + 1, n, t, cs, x, hp, h, hw => by
    unfold plain at hp
    split at hp
    · rename_i hu
      obtain ⟨b, rfl, _⟩ := DataW.trod_bool hu h
      exact .bool hu b
    · rename_i hu
      obtain ⟨k, rfl, _, w⟩ := DataW.trod_int hu h
      exact .int hu k w
    · rename_i hu
      obtain ⟨s, rfl, rfl, w⟩ := DataW.trod_string hu h
      exact .str hu s.data.toList (hw _ (by simp [DataW.weights]))
    · rename_i e hu
      simp only [Bool.and_eq_true] at hp
      obtain ⟨hc, hp⟩ := hp
      rcases DataW.trod_slice hu h with ⟨rfl, rfl⟩ | ⟨a, len, cap, elems, rest, k, rfl, rfl, rfl, _, hlc, _, hl, he, _, _⟩
      · exact .slice hu _ [] ⟨by simp, .inl ⟨⟨_, _, rfl⟩, rfl⟩⟩ (by simp) (by simp) (by simp) (by intro a n c h; cases h; exact Nat.le_refl _)
      · obtain ⟨rs, rl, hr, hcell, hrow⟩ := reads_rows (cap := cap) (Nat.le_of_ble_eq_true hc) hl he
        have hw' : ∀ k ∈ ((elems.map (·.1)).length + (rest.map (·.1)).length) * P.bytesOf e :: (DataW.weightsAll P e (elems.map (·.1)) ++ DataW.weightsAll P e (rest.map (·.1))), k ≤ reachBytes := by
          simpa [DataW.weights, hu] using hw
        subst rl
        refine .slice hu _ rs hr ?_ hcell (fun r hr => ?_) (by intro a n c h; cases h; exact hlc)
        · have := hw' _ (List.mem_cons_self)
          refine Nat.le_trans (Nat.mul_le_mul_right _ ?_) this
          simp [hl]
        · obtain ⟨y, hy, ht⟩ := hrow r hr
          exact Rd.of_trod hp ht fun k hk => hw' k (by
            refine List.mem_cons_of_mem _ (List.mem_append_left _ (weightsAll_mem (List.mem_map.2 ⟨y, hy, rfl⟩) k hk)))
    · rename_i fs hu
      obtain ⟨xs, k, rfl, rfl, hl, hxl, hf⟩ := DataW.trod_struct hu h
      refine .struct hu cs hl fun f hfm => ?_
      obtain ⟨i, hi, rfl⟩ := List.mem_iff_getElem.1 hfm
      have hi' : i < fs.size := by simpa using hi
      have hx : i < xs.length := by omega
      have := hf i fs.toList[i] (by simp [hi'])
      rw [List.getElem?_eq_getElem hx] at this
      refine Rd.of_trod (List.all_eq_true.1 hp _ (List.getElem_mem hi)) this fun k hk => hw k ?_
      have e1 : (DataW.agg (xs.map (·.1))).weights P t = DataW.weightsEach P (fs.toList.map (·.type)) (xs.map (·.1)) := by simp [DataW.weights, hu]
      show k ∈ DataW.weights P t (.agg (xs.map (·.1)))
      rw [e1]
      exact DataW.weights_mem_each (j := i) (by simp [hi']) (by simp [hx]) k hk
    · simp at hp

/-- An argument, read. -/
theorem Rd.of_arg {m j : Nat} {ts : List TypeId} {ds : List (DataW H)} {t : TypeId} {v : Value} {d : DataW H} {ps : List MemPlace} (hp : plain P m t = true)
    (h : DataW.Trod enc P W 0 (fun _ => true) true t v d ps) (hw : (DataW.weightsEach P ts ds).all (· ≤ reachBytes) = true) (ht : ts[j]? = some t) (hd : ds[j]? = some d) : Rd P (All W) t v.cells.toList := by
  obtain ⟨n, hn⟩ := h
  exact Rd.of_trod hp hn fun k hk => by
    have := List.all_eq_true.1 hw k (DataW.weights_mem_each ht hd k hk)
    simpa using this
end
end Go.Lg
