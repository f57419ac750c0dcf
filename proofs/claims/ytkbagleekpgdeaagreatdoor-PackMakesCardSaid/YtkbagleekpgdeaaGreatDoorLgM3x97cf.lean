/- A layer over the weakest preconditions of the model: what is known of memory and of the slots, told by rules. -/
import Derived.Test.YtkbagleekpgdeaaGreatDoorLgM2xb716
import Derived.ChangeArms
import Derived.SizedLaws
import Derived.Laws.StructEq
import Derived.Lib.ConvBytes
import Derived.Laws.BitsLemmas
namespace Go.Lg
open Go.RowKit (Below)

/-- All that memory holds. -/
def All (W : World) : Ents := (List.range W.heap.size).filterMap fun b => (W.heap[b]?).map fun o => (b, o)

theorem All.mem {W : World} {b : Nat} {o : Obj} (h : W.heap[b]? = some o) : (b, o) ∈ All W := by
  refine List.mem_filterMap.2 ⟨b, ?_, by simp [h]⟩
  obtain ⟨hb, _⟩ := Array.getElem?_eq_some_iff.1 h
  exact List.mem_range.2 hb

theorem All.of_mem {W : World} {x : Nat × Obj} (h : x ∈ All W) : W.heap[x.1]? = some x.2 := by
  obtain ⟨b, _, hx⟩ := List.mem_filterMap.1 h
  obtain ⟨o, ho, rfl⟩ := Option.map_eq_some_iff.1 hx
  exact ho

theorem All.lt {W : World} {x : Nat × Obj} (h : x ∈ All W) : x.1 < W.heap.size :=
  (Array.getElem?_eq_some_iff.1 (All.of_mem h)).1

theorem pairwise_of_all {α : Type} {R : α → α → Prop} : ∀ {l : List α}, (∀ x ∈ l, ∀ y, R x y) → l.Pairwise R
  | [], _ => .nil
  | x :: l, h => .cons (fun y _ => h x (by simp) y) (pairwise_of_all fun z hz => h z (by simp [hz]))

theorem All.sim (W : World) : Sim W.heap.size (All W) W :=
  ⟨fun _ => All.of_mem, pairwise_of_all fun _ hx _ _ => All.lt hx, Nat.le_refl _⟩

/-- What an argument of this type is, in memory. -/
inductive Rd (P : Program) (S : Ents) : TypeId → List Value → Prop
  | bool {t : TypeId} (h : P.underlying t = some .bool) (b : Bool) : Rd P S t [.bool b]
  | int {t : TypeId} {k : IntKind} (h : P.underlying t = some (.int k)) (n : Int) (w : (Lit.int k n).wf = true) : Rd P S t [.int k n]
  | str {t : TypeId} (h : P.underlying t = some .string) (l : List UInt8) (w : l.length ≤ reachBytes) : Rd P S t [.string ⟨⟨l⟩⟩]
  | slice {t e : TypeId} (h : P.underlying t = some (.slice e)) (v : Value) (rs : List (List Value)) (r : Reads S (P.cellsOf e) v rs.length rs.flatten)
      (w : rs.length * P.bytesOf e ≤ reachBytes) (hc : ∀ r ∈ rs, r.length = P.cellsOf e) (hr : ∀ r ∈ rs, Rd P S e r) (hcap : ∀ a n c, v = .slice a n c → n ≤ c) : Rd P S t [v]
  | struct {t : TypeId} {fs : Array Field} (h : P.underlying t = some (.struct fs)) (cs : List Value) (hl : cs.length = P.cellsOf t)
      (hr : ∀ f ∈ fs.toList, Rd P S f.type ((cs.drop f.offset).take (P.cellsOf f.type))) : Rd P S t cs

def plain (P : Program) : Nat → TypeId → Bool
  | 0, _ => false
  | m + 1, t => match P.underlying t with
    | some .bool => true
    | some (.int _) => true
    | some .string => true
    | some (.slice e) => Nat.ble 1 (P.cellsOf e) && plain P m e
    | some (.struct fs) => fs.toList.all fun f => plain P m f.type
    | _ => false

section
variable {P : Program} {S : Ents} {t : TypeId} {cs : List Value}

theorem Rd.open_int {k : IntKind} (ht : P.underlying t = some (.int k)) (h : Rd P S t cs) : ∃ n, cs = [.int k n] ∧ (Lit.int k n).wf = true := by
  cases h <;> simp_all
theorem Rd.open_str (ht : P.underlying t = some .string) (h : Rd P S t cs) : ∃ l : List UInt8, cs = [.string ⟨⟨l⟩⟩] ∧ l.length ≤ reachBytes := by
  cases h <;> simp_all
theorem Rd.open_slice {e : TypeId} (ht : P.underlying t = some (.slice e)) (h : Rd P S t cs) :
    ∃ (v : Value) (rs : List (List Value)), cs = [v] ∧ Reads S (P.cellsOf e) v rs.length rs.flatten ∧ rs.length * P.bytesOf e ≤ reachBytes ∧ (∀ r ∈ rs, r.length = P.cellsOf e) ∧ ∀ r ∈ rs, Rd P S e r := by
  cases h with
  | slice h v rs r w hc hr _ =>
    rw [ht] at h
    cases h
    exact ⟨v, rs, rfl, r, w, hc, hr⟩
  | _ => simp_all
theorem Rd.open_struct {fs : Array Field} (ht : P.underlying t = some (.struct fs)) (h : Rd P S t cs) :
    cs.length = P.cellsOf t ∧ ∀ f ∈ fs.toList, Rd P S f.type ((cs.drop f.offset).take (P.cellsOf f.type)) := by
  cases h with
  | struct h cs hl hr =>
    rw [ht] at h
    cases h
    exact ⟨hl, hr⟩
  | _ => simp_all
end

theorem weightsAll_mem {H : Type} {P : Program} {e : TypeId} : ∀ {ds : List (DataW H)} {d : DataW H}, d ∈ ds → ∀ n ∈ d.weights P e, n ∈ DataW.weightsAll P e ds
  | d0 :: ds, d, hd, n, hn => by
    simp only [DataW.weightsAll, List.mem_append]
    rcases List.mem_cons.1 hd with rfl | hd
    · exact .inl hn
    · exact .inr (weightsAll_mem hd n hn)

section
variable {H : Type} {enc : TypeId × Value → H} {P : Program} {W : World}

theorem flatten_get {α : Type} (c : Nat) : ∀ (rs : List (List α)), (∀ r ∈ rs, r.length = c) → ∀ i j, j < c → rs.flatten[i * c + j]? = (rs[i]?).bind (·[j]?)
  | [], _, i, j, _ => by simp
  | r :: rs, h, 0, j, hj => by
    have := h r (by simp)
    simp [List.getElem?_append, this, hj]
  | r :: rs, h, i + 1, j, hj => by
    have h1 := h r (by simp)
    have e : (i + 1) * c + j = c + (i * c + j) := by rw [Nat.add_mul]; omega
    have := flatten_get c rs (fun x hx => h x (by simp [hx])) i j hj
    rw [e, List.flatten_cons, List.getElem?_append_right (by omega), h1, Nat.add_sub_cancel_left, this]
    simp

theorem flatten_len {α : Type} (c : Nat) : ∀ (rs : List (List α)), (∀ r ∈ rs, r.length = c) → rs.flatten.length = rs.length * c
  | [], _ => by simp
  | r :: rs, h => by
    have := flatten_len c rs (fun x hx => h x (by simp [hx]))
    simp only [List.flatten_cons, List.length_append, h r (by simp), this, List.length_cons, Nat.add_mul]
    omega

/-- Cells that can be read lie in one block, in a row. -/
theorem rows_block {a : Addr} {c k : Nat} {rs : List (List Value)} (hc : 0 < c) (hk : 0 < k) (hl : rs.length = k)
    (h : ∀ i, i < k → ∃ r, rs[i]? = some r ∧ W.cells? 0 (a.add (i * c)) c = some r) :
    ∃ b o l e fz, a = ⟨b, o, none⟩ ∧ (b, cel l e fz) ∈ All W ∧ o + k * c ≤ l.length ∧ (l.drop o).take (k * c) = rs.flatten := by
  have cell : ∀ i, i < k → ∀ j, j < c → ∃ v, (rs[i]?).bind (·[j]?) = some v ∧ W.cell? ((a.add (i * c)).add j) = some v := by
    intro i hi j hj
    obtain ⟨r, hr, hw⟩ := h i hi
    obtain ⟨_, hlen, hg⟩ := World.cells?_some hw
    refine ⟨r[j], ?_, ?_⟩
    · simp [hr, hlen, hj]
    · rw [hg j hj]; simp [hlen, hj]
  obtain ⟨v0, _, h0⟩ := cell 0 hk 0 hc
  have hs := World.cell?_spot h0
  obtain ⟨b, o, sp⟩ := a
  simp [Addr.add] at hs h0
  subst hs
  have : ∃ l e fz, W.heap[b]? = some (.cells l e fz) := by
    unfold World.cell? at h0
    split at h0
    · rename_i c0 e0 f0 hb; exact ⟨c0, e0, f0, hb⟩
    · simp at h0
  obtain ⟨l, e, fz, hb⟩ := this
  have at_ : ∀ i, i < k → ∀ j, j < c → ∃ v, (rs[i]?).bind (·[j]?) = some v ∧ l[o + (i * c + j)]? = some v := by
    intro i hi j hj
    obtain ⟨v, hv, hw⟩ := cell i hi j hj
    refine ⟨v, hv, ?_⟩
    have e1 : ((⟨b, o, none⟩ : Addr).add (i * c)).add j = ⟨b, o + (i * c + j), none⟩ := by
      unfold Addr.add
      split <;> split <;> simp_all
      omega
    rw [e1] at hw
    simpa [World.cell?, hb] using hw
  have rl : ∀ r ∈ rs, r.length = c := by
    intro r hr
    obtain ⟨i, hi, rfl⟩ := List.mem_iff_getElem.1 hr
    obtain ⟨r', hr', hw⟩ := h i (by omega)
    obtain ⟨_, hlen, _⟩ := World.cells?_some hw
    have : rs[i]? = some rs[i] := by simp [hi]
    rw [this] at hr'
    cases hr'
    exact hlen
  have all : ∀ x, x < k * c → ∃ v, rs.flatten[x]? = some v ∧ l[o + x]? = some v := by
    intro x hx
    have hd : x / c < k := (Nat.div_lt_iff_lt_mul hc).2 hx
    have hm : x % c < c := Nat.mod_lt _ hc
    have e1 : x / c * c + x % c = x := by rw [Nat.mul_comm]; exact Nat.div_add_mod x c
    obtain ⟨v, h1, h2⟩ := at_ _ hd _ hm
    refine ⟨v, ?_, ?_⟩
    · rw [← e1, flatten_get c rs rl _ _ hm]; exact h1
    · rw [e1] at h2; exact h2
  have hlen : o + k * c ≤ l.toList.length := by
    obtain ⟨v, _, hv⟩ := all (k * c - 1) (by have : 0 < k * c := Nat.mul_pos hk hc; omega)
    have := (Array.getElem?_eq_some_iff.1 hv).1
    have : 0 < k * c := Nat.mul_pos hk hc
    simp; omega
  refine ⟨b, o, l.toList, e, fz, rfl, All.mem hb, hlen, ?_⟩
  apply List.ext_getElem?
  intro x
  by_cases hx : x < k * c
  · obtain ⟨v, h1, h2⟩ := all x hx
    rw [h1, List.getElem?_take, if_pos hx, List.getElem?_drop]
    simpa using h2
  · have f1 : rs.flatten.length = k * c := by
      rw [flatten_len c rs rl, hl]
    rw [List.getElem?_eq_none (by rw [List.length_take]; omega), List.getElem?_eq_none (by omega)]

theorem reads_rows {e : TypeId} {n : Nat} {a : Addr} {len cap : Nat} {elems : List (DataW H × List MemPlace)} (hc : 0 < P.cellsOf e) (hl : elems.length = len)
    (h : ∀ i, i < len → (W.cells? 0 (a.add (i * P.cellsOf e)) (P.cellsOf e)).bind (DataW.trod enc P W 0 (fun _ => true) true n e) = elems[i]?) :
    ∃ rs : List (List Value), rs.length = len ∧ Reads (All W) (P.cellsOf e) (.slice (some a) len cap) len rs.flatten ∧ (∀ r ∈ rs, r.length = P.cellsOf e) ∧
      ∀ r ∈ rs, ∃ x ∈ elems, DataW.trod enc P W 0 (fun _ => true) true n e r = some x := by
  have rowAt : ∀ i, i < len → ∃ r, W.cells? 0 (a.add (i * P.cellsOf e)) (P.cellsOf e) = some r ∧ ∃ x ∈ elems, DataW.trod enc P W 0 (fun _ => true) true n e r = some x := by
    intro i hi
    have := h i hi
    have hx : elems[i]? = some elems[i] := by simp
    rw [hx] at this
    obtain ⟨r, hr, ht⟩ := Option.bind_eq_some_iff.1 this
    exact ⟨r, hr, elems[i], by simp, ht⟩
  let rs : List (List Value) := (List.range len).map fun i => (W.cells? 0 (a.add (i * P.cellsOf e)) (P.cellsOf e)).getD []
  have rsl : rs.length = len := by simp [rs]
  have rsat : ∀ i, i < len → ∃ r, rs[i]? = some r ∧ W.cells? 0 (a.add (i * P.cellsOf e)) (P.cellsOf e) = some r := by
    intro i hi
    obtain ⟨r, hr, _⟩ := rowAt i hi
    exact ⟨r, by simp [rs, hi, hr], hr⟩
  have rin : ∀ r ∈ rs, ∃ i, i < len ∧ W.cells? 0 (a.add (i * P.cellsOf e)) (P.cellsOf e) = some r := by
    intro r hr
    obtain ⟨i, hi, rfl⟩ := List.mem_iff_getElem.1 hr
    obtain ⟨r', h1, h2⟩ := rsat i (by omega)
    have : rs[i]? = some rs[i] := by simp [hi]
    rw [this] at h1
    cases h1
    exact ⟨i, by omega, h2⟩
  have rl : ∀ r ∈ rs, r.length = P.cellsOf e := by
    intro r hr
    obtain ⟨i, _, hw⟩ := rin r hr
    exact (World.cells?_some hw).2.1
  refine ⟨rs, rsl, ⟨by rw [flatten_len _ rs rl, rsl], ?_⟩, rl, ?_⟩
  · by_cases h0 : len = 0
    · subst h0
      exact .inl ⟨⟨_, _, rfl⟩, rfl⟩
    · obtain ⟨b, o, l, e', fz, rfl, hm, h1, h2⟩ := rows_block hc (Nat.pos_of_ne_zero h0) rsl rsat
      exact .inr ⟨b, o, cap, l, e', fz, rfl, hm, h1, h2⟩
  · intro r hr
    obtain ⟨i, hi, hw⟩ := rin r hr
    obtain ⟨r', h1, h2⟩ := rowAt i hi
    rw [hw] at h1
    cases h1
    exact h2

theorem Rd.of_trod : ∀ {m n : Nat} {t : TypeId} {cs : List Value} {x : DataW H × List MemPlace}, plain P m t = true →
    DataW.trod enc P W 0 (fun _ => true) true n t cs = some x → (∀ k ∈ x.1.weights P t, k ≤ reachBytes) → Rd P (All W) t cs
  | m + 1, n, t, cs, x, hp, h, hw => by
    unfold plain at hp
    split at hp
    · rename_i hu
      obtain ⟨b, rfl, _⟩ := DataW.trod_bool hu h
      exact .bool hu b
    · rename_i hu
      obtain ⟨k, rfl, _, w⟩ := DataW.trod_int hu h
      exact .int hu k w
    · rename_i hu
      obtain ⟨s, rfl, rfl, w⟩ := DataW.trod_string hu h
      exact .str hu s.data.toList (hw _ (by simp [DataW.weights]))
    · rename_i e hu
      simp only [Bool.and_eq_true] at hp
      obtain ⟨hc, hp⟩ := hp
      rcases DataW.trod_slice hu h with ⟨rfl, rfl⟩ | ⟨a, len, cap, elems, rest, k, rfl, rfl, rfl, _, hlc, _, hl, he, _, _⟩
      · exact .slice hu _ [] ⟨by simp, .inl ⟨⟨_, _, rfl⟩, rfl⟩⟩ (by simp) (by simp) (by simp) (by intro a n c h; cases h; exact Nat.le_refl _)
      · obtain ⟨rs, rl, hr, hcell, hrow⟩ := reads_rows (cap := cap) (Nat.le_of_ble_eq_true hc) hl he
        have hw' : ∀ k ∈ ((elems.map (·.1)).length + (rest.map (·.1)).length) * P.bytesOf e :: (DataW.weightsAll P e (elems.map (·.1)) ++ DataW.weightsAll P e (rest.map (·.1))), k ≤ reachBytes := by
          simpa [DataW.weights, hu] using hw
        subst rl
        refine .slice hu _ rs hr ?_ hcell (fun r hr => ?_) (by intro a n c h; cases h; exact hlc)
        · have := hw' _ (List.mem_cons_self)
          refine Nat.le_trans (Nat.mul_le_mul_right _ ?_) this
          simp [hl]
        · obtain ⟨y, hy, ht⟩ := hrow r hr
          exact Rd.of_trod hp ht fun k hk => hw' k (by
            refine List.mem_cons_of_mem _ (List.mem_append_left _ (weightsAll_mem (List.mem_map.2 ⟨y, hy, rfl⟩) k hk)))
    · rename_i fs hu
      obtain ⟨xs, k, rfl, rfl, hl, hxl, hf⟩ := DataW.trod_struct hu h
      refine .struct hu cs hl fun f hfm => ?_
      obtain ⟨i, hi, rfl⟩ := List.mem_iff_getElem.1 hfm
      have hi' : i < fs.size := by simpa using hi
      have hx : i < xs.length := by omega
      have := hf i fs.toList[i] (by simp [hi'])
      rw [List.getElem?_eq_getElem hx] at this
      refine Rd.of_trod (List.all_eq_true.1 hp _ (List.getElem_mem hi)) this fun k hk => hw k ?_
      have e1 : (DataW.agg (xs.map (·.1))).weights P t = DataW.weightsEach P (fs.toList.map (·.type)) (xs.map (·.1)) := by simp [DataW.weights, hu]
      show k ∈ DataW.weights P t (.agg (xs.map (·.1)))
      rw [e1]
      exact DataW.weights_mem_each (j := i) (by simp [hi']) (by simp [hx]) k hk
    · simp at hp

/-- An argument, read. -/
theorem Rd.of_arg {m j : Nat} {ts : List TypeId} {ds : List (DataW H)} {t : TypeId} {v : Value} {d : DataW H} {ps : List MemPlace} (hp : plain P m t = true)
    (h : DataW.Trod enc P W 0 (fun _ => true) true t v d ps) (hw : (DataW.weightsEach P ts ds).all (· ≤ reachBytes) = true) (ht : ts[j]? = some t) (hd : ds[j]? = some d) : Rd P (All W) t v.cells.toList := by
  obtain ⟨n, hn⟩ := h
  exact Rd.of_trod hp hn fun k hk => by
    have := List.all_eq_true.1 hw k (DataW.weights_mem_each ht hd k hk)
    simpa using this
end
end Go.Lg

namespace Go.Lg

theorem takeN_take : ∀ (n : Nat) (l : List Value), takeN n (l.take n) = takeN n l
  | 0, l => by simp [takeN]
  | n + 1, [] => by simp
  | n + 1, x :: l => by simp [takeN, takeN_take n l]

theorem partAt_congr {P : Program} {t : TypeId} {n o o' : Nat} {l l' : List Value} (hs : sizeOfT P t = some n) (hn : 0 < n)
    (h : (l.drop o).take n = (l'.drop o').take n) : partAt P t l o = partAt P t l' o' := by
  have h0 : l[o]? = l'[o']? := by
    have := congrArg (·[0]?) h
    simpa [List.getElem?_take, hn] using this
  unfold partAt
  rw [hs]
  cases isAggT P t with
  | none => rfl
  | some b =>
    cases b with
    | true =>
      simp only
      rw [← takeN_take n (l.drop o), ← takeN_take n (l'.drop o'), h]
    | false => simpa using h0

/-- A part of a part. -/
theorem partAt_in {P : Program} {t : TypeId} {n a sz m : Nat} {l r : List Value} (hr : (l.drop a).take sz = r) (hs : sizeOfT P t = some n) (hn : 0 < n) (hm : m + n ≤ sz) :
    partAt P t l (a + m) = partAt P t r m := by
  refine partAt_congr hs hn ?_
  subst hr
  rw [List.drop_take, List.take_take, Nat.min_eq_left (by omega), List.drop_drop]

section
variable {α : Type} {f : α → List Value} {sz : Nat}

theorem flatMap_at : ∀ (xs : List α), (∀ x ∈ xs, (f x).length = sz) → ∀ i (h : i < xs.length), ((xs.flatMap f).drop (i * sz)).take sz = f xs[i]
  | x :: xs, hf, 0, _ => by
    have := hf x (by simp)
    simp only [List.flatMap_cons, Nat.zero_mul, List.drop_zero, List.getElem_cons_zero]
    rw [List.take_append_of_le_length (by omega), List.take_of_length_le (by omega)]
  | x :: xs, hf, i + 1, h => by
    have h1 := hf x (by simp)
    have := flatMap_at xs (fun y hy => hf y (by simp [hy])) i (by simpa using h)
    have e : (i + 1) * sz = (f x).length + i * sz := by rw [Nat.add_mul]; omega
    rw [e, List.flatMap_cons, List.drop_append, List.getElem_cons_succ]
    have e2 : (f x).drop ((f x).length + i * sz) = [] := List.drop_of_length_le (by omega)
    rw [e2, List.nil_append, Nat.add_sub_cancel_left]
    exact this

theorem Reads.elem {S : Ents} {v : Value} {xs : List α} (h : Reads S sz v xs.length (xs.flatMap f)) (hf : ∀ x ∈ xs, (f x).length = sz) (h0 : 0 < xs.length) :
    ∃ b o cap l e fz, v = .slice (some ⟨b, o, none⟩) xs.length cap ∧ (b, cel l e fz) ∈ S ∧ ∀ i (h : i < xs.length), (l.drop (o + i * sz)).take sz = f xs[i] := by
  obtain ⟨hl, h | ⟨b, o, cap, l, e, fz, hv, hm, hle, hx⟩⟩ := h
  · exact absurd h.2 (by omega)
  · refine ⟨b, o, cap, l, e, fz, hv, hm, fun i hi => ?_⟩
    have := flatMap_at xs hf i hi
    rw [← this, ← hx]
    rw [List.drop_take, List.take_take, List.drop_drop, Nat.min_eq_left]
    have : (i + 1) * sz ≤ xs.length * sz := Nat.mul_le_mul_right _ hi
    rw [Nat.add_mul] at this
    omega

theorem list_open {p : α → Prop} : ∀ (rs : List (List Value)), (∀ r ∈ rs, ∃ x, r = f x ∧ p x) → ∃ xs : List α, rs = xs.map f ∧ ∀ x ∈ xs, p x
  | [], _ => ⟨[], rfl, by simp⟩
  | r :: rs, h => by
    obtain ⟨x, rfl, hx⟩ := h r (by simp)
    obtain ⟨xs, rfl, hxs⟩ := list_open rs fun y hy => h y (by simp [hy])
    exact ⟨x :: xs, rfl, by simpa using ⟨hx, hxs⟩⟩

theorem Rd.rows {P : Program} {S : Ents} {t e : TypeId} {v : Value} {p : α → Prop} (ht : P.underlying t = some (.slice e)) (hs : P.cellsOf e = sz) (h : Rd P S t [v])
    (hf : ∀ r, Rd P S e r → ∃ x, r = f x ∧ p x) : ∃ xs : List α, Reads S sz v xs.length (xs.flatMap f) ∧ xs.length * P.bytesOf e ≤ reachBytes ∧ (∀ x ∈ xs, (f x).length = sz) ∧ ∀ x ∈ xs, p x := by
  obtain ⟨v', rs, hv, hr, hw, hc, hrd⟩ := h.open_slice ht
  cases hv
  obtain ⟨xs, rfl, hp⟩ := list_open rs fun r hrm => hf r (hrd r hrm)
  rw [hs, List.length_map] at hr
  rw [List.length_map] at hw
  refine ⟨xs, ?_, hw, fun x hx => ?_, hp⟩
  · rwa [← List.flatMap_def] at hr
  · rw [← hs]; exact hc _ (List.mem_map.2 ⟨x, hx, rfl⟩)
end

theorem Reads.len {S : Ents} {sz k len : Nat} {a : Option Addr} {cap : Nat} {xs : List Value} (h : Reads S sz (.slice a len cap) k xs) : len = k := by
  obtain ⟨_, ⟨⟨a', c', h⟩, rfl⟩ | ⟨b, o, cap', l, e, fz, hv, _⟩⟩ := h
  · cases h; rfl
  · cases hv; rfl
end Go.Lg

namespace Go.Lg
open Go.RowKit (Below)

theorem ndT {p : Prop} [Decidable p] (h : (!decide p) = true) : ¬p := by simpa using h
theorem ndF {p : Prop} [Decidable p] (h : (!decide p) = false) : p := by simpa using h

/-! Structs side by side. -/
mutual
def eqIn (P : Program) : Nat → TypeId → Value → Value → Option Bool
  | 0, _, _, _ => none
  | _ + 1, t, .int k a, .int k' b => match P.underlying t, decide (k = k') with
    | some (.int _), true => some (decide (a = b))
    | _, _ => none
  | _ + 1, t, .bool a, .bool b => match P.underlying t with
    | some .bool => some (a == b)
    | _ => none
  | _ + 1, t, .string ⟨⟨a⟩⟩, .string ⟨⟨b⟩⟩ => match P.underlying t with
    | some .string => some (decide (a = b))
    | _ => none
  | d + 1, t, .agg xs, .agg ys => match P.underlying t, P.stoodInHeld t with
    | some (.struct fs), false => eqFs P d xs.toList ys.toList fs.toList
    | _, _ => none
  | _, _, _, _ => none
def eqFs (P : Program) : Nat → List Value → List Value → List Field → Option Bool
  | 0, _, _, _ => none
  | _ + 1, _, _, [] => some true
  | d + 1, xs, ys, f :: fs => match f.name == "_", partAt P f.type xs f.offset, partAt P f.type ys f.offset with
    | false, some a, some b => match eqIn P d f.type a b, eqFs P d xs ys fs with
      | some r, some s => some (r && s)
      | _, _ => none
    | _, _, _ => none
end

theorem eq_sound (P : Program) (w : World) : ∀ d, (∀ t a b r, eqIn P d t a b = some r → ∀ m, d ≤ m → (Op.equalIn m t a b).run P w = .ok r w) ∧
    (∀ xs ys fs r, eqFs P d xs ys fs = some r → ∀ m, d ≤ m → (Op.eqFields m xs.toArray ys.toArray fs).run P w = .ok r w) := by
  intro d
  induction d with
  | zero => exact ⟨fun _ _ _ _ h => by simp [eqIn] at h, fun _ _ _ _ h => by simp [eqFs] at h⟩
  | succ d ih =>
    obtain ⟨ih1, ih2⟩ := ih
    constructor
    · intro t a b r h m hm
      obtain ⟨m, rfl⟩ : ∃ k, m = k + 1 := ⟨m - 1, by omega⟩
      unfold eqIn at h
      split at h
      · contradiction
      · split at h
        · rename_i hu hk
          obtain rfl := Option.some.inj h
          have hk := of_decide_eq_true hk
          simp [Op.equalIn, run_underlying hu, hk]
          rfl
        · cases h
      · split at h
        · rename_i hu
          obtain rfl := Option.some.inj h
          rw [run_equalIn_bool' w m _ _ _ hu]
        · cases h
      · split at h
        · rename_i hu
          obtain rfl := Option.some.inj h
          rw [run_equalIn_string w m _ _ _ hu, toList_beq]
        · cases h
      · split at h
        · rename_i d0 xs ys he x1 x2 fs hu hst
          have hf : ∀ t', P.underlying t' = some (.struct fs) → P.fieldsOf t' = fs := fun t' h => by simp [Program.fieldsOf, h]
          rw [run_equalIn_struct (P := P) w m _ xs ys (by rw [hf _ hu]; exact hu) hst, hf _ hu]
          obtain rfl : d = d0 := by omega
          have := ih2 _ _ _ _ h m (by omega)
          simpa using this
        · cases h
      · cases h
    · intro xs ys fs r h m hm
      cases fs with
      | nil =>
        simp only [eqFs] at h
        obtain rfl := Option.some.inj h
        simp [Op.eqFields]
      | cons f fs =>
        simp only [eqFs] at h
        split at h
        · rename_i a b hn ha hb
          split at h
          · rename_i r1 r2 h1 h2
            obtain rfl := Option.some.inj h
            have hn' : f.name ≠ "_" := by simpa using hn
            have e1 := ih1 _ _ _ _ h1 m (by omega)
            have e2 := ih2 _ _ _ _ h2 m (by omega)
            have pa := partAt_run (P := P) (cs := xs.toArray) (by simpa using ha) w
            have pb := partAt_run (P := P) (cs := ys.toArray) (by simpa using hb) w
            rw [Op.eqFields]
            simp only [if_pos hn', Sem.run_bind, pa, pb, e1, Result.andThen_ok]
            cases r1
            · simp
            · simpa using e2
          · cases h
        · cases h

section
variable {P : Program} {B n : Nat} {E : Env} {S : Ents} {o : Oper}

theorem Gives.eqStruct {t yt : TypeId} {x y : Operand} {xs ys : Array Value} {r : Bool} (d : Nat) (hd : Nat.ble d 10000 = true) (ho : o.op = .binOp .eql t x y yt)
    (hx : opd E x = some (.agg xs)) (hy : opd E y = some (.agg ys)) (hg : P.eqGuardType P.depth t = false) (he : eqIn P d t (.agg xs) (.agg ys) = some r) :
    Gives P n [] E o (.bool r) := by
  intro a w _ hA
  have h1 := (eq_sound P w d).1 _ _ _ _ he 10000 (Nat.le_of_ble_eq_true hd)
  simp only [execOp, ho, opd_sound hA hx, opd_sound hA hy, Sem.run_bind, run_eqGuard_agg w .eql t x y xs ys hg, Result.andThen_ok, run_eql_struct, h1, Sem.run_pure]

theorem Gives.neqStruct {t yt : TypeId} {x y : Operand} {xs ys : Array Value} {r : Bool} (d : Nat) (hd : Nat.ble d 10000 = true) (ho : o.op = .binOp .neq t x y yt)
    (hx : opd E x = some (.agg xs)) (hy : opd E y = some (.agg ys)) (hg : P.eqGuardType P.depth t = false) (he : eqIn P d t (.agg xs) (.agg ys) = some r) :
    Gives P n [] E o (.bool (!r)) := by
  intro a w _ hA
  have h1 := (eq_sound P w d).1 _ _ _ _ he 10000 (Nat.le_of_ble_eq_true hd)
  simp only [execOp, ho, opd_sound hA hx, opd_sound hA hy, Sem.run_bind, run_eqGuard_agg w .neq t x y xs ys hg, Result.andThen_ok, run_neq_struct, h1, Sem.run_pure]
end

theorem takeN_some : ∀ (n : Nat) (l : List Value), n ≤ l.length → takeN n l = some (l.take n)
  | 0, l, _ => by simp [takeN]
  | n + 1, [], h => by simp at h
  | n + 1, x :: l, h => by
    have := takeN_some n l (by simpa using h)
    simp [takeN, this]

/-- A struct that stands somewhere in a row. -/
theorem partAt_agg {P : Program} {t : TypeId} {n o : Nat} {l r : List Value} (hr : (l.drop o).take n = r) (ha : isAggT P t = some true) (hs : sizeOfT P t = some n) (hn : r.length = n) :
    partAt P t l o = some (.agg r.toArray) := by
  unfold partAt
  rw [ha, hs]
  have hl : n ≤ (l.drop o).length := by
    rw [← hr, List.length_take] at hn; omega
  simp only [takeN_some n _ hl, hr]

section
variable {P : Program} {B n : Nat} {ops : Array Oper} {Q : Exit → Env → Ents → Prop} {E : Env} {S : Ents}
/-- A step that leaves what stood there. -/
theorem DWp.stepGrow {muts : List Nat} {l : Array Bool} {i : Nat} {o : Oper} {rest : List Nat} {pr : List (Nat × Ents)} (hmut : muts.contains i = true) (ho : ops[i]? = some o)
    (hg : guardB ops.toList E o.guard = some true)
    (h : Step P B n o (fun E' S' => (∀ y ∈ S, y ∈ S') ∧ DWp P B n ops muts (l.setIfInBounds i true) rest (keptE ops i pr) Q E' S') E S) :
    DWp P B n ops muts l (i :: rest) pr Q E S := by
  intro hgo
  refine DWp.step hmut ho hg ?_ hgo
  intro a w hS hA
  refine Oper.upon_monoQ ?_ (fun _ _ _ h => h) (h a w hS hA)
  rintro a' w' ⟨hb, E', S', hs, ha, hsub, q⟩
  exact ⟨hb, E', S', hs, ha, fun x hx y hy => hsub y (hgo.proms x (List.mem_filter.1 hx).1 y hy), q⟩
end

section
variable {P : Program} {B n : Nat} {E : Env} {S : Ents} {o : Oper} {K : Env → Ents → Prop}
/-- A store, and what the row is behind it. -/
theorem Step.storeAs {t : TypeId} {x y : Operand} {b o' : Nat} {v : Value} (i : Nat) {l : List Value} (l' : List Value) {e : TypeId} {fz : Nat × Nat} {S' : Ents} (hd : dstOk n o.dst = true)
    (ho : o.op = .store t x y) (hx : opd E x = some (.pointer (some ⟨b, o', none⟩))) (hy : opd E y = some v) (he : entAt S i = some (b, cel l e fz)) (hB : B ≤ b)
    (hs : sizeOfT P t = some v.cells.size) (hz : Unfz fz l.length) (h1 : v.cells.toList.all (·.oneCell') = true) (hl : o' + v.cells.size ≤ l.length) (hw : wr l o' v.cells.toList = l')
    (hS' : setEnt S i (b, cel l' e fz) = some S')
    (h : K (putE E o.dst undef) S') : Step P B n o K E S := by
  subst hw
  exact Step.store i hd ho hx hy he hB hs hl hz h1 hS' h
end

theorem Wp.permS {P : Program} {B n : Nat} {c : Code} {Q : Exit → Env → Ents → Prop} {E : Env} {S S' : Ents} (h : S.Perm S') (hc : Wp P B n c Q E S') : Wp P B n c Q E S :=
  fun a w hS hA => hc a w (hS.perm h) hA
theorem OWp.permS {P : Program} {B n : Nat} {ops : Array Oper} {l : List Oper} {Q : Exit → Env → Ents → Prop} {E : Env} {S S' : Ents} (h : S.Perm S') (hc : OWp P B n ops l Q E S') : OWp P B n ops l Q E S :=
  fun a w hS hA => hc a w (hS.perm h) hA
theorem OWp.drop {P : Program} {B n : Nat} {ops : Array Oper} {l : List Oper} {Q : Exit → Env → Ents → Prop} {E : Env} {S S' : Ents} (h : S'.Sublist S) (hc : OWp P B n ops l Q E S') : OWp P B n ops l Q E S :=
  fun a w hS hA => hc a w (hS.sublist h) hA
theorem CallWp.permS {P : Program} {B : Nat} {f : FuncId} {args : Array Value} {Q : Value → Ents → Prop} {S S' : Ents} (h : S.Perm S') (hc : CallWp P B f args Q S') : CallWp P B f args Q S :=
  fun w hS => hc w (hS.perm h)

theorem pr_nil {S' : Ents} : ∀ x ∈ ([] : List (Nat × Ents)), ∀ y ∈ x.2, y ∈ S' := fun _ h => nomatch h
theorem pr_free {S' : Ents} {i : Nat} {pr : List (Nat × Ents)} (r : ∀ x ∈ pr, ∀ y ∈ x.2, y ∈ S') : ∀ x ∈ (i, []) :: pr, ∀ y ∈ x.2, y ∈ S' := by
  intro x hx
  rcases List.mem_cons.1 hx with rfl | hx
  · intro y hy; cases hy
  · exact r x hx
theorem pr_cons {S' : Ents} {i : Nat} {e : Nat × Obj} {es : Ents} {pr : List (Nat × Ents)} (h : e ∈ S') (r : ∀ x ∈ (i, es) :: pr, ∀ y ∈ x.2, y ∈ S') : ∀ x ∈ (i, e :: es) :: pr, ∀ y ∈ x.2, y ∈ S' := by
  intro x hx
  rcases List.mem_cons.1 hx with rfl | hx
  · intro y hy
    rcases List.mem_cons.1 hy with rfl | hy
    · exact h
    · exact r (i, es) (by simp) y hy
  · exact r x (by simp [hx])
theorem pr_kept {S' : Ents} {ops : Array Oper} {i : Nat} {pr : List (Nat × Ents)} (r : ∀ x ∈ pr, ∀ y ∈ x.2, y ∈ S') : ∀ x ∈ keptE ops i pr, ∀ y ∈ x.2, y ∈ S' :=
  fun x hx => r x (List.mem_filter.1 hx).1

theorem CallWp.dropRet {P : Program} {B : Nat} {f : FuncId} {args : Array Value} {Q : Value → Ents → Prop} {S : Ents} (h : CallWp P B f args (fun v S' => ∃ S'' : Ents, S''.Sublist S' ∧ Q v S'') S) : CallWp P B f args Q S :=
  fun w hS => (h w hS).mono fun _ _ ⟨v, _, e, hb, hs, S'', hsub, q⟩ => ⟨v, S'', e, hb, hs.sublist hsub, q⟩
/-- Three ends of proof that come again and again. -/
theorem mems {p : Prop} (hp : p := by repeat (first | exact List.Mem.head _ | assumption | exact List.mem_append_left _ (by assumption) | apply List.mem_cons_of_mem | apply List.mem_append_right)) : p := hp
theorem subl {p : Prop} (hp : p := by repeat (first | exact List.Sublist.refl _ | exact List.sublist_append_right _ _ | apply List.Sublist.cons)) : p := hp
theorem prs {p r : Prop} (hr : r) (hp : p := by first | ((repeat (first | refine pr_kept ?_ | refine pr_free ?_ | (refine pr_cons ?_ ?_; (first | exact List.Mem.head _ | assumption | (repeat (first | exact List.Mem.head _ | assumption | apply List.mem_cons_of_mem | apply List.mem_append_right)))) | exact pr_nil)); done) | (repeat (first | exact pr_nil | refine pr_kept ?_ | refine pr_free ?_ | refine pr_cons (by repeat (first | exact List.Mem.head _ | assumption | exact List.mem_append_left _ (by assumption) | apply List.mem_cons_of_mem | apply List.mem_append_right)) ?_))) : p ∧ r := ⟨hp, hr⟩
end Go.Lg

namespace Go.Lg
open Go.RowKit (Below)

section
variable {P : Program} {B n : Nat} {E : Env} {S : Ents} {o : Oper} {K : Env → Ents → Prop}

theorem Sim.grow {w w' : World} {L : Nat} {ob : Obj} (h : Sim B S w) (hL : L = w.heap.size) (hn : w'.heap[L]? = some ob) (ho : ∀ k, k < w.heap.size → w'.heap[k]? = w.heap[k]?) (hs : w.heap.size ≤ w'.heap.size) : Sim B ((L, ob) :: S) w' := by
  subst hL
  refine ⟨?_, ?_, Nat.le_trans h.base hs⟩
  · intro x hx
    cases hx with
    | head => exact hn
    | tail _ hx => rw [ho x.1 (h.lt hx)]; exact h.holds x hx
  · refine List.pairwise_cons.2 ⟨fun x hx e => ?_, h.own⟩
    have := h.lt hx
    simp only at e
    omega

/-- []byte(s). -/
theorem Step.strToBytes {src dst e : TypeId} {x : Operand} {s : List UInt8} {u : TypeDesc} (hd : dstOk n o.dst = true) (ho : o.op = .convert src dst x)
    (hs : P.underlying src = some u) (hu : P.underlying dst = some (.slice e)) (he : P.underlying e = some (.int .u8)) (hx : opd E x = some (.string (str s)))
    (h : ∀ L g cap, B ≤ L → (∀ x ∈ S, x.1 < L) → (byteCells s ++ g).length = cap → K (putE E o.dst (.slice (some ⟨L, 0, none⟩) s.length cap)) ((L, cel (byteCells s ++ g) e (cap, cap + 1)) :: S)) : Step P B n o K E S := by
  intro a w hS hA
  unfold Oper.wp
  have hr : (execOp a.eval o).run P w = .ok (.value (.slice (some ⟨w.heap.size, 0, none⟩) (str s).size (grownCap w (str s).size 0 e))) (Lib.bytesWorld w e (str s)) := by
    simp only [execOp, ho, opd_sound hA hx, Sem.run_bind, Lib.run_convert_string_bytes (P := P) w src dst e (str s) hs hu he, Result.andThen_ok, Sem.run_pure]
  rw [hr]
  have hc : Lib.bytesCells w e (str s) = (byteCells s ++ List.replicate (grownCap w (str s).size 0 e - (str s).size) (Value.int .u8 0)).toArray := by
    apply Array.ext'
    simp [Lib.bytesCells, byteCells, str]
  have hcap : s.length ≤ grownCap w (str s).size 0 e := grownCap_ge w (str s).size 0 e
  refine ⟨⟨rfl, rfl, rfl, by rw [Lib.bytesWorld_size]; omega, fun k hk => Lib.bytesWorld_at_old w e _ k (Nat.lt_of_lt_of_le hk hS.base)⟩, _, _, ?_, hA.putE hd _, h w.heap.size (List.replicate (grownCap w (str s).size 0 e - (str s).size) (Value.int .u8 0)) (grownCap w (str s).size 0 e) hS.base (fun x hx => hS.lt hx) ?_⟩
  · refine hS.grow rfl ?_ (fun k hk => Lib.bytesWorld_at_old w e _ k hk) (by rw [Lib.bytesWorld_size]; omega)
    rw [Lib.bytesWorld_at_new, hc]
    simp only [List.size_toArray, List.length_append, byteCells_length, List.length_replicate]
    rw [show s.length + (grownCap w (str s).size 0 e - (str s).size) = grownCap w (str s).size 0 e by rw [str_size]; rw [str_size] at hcap; omega]
  · simp only [List.length_append, byteCells_length, List.length_replicate]
    rw [str_size]; rw [str_size] at hcap; omega

/-- copy(bytes, s). -/
theorem Step.copyStr {dT sT elem : TypeId} {x y : Operand} {b o' dLen dCap : Nat} (i : Nat) {s : List UInt8} {l : List Value} (l' : List Value) {e : TypeId} {fz : Nat × Nat} {S' : Ents} (hd : dstOk n o.dst = true)
    (ho : o.op = .call ⟨.builtin .copy, #[x, y], #[dT, sT]⟩) (hu : P.underlying dT = some (.slice elem)) (hs : sizeOfT P elem = some 1)
    (hx : opd E x = some (.slice (some ⟨b, o', none⟩) dLen dCap)) (hy : opd E y = some (.string (str s))) (he : entAt S i = some (b, cel l e fz)) (hB : B ≤ b) (hz : Unfz fz l.length)
    (hl : o' + min s.length dLen ≤ l.length) (hw : wr l o' (byteCells (s.take (min s.length dLen))) = l') (hS' : setEnt S i (b, cel l' e fz) = some S')
    (h : K (putE E o.dst (.int .i64 ((min s.length dLen : Nat) : Int))) S') : Step P B n o K E S := by
  subst hw
  intro a w hS hA
  unfold Oper.wp
  have hgb := hS.holds _ (entAt_mem he)
  have hlen : (byteCells (s.take (min s.length dLen))).length = min s.length dLen := by rw [byteCells_length, List.length_take]; omega
  have h1 := storeCells_run (P := P) b o' e fz (byteCells (s.take (min s.length dLen))) 0 l.toArray w hgb (by rw [hlen]; simpa using hl) (by simpa using hz) (fun x hx => List.all_eq_true.1 (byteCells_one _) x hx)
  have hr : (execOp a.eval o).run P w = .ok (.value (.int .i64 ((min s.length dLen : Nat) : Int))) (w.setRow b (wr l o' (byteCells (s.take (min s.length dLen)))).toArray) := by
    have hm : List.take (min s.length dLen) (List.map (fun b : UInt8 => Value.int IntKind.u8 (b.toNat : Int)) s) = byteCells (s.take (min s.length dLen)) := by
      simp [byteCells, List.map_take]
    have hcopy : (Builtin.copy_ #[dT, sT] o.type #[.slice (some ⟨b, o', none⟩) dLen dCap, .string (str s)]).run P w = .ok (.int .i64 ((min s.length dLen : Nat) : Int)) (w.setRow b (wr l o' (byteCells (s.take (min s.length dLen)))).toArray) := by
      simp only [Nat.add_zero] at h1
      have hmin : Nat.min (str s).size dLen = min s.length dLen := rfl
      simp only [Builtin.copy_]
      simp [run_underlying hu, Builtin.lenOf, Builtin.firstCells, sizeOfT_run hs, hmin]
      have e2 : (str s).data.toList = s := rfl
      simp only [e2]
      rw [hm, h1]
      simp [wr, Result.andThen, goInt]
    simp only [execOp, ho, resolve, invoke, builtin, List.map_toArray, List.map_cons, List.map_nil, opd_sound hA hx, opd_sound hA hy]
    simp [hcopy]
  rw [hr]
  refine ⟨below_setRow hB _, _, S', ?_, hA.putE hd _, h⟩
  exact hS.turn he hS' hB (setRow_heap w b _ _ e fz hgb) (fun k hk => setRow_other w b k _ hk) (by simp)
end
end Go.Lg

namespace Go.Lg

theorem bits_xor_nat (k : IntKind) (j : Nat) (hj : j ≤ k.bits) (hk : ∀ n : Int, 0 ≤ n → n < 2 ^ j → k.wrap n = n) (a b : Nat) (ha : a < 2 ^ j) (hb : b < 2 ^ j) :
    bits .xor k a b = ((a ^^^ b : Nat) : Int) := by
  have hp : 2 ^ j ≤ 2 ^ k.bits := Nat.pow_le_pow_right (by decide) hj
  have ha' : a % 2 ^ k.bits = a := Nat.mod_eq_of_lt (Nat.lt_of_lt_of_le ha hp)
  have hb' : b % 2 ^ k.bits = b := Nat.mod_eq_of_lt (Nat.lt_of_lt_of_le hb hp)
  have cast : ∀ n : Nat, n < 2 ^ j → ((n : Nat) : Int) < 2 ^ j := fun n h => by exact_mod_cast h
  simp only [bits, BitVec.ofInt_natCast, BitVec.toNat_xor, BitVec.toNat_ofNat, ha', hb']
  exact hk _ (Int.natCast_nonneg _) (cast _ (Nat.xor_lt_two_pow ha hb))

theorem wraps_u32 (n : Int) (h₀ : 0 ≤ n) (h₁ : n < 2 ^ 32) : IntKind.u32.wrap n = n := by rw [IntKind.wrap_u32]; omega
theorem wraps_u64 (n : Int) (h₀ : 0 ≤ n) (h₁ : n < 2 ^ 64) : IntKind.u64.wrap n = n := by rw [IntKind.wrap_u64]; omega
theorem wraps_i63 (n : Int) (h₀ : 0 ≤ n) (h₁ : n < 2 ^ 63) : IntKind.i64.wrap n = n := by rw [IntKind.wrap_i64]; omega

section
variable {a b : Nat}
theorem u32_xor (ha : a < 4294967296) (hb : b < 4294967296) : bits .xor .u32 a b = ((a ^^^ b : Nat) : Int) := bits_xor_nat .u32 32 (by decide) wraps_u32 a b ha hb
theorem u32_and (ha : a < 4294967296) (hb : b < 4294967296) : bits .and .u32 a b = ((a &&& b : Nat) : Int) := (bits_nat .u32 32 (by decide) wraps_u32 a b ha hb).1
theorem u32_or (ha : a < 4294967296) (hb : b < 4294967296) : bits .or .u32 a b = ((a ||| b : Nat) : Int) := (bits_nat .u32 32 (by decide) wraps_u32 a b ha hb).2
theorem u8_xor (ha : a < 256) (hb : b < 256) : bits .xor .u8 a b = ((a ^^^ b : Nat) : Int) := bits_xor_nat .u8 8 (by decide) wraps_u8 a b ha hb
theorem u64_and (ha : a < 18446744073709551616) (hb : b < 18446744073709551616) : bits .and .u64 a b = ((a &&& b : Nat) : Int) := (bits_nat .u64 64 (by decide) wraps_u64 a b ha hb).1
theorem u64_or (ha : a < 18446744073709551616) (hb : b < 18446744073709551616) : bits .or .u64 a b = ((a ||| b : Nat) : Int) := (bits_nat .u64 64 (by decide) wraps_u64 a b ha hb).2
theorem i63_xor (ha : a < 9223372036854775808) (hb : b < 9223372036854775808) : bits .xor .i64 a b = ((a ^^^ b : Nat) : Int) := bits_xor_nat .i64 63 (by decide) wraps_i63 a b ha hb
theorem i63_or (ha : a < 9223372036854775808) (hb : b < 9223372036854775808) : bits .or .i64 a b = ((a ||| b : Nat) : Int) := (bits_nat .i64 63 (by decide) wraps_i63 a b ha hb).2
theorem i63_and (ha : a < 9223372036854775808) (hb : b < 9223372036854775808) : bits .and .i64 a b = ((a &&& b : Nat) : Int) := (bits_nat .i64 63 (by decide) wraps_i63 a b ha hb).1
theorem xor_lt32 (ha : a < 4294967296) (hb : b < 4294967296) : a ^^^ b < 4294967296 := Nat.xor_lt_two_pow (n := 32) ha hb
theorem or_lt32 (ha : a < 4294967296) (hb : b < 4294967296) : a ||| b < 4294967296 := Nat.or_lt_two_pow (n := 32) ha hb
theorem and_lt32 (hb : b < 4294967296) : a &&& b < 4294967296 := Nat.and_lt_two_pow (n := 32) a hb
end

/-- A word turned: what is pushed out comes in at the other end. -/
theorem u32_turn {x n m : Nat} (hx : x < 4294967296) (hn : n ≤ 32) (hm : n + m = 32) :
    bits .or .u32 (IntKind.u32.wrap ((x : Int) * 2 ^ (min n IntKind.u32.bits))) ((x : Int).fdiv (2 ^ (min m IntKind.u32.bits))) = ((x * 2 ^ n % 4294967296 + x / 2 ^ m : Nat) : Int) := by
  have hb : IntKind.u32.bits = 32 := rfl
  have e1 : min n 32 = n := by omega
  have e2 : min m 32 = m := by omega
  rw [hb, e1, e2, IntKind.wrap_u32]
  have p1 : (x : Int) * 2 ^ n % 4294967296 = ((x * 2 ^ n % 4294967296 : Nat) : Int) := by simp
  have p2 : (x : Int).fdiv (2 ^ m) = ((x / 2 ^ m : Nat) : Int) := by
    rw [Int.fdiv_eq_ediv_of_nonneg _ (by exact Int.le_of_lt (Int.pow_pos (by decide)))]
    simp
  rw [p1, p2]
  have hlt : x / 2 ^ m < 2 ^ n := by
    rw [Nat.div_lt_iff_lt_mul (Nat.two_pow_pos m), ← Nat.pow_add, hm]; exact hx
  have hle : x / 2 ^ m < 4294967296 := Nat.lt_of_le_of_lt (Nat.div_le_self _ _) hx
  have hmod : x * 2 ^ n % 4294967296 % 2 ^ n = 0 := by
    have : (4294967296 : Nat) = 2 ^ n * 2 ^ m := by rw [← Nat.pow_add, hm]
    rw [this, Nat.mod_mul_right_mod, Nat.mul_mod_left]
  have hz := Nat.mod_lt (x * 2 ^ n) (show 4294967296 > 0 by decide)
  generalize x * 2 ^ n % 4294967296 = z at *
  generalize x / 2 ^ m = y at *
  rw [bits_join .u32 32 (by decide) wraps_u32 n _ _ (by omega) (by exact_mod_cast hmod) (by omega) (by omega) (by exact_mod_cast hlt) (by omega)]
  omega

theorem Gives.shl {P : Program} {n : Nat} {E : Env} {o : Oper} {t yt : TypeId} {x y : Operand} {k k' : IntKind} {a j : Int} {m : Nat} (ho : o.op = .binOp .shl t x y yt) (hx : opd E x = some (.int k a)) (hy : opd E y = some (.int k' j)) (hj : j = (m : Int)) :
    Gives P n [] E o (.int k (k.wrap (a * 2 ^ (min m k.bits)))) := by
  subst hj
  intro a' w _ hA
  have := bin_sound (P := P) (op := .shl) (t := t) (u := .int k a) (v := .int k' (m : Int)) (r := .int k (k.wrap (a * 2 ^ (min m k.bits)))) x y rfl w
  simp only [execOp, ho, opd_sound hA hx, opd_sound hA hy]
  rw [Sem.run_bind] at this ⊢
  simp only [Sem.run_bind] at this ⊢
  generalize hg : (eqGuard BinOp.shl t x y (Value.int k a) (Value.int k' ↑m)).run P w = r at this ⊢
  cases r with
  | ok u w' =>
    simp only [Result.andThen_ok] at this ⊢
    rw [this]; rfl
  | halt h w' => simp [Result.andThen] at this
theorem Gives.shr {P : Program} {n : Nat} {E : Env} {o : Oper} {t yt : TypeId} {x y : Operand} {k k' : IntKind} {a j : Int} {m : Nat} (ho : o.op = .binOp .shr t x y yt) (hx : opd E x = some (.int k a)) (hy : opd E y = some (.int k' j)) (hj : j = (m : Int)) :
    Gives P n [] E o (.int k (a.fdiv (2 ^ (min m k.bits)))) := by
  subst hj
  intro a' w _ hA
  have := bin_sound (P := P) (op := .shr) (t := t) (u := .int k a) (v := .int k' (m : Int)) (r := .int k (a.fdiv (2 ^ (min m k.bits)))) x y rfl w
  simp only [execOp, ho, opd_sound hA hx, opd_sound hA hy]
  simp only [Sem.run_bind] at this ⊢
  generalize hg : (eqGuard BinOp.shr t x y (Value.int k a) (Value.int k' ↑m)).run P w = r at this ⊢
  cases r with
  | ok u w' =>
    simp only [Result.andThen_ok] at this ⊢
    rw [this]; rfl
  | halt h w' => simp [Result.andThen] at this
theorem Reads.form {S : Ents} {sz k : Nat} {v : Value} {xs : List Value} (h : Reads S sz v k xs) : ∃ a c, v = .slice a k c := by
  obtain ⟨_, ⟨⟨a, c, h⟩, rfl⟩ | ⟨b, o, cap, l, e, fz, hv, _⟩⟩ := h
  · exact ⟨a, c, h⟩
  · exact ⟨_, _, hv⟩

theorem Reads.get1 {S : Ents} {v : Value} {xs : List Value} {k : Nat} (h : Reads S 1 v k xs) (h0 : 0 < k) :
    ∃ b o cap l e fz, v = .slice (some ⟨b, o, none⟩) k cap ∧ (b, cel l e fz) ∈ S ∧ o + k ≤ l.length ∧ ∀ i, i < k → l[o + i * 1]? = xs[i]? := by
  obtain ⟨hl, ⟨_, hk⟩ | ⟨b, o, cap, l, e, fz, hv, hm, hle, hx⟩⟩ := h
  · omega
  · refine ⟨b, o, cap, l, e, fz, hv, hm, by omega, fun i hi => ?_⟩
    rw [← hx, List.getElem?_take, if_pos (by omega), List.getElem?_drop, Nat.mul_one]
end Go.Lg
