/- What functions of the given program do, one after the other, told by that layer. -/
import Derived.Test.YtlfhhkdjahcglaaGreatDoorKM11x8ff7
import Derived.Test.YtlfhhkdjahcglaaGreatDoorKM8x1aa8
/- Messages in parts: how they are cut. -/
namespace Go.Proofs.D
open Go.Lg Go.Sha Go.Hd Go.Cv
set_option maxRecDepth 100000
/-- How many parts. -/
def partN (body : List UInt8) : Nat := max 1 ((body.length + 199) / 200)
def partSum (id body : List UInt8) : List UInt8 := (sha (id ++ body)).take 6
def partAtB (id body : List UInt8) (i : Nat) : List UInt8 := id ++ [UInt8.ofNat i, UInt8.ofNat (partN body)] ++ partSum id body ++ (body.drop (200 * i)).take 200
def partsB (id body : List UInt8) : List (List UInt8) := (List.range (partN body)).map (partAtB id body)
theorem partsB_len (id body : List UInt8) : (partsB id body).length = partN body := by simp [partsB]
theorem partSum_len (id body : List UInt8) : (partSum id body).length = 6 := by unfold partSum; rw [List.length_take, sha_len]; rfl
theorem partAtB_len {id body : List UInt8} (h : id.length = 8) (i : Nat) : 16 ≤ (partAtB id body i).length ∧ (partAtB id body i).length ≤ 216 := by
 unfold partAtB
 simp only [List.length_append, h, partSum_len, List.length_take, List.length_cons, List.length_nil]
 omega
theorem partsB_lens {id body : List UInt8} (h : id.length = 8) : ∀ x ∈ partsB id body, 16 ≤ x.length ∧ x.length ≤ 216 := by
 intro x hx
 unfold partsB at hx
 obtain ⟨i, _, rfl⟩ := List.mem_map.1 hx
 exact partAtB_len h i
theorem two_bytesN {L : Nat} {S : Ents} {i n : Nat} : Reads ((L, cel [.int .u8 (IntKind.u8.wrap (i : Int)), .int .u8 (IntKind.u8.wrap (n : Int))] 5) :: S) 1 (.slice (some ⟨L, 0, none⟩) 2 2) 2 (byteCells [UInt8.ofNat i, UInt8.ofNat n]) := by
 rw [u8c (i : Int) i rfl, u8c (n : Int) n rfl]
 exact Reads.row (k := 2) (sz := 1) (l := byteCells [UInt8.ofNat i, UInt8.ofNat n]) (.head _) (Nat.le_refl 2)
theorem partN_int {body : List UInt8} (h : body.length ≤ 2048) : (if IntKind.i64.wrap (Int.tdiv (IntKind.i64.wrap (IntKind.i64.wrap ((body.length : Int) + 200) - 1)) 200) > 1 then IntKind.i64.wrap (Int.tdiv (IntKind.i64.wrap (IntKind.i64.wrap ((body.length : Int) + 200) - 1)) 200) else 1) = ((partN body : Nat) : Int) := by
 rw [i64_id (x := (body.length : Int) + 200) (by omega) (by omega), i64_id (x := (body.length : Int) + 200 - 1) (by omega) (by omega), Int.tdiv_eq_ediv_of_nonneg (by omega), i64_id (by omega) (by omega)]
 unfold partN
 split <;> omega
theorem take_min (r : List UInt8) : r.take (min r.length 200) = r.take 200 := by
 rcases Nat.le_total r.length 200 with h | h
 ·rw [Nat.min_eq_left h, List.take_length, List.take_of_length_le h]
 ·rw [Nat.min_eq_right h]
attribute [local irreducible] sha
section
variable {B : Nat} {S R : Ents} {Q : Value → Ents → Prop}
theorem digestC {id body : List UInt8} (hk : KsIn S) (h1 : id.length ≤ 1000) (h2 : body.length ≤ 100000) (H : Q (.string (str (partSum id body))) S) : CallWp Tryz.prog B 89 #[.string (str id), .string (str body)] Q S := by
 refine CallWp.dropRet ?_
 refine Yx (args := [_, _]) Tryz.func89 Tryz.ntmps89 ?_
 refine Yn 1 rfl ?_
 refine Yg 2 rfl ?_
 refine OWp.step rfl (Step.buildSlice rfl rfl rfl ?_); intro L1 hBL1 hLL1
 refine Yc rfl rfl (shortC (l := [id, body]) (m := 6) (Reads.row (k := 2) (sz := 1) (.head _) (Nat.le_of_ble_eq_true rfl)) (by decide) hk.cons (by unfold big; simp; omega) (by decide) (by decide) ?_)
 refine Yz 5 rfl ?_
 refine Yn 2 rfl ?_
 refine Wp.ret ⟨trivial, _, ⟨_, _, rfl, rfl, rfl⟩, ?_⟩
 rw [show ([id, body] : List (List UInt8)).flatten = id ++ body by simp]
 exact ⟨S, subl, H⟩
theorem pnewC {a b : Int} (h1 : 1 ≤ a) (h2 : a ≤ b) (h3 : b ≤ 1024) (H : ∀ L, B ≤ L → (∀ x ∈ S, x.1 < L) → Q (.tuple #[.pointer (some ⟨L, 0, none⟩), .int .i64 0]) ((L, cel [.int .i64 a, .slice none 0 0, .int .i64 b, .slice none 0 0] 156) :: S)) : CallWp Tryz.prog B 30 #[.int .i64 a, .int .i64 b] Q S := by
 refine Yx (args := [_, _]) Tryz.func30 Tryz.ntmps30 ?_
 refine Yn 2 rfl ?_
 refine Wp.seq ?_
 refine Yg 5 rfl ?_
 refine Dt 10 rfl (by (split <;> omega)) fun cc1 => ?_
 refine Yz 5 rfl ?_
 refine Ct rfl (by (split <;> omega)) fun cc2 => ?_
 refine Wp.skip ?_
 refine Yg 1 rfl ?_
 refine OWp.g rfl rfl (Gives.build rfl rfl) ?_
 refine Ye 1 rfl ?_
 refine OWp.g rfl rfl (Gives.build rfl rfl) ?_
 refine OWp.g rfl rfl (Gives.build rfl rfl) ?_
 refine Yb rfl rfl rfl rfl fun L1 hBL1 hLL1 => ?_
 refine Yz 2 rfl ?_
 refine Wp.ret ⟨trivial, _, ⟨_, _, rfl, rfl, _, _, rfl, rfl, rfl⟩, ?_⟩
 exact H L1 hBL1 hLL1
set_option maxHeartbeats 1000000 in
theorem cutC {id body : List UInt8} (hk : KsIn S) (h1 : id.length = 8) (h2 : body.length ≤ 2048) (H : ∀ v es, Lg.Own B 9 1 v (partN body) (strs (partsB id body)) es → Q (.tuple #[v, .int .i64 0]) (es ++ S)) : CallWp Tryz.prog B 70 #[.string (str id), .string (str body)] Q S := by
 obtain ⟨n, hn⟩ : ∃ n, n = partN body := ⟨_, rfl⟩
 have hn1 : 1 ≤ n ∧ n ≤ 11 := by rw [hn]; unfold partN; omega
 refine Yx (args := [_, _]) Tryz.func70 Tryz.ntmps70 ?_
 refine Yn 2 rfl ?_
 refine Wp.seq ?_
 refine Wp.block ?_
 refine Yn 4 rfl ?_
 refine Cu rfl (by exact fun h => h (by omega)) fun cc1 => ?_
 refine Yn 4 rfl ?_
 refine Ct rfl (by omega) fun cc2 => ?_
 refine Wp.skip ?_
 refine Yg 2 rfl ?_
 refine Yc rfl rfl (digestC hk (by omega) (by omega) ?_)
 refine Yz 1 rfl ?_
 show Wp _ _ _ _ _ _ _
 obtain ⟨sm, hsm⟩ : ∃ x, x = partSum id body := ⟨_, rfl⟩
 rw [← hsm]
 have hsl : sm.length = 6 := by rw [hsm]; exact partSum_len _ _
 refine Yn 7 rfl ?_
 refine Yn 1 rfl ?_
 refine Wp.seq ?_
 refine Yn 2 rfl ?_
 refine Wp.block ?_
 refine Wp.loopS (α := Nat × Value × Ents) (fun z => n - z.1) (fun z => [(0, .string (str id)), (1, .string (str body)), (6, .string (str sm)), (7, .int .i64 (n : Int)), (8, z.2.1), (28, .int .i64 (n : Int)), (29, .int .i64 (z.1 : Int))]) (fun z => z.2.2 ++ S) (fun z => z.1 ≤ n ∧ Lg.Own B 9 1 z.2.1 z.1 (strs ((List.range z.1).map (partAtB id body))) z.2.2) (0, .slice none 0 0, []) ?_ (.refl _) ⟨Nat.zero_le _, Own.nil _ _ _⟩ ?_
 ·exact .cons rfl (.cons rfl (.cons rfl (.cons' rfl (int_eq (hn ▸ partN_int h2)) (.cons rfl (.cons' rfl (int_eq (hn ▸ partN_int h2)) (.cons rfl (.nil _)))))))
 rintro ⟨i, v, es⟩ ⟨hi, ho⟩
 simp only at hi ho ⊢
 refine Yn 1 rfl ?_
 refine Wp.seq ?_
 refine Wp.cond rfl (fun c1 => ?_) (fun c1 => ?_)
 ·have c1 := of_decide_eq_true c1
  have hlt : i < n := by omega
  have hle : 200 * i ≤ body.length := by rw [hn] at hlt; unfold partN at hlt; omega
  refine Wp.skip ?_
  refine Wp.seq ?_
  refine Wp.block ?_
  refine Yn 2 rfl ?_
  refine Yg 3 rfl ?_
  refine OWp.g rfl rfl (Gives.sliceStr (l := (200 * i)) (h' := body.length) rfl rfl rfl ⟨_, _, rfl, by rw [i64_id (by omega) (by omega)]; omega⟩ rfl (by omega) (by omega)) ?_
  obtain ⟨r, hr⟩ : ∃ r, r = body.drop (200 * i) := ⟨_, rfl⟩
  rw [show (body.drop (200 * i)).take (body.length - 200 * i) = r by rw [hr]; exact List.take_of_length_le (by rw [List.length_drop]; exact Nat.le_refl _)]
  have hrl : r.length ≤ 2048 := by rw [hr, List.length_drop]; omega
  refine Yz 1 rfl ?_
  refine Yg 4 rfl ?_
  refine OWp.g rfl rfl (Gives.sliceStr (l := 0) (h' := (min r.length 200)) rfl rfl rfl rfl ⟨_, _, rfl, by split <;> omega⟩ (by omega) (by omega)) ?_
  rw [show ((r.drop 0).take (min r.length 200 - 0)) = r.take 200 by rw [List.drop_zero, Nat.sub_zero, take_min]]
  refine Yz 1 rfl ?_
  refine Wp.region ?_
  refine Ye 6 rfl ?_
  refine OWp.step rfl (Step.buildSlice rfl rfl rfl ?_); intro L47 hBL47 hLL47
  refine OWp.gives rfl rfl (Gives.bytesToStr (l := [UInt8.ofNat i, UInt8.ofNat n]) (k := 2) rfl rfl rfl rfl rfl two_bytesN) (fun _ h => h) ?_
  refine OWp.g rfl rfl (Gives.addStr rfl rfl rfl (by simp [h1])) ?_
  refine Ye 1 rfl ?_
  refine OWp.g rfl rfl (Gives.addStr rfl rfl rfl (by simp [h1, hsl])) ?_
  refine Ye 1 rfl ?_
  refine OWp.g rfl rfl (Gives.addStr rfl rfl rfl (by simp [h1, hsl]; omega)) ?_
  refine OWp.step rfl (Step.buildSlice rfl rfl rfl ?_); intro Lp3 hBLp3 hLLp3
  refine OWp.step rfl (Step.appendAt [_, _] rfl rfl rfl rfl rfl rfl (by decide) rfl rfl ho (Reads.row (k := 1) (sz := 1) (.head _) (Nat.le_of_ble_eq_true rfl)) rfl (by show (_ + 1) * 16 ≤ _; omega) (by unfold maxLen; omega) ?_); intro v2 es2 ho2 _
  refine OWp.dropAt 0 rfl ?_
  refine Yz 1 rfl ?_
  refine Wp.drop (S' := es2 ++ S) (List.sublist_cons_self _ _) ?_
  refine Wp.region ?_
  refine Yz 2 rfl ?_
  refine ⟨(i + 1, v2, es2), by simp only; omega, ⟨hlt, ?_⟩, .cons rfl (.cons rfl (.cons rfl (.cons rfl (.cons rfl (.cons rfl (.cons' rfl (int_eq (i64_inc (by omega))) (.nil _))))))), .refl _⟩
  simp only
  have e : strs ((List.range (i + 1)).map (partAtB id body)) = strs ((List.range i).map (partAtB id body)) ++ [.string (str (id ++ [UInt8.ofNat i, UInt8.ofNat n] ++ sm ++ r.take 200))] := by
   rw [List.range_succ, List.map_append, List.map_singleton]
   unfold partAtB
   rw [← hn, ← hsm, ← hr]
   simp [strs]
  rw [e]
  exact ho2
 have c1 := of_decide_eq_false c1
 obtain rfl : i = n := by omega
 refine Wp.exit ?_
 refine Yn 3 rfl ?_
 refine Wp.ret ⟨trivial, _, ⟨_, _, rfl, rfl, _, _, rfl, rfl, rfl⟩, ?_⟩
 rw [hn] at ho
 exact H _ es ho
end
end Go.Proofs.D

/- Packets are made of any points on the curve. -/
namespace Go.Proofs.D
open Go.Lg Go.Sha Go.Hd Go.Cv
open Go.Proofs.C (Hop hopP hopB parse pathE encB)
set_option maxRecDepth 100000
theorem makeR_any {seed : List UInt8} {ps : List (List UInt8)} {path : List Hop} (hs : seed.length = 32) (h : pathE path = 0) (hl : ps.length = path.length) (hon : ∀ p ∈ ps, OnB p) : (makeR seed ps path).2.2 = 0 := by
 obtain ⟨hgood, hpos, hmost⟩ := pathE_ok h
 have hg := hopsGo_eq ps [seed] hon (by intro b hb; rw [List.mem_singleton.1 hb]; exact hs) (by simp; omega)
 have h32 : ∀ s ∈ seed :: ps, s.length = 32 := by
  intro s hx
  rcases List.mem_cons.1 hx with rfl | hx
  ·exact hs
  ·exact (hon s hx).1
 unfold makeR
 rw [if_neg (fun e => e h), if_neg (by omega), if_neg (fun e => e h32), hg, if_neg (by simp)]
theorem packR_any {seed text : List UInt8} {ps : List (List UInt8)} {path : List Hop} (hs : seed.length = 32) (h : pathE path = 0) (hl : ps.length = path.length) (hon : ∀ p ∈ ps, OnB p) (ht : text.length ≤ 222) : (packR seed ps text path).2 = 0 ∧ (packR seed ps text path).1.length = 504 := by
 have h0 := makeR_any hs h hl hon
 obtain ⟨_, _, h248, _⟩ := keys_len h0
 unfold packR
 rw [if_neg (by omega), if_neg (by omega)]
 refine ⟨rfl, ?_⟩
 simp only
 rw [List.length_append, h248, bodyR_len ht]
end Go.Proofs.D

/- Ways that are drawn of a tape from any place on: they are paths, and packets are made of them. -/
namespace Go.Proofs.C
open Go.Lg
set_option maxRecDepth 100000
theorem findP_mem {ls : List (List Nd)} {ly : Int} {x : Nd} (hok : NodesOk ls) (h : (ly, x) ∈ lay ls 0) : findP ls x.1 = some (ly, x) := by
 obtain ⟨p, t, e⟩ := List.append_of_mem h
 refine findP_some (p := p) (x := (ly, x)) ⟨t, by rw [e]; simp⟩ ?_ rfl
 intro y hy hn
 have hd := hok.2
 unfold nums at hd
 rw [e, List.map_append, List.map_cons, List.nodup_append] at hd
 exact hd.2.2 y.2.1 (List.mem_map.2 ⟨y, hy, rfl⟩) x.1 (by simp) hn
theorem lay_mem {ls : List (List Nd)} {i : Nat} (hi : i < ls.length) {x : Nd} (hx : x ∈ ls[i]) : ((i : Int), x) ∈ lay ls 0 := by
 unfold lay
 refine List.mem_flatMap.2 ⟨(ls[i], i), ?_, List.mem_map.2 ⟨x, hx, rfl⟩⟩
 rw [List.mem_zipIdx_iff_getElem?]
 simp
/-- A host of the town. -/
def IsHost (h0 : List Nd) (ms : List (List Nd)) (b : Nd) : Prop := ((0 : Int), b) ∈ lay (h0 :: ms) 0
theorem IsHost.of {h0 : List Nd} {ms : List (List Nd)} {i : Nat} (h : i < h0.length) : IsHost h0 ms h0[i] := lay_mem (ls := h0 :: ms) (i := 0) (by simp) (List.getElem_mem h)
theorem IsHost.ofHost {h0 : List Nd} {ms : List (List Nd)} {ss : List St} {to : Int} {b : Nd} (hb : HostOf (h0 :: ms) ss to b 0) : IsHost h0 ms b := by
 rcases hostOf_no hb with ⟨_, _, sl, ly, _, hf, hly⟩ | h | h
 ·have hm := List.mem_of_find?_eq_some hf
  have := lay_high hm
  have e : ly = 0 := by simp at this; omega
  subst e
  exact hm
 ·cases h
 ·cases h
theorem wayN_lay {s : List UInt8} {k : Nat} {h0 : List Nd} {ms : List (List Nd)} {ss : List St} {a b : Nd} (hok : TownOk (h0 :: ms) ss) (ha : IsHost h0 ms a) (hb : IsHost h0 ms b) {x : Nd} (hx : x ∈ wayN s k a b ms) :
  ∃ ly, (ly, x) ∈ lay (h0 :: ms) 0 := by
 unfold wayN at hx
 rcases List.mem_cons.1 hx with rfl | hx
 ·exact ⟨0, ha⟩
 rcases List.mem_append.1 hx with hx | hx
 ·unfold picks at hx
  obtain ⟨i, hi, rfl⟩ := List.mem_map.1 hx
  have hi' : i < ms.length := List.mem_range.1 hi
  have hy := (layer_small hok (List.getElem_mem hi')).1
  have hw := pick_lt (s := s) (k := k + 4 * i) (n := ms[i].length) (by omega)
  refine ⟨((i + 1 : Nat) : Int), ?_⟩
  have e : pick s k ms i = ms[i][word s (k + 4 * i) * ms[i].length / 4294967296] := by
   unfold pick
   rw [show ms.getD i [] = ms[i] by simp [hi']]
   rw [List.getD_eq_getElem?_getD, List.getElem?_eq_getElem hw]
   rfl
  rw [e]
  exact lay_mem (ls := h0 :: ms) (i := i + 1) (by simp; omega) (List.getElem_mem _)
 ·rw [List.mem_singleton.1 hx]; exact ⟨0, hb⟩
theorem way_path {s : List UInt8} {k : Nat} {h0 : List Nd} {ms : List (List Nd)} {ss : List St} {a b : Nd} {h : Hop} {mean most : Int} (hok : TownOk (h0 :: ms) ss) (ha : IsHost h0 ms a) (hb : IsHost h0 ms b) (hm : mayP most [mean]) (hp : hopP h) (hk : h.kind ≠ 1) :
  pathE (hopsW s k mean most ms.length (wayN s k a b ms) (ms.length + 1) ++ [h]) = 0 := by
 have hnl : ms.length ≤ 3 := by have := hok.1.2.1; simp only [List.length_cons] at this; omega
 have hl : (hopsW s k mean most ms.length (wayN s k a b ms) (ms.length + 1) ++ [h]).length = ms.length + 2 := by rw [List.length_append, hopsW_len]; rfl
 rw [pathE_good, if_pos]
 ·refine ⟨(shape_iff _).2 ⟨by omega, fun i hi => ?_⟩, by omega⟩
  rw [hl] at hi ⊢
  by_cases hi2 : i < ms.length + 1
  ·rw [List.getElem_append_left (by rw [hopsW_len]; exact hi2)]
   simp only [hopsW, List.getElem_map, hopW]
   constructor
   ·intro _; omega
   ·intro _; trivial
  ·rw [List.getElem_append_right (by rw [hopsW_len]; omega)]
   simp only [List.getElem_singleton]
   constructor
   ·intro h2; exact absurd h2 hk
   ·intro h2; omega
 ·intro x hx
  rcases List.mem_append.1 hx with hx | hx
  ·unfold hopsW at hx
   obtain ⟨i, hi, rfl⟩ := List.mem_map.1 hx
   have hi' := List.mem_range.1 hi
   have h1 : i + 1 < (wayN s k a b ms).length := by rw [wayN_len]; omega
   obtain ⟨ly, h2⟩ := wayN_lay (s := s) (k := k) (a := a) (b := b) hok ha hb (List.getElem_mem h1)
   obtain ⟨h3, h4, _⟩ := hok.2.1.1 _ h2
   have h5 := dl_le mean.toNat (word s (k + 4 * (ms.length + i))) most.toNat
   obtain ⟨h6, h7, _⟩ := hm
   refine .inl ⟨rfl, ?_, ?_, ?_, ?_, rfl, rfl⟩
   ·simp only [hopW, List.getD_eq_getElem?_getD, List.getElem?_eq_getElem h1, Option.getD_some]; exact h3
   ·simp only [hopW, List.getD_eq_getElem?_getD, List.getElem?_eq_getElem h1, Option.getD_some]; simp only at h4; omega
   ·simp only [hopW]; omega
   ·simp only [hopW, waitW]; omega
  ·rw [List.mem_singleton.1 hx]; exact hp
theorem wayR_is {s : List UInt8} {k : Nat} {a b : Nd} {ms : List (List Nd)} {h : Hop} {mean most : Int} (h1 : mayP most [mean]) (h2 : k + 4 * (2 * ms.length + 1) ≤ s.length) :
  wayR s k a b ms h mean most = ((wayN s k a b ms).map (·.2), hopsW s k mean most ms.length (wayN s k a b ms) (ms.length + 1) ++ [h], 0, k + 4 * (2 * ms.length + 1)) := by
 unfold wayR
 rw [if_neg (by simpa using h1), if_neg (by omega)]
end Go.Proofs.C
namespace Go.Proofs.D
open Go.Lg Go.Sha Go.Hd Go.Cv
open Go.Proofs.C (Hop hopP hopB parse pathE encB Nd St TownOk HostOf IsHost wayR wayN hopsW mayP lay)
set_option maxRecDepth 100000
/-- All nodes' points lie on the curve. -/
def OnT (h0 : List Nd) (ms : List (List Nd)) : Prop := ∀ x ∈ lay (h0 :: ms) 0, OnB x.2.2
theorem way_pk {s seed txt : List UInt8} {k : Nat} {h0 : List Nd} {ms : List (List Nd)} {ss : List St} {a b : Nd} {h : Hop} {mean most : Int} (hok : TownOk (h0 :: ms) ss) (hon : OnT h0 ms) (ha : IsHost h0 ms a) (hb : IsHost h0 ms b) (hm : mayP most [mean]) (hp : hopP h) (hk : h.kind ≠ 1)
  (hs : seed.length = 32) (ht : txt.length ≤ 222) (hkk : k + 4 * (2 * ms.length + 1) ≤ s.length) :
  (packR seed (wayR s k a b ms h mean most).1 txt (wayR s k a b ms h mean most).2.1).2 = 0 ∧ (packR seed (wayR s k a b ms h mean most).1 txt (wayR s k a b ms h mean most).2.1).1.length = 504 := by
 rw [C.wayR_is hm hkk]
 refine packR_any hs (C.way_path hok ha hb hm hp hk) ?_ ?_ ht
 ·rw [List.length_map, C.wayN_len, List.length_append, C.hopsW_len]; rfl
 ·intro p hx
  obtain ⟨x, hx2, rfl⟩ := List.mem_map.1 hx
  obtain ⟨ly, h2⟩ := C.wayN_lay hok ha hb hx2
  exact hon _ h2
end Go.Proofs.D

/- A client: what its slots send. -/
namespace Go.Proofs.D
open Go.Lg Go.Sha Go.Hd Go.Cv
open Go.Proofs.C (Hop hopP hopB parse pathE encB tp word TIn Nd ndc St stc TownOk HostOf IsHost wayR mayP TownOk belowR)
set_option maxRecDepth 100000
/-- What stays of a client: where its parts lie, and its habit. -/
structure Ck where
 p : Nat
 px : Nat
 pj : Nat
 pl : Nat
 user : Nat
 key : List UInt8
 h0 : List Nd
 ms : List (List Nd)
 ss : List St
 hv : Value
 mv : Value
 sv : Value
 mn : List Int
 mean : Int
 most : Int
 wd : Int
 dl : Int
 th : Int
 s : List UInt8
 a : Nd
/-- How many bytes a way reads. -/
def Ck.w (c : Ck) : Nat := 4 * (2 * c.ms.length + 1)
/-- What turns: what waits, the next slots, the tick, how many messages, the last number, whether the tape is used up. -/
def clc (c : Ck) (qv : Value) (nx : List Nat) (now : Int) (many seq : Nat) (dry : Bool) : List Value :=
  [.int .i64 (c.user : Int), .string (str c.key), c.hv, c.mv, c.sv, .int .i64 (c.mn.getD 0 0), .int .i64 (c.mn.getD 1 0), .int .i64 (c.mn.getD 2 0), .int .i64 (c.mn.getD 3 0), .int .i64 c.mean, .int .i64 c.most, .int .i64 c.wd, .int .i64 c.dl, .int .i64 c.th, .string (str c.s),
   pt c.px, qv, .int .i64 (nx.getD 0 0 : Nat), .int .i64 (nx.getD 1 0 : Nat), .int .i64 (nx.getD 2 0 : Nat), .int .i64 (nx.getD 3 0 : Nat),
   .func (.func 32) #[pt c.p] #[], .int .i64 ((56 + c.w : Nat) : Int), .func (.func 33) #[pt c.p] #[], .int .i64 ((40 + c.w : Nat) : Int), .func (.func 34) #[pt c.p] #[], .int .i64 ((52 + c.w : Nat) : Int), .func (.func 35) #[pt c.p] #[], .int .i64 4,
   pt c.pj, pt c.pl, .int .i64 now, .int .i64 (many : Int), .int .i64 (seq : Int), .bool dry]
abbrev cle (c : Ck) (qv : Value) (nx : List Nat) (now : Int) (many seq : Nat) (dry : Bool) : Nat × Obj := (c.p, cel (clc c qv nx now many seq dry) 98)
/-- What is right of a client all the time. -/
structure CkOk (B : Nat) (R : Ents) (c : Ck) : Prop where
 hp : B ≤ c.p
 hpx : B ≤ c.px
 hpl : B ≤ c.pl
 ks : KsIn R
 town : TIn R c.hv c.mv c.sv c.h0 c.ms c.ss
 ok : TownOk (c.h0 :: c.ms) c.ss
 on : OnT c.h0 c.ms
 host : HostOf (c.h0 :: c.ms) c.ss (c.user : Int) c.a 0
 user : c.user < 64
 key : c.key.length = 32
 mn : ∀ i, mayP 255 [c.mn.getD i 0]
 may : mayP c.most [c.mean]
 lp : lpP c.wd c.dl c.th
 sl : c.s.length ≤ 8000
theorem CkOk.mono {B : Nat} {R R' : Ents} {c : Ck} (h : CkOk B R c) (hs : ∀ x ∈ R, x ∈ R') : CkOk B R' c :=
 { h with ks := by obtain ⟨l, e, f, h1, h2⟩ := h.ks; exact ⟨l, e, f, hs _ h1, h2⟩, town := h.town.mono hs }
def seedAt (s : List UInt8) (k : Nat) : List UInt8 := (s.drop k).take 32
def idAt (s : List UInt8) (k : Nat) : List UInt8 := (s.drop (k + 32)).take 16
def hostNd (h0 : List Nd) (s : List UInt8) (k : Nat) : Nd := h0.getD (word s k * h0.length / 4294967296) (0, [])
def dropH : Hop := ⟨4, 0, 0, 0, []⟩
def homeH (user : Int) (id : List UInt8) : Hop := ⟨2, 0, user, 0, id⟩
/-- A user's host. -/
def hostU (ls : List (List Nd)) (ss : List St) (u : Int) : Nd :=
 match ss.find? (fun s => s.1 == u) with
 | some sl => match C.findP ls sl.2 with
  | some x => x.2
  | none => (0, [])
 | none => (0, [])
theorem hostU_is {ls : List (List Nd)} {ss : List St} {u : Int} {n : Nd} (h : HostOf ls ss u n 0) : hostU ls ss u = n := by
 rcases h with ⟨_, ⟨sl, ly, h1, h2, _⟩ | ⟨_, _, h⟩⟩ | ⟨_, _, h⟩
 ·unfold hostU; rw [h1]; simp only; rw [h2]
 ·cases h
 ·cases h
/-- The text that is sent along a way. -/
def pkB (seed : List UInt8) (txt : List UInt8) (w : List (List UInt8) × List Hop × Int × Nat) : List UInt8 := packB (packR seed w.1 txt w.2.1).1
theorem seedAt_len {s : List UInt8} {k : Nat} (h : k + 32 ≤ s.length) : (seedAt s k).length = 32 := by unfold seedAt; rw [List.length_take, List.length_drop]; omega
theorem idAt_len {s : List UInt8} {k : Nat} (h : k + 48 ≤ s.length) : (idAt s k).length = 16 := by unfold idAt; rw [List.length_take, List.length_drop]; omega
theorem hostNd_is {h0 : List Nd} {ms : List (List Nd)} {s : List UInt8} {k : Nat} (h : 0 < h0.length) : IsHost h0 ms (hostNd h0 s k) := by
 have hw := C.pick_lt (s := s) (k := k) h
 unfold hostNd
 rw [List.getD_eq_getElem?_getD, List.getElem?_eq_getElem hw]
 exact IsHost.of hw
section
variable {B : Nat} {S R : Ents} {Q : Value → Ents → Prop} {c : Ck} {qv : Value} {nx : List Nat} {now : Int} {many seq : Nat} {dry : Bool} {k : Nat}
theorem bytesY {s : List UInt8} {n p : Nat} (hB : B ≤ p) (hs : s.length ≤ C.lim) (hn : n ≤ 4096) (h1 : k + n ≤ s.length) (h : Q (.tuple #[.string (str ((s.drop k).take n)), .int .i64 0]) (tp p s (k + n) :: R)) :
  CallWp Tryz.prog B 63 #[pt p, .int .i64 (n : Int)] Q (tp p s k :: R) := by
 refine Yx (args := [_, _]) Tryz.func63 Tryz.ntmps63 ?_
 refine Yn 2 rfl ?_
 refine Wp.seq ?_
 refine Yg 3 rfl ?_
 refine Dt 10 rfl (by omega) fun cc1 => ?_
 refine Yz 3 rfl ?_
 refine Ct rfl (by omega) fun cc2 => ?_
 refine Wp.skip ?_
 refine Yg 4 rfl ?_
 refine Yc rfl rfl (C.read_yes hB hs h1 ?_)
 refine Yz 5 rfl ?_
 refine Wp.seq ?_
 refine Yn 2 rfl ?_
 refine Cn rfl ?_
 refine Wp.skip ?_
 refine Yn 3 rfl ?_
 refine Wp.ret ⟨trivial, _, ⟨_, _, rfl, rfl, _, _, rfl, rfl, rfl⟩, ?_⟩
 exact h
theorem chostC (ho : CkOk B R c) (hR : ∀ x ∈ R, x ∈ S) (hm : cle c qv nx now many seq dry ∈ S) (hk : k + 4 ≤ c.s.length) (H : Q (.int .i64 (hostNd c.h0 c.s k).1) (tp c.px c.s (k + 4) :: S)) : CallWp Tryz.prog B 64 #[pt c.p] Q (tp c.px c.s k :: S) := by
 obtain ⟨vs, t1, t2, t3, t4, t5, t6⟩ := id ho.town
 obtain ⟨a1, c1, a2, c2, a3, c3, e1, e2, e3⟩ := ho.town.forms
 have hr := (t3.2 0 c.hv c.h0 rfl rfl).1
 have h00 : 0 < c.h0.length := by
  have := ho.ok.1.2.2 c.h0 (by simp)
  exact List.length_pos_iff.2 this
 obtain ⟨b, o, cap, l, e, fz, hv, hm', hat⟩ := hr.elem (sz := 2) (fun _ _ => rfl) h00
 have hle : c.h0.length ≤ 32 := by
  have hok := ho.ok.2.1
  have h1 : ∀ x ∈ c.h0.map (·.1), (0 : Int) ≤ x ∧ x < ((32 : Nat) : Int) := by
   intro x hx
   obtain ⟨y, hy, rfl⟩ := List.mem_map.1 hx
   have := hok.1 _ (C.lay_mem (ls := c.h0 :: c.ms) (i := 0) (by simp) hy)
   exact ⟨this.1, by have := this.2.1; simp only at this ⊢; omega⟩
  have h2 : (c.h0.map (·.1)).Nodup := by
   have h := hok.2
   rw [C.lay_cons] at h
   unfold C.nums at h
   rw [List.map_append, List.map_map] at h
   exact (List.nodup_append.1 h).1
  have := C.nodup_le 32 _ h2 h1
  rwa [List.length_map] at this
 have hw := C.pick_lt (s := c.s) (k := k) h00
 have hs : c.s.length ≤ C.lim := by have := ho.sl; unfold C.lim; omega
 unfold cle clc at hm
 rw [hv] at hm
 refine Yx (args := [_]) Tryz.func64 Tryz.ntmps64 ?_
 refine Yn 1 rfl ?_
 refine Wp.seq (Wp.regionDraw [0, 1, 2, 3, 4, 5, 6, 7, 8, 9, 10, 11, 12, 13, 14, 15, 16] [11] rfl (by decide +kernel) ?_)
 refine DWp.evs 3 rfl ?_
 refine Yd (.tail _ hm) ?_
 refine DWp.evs 5 rfl ?_
 refine Yd (.tail _ hm) ?_
 refine DWp.evs 1 rfl ?_
 refine DWp.stepAll rfl rfl rfl rfl (Step.call rfl rfl rfl rfl rfl rfl ((C.belowC ho.hpx hs (by omega) ?_)))
 rw [C.belowR_yes (by omega) h00 (by omega)]
 refine DWp.evs 5 rfl ?_
 refine DWp.nil ?_
 refine Yg 5 rfl ?_
 refine Yl (.tail _ hm) ?_
 refine Ye 1 rfl ?_
 refine OWp.g rfl rfl (Gives.indexAddrSlice ((word c.s k * c.h0.length / 4294967296)) rfl rfl rfl rfl rfl rfl hw) ?_
 refine Ye 1 rfl ?_
 refine OWp.load (.tail _ (hR _ hm')) rfl rfl rfl rfl ((partAt_in (m := 0) (hat _ hw) rfl (by decide) (by decide)).trans rfl) ?_
 refine Yz 1 rfl ?_
 refine Wp.ret ⟨trivial, _, ⟨_, _, rfl, rfl, rfl⟩, ?_⟩
 have e4 : hostNd c.h0 c.s k = c.h0[word c.s k * c.h0.length / 4294967296] := by unfold hostNd; rw [List.getD_eq_getElem?_getD, List.getElem?_eq_getElem hw]; rfl
 rw [e4] at H
 exact H
end
end Go.Proofs.D

/- A client: packets that are dropped, pulls. -/
namespace Go.Proofs.D
open Go.Lg Go.Sha Go.Hd Go.Cv
open Go.Proofs.C (Hop hopP hopB parse pathE encB tp word TIn Nd ndc St stc TownOk HostOf IsHost wayR mayP TownOk belowR WayIn LooseOf HomeOf)
set_option maxRecDepth 100000
abbrev WayV := List (List UInt8) × List Hop × Int × Nat
theorem loose_is {c : Ck} {B : Nat} {R : Ents} (ho : CkOk B R c) {k : Nat} {b : Nd} (hb : IsHost c.h0 c.ms b) {w : WayV} (h : LooseOf c.h0 c.ms c.ss c.s k c.user b.1 dropH c.mean c.most w) : w = wayR c.s k c.a b c.ms dropH c.mean c.most := by
 have hf : C.findP (c.h0 :: c.ms) b.1 = some (0, b) := C.findP_mem ho.ok.2.1 hb
 rcases h with ⟨a, e, ha, he, rfl⟩ | ⟨a, ha, hn, rfl⟩ | ⟨a, b', ly, ha, hb', hl, hp, rfl⟩ | ⟨a, b', ly, ha, hb', hl, hp, rfl⟩
 ·exact absurd (C.hostOf_one ho.host ha).2.symm he
 ·exact absurd ⟨(0, b), hf, Int.le_refl 0⟩ hn
 ·exact absurd ⟨.inr (.inr (.inr ⟨rfl, rfl, rfl, rfl, rfl⟩)), by decide⟩ hp
 ·rw [hf] at hb'
  cases hb'
  obtain ⟨rfl, _⟩ := C.hostOf_one ho.host ha
  rfl
theorem home_is {c : Ck} {B : Nat} {R : Ents} (ho : CkOk B R c) {k : Nat} {to : Int} {b : Nd} {id : List UInt8} (hb : HostOf (c.h0 :: c.ms) c.ss to b 0) (hto : 0 ≤ to ∧ to < 64) (hid : id.length = 16) {w : WayV} (h : HomeOf c.h0 c.ms c.ss c.s k c.user to id c.mean c.most w) : w = wayR c.s k c.a b c.ms (homeH to id) c.mean c.most := by
 rcases h with ⟨a, e, ha, he, rfl⟩ | ⟨a, b', e, ha, hb', he, rfl⟩ | ⟨a, b', ha, hb', hp, rfl⟩ | ⟨a, b', ha, hb', hp, rfl⟩
 ·exact absurd (C.hostOf_one ho.host ha).2.symm he
 ·exact absurd (C.hostOf_one hb hb').2.symm he
 ·exact absurd (.inr (.inl ⟨rfl, hto.1, by show to ≤ 63; omega, Int.le_refl 0, by show (0 : Int) ≤ 4096; decide, rfl, hid⟩)) hp
 ·obtain ⟨rfl, _⟩ := C.hostOf_one ho.host ha
  obtain ⟨rfl, _⟩ := C.hostOf_one hb hb'
  rfl
attribute [local irreducible] wayR packR hmac pullB ackB
section
variable {B : Nat} {S R : Ents} {Q : Value → Ents → Prop} {c : Ck} {qv : Value} {nx : List Nat} {now : Int} {many seq : Nat} {dry : Bool} {k : Nat}
set_option maxHeartbeats 1000000 in
theorem clooseC (ho : CkOk B R c) (hR : ∀ x ∈ R, x ∈ S) (hm : cle c qv nx now many seq dry ∈ S) {b : Nd} (hb : IsHost c.h0 c.ms b) (hk : k + c.w ≤ c.s.length)
  (H : ∀ pv qv es1 es2, WayIn B (wayR c.s k c.a b c.ms dropH c.mean c.most) pv qv es1 es2 → Q (.agg #[pv, qv]) (tp c.px c.s (k + c.w) :: (es1 ++ (es2 ++ S)))) :
  CallWp Tryz.prog B 66 #[pt c.p, .int .i64 b.1] Q (tp c.px c.s k :: S) := by
 have hs : c.s.length ≤ C.lim := by have := ho.sl; unfold C.lim; omega
 have hw4 : (wayR c.s k c.a b c.ms dropH c.mean c.most).2.2.2 = k + c.w := by rw [C.wayR_is ho.may hk]; rfl
 obtain ⟨w, hw⟩ : ∃ w, w = wayR c.s k c.a b c.ms dropH c.mean c.most := ⟨_, rfl⟩
 rw [← hw] at hw4 H
 refine C.subRet ?_
 refine Yx (args := [_, _]) Tryz.func66 Tryz.ntmps66 ?_
 refine Yq ?_
 refine Ya rfl rfl rfl rfl fun L4 hBL4 hLL4 => ?_
 refine OWp.permS (List.Perm.swap _ _ _) ?_
 refine OWp.nil ?_
 refine Wp.seq (Wp.regionDraw [0, 1, 2, 3, 4, 5, 6, 7, 8, 9, 10, 11, 12, 13, 14, 15, 16, 17, 18, 19, 20, 28, 28, 28, 28, 28, 28, 28] [21, 25, 26] rfl (by decide +kernel) ?_)
 refine DWp.evs 4 rfl ?_
 refine Yd (show cle c qv nx now many seq dry ∈ _ from by repeat (first | exact List.Mem.head _ | assumption | exact List.mem_append_left _ (by assumption) | apply List.mem_cons_of_mem | apply List.mem_append_right)) ?_
 refine DWp.evs 3 rfl ?_
 refine Yd (show cle c qv nx now many seq dry ∈ _ from by repeat (first | exact List.Mem.head _ | assumption | exact List.mem_append_left _ (by assumption) | apply List.mem_cons_of_mem | apply List.mem_append_right)) ?_
 refine DWp.evs 4 rfl ?_
 refine Yd (show cle c qv nx now many seq dry ∈ _ from by repeat (first | exact List.Mem.head _ | assumption | exact List.mem_append_left _ (by assumption) | apply List.mem_cons_of_mem | apply List.mem_append_right)) ?_
 refine DWp.evs 1 rfl ?_
 refine DWp.g rfl rfl rfl rfl (Gives.build rfl rfl) ?_
 refine DWp.evs 4 rfl ?_
 refine Yd (show cle c qv nx now many seq dry ∈ _ from by repeat (first | exact List.Mem.head _ | assumption | exact List.mem_append_left _ (by assumption) | apply List.mem_cons_of_mem | apply List.mem_append_right)) ?_
 refine DWp.forkTo [21, 25] (by decide +kernel) (by simp) ?_
 intro xx hxx
 simp only [List.mem_cons, List.mem_nil_iff, or_false] at hxx
 rcases hxx with rfl | rfl
 ·refine ⟨_, [22, 23, 24, 25, 26, 27], rfl, rfl, by decide +kernel, rfl, ?_⟩
  refine (Step.permS (.rfl) (Step.call rfl rfl rfl rfl rfl rfl (C.looseC (h := dropH) ho.hpx hs (by omega) (ho.town.mono fun x hx => (by have := hR x hx; (repeat (first | assumption | exact List.Mem.head _ | exact List.mem_append_left _ (by assumption) | apply List.mem_cons_of_mem | apply List.mem_append_right)))) ?_)))
  intro w2 pv qv2 e1 e2 hl hin
  obtain rfl := loose_is ho hb hl
  rw [← hw] at hin ⊢
  rw [hw4]
  obtain ⟨pa, pc, rfl⟩ := hin.1.reads.form
  obtain ⟨qa, qc, rfl⟩ := hin.2.reads.form
  refine prs ?_
  refine DWp.evs 3 rfl ?_
  refine DWp.step rfl rfl rfl (Step.alloc rfl rfl rfl ?_); intro L5 hBL5 hLL5
  refine prs ?_
  refine DWp.step rfl rfl rfl (Step.permS (.rfl) (Step.storeAs 0 [.slice pa w.1.length pc, .slice qa w.2.1.length qc] rfl rfl rfl rfl rfl hBL5 rfl (Unfz.zero _) rfl (Nat.le_of_ble_eq_true rfl) rfl rfl ?_))
  refine prs ?_
  refine DWp.evs 1 rfl ?_
  refine DWp.nil ?_
  refine Wp.permS (Pc (Pc (Pd (Pd .rfl)))) ?_
  refine Yq ?_
  refine Yl m1 ?_
  refine OWp.step rfl (Step.storeAs 0 ([.slice pa w.1.length pc, .slice qa w.2.1.length qc]) rfl rfl rfl rfl rfl hBL4 rfl (Unfz.zero _) rfl (Nat.le_of_ble_eq_true rfl) rfl rfl ?_)
  refine OWp.nil ?_
  refine Wp.ret ⟨trivial, _, ⟨_, _, _, _, rfl, rfl, ⟨_, _, _, mems, (by first | assumption | rfl)⟩, rfl⟩, ?_⟩
  exact ⟨_, _, .refl _, .cons _ (.cons _ (.refl _)), H _ _ _ _ hin⟩
 ·refine ⟨_, [21, 22, 23, 24, 26, 27], rfl, rfl, by decide +kernel, rfl, ?_⟩
  refine (Step.alloc rfl rfl rfl ?_); intro L5 hBL5 hLL5
  refine prs ?_
  refine DWp.step rfl rfl rfl (Step.permS (Pc .rfl) (Step.call rfl rfl rfl rfl rfl rfl (C.looseC (h := dropH) ho.hpx hs (by omega) (ho.town.mono fun x hx => (by have := hR x hx; (repeat (first | assumption | exact List.Mem.head _ | exact List.mem_append_left _ (by assumption) | apply List.mem_cons_of_mem | apply List.mem_append_right)))) ?_)))
  intro w2 pv qv2 e1 e2 hl hin
  obtain rfl := loose_is ho hb hl
  rw [← hw] at hin ⊢
  rw [hw4]
  obtain ⟨pa, pc, rfl⟩ := hin.1.reads.form
  obtain ⟨qa, qc, rfl⟩ := hin.2.reads.form
  refine prs ?_
  refine DWp.evs 3 rfl ?_
  refine DWp.step rfl rfl rfl (Step.permS (Pc (Pd (Pd .rfl))) (Step.storeAs 0 [.slice pa w.1.length pc, .slice qa w.2.1.length qc] rfl rfl rfl rfl rfl hBL5 rfl (Unfz.zero _) rfl (Nat.le_of_ble_eq_true rfl) rfl rfl ?_))
  refine prs ?_
  refine DWp.evs 1 rfl ?_
  refine DWp.nil ?_
  refine Wp.permS (Pc (Pc (Pd (Pd .rfl)))) ?_
  refine Yq ?_
  refine Yl m1 ?_
  refine OWp.step rfl (Step.storeAs 0 ([.slice pa w.1.length pc, .slice qa w.2.1.length qc]) rfl rfl rfl rfl rfl hBL4 rfl (Unfz.zero _) rfl (Nat.le_of_ble_eq_true rfl) rfl rfl ?_)
  refine OWp.nil ?_
  refine Wp.ret ⟨trivial, _, ⟨_, _, _, _, rfl, rfl, ⟨_, _, _, mems, (by first | assumption | rfl)⟩, rfl⟩, ?_⟩
  exact ⟨_, _, .refl _, .cons _ (.cons _ (.refl _)), H _ _ _ _ hin⟩
theorem cpacketC (hks : KsIn S) {seed text : List UInt8} {w : WayV} {pv qv : Value} (hp : Reads S 1 pv w.1.length (strs w.1)) (hq : Reads S 5 qv w.2.1.length (w.2.1.flatMap Hop.cells)) (h1 : w.1.length ≤ 1000) (h2 : w.2.1.length ≤ 1000) (ht : text.length ≤ 222) (h0 : (packR seed w.1 text w.2.1).2 = 0) (hl : (packR seed w.1 text w.2.1).1.length = 504)
  (H : Q (.tuple #[.string (str (pkB seed text w)), .bool true]) S) : CallWp Tryz.prog B 65 #[.string (str seed), .string (str text), .agg #[pv, qv]] Q S := by
 obtain ⟨pa, pc, rfl⟩ := hp.form
 obtain ⟨qa, qc, rfl⟩ := hq.form
 refine CallWp.dropRet ?_
 refine Yx (args := [_, _, _]) Tryz.func65 Tryz.ntmps65 ?_
 refine Yq ?_
 refine Yb rfl rfl rfl rfl fun L5 hBL5 hLL5 => ?_
 refine Yz 2 rfl ?_
 refine Yg 2 rfl ?_
 refine Yl m0 ?_
 refine Ye 2 rfl ?_
 refine Yl m0 ?_
 refine Yc rfl rfl (packC (ps := w.1) (path := w.2.1) hks.cons (by unfold big; omega) (hp.mono fun x h => .tail _ h) (by omega) (hq.mono fun x h => .tail _ h) (by omega) ?_)
 rw [h0]
 refine Yz 5 rfl ?_
 refine Yg 1 rfl ?_
 refine OWp.g rfl rfl (Gives.build rfl rfl) ?_
 refine Yc rfl rfl (encPackC hl ?_)
 refine Yz 5 rfl ?_
 refine Yg 4 rfl ?_
 refine Dv 31 rfl (by exact fun h => h rfl) fun cc1 => ?_
 refine Yz 5 rfl ?_
 refine Wp.ret ⟨trivial, _, ⟨_, _, rfl, rfl, _, _, rfl, rfl, rfl⟩, ?_⟩
 exact ⟨S, subl, H⟩
/-- What a drop sends. -/
def dropT (c : Ck) (k : Nat) : List UInt8 := pkB (seedAt c.s k) [] (wayR c.s (k + 36) c.a (hostNd c.h0 c.s (k + 32)) c.ms dropH c.mean c.most)
theorem way_small {c : Ck} {B : Nat} {R : Ents} (ho : CkOk B R c) {k : Nat} {b : Nd} {h : Hop} (hk : k + c.w ≤ c.s.length) : (wayR c.s k c.a b c.ms h c.mean c.most).1.length ≤ 1000 ∧ (wayR c.s k c.a b c.ms h c.mean c.most).2.1.length ≤ 1000 := by
 have := ho.ok.1.2.1
 simp only [List.length_cons] at this
 rw [C.wayR_is ho.may hk]
 simp only [List.length_map, C.wayN_len, List.length_append, C.hopsW_len, List.length_singleton]
 omega
theorem h0_pos {c : Ck} {B : Nat} {R : Ents} (ho : CkOk B R c) : 0 < c.h0.length := List.length_pos_iff.2 (ho.ok.1.2.2 c.h0 (by simp))
theorem _root_.Go.Lg.KsIn_of {R S : Ents} (h : KsIn R) (hs : ∀ x ∈ R, x ∈ S) : KsIn S := by obtain ⟨l, e, f, h1, h2⟩ := h; exact ⟨l, e, f, hs _ h1, h2⟩
theorem cdropC (ho : CkOk B R c) (hR : ∀ x ∈ R, x ∈ S) (hm : cle c qv nx now many seq dry ∈ S) {at_ : Int} (hk : k + 36 + c.w ≤ c.s.length) (H : Q (.tuple #[.string (str (dropT c k)), .bool true]) (tp c.px c.s (k + 36 + c.w) :: S)) :
  CallWp Tryz.prog B 33 #[pt c.p, .int .i64 at_] Q (tp c.px c.s k :: S) := by
 have hs : c.s.length ≤ C.lim := by have := ho.sl; unfold C.lim; omega
 have hbh : IsHost c.h0 c.ms (hostNd c.h0 c.s (k + 32)) := hostNd_is (h0_pos ho)
 obtain ⟨p0, p1⟩ := way_pk (seed := seedAt c.s k) (txt := []) (k := k + 36) (h := dropH) ho.ok ho.on (IsHost.ofHost ho.host) hbh ho.may (.inr (.inr (.inr ⟨rfl, rfl, rfl, rfl, rfl⟩))) (by decide) (seedAt_len (by omega)) (by decide) hk
 obtain ⟨s1, s2⟩ := way_small ho (b := hostNd c.h0 c.s (k + 32)) (h := dropH) hk
 refine C.subRet ?_
 refine Yx (args := [_, _]) Tryz.func33 Tryz.ntmps33 ?_
 refine Yn 2 rfl ?_
 refine Yg 3 rfl ?_
 refine Yl (.tail _ hm) ?_
 refine Yc rfl rfl (bytesY ho.hpx hs (n := 32) (by decide) (by omega) ?_)
 refine Yz 5 rfl ?_
 refine Yg 3 rfl ?_
 refine Yc rfl rfl (chostC ho hR hm (by omega) ?_)
 refine Yc rfl rfl (clooseC ho hR hm hbh hk ?_)
 intro pv qv2 e1 e2 hin
 refine Yc rfl rfl (cpacketC (KsIn_of ho.ks fun x hx => .tail _ (List.mem_append_right _ (List.mem_append_right _ (hR x hx)))) (hin.1.reads.mono fun x hx => .tail _ (List.mem_append_left _ hx)) (hin.2.reads.mono fun x hx => .tail _ (List.mem_append_right _ (List.mem_append_left _ hx))) s1 s2 (by decide) p0 p1 ?_)
 refine Yz 4 rfl ?_
 refine Wp.ret ⟨trivial, _, ⟨_, _, rfl, rfl, _, _, rfl, rfl, rfl⟩, ?_⟩
 exact ⟨_, _, .refl _, .cons_cons _ ((List.sublist_append_right _ _).trans (List.sublist_append_right _ _)), H⟩
theorem csignPullC (ho : CkOk B R c) (hR : ∀ x ∈ R, x ∈ S) (hq : seq < 2147483647) (H : Q (.tuple #[.string (str (pullB c.user (seq + 1) (pullT c.key c.user (seq + 1)))), .bool true]) (cle c qv nx now many (seq + 1) dry :: S)) :
  CallWp Tryz.prog B 52 #[pt c.p, .agg (mlc 2 0 0 [] [] (.slice none 0 0) (.slice none 0 0)).toArray] Q (cle c qv nx now many seq dry :: S) := by
 refine CallWp.dropRet ?_
 refine Yx (args := [_, _]) Tryz.func52 Tryz.ntmps52 ?_
 refine Yq ?_
 refine Yb rfl rfl rfl rfl fun L3 hBL3 hLL3 => ?_
 refine Yz 2 rfl ?_
 refine Yg 3 rfl ?_
 refine Yl m1 ?_
 refine Ye 3 rfl ?_
 refine OWp.step rfl (Step.storeAs 1 (clc c qv nx now many (seq + 1) dry) rfl rfl rfl rfl rfl ho.hp rfl (Unfz.zero _) rfl (Nat.le_of_ble_eq_true rfl) (by rw [i64_inc (by omega)]; rfl) rfl ?_)
 refine OWp.nil ?_
 refine Wp.seq (Wp.regionDraw [0, 1, 2, 3, 4, 5, 6, 7, 8, 9, 10, 11, 12] [10, 12] rfl (by decide +kernel) ?_)
 refine DWp.evs 4 rfl ?_
 refine Yd m1 ?_
 refine DWp.evs 3 rfl ?_
 refine Yd m1 ?_
 refine DWp.evs 1 rfl ?_
 refine DWp.step rfl rfl rfl (Step.storeAs 0 (mlc 2 c.user 0 [] [] (.slice none 0 0) (.slice none 0 0)) rfl rfl rfl rfl rfl (by assumption) rfl (Unfz.zero _) rfl (Nat.le_of_ble_eq_true rfl) rfl rfl ?_)
 refine prs ?_
 refine DWp.evs 1 rfl ?_
 refine DWp.stepAll rfl rfl rfl rfl (Step.storeAs 0 (mlc 2 c.user (seq + 1 : Nat) [] [] (.slice none 0 0) (.slice none 0 0)) rfl rfl rfl rfl rfl (by assumption) rfl (Unfz.zero _) rfl (Nat.le_of_ble_eq_true rfl) rfl rfl ?_)
 refine DWp.nil ?_
 refine Wp.seq (Wp.regionDraw [0, 1, 2, 3, 4, 5, 6, 7, 8, 9, 10] [6, 10] rfl (by decide +kernel) ?_)
 refine DWp.evs 4 rfl ?_
 refine Yd m1 ?_
 refine Yd m0 ?_
 refine DWp.stepAll rfl rfl rfl rfl (Step.call rfl rfl rfl rfl rfl rfl ((signPullC (KsIn_of ho.ks fun x hx => .tail _ (.tail _ (hR x hx))) ho.key ho.user (by omega) (by omega) ?_)))
 refine DWp.evs 3 rfl ?_
 refine DWp.stepAll rfl rfl rfl rfl (Step.storeAs 0 (mlc 2 c.user (seq + 1 : Nat) [] (pullT c.key c.user (seq + 1)) (.slice none 0 0) (.slice none 0 0)) rfl rfl rfl rfl rfl (by assumption) rfl (Unfz.zero _) rfl (Nat.le_of_ble_eq_true rfl) rfl rfl ?_)
 refine DWp.nil ?_
 refine Yq ?_
 refine Yl m0 ?_
 refine Yc rfl rfl (encPullC ho.user (by omega) (by omega) (hmac_len _ _) ?_)
 refine Yz 5 rfl ?_
 refine Yn 5 rfl ?_
 refine Wp.ret ⟨trivial, _, ⟨_, _, rfl, rfl, _, _, rfl, rfl, rfl⟩, ?_⟩
 exact ⟨_, subl, H⟩
theorem cpullC (ho : CkOk B R c) (hR : ∀ x ∈ R, x ∈ S) {at_ : Int} (hq : seq < 2147483647) (H : Q (.tuple #[.string (str (pullB c.user (seq + 1) (pullT c.key c.user (seq + 1)))), .bool true]) (cle c qv nx now many (seq + 1) dry :: S)) :
  CallWp Tryz.prog B 35 #[pt c.p, .int .i64 at_] Q (cle c qv nx now many seq dry :: S) := by
 refine Yx (args := [_, _]) Tryz.func35 Tryz.ntmps35 ?_
 refine Yn 2 rfl ?_
 refine Yg 1 rfl ?_
 refine OWp.g rfl rfl (Gives.build rfl rfl) ?_
 refine Yc rfl rfl (csignPullC ho hR hq ?_)
 refine Yz 4 rfl ?_
 refine Wp.ret ⟨trivial, _, ⟨_, _, rfl, rfl, _, _, rfl, rfl, rfl⟩, ?_⟩
 exact H
end
end Go.Proofs.D

/- A client: loops and payloads. -/
namespace Go.Proofs.D
open Go.Lg Go.Sha Go.Hd Go.Cv
open Go.Proofs.C (Hop hopP hopB parse pathE encB tp word TIn Nd ndc St stc TownOk HostOf IsHost wayR mayP TownOk belowR WayIn LooseOf HomeOf)
set_option maxRecDepth 100000
def loopT (c : Ck) (k : Nat) : List UInt8 := pkB (seedAt c.s k) [] (wayR c.s (k + 48) c.a c.a c.ms (homeH (c.user : Int) (idAt c.s k)) c.mean c.most)
/-- What a payload slot sends: a part, if one waits. -/
def payT (c : Ck) (k : Nat) : List Nd → List UInt8
 | [] => pkB (seedAt c.s k) [] (wayR c.s (k + 52) c.a (hostNd c.h0 c.s (k + 48)) c.ms dropH c.mean c.most)
 | x :: _ => pkB (seedAt c.s k) x.2 (wayR c.s (k + 52) c.a (hostU (c.h0 :: c.ms) c.ss x.1) c.ms (homeH x.1 (idAt c.s k)) c.mean c.most)
/-- A part that waits. -/
def PartOk (c : Ck) (x : Nd) : Prop := (∃ b, HostOf (c.h0 :: c.ms) c.ss x.1 b 0) ∧ 0 ≤ x.1 ∧ x.1 < 64 ∧ x.2.length ≤ 222
attribute [local irreducible] wayR packR hmac pullB ackB
section
variable {B : Nat} {S R : Ents} {Q : Value → Ents → Prop} {c : Ck} {qv : Value} {nx : List Nat} {now : Int} {many seq : Nat} {dry : Bool} {k : Nat}
set_option maxHeartbeats 2000000 in
theorem cloopC {lnow at_ : Int} {lv : Value} {L : List Lp} {les : Ents} (ho : CkOk B R c) (hR : ∀ x ∈ R, x ∈ S) (hm : cle c qv nx now many seq dry ∈ S) (hk : k + 48 + c.w ≤ c.s.length) (h0 : 0 ≤ lnow) (h1 : lnow ≤ at_) (h2 : at_ ≤ 1099511627776) (hl : Lg.Own B 187 3 lv L.length (L.flatMap Lp.cells) les) (hll : L.length ≤ 4096)
  (H : ∀ lv' les', Lg.Own B 187 3 lv' (sentR c.wd c.dl at_ (idAt c.s k) L).length ((sentR c.wd c.dl at_ (idAt c.s k) L).flatMap Lp.cells) les' → Q (.tuple #[.string (str (loopT c k)), .bool true]) (tp c.px c.s (k + 48 + c.w) :: (c.pl, cel (lgc c.wd c.dl c.th at_ lv') 147) :: (les' ++ S))) :
  CallWp Tryz.prog B 34 #[pt c.p, .int .i64 at_] Q (tp c.px c.s k :: (c.pl, cel (lgc c.wd c.dl c.th lnow lv) 147) :: (les ++ S)) := by
 have hs : c.s.length ≤ C.lim := by have := ho.sl; unfold C.lim; omega
 have hid : (idAt c.s k).length = 16 := idAt_len (by omega)
 have hw4 : (wayR c.s (k + 48) c.a c.a c.ms (homeH c.user (idAt c.s k)) c.mean c.most).2.2.2 = k + 48 + c.w := by rw [C.wayR_is ho.may hk]; rfl
 have hh := ho.user
 obtain ⟨p0, p1⟩ := way_pk (seed := seedAt c.s k) (txt := []) (k := k + 48) (h := homeH c.user (idAt c.s k)) ho.ok ho.on (IsHost.ofHost ho.host) (IsHost.ofHost ho.host) ho.may (.inr (.inl ⟨rfl, Int.natCast_nonneg _, by show (c.user : Int) ≤ 63; omega, Int.le_refl 0, by show (0 : Int) ≤ 4096; decide, rfl, hid⟩)) (show (2 : Int) ≠ 1 by decide) (seedAt_len (by omega)) (by decide) hk
 obtain ⟨s1, s2⟩ := way_small ho (b := c.a) (h := homeH c.user (idAt c.s k)) hk
 obtain ⟨w, hw⟩ : ∃ w, w = wayR c.s (k + 48) c.a c.a c.ms (homeH c.user (idAt c.s k)) c.mean c.most := ⟨_, rfl⟩
 rw [show loopT c k = pkB (seedAt c.s k) [] w by rw [hw]; rfl] at H
 rw [← hw] at hw4 p0 p1 s1 s2
 refine C.subRet ?_
 refine Yx (args := [_, _]) Tryz.func34 Tryz.ntmps34 ?_
 refine Yn 2 rfl ?_
 refine Yg 3 rfl ?_
 refine Yl (.tail _ (.tail _ (List.mem_append_right _ hm))) ?_
 refine Yc rfl rfl (bytesY ho.hpx hs (n := 32) (by decide) (by omega) ?_)
 refine Yz 5 rfl ?_
 refine Yg 3 rfl ?_
 refine Yl (.tail _ (.tail _ (List.mem_append_right _ hm))) ?_
 refine Yc rfl rfl (bytesY ho.hpx hs (n := 16) (by decide) (by omega) ?_)
 refine Yz 5 rfl ?_
 refine Wp.seq (Wp.regionDraw [0, 1, 2, 3, 4, 5, 6, 7, 8, 9, 10, 11, 12, 13, 14, 15, 16, 17, 18, 19, 20, 21, 22, 23, 24, 32, 32, 32, 32, 32, 32, 32] [25, 29, 30] rfl (by decide +kernel) ?_)
 refine DWp.evs 4 rfl ?_
 refine Yd (show cle c qv nx now many seq dry ∈ _ from by repeat (first | exact List.Mem.head _ | assumption | exact List.mem_append_left _ (by assumption) | apply List.mem_cons_of_mem | apply List.mem_append_right)) ?_
 refine DWp.evs 3 rfl ?_
 refine Yd (show cle c qv nx now many seq dry ∈ _ from by repeat (first | exact List.Mem.head _ | assumption | exact List.mem_append_left _ (by assumption) | apply List.mem_cons_of_mem | apply List.mem_append_right)) ?_
 refine DWp.evs 4 rfl ?_
 refine Yd (show cle c qv nx now many seq dry ∈ _ from by repeat (first | exact List.Mem.head _ | assumption | exact List.mem_append_left _ (by assumption) | apply List.mem_cons_of_mem | apply List.mem_append_right)) ?_
 refine DWp.evs 4 rfl ?_
 refine Yd (show cle c qv nx now many seq dry ∈ _ from by repeat (first | exact List.Mem.head _ | assumption | exact List.mem_append_left _ (by assumption) | apply List.mem_cons_of_mem | apply List.mem_append_right)) ?_
 refine DWp.evs 5 rfl ?_
 refine Yd (show cle c qv nx now many seq dry ∈ _ from by repeat (first | exact List.Mem.head _ | assumption | exact List.mem_append_left _ (by assumption) | apply List.mem_cons_of_mem | apply List.mem_append_right)) ?_
 refine DWp.forkTo [25, 29] (by decide +kernel) (by simp) ?_
 intro xx hxx
 simp only [List.mem_cons, List.mem_nil_iff, or_false] at hxx
 rcases hxx with rfl | rfl
 ·refine ⟨_, [26, 27, 28, 29, 30, 31], rfl, rfl, by decide +kernel, rfl, ?_⟩
  refine (Step.permS (.rfl) (Step.call rfl rfl rfl rfl rfl rfl (C.homeC (id := idAt c.s k) ho.hpx hs (by omega) (ho.town.mono fun x hx => (by have := hR x hx; (repeat (first | assumption | exact List.Mem.head _ | exact List.mem_append_left _ (by assumption) | apply List.mem_cons_of_mem | apply List.mem_append_right)))) ?_)))
  intro w2 pv qv2 e1 e2 hlo hin
  obtain rfl := home_is ho ho.host ⟨Int.natCast_nonneg _, by omega⟩ hid hlo
  rw [← hw] at hin ⊢
  rw [hw4]
  obtain ⟨pa, pc, rfl⟩ := hin.1.reads.form
  obtain ⟨qa, qc, rfl⟩ := hin.2.reads.form
  refine prs ?_
  refine DWp.evs 3 rfl ?_
  refine DWp.step rfl rfl rfl (Step.alloc rfl rfl rfl ?_); intro L10 hBL10 hLL10
  refine prs ?_
  refine DWp.step rfl rfl rfl (Step.permS (.rfl) (Step.storeAs 0 [.slice pa w.1.length pc, .slice qa w.2.1.length qc] rfl rfl rfl rfl rfl hBL10 rfl (Unfz.zero _) rfl (Nat.le_of_ble_eq_true rfl) rfl rfl ?_))
  refine prs ?_
  refine DWp.evs 1 rfl ?_
  refine DWp.nil ?_
  refine Wp.permS (.trans (Pc (Pc (Pd (Pd .rfl)))) (.cons _ (Pe (Pe (Pf (Pf .rfl)))))) ?_
  refine Yg 3 rfl ?_
  refine Yl (.tail _ (List.mem_append_right _ (.tail _ (.tail _ (List.mem_append_right _ (List.mem_append_right _ hm)))))) ?_
  refine Ye 2 rfl ?_
  refine Yc rfl rfl (lsentC hid ho.hpl ho.lp h0 h1 h2 hl hll ?_)
  intro e lv' les' hl'
  refine OWp.nil ?_
  refine Yg 1 rfl ?_
  refine Yl (.tail _ (List.mem_append_right _ (.head _))) ?_
  refine Yc rfl rfl (cpacketC (KsIn_of ho.ks fun x hx => .tail _ (List.mem_append_right _ (.tail _ (.tail _ (List.mem_append_right _ (List.mem_append_right _ (hR x hx))))))) (hin.1.reads.mono fun x hx => .tail _ (List.mem_append_right _ (.tail _ (.tail _ (List.mem_append_left _ hx))))) (hin.2.reads.mono fun x hx => .tail _ (List.mem_append_right _ (.tail _ (.tail _ (List.mem_append_right _ (List.mem_append_left _ hx)))))) s1 s2 (by decide) p0 p1 ?_)
  refine Yz 4 rfl ?_
  refine Wp.ret ⟨trivial, _, ⟨_, _, rfl, rfl, _, _, rfl, rfl, rfl⟩, ?_⟩
  refine ⟨_, tp c.px c.s (k + 48 + c.w) :: (c.pl, cel (lgc c.wd c.dl c.th at_ lv') 147) :: (les' ++ S), (.trans (Pc (Pd .rfl)) (.cons _ (.trans (Pe (Pf (Pe .rfl))) (Pa (.trans (Pe (Pf (Pe .rfl))) (Pa (Pc (Pd .rfl)))))))), (by repeat (first | exact List.Sublist.refl _ | exact List.sublist_append_right _ _ | apply List.Sublist.cons | refine List.Sublist.trans ?_ (List.sublist_append_right _ _))), ?_⟩
  exact H lv' les' hl'
 ·refine ⟨_, [25, 26, 27, 28, 30, 31], rfl, rfl, by decide +kernel, rfl, ?_⟩
  refine (Step.alloc rfl rfl rfl ?_); intro L10 hBL10 hLL10
  refine prs ?_
  refine DWp.step rfl rfl rfl (Step.permS (Pc .rfl) (Step.call rfl rfl rfl rfl rfl rfl (C.homeC (id := idAt c.s k) ho.hpx hs (by omega) (ho.town.mono fun x hx => (by have := hR x hx; (repeat (first | assumption | exact List.Mem.head _ | exact List.mem_append_left _ (by assumption) | apply List.mem_cons_of_mem | apply List.mem_append_right)))) ?_)))
  intro w2 pv qv2 e1 e2 hlo hin
  obtain rfl := home_is ho ho.host ⟨Int.natCast_nonneg _, by omega⟩ hid hlo
  rw [← hw] at hin ⊢
  rw [hw4]
  obtain ⟨pa, pc, rfl⟩ := hin.1.reads.form
  obtain ⟨qa, qc, rfl⟩ := hin.2.reads.form
  refine prs ?_
  refine DWp.evs 3 rfl ?_
  refine DWp.step rfl rfl rfl (Step.permS (Pc (Pd (Pd .rfl))) (Step.storeAs 0 [.slice pa w.1.length pc, .slice qa w.2.1.length qc] rfl rfl rfl rfl rfl hBL10 rfl (Unfz.zero _) rfl (Nat.le_of_ble_eq_true rfl) rfl rfl ?_))
  refine prs ?_
  refine DWp.evs 1 rfl ?_
  refine DWp.nil ?_
  refine Wp.permS (.trans (Pc (Pc (Pd (Pd .rfl)))) (.cons _ (Pe (Pe (Pf (Pf .rfl)))))) ?_
  refine Yg 3 rfl ?_
  refine Yl (.tail _ (List.mem_append_right _ (.tail _ (.tail _ (List.mem_append_right _ (List.mem_append_right _ hm)))))) ?_
  refine Ye 2 rfl ?_
  refine Yc rfl rfl (lsentC hid ho.hpl ho.lp h0 h1 h2 hl hll ?_)
  intro e lv' les' hl'
  refine OWp.nil ?_
  refine Yg 1 rfl ?_
  refine Yl (.tail _ (List.mem_append_right _ (.head _))) ?_
  refine Yc rfl rfl (cpacketC (KsIn_of ho.ks fun x hx => .tail _ (List.mem_append_right _ (.tail _ (.tail _ (List.mem_append_right _ (List.mem_append_right _ (hR x hx))))))) (hin.1.reads.mono fun x hx => .tail _ (List.mem_append_right _ (.tail _ (.tail _ (List.mem_append_left _ hx))))) (hin.2.reads.mono fun x hx => .tail _ (List.mem_append_right _ (.tail _ (.tail _ (List.mem_append_right _ (List.mem_append_left _ hx)))))) s1 s2 (by decide) p0 p1 ?_)
  refine Yz 4 rfl ?_
  refine Wp.ret ⟨trivial, _, ⟨_, _, rfl, rfl, _, _, rfl, rfl, rfl⟩, ?_⟩
  refine ⟨_, tp c.px c.s (k + 48 + c.w) :: (c.pl, cel (lgc c.wd c.dl c.th at_ lv') 147) :: (les' ++ S), (.trans (Pc (Pd .rfl)) (.cons _ (.trans (Pe (Pf (Pe .rfl))) (Pa (.trans (Pe (Pf (Pe .rfl))) (Pa (Pc (Pd .rfl)))))))), (by repeat (first | exact List.Sublist.refl _ | exact List.sublist_append_right _ _ | apply List.Sublist.cons | refine List.Sublist.trans ?_ (List.sublist_append_right _ _))), ?_⟩
  exact H lv' les' hl'
theorem cpay0C (ho : CkOk B R c) (hR : ∀ x ∈ R, x ∈ S) (hm : cle c qv nx now many seq dry ∈ S) {qa : Option Addr} {qc : Nat} (hqv : qv = .slice qa 0 qc) {at_ : Int} (hk : k + 52 + c.w ≤ c.s.length) (H : Q (.tuple #[.string (str (payT c k [])), .bool true]) (tp c.px c.s (k + 52 + c.w) :: S)) :
  CallWp Tryz.prog B 32 #[pt c.p, .int .i64 at_] Q (tp c.px c.s k :: S) := by
 subst hqv
 have hs : c.s.length ≤ C.lim := by have := ho.sl; unfold C.lim; omega
 have hbh : IsHost c.h0 c.ms (hostNd c.h0 c.s (k + 48)) := hostNd_is (h0_pos ho)
 obtain ⟨p0, p1⟩ := way_pk (seed := seedAt c.s k) (txt := []) (k := k + 52) (h := dropH) ho.ok ho.on (IsHost.ofHost ho.host) hbh ho.may (.inr (.inr (.inr ⟨rfl, rfl, rfl, rfl, rfl⟩))) (by decide) (seedAt_len (by omega)) (by decide) hk
 obtain ⟨s1, s2⟩ := way_small ho (b := hostNd c.h0 c.s (k + 48)) (h := dropH) hk
 refine C.subRet ?_
 refine Yx (args := [_, _]) Tryz.func32 Tryz.ntmps32 ?_
 refine Yn 2 rfl ?_
 refine Yg 3 rfl ?_
 refine Yl (.tail _ hm) ?_
 refine Yc rfl rfl (bytesY ho.hpx hs (n := 32) (by decide) (by omega) ?_)
 refine Yz 5 rfl ?_
 refine Yg 3 rfl ?_
 refine Yl (.tail _ hm) ?_
 refine Yc rfl rfl (bytesY ho.hpx hs (n := 16) (by decide) (by omega) ?_)
 refine Yz 5 rfl ?_
 refine Yg 1 rfl ?_
 refine Yc rfl rfl (chostC ho hR hm (by omega) ?_)
 refine Yz 1 rfl ?_
 refine Wp.seq ?_
 refine Yg 3 rfl ?_
 refine Yl (.tail _ hm) ?_
 refine Yz 2 rfl ?_
 refine Cv rfl (by decide) fun cc1 => ?_
 refine Yg 3 rfl ?_
 refine Yc rfl rfl (clooseC ho hR hm hbh hk ?_)
 intro pv qv2 e1 e2 hin
 refine Yc rfl rfl (cpacketC (KsIn_of ho.ks fun x hx => .tail _ (List.mem_append_right _ (List.mem_append_right _ (hR x hx)))) (hin.1.reads.mono fun x hx => .tail _ (List.mem_append_left _ hx)) (hin.2.reads.mono fun x hx => .tail _ (List.mem_append_right _ (List.mem_append_left _ hx))) s1 s2 (by decide) p0 p1 ?_)
 refine Yz 4 rfl ?_
 refine Wp.ret ⟨trivial, _, ⟨_, _, rfl, rfl, _, _, rfl, rfl, rfl⟩, ?_⟩
 exact ⟨_, _, .refl _, .cons_cons _ ((List.sublist_append_right _ _).trans (List.sublist_append_right _ _)), H⟩
set_option maxHeartbeats 2000000 in
theorem cpay1C {x : Nd} {r : List Nd} {qes : Ents} (ho : CkOk B R c) (hR : ∀ x ∈ R, x ∈ S) (hq : OwnAt B 165 2 qv (r.length + 1) ((x :: r).flatMap ndc) qes) (hx : PartOk c x) {at_ : Int} (hk : k + 52 + c.w ≤ c.s.length)
  (H : ∀ qv', OwnAt B 165 2 qv' r.length (r.flatMap ndc) qes → Q (.tuple #[.string (str (payT c k (x :: r))), .bool true]) (cle c qv' nx now many seq dry :: tp c.px c.s (k + 52 + c.w) :: (qes ++ S))) :
  CallWp Tryz.prog B 32 #[pt c.p, .int .i64 at_] Q (cle c qv nx now many seq dry :: tp c.px c.s k :: (qes ++ S)) := by
 obtain ⟨⟨b, hb⟩, x1, x2, x3⟩ := hx
 obtain ⟨_, ⟨_, h, _⟩ | ⟨bq, off, cap, cur, rfl, rfl, hBq, hkc, hmx, hcl, htk⟩⟩ := id hq
 ·omega
 have hs : c.s.length ≤ C.lim := by have := ho.sl; unfold C.lim; omega
 have hid : (idAt c.s k).length = 16 := idAt_len (by omega)
 have hw4 : (wayR c.s (k + 52) c.a b c.ms (homeH x.1 (idAt c.s k)) c.mean c.most).2.2.2 = k + 52 + c.w := by rw [C.wayR_is ho.may hk]; rfl
 obtain ⟨p0, p1⟩ := way_pk (seed := seedAt c.s k) (txt := x.2) (k := k + 52) (h := homeH x.1 (idAt c.s k)) ho.ok ho.on (IsHost.ofHost ho.host) (IsHost.ofHost hb) ho.may (.inr (.inl ⟨rfl, x1, by show x.1 ≤ 63; omega, Int.le_refl 0, by show (0 : Int) ≤ 4096; decide, rfl, hid⟩)) (show (2 : Int) ≠ 1 by decide) (seedAt_len (by omega)) x3 hk
 obtain ⟨s1, s2⟩ := way_small ho (b := b) (h := homeH x.1 (idAt c.s k)) hk
 obtain ⟨w, hw⟩ : ∃ w, w = wayR c.s (k + 52) c.a b c.ms (homeH x.1 (idAt c.s k)) c.mean c.most := ⟨_, rfl⟩
 rw [show payT c k (x :: r) = pkB (seedAt c.s k) x.2 w by rw [hw]; show pkB _ _ (wayR c.s (k + 52) c.a (hostU (c.h0 :: c.ms) c.ss x.1) c.ms (homeH x.1 (idAt c.s k)) c.mean c.most) = _; rw [hostU_is hb]] at H
 rw [← hw] at hw4 p0 p1 s1 s2
 have hat : (cur.drop (off + 0 * 2)).take 2 = ndc x := by
  rw [List.flatMap_cons] at htk
  have h := (seg_cut (m := 2) htk rfl (by omega)).1
  rw [Nat.zero_mul, Nat.add_zero]; exact h
 have hq2 := OwnAt.tailE (x := ndc x) (xs := r.flatMap ndc) hq rfl
 have hlt : r.length + 1 ≤ cap := hkc
 refine C.subRet ?_
 refine Yx (args := [_, _]) Tryz.func32 Tryz.ntmps32 ?_
 refine Yn 2 rfl ?_
 refine Yg 3 rfl ?_
 refine Yl m0 ?_
 refine Yc rfl rfl (CallWp.focus 1 rfl ((bytesY ho.hpx hs (n := 32) (by decide) (by omega) ?_)))
 refine Yz 5 rfl ?_
 refine Yg 3 rfl ?_
 refine Yl m1 ?_
 refine Yc rfl rfl (bytesY ho.hpx hs (n := 16) (by decide) (by omega) ?_)
 refine Yz 5 rfl ?_
 refine Yg 1 rfl ?_
 refine Yc rfl rfl (chostC ho (fun y hy => .tail _ (.tail _ (hR y hy))) (.head _) (by omega) ?_)
 refine Yz 1 rfl ?_
 refine Wp.seq ?_
 refine Yg 3 rfl ?_
 refine Yl m1 ?_
 refine Yz 2 rfl ?_
 refine Ct rfl (by omega) fun cc1 => ?_
 refine Wp.skip ?_
 refine Yg 3 rfl ?_
 refine Yl m1 ?_
 refine OWp.g rfl rfl (Gives.indexAddrSlice (0) rfl rfl rfl rfl rfl rfl (by omega)) ?_
 refine OWp.load (.tail _ (.tail _ (.head _))) rfl rfl rfl rfl (partAt_agg hat rfl rfl rfl) ?_
 refine Ya rfl rfl rfl rfl fun L11 hBL11 hLL11 => ?_
 refine OWp.step rfl (Step.storeAs 0 (ndc x) rfl rfl rfl rfl rfl (by assumption) rfl (Unfz.zero _) rfl (Nat.le_of_ble_eq_true rfl) rfl rfl ?_)
 refine OWp.nil ?_
 refine Yg 4 rfl ?_
 refine Yl m2 ?_
 refine OWp.g rfl rfl (Gives.sliceEnd (l := 1) (h' := r.length + 1) rfl rfl rfl rfl ⟨_, _, rfl, rfl⟩ rfl (by omega) (by omega)) ?_
 refine Ye 2 rfl ?_
 refine OWp.step rfl (Step.storeAs 2 (clc c (Value.slice (some ⟨bq, if cap = 1 then off else off + 1 * 2, none⟩) (r.length + 1 - 1) (cap - 1)) nx now many seq dry) rfl rfl rfl rfl rfl ho.hp rfl (Unfz.zero _) rfl (Nat.le_of_ble_eq_true rfl) rfl rfl ?_)
 generalize hqv' : Value.slice (some ⟨bq, if cap = 1 then off else off + 1 * 2, none⟩) (r.length + 1 - 1) (cap - 1) = qv' at hq2 ⊢
 refine OWp.nil ?_
 refine Wp.seq (Wp.regionDraw [0, 1, 2, 3, 4, 5, 6, 7, 8, 9, 10, 11, 12, 13, 14, 15, 16, 17, 18, 19, 20, 21, 29, 29, 29, 29, 29, 29, 29] [22, 26, 27] rfl (by decide +kernel) ?_)
 refine DWp.evs 4 rfl ?_
 refine Yd (show cle c qv' nx now many seq dry ∈ _ from by repeat (first | exact List.Mem.head _ | assumption | exact List.mem_append_left _ (by assumption) | apply List.mem_cons_of_mem | apply List.mem_append_right)) ?_
 refine DWp.evs 3 rfl ?_
 refine Yd (show cle c qv' nx now many seq dry ∈ _ from by repeat (first | exact List.Mem.head _ | assumption | exact List.mem_append_left _ (by assumption) | apply List.mem_cons_of_mem | apply List.mem_append_right)) ?_
 refine DWp.evs 4 rfl ?_
 refine Yd (show cle c qv' nx now many seq dry ∈ _ from by repeat (first | exact List.Mem.head _ | assumption | exact List.mem_append_left _ (by assumption) | apply List.mem_cons_of_mem | apply List.mem_append_right)) ?_
 refine DWp.evs 1 rfl ?_
 refine Yd (show (L11, cel (ndc x) 165) ∈ _ from by repeat (first | exact List.Mem.head _ | assumption | exact List.mem_append_left _ (by assumption) | apply List.mem_cons_of_mem | apply List.mem_append_right)) ?_
 refine DWp.evs 5 rfl ?_
 refine Yd (show cle c qv' nx now many seq dry ∈ _ from by repeat (first | exact List.Mem.head _ | assumption | exact List.mem_append_left _ (by assumption) | apply List.mem_cons_of_mem | apply List.mem_append_right)) ?_
 refine DWp.forkTo [22, 26] (by decide +kernel) (by simp) ?_
 intro xx hxx
 simp only [List.mem_cons, List.mem_nil_iff, or_false] at hxx
 rcases hxx with rfl | rfl
 ·refine ⟨_, [23, 24, 25, 26, 27, 28], rfl, rfl, by decide +kernel, rfl, ?_⟩
  refine (Step.permS (Pc .rfl) (Step.call rfl rfl rfl rfl rfl rfl (C.homeC (id := idAt c.s k) ho.hpx hs (by omega) (ho.town.mono fun y hy => (by have := hR y hy; (repeat (first | assumption | exact List.Mem.head _ | exact List.mem_append_left _ (by assumption) | apply List.mem_cons_of_mem | apply List.mem_append_right)))) ?_)))
  intro w2 pv qv2 e1 e2 hlo hin
  obtain rfl := home_is ho hb ⟨x1, x2⟩ hid hlo
  rw [← hw] at hin ⊢
  rw [hw4]
  obtain ⟨pa, pc, rfl⟩ := hin.1.reads.form
  obtain ⟨qa, qc, rfl⟩ := hin.2.reads.form
  refine prs ?_
  refine DWp.evs 3 rfl ?_
  refine DWp.step rfl rfl rfl (Step.alloc rfl rfl rfl ?_); intro L12 hBL12 hLL12
  refine prs ?_
  refine DWp.step rfl rfl rfl (Step.permS (.rfl) (Step.storeAs 0 [.slice pa w.1.length pc, .slice qa w.2.1.length qc] rfl rfl rfl rfl rfl hBL12 rfl (Unfz.zero _) rfl (Nat.le_of_ble_eq_true rfl) rfl rfl ?_))
  refine prs ?_
  refine DWp.evs 1 rfl ?_
  refine DWp.nil ?_
  refine Wp.permS (.trans (Pc (Pc (Pd (Pd .rfl)))) (.cons _ (.cons _ (Pc (Pd (Pd .rfl)))))) ?_
  refine Yg 2 rfl ?_
  refine Yl m0 ?_
  refine Yl m1 ?_
  refine Yc rfl rfl (cpacketC (KsIn_of ho.ks fun y hy => .tail _ (.tail _ (.tail _ (.tail _ (List.mem_append_right _ (List.mem_append_right _ (List.mem_append_right _ (hR y hy)))))))) (hin.1.reads.mono fun y hy => .tail _ (.tail _ (.tail _ (.tail _ (List.mem_append_left _ hy))))) (hin.2.reads.mono fun y hy => .tail _ (.tail _ (.tail _ (.tail _ (List.mem_append_right _ (List.mem_append_left _ hy)))))) s1 s2 x3 p0 p1 ?_)
  refine Yz 4 rfl ?_
  refine Wp.ret ⟨trivial, _, ⟨_, _, rfl, rfl, _, _, rfl, rfl, rfl⟩, ?_⟩
  exact ⟨_, _, .refl _, .cons _ (.cons _ (.cons_cons _ (.cons_cons _ ((List.sublist_append_right _ _).trans (List.sublist_append_right _ _))))), H qv' hq2⟩
 ·refine ⟨_, [22, 23, 24, 25, 27, 28], rfl, rfl, by decide +kernel, rfl, ?_⟩
  refine (Step.alloc rfl rfl rfl ?_); intro L12 hBL12 hLL12
  refine prs ?_
  refine DWp.step rfl rfl rfl (Step.permS (Pc (Pc .rfl)) (Step.call rfl rfl rfl rfl rfl rfl (C.homeC (id := idAt c.s k) ho.hpx hs (by omega) (ho.town.mono fun y hy => (by have := hR y hy; (repeat (first | assumption | exact List.Mem.head _ | exact List.mem_append_left _ (by assumption) | apply List.mem_cons_of_mem | apply List.mem_append_right)))) ?_)))
  intro w2 pv qv2 e1 e2 hlo hin
  obtain rfl := home_is ho hb ⟨x1, x2⟩ hid hlo
  rw [← hw] at hin ⊢
  rw [hw4]
  obtain ⟨pa, pc, rfl⟩ := hin.1.reads.form
  obtain ⟨qa, qc, rfl⟩ := hin.2.reads.form
  refine prs ?_
  refine DWp.evs 3 rfl ?_
  refine DWp.step rfl rfl rfl (Step.permS (Pc (Pd (Pd .rfl))) (Step.storeAs 0 [.slice pa w.1.length pc, .slice qa w.2.1.length qc] rfl rfl rfl rfl rfl hBL12 rfl (Unfz.zero _) rfl (Nat.le_of_ble_eq_true rfl) rfl rfl ?_))
  refine prs ?_
  refine DWp.evs 1 rfl ?_
  refine DWp.nil ?_
  refine Wp.permS (.trans (Pc (Pc (Pd (Pd .rfl)))) (.cons _ (.cons _ (Pc (Pd (Pd .rfl)))))) ?_
  refine Yg 2 rfl ?_
  refine Yl m0 ?_
  refine Yl m1 ?_
  refine Yc rfl rfl (cpacketC (KsIn_of ho.ks fun y hy => .tail _ (.tail _ (.tail _ (.tail _ (List.mem_append_right _ (List.mem_append_right _ (List.mem_append_right _ (hR y hy)))))))) (hin.1.reads.mono fun y hy => .tail _ (.tail _ (.tail _ (.tail _ (List.mem_append_left _ hy))))) (hin.2.reads.mono fun y hy => .tail _ (.tail _ (.tail _ (.tail _ (List.mem_append_right _ (List.mem_append_left _ hy)))))) s1 s2 x3 p0 p1 ?_)
  refine Yz 4 rfl ?_
  refine Wp.ret ⟨trivial, _, ⟨_, _, rfl, rfl, _, _, rfl, rfl, rfl⟩, ?_⟩
  exact ⟨_, _, .refl _, .cons _ (.cons _ (.cons_cons _ (.cons_cons _ ((List.sublist_append_right _ _).trans (List.sublist_append_right _ _))))), H qv' hq2⟩
end
end Go.Proofs.D
