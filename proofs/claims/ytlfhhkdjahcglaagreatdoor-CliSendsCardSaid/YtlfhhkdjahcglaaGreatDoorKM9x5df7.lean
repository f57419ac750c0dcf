/- What functions of the given program do, one after the other, told by that layer. -/
import Derived.Test.YtlfhhkdjahcglaaGreatDoorKM5x0384
import Derived.Test.YtlfhhkdjahcglaaGreatDoorKM8x1aa8
import Derived.Test.YtlfhhkdjahcglaaGreatDoorKM6x1405
import Derived.Test.YtlfhhkdjahcglaaGreatDoorLgM4x2b7b
import Derived.Test.YtlfhhkdjahcglaaGreatDoorLgM2x52c3
import Derived.Test.YtlfhhkdjahcglaaGreatDoorLgM3x86f8
namespace Go.Proofs.C
open Go.Lg
set_option maxRecDepth 100000

/-- A node: its number and its point. -/
abbrev Nd := Int × List UInt8
def ndc (x : Nd) : List Value := [.int .i64 x.1, .string (str x.2)]
/-- Rows that hold these lists of nodes. -/
def NodesIn (S : Ents) (vs : List Value) (ls : List (List Nd)) : Prop := vs.length = ls.length ∧ ∀ (i : Nat) (v : Value) (l : List Nd), vs[i]? = some v → ls[i]? = some l → Reads S 2 v l.length (l.flatMap ndc) ∧ l.length ≤ lim
/-- All nodes with their layers. -/
def lay (ls : List (List Nd)) (k : Nat) : List (Int × Nd) := (ls.zipIdx k).flatMap fun p => p.1.map fun x => ((p.2 : Int), x)
theorem lay_cons (l : List Nd) (ls : List (List Nd)) (k : Nat) : lay (l :: ls) k = l.map (fun x => ((k : Int), x)) ++ lay ls (k + 1) := by simp [lay]
theorem lay_take_succ {ls : List (List Nd)} {i : Nat} (h : i < ls.length) : lay (ls.take (i + 1)) 0 = lay (ls.take i) 0 ++ ls[i].map (fun x => ((i : Int), x)) := by
 rw [List.take_succ_eq_append_getElem h]
 unfold lay
 rw [List.zipIdx_append, List.flatMap_append, List.length_take]
 simp
 rw [Nat.min_eq_left (by omega)]
 intros; rfl
theorem lay_prefix {ls : List (List Nd)} {i : Nat} (h : i < ls.length) {j : Nat} (hj : j < ls[i].length) : (lay (ls.take i) 0 ++ (ls[i].take j).map (fun x => ((i : Int), x))) ++ [((i : Int), ls[i][j])] <+: lay ls 0 := by
 have h1 : lay (ls.take i) 0 ++ ls[i].map (fun x => ((i : Int), x)) <+: lay ls 0 := by
  rw [← lay_take_succ h]
  have e : ls = ls.take (i + 1) ++ ls.drop (i + 1) := (List.take_append_drop _ _).symm
  conv => rhs; rw [e]
  unfold lay
  rw [List.zipIdx_append, List.flatMap_append]
  exact List.prefix_append _ _
 refine List.IsPrefix.trans ?_ h1
 rw [List.append_assoc]
 refine (List.prefix_append_right_inj _).2 ?_
 rw [show (ls[i].take j).map (fun x => ((i : Int), x)) ++ [((i : Int), ls[i][j])] = (ls[i].take (j + 1)).map (fun x => ((i : Int), x)) by rw [List.take_succ_eq_append_getElem hj, List.map_append]; rfl]
 exact (List.take_prefix _ _).map _
theorem nd_at {S : Ents} {v : Value} {l : List Nd} (h : Reads S 2 v l.length (l.flatMap ndc)) (h0 : 0 < l.length) :
  ∃ b o cap L e fz, v = .slice (some ⟨b, o, none⟩) l.length cap ∧ (b, cel L e fz) ∈ S ∧ ∀ i (hi : i < l.length), Lg.partAt Tryz.prog 135 L (o + i * 2) = some (.agg (ndc l[i]).toArray) := by
 obtain ⟨b, o, cap, L, e, fz, hv, hm, hat⟩ := Reads.elem (f := ndc) (xs := l) h (fun _ _ => rfl) h0
 exact ⟨b, o, cap, L, e, fz, hv, hm, fun i hi => partAt_agg (n := 2) (hat i hi) rfl rfl rfl⟩

section
variable {B : Nat} {Q : Value → Ents → Prop}
theorem nodesC {l Tb : Nat} {hv mv sv : Value} {ls : List (List Nd)} {vs : List Value} {R X0 : Ents} {J Jx : List (Int × Nd) → Ents → Prop}
  (hTb : (Tb, cel [hv, mv, sv] 28) ∈ R) (hm : Reads R 1 mv vs.length vs) (hvs : vs.all (·.oneCell') = true) (hn : NodesIn R (hv :: vs) ls) (h3 : vs.length ≤ 3)
  (hY : ∀ pre x X R', pre ++ [x] <+: lay ls 0 → J pre X → YieldWp Tryz.prog B l #[.int .i64 x.1, .agg (ndc x.2).toArray] (fun b S' => ∃ X', S' = X' ++ R' ∧ (b = true ∧ J (pre ++ [x]) X' ∨ b = false ∧ Jx (pre ++ [x]) X')) (X ++ R'))
  (h0 : J [] X0) (Hx : ∀ pre X, pre <+: lay ls 0 → Jx pre X → Q (.tuple #[]) (X ++ R)) (H : ∀ X, J (lay ls 0) X → Q (.tuple #[]) (X ++ R)) :
  CallWp Tryz.prog B 140 #[.func (.yield l) #[] #[], .pointer (some ⟨Tb, 0, none⟩)] Q (X0 ++ R) := by
 have hn1 := hn.1
 rw [List.length_cons] at hn1
 have h00 : 0 < ls.length := by omega
 obtain ⟨a0, c0, rfl⟩ : ∃ a c, hv = .slice a ls[0].length c := (hn.2 0 hv ls[0] (by simp) (by simp)).1.form
 refine CallWp.dropRet ?_
 refine Yx (args := [_, _]) Tryz.func140 Tryz.ntmps140 ?_
 refine Yg 1 rfl ?_
 refine Yl (List.mem_append_right _ hTb) ?_
 refine OWp.step rfl (Step.buildSlice rfl rfl rfl ?_); intro L9 hBL9 hLL9
 refine Ye 1 rfl ?_
 refine Yl (.tail _ (List.mem_append_right _ hTb)) ?_
 refine OWp.step rfl (Step.appendAt [] rfl rfl rfl rfl rfl rfl (by decide) rfl rfl (Own.row (k := 1) hBL9 rfl (by decide)) (hm.mono fun x hx => List.mem_append_right _ (.tail _ (List.mem_append_right _ hx))) hvs (by show (_ + _) * 24 ≤ _; omega) (by unfold maxLen; omega) ?_)
 intro v1 es1 ho1 _
 have hrd := ho1.reads
 obtain ⟨a1, c1, rfl⟩ := hrd.form
 refine Yz 2 rfl ?_
 have hln : 1 + vs.length = ls.length := by omega
 show Wp _ _ _ _ _ _ (es1 ++ (X0 ++ R))
 refine Wp.permS (List.perm_append_comm_assoc es1 X0 R) ?_
 refine Wp.block ?_
 refine Wp.loopS (α := Nat × Ents) (fun z => ls.length - z.1) (fun z => [(0, .func (.yield l) #[] #[]), (12, .slice a1 (1 + vs.length) c1), (13, .int .i64 (ls.length : Int)), (14, .int .i64 (z.1 : Int))]) (fun z => z.2 ++ (es1 ++ R)) (fun z => z.1 ≤ ls.length ∧ J (lay (ls.take z.1) 0) z.2) (0, X0) ?_ (.refl _) ⟨Nat.zero_le _, h0⟩ ?_
 ·exact .cons rfl (.cons rfl (.cons' rfl (int_eq (by rw [← hln])) (.cons rfl (.nil _))))
 rintro ⟨i, X⟩ ⟨hi, hJ⟩
 simp only at hi hJ ⊢
 refine Yn 1 rfl ?_
 refine Wp.seq ?_
 refine Wp.cond rfl (fun h1 => ?_) (fun h1 => ?_)
 ·have h1 := of_decide_eq_true h1
  have hi1 : i < ls.length := by omega
  obtain ⟨b2, o2, c2, l2, t2, f2, hv2, hm2, _, hg2⟩ := hrd.get1 (by omega)
  cases hv2
  have hvi : i < (.slice a0 ls[0].length c0 :: vs).length := by rw [hn.1]; exact hi1
  obtain ⟨hnr, hnl⟩ := hn.2 i (.slice a0 ls[0].length c0 :: vs)[i] ls[i] (by simp) (by simp)
  obtain ⟨na, nc, hvf⟩ := hnr.form
  rw [hvf] at hnr
  have hgi : l2[o2 + i * 1]? = some (.slice na ls[i].length nc) := by
   rw [hg2 i (by omega), ← hvf]
   show (.slice a0 ls[0].length c0 :: vs)[i]? = _
   simp
  unfold lim at hnl
  refine Wp.skip ?_
  refine Wp.seq ?_
  refine Wp.block ?_
  refine Yg 1 rfl ?_
  refine OWp.g rfl rfl (Gives.indexAddrSlice (i) rfl rfl rfl rfl rfl rfl (by omega)) ?_
  refine OWp.load (List.mem_append_right _ (List.mem_append_left _ hm2)) rfl rfl rfl rfl hgi ?_
  refine Yz 2 rfl ?_
  refine Yn 3 rfl ?_
  refine Wp.block ?_
  refine Wp.loopS (α := Nat × Ents) (fun z => ls[i].length - z.1) (fun z => [(0, .func (.yield l) #[] #[]), (3, .int .i64 (i : Int)), (12, .slice (some ⟨b2, o2, none⟩) (1 + vs.length) c1), (13, .int .i64 (ls.length : Int)), (14, .int .i64 (i : Int)), (19, .slice na ls[i].length nc), (20, .int .i64 (ls[i].length : Int)), (21, .int .i64 (z.1 : Int))]) (fun z => z.2 ++ (es1 ++ R)) (fun z => z.1 ≤ ls[i].length ∧ J (lay (ls.take i) 0 ++ (ls[i].take z.1).map (fun x => ((i : Int), x))) z.2) (0, X) ?_ (.refl _) ⟨Nat.zero_le _, by simpa using hJ⟩ ?_
  ·exact .cons rfl (.cons rfl (.cons rfl (.cons rfl (.cons rfl (.cons rfl (.cons rfl (.cons rfl (.nil _))))))))
  rintro ⟨j, Y⟩ ⟨hj, hJ2⟩
  simp only at hj hJ2 ⊢
  refine Yn 1 rfl ?_
  refine Wp.seq ?_
  refine Wp.cond rfl (fun h2 => ?_) (fun h2 => ?_)
  ·have h2 := of_decide_eq_true h2
   have hj1 : j < ls[i].length := by omega
   obtain ⟨b3, o3, c3, l3, t3, f3, hv3, hm3, hat3⟩ := nd_at hnr (by omega)
   cases hv3
   refine Wp.skip ?_
   refine Wp.seq ?_
   refine Wp.block ?_
   refine Yq ?_
   refine OWp.g rfl rfl (Gives.indexAddrSlice (j) rfl rfl rfl rfl rfl rfl (by omega)) ?_
   refine OWp.load (List.mem_append_right _ (List.mem_append_right _ hm3)) rfl rfl rfl rfl (hat3 j hj1) ?_
   refine Ya rfl rfl rfl rfl fun L6 hBL6 hLL6 => ?_
   refine OWp.step rfl (Step.storeAs 0 (ndc ls[i][j]) rfl rfl rfl rfl rfl hBL6 rfl (Unfz.zero _) rfl (Nat.le_of_ble_eq_true rfl) rfl rfl ?_)
   refine OWp.nil ?_
   refine Wp.seq (Wp.ofG (WpG.regionG ?_))
   refine OWpG.cut 3 rfl ?_
   refine Ye 2 rfl ?_
   refine Yl m0 ?_
   refine OWp.nil ?_
   refine OWpG.yield rfl rfl rfl rfl rfl rfl ?_
   refine YieldWp.permS (S' := Y ++ ((L6, cel (ndc ls[i][j]) 135) :: (es1 ++ R))) List.perm_middle.symm ?_
   refine (hY _ ((i : Int), ls[i][j]) Y _ (lay_prefix hi1 hj1) hJ2).mono ?_
   rintro b S' ⟨Z, rfl, hb⟩
   refine OWpG.cut 1 rfl ?_
   refine Yz 1 rfl ?_
   refine OWpG.nil ⟨rfl, ?_⟩
   refine Wp.cond rfl (fun hc => ?_) (fun hc => ?_)
   ·skip
    have hc2 : b = false := by simpa using hc
    subst hc2
    have hb := (hb.resolve_left (fun h => nomatch h.1)).2
    refine Wp.ret ⟨trivial, [], rfl, ?_⟩
    exact ⟨Z ++ R, (List.Sublist.refl _).append (.cons _ (List.sublist_append_right _ _)), Hx _ Z (lay_prefix hi1 hj1) hb⟩
   have hc2 : b = true := by simpa using hc
   subst hc2
   have hb := (hb.resolve_right (fun h => nomatch h.1)).2
   refine Wp.skip ?_
   refine Wp.drop (S' := Z ++ (es1 ++ R)) ((List.Sublist.refl _).append (List.sublist_cons_self _ _)) ?_
   refine Wp.region ?_
   refine Yz 2 rfl ?_
   refine ⟨(j + 1, Z), by simp only; omega, ⟨by simp only; omega, ?_⟩, .cons rfl (.cons rfl (.cons rfl (.cons rfl (.cons rfl (.cons rfl (.cons rfl (.cons' rfl (int_eq (by simp only; rw [i64_id] <;> omega)) (.nil _)))))))), .refl _⟩
   simp only
   rw [List.take_succ_eq_append_getElem hj1, List.map_append, ← List.append_assoc]
   exact hb
  have h2 := of_decide_eq_false h2
  obtain rfl : j = ls[i].length := by omega
  refine Wp.exit ?_
  refine Wp.region ?_
  refine Yz 2 rfl ?_
  refine ⟨(i + 1, Y), by simp only; omega, ⟨by simp only; omega, ?_⟩, .cons rfl (.cons rfl (.cons rfl (.cons' rfl (int_eq (by simp only; rw [i64_id] <;> omega)) (.nil _)))), .refl _⟩
  simp only
  rw [lay_take_succ hi1]
  rw [List.take_length] at hJ2
  exact hJ2
 have h1 := of_decide_eq_false h1
 obtain rfl : i = ls.length := by omega
 rw [List.take_length] at hJ
 refine Wp.exit ?_
 refine ⟨trivial, [], rfl, ?_⟩
 exact ⟨X ++ R, (List.Sublist.refl _).append (List.sublist_append_right _ _), H X hJ⟩
end
end Go.Proofs.C

namespace Go.Proofs.C
open Go.Lg
set_option maxRecDepth 100000

def findP (ls : List (List Nd)) (number : Int) : Option (Int × Nd) := (lay ls 0).find? fun p => p.2.1 == number
theorem findP_none {ls : List (List Nd)} {number : Int} (h : ∀ x ∈ lay ls 0, x.2.1 ≠ number) : findP ls number = none := by
 unfold findP
 rw [List.find?_eq_none]
 intro x hx
 simpa using h x hx
theorem findP_some {ls : List (List Nd)} {number : Int} {p : List (Int × Nd)} {x : Int × Nd} (hp : p ++ [x] <+: lay ls 0) (hn : ∀ y ∈ p, y.2.1 ≠ number) (hx : x.2.1 = number) : findP ls number = some x := by
 obtain ⟨t, ht⟩ := hp
 unfold findP
 rw [← ht, List.append_assoc, List.find?_append, List.find?_eq_none.2 (fun y hy => by simpa using hn y hy)]
 simp [hx]
/-- What find tells. -/
def findV : Option (Int × Nd) → List Value
 | some x => [.agg (ndc x.2).toArray, .int .i64 x.1, .bool true]
 | none => [.agg (ndc (0, [])).toArray, .int .i64 0, .bool false]

section
variable {B : Nat} {S R : Ents} {Q : Value → Ents → Prop}
theorem nodesMk {hv mv sv : Value} (H : ∀ L, B ≤ L → Q (.func (.func 140) #[] #[.pointer (some ⟨L, 0, none⟩)]) ((L, cel [hv, mv, sv] 28) :: S)) :
  CallWp Tryz.prog B 101 #[.agg #[hv, mv, sv]] Q S := by
 refine Yx (args := [_]) Tryz.func101 Tryz.ntmps101 ?_
 refine Yq ?_
 refine Yb rfl rfl rfl rfl fun L hBL hLL => ?_
 refine Yz 1 rfl ?_
 refine Yn 2 rfl ?_
 refine Wp.ret ⟨trivial, _, ⟨_, _, rfl, rfl, rfl⟩, ?_⟩
 exact H L hBL
set_option maxHeartbeats 2000000 in
theorem findC {hv mv sv : Value} {number : Int} {ls : List (List Nd)} {vs : List Value} (hm : Reads S 1 mv vs.length vs) (hvs : vs.all (·.oneCell') = true) (hn : NodesIn S (hv :: vs) ls) (h3 : vs.length ≤ 3)
  (H : Q (.tuple (findV (findP ls number)).toArray) S) : CallWp Tryz.prog B 99 #[.agg #[hv, mv, sv], .int .i64 number] Q S := by
 refine CallWp.dropRet ?_
 refine CallWp.enterG (args := [_, _]) Tryz.func99 rfl Tryz.ntmps99 rfl ?_
 refine WpG.seq (WpG.region rfl ?_)
 refine Yb rfl rfl rfl rfl fun L2 hBL2 hLL2 => ?_
 refine Yb rfl rfl rfl rfl fun L3 hBL3 hLL3 => ?_
 refine Ya rfl rfl rfl rfl fun L4 hBL4 hLL4 => ?_
 refine Ya rfl rfl rfl rfl fun L5 hBL5 hLL5 => ?_
 refine Ya rfl rfl rfl rfl fun L6 hBL6 hLL6 => ?_
 refine OWp.nil ?_
 refine WpG.seq ?_
 refine WpG.seq (WpG.region rfl ?_)
 refine Yl m4 ?_
 refine Yc rfl rfl (nodesMk ?_)
 intro Tb hBT
 refine OWp.nil ?_
 refine WpG.block ?_
 refine WpG.rangeFunc rfl rfl ?_
 rintro D l r hBD hBl hlt hDl hT hps has hbd hst hpe
 refine CallWp.permS (S' := [(l, Obj.loop r), (D, .deferred (some [])), (L6, cel [.bool false] 4), (L5, cel [.int .i64 0] 3), (L4, cel (ndc (0, [])) 135), (L3, cel [.int .i64 number] 3)] ++ ((Tb, cel [hv, mv, sv] 28) :: (L2, cel [hv, mv, sv] 28) :: S)) (List.Perm.cons _ (List.Perm.cons _ (List.perm_middle (l₁ := [(L6, cel [.bool false] 4), (L5, cel [.int .i64 0] 3), (L4, cel (ndc (0, [])) 135), (L3, cel [.int .i64 number] 3)]).symm))) ?_
 refine nodesC (J := fun pre X => (∀ y ∈ pre, y.2.1 ≠ number) ∧ X = [(l, Obj.loop r), (D, .deferred (some [])), (L6, cel [.bool false] 4), (L5, cel [.int .i64 0] 3), (L4, cel (ndc (0, [])) 135), (L3, cel [.int .i64 number] 3)])
  (Jx := fun pre X => ∃ p x, pre = p ++ [x] ∧ (∀ y ∈ p, y.2.1 ≠ number) ∧ x.2.1 = number ∧ X = [(l, Obj.loop { r with state := .done, pending := some .ret }), (D, .deferred (some [])), (L6, cel [.bool true] 4), (L5, cel [.int .i64 x.1] 3), (L4, cel (ndc x.2) 135), (L3, cel [.int .i64 number] 3)])
  (.head _) (hm.mono fun _ h => .tail _ (.tail _ h)) hvs ⟨hn.1, fun i v l h1 h2 => ⟨(hn.2 i v l h1 h2).1.mono fun _ h => .tail _ (.tail _ h), (hn.2 i v l h1 h2).2⟩⟩ h3 ?_ ⟨(fun _ h => nomatch h), rfl⟩ ?_ ?_
 ·skip
  rintro pre x X R' hpre ⟨hne, rfl⟩
  refine YieldWp.round (t := (r.tmps.setIfInBounds 11 (.int .i64 x.1)).setIfInBounds 12 (.agg (ndc x.2).toArray)) hBl hst (by rw [hps]; rfl) (by rw [hps]; simp) ((hT.put 11 _ rfl).put 12 _ rfl) has hbd ?_
  refine WpG.seq (WpG.region rfl ?_)
  refine Yz 1 rfl ?_
  refine WpG.region rfl ?_
  refine Ya rfl rfl rfl rfl fun L8 hBL8 hLL8 => ?_
  refine OWp.step rfl (Step.storeAs 0 (ndc x.2) rfl rfl rfl rfl rfl hBL8 rfl (Unfz.zero _) rfl (Nat.le_of_ble_eq_true rfl) rfl rfl ?_)
  refine OWp.nil ?_
  refine ⟨rfl, rfl, _, .swap _ _ _, ?_⟩
  refine WpG.block ?_
  refine WpG.seq (WpG.region rfl ?_)
  refine Ye 1 rfl ?_
  refine Yl m1 ?_
  refine Yl (.tail _ (.tail _ (.tail _ (.tail _ (.tail _ (.tail _ (.head _))))))) ?_
  refine Yz 1 rfl ?_
  refine WpG.cond rfl (fun heq => ?_) (fun heq => ?_)
  ·have heq := of_decide_eq_true heq
   refine WpG.seq (WpG.region rfl ?_)
   refine Yl m1 ?_
   refine Ye 1 rfl ?_
   refine OWp.step rfl (Step.storeAs 5 (ndc x.2) rfl rfl rfl rfl rfl hBL4 rfl (Unfz.zero _) rfl (Nat.le_of_ble_eq_true rfl) rfl rfl ?_)
   refine OWp.step rfl (Step.storeAs 4 [.int .i64 x.1] rfl rfl rfl rfl rfl hBL5 rfl (Unfz.zero _) rfl (Nat.le_of_ble_eq_true rfl) rfl rfl ?_)
   refine OWp.step rfl (Step.storeAs 3 [.bool true] rfl rfl rfl rfl rfl hBL6 rfl (Unfz.zero _) rfl (Nat.le_of_ble_eq_true rfl) rfl rfl ?_)
   refine OWp.nil ?_
   refine WpG.ret ?_
   exact ⟨_, some .ret, _, .cons_cons _ (.cons _ (.refl _)), .refl _, rfl, _, rfl, .inr ⟨rfl, pre, x, rfl, hne, heq, rfl⟩⟩
  have heq := of_decide_eq_false heq
  refine WpG.skip ?_
  refine ⟨_, none, _, .cons_cons _ (.cons _ (.refl _)), .refl _, rfl, [_, _, _, _, _, _], ?_, .inl ⟨rfl, ?_, rfl⟩⟩
  ·have e : ({ r with state := .ready, pending := none } : Loop) = r := by cases r; simp_all
   simp only [Option.isNone_none, if_true, e]
   rfl
  ·intro y hy
   rcases List.mem_append.1 hy with hy | hy
   ·exact hne y hy
   ·rw [List.mem_singleton.1 hy]; exact heq
 ·rintro pre X hpre ⟨p, x, rfl, hne, hx, rfl⟩
  refine ⟨_, _, .refl _, by simp, ?_⟩
  refine WpG.ret ?_
  refine ⟨trivial, .inr ⟨D, [(L6, cel [.bool true] 4), (L5, cel [.int .i64 x.1] 3), (L4, cel (ndc x.2) 135), (L3, cel [.int .i64 number] 3)] ++ ((Tb, cel [hv, mv, sv] 28) :: (L2, cel [hv, mv, sv] 28) :: S), hBD, rfl, .refl _, findV (some x), ?_, S, subl, ?_⟩⟩
  ·exact ⟨_, _, _, _, rfl, rfl, ⟨_, _, _, .tail _ (.tail _ (.head _)), rfl⟩, ⟨_, _, _, _, rfl, rfl, ⟨_, _, _, .tail _ (.head _), rfl⟩, ⟨_, _, _, _, rfl, rfl, ⟨_, _, _, .head _, rfl⟩, rfl⟩⟩⟩
  ·rw [findP_some hpre hne hx] at H; exact H
 rintro X ⟨hne, rfl⟩
 refine ⟨r, _, .refl _, by rw [hst]; simp, ?_⟩
 rw [hpe]
 refine WpG.seq (WpG.region rfl ?_)
 refine OWp.g rfl rfl (Gives.build rfl rfl) ?_
 refine OWp.step rfl (Step.storeAs 3 (ndc (0, [])) rfl rfl rfl rfl rfl hBL4 rfl (Unfz.zero _) rfl (Nat.le_of_ble_eq_true rfl) rfl rfl ?_)
 refine OWp.step rfl (Step.storeAs 2 [.int .i64 0] rfl rfl rfl rfl rfl hBL5 rfl (Unfz.zero _) rfl (Nat.le_of_ble_eq_true rfl) rfl rfl ?_)
 refine OWp.step rfl (Step.storeAs 1 [.bool false] rfl rfl rfl rfl rfl hBL6 rfl (Unfz.zero _) rfl (Nat.le_of_ble_eq_true rfl) rfl rfl ?_)
 refine OWp.nil ?_
 refine WpG.ret ?_
 refine ⟨trivial, .inr ⟨D, [(L6, cel [.bool false] 4), (L5, cel [.int .i64 0] 3), (L4, cel (ndc (0, [])) 135), (L3, cel [.int .i64 number] 3)] ++ ((Tb, cel [hv, mv, sv] 28) :: (L2, cel [hv, mv, sv] 28) :: S), hBD, rfl, .refl _, findV none, ?_, S, subl, ?_⟩⟩
 ·exact ⟨_, _, _, _, rfl, rfl, ⟨_, _, _, .tail _ (.tail _ (.head _)), rfl⟩, ⟨_, _, _, _, rfl, rfl, ⟨_, _, _, .tail _ (.head _), rfl⟩, ⟨_, _, _, _, rfl, rfl, ⟨_, _, _, .head _, rfl⟩, rfl⟩⟩⟩
 ·rw [findP_none hne] at H; exact H
end
end Go.Proofs.C

namespace Go.Proofs.C
open Go.Lg
set_option maxRecDepth 100000

/-- A seat: its user and its host. -/
abbrev St := Int × Int
def stc (x : St) : List Value := [.int .i64 x.1, .int .i64 x.2]
def SeatOk (ls : List (List Nd)) (s : St) : Prop := (∃ x, findP ls s.2 = some x ∧ x.1 ≤ 0) ∧ 0 ≤ s.1 ∧ s.1 < 64
def SeatsOk (ls : List (List Nd)) (ss : List St) : Prop := (∀ s ∈ ss, SeatOk ls s) ∧ (ss.map (·.1)).Nodup
theorem st_at {S : Ents} {v : Value} {l : List St} (h : Reads S 2 v l.length (l.flatMap stc)) (h0 : 0 < l.length) :
  ∃ b o cap L e fz, v = .slice (some ⟨b, o, none⟩) l.length cap ∧ (b, cel L e fz) ∈ S ∧ ∀ i (hi : i < l.length), Lg.partAt Tryz.prog 137 L (o + i * 2) = some (.agg (stc l[i]).toArray) := by
 obtain ⟨b, o, cap, L, e, fz, hv, hm, hat⟩ := Reads.elem (f := stc) (xs := l) h (fun _ _ => rfl) h0
 exact ⟨b, o, cap, L, e, fz, hv, hm, fun i hi => partAt_agg (n := 2) (hat i hi) rfl rfl rfl⟩
theorem seats_no {ls : List (List Nd)} {ss : List St} {i : Nat} (hi : i < ss.length) (h : ¬ SeatOk ls ss[i] ∨ ss[i].1 ∈ (ss.take i).map (·.1)) : ¬ SeatsOk ls ss := by
 rintro ⟨h1, h2⟩
 rcases h with h | h
 ·exact h (h1 _ (List.getElem_mem hi))
 ·have e : ss = ss.take i ++ ss[i] :: ss.drop (i + 1) := by rw [← List.drop_eq_getElem_cons hi, List.take_append_drop]
  rw [e, List.map_append, List.nodup_append] at h2
  exact h2.2.2 _ h _ (List.mem_map.2 ⟨_, List.mem_cons_self, rfl⟩) rfl

section
variable {B : Nat} {S R : Ents} {Q : Value → Ents → Prop}
set_option maxHeartbeats 2000000 in
theorem seatedC {hv mv sv : Value} {ls : List (List Nd)} {ss : List St} {vs : List Value} (hm : Reads S 1 mv vs.length vs) (hvs : vs.all (·.oneCell') = true) (hn : NodesIn S (hv :: vs) ls) (h3 : vs.length ≤ 3)
  (hs : Reads S 2 sv ss.length (ss.flatMap stc)) (hsl : ss.length ≤ lim) (H0 : SeatsOk ls ss → Q (.bool true) S) (H1 : ¬ SeatsOk ls ss → Q (.bool false) S) : CallWp Tryz.prog B 102 #[.agg #[hv, mv, sv]] Q S := by
 obtain ⟨sa, sc, rfl⟩ := hs.form
 unfold lim at hsl
 refine CallWp.dropRet ?_
 refine Yx (args := [_]) Tryz.func102 Tryz.ntmps102 ?_
 refine Yq ?_
 refine Yb rfl rfl rfl rfl fun L1 hBL1 hLL1 => ?_
 refine Yz 1 rfl ?_
 refine Yq ?_
 refine OWp.step rfl (Step.makeMap rfl rfl ?_)
 intro Lm hBLm hLLm
 refine Yz 1 rfl ?_
 refine Wp.seq ?_
 refine Yg 1 rfl ?_
 refine Yl m1 ?_
 refine Yz 2 rfl ?_
 refine Wp.block ?_
 refine Wp.loopS (α := Nat) (fun i => ss.length - i) (fun i => [(1, .pointer (some ⟨L1, 0, none⟩)), (3, .map (some Lm)), (11, .slice sa ss.length sc), (12, .int .i64 (ss.length : Int)), (13, .int .i64 (i : Int))]) (fun i => (Lm, mapO ((ss.take i).map (·.1))) :: (L1, cel [hv, mv, .slice sa ss.length sc] 28) :: S) (fun i => i ≤ ss.length ∧ (∀ s ∈ ss.take i, SeatOk ls s) ∧ ((ss.take i).map (·.1)).Nodup) 0 ?_ (.refl _) ⟨Nat.zero_le _, by simp, by simp⟩ ?_
 ·exact .cons rfl (.cons rfl (.cons rfl (.cons rfl (.cons rfl (.nil _)))))
 rintro i ⟨hi, hok, hnd⟩
 refine Yn 1 rfl ?_
 refine Wp.seq ?_
 refine Wp.cond rfl (fun h1 => ?_) (fun h1 => ?_)
 ·have h1 := of_decide_eq_true h1
  have hi1 : i < ss.length := by omega
  obtain ⟨b1, o1, c1, L, e, fz, hv1, hm1, hat⟩ := st_at hs (by omega)
  cases hv1
  have hsucc : ss.take (i + 1) = ss.take i ++ [ss[i]] := List.take_succ_eq_append_getElem hi1
  refine Wp.skip ?_
  refine Wp.seq ?_
  refine Wp.block ?_
  refine Yq ?_
  refine OWp.g rfl rfl (Gives.indexAddrSlice (i) rfl rfl rfl rfl rfl rfl (by omega)) ?_
  refine OWp.load (.tail _ (.tail _ hm1)) rfl rfl rfl rfl (hat i hi1) ?_
  refine Ya rfl rfl rfl rfl fun L5 hBL5 hLL5 => ?_
  refine OWp.step rfl (Step.storeAs 0 (stc ss[i]) rfl rfl rfl rfl rfl hBL5 rfl (Unfz.zero _) rfl (Nat.le_of_ble_eq_true rfl) rfl rfl ?_)
  refine OWp.nil ?_
  refine Wp.seq ?_
  refine Yq ?_
  refine Yl m2 ?_
  refine Ye 1 rfl ?_
  refine Yl m0 ?_
  refine Yc rfl rfl (findC (hm.mono fun _ h => .tail _ (.tail _ (.tail _ h))) hvs ⟨hn.1, fun i v l h1 h2 => ⟨(hn.2 i v l h1 h2).1.mono fun _ h => .tail _ (.tail _ (.tail _ h)), (hn.2 i v l h1 h2).2⟩⟩ h3 ?_)
  obtain ⟨nd, ly, fb, hfv, hfp⟩ : ∃ nd ly fb, findV (findP ls ss[i].2) = [.agg (ndc nd).toArray, .int .i64 ly, .bool fb] ∧ (fb = false ∧ findP ls ss[i].2 = none ∨ fb = true ∧ findP ls ss[i].2 = some (ly, nd)) := by
   cases h : findP ls ss[i].2 with
   | none => exact ⟨_, _, _, rfl, .inl ⟨rfl, rfl⟩⟩
   | some x => exact ⟨x.2, x.1, _, rfl, .inr ⟨rfl, rfl⟩⟩
  rw [hfv]
  refine Ye 4 rfl ?_
  refine Ya rfl rfl rfl rfl fun L6 hBL6 hLL6 => ?_
  refine OWp.step rfl (Step.storeAs 0 (ndc nd) rfl rfl rfl rfl rfl hBL6 rfl (Unfz.zero _) rfl (Nat.le_of_ble_eq_true rfl) rfl rfl ?_)
  rcases hfp with ⟨rfl, hf⟩ | ⟨rfl, hf⟩
  ·skip
   refine Yz 2 rfl ?_
   refine Yg 3 rfl ?_
   refine OWp.part 27 rfl (fun cc1 => ?_) (fun cc1 => (by contradiction))
   refine Yz 19 rfl ?_
   refine Cy rfl ?_
   refine Yn 1 rfl ?_
   refine Wp.ret ⟨trivial, _, ⟨_, _, rfl, rfl, rfl⟩, ?_⟩
   exact ⟨S, subl, H1 (seats_no hi1 (.inl fun h => by obtain ⟨⟨x, hx, _⟩, _⟩ := h; rw [hf] at hx; cases hx))⟩
  refine Yz 2 rfl ?_
  refine Yg 3 rfl ?_
  refine OWp.part 27 rfl (fun cc2 => (by contradiction)) (fun cc2 => ?_)
  refine Ye 4 rfl ?_
  refine OWp.part 31 rfl (fun hl => ?_) (fun hl => ?_)
  ·have hl := of_decide_eq_true hl
   refine Yz 15 rfl ?_
   refine Cy rfl ?_
   refine Yn 1 rfl ?_
   refine Wp.ret ⟨trivial, _, ⟨_, _, rfl, rfl, rfl⟩, ?_⟩
   exact ⟨S, subl, H1 (seats_no hi1 (.inl fun h => by obtain ⟨⟨x, hx, hx2⟩, _⟩ := h; rw [hf] at hx; cases hx; simp only at hx2; omega))⟩
  have hl := of_decide_eq_false hl
  refine Ye 1 rfl ?_
  refine Yl m1 ?_
  refine Ye 3 rfl ?_
  refine OWp.part 36 rfl (fun hu => ?_) (fun hu => ?_)
  ·have hu := of_decide_eq_true hu
   refine Yz 10 rfl ?_
   refine Cy rfl ?_
   refine Yn 1 rfl ?_
   refine Wp.ret ⟨trivial, _, ⟨_, _, rfl, rfl, rfl⟩, ?_⟩
   exact ⟨S, subl, H1 (seats_no hi1 (.inl fun h => by have := h.2.1; omega))⟩
  have hu := of_decide_eq_false hu
  refine Ye 1 rfl ?_
  refine Yl m1 ?_
  refine Ye 3 rfl ?_
  refine OWp.part 41 rfl (fun hu2 => ?_) (fun hu2 => ?_)
  ·have hu2 := of_decide_eq_true hu2
   refine Yz 5 rfl ?_
   refine Cy rfl ?_
   refine Yn 1 rfl ?_
   refine Wp.ret ⟨trivial, _, ⟨_, _, rfl, rfl, rfl⟩, ?_⟩
   exact ⟨S, subl, H1 (seats_no hi1 (.inl fun h => by have := h.2.2; omega))⟩
  have hu2 := of_decide_eq_false hu2
  refine Ye 2 rfl ?_
  refine Yl m1 ?_
  refine OWp.gives rfl rfl (Gives.seen (b := Lm) (L := (ss.take i).map (·.1)) (k := ss[i].1) rfl rfl rfl rfl rfl rfl rfl) (fun x hx => by rw [List.mem_singleton.1 hx]; exact .tail _ (.tail _ (.head _))) ?_
  refine Yz 1 rfl ?_
  refine Wp.cond rfl (fun hmem => ?_) (fun hmem => ?_)
  ·skip
   have hmem := of_decide_eq_true hmem
   refine Yn 1 rfl ?_
   refine Wp.ret ⟨trivial, _, ⟨_, _, rfl, rfl, rfl⟩, ?_⟩
   exact ⟨S, subl, H1 (seats_no hi1 (.inr hmem))⟩
  have hmem := of_decide_eq_false hmem
  refine Wp.skip ?_
  refine Wp.region ?_
  refine Ye 2 rfl ?_
  refine Yl m1 ?_
  refine OWp.step rfl (Step.mapAdd (L := (ss.take i).map (·.1)) 2 rfl rfl rfl rfl rfl rfl rfl rfl hBLm hmem rfl ?_)
  refine OWp.nil ?_
  refine Wp.drop (S' := (Lm, mapO ((ss.take i).map (·.1) ++ [ss[i].1])) :: (L1, cel [hv, mv, .slice (some ⟨b1, o1, none⟩) ss.length sc] 28) :: S) (.cons _ (.cons _ (.refl _))) ?_
  refine Wp.region ?_
  refine Yz 2 rfl ?_
  refine ⟨i + 1, by omega, ⟨by omega, ?_, ?_⟩, .cons rfl (.cons rfl (.cons rfl (.cons rfl (.cons' rfl (int_eq (by rw [i64_id] <;> omega)) (.nil _))))), ?_⟩
  ·rw [hsucc]
   intro s hs
   rcases List.mem_append.1 hs with hs | hs
   ·exact hok s hs
   ·rw [List.mem_singleton.1 hs]; exact ⟨⟨_, hf, by simp only; omega⟩, by omega, by omega⟩
  ·rw [hsucc, List.map_append, List.nodup_append]
   refine ⟨hnd, by simp, fun a ha b hb => ?_⟩
   rw [List.mem_singleton.1 hb]
   rintro rfl
   exact hmem ha
  ·rw [hsucc, List.map_append]; exact .refl _
 have h1 := of_decide_eq_false h1
 obtain rfl : i = ss.length := by omega
 rw [List.take_length] at hok hnd
 refine Wp.exit ?_
 refine Yn 1 rfl ?_
 refine Wp.ret ⟨trivial, _, ⟨_, _, rfl, rfl, rfl⟩, ?_⟩
 exact ⟨S, subl, H0 ⟨hok, hnd⟩⟩
end
end Go.Proofs.C

namespace Go.Proofs.C
open Go.Lg
set_option maxRecDepth 100000

def NdOk (x : Nd) : Prop := 0 ≤ x.1 ∧ x.1 < 32 ∧ x.2.length = 32
def nums (l : List (Int × Nd)) : List Int := l.map (·.2.1)
theorem nums_snoc (l : List (Int × Nd)) (x : Int × Nd) : nums (l ++ [x]) = nums l ++ [x.2.1] := by simp [nums]
def NodesOk (ls : List (List Nd)) : Prop := (∀ x ∈ lay ls 0, NdOk x.2) ∧ (nums (lay ls 0)).Nodup
def ShapeOk (ls : List (List Nd)) : Prop := 2 ≤ ls.length ∧ ls.length ≤ 4 ∧ ∀ l ∈ ls, l ≠ []
def TownOk (ls : List (List Nd)) (ss : List St) : Prop := ShapeOk ls ∧ NodesOk ls ∧ SeatsOk ls ss
theorem nodes_no {ls : List (List Nd)} {p : List (Int × Nd)} {x : Int × Nd} (hp : p ++ [x] <+: lay ls 0) (h : ¬ NdOk x.2 ∨ x.2.1 ∈ nums p) : ¬ NodesOk ls := by
 rintro ⟨h1, h2⟩
 obtain ⟨t, ht⟩ := hp
 rw [← ht] at h1 h2
 rcases h with h | h
 ·exact h (h1 x (by simp))
 ·unfold nums at h h2
  rw [List.append_assoc, List.map_append, List.nodup_append] at h2
  exact h2.2.2 _ h x.2.1 (by simp) rfl
theorem nums_add {p : List (Int × Nd)} {x : Int × Nd} (h : (nums p).Nodup) (hx : x.2.1 ∉ nums p) : (nums (p ++ [x])).Nodup := by
 rw [nums_snoc, List.nodup_append]
 refine ⟨h, by simp, fun a ha b hb => ?_⟩
 rw [List.mem_singleton.1 hb]
 rintro rfl
 exact hx ha

theorem seated2C {B : Nat} {S : Ents} {Q : Value → Ents → Prop} {hv mv sv : Value} {ls : List (List Nd)} {ss : List St} {vs : List Value} (hm : Reads S 1 mv vs.length vs) (hvs : vs.all (·.oneCell') = true) (hn : NodesIn S (hv :: vs) ls) (h3 : vs.length ≤ 3)
  (hs : Reads S 2 sv ss.length (ss.flatMap stc)) (hsl : ss.length ≤ lim) (H : ∀ b, (b = true ↔ SeatsOk ls ss) → Q (.bool b) S) : CallWp Tryz.prog B 102 #[.agg #[hv, mv, sv]] Q S :=
 seatedC hm hvs hn h3 hs hsl (fun h => H true (by simp [h])) (fun h => H false (by simp [h]))

section
variable {B : Nat} {S R : Ents} {Q : Value → Ents → Prop}
set_option maxHeartbeats 4000000 in
theorem townC {hv mv sv : Value} {h0 : List Nd} {ms : List (List Nd)} {ss : List St} {vs : List Value} (hm : Reads S 1 mv vs.length vs) (hvs : vs.all (·.oneCell') = true) (hn : NodesIn S (hv :: vs) (h0 :: ms)) (hml : vs.length ≤ lim)
  (hs : Reads S 2 sv ss.length (ss.flatMap stc)) (hsl : ss.length ≤ lim) (H0 : TownOk (h0 :: ms) ss → Q (.int .i64 0) S) (H1 : ¬ TownOk (h0 :: ms) ss → Q (.int .i64 250) S) : CallWp Tryz.prog B 62 #[.agg #[hv, mv, sv]] Q S := by
 obtain ⟨ma, mc, rfl⟩ := hm.form
 have hn1 := hn.1
 simp only [List.length_cons, Nat.add_right_cancel_iff] at hn1
 obtain ⟨ha, hcc, rfl⟩ : ∃ a c, hv = .slice a h0.length c := (hn.2 0 hv h0 rfl rfl).1.form
 unfold lim at hml
 refine CallWp.dropRet ?_
 refine CallWp.enterG (args := [_]) Tryz.func62 rfl Tryz.ntmps62 rfl ?_
 refine WpG.seq (WpG.region rfl ?_)
 refine Yb rfl rfl rfl rfl fun L1 hBL1 hLL1 => ?_
 refine Ya rfl rfl rfl rfl fun L2 hBL2 hLL2 => ?_
 refine OWp.nil ?_
 refine WpG.seqS (α := Bool) (fun b => [(1, .pointer (some ⟨L1, 0, none⟩)), (2, .pointer (some ⟨L2, 0, none⟩)), (3, .bool b)]) (fun _ => (L2, cel [.int .i64 0] 37) :: (L1, cel [.slice ha h0.length hcc, .slice ma vs.length mc, sv] 28) :: S) (fun b => b = true ↔ (h0.length = 0 ∨ vs.length = 0 ∨ 3 < vs.length)) ?_ ?_
 ·skip
  refine WpG.region rfl ?_
  refine Ye 1 rfl ?_
  refine Yl m1 ?_
  refine Ye 3 rfl ?_
  refine OWp.part 13 rfl (fun h1 => ?_) (fun h1 => ?_)
  ·have h1 := of_decide_eq_true h1
   refine Yz 12 rfl ?_
   exact ⟨true, by simp only [true_iff]; omega, .cons rfl (.cons rfl (.cons rfl (.nil _))), .refl _, rfl⟩
  have h1 := of_decide_eq_false h1
  refine Ye 1 rfl ?_
  refine Yl m1 ?_
  refine Ye 4 rfl ?_
  refine OWp.part 19 rfl (fun h2 => ?_) (fun h2 => ?_)
  ·have h2 := of_decide_eq_true h2
   refine Yz 6 rfl ?_
   exact ⟨true, by simp only [true_iff]; omega, .cons rfl (.cons rfl (.cons rfl (.nil _))), .refl _, rfl⟩
  have h2 := of_decide_eq_false h2
  refine Ye 1 rfl ?_
  refine Yl m1 ?_
  refine Yz 4 rfl ?_
  exact ⟨decide (3 < (vs.length : Int)), by simp only [decide_eq_true_eq]; omega, .cons rfl (.cons rfl (.cons rfl (.nil _))), .refl _, rfl⟩
 rintro b0 hb0
 refine WpG.seq (WpG.ofWp ?_)
 refine Yg 1 rfl ?_
 refine Yl m1 ?_
 refine Yz 2 rfl ?_
 refine Wp.block ?_
 refine Wp.loopS (α := Nat × Bool) (fun z => vs.length - z.1) (fun z => [(1, .pointer (some ⟨L1, 0, none⟩)), (2, .pointer (some ⟨L2, 0, none⟩)), (3, .bool z.2), (26, .slice ma vs.length mc), (27, .int .i64 (vs.length : Int)), (28, .int .i64 (z.1 : Int))]) (fun _ => (L2, cel [.int .i64 0] 37) :: (L1, cel [.slice ha h0.length hcc, .slice ma vs.length mc, sv] 28) :: S) (fun z => z.1 ≤ vs.length ∧ (z.2 = true ↔ (b0 = true ∨ ∃ l ∈ ms.take z.1, l = []))) (0, b0) ?_ (.refl _) ⟨Nat.zero_le _, by simp⟩ ?_
 ·exact .cons rfl (.cons rfl (.cons rfl (.cons rfl (.cons rfl (.cons rfl (.nil _))))))
 rintro ⟨i, b⟩ ⟨hi, hb⟩
 simp only at hi hb ⊢
 refine Yn 1 rfl ?_
 refine Wp.seq ?_
 refine Wp.cond rfl (fun h1 => ?_) (fun h1 => ?_)
 ·have h1 := of_decide_eq_true h1
  have hi1 : i < vs.length := by omega
  have hi2 : i < ms.length := by omega
  obtain ⟨b2, o2, c2, l2, t2, f2, hv2, hm2, _, hg2⟩ := hm.get1 (by omega)
  cases hv2
  obtain ⟨hnr, hnl⟩ := hn.2 (i + 1) vs[i] ms[i] (by simp) (by simp)
  obtain ⟨na, nc, hvf⟩ := hnr.form
  have hgi : l2[o2 + i * 1]? = some (.slice na ms[i].length nc) := by
   rw [hg2 i hi1, ← hvf]; simp
  have hsucc : ms.take (i + 1) = ms.take i ++ [ms[i]] := List.take_succ_eq_append_getElem hi2
  refine Wp.skip ?_
  refine Wp.seq ?_
  refine Wp.block ?_
  refine Yq ?_
  refine OWp.g rfl rfl (Gives.indexAddrSlice (i) rfl rfl rfl rfl rfl rfl (by omega)) ?_
  refine OWp.load (.tail _ (.tail _ hm2)) rfl rfl rfl rfl hgi ?_
  cases b
  ·skip
   refine Yz 1 rfl ?_
   refine Wp.region ?_
   refine Ye 2 rfl ?_
   refine OWp.part 33 rfl (fun cc1 => (by contradiction)) (fun cc1 => ?_)
   refine Yz 5 rfl ?_
   refine Wp.region ?_
   refine Yz 2 rfl ?_
   refine ⟨(i + 1, decide ((ms[i].length : Int) = 0)), by simp only; omega, ⟨by simp only; omega, ?_⟩, .cons rfl (.cons rfl (.cons rfl (.cons rfl (.cons rfl (.cons' rfl (int_eq (by simp only; rw [i64_id] <;> omega)) (.nil _)))))), .refl _⟩
   simp only
   have hno : ¬ (b0 = true ∨ ∃ l ∈ ms.take i, l = []) := fun h => by have := hb.2 h; cases this
   rw [hsucc, decide_eq_true_eq]
   constructor
   ·intro h
    exact .inr ⟨ms[i], List.mem_append_right _ (List.mem_singleton.2 rfl), List.eq_nil_of_length_eq_zero (by omega)⟩
   ·rintro (h | ⟨l, hl, h⟩)
    ·exact absurd (.inl h) hno
    ·rcases List.mem_append.1 hl with hl | hl
     ·exact absurd (.inr ⟨l, hl, h⟩) hno
     ·rw [List.mem_singleton.1 hl] at h; simp [h]
  refine Yz 1 rfl ?_
  refine Wp.region ?_
  refine Ye 2 rfl ?_
  refine OWp.part 33 rfl (fun cc2 => ?_) (fun cc2 => (by contradiction))
  refine Yz 5 rfl ?_
  refine Wp.region ?_
  refine Yz 2 rfl ?_
  refine ⟨(i + 1, true), by simp only; omega, ⟨by simp only; omega, ?_⟩, .cons rfl (.cons rfl (.cons rfl (.cons rfl (.cons rfl (.cons' rfl (int_eq (by simp only; rw [i64_id] <;> omega)) (.nil _)))))), .refl _⟩
  simp only
  refine ⟨fun _ => ?_, fun _ => by trivial⟩
  rcases hb.1 rfl with h | ⟨l, hl, h⟩
  ·exact .inl h
  ·exact .inr ⟨l, by rw [hsucc]; exact List.mem_append_left _ hl, h⟩
 have h1 := of_decide_eq_false h1
 obtain rfl : i = vs.length := by omega
 rw [hn1, List.take_length] at hb
 refine Wp.exit ?_
 refine WpG.seq ?_
 refine WpG.seq (WpG.region rfl ?_)
 refine Yz 1 rfl ?_
 refine WpG.cond rfl (fun hc => ?_) (fun hc => ?_)
 ·skip
  refine WpG.seq (WpG.region rfl ?_)
  refine OWp.step rfl (Step.storeAs 0 [.int .i64 250] rfl rfl rfl rfl rfl hBL2 rfl (Unfz.zero _) rfl (Nat.le_of_ble_eq_true rfl) rfl rfl ?_)
  refine OWp.nil ?_
  refine WpG.ret ?_
  refine ⟨trivial, .inl ⟨rfl, [.int .i64 250], ⟨_, _, _, _, rfl, rfl, ⟨_, _, _, .head _, rfl⟩, rfl⟩, S, subl, H1 fun hok => ?_⟩⟩
  obtain ⟨⟨h5, h6, h7⟩, _⟩ := hok
  simp only [List.length_cons] at h5 h6
  rcases hb.1 hc with h | ⟨l, hl, h⟩
  ·rcases hb0.1 h with h | h | h
   ·exact h7 h0 List.mem_cons_self (List.eq_nil_of_length_eq_zero h)
   ·omega
   ·omega
  ·exact h7 l (List.mem_cons_of_mem _ hl) h
 have hbn : ¬ (b0 = true ∨ ∃ l ∈ ms, l = []) := fun h => by have := hb.2 h; rw [this] at hc; cases hc
 have hb0n : ¬ (h0.length = 0 ∨ vs.length = 0 ∨ 3 < vs.length) := fun h => hbn (.inl (hb0.2 h))
 have h3 : vs.length ≤ 3 := by omega
 have hshape : ShapeOk (h0 :: ms) := by
  refine ⟨by simp only [List.length_cons]; omega, by simp only [List.length_cons]; omega, fun l hl e => ?_⟩
  rcases List.mem_cons.1 hl with rfl | hl
  ·subst e; simp at hb0n
  ·exact hbn (.inr ⟨l, hl, e⟩)
 refine WpG.skip ?_
 refine WpG.seq (WpG.region rfl ?_)
 refine OWp.step rfl (Step.makeMap rfl rfl ?_)
 intro Lm hBm hLm
 refine Ya rfl rfl rfl rfl fun L6 hBL6 hLL6 => ?_
 refine OWp.step rfl (Step.storeAs 0 [.map (some Lm)] rfl rfl rfl rfl rfl hBL6 rfl (Unfz.zero _) rfl (Nat.le_of_ble_eq_true rfl) rfl rfl ?_)
 refine OWp.nil ?_
 refine WpG.seq ?_
 refine WpG.seq (WpG.region rfl ?_)
 refine Yl m3 ?_
 refine Yc rfl rfl (nodesMk ?_)
 intro Tb hBT
 refine OWp.nil ?_
 refine WpG.block ?_
 refine WpG.rangeFunc rfl rfl ?_
 rintro D l r hBD hBl hlt hDl hT hps has hbd hst hpe
 refine CallWp.permS (S' := [(l, Obj.loop r), (D, .deferred (some [])), (L6, cel [.map (some Lm)] 221), (Lm, mapO []), (L2, cel [.int .i64 0] 37)] ++ ((Tb, cel [.slice ha h0.length hcc, .slice ma vs.length mc, sv] 28) :: (L1, cel [.slice ha h0.length hcc, .slice ma vs.length mc, sv] 28) :: S)) (List.Perm.cons _ (List.Perm.cons _ (List.perm_middle (l₁ := [(L6, cel [.map (some Lm)] 221), (Lm, mapO []), (L2, cel [.int .i64 0] 37)]).symm))) ?_
 refine nodesC (J := fun pre X => (∀ y ∈ pre, NdOk y.2) ∧ (nums pre).Nodup ∧ X = [(l, Obj.loop r), (D, .deferred (some [])), (L6, cel [.map (some Lm)] 221), (Lm, mapO (nums pre)), (L2, cel [.int .i64 0] 37)])
  (Jx := fun pre X => ∃ p x, pre = p ++ [x] ∧ (¬ NdOk x.2 ∨ x.2.1 ∈ nums p) ∧ X = [(l, Obj.loop { r with state := .done, pending := some .ret }), (D, .deferred (some [])), (L6, cel [.map (some Lm)] 221), (Lm, mapO (nums p)), (L2, cel [.int .i64 250] 37)])
  (.head _) (hm.mono fun _ h => .tail _ (.tail _ h)) hvs ⟨hn.1, fun i v l h1 h2 => ⟨(hn.2 i v l h1 h2).1.mono fun _ h => .tail _ (.tail _ h), (hn.2 i v l h1 h2).2⟩⟩ h3 ?_ ⟨(fun _ h => nomatch h), List.nodup_nil, rfl⟩ ?_ ?_
 ·skip
  rintro pre x X R' hpre ⟨hok, hnd, rfl⟩
  refine YieldWp.round (t := (r.tmps.setIfInBounds 43 (.int .i64 x.1)).setIfInBounds 44 (.agg (ndc x.2).toArray)) hBl hst (by rw [hps]; rfl) (by rw [hps]; simp) ((hT.put 43 _ rfl).put 44 _ rfl) has hbd ?_
  refine WpG.region rfl ?_
  refine Ya rfl rfl rfl rfl fun L8 hBL8 hLL8 => ?_
  refine OWp.step rfl (Step.storeAs 0 (ndc x.2) rfl rfl rfl rfl rfl hBL8 rfl (Unfz.zero _) rfl (Nat.le_of_ble_eq_true rfl) rfl rfl ?_)
  refine OWp.nil ?_
  refine ⟨rfl, rfl, _, .swap _ _ _, ?_⟩
  refine WpG.block ?_
  refine WpG.seq ?_
  refine WpG.seq (WpG.region rfl ?_)
  refine Ye 1 rfl ?_
  refine Yl m1 ?_
  refine Ye 2 rfl ?_
  refine OWp.part 48 rfl (fun hg1 => ?_) (fun hg1 => ?_)
  ·have hg1 := of_decide_eq_true hg1
   have hbad : ¬ NdOk x.2 ∨ x.2.1 ∈ nums pre := .inl (fun h => by have h5 := h.1; have h6 := h.2.1; have h7 := h.2.2; first | omega | exact hg3 (by rw [str_len', h7]; rfl))
   refine Yz 16 rfl ?_
   refine WpG.cond rfl (fun _ => ?_) (fun c => nomatch c)
   refine WpG.seq (WpG.region rfl ?_)
   refine OWp.step rfl (Step.storeAs 5 [.int .i64 250] rfl rfl rfl rfl rfl hBL2 rfl (Unfz.zero _) rfl (Nat.le_of_ble_eq_true rfl) rfl rfl ?_)
   refine OWp.nil ?_
   refine WpG.ret ?_
   exact ⟨_, some .ret, _, .cons_cons _ (.cons _ (.refl _)), .refl _, rfl, _, rfl, .inr ⟨rfl, pre, x, rfl, hbad, rfl⟩⟩
  have hg1 := of_decide_eq_false hg1
  refine Ye 1 rfl ?_
  refine Yl m1 ?_
  refine Ye 3 rfl ?_
  refine OWp.part 53 rfl (fun hg2 => ?_) (fun hg2 => ?_)
  ·have hg2 := of_decide_eq_true hg2
   have hbad : ¬ NdOk x.2 ∨ x.2.1 ∈ nums pre := .inl (fun h => by have h5 := h.1; have h6 := h.2.1; have h7 := h.2.2; first | omega | exact hg3 (by rw [str_len', h7]; rfl))
   refine Yz 11 rfl ?_
   refine WpG.cond rfl (fun _ => ?_) (fun c => nomatch c)
   refine WpG.seq (WpG.region rfl ?_)
   refine OWp.step rfl (Step.storeAs 5 [.int .i64 250] rfl rfl rfl rfl rfl hBL2 rfl (Unfz.zero _) rfl (Nat.le_of_ble_eq_true rfl) rfl rfl ?_)
   refine OWp.nil ?_
   refine WpG.ret ?_
   exact ⟨_, some .ret, _, .cons_cons _ (.cons _ (.refl _)), .refl _, rfl, _, rfl, .inr ⟨rfl, pre, x, rfl, hbad, rfl⟩⟩
  have hg2 := of_decide_eq_false hg2
  refine Ye 1 rfl ?_
  refine Yl m1 ?_
  refine Ye 4 rfl ?_
  refine OWp.part 59 rfl (fun hg3 => ?_) (fun hg3 => ?_)
  ·have hg3 := ndT hg3
   have hbad : ¬ NdOk x.2 ∨ x.2.1 ∈ nums pre := .inl (fun h => by have h5 := h.1; have h6 := h.2.1; have h7 := h.2.2; first | omega | exact hg3 (by rw [str_len', h7]; rfl))
   refine Yz 5 rfl ?_
   refine WpG.cond rfl (fun _ => ?_) (fun c => nomatch c)
   refine WpG.seq (WpG.region rfl ?_)
   refine OWp.step rfl (Step.storeAs 5 [.int .i64 250] rfl rfl rfl rfl rfl hBL2 rfl (Unfz.zero _) rfl (Nat.le_of_ble_eq_true rfl) rfl rfl ?_)
   refine OWp.nil ?_
   refine WpG.ret ?_
   exact ⟨_, some .ret, _, .cons_cons _ (.cons _ (.refl _)), .refl _, rfl, _, rfl, .inr ⟨rfl, pre, x, rfl, hbad, rfl⟩⟩
  have hg3 := ndF hg3
  refine Yl m3 ?_
  refine Ye 1 rfl ?_
  refine Yl m1 ?_
  refine OWp.gives rfl rfl (Gives.seen (b := Lm) (L := nums pre) (k := x.2.1) rfl rfl rfl rfl rfl rfl rfl) (fun y hy => by rw [List.mem_singleton.1 hy]; exact .tail _ (.tail _ (.tail _ (.tail _ (.head _))))) ?_
  refine Yz 1 rfl ?_
  refine WpG.cond rfl (fun hmem => ?_) (fun hmem => ?_)
  ·skip
   have hmem := of_decide_eq_true hmem
   have hbad : ¬ NdOk x.2 ∨ x.2.1 ∈ nums pre := .inr hmem
   refine WpG.seq (WpG.region rfl ?_)
   refine OWp.step rfl (Step.storeAs 5 [.int .i64 250] rfl rfl rfl rfl rfl hBL2 rfl (Unfz.zero _) rfl (Nat.le_of_ble_eq_true rfl) rfl rfl ?_)
   refine OWp.nil ?_
   refine WpG.ret ?_
   exact ⟨_, some .ret, _, .cons_cons _ (.cons _ (.refl _)), .refl _, rfl, _, rfl, .inr ⟨rfl, pre, x, rfl, hbad, rfl⟩⟩
  have hmem := of_decide_eq_false hmem
  refine WpG.skip ?_
  refine WpG.region rfl ?_
  refine Yl m3 ?_
  refine Ye 1 rfl ?_
  refine Yl m1 ?_
  refine OWp.step rfl (Step.mapAdd (L := nums pre) 4 rfl rfl rfl rfl rfl rfl rfl rfl hBm hmem rfl ?_)
  refine OWp.nil ?_
  refine ⟨_, none, _, .cons_cons _ (.cons _ (.refl _)), .refl _, rfl, [(l, Obj.loop r), (D, .deferred (some [])), (L6, cel [.map (some Lm)] 221), (Lm, mapO (nums pre ++ [x.2.1])), (L2, cel [.int .i64 0] 37)], ?_, .inl ⟨rfl, ?_, nums_add hnd hmem, ?_⟩⟩
  ·have e : ({ r with state := .ready, pending := none } : Loop) = r := by cases r; simp_all
   simp only [Option.isNone_none, if_true, e]
   rfl
  ·intro y hy
   rcases List.mem_append.1 hy with hy | hy
   ·exact hok y hy
   ·rw [List.mem_singleton.1 hy]; exact ⟨by omega, by omega, by omega⟩
  ·rw [nums_snoc]
 ·rintro pre X hpre ⟨p, x, rfl, hbad, rfl⟩
  refine ⟨_, _, .refl _, by simp, ?_⟩
  refine WpG.ret ?_
  refine ⟨trivial, .inr ⟨D, [(L6, cel [.map (some Lm)] 221), (Lm, mapO (nums p)), (L2, cel [.int .i64 250] 37)] ++ ((Tb, cel [.slice ha h0.length hcc, .slice ma vs.length mc, sv] 28) :: (L1, cel [.slice ha h0.length hcc, .slice ma vs.length mc, sv] 28) :: S), hBD, rfl, .refl _, [.int .i64 250], ?_, S, subl, H1 fun h => nodes_no hpre hbad h.2.1⟩⟩
  exact ⟨_, _, _, _, rfl, rfl, ⟨_, _, _, .tail _ (.tail _ (.head _)), rfl⟩, rfl⟩
 rintro X ⟨hok, hnd, rfl⟩
 refine ⟨r, _, .refl _, by rw [hst]; simp, ?_⟩
 rw [hpe]
 refine WpG.seq ?_
 refine WpG.seq (WpG.region rfl ?_)
 refine Yl (.tail _ (.tail _ (.tail _ (.tail _ (.tail _ (.head _)))))) ?_
 refine Yc rfl rfl (seated2C (hm.mono fun _ h => .tail _ (.tail _ (.tail _ (.tail _ (.tail _ (.tail _ h)))))) hvs ⟨hn.1, fun i v l h1 h2 => ⟨(hn.2 i v l h1 h2).1.mono fun _ h => .tail _ (.tail _ (.tail _ (.tail _ (.tail _ (.tail _ h))))), (hn.2 i v l h1 h2).2⟩⟩ h3 (hs.mono fun _ h => .tail _ (.tail _ (.tail _ (.tail _ (.tail _ (.tail _ h)))))) hsl ?_)
 intro sb hsb
 refine Yz 1 rfl ?_
 refine WpG.cond rfl (fun hc2 => ?_) (fun hc2 => ?_)
 ·skip
  refine WpG.seq (WpG.region rfl ?_)
  refine OWp.step rfl (Step.storeAs 3 [.int .i64 250] rfl rfl rfl rfl rfl hBL2 rfl (Unfz.zero _) rfl (Nat.le_of_ble_eq_true rfl) rfl rfl ?_)
  refine OWp.nil ?_
  refine WpG.ret ?_
  refine ⟨trivial, .inr ⟨D, [(L6, cel [.map (some Lm)] 221), (Lm, mapO (nums (lay (h0 :: ms) 0))), (L2, cel [.int .i64 250] 37)] ++ ((Tb, cel [.slice ha h0.length hcc, .slice ma vs.length mc, sv] 28) :: (L1, cel [.slice ha h0.length hcc, .slice ma vs.length mc, sv] 28) :: S), hBD, rfl, .refl _, [.int .i64 250], ?_, S, subl, H1 fun h => ?_⟩⟩
  ·exact ⟨_, _, _, _, rfl, rfl, ⟨_, _, _, .tail _ (.tail _ (.head _)), rfl⟩, rfl⟩
  ·rw [hsb.2 h.2.2] at hc2; cases hc2
 refine WpG.skip ?_
 refine WpG.seq (WpG.region rfl ?_)
 refine OWp.step rfl (Step.storeAs 3 [.int .i64 0] rfl rfl rfl rfl rfl hBL2 rfl (Unfz.zero _) rfl (Nat.le_of_ble_eq_true rfl) rfl rfl ?_)
 refine OWp.nil ?_
 refine WpG.ret ?_
 refine ⟨trivial, .inr ⟨D, [(L6, cel [.map (some Lm)] 221), (Lm, mapO (nums (lay (h0 :: ms) 0))), (L2, cel [.int .i64 0] 37)] ++ ((Tb, cel [.slice ha h0.length hcc, .slice ma vs.length mc, sv] 28) :: (L1, cel [.slice ha h0.length hcc, .slice ma vs.length mc, sv] 28) :: S), hBD, rfl, .refl _, [.int .i64 0], ?_, S, subl, H0 ⟨hshape, ⟨hok, hnd⟩, hsb.1 (by simpa using hc2)⟩⟩⟩
 exact ⟨_, _, _, _, rfl, rfl, ⟨_, _, _, .tail _ (.tail _ (.head _)), rfl⟩, rfl⟩
end
end Go.Proofs.C

namespace Go.Proofs.C
open Go.Lg
set_option maxRecDepth 100000

/-- A town that may be read. -/
def TIn (S : Ents) (hv mv sv : Value) (h0 : List Nd) (ms : List (List Nd)) (ss : List St) : Prop :=
 ∃ vs, Reads S 1 mv vs.length vs ∧ vs.all (·.oneCell') = true ∧ NodesIn S (hv :: vs) (h0 :: ms) ∧ vs.length ≤ lim ∧ Reads S 2 sv ss.length (ss.flatMap stc) ∧ ss.length ≤ lim
theorem NodesIn.mono {S S' : Ents} {vs : List Value} {ls : List (List Nd)} (h : NodesIn S vs ls) (hs : ∀ x ∈ S, x ∈ S') : NodesIn S' vs ls := ⟨h.1, fun i v l h1 h2 => ⟨(h.2 i v l h1 h2).1.mono hs, (h.2 i v l h1 h2).2⟩⟩
theorem TIn.mono {S S' : Ents} {hv mv sv : Value} {h0 : List Nd} {ms : List (List Nd)} {ss : List St} (h : TIn S hv mv sv h0 ms ss) (hs : ∀ x ∈ S, x ∈ S') : TIn S' hv mv sv h0 ms ss := by
 obtain ⟨vs, h1, h2, h3, h4, h5, h6⟩ := h
 exact ⟨vs, h1.mono hs, h2, h3.mono hs, h4, h5.mono hs, h6⟩
theorem TIn.forms {S : Ents} {hv mv sv : Value} {h0 : List Nd} {ms : List (List Nd)} {ss : List St} (h : TIn S hv mv sv h0 ms ss) : ∃ a1 c1 a2 c2 a3 c3, hv = .slice a1 h0.length c1 ∧ mv = .slice a2 ms.length c2 ∧ sv = .slice a3 ss.length c3 := by
 obtain ⟨vs, h1, h2, h3, h4, h5, h6⟩ := h
 obtain ⟨a1, c1, e1⟩ := (h3.2 0 hv h0 rfl rfl).1.form
 obtain ⟨a2, c2, e2⟩ := h1.form
 obtain ⟨a3, c3, e3⟩ := h5.form
 have := h3.1
 simp only [List.length_cons, Nat.add_right_cancel_iff] at this
 exact ⟨a1, c1, a2, c2, a3, c3, e1, by rw [e2, this], e3⟩

section
variable {B : Nat} {S R : Ents} {Q : Value → Ents → Prop} {hv mv sv : Value} {h0 : List Nd} {ms : List (List Nd)} {ss : List St}
theorem town2C (h : TIn S hv mv sv h0 ms ss) (H : ∀ e : Int, (e = 0 ∧ TownOk (h0 :: ms) ss ∨ e = 250 ∧ ¬ TownOk (h0 :: ms) ss) → Q (.int .i64 e) S) : CallWp Tryz.prog B 62 #[.agg #[hv, mv, sv]] Q S := by
 obtain ⟨vs, h1, h2, h3, h4, h5, h6⟩ := h
 exact townC h1 h2 h3 h4 h5 h6 (fun h => H 0 (.inl ⟨rfl, h⟩)) (fun h => H 250 (.inr ⟨rfl, h⟩))
theorem find2C {number : Int} (h : TIn S hv mv sv h0 ms ss) (hok : TownOk (h0 :: ms) ss) (H : Q (.tuple (findV (findP (h0 :: ms) number)).toArray) S) : CallWp Tryz.prog B 99 #[.agg #[hv, mv, sv], .int .i64 number] Q S := by
 obtain ⟨vs, h1, h2, h3, h4, h5, h6⟩ := h
 have := h3.1
 have h8 := hok.1.2.1
 simp only [List.length_cons] at this h8
 exact findC h1 h2 h3 (by omega) H

/-- Words. -/
def Words (ls : List (List Nd)) (ss : List St) (n : Int) : Prop := TownOk ls ss ∧ n = 2 * ((ls.length - 1 : Nat) : Int) + 1 ∨ ¬ TownOk ls ss ∧ n = 0
theorem wordsC (h : TIn S hv mv sv h0 ms ss) (H : ∀ n, Words (h0 :: ms) ss n → Q (.int .i64 n) S) : CallWp Tryz.prog B 31 #[.agg #[hv, mv, sv]] Q S := by
 obtain ⟨a1, c1, a2, c2, a3, c3, rfl, rfl, rfl⟩ := h.forms
 refine CallWp.dropRet ?_
 refine Yx (args := [_]) Tryz.func31 Tryz.ntmps31 ?_
 refine Yq ?_
 refine Yb rfl rfl rfl rfl fun L1 hBL1 hLL1 => ?_
 refine Yz 1 rfl ?_
 refine Wp.seq ?_
 refine Yq ?_
 refine Yl m0 ?_
 refine Yc rfl rfl (town2C (h.mono fun _ h => .tail _ h) ?_)
 intro e he
 rcases he with ⟨rfl, hok⟩ | ⟨rfl, hok⟩
 ·skip
  refine Yz 1 rfl ?_
  refine Cu rfl (by exact fun h => h rfl) fun cc1 => ?_
  refine Wp.skip ?_
  refine Yg 1 rfl ?_
  refine Yl m0 ?_
  refine Yz 4 rfl ?_
  refine Wp.ret ⟨trivial, _, ⟨_, _, rfl, rfl, rfl⟩, ?_⟩
  have h8 := hok.1.2.1
  simp only [List.length_cons] at h8
  exact ⟨S, subl, H _ (.inl ⟨hok, by simp only [List.length_cons]; rw [i64_id (by rw [i64_id] <;> omega) (by rw [i64_id] <;> omega), i64_id (by omega) (by omega)]; simp⟩)⟩
 refine Yz 1 rfl ?_
 refine Cw rfl (by decide) fun cc2 => ?_
 refine Yn 1 rfl ?_
 refine Wp.ret ⟨trivial, _, ⟨_, _, rfl, rfl, rfl⟩, ?_⟩
 exact ⟨S, subl, H _ (.inr ⟨hok, rfl⟩)⟩
/-- What Node tells. -/
def NodeOf (ls : List (List Nd)) (ss : List St) (number : Int) (n : Nd) (layer e : Int) : Prop :=
 TownOk ls ss ∧ (findP ls number = some (layer, n) ∧ e = 0 ∨ findP ls number = none ∧ n = (0, []) ∧ layer = 0 ∧ e = 5) ∨ ¬ TownOk ls ss ∧ n = (0, []) ∧ layer = 0 ∧ e = 250
/-- What Host tells. -/
def HostOf (ls : List (List Nd)) (ss : List St) (user : Int) (n : Nd) (e : Int) : Prop :=
 TownOk ls ss ∧ ((∃ s ly, ss.find? (fun s => s.1 == user) = some s ∧ findP ls s.2 = some (ly, n) ∧ ly ≤ 0 ∧ e = 0) ∨ ss.find? (fun s => s.1 == user) = none ∧ n = (0, []) ∧ e = 5) ∨ ¬ TownOk ls ss ∧ n = (0, []) ∧ e = 250
theorem find_at {ss : List St} {user : Int} {i : Nat} (hi : i < ss.length) (hb : ∀ s ∈ ss.take i, s.1 ≠ user) (h : ss[i].1 = user) : ss.find? (fun s => s.1 == user) = some ss[i] := by
 have e : ss = ss.take i ++ ss[i] :: ss.drop (i + 1) := by rw [← List.drop_eq_getElem_cons hi, List.take_append_drop]
 conv => lhs; rw [e]
 rw [List.find?_append, List.find?_eq_none.2 (fun s hs => by simpa using hb s hs), Option.none_or, List.find?_cons_of_pos (by simpa using h)]
set_option maxHeartbeats 1000000 in
theorem hostC {user : Int} (h : TIn S hv mv sv h0 ms ss) (H : ∀ n e, HostOf (h0 :: ms) ss user n e → Q (.tuple #[.agg (ndc n).toArray, .int .i64 e]) S) : CallWp Tryz.prog B 57 #[.agg #[hv, mv, sv], .int .i64 user] Q S := by
 obtain ⟨a1, c1, a2, c2, a3, c3, rfl, rfl, rfl⟩ := h.forms
 have hsr : Reads S 2 (.slice a3 ss.length c3) ss.length (ss.flatMap stc) := by obtain ⟨_, _, _, _, _, h5, _⟩ := h; exact h5
 have hsl : ss.length ≤ lim := by obtain ⟨_, _, _, _, _, _, h6⟩ := h; exact h6
 unfold lim at hsl
 refine CallWp.dropRet ?_
 refine Yx (args := [_, _]) Tryz.func57 Tryz.ntmps57 ?_
 refine Yq ?_
 refine Yb rfl rfl rfl rfl fun L2 hBL2 hLL2 => ?_
 refine Ya rfl rfl rfl rfl fun L4 hBL4 hLL4 => ?_
 refine Yz 1 rfl ?_
 refine Wp.seq ?_
 refine Yq ?_
 refine Yl m1 ?_
 refine Yc rfl rfl (town2C (h.mono fun _ h => .tail _ (.tail _ h)) ?_)
 intro e he
 rcases he with ⟨rfl, hok⟩ | ⟨rfl, hok⟩
 ·skip
  refine Yz 1 rfl ?_
  refine Yn 2 rfl ?_
  refine Cu rfl (by exact fun h => h rfl) fun cc1 => ?_
  refine Wp.skip ?_
  refine Wp.seq ?_
  refine Yg 1 rfl ?_
  refine Yl m1 ?_
  refine Yz 2 rfl ?_
  refine Wp.block ?_
  refine Wp.loopS (α := Nat) (fun i => ss.length - i) (fun i => [(1, .int .i64 user), (2, .pointer (some ⟨L2, 0, none⟩)), (4, .pointer (some ⟨L4, 0, none⟩)), (19, .slice a3 ss.length c3), (20, .int .i64 (ss.length : Int)), (21, .int .i64 (i : Int))]) (fun _ => (L4, cel (ndc (0, [])) 135) :: (L2, cel [.slice a1 h0.length c1, .slice a2 ms.length c2, .slice a3 ss.length c3] 28) :: S) (fun i => i ≤ ss.length ∧ ∀ s ∈ ss.take i, s.1 ≠ user) 0 ?_ (.refl _) ⟨Nat.zero_le _, by simp⟩ ?_
  ·exact .cons rfl (.cons rfl (.cons rfl (.cons rfl (.cons rfl (.cons rfl (.nil _))))))
  rintro i ⟨hi, hb⟩
  refine Yn 1 rfl ?_
  refine Wp.seq ?_
  refine Wp.cond rfl (fun h1 => ?_) (fun h1 => ?_)
  ·have h1 := of_decide_eq_true h1
   have hi1 : i < ss.length := by omega
   obtain ⟨b1, o1, c1', L, e, fz, hv1, hm1, hat⟩ := st_at hsr (by omega)
   cases hv1
   have hsucc : ss.take (i + 1) = ss.take i ++ [ss[i]] := List.take_succ_eq_append_getElem hi1
   refine Wp.skip ?_
   refine Wp.seq ?_
   refine Wp.block ?_
   refine Yq ?_
   refine OWp.g rfl rfl (Gives.indexAddrSlice (i) rfl rfl rfl rfl rfl rfl (by omega)) ?_
   refine OWp.load (.tail _ (.tail _ hm1)) rfl rfl rfl rfl (hat i hi1) ?_
   refine Ya rfl rfl rfl rfl fun L8 hBL8 hLL8 => ?_
   refine OWp.step rfl (Step.storeAs 0 (stc ss[i]) rfl rfl rfl rfl rfl hBL8 rfl (Unfz.zero _) rfl (Nat.le_of_ble_eq_true rfl) rfl rfl ?_)
   refine OWp.nil ?_
   refine Yg 1 rfl ?_
   refine Yl m0 ?_
   refine Yz 2 rfl ?_
   refine Wp.cond rfl (fun heq => ?_) (fun heq => ?_)
   ·have heq := of_decide_eq_true heq
    refine Yq ?_
    refine Yl m2 ?_
    refine Ye 1 rfl ?_
    refine Yl m0 ?_
    refine Yc rfl rfl (find2C (h.mono fun _ h => .tail _ (.tail _ (.tail _ h))) hok ?_)
    obtain ⟨⟨x, hx, hx2⟩, _⟩ := hok.2.2.1 ss[i] (List.getElem_mem hi1)
    rw [hx]
    refine Ye 4 rfl ?_
    refine Ya rfl rfl rfl rfl fun L9 hBL9 hLL9 => ?_
    refine OWp.step rfl (Step.storeAs 0 (ndc x.2) rfl rfl rfl rfl rfl hBL9 rfl (Unfz.zero _) rfl (Nat.le_of_ble_eq_true rfl) rfl rfl ?_)
    refine Yz 2 rfl ?_
    refine Yq ?_
    refine Yl m0 ?_
    refine OWp.step rfl (Step.storeAs 2 (ndc x.2) rfl rfl rfl rfl rfl hBL4 rfl (Unfz.zero _) rfl (Nat.le_of_ble_eq_true rfl) rfl rfl ?_)
    refine Yz 1 rfl ?_
    refine Wp.ret ⟨trivial, _, ⟨_, _, _, _, rfl, rfl, ⟨_, _, _, mems, (by first | assumption | rfl)⟩, ⟨_, _, rfl, rfl, rfl⟩⟩, ?_⟩
    exact ⟨S, subl, H x.2 0 (.inl ⟨hok, .inl ⟨_, _, find_at hi1 hb heq, hx, hx2, rfl⟩⟩)⟩
   have heq := of_decide_eq_false heq
   refine Wp.skip ?_
   refine Wp.drop (List.sublist_cons_self _ _) ?_
   refine Wp.region ?_
   refine Yz 2 rfl ?_
   refine ⟨i + 1, by omega, ⟨by omega, fun s hs => ?_⟩, .cons rfl (.cons rfl (.cons rfl (.cons rfl (.cons rfl (.cons' rfl (int_eq (by rw [i64_id] <;> omega)) (.nil _)))))), .refl _⟩
   rw [hsucc] at hs
   rcases List.mem_append.1 hs with hs | hs
   ·exact hb s hs
   ·rw [List.mem_singleton.1 hs]; exact heq
  have h1 := of_decide_eq_false h1
  obtain rfl : i = ss.length := by omega
  rw [List.take_length] at hb
  refine Wp.exit ?_
  refine Yq ?_
  refine OWp.g rfl rfl (Gives.build rfl rfl) ?_
  refine OWp.step rfl (Step.storeAs 0 (ndc (0, [])) rfl rfl rfl rfl rfl hBL4 rfl (Unfz.zero _) rfl (Nat.le_of_ble_eq_true rfl) rfl rfl ?_)
  refine Yz 1 rfl ?_
  refine Wp.ret ⟨trivial, _, ⟨_, _, _, _, rfl, rfl, ⟨_, _, _, mems, (by first | assumption | rfl)⟩, ⟨_, _, rfl, rfl, rfl⟩⟩, ?_⟩
  exact ⟨S, subl, H (0, []) 5 (.inl ⟨hok, .inr ⟨List.find?_eq_none.2 (fun s hs => by simpa using hb s hs), rfl, rfl⟩⟩)⟩
 refine Yz 1 rfl ?_
 refine Yn 2 rfl ?_
 refine Cw rfl (by decide) fun cc2 => ?_
 refine Yq ?_
 refine OWp.g rfl rfl (Gives.build rfl rfl) ?_
 refine Ye 1 rfl ?_
 refine OWp.step rfl (Step.storeAs 0 (ndc (0, [])) rfl rfl rfl rfl rfl hBL4 rfl (Unfz.zero _) rfl (Nat.le_of_ble_eq_true rfl) rfl rfl ?_)
 refine Yz 1 rfl ?_
 refine Wp.ret ⟨trivial, _, ⟨_, _, _, _, rfl, rfl, ⟨_, _, _, mems, (by first | assumption | rfl)⟩, ⟨_, _, rfl, rfl, rfl⟩⟩, ?_⟩
 exact ⟨S, subl, H (0, []) 250 (.inr ⟨hok, rfl, rfl⟩)⟩
end
end Go.Proofs.C

namespace Go.Proofs.C
open Go.Lg
set_option maxRecDepth 100000

theorem ncell_at {S : Ents} {v : Value} {l : List Nd} (h : Reads S 2 v l.length (l.flatMap ndc)) (h0 : 0 < l.length) :
  ∃ b o cap L e fz, v = .slice (some ⟨b, o, none⟩) l.length cap ∧ (b, cel L e fz) ∈ S ∧ ∀ i (hi : i < l.length), L[o + i * 2]? = some (.int .i64 l[i].1) ∧ L[o + i * 2 + 1]? = some (.string (str l[i].2)) := by
 obtain ⟨b, o, cap, L, e, fz, hv, hm, hat⟩ := Reads.elem (f := ndc) (xs := l) h (fun _ _ => rfl) h0
 refine ⟨b, o, cap, L, e, fz, hv, hm, fun i hi => ?_⟩
 have key : ∀ j, j < 2 → L[o + i * 2 + j]? = (ndc l[i])[j]? := fun j hj => by
  rw [← hat i hi, List.getElem?_take, if_pos hj, List.getElem?_drop]
 exact ⟨key 0 (by decide), key 1 (by decide)⟩
/-- Where a host of a number is. -/
def HostAt (h0 : List Nd) (number z : Int) : Prop := (∃ i : Nat, ∃ h : i < h0.length, z = (i : Int) ∧ h0[i].1 = number ∧ ∀ y ∈ h0.take i, y.1 ≠ number) ∨ z = -1 ∧ ∀ y ∈ h0, y.1 ≠ number
theorem lay_high {ms : List (List Nd)} {k : Nat} {x : Int × Nd} (h : x ∈ lay ms k) : (k : Int) ≤ x.1 := by
 unfold lay at h
 obtain ⟨p, hp, hx⟩ := List.mem_flatMap.1 h
 obtain ⟨y, _, rfl⟩ := List.mem_map.1 hx
 have := (List.mem_zipIdx hp).1
 show (k : Int) ≤ (p.2 : Int)
 omega
theorem subRet {P : Program} {B : Nat} {f : FuncId} {args : Array Value} {Q : Value → Ents → Prop} {S : Ents} (h : CallWp P B f args (fun v S' => ∃ S1 S2 : Ents, S'.Perm S1 ∧ S2.Sublist S1 ∧ Q v S2) S) : CallWp P B f args Q S :=
 fun w hS => (h w hS).mono fun _ _ ⟨v, _, e, hb, hs, _, S2, hp, hsub, q⟩ => ⟨v, S2, e, hb, (hs.perm hp).sublist hsub, q⟩
section
variable {B : Nat} {S R : Ents} {Q : Value → Ents → Prop} {hv mv sv : Value} {h0 : List Nd} {ms : List (List Nd)} {ss : List St}
end
end Go.Proofs.C

namespace Go.Proofs.C
open Go.Lg
set_option maxRecDepth 100000

theorem lay_snd : ∀ (ls : List (List Nd)) (k : Nat), (lay ls k).map (·.2) = ls.flatten
 | [], _ => rfl
 | l :: ls, k => by
  rw [lay_cons, List.map_append, lay_snd ls (k + 1), List.map_map, List.flatten_cons]
  congr 1
  exact List.map_id _
theorem nodesOk_iff {ls : List (List Nd)} : NodesOk ls ↔ (∀ x ∈ ls.flatten, NdOk x) ∧ (ls.flatten.map (·.1)).Nodup := by
 unfold NodesOk nums
 rw [← lay_snd ls 0, List.map_map]
 constructor
 ·rintro ⟨h1, h2⟩
  refine ⟨fun x hx => ?_, h2⟩
  obtain ⟨y, hy, rfl⟩ := List.mem_map.1 hx
  exact h1 y hy
 ·rintro ⟨h1, h2⟩
  exact ⟨fun x hx => h1 _ (List.mem_map.2 ⟨x, hx, rfl⟩), h2⟩
theorem take_add {α : Type} {l : List α} {p : α → Prop} {i : Nat} (hi : i < l.length) (h : ∀ x ∈ l.take i, p x) (h2 : p l[i]) : ∀ x ∈ l.take (i + 1), p x := by
 intro x hx
 rw [List.take_succ_eq_append_getElem hi] at hx
 rcases List.mem_append.1 hx with hx | hx
 ·exact h x hx
 ·rw [List.mem_singleton.1 hx]; exact h2

section
variable {B : Nat} {S R : Ents} {Q : Value → Ents → Prop} {hv mv sv : Value} {h0 : List Nd} {ms : List (List Nd)} {ss : List St}
end
end Go.Proofs.C

namespace Go.Proofs.C
open Go.Lg
set_option maxRecDepth 100000

section
variable {B : Nat} {S R : Ents} {Q : Value → Ents → Prop} {hv mv sv : Value} {h0 : List Nd} {ms : List (List Nd)} {ss : List St}
end
end Go.Proofs.C

namespace Go.Proofs.C
open Go.Lg
set_option maxRecDepth 100000

def eqNd (x y : Nd) : Bool := decide (x.1 = y.1) && (decide (x.2 = y.2) && true)
def eqSt (x y : St) : Bool := decide (x.1 = y.1) && (decide (x.2 = y.2) && true)
section
variable {B : Nat} {S R : Ents} {Q : Value → Ents → Prop}
end
end Go.Proofs.C

namespace Go.Proofs.C
open Go.Lg
set_option maxRecDepth 100000

theorem hostOf_one {ls : List (List Nd)} {ss : List St} {user : Int} {n n' : Nd} {e e' : Int} (h : HostOf ls ss user n e) (h' : HostOf ls ss user n' e') : n = n' ∧ e = e' := by
 rcases h with ⟨h1, h2⟩ | ⟨h1, h2, h6⟩ <;> rcases h' with ⟨h3, h4⟩ | ⟨h3, h4, h8⟩
 ·rcases h2 with ⟨s, ly, a, b, c, d⟩ | ⟨a, b, d⟩ <;> rcases h4 with ⟨s', ly', a', b', c', d'⟩ | ⟨a', b', d'⟩
  ·rw [a] at a'; cases a'; rw [b] at b'; cases b'; exact ⟨rfl, by rw [d, d']⟩
  ·rw [a] at a'; cases a'
  ·rw [a] at a'; cases a'
  ·exact ⟨by rw [b, b'], by rw [d, d']⟩
 ·exact absurd h1 h3
 ·exact absurd h3 h1
 ·exact ⟨by rw [h2, h4], by rw [h6, h8]⟩
end Go.Proofs.C

namespace Go.Proofs.C
open Go.Lg
set_option maxRecDepth 100000

/-- The cells of texts. -/
def txt (l : List (List UInt8)) : List Value := l.map fun s => .string (str s)
section
variable {B : Nat} {S R : Ents} {Q : Value → Ents → Prop}
end
end Go.Proofs.C

namespace Go.Proofs.C
open Go.Lg
set_option maxRecDepth 100000

/-! What a way is, out of the tape. -/
def pick (s : List UInt8) (k : Nat) (ms : List (List Nd)) (i : Nat) : Nd := (ms.getD i []).getD (word s (k + 4 * i) * (ms.getD i []).length / 4294967296) (0, [])
def picks (s : List UInt8) (k : Nat) (ms : List (List Nd)) (n : Nat) : List Nd := (List.range n).map (pick s k ms)
/-- All nodes of a way. -/
def wayN (s : List UInt8) (k : Nat) (a b : Nd) (ms : List (List Nd)) : List Nd := a :: (picks s k ms ms.length ++ [b])
def waitW (s : List UInt8) (k : Nat) (mean most : Int) (nl j : Nat) : Nat := dl mean.toNat (word s (k + 4 * (nl + j))) most.toNat
def hopW (s : List UInt8) (k : Nat) (mean most : Int) (nl : Nat) (N : List Nd) (j : Nat) : Hop := ⟨1, (N.getD (j + 1) (0, [])).1, 0, (waitW s k mean most nl j : Nat), []⟩
def hopsW (s : List UInt8) (k : Nat) (mean most : Int) (nl : Nat) (N : List Nd) (n : Nat) : List Hop := (List.range n).map (hopW s k mean most nl N)
/-- Points, path, why not, and where the tape stands. -/
def wayR (s : List UInt8) (k : Nat) (a b : Nd) (ms : List (List Nd)) (h : Hop) (mean most : Int) : List (List UInt8) × List Hop × Int × Nat :=
 if ¬ mayP most [mean] then ([], [], 1, k) else if s.length - k < 4 * (2 * ms.length + 1) then ([], [], 120, k)
 else ((wayN s k a b ms).map (·.2), hopsW s k mean most ms.length (wayN s k a b ms) (ms.length + 1) ++ [h], 0, k + 4 * (2 * ms.length + 1))

theorem picks_snoc (s : List UInt8) (k : Nat) (ms : List (List Nd)) (n : Nat) : picks s k ms (n + 1) = picks s k ms n ++ [pick s k ms n] := by simp [picks, List.range_succ]
theorem picks_len (s : List UInt8) (k : Nat) (ms : List (List Nd)) (n : Nat) : (picks s k ms n).length = n := by simp [picks]
theorem wayN_len (s : List UInt8) (k : Nat) (a b : Nd) (ms : List (List Nd)) : (wayN s k a b ms).length = ms.length + 2 := by simp [wayN, picks_len]
theorem hopsW_snoc (s : List UInt8) (k : Nat) (mean most : Int) (nl : Nat) (N : List Nd) (n : Nat) : hopsW s k mean most nl N (n + 1) = hopsW s k mean most nl N n ++ [hopW s k mean most nl N n] := by simp [hopsW, List.range_succ]
theorem hopsW_len (s : List UInt8) (k : Nat) (mean most : Int) (nl : Nat) (N : List Nd) (n : Nat) : (hopsW s k mean most nl N n).length = n := by simp [hopsW]
theorem belowR_yes {s : List UInt8} {k n : Nat} (h : k + 4 ≤ s.length) (h1 : 1 ≤ n) (h2 : n ≤ 2147483647) : belowR s k n = (word s k * n / 4294967296, 0, k + 4) := by
 unfold belowR
 rw [if_neg (by omega), if_pos h]
 rfl
theorem pick_lt {s : List UInt8} {k n : Nat} (h : 0 < n) : word s k * n / 4294967296 < n := by
 have := be4_lt (s.drop k)
 rw [Nat.div_lt_iff_lt_mul (by decide), Nat.mul_comm]
 exact Nat.mul_lt_mul_of_pos_left this h
theorem txt_snoc (l : List (List UInt8)) (x : List UInt8) : txt (l ++ [x]) = txt l ++ [.string (str x)] := by simp [txt]
theorem nodup_le : ∀ (n : Nat) (l : List Int), l.Nodup → (∀ x ∈ l, 0 ≤ x ∧ x < n) → l.length ≤ n
 | 0, l, _, h => by
  cases l with
  | nil => simp
  | cons x l => have := h x (by simp); omega
 | n + 1, l, hd, h => by
  by_cases hn : (n : Int) ∈ l
  ·have := nodup_le n (l.erase n) (hd.erase _) fun x hx => by
    have h1 := (List.Nodup.mem_erase_iff hd).1 hx
    have h2 := h x h1.2
    have h3 := h1.1
    omega
   rw [List.length_erase_of_mem hn] at this
   omega
  ·have := nodup_le n l hd fun x hx => by
    have h2 := h x hx
    have h3 : x ≠ n := fun e => hn (e ▸ hx)
    omega
   omega
theorem layer_small {h0 : List Nd} {ms : List (List Nd)} {ss : List St} (hok : TownOk (h0 :: ms) ss) {l : List Nd} (hl : l ∈ ms) : 1 ≤ l.length ∧ l.length ≤ 32 := by
 refine ⟨?_, ?_⟩
 ·have := hok.1.2.2 l (List.mem_cons_of_mem _ hl)
  cases l with
  | nil => exact absurd rfl this
  | cons _ _ => simp
 ·obtain ⟨hb, hnd⟩ := nodesOk_iff.1 hok.2.1
  have hsub : l.Sublist (h0 :: ms).flatten := List.sublist_flatten_of_mem (List.mem_cons_of_mem _ hl)
  have hnd' : (l.map (·.1)).Nodup := hnd.sublist (hsub.map _)
  have := nodup_le 32 _ hnd' fun x hx => by
   obtain ⟨y, hy, rfl⟩ := List.mem_map.1 hx
   obtain ⟨h1, h2, _⟩ := hb y (hsub.subset hy)
   omega
  simpa using this
end Go.Proofs.C
