/- What functions of the given program do, one after the other, told by that layer. -/
import Derived.Test.YtlfhhkdjahcglaaGreatDoorKM6x511d
import Derived.Test.YtlfhhkdjahcglaaGreatDoorKM5xa471
namespace Go.Proofs.D
open Go.Lg Go.Sha Go.Hd Go.Cv
set_option maxRecDepth 100000
attribute [local irreducible] derive hmac stream chainR
/-- The cells of hops, by their secrets. -/
def hopsV (ss : List (List UInt8)) : List Value := ss.flatMap fun s => hopC s (keysOf s)
theorem hopsV_snoc (ss : List (List UInt8)) (s : List UInt8) : hopsV (ss ++ [s]) = hopsV ss ++ hopC s (keysOf s) := by simp [hopsV]
theorem strs_snoc (l : List (List UInt8)) (x : List UInt8) : strs (l ++ [x]) = strs l ++ [.string (str x)] := by simp [strs]
section
variable {B : Nat} {S R : Ents} {Q : Value → Ents → Prop}
set_option maxHeartbeats 2000000 in
theorem hopsC {seed : List UInt8} {ps : List (List UInt8)} {v : Value} (hks : KsIn S) (hr : Reads S 1 v ps.length (strs ps)) (hl : ps.length ≤ 65536) (hbad : (hopsGo [seed] ps).2 ≠ 0 → Q (.tuple #[.slice none 0 0, .int .i64 ((hopsGo [seed] ps).2 : Nat)]) S) (H : (hopsGo [seed] ps).2 = 0 → (hopsGo [seed] ps).1.length = ps.length → ∀ w es, Lg.Own B 252 6 w ps.length (hopsV (hopsGo [seed] ps).1) es → Q (.tuple #[w, .int .i64 0]) (es ++ S)) : CallWp Tryz.prog B 177 #[.string (str seed), v] Q S := by
  obtain ⟨va, vc, rfl⟩ := hr.form
  refine CallWp.dropRet ?_
  refine CallWp.enter (args := [_, _]) Tryz.func177 rfl Tryz.ntmps177 rfl ?_
  refine Wp.seq (Wp.region ?_)
  refine OWp.evs 2 rfl ?_
  refine OWp.nil ?_
  refine Wp.seq (Wp.region ?_)
  refine OWp.evs 1 rfl ?_
  refine OWp.step rfl (Step.buildSlice rfl rfl rfl ?_); intro L hBL hLL
  refine OWp.evs 1 rfl ?_
  refine OWp.nil ?_
  refine Wp.seq (Wp.region ?_)
  refine OWp.evs 1 rfl ?_
  refine OWp.nil ?_
  refine Wp.seq ?_
  refine Wp.seq (Wp.region ?_)
  refine OWp.evs 3 rfl ?_
  refine OWp.nil ?_
  refine Wp.block ?_
  refine Wp.loopS (α := Nat × List (List UInt8) × Value × Ents × Value × Ents) (fun z => ps.length - z.1) (fun z => [(6, z.2.2.1), (7, z.2.2.2.2.1), (15, .slice va ps.length vc), (16, .int .i64 (ps.length : Int)), (17, .int .i64 (z.1 : Int))]) (fun z => z.2.2.2.2.2 ++ (z.2.2.2.1 ++ S)) (fun z => z.1 ≤ ps.length ∧ z.2.1.length = z.1 ∧ Lg.Own B 9 1 z.2.2.1 (z.1 + 1) (strs (scal seed z.2.1)) z.2.2.2.1 ∧ Lg.Own B 252 6 z.2.2.2.2.1 z.1 (hopsV z.2.1) z.2.2.2.2.2 ∧ hopsFin z.2.1 (hopsGo (scal seed z.2.1) (ps.drop z.1)) = hopsGo [seed] ps) (0, [], .slice (some ⟨L, 0, none⟩) 1 1, [(L, cel [.string (str seed)] 9)], .slice none 0 0, []) ?_ (.refl _) ⟨Nat.zero_le _, rfl, Own.row (k := 1) (sz := 1) hBL rfl (by decide), Own.nil _ _ _, hopsFin_nil _ (hopsGo_err _ _)⟩ ?_
  · exact .cons rfl (.cons rfl (.cons rfl (.cons rfl (.cons rfl (.nil _)))))
  rintro ⟨i, ss, v1, e1, v2, e2⟩ ⟨hi, hss, ho1, ho2, hf⟩
  simp only at hi hss ho1 ho2 hf ⊢
  obtain ⟨a1, c1, rfl⟩ := ho1.reads.form
  obtain ⟨a2, c2, rfl⟩ := ho2.reads.form
  have hbl : (scal seed ss).length = i + 1 := by simp [scal, hss]
  refine Wp.seq (Wp.region ?_)
  refine OWp.evs 1 rfl ?_
  refine OWp.nil ?_
  refine Wp.seq ?_
  refine Wp.cond rfl (fun h1 => ?_) (fun h1 => ?_)
  · have h1 := of_decide_eq_true h1
    have hi1 : i < ps.length := by omega
    obtain ⟨b3, o3, c3, l3, t3, f3, hv3, hm3, _, hg3⟩ := hr.get1 (by omega)
    cases hv3
    have hgi : l3[o3 + i * 1]? = some (.string (str ps[i])) := by rw [hg3 i hi1]; exact strs_at hi1
    refine Wp.skip ?_
    refine Wp.seq ?_
    refine Wp.block ?_
    refine Wp.seq (Wp.region ?_)
    refine OWp.g rfl rfl (Gives.indexAddrSlice (i) rfl rfl rfl rfl rfl rfl (by omega)) ?_
    refine OWp.load (List.mem_append_right _ (List.mem_append_right _ hm3)) rfl rfl rfl rfl hgi ?_
    refine OWp.evs 1 rfl ?_
    refine OWp.nil ?_
    refine Wp.seq (Wp.region ?_)
    refine OWp.evs 2 rfl ?_
    refine OWp.step rfl (Step.call rfl rfl rfl rfl rfl rfl ((chainC (u := ps[i]) (ks := scal seed ss) (by rw [hbl]; exact ho1.reads.mono fun x hx => List.mem_append_right _ (List.mem_append_left _ hx)) (by omega) ?_)))
    refine OWp.evs 5 rfl ?_
    refine OWp.nil ?_
    refine Wp.seq ?_
    refine Wp.seq (Wp.region ?_)
    refine OWp.evs 2 rfl ?_
    refine OWp.nil ?_
    refine Wp.cond rfl (fun h2 => ?_) (fun h2 => ?_)
    · have h2 := ndT h2
      have h3 := hopsFin_bad (seed := seed) (ss := ss) hi1 (by omega)
      rw [hf] at h3
      refine Wp.seq (Wp.region ?_)
      refine OWp.evs 3 rfl ?_
      refine OWp.nil ?_
      refine Wp.ret ⟨trivial, _, ⟨_, _, rfl, rfl, _, _, rfl, rfl, rfl⟩, ?_⟩
      refine ⟨S, (List.sublist_append_right _ _).trans (List.sublist_append_right _ _), ?_⟩
      rw [h3] at hbad
      exact hbad (by simp only; omega)
    have h2 := ndF h2
    have h2' : (chainR ps[i] (scal seed ss)).2 = 0 := by omega
    have h3 := hopsFin_good (seed := seed) (ss := ss) hi1 h2'
    rw [hf] at h3
    have hcl := chainR_len h2'
    generalize hc : (chainR ps[i] (scal seed ss)).1 = c at *
    refine Wp.skip ?_
    refine Wp.seq (Wp.region ?_)
    refine OWp.evs 1 rfl ?_
    refine OWp.step rfl (Step.call rfl rfl rfl rfl rfl rfl ((madeC (hks.append.append) (by rw [hcl]; decide) ?_)))
    refine OWp.step rfl (Step.alloc rfl rfl rfl ?_); intro L12 hBL12 hLL12
    refine OWp.step rfl (Step.storeAs 0 (hopC c (keysOf c)) rfl rfl rfl rfl rfl (by assumption) rfl (Unfz.zero _) rfl (Nat.le_of_ble_eq_true rfl) rfl rfl ?_)
    refine OWp.nil ?_
    refine Wp.regionDraw [0, 1, 4, 5, 6, 7, 12, 12, 12, 12, 12, 12] [2, 3, 8, 9] rfl (by decide +kernel) ?_
    refine DWp.evs 1 rfl ?_
    refine DWp.load (.head _) rfl rfl rfl rfl rfl rfl rfl ?_
    refine DWp.evs 3 rfl ?_
    refine DWp.load (.head _) rfl rfl rfl rfl rfl rfl rfl ?_
    refine DWp.forkTo [2, 8] (by decide +kernel) (by simp) ?_
    intro xx hxx
    simp only [List.mem_cons, List.mem_nil_iff, or_false] at hxx
    rcases hxx with rfl | rfl
    · refine ⟨_, [12, 12, 12, 12, 12], rfl, rfl, by decide +kernel, rfl, ?_⟩
      refine (Step.buildSlice rfl rfl rfl ?_); intro Lp hBLp hLLp
      refine prs ?_
      refine DWp.forkTo [3, 8] (by decide +kernel) (by simp) ?_
      intro xx hxx
      simp only [List.mem_cons, List.mem_nil_iff, or_false] at hxx
      rcases hxx with rfl | rfl
      · refine ⟨_, [8, 9, 10, 11], rfl, rfl, by decide +kernel, rfl, ?_⟩
        refine (Step.permS (show List.Perm ((Lp, cel (hopC c (keysOf c)) 252) :: ((L12, cel (hopC c (keysOf c)) 252) :: (e2 ++ (e1 ++ (S))))) (e2 ++ ((Lp, cel (hopC c (keysOf c)) 252) :: ((L12, cel (hopC c (keysOf c)) 252) :: (e1 ++ (S))))) from permBy [[(Lp, cel (hopC c (keysOf c)) 252)], [(L12, cel (hopC c (keysOf c)) 252)], e2, e1] (S) [0, 1, 2, 3] [2, 0, 1, 3] (by decide)) (Step.appendAt [] rfl rfl rfl rfl rfl rfl (by decide) rfl rfl ho2 (Reads.row (k := 1) (sz := 6) (List.mem_append_right [] (List.mem_append_right _ (.head _))) (Nat.le_of_ble_eq_true rfl)) rfl (by show (_ + 1) * 96 ≤ _; omega) (by unfold maxLen; omega) ?_))
        intro v22 e22 ho22 _
        refine prs ?_
        refine DWp.step rfl rfl rfl (Step.buildSlice rfl rfl rfl ?_); intro Lq hBLq hLLq
        refine prs ?_
        refine DWp.step rfl rfl rfl (Step.permS (show List.Perm ((Lq, cel [.string (str (keysOf c).blind)] 9) :: (e22 ++ ((Lp, cel (hopC c (keysOf c)) 252) :: ((L12, cel (hopC c (keysOf c)) 252) :: (e1 ++ (S)))))) (e1 ++ ((Lq, cel [.string (str (keysOf c).blind)] 9) :: (e22 ++ ((Lp, cel (hopC c (keysOf c)) 252) :: ((L12, cel (hopC c (keysOf c)) 252) :: (S)))))) from permBy [[(Lq, cel [.string (str (keysOf c).blind)] 9)], e22, [(Lp, cel (hopC c (keysOf c)) 252)], [(L12, cel (hopC c (keysOf c)) 252)], e1] (S) [0, 1, 2, 3, 4] [4, 0, 1, 2, 3] (by decide)) (Step.appendAt [] rfl rfl rfl rfl rfl rfl (by decide) rfl rfl ho1 (Reads.row (k := 1) (sz := 1) (List.mem_append_right [] (List.mem_append_right _ (.head _))) (Nat.le_of_ble_eq_true rfl)) rfl (by show (_ + 1) * 16 ≤ _; omega) (by unfold maxLen; omega) ?_))
        intro v12 e12 ho12 _
        refine prs ?_
        refine DWp.evs 2 rfl ?_
        refine DWp.nil ?_
        show Wp _ _ _ _ _ _ _
        refine Wp.permS (show List.Perm (e12 ++ ((Lq, cel [.string (str (keysOf c).blind)] 9) :: (e22 ++ ((Lp, cel (hopC c (keysOf c)) 252) :: ((L12, cel (hopC c (keysOf c)) 252) :: (S)))))) (e22 ++ (e12 ++ ((L12, cel (hopC c (keysOf c)) 252) :: ((Lp, cel (hopC c (keysOf c)) 252) :: ((Lq, cel [.string (str (keysOf c).blind)] 9) :: (S)))))) from permBy [e12, [(Lq, cel [.string (str (keysOf c).blind)] 9)], e22, [(Lp, cel (hopC c (keysOf c)) 252)], [(L12, cel (hopC c (keysOf c)) 252)]] (S) [0, 1, 2, 3, 4] [2, 0, 4, 3, 1] (by decide)) (Wp.drop (S' := e22 ++ (e12 ++ S)) ((List.Sublist.refl _).append ((List.Sublist.refl _).append subl)) ?_)
        refine Wp.region ?_
        refine OWp.evs 2 rfl ?_
        refine OWp.nil ?_
        exact ⟨(i + 1, ss ++ [c], v12, e12, v22, e22), by simp only; omega, ⟨by simp only; omega, by simp [hss], by rw [← scal_snoc, strs_snoc]; exact ho12, by rw [hopsV_snoc]; exact ho22, h3.symm⟩, .cons rfl (.cons rfl (.cons rfl (.cons rfl (.cons' rfl (int_eq (i64_inc (by omega))) (.nil _))))), .refl _⟩
      · refine ⟨_, [3, 9, 10, 11], rfl, rfl, by decide +kernel, rfl, ?_⟩
        refine (Step.buildSlice rfl rfl rfl ?_); intro Lq hBLq hLLq
        refine prs ?_
        refine DWp.step rfl rfl rfl (Step.permS (show List.Perm ((Lq, cel [.string (str (keysOf c).blind)] 9) :: ((Lp, cel (hopC c (keysOf c)) 252) :: ((L12, cel (hopC c (keysOf c)) 252) :: (e2 ++ (e1 ++ (S)))))) (e2 ++ ((Lp, cel (hopC c (keysOf c)) 252) :: ((Lq, cel [.string (str (keysOf c).blind)] 9) :: ((L12, cel (hopC c (keysOf c)) 252) :: (e1 ++ (S)))))) from permBy [[(Lq, cel [.string (str (keysOf c).blind)] 9)], [(Lp, cel (hopC c (keysOf c)) 252)], [(L12, cel (hopC c (keysOf c)) 252)], e2, e1] (S) [0, 1, 2, 3, 4] [3, 1, 0, 2, 4] (by decide)) (Step.appendAt [] rfl rfl rfl rfl rfl rfl (by decide) rfl rfl ho2 (Reads.row (k := 1) (sz := 6) (List.mem_append_right [] (List.mem_append_right _ (.head _))) (Nat.le_of_ble_eq_true rfl)) rfl (by show (_ + 1) * 96 ≤ _; omega) (by unfold maxLen; omega) ?_))
        intro v22 e22 ho22 _
        refine prs ?_
        refine DWp.step rfl rfl rfl (Step.permS (show List.Perm (e22 ++ ((Lp, cel (hopC c (keysOf c)) 252) :: ((Lq, cel [.string (str (keysOf c).blind)] 9) :: ((L12, cel (hopC c (keysOf c)) 252) :: (e1 ++ (S)))))) (e1 ++ ((Lq, cel [.string (str (keysOf c).blind)] 9) :: (e22 ++ ((Lp, cel (hopC c (keysOf c)) 252) :: ((L12, cel (hopC c (keysOf c)) 252) :: (S)))))) from permBy [e22, [(Lp, cel (hopC c (keysOf c)) 252)], [(Lq, cel [.string (str (keysOf c).blind)] 9)], [(L12, cel (hopC c (keysOf c)) 252)], e1] (S) [0, 1, 2, 3, 4] [4, 2, 0, 1, 3] (by decide)) (Step.appendAt [] rfl rfl rfl rfl rfl rfl (by decide) rfl rfl ho1 (Reads.row (k := 1) (sz := 1) (List.mem_append_right [] (List.mem_append_right _ (.head _))) (Nat.le_of_ble_eq_true rfl)) rfl (by show (_ + 1) * 16 ≤ _; omega) (by unfold maxLen; omega) ?_))
        intro v12 e12 ho12 _
        refine prs ?_
        refine DWp.evs 2 rfl ?_
        refine DWp.nil ?_
        show Wp _ _ _ _ _ _ _
        refine Wp.permS (show List.Perm (e12 ++ ((Lq, cel [.string (str (keysOf c).blind)] 9) :: (e22 ++ ((Lp, cel (hopC c (keysOf c)) 252) :: ((L12, cel (hopC c (keysOf c)) 252) :: (S)))))) (e22 ++ (e12 ++ ((L12, cel (hopC c (keysOf c)) 252) :: ((Lp, cel (hopC c (keysOf c)) 252) :: ((Lq, cel [.string (str (keysOf c).blind)] 9) :: (S)))))) from permBy [e12, [(Lq, cel [.string (str (keysOf c).blind)] 9)], e22, [(Lp, cel (hopC c (keysOf c)) 252)], [(L12, cel (hopC c (keysOf c)) 252)]] (S) [0, 1, 2, 3, 4] [2, 0, 4, 3, 1] (by decide)) (Wp.drop (S' := e22 ++ (e12 ++ S)) ((List.Sublist.refl _).append ((List.Sublist.refl _).append subl)) ?_)
        refine Wp.region ?_
        refine OWp.evs 2 rfl ?_
        refine OWp.nil ?_
        exact ⟨(i + 1, ss ++ [c], v12, e12, v22, e22), by simp only; omega, ⟨by simp only; omega, by simp [hss], by rw [← scal_snoc, strs_snoc]; exact ho12, by rw [hopsV_snoc]; exact ho22, h3.symm⟩, .cons rfl (.cons rfl (.cons rfl (.cons rfl (.cons' rfl (int_eq (i64_inc (by omega))) (.nil _))))), .refl _⟩
    · refine ⟨_, [2, 3, 9, 10, 11], rfl, rfl, by decide +kernel, rfl, ?_⟩
      refine (Step.buildSlice rfl rfl rfl ?_); intro Lq hBLq hLLq
      refine prs ?_
      refine DWp.step rfl rfl rfl (Step.buildSlice rfl rfl rfl ?_); intro Lp hBLp hLLp
      refine prs ?_
      refine DWp.step rfl rfl rfl (Step.permS (show List.Perm ((Lp, cel (hopC c (keysOf c)) 252) :: ((Lq, cel [.string (str (keysOf c).blind)] 9) :: ((L12, cel (hopC c (keysOf c)) 252) :: (e2 ++ (e1 ++ (S)))))) (e2 ++ ((Lp, cel (hopC c (keysOf c)) 252) :: ((Lq, cel [.string (str (keysOf c).blind)] 9) :: ((L12, cel (hopC c (keysOf c)) 252) :: (e1 ++ (S)))))) from permBy [[(Lp, cel (hopC c (keysOf c)) 252)], [(Lq, cel [.string (str (keysOf c).blind)] 9)], [(L12, cel (hopC c (keysOf c)) 252)], e2, e1] (S) [0, 1, 2, 3, 4] [3, 0, 1, 2, 4] (by decide)) (Step.appendAt [] rfl rfl rfl rfl rfl rfl (by decide) rfl rfl ho2 (Reads.row (k := 1) (sz := 6) (List.mem_append_right [] (List.mem_append_right _ (.head _))) (Nat.le_of_ble_eq_true rfl)) rfl (by show (_ + 1) * 96 ≤ _; omega) (by unfold maxLen; omega) ?_))
      intro v22 e22 ho22 _
      refine prs ?_
      refine DWp.step rfl rfl rfl (Step.permS (show List.Perm (e22 ++ ((Lp, cel (hopC c (keysOf c)) 252) :: ((Lq, cel [.string (str (keysOf c).blind)] 9) :: ((L12, cel (hopC c (keysOf c)) 252) :: (e1 ++ (S)))))) (e1 ++ ((Lq, cel [.string (str (keysOf c).blind)] 9) :: (e22 ++ ((Lp, cel (hopC c (keysOf c)) 252) :: ((L12, cel (hopC c (keysOf c)) 252) :: (S)))))) from permBy [e22, [(Lp, cel (hopC c (keysOf c)) 252)], [(Lq, cel [.string (str (keysOf c).blind)] 9)], [(L12, cel (hopC c (keysOf c)) 252)], e1] (S) [0, 1, 2, 3, 4] [4, 2, 0, 1, 3] (by decide)) (Step.appendAt [] rfl rfl rfl rfl rfl rfl (by decide) rfl rfl ho1 (Reads.row (k := 1) (sz := 1) (List.mem_append_right [] (List.mem_append_right _ (.head _))) (Nat.le_of_ble_eq_true rfl)) rfl (by show (_ + 1) * 16 ≤ _; omega) (by unfold maxLen; omega) ?_))
      intro v12 e12 ho12 _
      refine prs ?_
      refine DWp.evs 2 rfl ?_
      refine DWp.nil ?_
      show Wp _ _ _ _ _ _ _
      refine Wp.permS (show List.Perm (e12 ++ ((Lq, cel [.string (str (keysOf c).blind)] 9) :: (e22 ++ ((Lp, cel (hopC c (keysOf c)) 252) :: ((L12, cel (hopC c (keysOf c)) 252) :: (S)))))) (e22 ++ (e12 ++ ((L12, cel (hopC c (keysOf c)) 252) :: ((Lp, cel (hopC c (keysOf c)) 252) :: ((Lq, cel [.string (str (keysOf c).blind)] 9) :: (S)))))) from permBy [e12, [(Lq, cel [.string (str (keysOf c).blind)] 9)], e22, [(Lp, cel (hopC c (keysOf c)) 252)], [(L12, cel (hopC c (keysOf c)) 252)]] (S) [0, 1, 2, 3, 4] [2, 0, 4, 3, 1] (by decide)) (Wp.drop (S' := e22 ++ (e12 ++ S)) ((List.Sublist.refl _).append ((List.Sublist.refl _).append subl)) ?_)
      refine Wp.region ?_
      refine OWp.evs 2 rfl ?_
      refine OWp.nil ?_
      exact ⟨(i + 1, ss ++ [c], v12, e12, v22, e22), by simp only; omega, ⟨by simp only; omega, by simp [hss], by rw [← scal_snoc, strs_snoc]; exact ho12, by rw [hopsV_snoc]; exact ho22, h3.symm⟩, .cons rfl (.cons rfl (.cons rfl (.cons rfl (.cons' rfl (int_eq (i64_inc (by omega))) (.nil _))))), .refl _⟩
  have h1 := of_decide_eq_false h1
  obtain rfl : i = ps.length := by omega
  rw [List.drop_length] at hf
  have hf2 : hopsGo [seed] ps = (ss, 0) := by rw [← hf]; simp [hopsFin, hopsGo]
  rw [hf2] at H
  refine Wp.exit ?_
  refine Wp.seq (Wp.region ?_)
  refine OWp.evs 3 rfl ?_
  refine OWp.nil ?_
  refine Wp.ret ⟨trivial, _, ⟨_, _, rfl, rfl, _, _, rfl, rfl, rfl⟩, ?_⟩
  exact ⟨_, (List.Sublist.refl _).append (List.sublist_append_right _ _), H rfl hss _ _ ho2⟩
end
end Go.Proofs.D

namespace Go.Proofs.D
open Go.Lg Go.Sha Go.Hd Go.Cv
open Go.Proofs.C (Hop hopP pathE encB)
set_option maxRecDepth 100000
/-- A header and its keys, or why there is none. -/
def makeR (seed : List UInt8) (ps : List (List UInt8)) (path : List Hop) : List UInt8 × List HK × Int :=
  if pathE path ≠ 0 then ([], [], pathE path)
  else if ps.length ≠ path.length then ([], [], 4)
  else if ¬ ∀ s ∈ seed :: ps, s.length = 32 then ([], [], 3)
  else if (hopsGo [seed] ps).2 ≠ 0 then ([], [], ((hopsGo [seed] ps).2 : Nat))
  else (headR seed ((hopsGo [seed] ps).1.map keysOf) (path.map encB), (hopsGo [seed] ps).1.map keysOf, 0)
def keysV (ks : List HK) : List Value := ks.flatMap HK.cells
theorem keysV_snoc (ks : List HK) (k : HK) : keysV (ks ++ [k]) = keysV ks ++ k.cells := by simp [keysV]
theorem hopC_flat (ss : List (List UInt8)) : ∀ s ∈ ss, (hopC s (keysOf s)).length = 6 := fun _ _ => rfl
theorem encB_good {x : Hop} (h : hopP x) : (encB x).length = 24 := by
  unfold encB
  rw [if_pos h]
  exact C.hopB_len h
theorem pathE_ok {l : List Hop} (h : pathE l = 0) : (∀ x ∈ l, hopP x) ∧ 0 < l.length ∧ l.length ≤ 5 := by
  unfold pathE at h
  split at h
  · rename_i h1
    split at h
    · rename_i h2
      exact ⟨h1, ((C.shape_iff l).1 h2.1).1, h2.2⟩
    · cases h
  · cases h
attribute [local irreducible] derive hmac stream chainR
theorem own_cap {B : Nat} {e : TypeId} {sz : Nat} {x : Value} {k : Nat} {xs : List Value} {es : Ents} {a : Option Addr} {n c : Nat} (h : Lg.Own B e sz x k xs es) (hx : x = .slice a n c) : n ≤ c := by
  obtain ⟨_, ⟨h1, h2, _⟩ | h1⟩ := h
  · rw [h1] at hx; cases hx; omega
  · obtain ⟨b, cap, cur, h1, _, _, h2, _⟩ := h1
    rw [h1] at hx; cases hx; exact h2
section
variable {B : Nat} {S R : Ents} {Q : Value → Ents → Prop}
theorem hflowIntC {s : List UInt8} {k : HK} {text : List UInt8} {a : Nat} {z : Int} (hz : z = (a : Int)) (hk : k.flow.length = 32) (hl : text.length + a ≤ 240) (H : Q (.string (str (flowX k text a))) S) : CallWp Tryz.prog B 132 #[.agg (hopC s k).toArray, .string (str text), .int .i64 z] Q S := by
  subst hz; exact hflowC hk hl H
set_option maxHeartbeats 4000000 in
theorem makeC {seed : List UInt8} {ps : List (List UInt8)} {path : List Hop} {v w : Value} (hks : KsIn S) (hr : Reads S 1 v ps.length (strs ps)) (_hlw : ps.length ≤ 10000000000000) (hr2 : Reads S 5 w path.length (path.flatMap Hop.cells)) (hlw2 : path.length ≤ 2932031007320) (hbad : (makeR seed ps path).2.2 ≠ 0 → Q (.tuple #[.string (str []), .slice none 0 0, .int .i64 (makeR seed ps path).2.2]) S) (H : (makeR seed ps path).2.2 = 0 → ∀ z es, Lg.Own B 203 5 z path.length (keysV (makeR seed ps path).2.1) es → Q (.tuple #[.string (str (makeR seed ps path).1), z, .int .i64 0]) (es ++ S)) : CallWp Tryz.prog B 142 #[.string (str seed), v, w] Q S := by
  obtain ⟨va, vc, rfl⟩ := hr.form
  obtain ⟨pa, pc, rfl⟩ := hr2.form
  refine CallWp.dropRet ?_
  refine CallWp.enter (args := [_, _, _]) Tryz.func142 rfl Tryz.ntmps142 rfl ?_
  refine Wp.seq (Wp.region ?_)
  refine OWp.evs 3 rfl ?_
  refine OWp.nil ?_
  refine Wp.seq ?_
  refine Wp.seq (Wp.region ?_)
  refine OWp.evs 1 rfl ?_
  refine OWp.step rfl (Step.call rfl rfl rfl rfl rfl rfl ((C.pathC hr2 rfl (by unfold C.lim; omega) ?_)))
  refine OWp.evs 1 rfl ?_
  refine OWp.nil ?_
  refine Wp.seq (Wp.region ?_)
  refine OWp.evs 2 rfl ?_
  refine OWp.nil ?_
  refine Wp.cond rfl (fun h1 => ?_) (fun h1 => ?_)
  · have h1 := ndT h1
    have hE : makeR seed ps path = ([], [], pathE path) := by unfold makeR; rw [if_pos h1]
    rw [hE] at hbad
    refine Wp.seq (Wp.region ?_)
    refine OWp.evs 4 rfl ?_
    refine OWp.nil ?_
    refine Wp.ret ⟨trivial, _, ⟨_, _, rfl, rfl, _, _, rfl, rfl, _, _, rfl, rfl, rfl⟩, ?_⟩
    exact ⟨S, .refl _, hbad h1⟩
  have h1 := ndF h1
  have h1' : pathE path = 0 := by omega
  refine Wp.skip ?_
  refine Wp.seq ?_
  refine Wp.seq (Wp.region ?_)
  refine OWp.evs 5 rfl ?_
  refine OWp.nil ?_
  refine Wp.cond rfl (fun h2 => ?_) (fun h2 => ?_)
  · have h2 := ndT h2
    have hE : makeR seed ps path = ([], [], 4) := by unfold makeR; rw [if_neg (fun h => h h1), if_pos (by omega)]
    rw [hE] at hbad
    refine Wp.seq (Wp.region ?_)
    refine OWp.evs 3 rfl ?_
    refine OWp.nil ?_
    refine Wp.ret ⟨trivial, _, ⟨_, _, rfl, rfl, _, _, rfl, rfl, _, _, rfl, rfl, rfl⟩, ?_⟩
    exact ⟨S, .refl _, hbad (by decide)⟩
  have h2 := ndF h2
  have h2' : ps.length = path.length := by omega
  obtain ⟨hgood, hpos, hmost⟩ := pathE_ok h1'
  have hl : ps.length ≤ 65536 := by omega
  have hl2 : path.length ≤ 65536 := by omega
  refine Wp.skip ?_
  refine Wp.seq ?_
  refine Wp.seq (Wp.region ?_)
  refine OWp.evs 1 rfl ?_
  refine OWp.step rfl (Step.buildSlice rfl rfl rfl ?_); intro L hBL hLL
  refine OWp.evs 1 rfl ?_
  refine OWp.step rfl (Step.appendAt (es := [(L, cel [.string (str seed)] 9)]) [] rfl rfl rfl rfl rfl rfl (by decide) rfl rfl (Own.row (k := 1) hBL rfl (by decide)) (hr.mono fun x hx => List.mem_append_right _ (.tail _ hx)) (strs_one ps) (by show (1 + _) * 16 ≤ _; omega) (by unfold maxLen; omega) ?_)
  intro v1 e1 ho1 _
  have hr1 : Reads e1 1 v1 (seed :: ps).length (strs (seed :: ps)) := by rw [List.length_cons, Nat.add_comm]; exact ho1.reads
  obtain ⟨wa, wc, rfl⟩ := hr1.form
  have hlc : (seed :: ps).length = ps.length + 1 := rfl
  refine OWp.evs 2 rfl ?_
  refine OWp.nil ?_
  refine Wp.block ?_
  refine Wp.loopS (α := Nat) (fun i => (seed :: ps).length - i) (fun i => [(0, .string (str seed)), (1, .slice va ps.length vc), (2, .slice pa path.length pc), (7, .slice none 0 0), (39, .slice wa (seed :: ps).length wc), (40, .int .i64 ((seed :: ps).length : Int)), (41, .int .i64 (i : Int))]) (fun _ => e1 ++ S) (fun i => i ≤ (seed :: ps).length ∧ ∀ s ∈ (seed :: ps).take i, s.length = 32) 0 ?_ (.refl _) ⟨Nat.zero_le _, by simp⟩ ?_
  · exact .cons rfl (.cons rfl (.cons rfl (.cons rfl (.cons rfl (.cons rfl (.cons rfl (.nil _)))))))
  rintro i ⟨hi, hall⟩
  refine Wp.seq (Wp.region ?_)
  refine OWp.evs 1 rfl ?_
  refine OWp.nil ?_
  refine Wp.seq ?_
  refine Wp.cond rfl (fun h3 => ?_) (fun h3 => ?_)
  · have h3 := of_decide_eq_true h3
    have hi1 : i < (seed :: ps).length := by omega
    obtain ⟨b2, o2, c2, l2, t2, f2, hv2, hm2, _, hg2⟩ := hr1.get1 (by omega)
    cases hv2
    have hgi : l2[o2 + i * 1]? = some (.string (str (seed :: ps)[i])) := by rw [hg2 i hi1]; exact strs_at hi1
    refine Wp.skip ?_
    refine Wp.seq ?_
    refine Wp.block ?_
    refine Wp.seq (Wp.region ?_)
    refine OWp.g rfl rfl (Gives.indexAddrSlice (i) rfl rfl rfl rfl rfl rfl (by omega)) ?_
    refine OWp.load (List.mem_append_left _ hm2) rfl rfl rfl rfl hgi ?_
    refine OWp.evs 1 rfl ?_
    refine OWp.nil ?_
    refine Wp.seq (Wp.region ?_)
    refine OWp.evs 3 rfl ?_
    refine OWp.nil ?_
    refine Wp.cond rfl (fun h4 => ?_) (fun h4 => ?_)
    · have h4 := ndT h4
      have hno : ¬ ∀ s ∈ seed :: ps, s.length = 32 := fun h => h4 (by have := h _ (List.getElem_mem hi1); omega)
      have hE : makeR seed ps path = ([], [], 3) := by unfold makeR; rw [if_neg (fun h => h h1), if_neg (by omega), if_pos hno]
      rw [hE] at hbad
      refine Wp.seq (Wp.region ?_)
      refine OWp.evs 3 rfl ?_
      refine OWp.nil ?_
      refine Wp.ret ⟨trivial, _, ⟨_, _, rfl, rfl, _, _, rfl, rfl, _, _, rfl, rfl, rfl⟩, ?_⟩
      exact ⟨S, List.sublist_append_right _ _, hbad (by decide)⟩
    have h4 := ndF h4
    refine Wp.skip ?_
    refine Wp.region ?_
    refine OWp.evs 2 rfl ?_
    refine OWp.nil ?_
    refine ⟨i + 1, by omega, ⟨by omega, ?_⟩, .cons rfl (.cons rfl (.cons rfl (.cons rfl (.cons rfl (.cons rfl (.cons' rfl (int_eq (by rw [i64_id] <;> omega)) (.nil _))))))), .refl _⟩
    intro s hs
    rw [List.take_succ_eq_append_getElem hi1] at hs
    rcases List.mem_append.1 hs with hs | hs
    · exact hall s hs
    · rw [List.mem_singleton.1 hs]; omega
  have h3 := of_decide_eq_false h3
  obtain rfl : i = (seed :: ps).length := by omega
  rw [List.take_length] at hall
  refine Wp.exit ?_
  refine Wp.drop (List.sublist_append_right _ _) ?_
  refine Wp.seq (Wp.region ?_)
  refine OWp.evs 2 rfl ?_
  refine OWp.step rfl (Step.call rfl rfl rfl rfl rfl rfl ((hopsC hks hr hl ?_ ?_)))
  intro he
  · skip
    refine OWp.evs 5 rfl ?_
    refine OWp.nil ?_
    refine Wp.seq ?_
    refine Wp.seq (Wp.region ?_)
    refine OWp.evs 2 rfl ?_
    refine OWp.nil ?_
    refine Wp.cond rfl (fun cc1 => ?_) (fun cc1 => absurd (ndF cc1) (by omega))
    have cc1 := ndT cc1
    refine Wp.seq (Wp.region ?_)
    refine OWp.evs 4 rfl ?_
    refine OWp.nil ?_
    refine Wp.ret ⟨trivial, _, ⟨_, _, rfl, rfl, _, _, rfl, rfl, _, _, rfl, rfl, rfl⟩, ?_⟩
    have hE : makeR seed ps path = ([], [], (((hopsGo [seed] ps).2 : Nat) : Int)) := by unfold makeR; rw [if_neg (fun h => h h1), if_neg (by omega), if_neg (by simpa using hall), if_pos he]
    rw [hE] at hbad
    exact ⟨S, .refl _, hbad (by simp only; omega)⟩
  intro he hlen zv es how
  have hE : makeR seed ps path = (headR seed ((hopsGo [seed] ps).1.map keysOf) (path.map encB), (hopsGo [seed] ps).1.map keysOf, 0) := by unfold makeR; rw [if_neg (fun h => h h1), if_neg (by omega), if_neg (by simpa using hall), if_neg (by omega)]
  rw [hE] at H
  clear hbad hE
  generalize hss : (hopsGo [seed] ps).1 = ss at *
  refine OWp.evs 5 rfl ?_
  refine OWp.nil ?_
  refine Wp.seq ?_
  refine Wp.seq (Wp.region ?_)
  refine OWp.evs 2 rfl ?_
  refine OWp.nil ?_
  refine Wp.cond rfl (fun c => nomatch c) (fun _ => ?_)
  obtain ⟨hs0, hs32⟩ : ss.length = ps.length ∧ ∀ s ∈ ss, s.length = 32 := by rw [← hss]; exact hopsGo_len _ _ he
  have hn0 : 0 < ss.length := by omega
  have hn5 : ss.length ≤ 5 := by omega
  rw [← hs0] at how
  obtain ⟨hb, ho, hcap, hll, ht, hfz, hzv, hhm, hhat⟩ := Reads.elem how.reads (hopC_flat ss) hn0
  subst hzv
  have hcapl : ss.length ≤ hcap := own_cap how rfl
  obtain ⟨ks, hks2⟩ : ∃ ks, ks = ss.map keysOf := ⟨_, rfl⟩
  rw [← hks2] at H
  have hkl : ks.length = ss.length := by rw [hks2, List.length_map]
  have hkg : ∀ i (h : i < ss.length) (h2 : i < ks.length), ks[i] = keysOf ss[i] := fun i h h2 => by subst hks2; simp
  have hk32 : ∀ k ∈ ks, k.flow.length = 32 ∧ k.mac.length = 32 := fun k hk => by rw [hks2] at hk; obtain ⟨s, _, rfl⟩ := List.mem_map.1 hk; exact ⟨(keysOf_lens s).1, (keysOf_lens s).2.1⟩
  refine Wp.skip ?_
  refine Wp.seq (Wp.region ?_)
  refine OWp.evs 1 rfl ?_
  refine OWp.nil ?_
  refine Wp.seq ?_
  refine Wp.seq (Wp.region ?_)
  refine OWp.evs 4 rfl ?_
  refine OWp.g rfl rfl (Gives.sliceSlice (l := 0) (h' := ss.length - 1) rfl rfl rfl rfl rfl ⟨_, _, rfl, (by rw [i64_id] <;> omega)⟩ (by omega) (by omega) (by omega)) ?_
  rw [Nat.sub_zero]
  refine OWp.evs 2 rfl ?_
  refine OWp.nil ?_
  refine Wp.block ?_
  refine Wp.loopS (α := Nat) (fun i => ss.length - 1 - i) (fun i => [(0, .string (str seed)), (2, .slice pa path.length pc), (7, .slice none 0 0), (12, .slice (some ⟨hb, ho, none⟩) ss.length hcap), (13, .string (str (fillGo [] (ks.take i)))), (62, .slice (some ⟨hb, ho, none⟩) (ss.length - 1) hcap), (63, .int .i64 ((ss.length - 1 : Nat) : Int)), (64, .int .i64 (i : Int))]) (fun _ => es ++ S) (fun i => i ≤ ss.length - 1) 0 ?_ (.refl _) (Nat.zero_le _) ?_
  · exact .cons rfl (.cons rfl (.cons rfl (.cons rfl (.cons rfl (.cons rfl (.cons rfl (.cons rfl (.nil _))))))))
  rintro i hi
  have hfl : ∀ j, j ≤ ss.length - 1 → (fillGo [] (ks.take j)).length = 40 * j := fun j hj => by rw [fillGo_len _ _ (by rw [List.length_take]; simp; omega), List.length_take]; simp; omega
  refine Wp.seq (Wp.region ?_)
  refine OWp.evs 1 rfl ?_
  refine OWp.nil ?_
  refine Wp.seq ?_
  refine Wp.cond rfl (fun h5 => ?_) (fun h5 => ?_)
  · have h5 := of_decide_eq_true h5
    have hi1 : i < ss.length - 1 := by omega
    refine Wp.skip ?_
    refine Wp.seq ?_
    refine Wp.block ?_
    refine Wp.seq (Wp.region ?_)
    refine OWp.g rfl rfl (Gives.indexAddrSlice (i) rfl rfl rfl rfl rfl rfl (by omega)) ?_
    refine OWp.load (List.mem_append_left _ hhm) rfl rfl rfl rfl (partAt_agg (hhat i (by omega)) rfl rfl rfl) ?_
    refine OWp.step rfl (Step.alloc rfl rfl rfl ?_); intro L15 hBL15 hLL15
    refine OWp.step rfl (Step.storeAs 0 (hopC ss[i] (keysOf ss[i])) rfl rfl rfl rfl rfl (by assumption) rfl (Unfz.zero _) rfl (Nat.le_of_ble_eq_true rfl) rfl rfl ?_)
    refine OWp.nil ?_
    refine Wp.seq (Wp.region ?_)
    refine OWp.evs 1 rfl ?_
    refine OWp.step rfl (Step.call rfl rfl rfl rfl rfl rfl ((hzerosC (n := 40) (by decide) ?_)))
    refine OWp.g rfl rfl (Gives.addStr rfl rfl rfl (by rw [hfl i hi, List.length_replicate]; omega)) ?_
    refine OWp.evs 1 rfl ?_
    refine OWp.nil ?_
    refine Wp.region ?_
    refine OWp.load (.head _) rfl rfl rfl rfl rfl ?_
    refine OWp.evs 4 rfl ?_
    refine OWp.step rfl (Step.call rfl rfl rfl rfl rfl rfl ((hflowIntC (a := 240 - (40 * i + 40)) (by rw [List.length_append, hfl i hi, List.length_replicate, i64_id] <;> omega) ((keysOf_lens _).1) (by rw [List.length_append, hfl i hi, List.length_replicate]; omega) ?_)))
    refine OWp.evs 1 rfl ?_
    refine OWp.nil ?_
    refine Wp.dropAt 0 rfl ?_
    refine Wp.region ?_
    refine OWp.evs 2 rfl ?_
    refine OWp.nil ?_
    exact ⟨i + 1, by omega, by omega, .cons rfl (.cons rfl (.cons rfl (.cons rfl (.cons' rfl (by rw [List.take_succ_eq_append_getElem (by omega), fillGo_snoc, hfl i hi, hkg i (by omega)]) (.cons rfl (.cons rfl (.cons' rfl (int_eq (i64_inc (by omega))) (.nil _)))))))), .refl _⟩
  have h5 := of_decide_eq_false h5
  obtain rfl : i = ss.length - 1 := by omega
  obtain ⟨fill, hfill⟩ : ∃ f, f = fillGo [] ks.dropLast := ⟨_, rfl⟩
  have hdl : ks.take (ss.length - 1) = ks.dropLast := by rw [← hkl, List.dropLast_eq_take]
  have hfle : fill.length = 40 * (ss.length - 1) := by rw [hfill, ← hdl]; exact hfl _ hi
  rw [hdl, ← hfill]
  refine Wp.exit ?_
  refine Wp.seq (Wp.region ?_)
  refine OWp.evs 1 rfl ?_
  refine OWp.g rfl rfl (Gives.build rfl rfl) ?_
  refine OWp.step rfl (Step.call rfl rfl rfl rfl rfl rfl ((hkeyC (n := 200) (label := [112, 97, 100]) hks.append (by decide) (by have := hall seed (List.mem_cons_self ..); rw [this]; decide) (by decide) ?_)))
  refine OWp.evs 1 rfl ?_
  refine OWp.nil ?_
  refine Wp.seq (Wp.region ?_)
  refine OWp.step rfl (Step.call rfl rfl rfl rfl rfl rfl ((hzerosC (n := 16) (by decide) ?_)))
  obtain ⟨pad, hpad⟩ : ∃ f, f = derive seed [112, 97, 100] 200 := ⟨_, rfl⟩
  have hpl : pad.length = 200 := by rw [hpad, derive_len]
  rw [← hpad]
  obtain ⟨bk, hbk⟩ : ∃ b, b = (path.map encB).zip ks := ⟨_, rfl⟩
  have hbl : bk.length = ss.length := by rw [hbk, List.length_zip, List.length_map, hkl]; omega
  have hbg : ∀ i (h : i < ss.length) (h2 : i < bk.length) (h3 : i < path.length), bk[i] = (encB path[i], keysOf ss[i]) := fun i h h2 h3 => by subst hbk; rw [List.getElem_zip, List.getElem_map, hkg i h]
  have hb24 : ∀ x ∈ bk, x.1.length = 24 := fun x hx => by rw [hbk] at hx; obtain ⟨y, hy, e⟩ := List.mem_map.1 (List.of_mem_zip hx).1; rw [← e]; exact encB_good (hgood _ hy)
  have hL := fun j => listR_len (pad := pad) (fill := fill) hpl (by omega) (bk.drop j) (fun x hx => hb24 x (List.mem_of_mem_drop hx))
  refine OWp.evs 1 rfl ?_
  refine OWp.nil ?_
  refine Wp.seq ?_
  refine Wp.seq (Wp.region ?_)
  refine OWp.evs 4 rfl ?_
  refine OWp.nil ?_
  refine Wp.block ?_
  refine Wp.loopS (α := Nat) (fun j => ss.length - j) (fun j => [(0, .string (str seed)), (2, .slice pa path.length pc), (7, .slice none 0 0), (12, .slice (some ⟨hb, ho, none⟩) ss.length hcap), (13, .string (str fill)), (16, .string (str (listR pad fill (bk.drop (ss.length - j))).2)), (17, .string (str (listR pad fill (bk.drop (ss.length - j))).1)), (18, .int .i64 ((ss.length : Int) - 1 - (j : Int)))]) (fun _ => es ++ S) (fun j => j ≤ ss.length) 0 ?_ (.refl _) (Nat.zero_le _) ?_
  · exact .cons rfl (.cons rfl (.cons rfl (.cons rfl (.cons rfl (.cons' rfl (by rw [Nat.sub_zero, ← hbl, List.drop_length]; rfl) (.cons' rfl (by rw [Nat.sub_zero, ← hbl, List.drop_length]; rfl) (.cons' rfl (int_eq (by rw [i64_id] <;> omega)) (.nil _))))))))
  rintro j hj
  refine Wp.seq ?_
  refine Wp.seq (Wp.region ?_)
  refine OWp.evs 2 rfl ?_
  refine OWp.nil ?_
  refine Wp.cond rfl (fun h7 => ?_) (fun h7 => ?_)
  · have h7 := of_decide_eq_true h7
    have hj1 : j < ss.length := by omega
    obtain ⟨i, hi⟩ : ∃ i, i = ss.length - (j + 1) := ⟨_, rfl⟩
    have hi2 : ss.length - j = i + 1 := by omega
    have hi3 : (ss.length : Int) - 1 - (j : Int) = (i : Int) := by omega
    have hdr : bk.drop (ss.length - (j + 1)) = (encB (path[i]'(by omega)), keysOf (ss[i]'(by omega))) :: bk.drop (i + 1) := by rw [← hi, List.drop_eq_getElem_cons (by omega), hbg i (by omega) (by omega) (by omega)]
    have hdl2 : (bk.drop (i + 1)).length = j := by rw [List.length_drop, hbl]; omega
    have hLi := hL (i + 1)
    have he24 : (encB (path[i]'(by omega))).length = 24 := encB_good (hgood _ (List.getElem_mem _))
    obtain ⟨qb, qo, qcap, qll, qt, qfz, qzv, qhm, qat⟩ := Reads.elem hr2 (C.hop_flat _) hpos
    cases qzv
    rw [hi2, hi3]
    refine Wp.skip ?_
    refine Wp.seq ?_
    refine Wp.block ?_
    refine Wp.seq (Wp.region ?_)
    refine OWp.evs 2 rfl ?_
    refine OWp.g rfl rfl (Gives.indexAddrSlice (i) rfl rfl rfl rfl rfl rfl (by omega)) ?_
    refine OWp.load (List.mem_append_right _ qhm) rfl rfl rfl rfl (partAt_agg (qat i (by omega)) rfl rfl rfl) ?_
    refine OWp.step rfl (Step.call rfl rfl rfl rfl rfl rfl ((C.encodeC ?_)))
    obtain ⟨px, hpx⟩ : ∃ p, p = listR pad fill (bk.drop (i + 1)) := ⟨_, rfl⟩
    obtain ⟨bb, hbb⟩ : ∃ b, b = encB (path[i]'(by omega)) := ⟨_, rfl⟩
    rw [← hpx] at hLi
    rw [← hbb] at he24
    rw [← hpx, ← hbb]
    refine OWp.evs 5 rfl ?_
    refine OWp.nil ?_
    refine Wp.seq (Wp.region ?_)
    refine OWp.evs 2 rfl ?_
    refine OWp.g rfl rfl (Gives.addStr rfl rfl rfl (by rw [he24, hLi.1]; decide)) ?_
    refine OWp.evs 1 rfl ?_
    refine OWp.g rfl rfl (Gives.addStr rfl rfl rfl (by rw [List.length_append, he24, hLi.1, hLi.2]; decide)) ?_
    have hpl24 : (bb ++ px.1 ++ px.2).length = 240 := by rw [List.length_append, List.length_append, he24, hLi.1, hLi.2]
    have hrl := restR_len (k := keysOf (ss[i]'(by omega))) (m := j) (fill := fill) (by omega) he24 hLi.1 hLi.2
    have hrd : listR pad fill (bk.drop (ss.length - (j + 1))) = (macX (keysOf (ss[i]'(by omega))) (restR fill bb (keysOf (ss[i]'(by omega))) px j), restR fill bb (keysOf (ss[i]'(by omega))) px j) := by rw [hdr, listR_cons, hdl2, ← hpx, ← hbb]
    refine OWp.evs 1 rfl ?_
    refine OWp.nil ?_
    refine Wp.seqS (α := Unit) (fun _ => [(0, .string (str seed)), (2, .slice (some ⟨qb, qo, none⟩) path.length pc), (7, .slice none 0 0), (12, .slice (some ⟨hb, ho, none⟩) ss.length hcap), (13, .string (str fill)), (16, .string (str (restR fill bb (keysOf (ss[i]'(by omega))) px j))), (18, .int .i64 (i : Int))]) (fun _ => es ++ S) (fun _ => True) ?_ ?_
    · skip
      refine Wp.seq (Wp.region ?_)
      refine OWp.evs 5 rfl ?_
      refine OWp.nil ?_
      refine Wp.cond rfl (fun h8 => ?_) (fun h8 => ?_)
      · have h8 := of_decide_eq_true h8
        have h8' : j = 0 := by rw [i64_id (by omega) (by omega)] at h8; omega
        refine Wp.regionDraw [0, 1, 2, 3, 4, 5, 6, 7, 8, 10, 9, 11, 12] [9] rfl (by decide +kernel) ?_
        refine DWp.evs 2 rfl ?_
        refine DWp.g rfl rfl rfl rfl (Gives.indexAddrSlice (i) rfl rfl rfl rfl rfl rfl (by omega)) ?_
        refine DWp.load (List.mem_append_left _ hhm) rfl rfl rfl rfl rfl rfl (partAt_agg (hhat i (by omega)) rfl rfl rfl) ?_
        refine DWp.evs 4 rfl ?_
        refine DWp.g rfl rfl rfl rfl (Gives.sliceStr (l := 0) (h' := 200 - fill.length) rfl rfl rfl rfl ⟨_, _, rfl, (by rw [i64_id] <;> omega)⟩ (by omega) (by omega)) ?_
        refine DWp.evs 1 rfl ?_
        refine DWp.stepGrow rfl rfl rfl (Step.call rfl rfl rfl rfl rfl rfl ((hflowC (a := 0) ((keysOf_lens _).1) (by rw [List.length_take, List.length_drop]; omega) ?_)))
        refine ⟨fun _ hy => hy, ?_⟩
        refine DWp.g rfl rfl rfl rfl (Gives.addStr rfl rfl rfl (by rw [flowX_len _ (by rw [List.length_take, List.length_drop]; omega), List.length_take]; omega)) ?_
        refine DWp.evs 1 rfl ?_
        refine DWp.nil ?_
        refine ⟨(), trivial, .cons rfl (.cons rfl (.cons rfl (.cons rfl (.cons rfl (.cons' rfl ?_ (.cons rfl (.nil _))))))), .refl _⟩
        unfold restR
        rw [if_pos h8', Nat.sub_zero, List.drop_zero]
      have h8 := of_decide_eq_false h8
      have h8' : ¬ j = 0 := by rw [i64_id (by omega) (by omega)] at h8; omega
      refine Wp.regionDraw [0, 1, 2, 3, 4, 5, 6, 7] [6] rfl (by decide +kernel) ?_
      refine DWp.evs 2 rfl ?_
      refine DWp.g rfl rfl rfl rfl (Gives.indexAddrSlice (i) rfl rfl rfl rfl rfl rfl (by omega)) ?_
      refine DWp.load (List.mem_append_left _ hhm) rfl rfl rfl rfl rfl rfl (partAt_agg (hhat i (by omega)) rfl rfl rfl) ?_
      refine DWp.evs 1 rfl ?_
      refine DWp.g rfl rfl rfl rfl (Gives.sliceStr (l := 0) (h' := 200) rfl rfl rfl rfl ⟨_, _, rfl, rfl⟩ (by decide) (by omega)) ?_
      refine DWp.stepGrow rfl rfl rfl (Step.call rfl rfl rfl rfl rfl rfl ((hflowC (a := 0) ((keysOf_lens _).1) (by rw [List.length_take, List.length_drop]; omega) ?_)))
      refine ⟨fun _ hy => hy, ?_⟩
      refine DWp.evs 1 rfl ?_
      refine DWp.nil ?_
      refine ⟨(), trivial, .cons rfl (.cons rfl (.cons rfl (.cons rfl (.cons rfl (.cons' rfl ?_ (.cons rfl (.nil _))))))), .refl _⟩
      unfold restR
      rw [if_neg h8', Nat.sub_zero, List.drop_zero]
    rintro ⟨⟩ -
    refine Wp.region ?_
    refine OWp.evs 2 rfl ?_
    refine OWp.g rfl rfl (Gives.indexAddrSlice (i) rfl rfl rfl rfl rfl rfl (by omega)) ?_
    refine OWp.load (List.mem_append_left _ hhm) rfl rfl rfl rfl (partAt_agg (hhat i (by omega)) rfl rfl rfl) ?_
    refine OWp.evs 1 rfl ?_
    refine OWp.step rfl (Step.call rfl rfl rfl rfl rfl rfl ((hmacC hks.append (by rw [(keysOf_lens _).2.1]; decide) (by rw [hrl]; decide) ?_)))
    refine OWp.evs 1 rfl ?_
    refine OWp.nil ?_
    refine Wp.region ?_
    refine OWp.evs 3 rfl ?_
    refine OWp.nil ?_
    refine ⟨j + 1, by omega, by omega, .cons rfl (.cons rfl (.cons rfl (.cons rfl (.cons rfl (.cons' rfl (by rw [hrd]) (.cons' rfl (by rw [hrd]) (.cons' rfl (int_eq (by rw [i64_id] <;> omega)) (.nil _)))))))), .refl _⟩
  have h7 := of_decide_eq_false h7
  obtain rfl : j = ss.length := by omega
  rw [Nat.sub_self, List.drop_zero]
  obtain ⟨px, hpx⟩ : ∃ p, p = listR pad fill bk := ⟨_, rfl⟩
  have hLi := hL 0
  rw [List.drop_zero, ← hpx] at hLi
  rw [← hpx]
  refine Wp.exit ?_
  refine Wp.seq ?_
  refine Wp.seq (Wp.region ?_)
  refine OWp.evs 3 rfl ?_
  refine OWp.nil ?_
  refine Wp.block ?_
  refine Wp.loopS (α := Nat × Value × Ents) (fun z => ss.length - z.1) (fun z => [(0, .string (str seed)), (7, z.2.1), (16, .string (str px.2)), (17, .string (str px.1)), (132, .slice (some ⟨hb, ho, none⟩) ss.length hcap), (133, .int .i64 (ss.length : Int)), (134, .int .i64 (z.1 : Int))]) (fun z => z.2.2 ++ (es ++ S)) (fun z => z.1 ≤ ss.length ∧ Lg.Own B 203 5 z.2.1 z.1 (keysV (ks.take z.1)) z.2.2) (0, .slice none 0 0, []) ?_ (.refl _) ⟨Nat.zero_le _, Own.nil _ _ _⟩ ?_
  · exact .cons rfl (.cons rfl (.cons rfl (.cons rfl (.cons rfl (.cons rfl (.cons rfl (.nil _)))))))
  rintro ⟨i, kv, e3⟩ ⟨hi, ho3⟩
  simp only at hi ho3 ⊢
  obtain ⟨ka, kc, rfl⟩ := ho3.reads.form
  refine Wp.seq (Wp.region ?_)
  refine OWp.evs 1 rfl ?_
  refine OWp.nil ?_
  refine Wp.seq ?_
  refine Wp.cond rfl (fun h9 => ?_) (fun h9 => ?_)
  · have h9 := of_decide_eq_true h9
    have hi1 : i < ss.length := by omega
    refine Wp.skip ?_
    refine Wp.seq ?_
    refine Wp.block ?_
    refine Wp.seq (Wp.region ?_)
    refine OWp.g rfl rfl (Gives.indexAddrSlice (i) rfl rfl rfl rfl rfl rfl (by omega)) ?_
    refine OWp.load (List.mem_append_right _ (List.mem_append_left _ hhm)) rfl rfl rfl rfl (partAt_agg (hhat i (by omega)) rfl rfl rfl) ?_
    refine OWp.step rfl (Step.alloc rfl rfl rfl ?_); intro L23 hBL23 hLL23
    refine OWp.step rfl (Step.storeAs 0 (hopC ss[i] (keysOf ss[i])) rfl rfl rfl rfl rfl (by assumption) rfl (Unfz.zero _) rfl (Nat.le_of_ble_eq_true rfl) rfl rfl ?_)
    refine OWp.nil ?_
    refine Wp.region ?_
    refine OWp.evs 2 rfl ?_
    refine OWp.load (.head _) rfl rfl rfl rfl rfl ?_
    refine OWp.step rfl (Step.buildSlice rfl rfl rfl ?_); intro L24 hBL24 hLL24
    refine OWp.step rfl (Step.appendAt [_, _] rfl rfl rfl rfl rfl rfl (by decide) rfl rfl ho3 (Reads.row (k := 1) (sz := 5) (.head _) (Nat.le_of_ble_eq_true rfl)) rfl (by show (_ + 1) * 80 ≤ _; omega) (by unfold maxLen; omega) ?_)
    intro kv2 e32 ho32 _
    refine OWp.evs 1 rfl ?_
    refine OWp.nil ?_
    refine Wp.drop (.cons _ (.cons _ (.refl _))) ?_
    refine Wp.region ?_
    refine OWp.evs 2 rfl ?_
    refine OWp.nil ?_
    exact ⟨(i + 1, kv2, e32), by simp only; omega, ⟨by simp only; omega, by simp only; rw [List.take_succ_eq_append_getElem (by omega), keysV_snoc, hkg i hi1]; exact ho32⟩, .cons rfl (.cons rfl (.cons rfl (.cons rfl (.cons rfl (.cons rfl (.cons' rfl (int_eq (i64_inc (by omega))) (.nil _))))))), .refl _⟩
  have h9 := of_decide_eq_false h9
  obtain rfl : i = ss.length := by omega
  rw [List.take_of_length_le (by omega)] at ho3
  refine Wp.exit ?_
  refine Wp.seq (Wp.region ?_)
  refine OWp.evs 1 rfl ?_
  refine OWp.step rfl (Step.call rfl rfl rfl rfl rfl rfl ((publicC ?_)))
  have hpb : (publicR seed).1.length = 32 := by
    have hs := hall seed (List.mem_cons_self ..)
    exact timesR_len (by unfold timesR; rw [if_pos ⟨hs, by decide⟩])
  refine OWp.evs 5 rfl ?_
  refine OWp.nil ?_
  refine Wp.seq (Wp.region ?_)
  refine OWp.evs 2 rfl ?_
  refine OWp.g rfl rfl (Gives.addStr rfl rfl rfl (by rw [hpb, hLi.1]; decide)) ?_
  refine OWp.evs 1 rfl ?_
  refine OWp.g rfl rfl (Gives.addStr rfl rfl rfl (by rw [List.length_append, hpb, hLi.1, hLi.2]; decide)) ?_
  refine OWp.evs 4 rfl ?_
  refine OWp.nil ?_
  refine Wp.ret ⟨trivial, _, ⟨_, _, rfl, rfl, _, _, rfl, rfl, _, _, rfl, rfl, rfl⟩, ?_⟩
  refine ⟨_, (List.Sublist.refl _).append (List.sublist_append_right _ _), ?_⟩
  have hh : headR seed ks (path.map encB) = (publicR seed).1 ++ px.1 ++ px.2 := by unfold headR; rw [← hpad, ← hfill, ← hbk, ← hpx]
  rw [hh] at H
  have hq := H rfl _ _ (by rw [← h2', ← hs0]; exact ho3)
  exact hq
end
end Go.Proofs.D

namespace Go.Proofs.D
open Go.Lg Go.Sha Go.Hd Go.Cv
open Go.Proofs.C (Hop hopP hopB parse)
set_option maxRecDepth 100000
def _root_.Go.Hd.HK.zero : HK := ⟨[], [], [], [], []⟩
/-- The command whose bytes these are, or none. -/
def decF (b : List UInt8) : Hop × Int := if hopP (parse true b) ∧ hopB (parse true b) = b then (parse true b, 0) else (Hop.zero, 70)
/-- What a hop sees of a header whose mac is right. -/
def openR (k : HK) (point list : List UInt8) : Hop × List UInt8 × HK × Int :=
  let plain := flowX k (list ++ List.replicate 40 0) 0
  if (decF (plain.take 24)).2 ≠ 0 then (Hop.zero, [], HK.zero, (decF (plain.take 24)).2)
  else if (decF (plain.take 24)).1.kind ≠ 1 then ((decF (plain.take 24)).1, [], k, 0)
  else ((decF (plain.take 24)).1, (timesR k.blind point).1 ++ plain.drop 24, k, 0)
def peelR (priv header : List UInt8) : Hop × List UInt8 × HK × Int :=
  if ¬ (priv.length = 32 ∧ header.length = 248) then (Hop.zero, [], HK.zero, 3)
  else if (sharedR priv (header.take 32)).2 ≠ 0 then (Hop.zero, [], HK.zero, ((sharedR priv (header.take 32)).2 : Nat))
  else if macX (keysOf (sharedR priv (header.take 32)).1) (header.drop 48) ≠ (header.drop 32).take 16 then (Hop.zero, [], HK.zero, 81)
  else openR (keysOf (sharedR priv (header.take 32)).1) (header.take 32) (header.drop 48)
attribute [local irreducible] derive hmac stream sharedR timesR
section
variable {B : Nat} {S R : Ents} {Q : Value → Ents → Prop}
end
end Go.Proofs.D

/- Laws of wide blocks: the works, what is laid open, what is turned. -/
namespace Go.Sha

def wstep (key : List UInt8) (x : List UInt8 × List UInt8) (i : Nat) : List UInt8 × List UInt8 := if i % 2 = 0 then wflow key i x else wpress key i x
/-- A block's answer, and why there is none. -/
def blockR (f : List UInt8 → List UInt8) (b : List UInt8) : List UInt8 × Nat :=
  if b.length < 64 then ([], 3) else if 8192 < b.length then ([], 2) else (f b, 0)
def wrapR (key text : List UInt8) (n : Int) : List UInt8 × Nat :=
  if n < 64 then ([], 3) else if 8192 < n ∨ n - 34 < (text.length : Int) then ([], 2) else (wshut key (wplain text n.toNat), 0)
def unwrapT : Option (List UInt8) → List UInt8 × Nat
  | some t => (t, 0)
  | none => ([], 90)
def unwrapR (key b : List UInt8) : List UInt8 × Nat :=
  if b.length < 64 then ([], 3) else if 8192 < b.length then ([], 2) else unwrapT (wtext (wopen key b))

/-- The bytes of a block as they are laid, text byte by text byte. -/
def plainAt (text : List UInt8) (n i : Nat) : List UInt8 :=
  List.replicate 32 0 ++ (UInt8.ofNat (text.length / 256) :: UInt8.ofNat text.length :: (text.take i ++ List.replicate (n - 34 - i) 0))
end Go.Sha

namespace Go.Proofs.D
open Go.Sha
end Go.Proofs.D
