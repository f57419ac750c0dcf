/- A layer over the weakest preconditions of the model: what is known of memory and of the slots, told by rules. -/
import Derived.Test.YtnjgekonoladfaaLgArgs
import Derived.Laws.StructEq
namespace Go.Lg
open Go.RowKit (Below)

theorem ndT {p : Prop} [Decidable p] (h : (!decide p) = true) : ¬p := by simpa using h
theorem ndF {p : Prop} [Decidable p] (h : (!decide p) = false) : p := by simpa using h

/-! Structs side by side. -/
mutual
def eqIn (P : Program) : Nat → TypeId → Value → Value → Option Bool
  | 0, _, _, _ => none
  | _ + 1, t, .int k a, .int k' b => match P.underlying t, decide (k = k') with
    | some (.int _), true => some (decide (a = b))
    | _, _ => none
  | _ + 1, t, .bool a, .bool b => match P.underlying t with
    | some .bool => some (a == b)
    | _ => none
  | _ + 1, t, .string ⟨⟨a⟩⟩, .string ⟨⟨b⟩⟩ => match P.underlying t with
    | some .string => some (decide (a = b))
    | _ => none
  | d + 1, t, .agg xs, .agg ys => match P.underlying t, P.stoodInHeld t with
    | some (.struct fs), false => eqFs P d xs.toList ys.toList fs.toList
    | _, _ => none
  | _, _, _, _ => none
def eqFs (P : Program) : Nat → List Value → List Value → List Field → Option Bool
  | 0, _, _, _ => none
  | _ + 1, _, _, [] => some true
  | d + 1, xs, ys, f :: fs => match f.name == "_", partAt P f.type xs f.offset, partAt P f.type ys f.offset with
    | false, some a, some b => match eqIn P d f.type a b, eqFs P d xs ys fs with
      | some r, some s => some (r && s)
      | _, _ => none
    | _, _, _ => none
end

theorem eq_sound (P : Program) (w : World) : ∀ d, (∀ t a b r, eqIn P d t a b = some r → ∀ m, d ≤ m → (Op.equalIn m t a b).run P w = .ok r w) ∧
    (∀ xs ys fs r, eqFs P d xs ys fs = some r → ∀ m, d ≤ m → (Op.eqFields m xs.toArray ys.toArray fs).run P w = .ok r w) := by
  intro d
  induction d with
  | zero => exact ⟨fun _ _ _ _ h => by simp [eqIn] at h, fun _ _ _ _ h => by simp [eqFs] at h⟩
  | succ d ih =>
    obtain ⟨ih1, ih2⟩ := ih
    constructor
    · intro t a b r h m hm
      obtain ⟨m, rfl⟩ : ∃ k, m = k + 1 := ⟨m - 1, by omega⟩
      unfold eqIn at h
      split at h
      · contradiction
      · split at h
        · rename_i hu hk
          obtain rfl := Option.some.inj h
          have hk := of_decide_eq_true hk
          simp [Op.equalIn, run_underlying hu, hk]
          rfl
        · cases h
      · split at h
        · rename_i hu
          obtain rfl := Option.some.inj h
          rw [run_equalIn_bool' w m _ _ _ hu]
        · cases h
      · split at h
        · rename_i hu
          obtain rfl := Option.some.inj h
          rw [run_equalIn_string w m _ _ _ hu, toList_beq]
        · cases h
      · split at h
        · rename_i d0 xs ys he x1 x2 fs hu hst
          have hf : ∀ t', P.underlying t' = some (.struct fs) → P.fieldsOf t' = fs := fun t' h => by simp [Program.fieldsOf, h]
          rw [run_equalIn_struct (P := P) w m _ xs ys (by rw [hf _ hu]; exact hu) hst, hf _ hu]
          obtain rfl : d = d0 := by omega
          have := ih2 _ _ _ _ h m (by omega)
          simpa using this
        · cases h
      · cases h
    · intro xs ys fs r h m hm
      cases fs with
      | nil =>
        simp only [eqFs] at h
        obtain rfl := Option.some.inj h
        simp [Op.eqFields]
      | cons f fs =>
        simp only [eqFs] at h
        split at h
        · rename_i a b hn ha hb
          split at h
          · rename_i r1 r2 h1 h2
            obtain rfl := Option.some.inj h
            have hn' : f.name ≠ "_" := by simpa using hn
            have e1 := ih1 _ _ _ _ h1 m (by omega)
            have e2 := ih2 _ _ _ _ h2 m (by omega)
            have pa := partAt_run (P := P) (cs := xs.toArray) (by simpa using ha) w
            have pb := partAt_run (P := P) (cs := ys.toArray) (by simpa using hb) w
            rw [Op.eqFields]
            simp only [if_pos hn', Sem.run_bind, pa, pb, e1, Result.andThen_ok]
            cases r1
            · simp
            · simpa using e2
          · cases h
        · cases h

section
variable {P : Program} {B n : Nat} {E : Env} {S : Ents} {o : Oper}

theorem Gives.eqStruct {t yt : TypeId} {x y : Operand} {xs ys : Array Value} {r : Bool} (d : Nat) (hd : Nat.ble d 10000 = true) (ho : o.op = .binOp .eql t x y yt)
    (hx : opd E x = some (.agg xs)) (hy : opd E y = some (.agg ys)) (hg : P.eqGuardType P.depth t = false) (he : eqIn P d t (.agg xs) (.agg ys) = some r) :
    Gives P n [] E o (.bool r) := by
  intro a w _ hA
  have h1 := (eq_sound P w d).1 _ _ _ _ he 10000 (Nat.le_of_ble_eq_true hd)
  simp only [execOp, ho, opd_sound hA hx, opd_sound hA hy, Sem.run_bind, run_eqGuard_agg w .eql t x y xs ys hg, Result.andThen_ok, run_eql_struct, h1, Sem.run_pure]

theorem Gives.neqStruct {t yt : TypeId} {x y : Operand} {xs ys : Array Value} {r : Bool} (d : Nat) (hd : Nat.ble d 10000 = true) (ho : o.op = .binOp .neq t x y yt)
    (hx : opd E x = some (.agg xs)) (hy : opd E y = some (.agg ys)) (hg : P.eqGuardType P.depth t = false) (he : eqIn P d t (.agg xs) (.agg ys) = some r) :
    Gives P n [] E o (.bool (!r)) := by
  intro a w _ hA
  have h1 := (eq_sound P w d).1 _ _ _ _ he 10000 (Nat.le_of_ble_eq_true hd)
  simp only [execOp, ho, opd_sound hA hx, opd_sound hA hy, Sem.run_bind, run_eqGuard_agg w .neq t x y xs ys hg, Result.andThen_ok, run_neq_struct, h1, Sem.run_pure]
end

theorem takeN_some : ∀ (n : Nat) (l : List Value), n ≤ l.length → takeN n l = some (l.take n)
  | 0, l, _ => by simp [takeN]
  | n + 1, [], h => by simp at h
  | n + 1, x :: l, h => by
    have := takeN_some n l (by simpa using h)
    simp [takeN, this]

/-- A struct that stands somewhere in a row. -/
theorem partAt_agg {P : Program} {t : TypeId} {n o : Nat} {l r : List Value} (hr : (l.drop o).take n = r) (ha : isAggT P t = some true) (hs : sizeOfT P t = some n) (hn : r.length = n) :
    partAt P t l o = some (.agg r.toArray) := by
  unfold partAt
  rw [ha, hs]
  have hl : n ≤ (l.drop o).length := by
    rw [← hr, List.length_take] at hn; omega
  simp only [takeN_some n _ hl, hr]

section
variable {P : Program} {B n : Nat} {ops : Array Oper} {Q : Exit → Env → Ents → Prop} {E : Env} {S : Ents}
/-- A step that leaves what stood there. -/
theorem DWp.stepGrow {muts : List Nat} {l : Array Bool} {i : Nat} {o : Oper} {rest : List Nat} {pr : List (Nat × Ents)} (hmut : muts.contains i = true) (ho : ops[i]? = some o)
    (hg : guardB ops.toList E o.guard = some true)
    (h : Step P B n o (fun E' S' => (∀ y ∈ S, y ∈ S') ∧ DWp P B n ops muts (l.setIfInBounds i true) rest (keptE ops i pr) Q E' S') E S) :
    DWp P B n ops muts l (i :: rest) pr Q E S := by
  intro hgo
  refine DWp.step hmut ho hg ?_ hgo
  intro a w hS hA
  refine Oper.upon_monoQ ?_ (fun _ _ _ h => h) (h a w hS hA)
  rintro a' w' ⟨hb, E', S', hs, ha, hsub, q⟩
  exact ⟨hb, E', S', hs, ha, fun x hx y hy => hsub y (hgo.proms x (List.mem_filter.1 hx).1 y hy), q⟩
end

section
variable {P : Program} {B n : Nat} {E : Env} {S : Ents} {o : Oper} {K : Env → Ents → Prop}
/-- A store, and what the row is behind it. -/
theorem Step.storeAs {t : TypeId} {x y : Operand} {b o' : Nat} {v : Value} (i : Nat) {l : List Value} (l' : List Value) {e : TypeId} {fz : Nat × Nat} {S' : Ents} (hd : dstOk n o.dst = true)
    (ho : o.op = .store t x y) (hx : opd E x = some (.pointer (some ⟨b, o', none⟩))) (hy : opd E y = some v) (he : entAt S i = some (b, cel l e fz)) (hB : B ≤ b)
    (hs : sizeOfT P t = some v.cells.size) (hz : Unfz fz l.length) (h1 : v.cells.toList.all (·.oneCell') = true) (hl : o' + v.cells.size ≤ l.length) (hw : wr l o' v.cells.toList = l')
    (hS' : setEnt S i (b, cel l' e fz) = some S')
    (h : K (putE E o.dst undef) S') : Step P B n o K E S := by
  subst hw
  exact Step.store i hd ho hx hy he hB hs hl hz h1 hS' h
end

theorem Wp.permS {P : Program} {B n : Nat} {c : Code} {Q : Exit → Env → Ents → Prop} {E : Env} {S S' : Ents} (h : S.Perm S') (hc : Wp P B n c Q E S') : Wp P B n c Q E S :=
  fun a w hS hA => hc a w (hS.perm h) hA
theorem OWp.permS {P : Program} {B n : Nat} {ops : Array Oper} {l : List Oper} {Q : Exit → Env → Ents → Prop} {E : Env} {S S' : Ents} (h : S.Perm S') (hc : OWp P B n ops l Q E S') : OWp P B n ops l Q E S :=
  fun a w hS hA => hc a w (hS.perm h) hA
theorem OWp.drop {P : Program} {B n : Nat} {ops : Array Oper} {l : List Oper} {Q : Exit → Env → Ents → Prop} {E : Env} {S S' : Ents} (h : S'.Sublist S) (hc : OWp P B n ops l Q E S') : OWp P B n ops l Q E S :=
  fun a w hS hA => hc a w (hS.sublist h) hA
theorem CallWp.permS {P : Program} {B : Nat} {f : FuncId} {args : Array Value} {Q : Value → Ents → Prop} {S S' : Ents} (h : S.Perm S') (hc : CallWp P B f args Q S') : CallWp P B f args Q S :=
  fun w hS => hc w (hS.perm h)

theorem pr_nil {S' : Ents} : ∀ x ∈ ([] : List (Nat × Ents)), ∀ y ∈ x.2, y ∈ S' := fun _ h => nomatch h
theorem pr_free {S' : Ents} {i : Nat} {pr : List (Nat × Ents)} (r : ∀ x ∈ pr, ∀ y ∈ x.2, y ∈ S') : ∀ x ∈ (i, []) :: pr, ∀ y ∈ x.2, y ∈ S' := by
  intro x hx
  rcases List.mem_cons.1 hx with rfl | hx
  · intro y hy; cases hy
  · exact r x hx
theorem pr_cons {S' : Ents} {i : Nat} {e : Nat × Obj} {es : Ents} {pr : List (Nat × Ents)} (h : e ∈ S') (r : ∀ x ∈ (i, es) :: pr, ∀ y ∈ x.2, y ∈ S') : ∀ x ∈ (i, e :: es) :: pr, ∀ y ∈ x.2, y ∈ S' := by
  intro x hx
  rcases List.mem_cons.1 hx with rfl | hx
  · intro y hy
    rcases List.mem_cons.1 hy with rfl | hy
    · exact h
    · exact r (i, es) (by simp) y hy
  · exact r x (by simp [hx])
theorem pr_kept {S' : Ents} {ops : Array Oper} {i : Nat} {pr : List (Nat × Ents)} (r : ∀ x ∈ pr, ∀ y ∈ x.2, y ∈ S') : ∀ x ∈ keptE ops i pr, ∀ y ∈ x.2, y ∈ S' :=
  fun x hx => r x (List.mem_filter.1 hx).1

theorem CallWp.dropRet {P : Program} {B : Nat} {f : FuncId} {args : Array Value} {Q : Value → Ents → Prop} {S : Ents} (h : CallWp P B f args (fun v S' => ∃ S'' : Ents, S''.Sublist S' ∧ Q v S'') S) : CallWp P B f args Q S :=
  fun w hS => (h w hS).mono fun _ _ ⟨v, _, e, hb, hs, S'', hsub, q⟩ => ⟨v, S'', e, hb, hs.sublist hsub, q⟩
end Go.Lg
