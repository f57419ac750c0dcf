/- A layer over the weakest preconditions of the model: what is known of memory and of the slots, told by rules. -/
import Derived.Test.YtnjgekonoladfaaLgBase
import Derived.WalkSpells
namespace Go.Lg
open Go.RowKit (Below)

def opd (E : Env) : Operand → Option Value
  | .tmp t => E.get t
  | .const v => some v
  | .global g => some (.pointer (some ⟨g, 0, none⟩))
  | .func f => some (.func (.func f) #[] #[])

theorem opd_sound {E : Env} {n : Nat} {a : Act} (hA : Agree E n a) {x : Operand} {v : Value} (h : opd E x = some v) : a.eval x = v := by
  cases x with
  | tmp t => have := hA.reads t v h; simp [Act.eval, this]
  | const v => simpa [opd, Act.eval] using h
  | global g => simpa [opd, Act.eval] using h
  | func f => simpa [opd, Act.eval] using h

/-- A list whose spine is laid open before it is handed on. -/
def spine {α β : Type} : List α → (List α → β) → β
  | [], k => k []
  | x :: xs, k => spine xs fun ys => k (x :: ys)
theorem spine_eq {α β : Type} (l : List α) : ∀ k : List α → β, spine l k = k l := by
  induction l with
  | nil => intro k; rfl
  | cons x xs ih => intro k; simp [spine, ih]

def opds (E : Env) : List Operand → Option (List Value)
  | [] => some []
  | x :: xs => match opd E x, opds E xs with
    | some v, some vs => some (v :: vs)
    | _, _ => none

theorem opds_sound {E : Env} {n : Nat} {a : Act} (hA : Agree E n a) : ∀ {xs : List Operand} {vs : List Value}, opds E xs = some vs → xs.map a.eval = vs := by
  intro xs
  induction xs with
  | nil => intro vs h; simp [opds] at h; simp [h]
  | cons x xs ih =>
    intro vs h
    simp only [opds] at h
    split at h
    · rename_i v us h1 h2
      obtain rfl := Option.some.inj h
      simp [opd_sound hA h1, ih h2]
    · cases h

/-- Whole numbers: what an operator gives that cannot panic. -/
def binInt (op : BinOp) (k : IntKind) (x y : Int) : Option Value :=
  match op with
  | .add => some (.int k (k.wrap (x + y)))
  | .sub => some (.int k (k.wrap (x - y)))
  | .mul => some (.int k (k.wrap (x * y)))
  | .eql => some (.bool (decide (x = y)))
  | .neq => some (.bool (!decide (x = y)))
  | .lss => some (.bool (decide (x < y)))
  | .leq => some (.bool (decide (x ≤ y)))
  | .gtr => some (.bool (decide (y < x)))
  | .geq => some (.bool (decide (y ≤ x)))
  | .and => some (.int k (bits .and k x y))
  | .or => some (.int k (bits .or k x y))
  | .xor => some (.int k (bits .xor k x y))
  | .andNot => some (.int k (bits .andNot k x y))
  | _ => none

def bin (P : Program) (op : BinOp) (t : TypeId) : Value → Value → Option Value
  | .int k x, .int k' y => match op with
    | .shl => match y with
      | .ofNat n => some (.int k (k.wrap (x * 2 ^ (min n k.bits))))
      | .negSucc _ => none
    | .shr => match y with
      | .ofNat n => some (.int k (x.fdiv (2 ^ (min n k.bits))))
      | .negSucc _ => none
    | .quo => match decide (k = k'), y with
      | true, .ofNat (m + 1) => some (.int k (k.wrap (x.tdiv (.ofNat (m + 1)))))
      | _, _ => none
    | .rem => match decide (k = k'), y with
      | true, .ofNat (m + 1) => some (.int k (x.tmod (.ofNat (m + 1))))
      | _, _ => none
    | op => match decide (k = k') with
      | true => binInt op k x y
      | false => none
  | .string ⟨⟨x⟩⟩, .string ⟨⟨y⟩⟩ => match op with
    | .eql => some (.bool (decide (x = y)))
    | .neq => some (.bool (!decide (x = y)))
    | _ => none
  | .bool x, .bool y => match op, P.underlying t with
    | .eql, some .bool => some (.bool (x == y))
    | .neq, some .bool => some (.bool (!(x == y)))
    | _, _ => none
  | .pointer a, .pointer none => match op, P.underlying t with
    | .eql, some (.pointer _) => some (.bool a.isNone)
    | .neq, some (.pointer _) => some (.bool (!a.isNone))
    | _, _ => none
  | .slice a _ _, .slice none _ _ => match op, P.underlying t with
    | .eql, some (.slice _) => some (.bool a.isNone)
    | .neq, some (.slice _) => some (.bool (!a.isNone))
    | _, _ => none
  | _, _ => none

theorem toList_beq (x y : List UInt8) : ((ByteArray.mk ⟨x⟩).toList == (ByteArray.mk ⟨y⟩).toList) = decide (x = y) := by
  rw [Bool.eq_iff_iff]
  simp [ByteArray.toList_eq]

theorem bin_sound {P : Program} {op : BinOp} {t : TypeId} {u v r : Value} (x y : Operand) (h : bin P op t u v = some r) (w : World) :
    ((do eqGuard op t x y u v; binOp op t u v : Sem Value)).run P w = .ok r w := by
  unfold bin at h
  split at h
  · rename_i k a k' b
    rw [eqGuard_at_int]
    simp only [pure_bind]
    split at h
    · split at h
      · obtain rfl := Option.some.inj h
        rename_i m
        simp only [binOp, Op.shift]
        rw [if_neg (by simp)]
        simp
      · cases h
    · split at h
      · obtain rfl := Option.some.inj h
        rename_i m
        simp only [binOp, Op.shift]
        rw [if_neg (by simp)]
        simp
      · cases h
    · split at h
      · rename_i m hk
        obtain rfl := Option.some.inj h
        have hk' : k = k' := by simpa using hk
        subst hk'
        have : ¬ ((Int.ofNat (m + 1)) = 0) := by simp only [Int.ofNat_eq_natCast]; omega
        simp only [binOp_quo, Op.intDiv, if_neg this, Sem.run_pure]
      · cases h
    · split at h
      · rename_i m hk
        obtain rfl := Option.some.inj h
        have hk' : k = k' := by simpa using hk
        subst hk'
        have : ¬ ((Int.ofNat (m + 1)) = 0) := by simp only [Int.ofNat_eq_natCast]; omega
        simp only [binOp_rem, Op.intDiv, if_neg this, Sem.run_pure]
      · cases h
    · split at h
      · rename_i hk
        have hk' : k = k' := by simpa using hk
        subst hk'
        cases op <;> simp only [binInt, reduceCtorEq, Option.some.injEq] at h <;> first | contradiction | (subst h; simp [binOp, Op.intArith, Op.intCmp, intBits_and, intBits_or, intBits_xor, intBits_andNot]; try rfl)
      · cases h
  · rw [eqGuard_at_string]
    simp only [pure_bind]
    split at h <;> first | (simp only [reduceCtorEq] at h; done) | obtain rfl := Option.some.inj h
    · show (Op.stringOp .eql _ _).run P w = _
      simp only [Op.stringOp, Sem.run_pure, toList_beq]
    · show (Op.stringOp .neq _ _).run P w = _
      simp only [Op.stringOp, Sem.run_pure, toList_beq]
  · rw [eqGuard_at_bool]
    simp only [pure_bind]
    split at h <;> first | (simp only [reduceCtorEq] at h; done) | (rename_i hu; obtain rfl := Option.some.inj h)
    · exact run_eql_bool w t _ _ hu
    · exact run_neq_bool w t _ _ hu
  · rename_i a
    rw [eqGuard_at_pointer]
    simp only [pure_bind]
    split at h <;> first | (simp only [reduceCtorEq] at h; done) | (rename_i hu; obtain rfl := Option.some.inj h)
    · exact run_eql_pointer_nil w t _ (by simp [Program.pointee, hu])
    · exact run_neq_pointer_nil w t _ (by simp [Program.pointee, hu])
  · rename_i a _ _ _ _
    rw [eqGuard_at_slice]
    simp only [pure_bind]
    split at h <;> first | (simp only [reduceCtorEq] at h; done) | (rename_i hu; obtain rfl := Option.some.inj h)
    · exact Lib.run_eql_slice_nil w t _ a _ _ _ _ hu
    · exact run_neq_slice_nil_any w t _ a _ _ _ _ hu
  · cases h

/-- Cells of a value, one written over from place off on. -/
def setAt : List Value → Nat → List Value → Option (List Value)
  | cs, _, [] => some cs
  | _ :: cs, 0, v :: vs => match setAt cs 0 vs with
    | some r => some (v :: r)
    | none => none
  | c :: cs, n + 1, vs => match setAt cs n vs with
    | some r => some (c :: r)
    | none => none
  | [], _, _ :: _ => none

def cellsOf : Value → List Value
  | .agg cs => cs.toList
  | v => [v]

def fieldsOf (P : Program) (s : TypeId) (f : Nat) : Option (TypeId × Nat) :=
  match P.underlying s with
  | some (.struct fs) => match fs[f]? with
    | some fd => some (fd.type, fd.offset)
    | none => none
  | _ => none

def sizeOfT (P : Program) (t : TypeId) : Option Nat :=
  match P.info? t with
  | some i => some i.size
  | none => none

def isAggT (P : Program) (t : TypeId) : Option Bool :=
  match P.underlying t with
  | some (.struct _) => some true
  | some (.array _ _) => some true
  | some _ => some false
  | none => none

/-- Cells from place off on, as many as the type has, read as a value of the type. -/
def takeN : Nat → List Value → Option (List Value)
  | 0, _ => some []
  | n + 1, x :: xs => match takeN n xs with
    | some r => some (x :: r)
    | none => none
  | _ + 1, [] => none

def partAt (P : Program) (t : TypeId) (cs : List Value) (off : Nat) : Option Value :=
  match isAggT P t, sizeOfT P t with
  | some true, some n => match takeN n (cs.drop off) with
    | some l => some (.agg l.toArray)
    | none => none
  | some false, some _ => cs[off]?
  | _, _ => none

def ev (P : Program) (E : Env) : Op → Option Value
  | .move x => opd E x
  | .assign x => opd E x
  | .pick c x y => match opd E c with
    | some (.bool true) => opd E x
    | some (.bool false) => opd E y
    | _ => none
  | .binOp op t x y _ => match opd E x, opd E y with
    | some u, some v => bin P op t u v
    | _, _ => none
  | .unOp op _ x => match op, opd E x with
    | .not, some (.bool b) => some (.bool !b)
    | .neg, some (.int k n) => some (.int k (k.wrap (0 - n)))
    | .xor, some (.int k n) => some (.int k (bits .xor k (if k.signed then -1 else k.max) n))
    | _, _ => none
  | .convert s d x => match P.underlying s, P.underlying d, opd E x with
    | some _, some (.int k), some (.int _ n) => some (.int k (k.wrap n))
    | some _, some .string, some (.string b) => some (.string b)
    | _, _, _ => none
  | .nilCheck x => match opd E x with
    | some (.pointer (some a)) => some (.pointer (some a))
    | _ => none
  | .fieldAddr s x f => match fieldsOf P s f, opd E x with
    | some (t, off), some (.pointer (some ⟨b, o, none⟩)) => match sizeOfT P t with
      | some (_ + 1) => some (.pointer (some ⟨b, o + off, none⟩))
      | _ => none
    | _, _ => none
  | .field s x f => match fieldsOf P s f, opd E x with
    | some (t, off), some (.agg cs) => partAt P t cs.toList off
    | _, _ => none
  | .extract x i => match opd E x with
    | some (.tuple vs) => vs.toList[i]?
    | _ => none
  | .makeFunc fn first captured => match opds E first.toList, opds E captured.toList with
    | some l, some m => spine l fun l => spine m fun m => some (.func fn l.toArray m.toArray)
    | _, _ => none
  | .call ⟨.builtin .len, args, tys⟩ => match args.toList, tys.toList with
    | [x], [t] => match P.underlying t, opd E x with
      | some .string, some (.string ⟨⟨l⟩⟩) => some (.int .i64 l.length)
      | some (.slice _), some (.slice _ n _) => some (.int .i64 n)
      | some (.array n _), some _ => some (.int .i64 n)
      | _, _ => none
    | _, _ => none
  | .call ⟨.builtin .min, args, _⟩ => match args.toList with
    | [x, y] => match opd E x, opd E y with
      | some (.int k m), some (.int _ n) => some (.int k (if n < m then n else m))
      | _, _ => none
    | _ => none
  | .call ⟨.builtin .max, args, _⟩ => match args.toList with
    | [x, y] => match opd E x, opd E y with
      | some (.int k m), some (.int _ n) => some (.int k (if n > m then n else m))
      | _, _ => none
    | _ => none
  | _ => none

theorem takeN_eq : ∀ (n : Nat) (l r : List Value), takeN n l = some r → r = l.take n ∧ n ≤ l.length
  | 0, _, _, h => by simp [takeN] at h; simp [h]
  | n + 1, [], _, h => by simp [takeN] at h
  | n + 1, x :: xs, r, h => by
    simp only [takeN] at h
    split at h
    · rename_i r' hr
      obtain ⟨rfl, hl⟩ := takeN_eq n xs r' hr
      obtain rfl := Option.some.inj h
      simp; omega
    · cases h

theorem sizeOfT_run {P : Program} {t : TypeId} {n : Nat} (h : sizeOfT P t = some n) (w : World) : (sizeOf t).run P w = .ok n w := by
  unfold sizeOfT at h
  split at h
  · rename_i i hi; simp at h; simp [sizeOf, typeInfo, hi, h]
  · cases h

theorem isAggT_run {P : Program} {t : TypeId} {b : Bool} (h : isAggT P t = some b) (w : World) : (isAgg t).run P w = .ok b w := by
  unfold isAggT at h
  split at h
  · rename_i hu; simp at h; simp [isAgg, run_underlying hu, ← h]
  · rename_i hu; simp at h; simp [isAgg, run_underlying hu, ← h]
  · rename_i d h1 h2 hu
    simp at h; subst h
    simp only [isAgg, Sem.run_bind, run_underlying hu, Result.andThen_ok]
    rfl
  · cases h

theorem partAt_run {P : Program} {t : TypeId} {cs : Array Value} {off : Nat} {v : Value} (h : partAt P t cs.toList off = some v) (w : World) :
    (part t cs off).run P w = .ok v w := by
  unfold partAt at h
  split at h
  · rename_i n ha hs
    split at h
    · rename_i l hl
      obtain ⟨rfl, hlen⟩ := takeN_eq _ _ _ hl
      obtain rfl := Option.some.inj h
      simp only [part, Sem.run_bind, isAggT_run ha, Result.andThen_ok, if_true, sizeOfT_run hs, Sem.run_pure]
      congr 2
      apply Array.ext'
      simp [List.extract_eq_take_drop]
    · cases h
  · rename_i n ha hs
    have h' : cs[off]? = some v := by simpa using h
    simp [part, isAggT_run ha, h']
  · cases h

theorem fieldsOf_run {P : Program} {s : TypeId} {f : Nat} {t : TypeId} {off : Nat} (h : fieldsOf P s f = some (t, off)) :
    ∃ fs fd, P.underlying s = some (.struct fs) ∧ fs[f]? = some fd ∧ fd.type = t ∧ fd.offset = off := by
  unfold fieldsOf at h
  split at h
  · rename_i fs hu
    split at h
    · rename_i fd hf
      simp at h
      exact ⟨fs, fd, hu, hf, h.1, h.2⟩
    · cases h
  · cases h

theorem ev_sound {P : Program} {E : Env} {n : Nat} {a : Act} (hA : Agree E n a) {o : Oper} {v : Value} (h : ev P E o.op = some v) (w : World) :
    (execOp a.eval o).run P w = .ok (.value v) w := by
  obtain ⟨dst, op, ty, pos, after, guard⟩ := o
  simp only at h
  unfold ev at h
  split at h
  · simp [execOp, opd_sound hA h]
  · simp [execOp, opd_sound hA h]
  · split at h
    · rename_i hc; simp [execOp, opd_sound hA hc, opd_sound hA h, asBool]
    · rename_i hc; simp [execOp, opd_sound hA hc, opd_sound hA h, asBool]
    · cases h
  · -- binOp
    rename_i op t x y yt
    split at h
    · rename_i u v' hu hv
      have := bin_sound (P := P) x y h w
      simp only [execOp, opd_sound hA hu, opd_sound hA hv]
      rw [Sem.run_bind, this]
      rfl
    · cases h
  · -- unOp
    split at h
    · rename_i hx; obtain rfl := Option.some.inj h; simp [execOp, opd_sound hA hx, Op.unary]
    · rename_i hx; obtain rfl := Option.some.inj h; simp [execOp, opd_sound hA hx, Op.unary, Op.intArith]
    · rename_i hx; obtain rfl := Option.some.inj h; simp [execOp, opd_sound hA hx, Op.unary, intBits_xor]
    · cases h
  · -- convert
    split at h
    · rename_i hs hd hx; obtain rfl := Option.some.inj h
      simp [execOp, opd_sound hA hx, convert, run_underlying hs, run_underlying hd, Conv.intToInt]
    · rename_i hs hd hx; obtain rfl := Option.some.inj h
      simp [execOp, opd_sound hA hx, convert, run_underlying hs, run_underlying hd]
    · cases h
  · -- nilCheck
    split at h
    · rename_i hx; obtain rfl := Option.some.inj h; simp [execOp, opd_sound hA hx]
    · cases h
  · -- fieldAddr
    split at h
    · rename_i t off b o' hf hx
      obtain ⟨fs, fd, hu, hfd, rfl, rfl⟩ := fieldsOf_run hf
      split at h
      · rename_i k hs
        obtain rfl := Option.some.inj h
        simp [execOp, opd_sound hA hx, Instr.fieldAt, run_underlying hu, hfd, Instr.sureAddr, fieldPlace, sizeOfT_run hs, Addr.add_lit]
      · cases h
    · cases h
  · -- field
    split at h
    · rename_i t off cs hf hx
      obtain ⟨fs, fd, hu, hfd, rfl, rfl⟩ := fieldsOf_run hf
      simp [execOp, opd_sound hA hx, Instr.field, run_underlying hu, hfd, asAgg, partAt_run h]
    · cases h
  · -- extract
    split at h
    · rename_i vs hx
      have h' : vs[‹Nat›]? = some v := by simpa using h
      simp [execOp, opd_sound hA hx, Instr.extract, h']
    · cases h
  · -- makeFunc
    split at h
    · rename_i l m hl hm
      rw [spine_eq, spine_eq] at h
      obtain rfl := Option.some.inj h
      have e1 := opds_sound hA hl
      have e2 := opds_sound hA hm
      simp [execOp, Instr.makeFunc, ← e1, ← e2]
      constructor <;> (apply Array.ext'; simp)
    · cases h
  · -- len
    rename_i args tys
    split at h
    · rename_i x t ha ht
      have ha' : args = #[x] := Array.ext' (by simpa using ha)
      have ht' : tys = #[t] := Array.ext' (by simpa using ht)
      subst ha' ht'
      split at h
      · rename_i hu hx; obtain rfl := Option.some.inj h
        simp [execOp, resolve, opd_sound hA hx, invoke, builtin, Builtin.len_, run_underlying hu, goInt]
        rfl
      · rename_i hu hx; obtain rfl := Option.some.inj h
        simp [execOp, resolve, opd_sound hA hx, invoke, builtin, Builtin.len_, run_underlying hu, goInt]
      · rename_i hu hx; obtain rfl := Option.some.inj h
        simp [execOp, resolve, opd_sound hA hx, invoke, builtin, Builtin.len_, run_underlying hu, goInt]
      · cases h
    · cases h
  · -- min
    rename_i args tys
    split at h
    · rename_i x y ha
      have ha' : args = #[x, y] := Array.ext' (by simpa using ha)
      subst ha'
      split at h
      · rename_i hx hy; obtain rfl := Option.some.inj h
        simp [execOp, resolve, opd_sound hA hx, opd_sound hA hy, invoke, builtin, Builtin.min_, Builtin.min2]
      · cases h
    · cases h
  · -- max
    rename_i args tys
    split at h
    · rename_i x y ha
      have ha' : args = #[x, y] := Array.ext' (by simpa using ha)
      subst ha'
      split at h
      · rename_i hx hy; obtain rfl := Option.some.inj h
        simp [execOp, resolve, opd_sound hA hx, opd_sound hA hy, invoke, builtin, Builtin.max_, Builtin.max2]
      · cases h
    · cases h
  · cases h
end Go.Lg
