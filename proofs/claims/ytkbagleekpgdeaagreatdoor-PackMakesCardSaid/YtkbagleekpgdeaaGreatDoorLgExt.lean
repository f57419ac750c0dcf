/- Functions without a body: sums of 64 bits with a carry. -/
import Derived.Test.YtkbagleekpgdeaaGreatDoorLgM2xb716
import Derived.Laws.Externs
namespace Go.Lg
section
variable {P : Program} {n : Nat} {E : Env} {o : Oper}
theorem Gives.add64 {c : Call} {f : FuncId} {fn : Func} {g : Operand} {x y k : Int} (ho : o.op = .call c) (hc : c.callee = .value g) (hg : opd E g = some (.func (.func f) #[] #[]))
    (hf : P.funcs[f]? = some fn) (hname : (fn.name == "runtime.NumGoroutine") = false) (hb : fn.body.isNone = true) (hn : Extern.findNext fn = none) (he : Extern.find fn = some add64Entry)
    (hvs : opds E c.args.toList = some [.int .u64 x, .int .u64 y, .int .u64 k]) (hx : 0 ≤ x) (hy : 0 ≤ y) (hk0 : 0 ≤ k) (hk : k ≤ 1) :
    Gives P n [] E o (.tuple #[.int .u64 ((x + y + k) % 18446744073709551616), .int .u64 ((x + y + k) / 18446744073709551616)]) := by
  intro a w _ hA
  have hargs : c.args.map a.eval = [Value.int .u64 x, .int .u64 y, .int .u64 k].toArray := by
    apply Array.ext'
    simpa using opds_sound hA hvs
  have hh : execOp a.eval o = callFunc f ([Value.int .u64 x, .int .u64 y, .int .u64 k].toArray ++ #[]) := by
    simp [execOp, ho, resolve, hc, opd_sound hA hg, Deferred.ofValue, hargs, invoke]
  rw [hh, run_callFunc_extern hf hname hb hn he]
  have := run_add64 (P := P) x y k hx hy hk0 hk w
  simp only [Array.append_empty]
  rw [this]
  rfl
end
end Go.Lg
