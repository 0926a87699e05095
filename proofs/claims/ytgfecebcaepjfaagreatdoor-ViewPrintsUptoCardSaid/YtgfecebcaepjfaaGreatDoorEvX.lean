/- What the model itself answers for some functions of the library that have no body. -/
import Derived.Test.YtgfecebcaepjfaaGreatDoorEvW
import Derived.Lib.Bytealg
namespace Go.Ev
open Go

def nvCount : List AV → Option AV
  | [.s l, .u c] => some (.i .i64 (Lib.countByte l c : Nat))
  | _ => none

def nvIndexByte : List AV → Option AV
  | [.s l, .u c] => some (.i .i64 (Lib.indexByte l c))
  | _ => none

section
variable {P : Program} {f : FuncId} {fn : Func}

theorem byte_back (c : UInt8) : ((c.toNat : Int).toNat).toUInt8 = c := by simp

theorem nvCount_ok (hf : P.funcs[f]? = some fn) (hname : (fn.name == "runtime.NumGoroutine") = false) (hb : fn.body.isNone = true) (hn : Extern.findNext fn = none) (he : Extern.find fn = some Extern.BytealgCount.count) : NvOK P f nvCount := by
  intro args v h w N μ H vals hr
  unfold nvCount at h
  split at h
  · rename_i l c
    simp only [Option.some.injEq] at h
    subst h
    simp only [RelVs, RelV] at hr
    obtain ⟨_, _, rfl, rfl, _, _, rfl, rfl, rfl⟩ := hr
    refine ⟨_, rfl, fun w1 => ?_⟩
    rw [run_callFunc_extern hf hname hb hn he, Lib.run_countString, byte_back]
    rfl
  · cases h

theorem nvIndexByte_ok (hf : P.funcs[f]? = some fn) (hname : (fn.name == "runtime.NumGoroutine") = false) (hb : fn.body.isNone = true) (hn : Extern.findNext fn = none) (he : Extern.find fn = some Extern.BytealgIndexByte.indexByte) : NvOK P f nvIndexByte := by
  intro args v h w N μ H vals hr
  unfold nvIndexByte at h
  split at h
  · rename_i l c
    simp only [Option.some.injEq] at h
    subst h
    simp only [RelVs, RelV] at hr
    obtain ⟨_, _, rfl, rfl, _, _, rfl, rfl, rfl⟩ := hr
    refine ⟨_, rfl, fun w1 => ?_⟩
    rw [run_callFunc_extern hf hname hb hn he, Lib.run_indexByteString, byte_back]
    rfl
  · cases h

end
end Go.Ev
