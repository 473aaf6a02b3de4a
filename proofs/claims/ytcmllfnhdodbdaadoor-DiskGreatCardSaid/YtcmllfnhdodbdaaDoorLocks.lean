/- Where this program holds the library's lock. -/
import Derived.Test.YtcmllfnhdodbdaaDoorProg
import Derived.Conc.RwLib
import Derived.Conc.MuData
import Derived.KernelRfl
namespace Go.Proofs.YtcmllfnhdodbdaaDoor
set_option linter.unusedVariables false
set_option linter.unusedSimpArgs false
abbrev muLink : Go.Conc.Locks.MuLink := { lock := 29, unlock := 30, ilock := 47, iunlock := 48, lockSlow := 58, unlockSlow := 61, disable := 54, enable := 56, acquire := 57, relMerge := 59, cas32 := 55, add32 := 60, tMutex := 70, tIMutex := 68, tPMutex := 86, tPIMutex := 90, tPI32 := 92, tUP := 94, tNoCopy := 65, tU32 := 66 }
theorem muLib : Go.Conc.Locks.MuLib Tryd.prog muLink :=
  ⟨Tryd.func29, Tryd.func30, Tryd.func47, Tryd.func48, Tryd.func54, Tryd.func56, Tryd.func57, Tryd.func59, Tryd.func55, Tryd.func60,
    Tryd.underlying68, Tryd.runUnderlying68, Tryd.sizeOf68, Tryd.isAgg68, Tryd.zeroValue68,
    Tryd.underlying70, Tryd.runUnderlying70, Tryd.sizeOf70, Tryd.isAgg70, Tryd.zeroValue70,
    Tryd.underlying86, Tryd.runUnderlying86, Tryd.sizeOf86, Tryd.isAgg86, Tryd.zeroValue86,
    Tryd.underlying90, Tryd.runUnderlying90, Tryd.sizeOf90, Tryd.isAgg90, Tryd.zeroValue90,
    Tryd.underlying92, Tryd.runUnderlying92, Tryd.sizeOf92, Tryd.isAgg92, Tryd.zeroValue92,
    Tryd.underlying94, Tryd.runUnderlying94, Tryd.sizeOf94, Tryd.isAgg94, Tryd.zeroValue94,
    Tryd.underlying65, Tryd.runUnderlying65, Tryd.sizeOf65, Tryd.isAgg65, Tryd.zeroValue65,
    Tryd.underlying21, Tryd.runUnderlying21, Tryd.sizeOf21, Tryd.isAgg21, Tryd.zeroValue21, (by kernel_rfl)⟩
theorem muData : Go.Conc.Locks.MuData Tryd.prog muLink := ⟨Tryd.underlying66, by kernel_rfl, by kernel_rfl, by kernel_rfl, by kernel_rfl, by kernel_rfl⟩
end Go.Proofs.YtcmllfnhdodbdaaDoor
