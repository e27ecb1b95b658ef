/- The numbers under which this translation holds the library's lock; that it holds it. -/
import Derived.Test.YtcibnfjpagmdaaaProg
import Derived.Conc.MuLone
import Derived.KernelRfl
import Derived.WalkKit
import Derived.WalkSpells
namespace Go.Proofs.Ytcibnfjpagmdaaa
abbrev muLink : Go.Conc.Locks.MuLink := { lock := 183, unlock := 184, ilock := 214, iunlock := 215, lockSlow := 222, unlockSlow := 224, disable := 189, enable := 190, acquire := 201, relMerge := 188, cas32 := 221, add32 := 223, tMutex := 78, tIMutex := 76, tPMutex := 287, tPIMutex := 294, tPI32 := 296, tUP := 270, tNoCopy := 73, tU32 := 74 }
theorem muLib : Go.Conc.Locks.MuLib Try.prog muLink :=
  ⟨Try.func183, Try.func184, Try.func214, Try.func215, Try.func189, Try.func190, Try.func201, Try.func188, Try.func221, Try.func223,
   Try.underlying76, Try.runUnderlying76, Try.sizeOf76, Try.isAgg76, Try.zeroValue76,
   Try.underlying78, Try.runUnderlying78, Try.sizeOf78, Try.isAgg78, Try.zeroValue78,
   Try.underlying287, Try.runUnderlying287, Try.sizeOf287, Try.isAgg287, Try.zeroValue287,
   Try.underlying294, Try.runUnderlying294, Try.sizeOf294, Try.isAgg294, Try.zeroValue294,
   Try.underlying296, Try.runUnderlying296, Try.sizeOf296, Try.isAgg296, Try.zeroValue296,
   Try.underlying270, Try.runUnderlying270, Try.sizeOf270, Try.isAgg270, Try.zeroValue270,
   Try.underlying73, Try.runUnderlying73, Try.sizeOf73, Try.isAgg73, Try.zeroValue73,
   Try.underlying21, Try.runUnderlying21, Try.sizeOf21, Try.isAgg21, Try.zeroValue21, by kernel_rfl⟩
end Go.Proofs.Ytcibnfjpagmdaaa
