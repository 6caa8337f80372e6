/- What the inner check of the law answers (known) is proved by runs of an evaluator. Conditions: those that the theorems name. -/
import Derived.Test.YtadnhiagecamhaaGreatDoorProg
import Derived.KernelRfl
import Derived.Test.YtadnhiagecamhaaGreatDoorEvS
namespace Go.Proofs
open Go.Ev
set_option maxRecDepth 1000000
theorem Tryz.funcsOk : Tryz.prog.funcs.toList.all funcOk = true := by kernel_rfl
theorem Tryz.mixed : Tryz.prog.follows .mixedOrders = true := by kernel_rfl
theorem Tryz.sound {K : CallF} (hK : CallOK Tryz.prog K) (n : Nat) : CallOK Tryz.prog (evCall Tryz.prog K n) :=
  ev_sound Tryz.mixed (fun f fn h => by
    have h1 := Tryz.funcsOk
    rw [List.all_eq_true] at h1
    exact h1 fn (by simpa using Array.mem_of_getElem? h)) hK n
end Go.Proofs
