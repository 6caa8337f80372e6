/- What the inner check of the law answers (known) is proved by runs of an evaluator. Conditions: those that the theorems name. -/
import Derived.Test.YtadnhiagecamhaaGreatDoorProg
import Derived.Test.YtadnhiagecamhaaGreatDoorEvU
import Derived.Test.YtadnhiagecamhaaGreatDoorKg
import Derived.Test.YtadnhiagecamhaaGreatDoorKf0
import Derived.Test.YtadnhiagecamhaaGreatDoorKf1
import Derived.Test.YtadnhiagecamhaaGreatDoorKf2
import Derived.Test.YtadnhiagecamhaaGreatDoorKf3
import Derived.Test.YtadnhiagecamhaaGreatDoorKf4
import Derived.Test.YtadnhiagecamhaaGreatDoorKf5
import Derived.Test.YtadnhiagecamhaaGreatDoorKf6
import Derived.Test.YtadnhiagecamhaaGreatDoorKf7
import Derived.Test.YtadnhiagecamhaaGreatDoorKf8
import Derived.Test.YtadnhiagecamhaaGreatDoorKf9
namespace Go.Proofs
open Go.Ev Go.RowKit
theorem Tryz.k0 : CallOK Tryz.prog K0 := noK_ok _
theorem Tryz.k1 : CallOK Tryz.prog K1 := fact_ok (Tryz.sound Tryz.k0 200) Tryz.fact0_ok Tryz.k0
theorem Tryz.k2 : CallOK Tryz.prog K2 := fact_ok (Tryz.sound Tryz.k1 200) Tryz.fact1_ok Tryz.k1
theorem Tryz.k3 : CallOK Tryz.prog K3 := fact_ok (Tryz.sound Tryz.k2 200) Tryz.fact2_ok Tryz.k2
theorem Tryz.k4 : CallOK Tryz.prog K4 := fact_ok (Tryz.sound Tryz.k3 200) Tryz.fact3_ok Tryz.k3
theorem Tryz.k5 : CallOK Tryz.prog K5 := fact_ok (Tryz.sound Tryz.k4 200) Tryz.fact4_ok Tryz.k4
theorem Tryz.k6 : CallOK Tryz.prog K6 := fact_ok (Tryz.sound Tryz.k5 200) Tryz.fact5_ok Tryz.k5
theorem Tryz.k7 : CallOK Tryz.prog K7 := fact_ok (Tryz.sound Tryz.k6 200) Tryz.fact6_ok Tryz.k6
theorem Tryz.k8 : CallOK Tryz.prog K8 := fact_ok (Tryz.sound Tryz.k7 200) Tryz.fact7_ok Tryz.k7
theorem Tryz.k9 : CallOK Tryz.prog K9 := fact_ok (Tryz.sound Tryz.k8 200) Tryz.fact8_ok Tryz.k8
/-- 'known' answers true. -/
theorem Tryz.known_true (w : World) : Calls Tryz.prog 4 #[] w fun e w' => e = .returned (.bool true) ∧ Below w.heap.size w w' :=
  Calls.mono (closed_calls (Tryz.sound Tryz.k9 200) Tryz.fact9_ok w) fun e w' ⟨v', κ, h1, h2, h3⟩ => by
    cases h2
    exact ⟨h1, h3⟩
end Go.Proofs
