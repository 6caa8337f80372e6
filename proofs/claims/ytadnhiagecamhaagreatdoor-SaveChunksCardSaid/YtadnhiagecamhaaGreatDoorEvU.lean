/- A part of an evaluator of the model's calls and of the proof that it tells the truth. Conditions: those that the theorems name. -/
import Derived.Test.YtadnhiagecamhaaGreatDoorEvS
import Derived.Test.YtadnhiagecamhaaGreatDoorEvT
import Derived.Below
namespace Go.Ev
open Go.RowKit

/-- A closed call: from whatever world, and nothing that was there turns. -/
theorem closed_calls {P : Program} {call : CallF} (hc : CallOK P call) {f : FuncId} {v : AV} {hp' : List (Nat × LB)} {n' : Nat} (hF : factOk call { f := f, args := [], next := 0, hp := [], v := v, next' := n', hp' := hp' } = true) (w : World) :
    Calls P f #[] w fun e w' => ∃ v' κ, e = .returned v' ∧ VR κ v v' ∧ Below w.heap.size w w' := by
  unfold factOk at hF
  cases hcall : call f [] (mkHp 0 []) with
  | none => simp only [hcall] at hF; cases hF
  | some r =>
    simp only [hcall] at hF
    obtain ⟨rv, rh⟩ := r
    have hF : bi (AV.beq rv v) (bi (Nat.beq rh.next n') (leL rh hp') false) false = true := hF
    rw [bi_t] at hF
    have h5 := AV.beq_eq hF.1
    subst h5
    obtain ⟨_, hcalls⟩ := hc _ _ _ _ _ hcall
    have hw : WR (fun _ => none) (mkHp 0 []) w := ⟨fun b p hb => (by cases hb), fun b p K hb _ => (by cases hb), fun b c p q hb => (by cases hb)⟩
    refine Calls.mono (hcalls (fun _ => none) w [] hw .nil) fun e w' he => ?_
    obtain ⟨v', κ, g1, g2, g3, g4⟩ := he
    exact ⟨v', κ, g1, g2, ⟨g4.os, g4.tape, g4.output, g4.size, fun k hk => g4.out k hk fun b p hb => (by cases hb)⟩⟩
end Go.Ev
