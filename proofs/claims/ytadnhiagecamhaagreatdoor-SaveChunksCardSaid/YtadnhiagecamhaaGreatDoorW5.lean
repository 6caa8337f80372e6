/- The program's lengths are read as told here, for every reader. Conditions: those that the theorems name. -/
import Derived.Test.YtadnhiagecamhaaGreatDoorW4
namespace Go.Proofs.YtadnhiagecamhaaGreatDoor
open Go.RowKit

/-- What 'length' reads. -/
def lenP (X : Nat → Int) (m k0 : Nat) : Option (Int × Nat) :=
  match decP X m 12 0 k0 0 with
  | some (u, k) => if unzP u < 0 ∨ ((m - k : Nat) : Int) < unzP u then none else some (unzP u, k)
  | none => none
def LenPost (X : Nat → Int) (c p b off m cap k0 : Nat) (w : World) (e : Ending) (w' : World) : Prop :=
  Keeps (fun x => x = c ∨ x = p) w w' ∧ e = .returned (.tuple #[]) ∧ ((lenP X m k0 = none ∧ (∃ k, Cod w' c b off m cap k true) ∧ Var w' p (.int .i64 0)) ∨
    ∃ n k, lenP X m k0 = some (n, k) ∧ k ≤ m ∧ Cod w' c b off m cap k false ∧ Var w' p (.int .i64 n))

theorem len_bad {X : Nat → Int} {c p b off m cap k0 k : Nat} {w w' : World} {bad : Bool} {pv : Value} (hcp : c ≠ p) (hk : Keeps (fun x => x = c ∨ x = p) w w') (h3 : Cod w' c b off m cap k bad) (hp : Var w' p pv) (hd : lenP X m k0 = none) :
    LenPost X c p b off m cap k0 w (.returned (.tuple #[])) ((w'.setCell ⟨c, 2, none⟩ (.bool true)).setCell ⟨p, 0, none⟩ (.int .i64 0)) :=
  ⟨(hk.setCell _ _ (.inl (.inl rfl))).setCell _ _ (.inl (.inr rfl)), rfl, .inl ⟨hd, ⟨k, (h3.setBad true).other _ (Ne.symm hcp) _⟩, (hp.other ⟨c, 2, none⟩ hcp _).set _⟩⟩
theorem Cod.drew {w : World} {c b off m cap k : Nat} {bad : Bool} (h : Cod w c b off m cap k bad) : Cod w.drew c b off m cap k bad := ⟨h.c0, h.c1, h.c2, h.f0, h.f2⟩
theorem Var.drew {w : World} {x : Nat} {v : Value} (h : Var w x v) : Var w.drew x v := ⟨h.c, h.f⟩

set_option maxHeartbeats 4000000 in
theorem length_rel (c p b off m cap : Nat) (pv : Value) (X : Nat → Int) (k0 : Nat) (w : World) (hcap : m ≤ cap) (hk0 : k0 ≤ m) (hcb : c ≠ b) (hcp : c ≠ p) (hpb : p ≠ b) (hr : Cod w c b off m cap k0 false) (hp : Var w p pv) (hb : ∀ i, i < m → w.cell? ⟨b, off + i, none⟩ = some (.int .u8 (X i))) :
    Calls Tryz.prog 17 #[.pointer (some ⟨c, 0, none⟩), .pointer (some ⟨p, 0, none⟩)] w (LenPost X c p b off m cap k0 w) := by
  have hm := mixed
  go_enter Tryz.func17, Tryz.ntmps17
  go_wp2_with (first | (go_at_call 35; refine (whole_rel c p b off m cap pv X k0 w hcap hk0 hcb hcp hpb hr hp hb).mono ?_; rintro e w' ⟨h4, rfl, (⟨hd, ⟨k, h3⟩, hv⟩ | ⟨u, k, hd, hkm, h3, hv⟩)⟩ <;> have hc1 := h3.c1 <;> have hc2 := h3.c2 <;> have hf2 := h3.f2 <;> have hxc := hv.c <;> have hxf := hv.f <;> clear hp hr hb))
  · go_region
    go_wp2
    refine bodyPost_end (results_none Tryz.results17 _ _ _) rfl ?_
    refine len_bad hcp h4.drew h3.drew hv.drew ?_
    unfold lenP; rw [hd]
  · obtain ⟨v0, hc0, a0, rfl, ha0⟩ := h3.c0
    by_cases q1 : unzP u < 0
    · go_region
      go_wp2
      refine bodyPost_end (results_none Tryz.results17 _ _ _) rfl ?_
      refine len_bad hcp h4.drew h3.drew hv.drew ?_
      unfold lenP; rw [hd]; simp only; rw [if_pos (.inl q1)]
    · by_cases q2 : ((m - k : Nat) : Int) < unzP u
      · go_region
        go_wp2
        refine bodyPost_end (results_none Tryz.results17 _ _ _) rfl ?_
        refine len_bad hcp h4.drew h3.drew hv.drew ?_
        unfold lenP; rw [hd]; simp only; rw [if_pos (.inr q2)]
      · go_region
        go_wp2
        refine bodyPost_end (results_none Tryz.results17 _ _ _) rfl ?_
        refine ⟨h4.drew, rfl, .inr ⟨unzP u, k, ?_, hkm, h3.drew, hv.drew⟩⟩
        unfold lenP; rw [hd]; simp only; rw [if_neg (by omega)]
end Go.Proofs.YtadnhiagecamhaaGreatDoor
