/- The reference's numbers are read as told here, for every reader. Conditions: those that the theorems name. -/
import Derived.Test.YtadnhiagecamhaaGreatDoorW2
namespace Go.Proofs.YtadnhiagecamhaaGreatDoor
open Go.RowKit

def low7 (x : Int) : Int := IntKind.u64.wrap (bits BinOp.and IntKind.u8 x 127)
def accu (u x : Int) (j : Nat) : Int := bits BinOp.or IntKind.u64 u (IntKind.u64.wrap (low7 x * 2 ^ j))
/-- The reference's number. -/
def decR (X : Nat → Int) (m : Nat) : Nat → Nat → Nat → Int → Option (Int × Nat)
  | 0, _, _, _ => none
  | f + 1, j, k, u => if k < m then (if 63 < j ∨ (j = 63 ∧ 1 < low7 (X k)) ∨ (X k = 0 ∧ 0 < j) then none else if X k < 128 then some (accu u (X k) j, k + 1) else decR X m f (j + 7) (k + 1) (accu u (X k) j)) else none
def unzR (u : Int) : Int := if bits BinOp.and IntKind.u64 u 1 == 1 then wrap64 (bits BinOp.xor IntKind.u64 IntKind.u64.max (u / 2)) else wrap64 (u / 2)

/-- What 'number' leaves. -/
def NumPost (X : Nat → Int) (c b off m cap k0 : Nat) (w : World) (e : Ending) (w' : World) : Prop :=
  Keeps (fun x => x = c) w w' ∧ ((decR X m 12 0 k0 0 = none ∧ e = .returned (.int .i64 0) ∧ ∃ k, Rdr w' c b off m cap k true) ∨
    ∃ u k, decR X m 12 0 k0 0 = some (u, k) ∧ k ≤ m ∧ e = .returned (.int .i64 (unzR u)) ∧ Rdr w' c b off m cap k false)

theorem Rdr.setBad {w : World} {c b off m cap k : Nat} {bad : Bool} (h : Rdr w c b off m cap k bad) (v : Bool) : Rdr (w.setCell ⟨c, 1, none⟩ (.bool v)) c b off m cap k v := by
  obtain ⟨⟨x, h0, h1⟩, h2, h3, h4⟩ := h
  exact ⟨⟨x, by rw [set_other _ _ _ _ (by simp)]; exact h0, h1⟩, World.cell?_setCell_same _ _ _ h2, by rw [frozen_set]; exact h3, by rw [frozen_set]; exact h4⟩

theorem decR_end {X : Nat → Int} {m f j k : Nat} {u : Int} (h : ¬ k < m) : decR X m f j k u = none := by
  cases f with
  | zero => rfl
  | succ f => rw [decR, if_neg h]
theorem decR_bad {X : Nat → Int} {m f j k : Nat} {u : Int} (h : 63 < j ∨ (j = 63 ∧ 1 < low7 (X k)) ∨ (X k = 0 ∧ 0 < j)) : decR X m f j k u = none := by
  cases f with
  | zero => rfl
  | succ f =>
    rw [decR]
    by_cases hk : k < m
    · rw [if_pos hk, if_pos h]
    · rw [if_neg hk]
theorem decR_last {X : Nat → Int} {m f j k : Nat} {u : Int} (hf : 0 < f) (hk : k < m) (h : ¬ (63 < j ∨ (j = 63 ∧ 1 < low7 (X k)) ∨ (X k = 0 ∧ 0 < j))) (hx : X k < 128) : decR X m f j k u = some (accu u (X k) j, k + 1) := by
  cases f with
  | zero => omega
  | succ f => rw [decR, if_pos hk, if_neg h, if_pos hx]
theorem decR_more {X : Nat → Int} {m f j k : Nat} {u : Int} (hf : 0 < f) (hk : k < m) (h : ¬ (63 < j ∨ (j = 63 ∧ 1 < low7 (X k)) ∨ (X k = 0 ∧ 0 < j))) (hx : ¬ X k < 128) : decR X m f j k u = decR X m (f - 1) (j + 7) (k + 1) (accu u (X k) j) := by
  cases f with
  | zero => omega
  | succ f => rw [decR, if_pos hk, if_neg h, if_neg hx]; rfl

theorem unz_true {u : Int} (h : (bits BinOp.and IntKind.u64 u 1 == 1) = true) : unzR u = wrap64 (bits BinOp.xor IntKind.u64 IntKind.u64.max (u / 2)) := by unfold unzR; rw [if_pos h]
theorem unz_false {u : Int} (h : (bits BinOp.and IntKind.u64 u 1 == 1) = false) : unzR u = wrap64 (u / 2) := by unfold unzR; rw [h]; rfl
theorem pow63 : (2 : Int) ^ 63 = 9223372036854775808 := by decide
theorem accu_eq (u x : Int) (j : Nat) : accu u x j = bits BinOp.or IntKind.u64 u (IntKind.u64.wrap (IntKind.u64.wrap (bits BinOp.and IntKind.u8 x 127) * 2 ^ j)) := rfl
theorem accu_63 (u x : Int) {j : Nat} (h : (j : Int) = 63) : accu u x j = bits BinOp.or IntKind.u64 u (IntKind.u64.wrap (IntKind.u64.wrap (bits BinOp.and IntKind.u8 x 127) * 9223372036854775808)) := by
  obtain rfl : j = 63 := by omega
  rw [← pow63]; rfl
theorem accu_0 (u : Int) {x : Int} (j : Nat) (h : x = 0) : accu u x j = bits BinOp.or IntKind.u64 u (IntKind.u64.wrap (IntKind.u64.wrap (bits BinOp.and IntKind.u8 0 127) * 2 ^ j)) := by rw [h]; rfl

set_option maxHeartbeats 4000000 in
theorem number_rel (c b off m cap : Nat) (X : Nat → Int) (k0 : Nat) (w : World) (hcap : m ≤ cap) (hk0 : k0 ≤ m) (hcb : c ≠ b) (hr : Rdr w c b off m cap k0 false) (hb : ∀ i, i < m → w.cell? ⟨b, off + i, none⟩ = some (.int .u8 (X i))) :
    Calls Tryz.prog 33 #[.pointer (some ⟨c, 0, none⟩)] w (NumPost X c b off m cap k0 w) := by
  go_enter Tryz.func33, Tryz.ntmps33
  go_wp2
  go_loopw [3, 4] (fun u s wr => ∃ j k f : Nat, ∃ uu : Int, k ≤ m ∧ u = .int .u64 uu ∧ s = .int .i64 j ∧ j + 7 * f = 84 ∧ j ≤ 70 ∧ decR X m f j k uu = decR X m 12 0 k0 0 ∧ Rdr wr c b off m cap k false ∧ Keeps (fun x => x = c) w wr) (fun _ s _ => 100 - (intOf s).toNat)
  case atStart => exact ⟨0, k0, 12, 0, hk0, rfl, rfl, rfl, by omega, rfl, hr, Keeps.refl _ _⟩
  case round =>
    obtain ⟨j, k, f, uu, g2, rfl, rfl, g6, g3, g7, g4, g5⟩ := hrel
    have hb' : ∀ i, i < m → wr.cell? ⟨b, off + i, none⟩ = some (.int .u8 (X i)) := fun i hi => g5.cell (hb i hi) (fun h => hcb h.symm)
    go_wp2_with (first | (go_at_call 32; refine (one_rel c b off m cap k X wr hcap g2 g4 hb').mono ?_; clear hb' hb hr; rintro e w' (⟨rfl, rfl, h3, h4⟩ | ⟨h1, rfl, h3, h4⟩) <;> have hc1 := h3.c1 <;> have hf1 := h3.f1))
    all_goals first
      | (go_ret
         refine ⟨g5.trans h4, .inl ⟨?_, rfl, _, h3⟩⟩
         rw [← g7]
         exact decR_end (by omega))
      | (go_ret
         refine ⟨(g5.trans h4).setCell _ _ (.inl rfl), .inl ⟨?_, rfl, _, h3.setBad true⟩⟩
         rw [← g7]
         refine decR_bad ?_
         first
           | exact .inl (by omega)
           | exact .inr (.inl ⟨by omega, by unfold low7; assumption⟩)
           | exact .inr (.inr ⟨by assumption, by omega⟩))
      | (have hnc : ¬ (63 < j ∨ (j = 63 ∧ 1 < low7 (X k)) ∨ (X k = 0 ∧ 0 < j)) := by
           rintro (h | ⟨h, h'⟩ | ⟨h, h'⟩)
           · omega
           · first
               | omega
               | (unfold low7 at h'; omega)
           · first
               | omega
               | contradiction
         go_ret
         refine ⟨g5.trans h4, .inr ⟨accu uu (X k) j, k + 1, ?_, by omega, ?_, h3⟩⟩
         · rw [← g7]
           exact decR_last (by omega) h1 hnc (by omega)
         · first
             | (rw [accu_63 _ _ (by assumption), unz_true (by assumption)]; rfl)
             | (rw [accu_63 _ _ (by assumption), unz_false (by assumption)]; rfl)
             | (rw [accu_0 _ _ (by assumption), unz_true (by assumption)]; rfl)
             | (rw [accu_0 _ _ (by assumption), unz_false (by assumption)]; rfl)
             | (rw [accu_eq, unz_true (by assumption)]; rfl)
             | (rw [accu_eq, unz_false (by assumption)]; rfl))
      | (have hnc : ¬ (63 < j ∨ (j = 63 ∧ 1 < low7 (X k)) ∨ (X k = 0 ∧ 0 < j)) := by
           rintro (h | ⟨h, h'⟩ | ⟨h, h'⟩)
           · omega
           · first
               | omega
               | (unfold low7 at h'; omega)
           · first
               | omega
               | contradiction
         have hg8 := (decR_more (u := uu) (by omega : 0 < f) h1 hnc (by omega)).symm.trans g7
         go_roundw
         case rel =>
           first
             | exact ⟨j + 7, k + 1, f - 1, accu uu (X k) j, by omega, by rw [accu_63 _ _ (by assumption)], by go_num, by omega, by omega, hg8, h3, g5.trans h4⟩
             | exact ⟨j + 7, k + 1, f - 1, accu uu (X k) j, by omega, rfl, by go_num, by omega, by omega, hg8, h3, g5.trans h4⟩
         case measure => simp [intOf]; omega)
      | skip
end Go.Proofs.YtadnhiagecamhaaGreatDoor
