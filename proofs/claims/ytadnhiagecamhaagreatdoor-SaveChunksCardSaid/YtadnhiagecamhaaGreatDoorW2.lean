/- The reference's reader reads one byte as told here, for every reader. Conditions: those that the theorems name. -/
import Derived.Test.YtadnhiagecamhaaGreatDoorW1
namespace Go.Proofs.YtadnhiagecamhaaGreatDoor
open Go.RowKit

set_option maxHeartbeats 1000000 in
theorem one_empty (c cap : Nat) (a : Option Addr) (w : World) (c0 : w.cell? ⟨c, 0, none⟩ = some (.slice a 0 cap)) (c1 : w.cell? ⟨c, 1, none⟩ = some (.bool false)) (f1 : w.frozen? ⟨c, 1, none⟩ = false) :
    Calls Tryz.prog 32 #[.pointer (some ⟨c, 0, none⟩)] w fun e w' => e = .returned (.int .u8 0) ∧ w' = w.setCell ⟨c, 1, none⟩ (.bool true) := by
  go_enter Tryz.func32, Tryz.ntmps32
  go_wp2
  go_ret
  exact ⟨rfl, rfl⟩

set_option maxHeartbeats 1000000 in
theorem one_some (c b off n cap : Nat) (v : Int) (w : World) (hcap : n + 1 ≤ cap) (c0 : w.cell? ⟨c, 0, none⟩ = some (.slice (some ⟨b, off, none⟩) (n + 1) cap)) (c1 : w.cell? ⟨c, 1, none⟩ = some (.bool false))
    (f0 : w.frozen? ⟨c, 0, none⟩ = false) (cb : w.cell? ⟨b, off, none⟩ = some (.int .u8 v)) :
    Calls Tryz.prog 32 #[.pointer (some ⟨c, 0, none⟩)] w fun e w' => e = .returned (.int .u8 v) ∧
      w' = w.setCell ⟨c, 0, none⟩ (.slice (if cap = 1 then some ⟨b, off, none⟩ else some ⟨b, off + 1, none⟩) n (cap - 1)) := by
  have hq : (((n : Int) + 1) == 0) = false := by simp; omega
  have h1n : (0 : Int) < (n : Int) + 1 := by omega
  by_cases hc1 : cap = 1
  · subst hc1
    obtain rfl : n = 0 := by omega
    go_enter Tryz.func32, Tryz.ntmps32
    go_wp2
    go_ret
    exact ⟨rfl, rfl⟩
  · simp only [hc1, if_false]
    go_enter Tryz.func32, Tryz.ntmps32
    go_wp2
    go_ret
    exact ⟨rfl, rfl⟩

/-- What is left of the bytes xs behind the first k: a slice of them. -/
def Rest (v : Value) (b off : Nat) (m cap k : Nat) : Prop :=
  ∃ a, v = .slice (some a) (m - k) (cap - k) ∧ (k < m → a = ⟨b, off + k, none⟩)

/-- The blocks that a call leaves alone. -/
structure Keeps (S : Nat → Prop) (w w' : World) : Prop where
  os : w'.os = w.os
  tape : w'.tape = w.tape
  output : w'.output = w.output
  size : w.heap.size ≤ w'.heap.size
  block : ∀ k, k < w.heap.size → ¬ S k → w'.heap[k]? = w.heap[k]?
theorem Keeps.refl (S : Nat → Prop) (w : World) : Keeps S w w := ⟨rfl, rfl, rfl, Nat.le_refl _, fun _ _ _ => rfl⟩
theorem Keeps.trans {S : Nat → Prop} {a b c : World} (h : Keeps S a b) (k : Keeps S b c) : Keeps S a c :=
  ⟨k.os.trans h.os, k.tape.trans h.tape, k.output.trans h.output, Nat.le_trans h.size k.size, fun j hj hs => (k.block j (Nat.lt_of_lt_of_le hj h.size) hs).trans (h.block j hj hs)⟩
theorem Keeps.mono {S T : Nat → Prop} {a b : World} (h : Keeps S a b) (hs : ∀ k, S k → T k) : Keeps T a b := ⟨h.os, h.tape, h.output, h.size, fun k hk hn => h.block k hk fun x => hn (hs k x)⟩
theorem Keeps.setCell {S : Nat → Prop} {w w' : World} (h : Keeps S w w') (a : Addr) (v : Value) (hs : S a.block ∨ w.heap.size ≤ a.block) : Keeps S w (w'.setCell a v) :=
  ⟨h.os, h.tape, h.output, by have := h.size; simpa [World.setCell] using this, fun k hk hn => by
    have hne : k ≠ a.block := by rintro rfl; rcases hs with hs | hs; exact hn hs; omega
    rw [Below.heap_setCell _ _ _ _ hne]; exact h.block k hk hn⟩
theorem Keeps.alloc {S : Nat → Prop} {w w' : World} (h : Keeps S w w') (o : Obj) : Keeps S w (w'.alloc o) :=
  ⟨h.os, h.tape, h.output, by have := h.size; simp; omega, fun k hk hn => by
    rw [Below.heap_alloc _ _ _ (Nat.lt_of_lt_of_le hk h.size)]; exact h.block k hk hn⟩
theorem Keeps.drew {S : Nat → Prop} {w w' : World} (h : Keeps S w w') : Keeps S w w'.drew := ⟨h.os, h.tape, h.output, h.size, h.block⟩
theorem Keeps.cell {S : Nat → Prop} {w w' : World} (h : Keeps S w w') {a : Addr} {v : Value} (hc : w.cell? a = some v) (hn : ¬ S a.block) : w'.cell? a = some v := by
  rw [← hc]; exact World.cell?_of_block (h.block a.block (block_lt_of_cell hc) hn)

/-- The reference's reader. -/
structure Rdr (w : World) (c b off m cap k : Nat) (bad : Bool) : Prop where
  c0 : ∃ v, w.cell? ⟨c, 0, none⟩ = some v ∧ Rest v b off m cap k
  c1 : w.cell? ⟨c, 1, none⟩ = some (.bool bad)
  f0 : w.frozen? ⟨c, 0, none⟩ = false
  f1 : w.frozen? ⟨c, 1, none⟩ = false

theorem set_other (w : World) (a b : Addr) (v : Value) (h : a ≠ b) : (w.setCell a v).cell? b = w.cell? b := World.cell?_setCell_other w a b v h
theorem frozen_set (w : World) (a p : Addr) (v : Value) : (w.setCell a v).frozen? p = w.frozen? p := by simp

theorem one_rel (c b off m cap k : Nat) (X : Nat → Int) (w : World) (hcap : m ≤ cap) (hk : k ≤ m) (hr : Rdr w c b off m cap k false) (hb : ∀ i, i < m → w.cell? ⟨b, off + i, none⟩ = some (.int .u8 (X i))) :
    Calls Tryz.prog 32 #[.pointer (some ⟨c, 0, none⟩)] w fun e w' =>
      (k = m ∧ e = .returned (.int .u8 0) ∧ Rdr w' c b off m cap k true ∧ Keeps (fun x => x = c) w w') ∨
      (k < m ∧ e = .returned (.int .u8 (X k)) ∧ Rdr w' c b off m cap (k + 1) false ∧ Keeps (fun x => x = c) w w') := by
  obtain ⟨⟨v, c0, a, rfl, ha⟩, c1, f0, f1⟩ := hr
  by_cases hkm : k = m
  · subst hkm
    rw [Nat.sub_self] at c0
    refine (one_empty c (cap - k) (some a) w c0 c1 f1).mono fun e w' ⟨he, hw⟩ => .inl ⟨rfl, he, ?_, ?_⟩
    · subst hw
      refine ⟨⟨_, by rw [set_other _ _ _ _ (by simp)]; exact c0, a, by rw [Nat.sub_self], fun h => by omega⟩, World.cell?_setCell_same _ _ _ c1, by rw [frozen_set]; exact f0, by rw [frozen_set]; exact f1⟩
    · subst hw; exact (Keeps.refl _ _).setCell _ _ (.inl rfl)
  · have hlt : k < m := by omega
    obtain rfl := ha hlt
    have e1 : m - k = (m - (k + 1)) + 1 := by omega
    rw [e1] at c0
    refine (one_some c b (off + k) (m - (k + 1)) (cap - k) (X k) w (by omega) c0 c1 f0 (hb k hlt)).mono fun e w' ⟨he, hw⟩ => .inr ⟨hlt, he, ?_, ?_⟩
    · subst hw
      refine ⟨⟨_, World.cell?_setCell_same _ _ _ c0, (if cap - k = 1 then ⟨b, off + k, none⟩ else ⟨b, off + k + 1, none⟩), ?_, fun h => ?_⟩, by rw [set_other _ _ _ _ (by simp)]; exact c1, by rw [frozen_set]; exact f0, by rw [frozen_set]; exact f1⟩
      · have : cap - k - 1 = cap - (k + 1) := by omega
        rw [this]
        split <;> rfl
      · rw [if_neg (by omega), Nat.add_assoc]
    · subst hw; exact (Keeps.refl _ _).setCell _ _ (.inl rfl)
end Go.Proofs.YtadnhiagecamhaaGreatDoor
