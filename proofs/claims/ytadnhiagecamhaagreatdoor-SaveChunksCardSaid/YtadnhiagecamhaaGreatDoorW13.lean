/- The program's Chunks answers what the function spec tells, for at most 60000 bytes. Conditions: those that the theorems name. -/
import Derived.Test.YtadnhiagecamhaaGreatDoorW12
namespace Go.Proofs.YtadnhiagecamhaaGreatDoor
open Go.RowKit

set_option maxHeartbeats 4000000 in
theorem chunks6_three (b off : Nat) (x0 x1 x2 : Int) (Y : Nat → Int) (w : World) (c0 : w.cell? ⟨b, off, none⟩ = some (.int .u8 x0)) (c1 : w.cell? ⟨b, off + 1, none⟩ = some (.int .u8 x1)) (c2 : w.cell? ⟨b, off + 2, none⟩ = some (.int .u8 x2)) (hcode : bcode x0 x1 x2 = 0) :
    Calls Tryz.prog 6 #[.slice (some ⟨b, off, none⟩) 3 3] w (ProgPost Y 0 (w.heap.size + 1) w) := by
  have hm := mixed
  have hbeg := begin15' b off 3 3 x0 x1 x2 w (by omega) c0 c1 c2
  rw [hcode] at hbeg
  clear c0 c1 c2
  go_enter Tryz.func6, Tryz.ntmps6
  go_wp2_with (first | (go_at_call 15; refine hbeg.mono ?_; clear hbeg; rintro e w' ⟨rfl, hw⟩; obtain rfl := hw.symm))
  refine wp_loop_rounds 1 ?_
  rw [rounds_succ]
  have h0 : Cod (w.alloc (.cells #[.slice (some ⟨b, off, none⟩) 0 0, .bool true, .bool false, .int .i64 0] 79)) w.heap.size b off 0 0 0 false :=
    ⟨⟨.slice (some ⟨b, off, none⟩) 0 0, by simp, ⟨b, off, none⟩, rfl, fun h => by omega⟩, by simp, by simp, by simp, by simp⟩
  have hv0 := Var.fresh (w.alloc (.cells #[.slice (some ⟨b, off, none⟩) 0 0, .bool true, .bool false, .int .i64 0] 79)) (.int .u8 0) 5
  have h1 := h0.alloc (.cells #[.int .u8 0] 5)
  have hsz : (w.alloc (.cells #[.slice (some ⟨b, off, none⟩) 0 0, .bool true, .bool false, .int .i64 0] 79)).heap.size = w.heap.size + 1 := by simp
  rw [hsz] at hv0
  go_wp2_with (first | (go_at_call 16; refine (octet_rel w.heap.size (w.heap.size + 1) b off 0 0 0 _ Y _ (by omega) (by omega) (by omega) h1 hv0 (fun i hi => by omega)).mono ?_; rintro e w1 (⟨_, rfl, h3, hx3, h4⟩ | ⟨h1, rfl, h3, hx3, h4⟩) <;> have hc2 := h3.c2 <;> have hxc := hx3.c))
  all_goals first
    | omega
    | skip
  go_ret2
  refine ⟨(((Keeps.refl _ _).alloc _).alloc _).trans_new h4 (fun x h => .inr (by omega)), .inl ⟨chs_end (by omega), rfl⟩⟩

theorem chunks6_rel (b off m cap : Nat) (x0 x1 x2 : Int) (Y : Nat → Int) (w : World) (hn6 : m ≤ 60000) (hcap : m + 3 ≤ cap) (hr : ∀ i, i < m → 0 ≤ Y i ∧ Y i ≤ 255)
    (hX : ∀ i, i < m → w.cell? ⟨b, off + 3 + i, none⟩ = some (.int .u8 (Y i))) (c0 : w.cell? ⟨b, off, none⟩ = some (.int .u8 x0)) (c1 : w.cell? ⟨b, off + 1, none⟩ = some (.int .u8 x1)) (c2 : w.cell? ⟨b, off + 2, none⟩ = some (.int .u8 x2)) (hcode : bcode x0 x1 x2 = 0) :
    Calls Tryz.prog 6 #[.slice (some ⟨b, off, none⟩) (m + 3) cap] w (ProgPost Y m (w.heap.size + 1) w) := by
  by_cases hc : cap = 3
  · subst hc
    obtain rfl : m = 0 := by omega
    exact chunks6_three b off x0 x1 x2 Y w c0 c1 c2 hcode
  · exact chunks6_look b off m cap x0 x1 x2 Y w hn6 hcap hc (block_lt_of_cell c0) hr hX c0 c1 c2 hcode

set_option maxHeartbeats 1000000 in
theorem chunks6_short (a : Option Addr) (n cap : Nat) (X : Nat → Int) (w : World) (h3 : n < 3) : Calls Tryz.prog 6 #[.slice a n cap] w (ChPost (spec n X) w.heap.size w) := by
  rw [spec_short h3]
  go_enter Tryz.func6, Tryz.ntmps6
  go_wp2_with (first | (go_at_call 15; refine (begin15 a n cap w h3).mono ?_; rintro e w' ⟨rfl, rfl⟩))
  go_ret2
  exact ⟨Keeps.refl _ _, _, rfl, World.ownsRow_nil _ _ _ _⟩

set_option maxHeartbeats 1000000 in
theorem chunks6_long (b off n cap : Nat) (X : Nat → Int) (w : World) (h3 : ¬ n < 3) (hn : n ≤ 60000) (hcap : n ≤ cap) (hr : ∀ i, i < n → 0 ≤ X i ∧ X i ≤ 255) (hX : ∀ i, i < n → w.cell? ⟨b, off + i, none⟩ = some (.int .u8 (X i))) :
    Calls Tryz.prog 6 #[.slice (some ⟨b, off, none⟩) n cap] w (ChPost (spec n X) w.heap.size w) := by
  have c0 := hX 0 (by omega)
  have c1 := hX 1 (by omega)
  have c2 := hX 2 (by omega)
  rw [Nat.add_zero] at c0
  by_cases hb : bcode (X 0) (X 1) (X 2) = 0
  · obtain ⟨m, rfl⟩ : ∃ m, n = m + 3 := ⟨n - 3, by omega⟩
    refine (chunks6_rel b off m cap (X 0) (X 1) (X 2) (fun i => X (3 + i)) w (by omega) hcap (fun i hi => hr (3 + i) (by omega)) (fun i hi => by rw [Nat.add_assoc]; exact hX (3 + i) (by omega)) c0 c1 c2 hb).mono ?_
    rintro e w' ⟨hk, (⟨hc, rfl⟩ | ⟨l, v, hc, rfl, ho⟩)⟩
    · rw [spec_none h3 hb hc]
      exact ⟨hk, _, rfl, World.ownsRow_nil _ _ _ _⟩
    · rw [spec_some h3 hb hc]
      exact ⟨hk, _, rfl, own_mono ho (by omega)⟩
  · have hb15 := begin15' b off n cap (X 0) (X 1) (X 2) w (by omega) c0 c1 c2
    have hq : (bcode (X 0) (X 1) (X 2) == 0) = false := by simpa using hb
    have hq' : (bcode (X 0) (X 1) (X 2) != 0) = true := by simpa using hb
    clear c0 c1 c2 hX hr
    go_enter Tryz.func6, Tryz.ntmps6
    go_wp2_with (first
      | (go_at_call 15; refine hb15.mono ?_; rintro e w' ⟨rfl, rfl⟩))
    go_ret2
    rw [spec_bad h3 hb]
    exact ⟨Keeps.refl _ _, _, rfl, World.ownsRow_nil _ _ _ _⟩
end Go.Proofs.YtadnhiagecamhaaGreatDoor
