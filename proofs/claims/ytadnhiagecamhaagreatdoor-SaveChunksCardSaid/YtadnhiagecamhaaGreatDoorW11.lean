/- The reference's Chunks answers what the function spec tells, for at most 60000 bytes. Conditions: those that the theorems name. -/
import Derived.Test.YtadnhiagecamhaaGreatDoorW9
namespace Go.Proofs.YtadnhiagecamhaaGreatDoor
open Go.RowKit

set_option maxHeartbeats 4000000 in
theorem frame_three (b off : Nat) (Y : Nat → Int) (w : World) :
    Calls Tryz.prog 14 #[.slice (some ⟨b, off, none⟩) 3 3] w (FramePost Y 0 (w.heap.size + 1) w) := by
  have hm := mixed
  go_enter Tryz.func14, Tryz.ntmps14
  go_wp2_with fail
  refine wp_loop_rounds 1 ?_
  rw [rounds_succ]
  have h0 : Rdr (w.alloc (.cells #[.slice (some ⟨b, off, none⟩) 0 0, .bool false] 116)) w.heap.size b off 0 0 0 false :=
    ⟨⟨.slice (some ⟨b, off, none⟩) 0 0, by simp, ⟨b, off, none⟩, rfl, fun h => by omega⟩, by simp, by simp, by simp⟩
  go_wp2_with (first | (go_at_call 32; refine (one_rel w.heap.size b off 0 0 0 Y _ (by omega) (by omega) h0 (fun i hi => by omega)).mono ?_; rintro e w1 (⟨_, rfl, h3, h4⟩ | ⟨h1, rfl, h3, h4⟩) <;> have hc1 := h3.c1 <;> have hf1 := h3.f1))
  all_goals first
    | omega
    | skip
  go_ret2
  refine ⟨((Keeps.refl _ _).alloc _).trans_new h4 (fun x h => .inr (by omega)), .inl ⟨chs_end (by omega), _, rfl⟩⟩
end Go.Proofs.YtadnhiagecamhaaGreatDoor
namespace Go.Proofs.YtadnhiagecamhaaGreatDoor
open Go.RowKit

theorem frame_rel (b off cap m : Nat) (Y : Nat → Int) (w : World) (hn6 : m ≤ 60000) (hcap : m + 3 ≤ cap) (hbw : b < w.heap.size) (hr : ∀ i, i < m → 0 ≤ Y i ∧ Y i ≤ 255) (hX : ∀ i, i < m → w.cell? ⟨b, off + 3 + i, none⟩ = some (.int .u8 (Y i))) :
    Calls Tryz.prog 14 #[.slice (some ⟨b, off, none⟩) (m + 3) cap] w (FramePost Y m (w.heap.size + 1) w) := by
  by_cases hc : cap = 3
  · subst hc
    obtain rfl : m = 0 := by omega
    exact frame_three b off Y w
  · exact frame_look b off cap m Y w hn6 hcap hc hbw hr hX

/-- What 'Chunks' answers. -/
def spec (n : Nat) (X : Nat → Int) : Int × List C4 :=
  if n < 3 then (16, []) else if bcode (X 0) (X 1) (X 2) = 0 then (match chs (fun i => X (3 + i)) (n - 3) (n - 3 + 1) 0 0 [] with
    | some l => (0, l)
    | none => (16, [])) else (bcode (X 0) (X 1) (X 2), [])
def ChPost (s : Int × List C4) (base : Nat) (w : World) (e : Ending) (w' : World) : Prop :=
  Keeps (fun _ => False) w w' ∧ ∃ v, e = .returned (.tuple #[v, .int .i64 s.1]) ∧ w'.ownsRow base 30 4 v s.2.length (cells4 s.2)
theorem spec_short {n : Nat} {X : Nat → Int} (h : n < 3) : spec n X = (16, []) := if_pos h
theorem spec_bad {n : Nat} {X : Nat → Int} (h : ¬ n < 3) (hb : ¬ bcode (X 0) (X 1) (X 2) = 0) : spec n X = (bcode (X 0) (X 1) (X 2), []) := by unfold spec; rw [if_neg h, if_neg hb]
theorem spec_none {n : Nat} {X : Nat → Int} (h : ¬ n < 3) (hb : bcode (X 0) (X 1) (X 2) = 0) (hc : chs (fun i => X (3 + i)) (n - 3) (n - 3 + 1) 0 0 [] = none) : spec n X = (16, []) := by unfold spec; rw [if_neg h, if_pos hb, hc]
theorem spec_some {n : Nat} {X : Nat → Int} {l : List C4} (h : ¬ n < 3) (hb : bcode (X 0) (X 1) (X 2) = 0) (hc : chs (fun i => X (3 + i)) (n - 3) (n - 3 + 1) 0 0 [] = some l) : spec n X = (0, l) := by unfold spec; rw [if_neg h, if_pos hb, hc]

theorem own_mono {w : World} {base base' : Nat} {e : TypeId} {size : Nat} {v : Value} {n : Nat} {xs : List Value} (h : w.ownsRow base e size v n xs) (hb : base' ≤ base) : w.ownsRow base' e size v n xs :=
  ⟨h.1, h.2.imp id fun ⟨g, cap, cur, h1, h2, h3⟩ => ⟨g, cap, cur, h1, Nat.le_trans hb h2, h3⟩⟩

set_option maxHeartbeats 1000000 in
theorem chunks5_short (a : Option Addr) (n cap : Nat) (X : Nat → Int) (w : World) (h3 : n < 3) : Calls Tryz.prog 5 #[.slice a n cap] w (ChPost (spec n X) w.heap.size w) := by
  rw [spec_short h3]
  go_enter Tryz.func5, Tryz.ntmps5
  go_wp2_with (first | (go_at_call 13; refine (begin13 a n cap w h3).mono ?_; rintro e w' ⟨rfl, rfl⟩))
  go_ret2
  exact ⟨Keeps.refl _ _, _, rfl, World.ownsRow_nil _ _ _ _⟩

set_option maxHeartbeats 1000000 in
theorem chunks5_long (b off n cap : Nat) (X : Nat → Int) (w : World) (h3 : ¬ n < 3) (hn : n ≤ 60000) (hcap : n ≤ cap) (hr : ∀ i, i < n → 0 ≤ X i ∧ X i ≤ 255) (hX : ∀ i, i < n → w.cell? ⟨b, off + i, none⟩ = some (.int .u8 (X i))) :
    Calls Tryz.prog 5 #[.slice (some ⟨b, off, none⟩) n cap] w (ChPost (spec n X) w.heap.size w) := by
  have c0 := hX 0 (by omega)
  have c1 := hX 1 (by omega)
  have c2 := hX 2 (by omega)
  rw [Nat.add_zero] at c0
  have hbw : b < w.heap.size := block_lt_of_cell c0
  have hb13 := begin13' b off n cap (X 0) (X 1) (X 2) w (by omega) c0 c1 c2
  by_cases hb : bcode (X 0) (X 1) (X 2) = 0
  · rw [hb] at hb13
    obtain ⟨m, rfl⟩ : ∃ m, n = m + 3 := ⟨n - 3, by omega⟩
    have hfr := frame_rel b off cap m (fun i => X (3 + i)) w (by omega) hcap hbw (fun i hi => hr (3 + i) (by omega)) (fun i hi => by rw [Nat.add_assoc]; exact hX (3 + i) (by omega))
    clear c0 c1 c2 hX hr
    go_enter Tryz.func5, Tryz.ntmps5
    go_wp2_with (first
      | (go_at_call 13; refine hb13.mono ?_; rintro e w' ⟨rfl, rfl⟩)
      | (go_at_call 14; refine hfr.mono ?_; rintro e w' ⟨hk, (⟨hc, v, rfl⟩ | ⟨l, v, hc, rfl, ho⟩)⟩))
    · go_ret2
      rw [spec_none h3 hb hc]
      exact ⟨hk, _, rfl, World.ownsRow_nil _ _ _ _⟩
    · go_ret2
      rw [spec_some h3 hb hc]
      exact ⟨hk, _, rfl, own_mono ho (by omega)⟩
  · have hq : (bcode (X 0) (X 1) (X 2) == 0) = false := by simpa using hb
    have hq' : (bcode (X 0) (X 1) (X 2) != 0) = true := by simpa using hb
    clear c0 c1 c2 hX hr
    go_enter Tryz.func5, Tryz.ntmps5
    go_wp2_with (first
      | (go_at_call 13; refine hb13.mono ?_; rintro e w' ⟨rfl, rfl⟩))
    go_ret2
    rw [spec_bad h3 hb]
    exact ⟨Keeps.refl _ _, _, rfl, World.ownsRow_nil _ _ _ _⟩
end Go.Proofs.YtadnhiagecamhaaGreatDoor
