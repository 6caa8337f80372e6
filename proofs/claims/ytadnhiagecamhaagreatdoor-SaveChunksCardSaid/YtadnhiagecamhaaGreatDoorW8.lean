/- The two ways to read a number agree, and lists of chunks that are alike are told alike, for lists of at most 1000000 chunks. Conditions: those that the theorems name. -/
import Derived.Test.YtadnhiagecamhaaGreatDoorW5
namespace Go.Proofs.YtadnhiagecamhaaGreatDoor
open Go.RowKit

theorem low7_nat : ∀ n : Nat, n < 256 → low7 (n : Int) = ((n % 128 : Nat) : Int) := by decide +kernel
theorem low7_eq {x : Int} (h0 : 0 ≤ x) (h1 : x ≤ 255) : low7 x = x % 128 := by
  obtain ⟨n, rfl⟩ := Int.eq_ofNat_of_zero_le h0
  rw [low7_nat n (by omega)]
  omega

/-- The two ways of reading a number agree. -/
theorem dec_same {X : Nat → Int} {m : Nat} (hX : ∀ i, i < m → 0 ≤ X i ∧ X i ≤ 255) : ∀ (f j k : Nat) (u : Int), j + 7 * f = 84 → j ≤ 63 → decR X m f j k u = decP X m f j k u
  | 0, j, k, u, h, h' => by omega
  | f + 1, j, k, u, h, h' => by
    by_cases hk : k < m
    · obtain ⟨b0, b1⟩ := hX k hk
      have hl := low7_eq b0 b1
      by_cases hj : j = 63
      · subst hj
        by_cases hx : X k = 1
        · rw [decR_last (by omega) hk (by rw [hl]; omega) (by omega), decP_last (by omega) hk (by omega) (by omega)]
        · rw [decP_bad (by omega)]
          by_cases hb : 63 < 63 ∨ (63 = 63 ∧ 1 < low7 (X k)) ∨ (X k = 0 ∧ 0 < 63)
          · exact decR_bad hb
          · rw [decR_more (by omega) hk hb (by rw [hl] at hb; omega)]
            exact decR_bad (.inl (by omega))
      · by_cases hb : 0 < j ∧ X k = 0
        · rw [decR_bad (.inr (.inr ⟨hb.2, hb.1⟩)), decP_bad (.inr hb)]
        · have hnR : ¬ (63 < j ∨ (j = 63 ∧ 1 < low7 (X k)) ∨ (X k = 0 ∧ 0 < j)) := by omega
          have hnP : ¬ ((j = 63 ∧ 1 < X k) ∨ (0 < j ∧ X k = 0)) := by omega
          by_cases hx : X k < 128
          · rw [decR_last (by omega) hk hnR hx, decP_last (by omega) hk hnP hx]
          · rw [decR_more (by omega) hk hnR hx, decP_more (by omega) hk hnP hx]
            exact dec_same hX f (j + 7) (k + 1) _ (by omega) (by omega)
    · rw [decR_end hk, decP_end hk]

theorem decP_range {X : Nat → Int} {m : Nat} : ∀ (f j k : Nat) (u v : Int) (k' : Nat), decP X m f j k u = some (v, k') → 0 ≤ v ∧ v ≤ 18446744073709551615 ∧ k < k' ∧ k' ≤ m
  | 0, j, k, u, v, k', h => by cases h
  | f + 1, j, k, u, v, k', h => by
    rw [decP] at h
    by_cases hk : k < m
    · rw [if_pos hk] at h
      by_cases hb : (j = 63 ∧ 1 < X k) ∨ (0 < j ∧ X k = 0)
      · rw [if_pos hb] at h; cases h
      · rw [if_neg hb] at h
        by_cases hx : X k < 128
        · rw [if_pos hx] at h
          simp only [Option.some.injEq, Prod.mk.injEq] at h
          obtain ⟨rfl, rfl⟩ := h
          exact ⟨bits_lo_u64 _ _ _, bits_hi_u64 _ _ _, by omega, by omega⟩
        · rw [if_neg hx] at h
          have := decP_range f _ _ _ _ _ h
          omega
    · rw [if_neg hk] at h; cases h

theorem xor_ones (h : Nat) (hh : h < 18446744073709551616) : (18446744073709551615 ^^^ h : Nat) = 18446744073709551615 - h := by
  have h2 : (BitVec.ofNat 64 h).toNat = h := by rw [BitVec.toNat_ofNat]; exact Nat.mod_eq_of_lt (by omega)
  have h3 := BitVec.toNat_not (x := BitVec.ofNat 64 h)
  rw [← BitVec.allOnes_xor, BitVec.toNat_xor, h2] at h3
  have h4 : (BitVec.allOnes 64).toNat = 18446744073709551615 := by decide
  rw [h4] at h3
  rw [h3]
theorem bits_compl_i64 (h : Nat) (hh : h < 9223372036854775808) : bits BinOp.xor IntKind.i64 (-1) (h : Int) = -1 - (h : Int) := by
  show IntKind.i64.wrap ((BitVec.ofInt 64 (-1) ^^^ BitVec.ofInt 64 (h : Int)).toNat : Int) = _
  have e1 : BitVec.ofInt 64 (-1) = BitVec.allOnes 64 := by decide
  have h2 : (BitVec.ofInt 64 (h : Int)).toNat = h := by
    rw [BitVec.ofInt_natCast, BitVec.toNat_ofNat]; exact Nat.mod_eq_of_lt (by omega)
  have h4 : (BitVec.allOnes 64).toNat = 18446744073709551615 := by decide
  rw [BitVec.toNat_xor, h2, e1, h4, xor_ones h (by omega)]
  rw [IntKind.wrap_i64]
  omega
theorem unz_same {u : Int} (h0 : 0 ≤ u) (h1 : u ≤ 18446744073709551615) : unzR u = unzP u := by
  unfold unzR unzP
  split
  · obtain ⟨n, rfl⟩ := Int.eq_ofNat_of_zero_le h0
    have hn : n < 18446744073709551616 := by omega
    have e1 : ((n : Int) / 2) = ((n / 2 : Nat) : Int) := by omega
    have hh : n / 2 < 9223372036854775808 := by omega
    rw [e1]
    generalize n / 2 = h at hh
    have e2 : wrap64 (h : Int) = h := by unfold wrap64; omega
    rw [e2]
    have e3 : IntKind.u64.max = ((18446744073709551615 : Nat) : Int) := by decide
    rw [e3, bits_xor_u64_nat _ _ (by omega) (by omega), bits_compl_i64 h hh, xor_ones h (by omega)]
    unfold wrap64
    omega
  · rfl
end Go.Proofs.YtadnhiagecamhaaGreatDoor
namespace Go.Proofs.YtadnhiagecamhaaGreatDoor
open Go.RowKit

/-- A chunk's cells. -/
def ck (T F U : Nat → Int) (G : Nat → Bool) (k : Nat) : List Value := [.int .i64 (T k), .int .i64 (F k), .int .i64 (U k), .bool (G k)]

/-- A slice that holds n chunks. -/
def Row4 (w : World) (g : Nat) (n : Nat) (T F U : Nat → Int) (G : Nat → Bool) : Prop :=
  ∀ k, k < n → w.cell? ⟨g, k * 4, none⟩ = some (.int .i64 (T k)) ∧ w.cell? ⟨g, k * 4 + 1, none⟩ = some (.int .i64 (F k)) ∧ w.cell? ⟨g, k * 4 + 2, none⟩ = some (.int .i64 (U k)) ∧ w.cell? ⟨g, k * 4 + 3, none⟩ = some (.bool (G k))

set_option maxHeartbeats 4000000 in
theorem same_rel (g g' n cap cap' : Nat) (T F U : Nat → Int) (G : Nat → Bool) (w : World) (hn : n ≤ 1000000) (h1 : Row4 w g n T F U G) (h2 : Row4 w g' n T F U G) :
    Calls Tryz.prog 7 #[.slice (some ⟨g, 0, none⟩) n cap, .slice (some ⟨g', 0, none⟩) n cap'] w fun e w' => e = .returned (.bool true) ∧ Keeps (fun _ => False) w w' := by
  have hm := mixed
  go_enter Tryz.func7, Tryz.ntmps7
  go_wp2
  go_loopw [5] (fun i wr => ∃ k : Nat, k ≤ n ∧ i = .int .i64 k ∧ Keeps (fun _ => False) w wr) (fun i _ => n - (intOf i).toNat)
  case atStart => exact ⟨0, Nat.zero_le _, rfl, Keeps.refl _ _⟩
  case round =>
    obtain ⟨k, hk, rfl, hw⟩ := hrel
    by_cases hlt : k < n
    · obtain ⟨a0, a1, a2, a3⟩ := h1 k hlt
      obtain ⟨b0, b1, b2, b3⟩ := h2 k hlt
      have a0 := hw.cell a0 (fun h => h)
      have a1 := hw.cell a1 (fun h => h)
      have a2 := hw.cell a2 (fun h => h)
      have a3 := hw.cell a3 (fun h => h)
      have b0 := hw.cell b0 (fun h => h)
      have b1 := hw.cell b1 (fun h => h)
      have b2 := hw.cell b2 (fun h => h)
      have b3 := hw.cell b3 (fun h => h)
      clear h1 h2
      go_wp2
      go_region
      go_wp2
      go_roundw
      case rel => exact ⟨k + 1, by omega, by go_num, hw.drew⟩
      case measure => simp [intOf]; omega
    · have : k = n := by omega
      subst this
      go_wp2
      go_ret
      exact ⟨rfl, hw⟩

set_option maxHeartbeats 1000000 in
theorem same_none (a a' : Option Addr) (cap cap' : Nat) (w : World) :
    Calls Tryz.prog 7 #[.slice a 0 cap, .slice a' 0 cap'] w fun e w' => e = .returned (.bool true) ∧ Keeps (fun _ => False) w w' := by
  go_enter Tryz.func7, Tryz.ntmps7
  go_wp2
  refine wp_loop_rounds 1 ?_
  rw [rounds_succ]
  go_wp2
  go_ret
  exact ⟨rfl, Keeps.refl _ _⟩
end Go.Proofs.YtadnhiagecamhaaGreatDoor
