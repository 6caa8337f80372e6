/- The sums of bytes, the first bytes of a save and the two ways to read one byte answer as told here, for every list of bytes. Conditions: those that the theorems name. -/
import Derived.Test.YtadnhiagecamhaaGreatDoorProg
import Derived.WalkKit
import Derived.WalkSpells
import Derived.KernelRfl
namespace Go.Proofs.YtadnhiagecamhaaGreatDoor
open Go.RowKit

theorem mixed : Tryz.prog.follows .mixedOrders = true := by kernel_rfl

/-- One round of the sum of bytes, as the model reckons it. -/
def mix (h x : Int) : Int := bits BinOp.xor IntKind.u32 h (x % 4294967296) * 16777619 % 4294967296
def fnv (xs : List Int) : Int := wrap64 (xs.foldl mix 2166136261)

theorem take_succ_get (xs : List Int) (k : Nat) (h : k < xs.length) : xs.take (k + 1) = xs.take k ++ [xs[k]] := List.take_succ_eq_append_getElem h
theorem foldl_take (f : Int → Int → Int) (a : Int) (xs : List Int) (k : Nat) (h : k < xs.length) : (xs.take (k + 1)).foldl f a = f ((xs.take k).foldl f a) xs[k] := by
  rw [take_succ_get xs k h, List.foldl_append]; rfl

set_option maxHeartbeats 1000000 in
theorem bytes12 (b off n cap : Nat) (xs : List Int) (w : World) (hl : xs.length = n) (hb : n ≤ 9223372036854775807) (hc : ∀ i, i < n → w.cell? ⟨b, off + i, none⟩ = some (.int .u8 (xs.getD i 0))) :
    Calls Tryz.prog 12 #[.slice (some ⟨b, off, none⟩) n cap] w fun e w' => e = .returned (.int .i64 (fnv xs)) ∧ w' = w := by
  go_enter Tryz.func12, Tryz.ntmps12
  go_wp2
  go_loop [3, 8] (fun h i => ∃ k : Nat, k ≤ n ∧ i = .int .i64 k ∧ h = .int .u32 ((xs.take k).foldl mix 2166136261)) (fun _ i => n - (intOf i).toNat)
  case atStart => exact ⟨0, Nat.zero_le _, rfl, rfl⟩
  case round =>
    obtain ⟨k, hk, rfl, rfl⟩ := hrel
    have hcell : k < n → w.cell? ⟨b, off + k, none⟩ = some (.int .u8 (xs.getD k 0)) := fun _ => hc k (by omega)
    go_wp2
    · have hlt : k < n := by assumption
      go_round
      case rel =>
        refine ⟨k + 1, by omega, by go_num, ?_⟩
        rw [foldl_take _ _ _ _ (by omega)]
        rfl
      case measure => simp [intOf]; omega
    · have hge : ¬ k < n := by assumption
      have hkn : k = n := by omega
      subst hkn
      go_ret
      refine ⟨?_, rfl⟩
      rw [List.take_of_length_le (by omega)]
      rfl

set_option maxHeartbeats 1000000 in
theorem bytes34 (b off n cap : Nat) (xs : List Int) (w : World) (hl : xs.length = n) (hb : n ≤ 9223372036854775807) (hc : ∀ i, i < n → w.cell? ⟨b, off + i, none⟩ = some (.int .u8 (xs.getD i 0))) :
    Calls Tryz.prog 34 #[.slice (some ⟨b, off, none⟩) n cap] w fun e w' => e = .returned (.int .i64 (fnv xs)) ∧ w' = w := by
  go_enter Tryz.func34, Tryz.ntmps34
  go_wp2
  go_loop [3, 4] (fun h i => ∃ k : Nat, k ≤ n ∧ i = .int .i64 k ∧ h = .int .u32 ((xs.take k).foldl mix 2166136261)) (fun _ i => n - (intOf i).toNat)
  case atStart => exact ⟨0, Nat.zero_le _, rfl, rfl⟩
  case round =>
    obtain ⟨k, hk, rfl, rfl⟩ := hrel
    have hcell : k < n → w.cell? ⟨b, off + k, none⟩ = some (.int .u8 (xs.getD k 0)) := fun _ => hc k (by omega)
    go_wp2
    · have hlt : k < n := by assumption
      go_round
      case rel =>
        refine ⟨k + 1, by omega, by go_num, ?_⟩
        rw [foldl_take _ _ _ _ (by omega)]
        rfl
      case measure => simp [intOf]; omega
    · have hge : ¬ k < n := by assumption
      have hkn : k = n := by omega
      subst hkn
      go_ret
      refine ⟨?_, rfl⟩
      rw [List.take_of_length_le (by omega)]
      rfl

/-! the first bytes -/
/-- The error of a save's first bytes. -/
def bcode (x0 x1 x2 : Int) : Int := if x0 = 72 ∧ x1 = 76 then (if 1 ≤ x2 ∧ x2 ≤ 3 then 0 else 17) else 16

def bvers (x0 x1 x2 : Int) : Int := if bcode x0 x1 x2 = 0 then x2 else 0

set_option maxHeartbeats 1000000 in
theorem begin13 (a : Option Addr) (n cap : Nat) (w : World) (h3 : n < 3) : Calls Tryz.prog 13 #[.slice a n cap] w fun e w' => e = .returned (.int .i64 16) ∧ w' = w := by
  have hn : (n : Int) < 3 := by omega
  go_enter Tryz.func13, Tryz.ntmps13
  go_wp2
  go_ret
  exact ⟨rfl, rfl⟩

set_option maxHeartbeats 1000000 in
theorem begin13' (b off n cap : Nat) (x0 x1 x2 : Int) (w : World) (h3 : 3 ≤ n) (c0 : w.cell? ⟨b, off, none⟩ = some (.int .u8 x0)) (c1 : w.cell? ⟨b, off + 1, none⟩ = some (.int .u8 x1)) (c2 : w.cell? ⟨b, off + 2, none⟩ = some (.int .u8 x2)) :
    Calls Tryz.prog 13 #[.slice (some ⟨b, off, none⟩) n cap] w fun e w' => e = .returned (.int .i64 (bcode x0 x1 x2)) ∧ w' = w := by
  have hn : ¬ (n : Int) < 3 := by omega
  have hn0 : (0 : Int) < n := by omega
  have hn1 : (1 : Int) < n := by omega
  have hn2 : (2 : Int) < n := by omega
  by_cases k0 : x0 = 72
  · subst k0
    by_cases k1 : x1 = 76
    · subst k1
      by_cases k2 : x2 < 1
      · go_enter Tryz.func13, Tryz.ntmps13
        go_wp2
        go_ret
        exact ⟨by simp [bcode, show ¬ (1 ≤ x2 ∧ x2 ≤ 3) by omega], rfl⟩
      · by_cases k3 : 3 < x2
        · go_enter Tryz.func13, Tryz.ntmps13
          go_wp2
          go_ret
          exact ⟨by simp [bcode, show ¬ (1 ≤ x2 ∧ x2 ≤ 3) by omega], rfl⟩
        · go_enter Tryz.func13, Tryz.ntmps13
          go_wp2
          go_ret
          exact ⟨by simp [bcode, show (1 ≤ x2 ∧ x2 ≤ 3) by omega], rfl⟩
    · have q1 : (x1 != 76) = true := by simp [k1]
      go_enter Tryz.func13, Tryz.ntmps13
      go_wp2
      go_ret
      exact ⟨by simp [bcode, k1], rfl⟩
  · have q0 : (x0 != 72) = true := by simp [k0]
    go_enter Tryz.func13, Tryz.ntmps13
    go_wp2
    go_ret
    exact ⟨by simp [bcode, k0], rfl⟩

set_option maxHeartbeats 1000000 in
theorem begin15 (a : Option Addr) (n cap : Nat) (w : World) (h3 : n < 3) : Calls Tryz.prog 15 #[.slice a n cap] w fun e w' => e = .returned (.tuple #[.int .i64 0, .int .i64 16]) ∧ w' = w := by
  have hn : (n : Int) < 3 := by omega
  go_enter Tryz.func15, Tryz.ntmps15
  go_wp2
  go_ret2
  exact ⟨rfl, rfl⟩

set_option maxHeartbeats 1000000 in
theorem begin15' (b off n cap : Nat) (x0 x1 x2 : Int) (w : World) (h3 : 3 ≤ n) (c0 : w.cell? ⟨b, off, none⟩ = some (.int .u8 x0)) (c1 : w.cell? ⟨b, off + 1, none⟩ = some (.int .u8 x1)) (c2 : w.cell? ⟨b, off + 2, none⟩ = some (.int .u8 x2)) :
    Calls Tryz.prog 15 #[.slice (some ⟨b, off, none⟩) n cap] w fun e w' => e = .returned (.tuple #[.int .i64 (bvers x0 x1 x2), .int .i64 (bcode x0 x1 x2)]) ∧ w' = w := by
  have hn : ¬ (n : Int) < 3 := by omega
  have hn0 : (0 : Int) < n := by omega
  have hn1 : (1 : Int) < n := by omega
  have hn2 : (2 : Int) < n := by omega
  by_cases k0 : x0 = 72
  · subst k0
    by_cases k1 : x1 = 76
    · subst k1
      by_cases k2 : x2 < 1
      · go_enter Tryz.func15, Tryz.ntmps15
        go_wp2
        go_ret2
        exact ⟨by simp [bcode, show ¬ (1 ≤ x2 ∧ x2 ≤ 3) by omega, bvers], rfl⟩
      · by_cases k3 : 3 < x2
        · go_enter Tryz.func15, Tryz.ntmps15
          go_wp2
          go_ret2
          exact ⟨by simp [bcode, show ¬ (1 ≤ x2 ∧ x2 ≤ 3) by omega, bvers], rfl⟩
        · go_enter Tryz.func15, Tryz.ntmps15
          go_wp2
          go_ret2
          exact ⟨by simp [bcode, show (1 ≤ x2 ∧ x2 ≤ 3) by omega, bvers], rfl⟩
    · have q1 : (x1 != 76) = true := by simp [k1]
      go_enter Tryz.func15, Tryz.ntmps15
      go_wp2
      go_ret2
      exact ⟨by simp [bcode, k1, bvers], rfl⟩
  · have q0 : (x0 != 72) = true := by simp [k0]
    go_enter Tryz.func15, Tryz.ntmps15
    go_wp2
    go_ret2
    exact ⟨by simp [bcode, k0, bvers], rfl⟩

set_option maxHeartbeats 1000000 in
theorem octet_empty (c x cap : Nat) (a : Option Addr) (xv bv : Value) (w : World) (_hcx : c ≠ x) (c0 : w.cell? ⟨c, 0, none⟩ = some (.slice a 0 cap)) (c1 : w.cell? ⟨c, 1, none⟩ = some (.bool true)) (c2 : w.cell? ⟨c, 2, none⟩ = some bv)
    (f2 : w.frozen? ⟨c, 2, none⟩ = false) (cx : w.cell? ⟨x, 0, none⟩ = some xv) (fx : w.frozen? ⟨x, 0, none⟩ = false) :
    Calls Tryz.prog 16 #[.pointer (some ⟨c, 0, none⟩), .pointer (some ⟨x, 0, none⟩)] w fun e w' => e = .returned (.tuple #[]) ∧ w' = (w.setCell ⟨c, 2, none⟩ (.bool true)).setCell ⟨x, 0, none⟩ (.int .u8 0) := by
  go_enter Tryz.func16, Tryz.ntmps16
  go_wp2
  exact bodyPost_ret (results_none Tryz.results16 _ _ _) rfl ⟨rfl, rfl⟩

set_option maxHeartbeats 1000000 in
theorem octet_some (c x b off n cap : Nat) (v : Int) (xv : Value) (w : World) (hcx : c ≠ x) (_hcap : n + 1 ≤ cap) (c0 : w.cell? ⟨c, 0, none⟩ = some (.slice (some ⟨b, off, none⟩) (n + 1) cap)) (c1 : w.cell? ⟨c, 1, none⟩ = some (.bool true))
    (f0 : w.frozen? ⟨c, 0, none⟩ = false) (cx : w.cell? ⟨x, 0, none⟩ = some xv) (fx : w.frozen? ⟨x, 0, none⟩ = false) (cb : w.cell? ⟨b, off, none⟩ = some (.int .u8 v)) :
    Calls Tryz.prog 16 #[.pointer (some ⟨c, 0, none⟩), .pointer (some ⟨x, 0, none⟩)] w fun e w' => e = .returned (.tuple #[]) ∧
      w' = ((w.setCell ⟨x, 0, none⟩ (.int .u8 v)).setCell ⟨c, 0, none⟩ (.slice (if cap = 1 then some ⟨b, off, none⟩ else some ⟨b, off + 1, none⟩) n (cap - 1))).drew := by
  have hm := mixed
  have hn0 : ¬ ((n : Int) + 1 = 0) := by omega
  have hq : (((n : Int) + 1) == 0) = false := by simp; omega
  have h1n : (0 : Int) < (n : Int) + 1 := by omega
  go_enter Tryz.func16, Tryz.ntmps16
  go_wp2
  go_region
  exact bodyPost_end (results_none Tryz.results16 _ _ _) rfl ⟨rfl, rfl⟩
end Go.Proofs.YtadnhiagecamhaaGreatDoor
