/- The law's function returns true and leaves all that was there, for every list of bytes. Conditions: those that the theorems name. -/
import Derived.Test.YtadnhiagecamhaaGreatDoorW13
import Derived.Test.YtadnhiagecamhaaGreatDoorKn
namespace Go.Proofs.YtadnhiagecamhaaGreatDoor
open Go.RowKit

theorem cells4_at : ∀ (l : List C4) (k : Nat) (h : k < l.length), (cells4 l)[k * 4]? = some (.int .i64 l[k].t) ∧ (cells4 l)[k * 4 + 1]? = some (.int .i64 l[k].f) ∧ (cells4 l)[k * 4 + 2]? = some (.int .i64 l[k].u) ∧ (cells4 l)[k * 4 + 3]? = some (.bool l[k].g)
  | [], k, h => absurd h (Nat.not_lt_zero _)
  | c :: l, 0, h => ⟨rfl, rfl, rfl, rfl⟩
  | c :: l, k + 1, h => by
    have ih := cells4_at l k (Nat.lt_of_succ_lt_succ h)
    have e : ∀ j, (cells4 (c :: l))[(k + 1) * 4 + j]? = (cells4 l)[k * 4 + j]? := fun j => by
      have e1 : (k + 1) * 4 + j = (k * 4 + j) + 4 := by omega
      rw [e1]
      rfl
    exact ⟨(e 0).trans ih.1, (e 1).trans ih.2.1, (e 2).trans ih.2.2.1, (e 3).trans ih.2.2.2⟩

def tAt (l : List C4) (k : Nat) : Int := (l[k]?.map C4.t).getD 0
def fAt (l : List C4) (k : Nat) : Int := (l[k]?.map C4.f).getD 0
def uAt (l : List C4) (k : Nat) : Int := (l[k]?.map C4.u).getD 0
def gAt (l : List C4) (k : Nat) : Bool := (l[k]?.map C4.g).getD false

theorem row4_of {w : World} {base g cap : Nat} {l : List C4} (h : w.ownsRow base 30 4 (.slice (some ⟨g, 0, none⟩) l.length cap) l.length (cells4 l)) : Row4 w g l.length (tAt l) (fAt l) (uAt l) (gAt l) := by
  intro k hk
  have hc := h.cells (g := g) rfl
  have hat := cells4_at l k hk
  have e : ∀ j, (⟨g, 0, none⟩ : Addr).add j = ⟨g, j, none⟩ := fun j => by unfold Addr.add; split <;> simp_all
  have e1 : tAt l k = l[k].t := by simp [tAt, hk]
  have e2 : fAt l k = l[k].f := by simp [fAt, hk]
  have e3 : uAt l k = l[k].u := by simp [uAt, hk]
  have e4 : gAt l k = l[k].g := by simp [gAt, hk]
  rw [e1, e2, e3, e4]
  refine ⟨?_, ?_, ?_, ?_⟩
  · have := hc _ _ hat.1; rwa [e] at this
  · have := hc _ _ hat.2.1; rwa [e] at this
  · have := hc _ _ hat.2.2.1; rwa [e] at this
  · have := hc _ _ hat.2.2.2; rwa [e] at this

theorem same_any (l : List C4) (hl : l.length ≤ 1000000) (v v' : Value) (base base' : Nat) (w : World) (h : w.ownsRow base 30 4 v l.length (cells4 l)) (h' : w.ownsRow base' 30 4 v' l.length (cells4 l)) :
    Calls Tryz.prog 7 #[v, v'] w fun e w' => e = .returned (.bool true) ∧ Keeps (fun _ => False) w w' := by
  have k := h
  have k' := h'
  rcases h.2 with ⟨rfl, hz⟩ | ⟨g, cap, cur, rfl, hb, hgg, rest⟩
  · rcases h'.2 with ⟨rfl, hz'⟩ | ⟨g', cap', cur', rfl, hb', hgg', rest'⟩
    · exact same_none _ _ _ _ w
    · rw [hz]; exact same_none _ _ _ _ w
  · rcases h'.2 with ⟨rfl, hz'⟩ | ⟨g', cap', cur', rfl, hb', hgg', rest'⟩
    · rw [hz']; exact same_none _ _ _ _ w
    · exact same_rel g g' l.length cap cap' (tAt l) (fAt l) (uAt l) (gAt l) w hl (row4_of k) (row4_of k')

theorem chs_len {Y : Nat → Int} {m : Nat} : ∀ (f k : Nat) (last : Int) (acc l : List C4), chs Y m f k last acc = some l → l.length ≤ acc.length + f
  | 0, k, last, acc, l, h => by cases h
  | f + 1, k, last, acc, l, h => by
    rw [chs] at h
    by_cases hk : k < m
    · rw [if_pos hk] at h
      by_cases h0 : Y k = 0
      · rw [if_pos h0] at h
        by_cases he : k + 1 = m
        · rw [if_pos he] at h; cases h; omega
        · rw [if_neg he] at h; cases h
      · rw [if_neg h0] at h
        cases hh : head4 Y m k last with
        | none => rw [hh] at h; cases h
        | some p =>
          obtain ⟨n, k2⟩ := p
          rw [hh] at h
          have := chs_len f _ _ _ _ h
          rw [List.length_append, List.length_singleton] at this
          omega
    · rw [if_neg hk] at h; cases h
theorem spec_len {n : Nat} {X : Nat → Int} (hn : n ≤ 60000) : (spec n X).2.length ≤ 1000000 := by
  unfold spec
  split
  · simp
  · split
    · cases hc : chs (fun i => X (3 + i)) (n - 3) (n - 3 + 1) 0 0 [] with
      | none => simp
      | some l =>
        have := chs_len _ _ _ _ _ hc
        simp only [List.length_nil] at this ⊢
        omega
    · simp

theorem Keeps.below {w w' : World} (h : Keeps (fun _ => False) w w') : Below w.heap.size w w' := ⟨h.os, h.tape, h.output, h.size, fun k hk => h.block k hk (fun e => e)⟩
theorem keeps_of_below {w w' : World} (h : Below w.heap.size w w') : Keeps (fun _ => False) w w' := ⟨h.os, h.tape, h.output, h.size, fun k hk _ => h.block k hk⟩

set_option maxHeartbeats 4000000 in
theorem law_large (a : Option Addr) (n cap : Nat) (w : World) (hn : 60000 < n) (hm' : n ≤ 9223372036854775807) : Calls Tryz.prog 3 #[.slice a n cap] w fun e w' => e = .returned (.bool true) ∧ Keeps (fun _ => False) w w' := by
  have hq : (60000 : Int) < n := by omega
  go_enter Tryz.func3, Tryz.ntmps3
  go_wp2_with (first | (go_at_call 4; refine (Tryz.known_true w).mono ?_; rintro e w' ⟨rfl, hb⟩))
  go_ret
  exact ⟨rfl, keeps_of_below hb⟩

set_option maxHeartbeats 4000000 in
theorem law_small (a : Option Addr) (n cap : Nat) (s : Int × List C4) (w : World) (hn : n ≤ 60000) (hs : s.2.length ≤ 1000000) (h5 : Calls Tryz.prog 5 #[.slice a n cap] w (ChPost s w.heap.size w))
    (h6 : ∀ w1, Keeps (fun _ => False) w w1 → Calls Tryz.prog 6 #[.slice a n cap] w1 (ChPost s w1.heap.size w1)) : Calls Tryz.prog 3 #[.slice a n cap] w fun e w' => e = .returned (.bool true) ∧ Keeps (fun _ => False) w w' := by
  have hm := mixed
  have hq : ¬ (60000 : Int) < n := by omega
  go_enter Tryz.func3, Tryz.ntmps3
  go_wp2_with (first
    | (go_at_call 5; refine h5.mono ?_; rintro e w1 ⟨hk1, v1, rfl, ho1⟩; clear h5)
    | (go_at_call 6; refine (h6 _ hk1).mono ?_; rintro e w2 ⟨hk2, v2, rfl, ho2⟩; have ho12 := own_keeps ho1 hk2 (fun _ _ h => h); clear h6)
    | (go_at_call 7; refine (same_any s.2 hs v2 v1 _ _ w2 ho2 ho12).mono ?_; rintro e w3 ⟨rfl, hk3⟩)
    | (go_at_call 4; refine (Tryz.known_true _).mono ?_; rintro e w4 ⟨rfl, hb⟩))
  go_ret
  exact ⟨rfl, ((hk1.trans hk2).trans hk3).trans (keeps_of_below hb)⟩

theorem law_any (a : Option Addr) (n cap : Nat) (X : Nat → Int) (w : World) (hm' : n ≤ 9223372036854775807) (hcap : n ≤ cap) (hr : ∀ i, i < n → 0 ≤ X i ∧ X i ≤ 255)
    (ha : 0 < n → ∃ b off, a = some ⟨b, off, none⟩ ∧ ∀ i, i < n → w.cell? ⟨b, off + i, none⟩ = some (.int .u8 (X i))) : Calls Tryz.prog 3 #[.slice a n cap] w fun e w' => e = .returned (.bool true) ∧ Below w.heap.size w w' := by
  have key : Calls Tryz.prog 3 #[.slice a n cap] w fun e w' => e = .returned (.bool true) ∧ Keeps (fun _ => False) w w' := by
    by_cases hn : n ≤ 60000
    · by_cases h3 : n < 3
      · exact law_small a n cap (spec n X) w hn (spec_len hn) (chunks5_short a n cap X w h3) (fun w1 _ => chunks6_short a n cap X w1 h3)
      · obtain ⟨b, off, rfl, hX⟩ := ha (by omega)
        exact law_small _ n cap (spec n X) w hn (spec_len hn) (chunks5_long b off n cap X w h3 hn hcap hr hX)
          (fun w1 hk => chunks6_long b off n cap X w1 h3 hn hcap hr (fun i hi => hk.cell (hX i hi) (fun h => h)))
    · exact law_large a n cap w (by omega) hm'
  exact key.mono fun e w' h => ⟨h.1, h.2.below⟩
end Go.Proofs.YtadnhiagecamhaaGreatDoor
