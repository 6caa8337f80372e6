/- The reference's frame answers what the function chs tells, for at most 60000 bytes behind the head. Conditions: those that the theorems name. -/
import Derived.Test.YtadnhiagecamhaaGreatDoorW8
namespace Go.Proofs.YtadnhiagecamhaaGreatDoor
open Go.RowKit

theorem info30 : (Tryz.prog.info? 30).map (fun i => (i.zero, i.size, i.bytes)) = some (some (.agg #[.int .i64 0, .int .i64 0, .int .i64 0, .bool false]), 4, 32) := by kernel_rfl

/-- A chunk. -/
structure C4 where
  t : Int
  f : Int
  u : Int
  g : Bool
def cells4 (l : List C4) : List Value := l.flatMap fun c => [.int .i64 c.t, .int .i64 c.f, .int .i64 c.u, .bool c.g]

theorem Keeps.grown {S : Nat → Prop} {w w' : World} (h : Keeps S w w') (c : Nat) (hs : ∀ k, S k → k = c) : w.grownBy w' (some c) :=
  ⟨h.os, h.tape, h.output, h.size, fun k hk hn => h.block k hk fun e => hn (by rw [hs k e])⟩
theorem Keeps.of_grown {w w' : World} {row : Option Nat} (h : w.grownBy w' row) : Keeps (fun k => some k = row) w w' :=
  ⟨h.os, h.tape, h.output, h.size, fun k hk hn => h.block k hk hn⟩

/-- What is read of one chunk's head: how many bytes it holds, and where they begin. -/
def head4 (Y : Nat → Int) (m k : Nat) (last : Int) : Option (Nat × Nat) :=
  match decP Y m 12 0 (k + 1) 0 with
  | some (u, k2) => if unzP u < 0 ∨ Y k ≤ last ∨ ((m - k2 : Nat) : Int) < unzP u + 4 then none else some ((unzP u).toNat, k2)
  | none => none
def sum4 (Y : Nat → Int) (j : Nat) : Int :=
  bits BinOp.or .i64 (bits BinOp.or .i64 (bits BinOp.or .i64 (Y j) (Y (j + 1) * 256)) (Y (j + 2) * 65536)) (Y (j + 3) * 16777216)
def good4 (Y : Nat → Int) (k2 n : Nat) : Bool := fnv ((List.range n).map fun i => Y (k2 + i)) == sum4 Y (k2 + n)
theorem good4_eq (Y : Nat → Int) (k2 n : Nat) : good4 Y k2 n = (bits BinOp.or .i64 (bits BinOp.or .i64 (bits BinOp.or .i64 (Y (k2 + n)) (Y (k2 + n + 1) * 256)) (Y (k2 + n + 2) * 65536)) (Y (k2 + n + 3) * 16777216) == fnv ((List.range n).map fun i => Y (k2 + i))) :=
  Bool.eq_iff_iff.2 (by unfold good4 sum4; rw [beq_iff_eq, beq_iff_eq]; exact eq_comm)
def chunk4 (Y : Nat → Int) (m k k2 n : Nat) : C4 := ⟨Y k, (m + 3 : Nat) - (m - k2 : Nat), (m + 3 : Nat) - (m - k2 : Nat) + n, good4 Y k2 n⟩
/-- The chunks. -/
def chs (Y : Nat → Int) (m : Nat) : Nat → Nat → Int → List C4 → Option (List C4)
  | 0, _, _, _ => none
  | f + 1, k, last, acc => if k < m then (if Y k = 0 then (if k + 1 = m then some acc else none) else match head4 Y m k last with
      | some (n, k2) => chs Y m f (k2 + n + 4) (Y k) (acc ++ [chunk4 Y m k k2 n])
      | none => none) else none

theorem chs_end {Y : Nat → Int} {m f k : Nat} {last : Int} {acc : List C4} (h : ¬ k < m) : chs Y m f k last acc = none := by
  cases f with
  | zero => rfl
  | succ f => rw [chs, if_neg h]
theorem chs_zero {Y : Nat → Int} {m f k : Nat} {last : Int} {acc : List C4} (hf : 0 < f) (hk : k < m) (h : Y k = 0) : chs Y m f k last acc = if k + 1 = m then some acc else none := by
  cases f with
  | zero => omega
  | succ f => rw [chs, if_pos hk, if_pos h]
theorem chs_bad {Y : Nat → Int} {m f k : Nat} {last : Int} {acc : List C4} (h : ¬ Y k = 0) (hh : head4 Y m k last = none) : chs Y m f k last acc = none := by
  cases f with
  | zero => rfl
  | succ f =>
    by_cases hk : k < m
    · rw [chs, if_pos hk, if_neg h, hh]
    · exact chs_end hk
theorem chs_more {Y : Nat → Int} {m f k n k2 : Nat} {last : Int} {acc : List C4} (hf : 0 < f) (hk : k < m) (h : ¬ Y k = 0) (hh : head4 Y m k last = some (n, k2)) :
    chs Y m f k last acc = chs Y m (f - 1) (k2 + n + 4) (Y k) (acc ++ [chunk4 Y m k k2 n]) := by
  cases f with
  | zero => omega
  | succ f => rw [chs, if_pos hk, if_neg h, hh]; rfl

theorem _root_.Go.World.grownBy.drew' {w w' : World} {row : Option Nat} (h : w.grownBy w' row) : w.grownBy w'.drew row := ⟨h.os, h.tape, h.output, h.size, h.block⟩
theorem own_ne {w : World} {B e size n : Nat} {v : Value} {xs : List Value} (h : w.ownsRow (B + 1) e size v n xs) : v.ownBlock = none ∨ v.ownBlock ≠ some B := by
  cases hv : v.ownBlock with
  | none => exact .inl rfl
  | some k =>
    right
    intro he
    rw [Option.some.injEq] at he
    have := (h.lt k hv).1
    omega

theorem grownBy_set (w : World) (a : Addr) (v : Value) : w.grownBy (w.setCell a v) (some a.block) :=
  ⟨rfl, rfl, rfl, by simp [World.setCell], fun k _ hn => Below.heap_setCell _ _ _ _ (fun e => hn (by rw [e]))⟩
theorem cells4_snoc (acc : List C4) (Y : Nat → Int) (m k k2 nn : Nat) : cells4 (acc ++ [chunk4 Y m k k2 nn]) = cells4 acc ++ [Value.int IntKind.i64 (Y k), Value.int IntKind.i64 ((m : Int) + 3 - (m - k2 : Nat)), Value.int IntKind.i64 ((m : Int) + 3 - (m - k2 : Nat) + nn), Value.bool (good4 Y k2 nn)] := by
  unfold cells4
  rw [List.flatMap_append]
  simp only [List.flatMap_cons, List.flatMap_nil, List.append_nil, chunk4]
  have e : ((m + 3 : Nat) : Int) = (m : Int) + 3 := by omega
  rw [e]

def FramePost (Y : Nat → Int) (m base : Nat) (w : World) (e : Ending) (w' : World) : Prop :=
  Keeps (fun _ => False) w w' ∧ ((chs Y m (m + 1) 0 0 [] = none ∧ ∃ v, e = .returned (.tuple #[v, .bool false])) ∨
    ∃ l v, chs Y m (m + 1) 0 0 [] = some l ∧ e = .returned (.tuple #[v, .bool true]) ∧ w'.ownsRow base 30 4 v l.length (cells4 l))

set_option maxHeartbeats 8000000 in
set_option maxRecDepth 4000 in
theorem frame_look (b off cap m : Nat) (Y : Nat → Int) (w : World) (hn6 : m ≤ 60000) (hcap : m + 3 ≤ cap) (hc3 : cap ≠ 3) (hbw : b < w.heap.size) (hr : ∀ i, i < m → 0 ≤ Y i ∧ Y i ≤ 255) (hX : ∀ i, i < m → w.cell? ⟨b, off + 3 + i, none⟩ = some (.int .u8 (Y i))) :
    Calls Tryz.prog 14 #[.slice (some ⟨b, off, none⟩) (m + 3) cap] w (FramePost Y m (w.heap.size + 1) w) := by
  have hm := mixed
  have h3c : ¬ ((cap : Int) < 3) := by omega
  have h3n : ¬ ((m : Int) + 3 < 3) := by omega
  obtain ⟨i0, hi, hz0, hz1, hz2⟩ := info_parts info30
  go_enter Tryz.func14, Tryz.ntmps14
  go_wp2_with fail
  go_loopw [4, 6] (fun v s wr => ∃ k f : Nat, ∃ last : Int, ∃ acc : List C4, k ≤ m ∧ m - k < f ∧ s = .int .i64 last ∧ chs Y m f k last acc = chs Y m (m + 1) 0 0 [] ∧ Rdr wr w.heap.size b (off + 3) m (cap - 3) k false ∧ wr.ownsRow (w.heap.size + 1) 30 4 v acc.length (cells4 acc) ∧ acc.length ≤ k ∧ Keeps (fun _ => False) w wr) (fun _ s _ => 300 - (intOf s).toNat)
  case atStart =>
    refine ⟨0, m + 1, 0, [], by omega, by omega, rfl, rfl, ?_, ?_, Nat.le_refl _, ?_⟩
    · refine ⟨⟨.slice (some ⟨b, off + 3, none⟩) m (cap - 3), by simp, ?_⟩, by simp, by simp, by simp⟩
      exact ⟨⟨b, off + 3, none⟩, rfl, fun _ => rfl⟩
    · exact World.ownsRow_nil _ _ _ _
    · exact (Keeps.refl _ _).alloc _
  case round =>
    obtain ⟨k, f, last, acc, g1, g2, rfl, g3, g4, g5, g6, g7⟩ := hrel
    have hb' : ∀ i, i < m → wr.cell? ⟨b, (off + 3) + i, none⟩ = some (.int .u8 (Y i)) := fun i hi => g7.cell (hX i hi) (fun h => h)
    go_wp2_with (first | (go_at_call 32; refine (one_rel w.heap.size b (off + 3) m (cap - 3) k Y wr (by omega) g1 g4 hb').mono ?_; rintro e w1 (⟨rfl, rfl, h3, h4⟩ | ⟨h1, rfl, h3, h4⟩) <;> have hc1 := h3.c1 <;> have hf1 := h3.f1 <;> have hyk := hr k))
    · have hk1 := g7.trans_new h4 (fun x h => .inr (by omega))
      go_ret2
      refine ⟨hk1, .inl ⟨?_, _, rfl⟩⟩
      rw [← g3]
      exact chs_end (by omega)
    · have hk1 := g7.trans_new h4 (fun x h => .inr (by omega))
      obtain ⟨v0, hc0, a0, rfl, ha0⟩ := h3.c0
      have h0 : Y k = 0 := eq_of_beq (by assumption)
      go_region
      go_wp2
      go_ret2
      refine ⟨hk1.drew, ?_⟩
      rw [← g3, chs_zero (by omega) h1 h0]
      by_cases hend : k + 1 = m
      · rw [if_pos hend]
        refine .inr ⟨acc, u4, rfl, ?_, ?_⟩
        · have : m - (k + 1) = 0 := by omega
          simp [this]
        · exact World.ownsRow.kept (row := some w.heap.size) g5 ((h4.grown w.heap.size (fun k h => h)).drew') (own_ne g5)
      · rw [if_neg hend]
        refine .inl ⟨rfl, u4, ?_⟩
        have : ¬ (m - (k + 1)) = 0 := by omega
        simp [this]
    · have h0 : (Y k == 0) = false := by assumption
      have hk1 := g7.trans_new h4 (fun x h => .inr (by omega))
      have hb1 : ∀ i, i < m → w1.cell? ⟨b, (off + 3) + i, none⟩ = some (.int .u8 (Y i)) := fun i hi => hk1.cell (hX i hi) (fun h => h)
      go_wp2_with fail
      refine (number_rel w.heap.size b (off + 3) m (cap - 3) Y (k + 1) w1 (by omega) (by omega) (by omega) h3 hb1).mono ?_
      clear hb1 hb'
      rintro e w2 ⟨h6, (⟨hd, rfl, k', h7⟩ | ⟨u, k2, hd, hkm, rfl, h7⟩)⟩
      · have hc2 := h7.c1
        have hk2 := hk1.trans_new h6 (fun x h => .inr (by omega))
        go_wp2
        go_ret2
        refine ⟨hk2, .inl ⟨?_, _, rfl⟩⟩
        rw [← g3]
        refine chs_bad (by simpa using h0) ?_
        unfold head4
        rw [← dec_same hr 12 0 (k + 1) 0 (by omega) (by omega), hd]
      · have hc2 := h7.c1
        have hnf : head4 Y m k last = if unzP u < 0 ∨ Y k ≤ last ∨ ((m - k2 : Nat) : Int) < unzP u + 4 then none else some ((unzP u).toNat, k2) := by
          unfold head4
          rw [← dec_same hr 12 0 (k + 1) 0 (by omega) (by omega), hd]
        have hpr := decP_range 12 0 (k + 1) 0 u k2 (by rw [← dec_same hr 12 0 (k + 1) 0 (by omega) (by omega)]; exact hd)
        have huz : unzR u = unzP u := unz_same hpr.1 hpr.2.1
        rw [huz]
        obtain ⟨v2, hc20, a2, rfl, ha2⟩ := h7.c0
        have hk2 := hk1.trans_new h6 (fun x h => .inr (by omega))
        by_cases q1 : unzP u < 0
        · have hbad : head4 Y m k last = none := by rw [hnf, if_pos (.inl q1)]
          go_wp2
          all_goals
            go_ret2
            refine ⟨hk2, .inl ⟨?_, _, rfl⟩⟩
            rw [← g3]
            exact chs_bad (by simpa using h0) hbad
        · obtain ⟨nn, hnn⟩ := Int.eq_ofNat_of_zero_le (Int.not_lt.1 q1)
          rw [hnn] at hnf ⊢
          by_cases q2 : Y k ≤ last
          · go_wp2
            go_ret2
            refine ⟨hk2, .inl ⟨?_, _, rfl⟩⟩
            rw [← g3]
            exact chs_bad (by simpa using h0) (by rw [hnf, if_pos (.inr (.inl q2))])
          · by_cases q3 : m - k2 < nn + 4
            · have hbad : head4 Y m k last = none := by rw [hnf, if_pos (by omega)]
              by_cases q4 : m - k2 < 4
              · have q4' : ((m - k2 : Nat) : Int) < 4 := by omega
                go_wp2
                go_ret2
                refine ⟨hk2, .inl ⟨?_, _, rfl⟩⟩
                rw [← g3]
                exact chs_bad (by simpa using h0) hbad
              · have q4' : ¬ ((m - k2 : Nat) : Int) < 4 := by omega
                have q5' : ((m - k2 : Nat) : Int) - 4 < nn := by omega
                go_wp2
                go_ret2
                refine ⟨hk2, .inl ⟨?_, _, rfl⟩⟩
                rw [← g3]
                exact chs_bad (by simpa using h0) hbad
            · have hgood : head4 Y m k last = some (nn, k2) := by rw [hnf, if_neg (by omega)]; rfl
              have hk2m : k2 < m := by omega
              obtain rfl := ha2 hk2m
              have q4' : ¬ ((m - k2 : Nat) : Int) < 4 := by omega
              have q5' : ¬ ((m - k2 : Nat) : Int) - 4 < nn := by omega
              have q6 : ¬ (cap - 3 - k2 = nn) := by omega
              have q7 : (nn : Int) + 4 ≤ ((cap - 3 - k2 : Nat) : Int) := by omega
              have q8 : (nn : Int) ≤ ((cap - 3 - k2 : Nat) : Int) := by omega
              have d0 : w2.cell? ⟨b, off + 3 + k2 + nn, none⟩ = some (.int .u8 (Y (k2 + nn))) := by
                have := hk2.cell (hX (k2 + nn) (by omega)) (fun h => h)
                rwa [← Nat.add_assoc] at this
              have d1 : w2.cell? ⟨b, off + 3 + k2 + nn + 1, none⟩ = some (.int .u8 (Y (k2 + nn + 1))) := by
                have := hk2.cell (hX (k2 + nn + 1) (by omega)) (fun h => h)
                rwa [← Nat.add_assoc, ← Nat.add_assoc] at this
              have d2 : w2.cell? ⟨b, off + 3 + k2 + nn + 2, none⟩ = some (.int .u8 (Y (k2 + nn + 2))) := by
                have := hk2.cell (hX (k2 + nn + 2) (by omega)) (fun h => h)
                rwa [← Nat.add_assoc, ← Nat.add_assoc] at this
              have d3 : w2.cell? ⟨b, off + 3 + k2 + nn + 3, none⟩ = some (.int .u8 (Y (k2 + nn + 3))) := by
                have := hk2.cell (hX (k2 + nn + 3) (by omega)) (fun h => h)
                rwa [← Nat.add_assoc, ← Nat.add_assoc] at this
              have r0 := hr (k2 + nn) (by omega)
              have r1 := hr (k2 + nn + 1) (by omega)
              have r2 := hr (k2 + nn + 2) (by omega)
              have r3 := hr (k2 + nn + 3) (by omega)
              go_wp2_with fail
              go_region
              go_wp2_with fail
              have hbs : ∀ i, i < nn → (w2.drew).cell? ⟨b, off + 3 + k2 + i, none⟩ = some (.int .u8 (((List.range nn).map fun i => Y (k2 + i)).getD i 0)) := by
                intro i hi
                have := hk2.drew.cell (hX (k2 + i) (by omega)) (fun h => h)
                rw [← Nat.add_assoc] at this
                simpa [hi] using this
              refine (bytes34 b (off + 3 + k2) nn (cap - 3 - k2) ((List.range nn).map fun i => Y (k2 + i)) w2.drew (by simp) (by omega) hbs).mono ?_
              clear hbs
              rintro e w3 ⟨rfl, rfl⟩
              have g52 : w2.drew.ownsRow (w.heap.size + 1) 30 4 u4 acc.length (cells4 acc) := by
                have e1 := World.ownsRow.kept (row := some w.heap.size) g5 (h4.grown w.heap.size (fun k h => h)) (own_ne g5)
                exact World.ownsRow.kept (row := some w.heap.size) e1 ((h6.grown w.heap.size (fun k h => h)).drew') (own_ne e1)
              have hsz2 := hk2.size
              go_wp2_with (first
                | (at_builtin; refine wpList_append_own _ rfl _ _ 24 rfl (w.heap.size + 1) 30 i0 _ 4 32 Tryz.underlying24 hi hz0 hz1 hz2 rfl (by decide) u4 acc.length (cells4 acc) rfl (g52.alloc _) ⟨w2.heap.size, 0, none⟩ 1 1 [.int .i64 (Y k), .int .i64 ((m : Int) + 3 - (m - k2 : Nat)), .int .i64 ((m : Int) + 3 - (m - k2 : Nat) + nn), .bool (good4 Y k2 nn)] rfl rfl ?c1 ?c2 ?c3 ?c4 ?c5 ?_)
                | go_in)
              case c1 =>
                intro j u hj
                match j, hj with
                | 0, hj => simp at hj; subst hj; simp [Addr.add]
                | 1, hj => simp at hj; subst hj; simp [Addr.add]
                | 2, hj => simp at hj; subst hj; simp [Addr.add]
                | 3, hj =>
                  simp at hj; subst hj
                  rw [good4_eq]
                  simp [Addr.add]
                | j + 4, hj => simp at hj
              case c2 => intro u hu; simp at hu; rcases hu with rfl | rfl | rfl | rfl <;> rfl
              case c3 => unfold maxLen; omega
              case c4 => omega
              case c5 => simp; omega
              · intro v' w4 hown' hgrow hne
                have hk4 : Keeps (fun _ => False) w w4 := by
                  refine (hk2.alloc (.cells #[.int .i64 (Y k), .int .i64 ((m : Int) + 3 - (m - k2 : Nat)), .int .i64 ((m : Int) + 3 - (m - k2 : Nat) + nn), .bool (good4 Y k2 nn)] 30)).drew.trans_new (T := fun x => some x = u4.ownBlock) ?_ ?_
                  · rw [good4_eq]; exact Keeps.of_grown hgrow
                  · intro x hx
                    have := (g5.lt x hx.symm).1
                    omega
                have hb4 : w4.heap[w.heap.size]? = w2.heap[w.heap.size]? := by
                  have e1 := hgrow.block w.heap.size (by simp; omega) (fun e => by have := (g5.lt _ e.symm).1; omega)
                  rw [e1]
                  exact Below.heap_alloc _ _ _ (block_lt_of_cell hc20)
                have hc24 : w4.cell? ⟨w.heap.size, 0, none⟩ = some (.slice (some ⟨b, off + 3 + k2, none⟩) (m - k2) (cap - 3 - k2)) := (World.cell?_of_block hb4).trans hc20
                have hf24 : w4.frozen? ⟨w.heap.size, 0, none⟩ = false := (World.frozen?_of_block hb4).trans h7.f0
                have hc25 : w4.cell? ⟨w.heap.size, 1, none⟩ = some (.bool false) := (World.cell?_of_block hb4).trans h7.c1
                have hf25 : w4.frozen? ⟨w.heap.size, 1, none⟩ = false := (World.frozen?_of_block hb4).trans h7.f1
                clear hgrow hb4
                go_wp2_with fail
                have hyk' := hyk h1
                have hY0 : ¬ Y k = 0 := by simpa using h0
                refine ⟨⟨k2 + nn + 4, f - 1, Y k, acc ++ [chunk4 Y m k k2 nn], by omega, by omega, rfl, ?_, ?_, ?_, by simp; omega, ?_⟩, ?_⟩
                · rw [← chs_more (by omega) h1 hY0 hgood, g3]
                · refine ⟨⟨_, World.cell?_setCell_same _ _ _ hc24, (if cap - 3 - k2 = nn + 4 then ⟨b, off + 3 + k2, none⟩ else ⟨b, off + 3 + k2 + (nn + 4), none⟩), ?_, ?_⟩, ?_, ?_, ?_⟩
                  · have e1 : m - k2 - (nn + 4) = m - (k2 + nn + 4) := by omega
                    have e2 : cap - 3 - k2 - (nn + 4) = cap - 3 - (k2 + nn + 4) := by omega
                    rw [e1, e2]
                    split <;> rfl
                  · intro hlt
                    rw [if_neg (by omega)]
                    have e3 : off + 3 + k2 + (nn + 4) = off + 3 + (k2 + nn + 4) := by omega
                    rw [e3]
                  · rw [set_other _ _ _ _ (by simp)]; exact hc25
                  · rw [frozen_set]; exact hf24
                  · rw [frozen_set]; exact hf25
                · have hk := hown'.kept (row := some w.heap.size) (grownBy_set w4 ⟨w.heap.size, 0, none⟩ (Value.slice (if cap - 3 - k2 = nn + 4 then some ⟨b, off + 3 + k2, none⟩ else some ⟨b, off + 3 + k2 + (nn + 4), none⟩) (m - k2 - (nn + 4)) (cap - 3 - k2 - (nn + 4)))) (own_ne hown')
                  rw [cells4_snoc, List.length_append]
                  exact hk
                · exact hk4.setCell _ _ (.inr (Nat.le_refl _))
                · simp [intOf]; omega
end Go.Proofs.YtadnhiagecamhaaGreatDoor
