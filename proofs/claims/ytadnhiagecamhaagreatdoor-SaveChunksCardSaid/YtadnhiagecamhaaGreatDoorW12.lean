/- The program's Chunks answers what the function chs tells behind a good head, for at most 60000 bytes. Conditions: those that the theorems name. -/
import Derived.Test.YtadnhiagecamhaaGreatDoorW11
import Derived.Deep.QuietTactic
import Derived.BigQuiet
namespace Go.Proofs.YtadnhiagecamhaaGreatDoor
open Go.RowKit

theorem own_keeps {S : Nat → Prop} {w w' : World} {base : Nat} {e : TypeId} {size : Nat} {v : Value} {n : Nat} {xs : List Value} (h : w.ownsRow base e size v n xs) (hk : Keeps S w w') (hn : ∀ g, v.ownBlock = some g → ¬ S g) : w'.ownsRow base e size v n xs := by
  refine ⟨h.1, ?_⟩
  rcases h.2 with hs | ⟨g, cap, cur, rfl, hb, hgg, rest⟩
  · exact .inl hs
  · refine .inr ⟨g, cap, cur, rfl, hb, ?_, rest⟩
    rw [hk.block g (Array.getElem?_eq_some_iff.1 hgg).1 (hn g rfl)]
    exact hgg

theorem head_none {Y : Nat → Int} {m k : Nat} {last : Int} (h : lenP Y m (k + 1) = none) : head4 Y m k last = none := by
  unfold lenP at h
  unfold head4
  cases hd : decP Y m 12 0 (k + 1) 0 with
  | none => rfl
  | some p =>
    obtain ⟨u, k2⟩ := p
    rw [hd] at h
    simp only at h ⊢
    by_cases q : unzP u < 0 ∨ ((m - k2 : Nat) : Int) < unzP u
    · rw [if_pos (by omega)]
    · rw [if_neg q] at h; cases h
theorem head_some {Y : Nat → Int} {m k k2 : Nat} {n last : Int} (h : lenP Y m (k + 1) = some (n, k2)) : 0 ≤ n ∧ n ≤ ((m - k2 : Nat) : Int) ∧ k + 1 < k2 ∧ head4 Y m k last = if Y k ≤ last ∨ ((m - k2 : Nat) : Int) < n + 4 then none else some (n.toNat, k2) := by
  unfold lenP at h
  unfold head4
  cases hd : decP Y m 12 0 (k + 1) 0 with
  | none => rw [hd] at h; cases h
  | some p =>
    obtain ⟨u, k3⟩ := p
    rw [hd] at h
    simp only at h ⊢
    by_cases q : unzP u < 0 ∨ ((m - k3 : Nat) : Int) < unzP u
    · rw [if_pos q] at h; cases h
    · rw [if_neg q] at h
      simp only [Option.some.injEq, Prod.mk.injEq] at h
      obtain ⟨rfl, rfl⟩ := h
      have hrg := decP_range _ _ _ _ _ _ hd
      refine ⟨by omega, by omega, by omega, ?_⟩
      by_cases q2 : Y k ≤ last ∨ ((m - k3 : Nat) : Int) < unzP u + 4
      · rw [if_pos q2, if_pos (.inr q2)]
      · rw [if_neg q2, if_neg (by omega)]

theorem good4_wrap (Y : Nat → Int) (k2 n : Nat) (r0 : 0 ≤ Y (k2 + n) ∧ Y (k2 + n) ≤ 255) (r1 : 0 ≤ Y (k2 + n + 1) ∧ Y (k2 + n + 1) ≤ 255) (r2 : 0 ≤ Y (k2 + n + 2) ∧ Y (k2 + n + 2) ≤ 255) (r3 : 0 ≤ Y (k2 + n + 3) ∧ Y (k2 + n + 3) ≤ 255) :
    (fnv (List.map (fun i => Y (k2 + i)) (List.range n)) == bits BinOp.or IntKind.i64 (bits BinOp.or IntKind.i64 (bits BinOp.or IntKind.i64 (IntKind.i64.wrap (Y (k2 + n))) (IntKind.i64.wrap (IntKind.i64.wrap (Y (k2 + n + 1)) * 256)))
      (IntKind.i64.wrap (IntKind.i64.wrap (Y (k2 + n + 2)) * 65536))) (IntKind.i64.wrap (IntKind.i64.wrap (Y (k2 + n + 3)) * 16777216))) = good4 Y k2 n := by
  have e : ∀ x : Int, 0 ≤ x → x ≤ 4278190080 → IntKind.i64.wrap x = x := fun x h0 h1 => by rw [IntKind.wrap_i64]; omega
  rw [e (Y (k2 + n)) (by omega) (by omega), e (Y (k2 + n + 1)) (by omega) (by omega), e (Y (k2 + n + 2)) (by omega) (by omega), e (Y (k2 + n + 3)) (by omega) (by omega),
    e (Y (k2 + n + 1) * 256) (by omega) (by omega), e (Y (k2 + n + 2) * 65536) (by omega) (by omega), e (Y (k2 + n + 3) * 16777216) (by omega) (by omega)]
  rfl

theorem quiet_like {P : Program} {f : FuncId} {args : Array Value} {w : World} {x : Nat} {v : Value} (h : Calls P f args (w.drewN (1 + x)) fun e w' => e = .returned v ∧ w' = w.drewN (1 + x)) :
    Calls P f args (w.drewN (1 + x)) fun e w'' => e = .returned v ∧ ∃ n, w'' = w.drewN (1 + n) := h.mono fun _ _ ⟨a, b⟩ => ⟨a, x, b⟩

/-- What the program's 'Chunks' leaves, behind a good head. -/
def ProgPost (Y : Nat → Int) (m base : Nat) (w : World) (e : Ending) (w' : World) : Prop :=
  Keeps (fun _ => False) w w' ∧ ((chs Y m (m + 1) 0 0 [] = none ∧ e = .returned (.tuple #[.slice none 0 0, .int .i64 16])) ∨
    ∃ l v, chs Y m (m + 1) 0 0 [] = some l ∧ e = .returned (.tuple #[v, .int .i64 0]) ∧ w'.ownsRow base 30 4 v l.length (cells4 l))

set_option maxHeartbeats 8000000 in
set_option maxRecDepth 4000 in
theorem chunks6_look (b off m cap : Nat) (x0 x1 x2 : Int) (Y : Nat → Int) (w : World) (hn6 : m ≤ 60000) (hcap : m + 3 ≤ cap) (hc3 : cap ≠ 3) (hbw : b < w.heap.size) (hr : ∀ i, i < m → 0 ≤ Y i ∧ Y i ≤ 255)
    (hX : ∀ i, i < m → w.cell? ⟨b, off + 3 + i, none⟩ = some (.int .u8 (Y i))) (c0 : w.cell? ⟨b, off, none⟩ = some (.int .u8 x0)) (c1 : w.cell? ⟨b, off + 1, none⟩ = some (.int .u8 x1)) (c2 : w.cell? ⟨b, off + 2, none⟩ = some (.int .u8 x2)) (hcode : bcode x0 x1 x2 = 0) :
    Calls Tryz.prog 6 #[.slice (some ⟨b, off, none⟩) (m + 3) cap] w (ProgPost Y m (w.heap.size + 1) w) := by
  have hm := mixed
  have h3c : ¬ ((cap : Int) < 3) := by omega
  have h3n : ¬ ((m : Int) + 3 < 3) := by omega
  obtain ⟨i0, hi, hz0, hz1, hz2⟩ := info_parts info30
  have hbeg := begin15' b off (m + 3) cap x0 x1 x2 w (by omega) c0 c1 c2
  rw [hcode] at hbeg
  clear c0 c1 c2
  go_enter Tryz.func6, Tryz.ntmps6
  go_wp2_with (first | (go_at_call 15; refine hbeg.mono ?_; clear hbeg; rintro e w' ⟨rfl, hw⟩; obtain rfl := hw.symm))
  go_loopw [7, 8] (fun v s wr => ∃ k f : Nat, ∃ last : Int, ∃ acc : List C4, k ≤ m ∧ m - k < f ∧ s = .int .i64 last ∧ chs Y m f k last acc = chs Y m (m + 1) 0 0 [] ∧ Cod wr w.heap.size b (off + 3) m (cap - 3) k false ∧ wr.ownsRow (w.heap.size + 1) 30 4 v acc.length (cells4 acc) ∧ acc.length ≤ k ∧ Keeps (fun _ => False) w wr) (fun _ s _ => 300 - (intOf s).toNat)
  case atStart =>
    refine ⟨0, m + 1, 0, [], by omega, by omega, rfl, rfl, ?_, ?_, Nat.le_refl _, ?_⟩
    · refine ⟨⟨.slice (some ⟨b, off + 3, none⟩) m (cap - 3), by simp, ?_⟩, by simp, by simp, by simp, by simp⟩
      exact ⟨⟨b, off + 3, none⟩, rfl, fun _ => rfl⟩
    · exact World.ownsRow_nil _ _ _ _
    · exact (Keeps.refl _ _).alloc _
  case round =>
    obtain ⟨k, f, last, acc, g1, g2, rfl, g3, g4, g5, g6, g7⟩ := hrel
    have hb' : ∀ i, i < m → (wr.alloc (.cells #[.int .u8 0] 5)).cell? ⟨b, (off + 3) + i, none⟩ = some (.int .u8 (Y i)) := fun i hi => alloc_cell (g7.cell (hX i hi) (fun h => h)) _
    have hcs : w.heap.size ≠ wr.heap.size := by have h0 := g4.c1; have := block_lt_of_cell h0; exact Nat.ne_of_lt this
    have hsz : w.heap.size ≤ wr.heap.size := g7.size
    go_wp2_with (first | (go_at_call 16; refine (octet_rel w.heap.size wr.heap.size b (off + 3) m (cap - 3) k _ Y (wr.alloc (.cells #[.int .u8 0] 5)) hcs (by omega) g1 (g4.alloc _) (Var.fresh wr _ 5) hb').mono ?_; rintro e w1 (⟨rfl, rfl, h3, hx3, h4⟩ | ⟨h1, rfl, h3, hx3, h4⟩) <;> have hc2 := h3.c2 <;> have hxc := hx3.c <;> have hyk := hr k <;> obtain ⟨v0, hc0, a0, rfl, ha0⟩ := h3.c0 <;> have hk1 := (g7.alloc (Obj.cells #[Value.int IntKind.u8 0] 5)).trans_new h4 (fun x h => .inr (by rcases h with rfl | rfl; exact Nat.le_refl _; exact hsz)) <;> clear hb'))
    · go_ret2
      refine ⟨hk1, .inl ⟨?_, rfl⟩⟩
      rw [← g3]
      exact chs_end (by omega)
    · have h0 : Y k = 0 := eq_of_beq (by assumption)
      have hlt : 0 < m - (k + 1) := by assumption
      go_ret2
      refine ⟨hk1, .inl ⟨?_, rfl⟩⟩
      rw [← g3, chs_zero (by omega) h1 h0, if_neg (by omega)]
    · have h0 : Y k = 0 := eq_of_beq (by assumption)
      go_ret2
      refine ⟨hk1, .inr ⟨acc, _, ?_, rfl, ?_⟩⟩
      · rw [← g3, chs_zero (by omega) h1 h0, if_pos (by omega)]
      · refine own_keeps (g5.alloc _) h4 (fun g hg => ?_)
        have := g5.lt g hg
        omega
    · have h0 : (Y k == 0) = false := by assumption
      have hY0 : ¬ Y k = 0 := by simpa using h0
      have hsz1 : wr.heap.size < w1.heap.size := block_lt_of_cell hxc
      have hcN : w.heap.size ≠ w1.heap.size := by omega
      have hb1 : ∀ i, i < m → (w1.alloc (.cells #[.int .i64 0] 3)).cell? ⟨b, (off + 3) + i, none⟩ = some (.int .u8 (Y i)) := fun i hi => alloc_cell (hk1.cell (hX i hi) (fun h => h)) _
      refine (length_rel w.heap.size w1.heap.size b (off + 3) m (cap - 3) _ Y (k + 1) (w1.alloc (.cells #[.int .i64 0] 3)) (by omega) (by omega) (by omega) hcN (by omega) (h3.alloc _) (Var.fresh w1 _ 3) hb1).mono ?_
      clear hb1
      have h51 : w1.ownsRow (w.heap.size + 1) 30 4 u7 acc.length (cells4 acc) := own_keeps (g5.alloc _) h4 (fun g hg => by have := g5.lt g hg; omega)
      rintro e w2 ⟨h6, rfl, (⟨hd, ⟨k', h7⟩, hx7⟩ | ⟨n, k2, hd, hkm, h7, hx7⟩)⟩
      · have hc22 := h7.c2
        have hk2 := (hk1.alloc (Obj.cells #[Value.int IntKind.i64 0] 3)).trans_new h6 (fun x h => .inr (by omega))
        clear hc0 hc2 hxc
        go_wp2
        go_ret2
        refine ⟨hk2, .inl ⟨?_, rfl⟩⟩
        rw [← g3]
        exact chs_bad hY0 (head_none hd)
      · have hc22 := h7.c2
        have hxt := (h6.var (hx3.alloc _) (by omega)).c
        have hxn := hx7.c
        obtain ⟨v2, hc20, a2, rfl, ha2⟩ := h7.c0
        have hk2 := (hk1.alloc (Obj.cells #[Value.int IntKind.i64 0] 3)).trans_new h6 (fun x h => .inr (by omega))
        have h52 : w2.ownsRow (w.heap.size + 1) 30 4 u7 acc.length (cells4 acc) := own_keeps (h51.alloc _) h6 (fun g hg => by have := h51.lt g hg; have := g5.lt g hg; omega)
        obtain ⟨n0, n1, hkk, hh⟩ := head_some (last := last) hd
        obtain ⟨nn, rfl⟩ := Int.eq_ofNat_of_zero_le n0
        clear hc0 hc2 hxc
        by_cases q2 : Y k ≤ last
        · have hbad : head4 Y m k last = none := by rw [hh, if_pos (.inl q2)]
          go_wp2
          go_ret2
          refine ⟨hk2, .inl ⟨?_, rfl⟩⟩
          rw [← g3]
          exact chs_bad hY0 hbad
        · by_cases q3 : m - k2 < nn + 4
          · have hbad : head4 Y m k last = none := by rw [hh, if_pos (.inr (by omega))]
            have q3' : ((m - k2 : Nat) : Int) < nn + 4 := by omega
            go_wp2
            go_ret2
            refine ⟨hk2, .inl ⟨?_, rfl⟩⟩
            rw [← g3]
            exact chs_bad hY0 hbad
          · have hgood : head4 Y m k last = some (nn, k2) := by rw [hh, if_neg (by omega)]; rfl
            have hk2m : k2 < m := by omega
            obtain rfl := ha2 hk2m
            have q3' : ¬ ((m - k2 : Nat) : Int) < nn + 4 := by omega
            have q6 : ¬ (cap - 3 - k2 = nn) := by omega
            have q7 : (nn : Int) + 4 ≤ ((cap - 3 - k2 : Nat) : Int) := by omega
            have q8 : (nn : Int) ≤ ((cap - 3 - k2 : Nat) : Int) := by omega
            have d0 : w2.cell? ⟨b, off + 3 + k2 + nn, none⟩ = some (.int .u8 (Y (k2 + nn))) := by
              have := hk2.cell (hX (k2 + nn) (by omega)) (fun h => h)
              rwa [← Nat.add_assoc] at this
            have d1 : w2.cell? ⟨b, off + 3 + k2 + nn + 1, none⟩ = some (.int .u8 (Y (k2 + nn + 1))) := by
              have := hk2.cell (hX (k2 + nn + 1) (by omega)) (fun h => h)
              rwa [← Nat.add_assoc, ← Nat.add_assoc] at this
            have d2 : w2.cell? ⟨b, off + 3 + k2 + nn + 2, none⟩ = some (.int .u8 (Y (k2 + nn + 2))) := by
              have := hk2.cell (hX (k2 + nn + 2) (by omega)) (fun h => h)
              rwa [← Nat.add_assoc, ← Nat.add_assoc] at this
            have d3 : w2.cell? ⟨b, off + 3 + k2 + nn + 3, none⟩ = some (.int .u8 (Y (k2 + nn + 3))) := by
              have := hk2.cell (hX (k2 + nn + 3) (by omega)) (fun h => h)
              rwa [← Nat.add_assoc, ← Nat.add_assoc] at this
            have r0 := hr (k2 + nn) (by omega)
            have r1 := hr (k2 + nn + 1) (by omega)
            have r2 := hr (k2 + nn + 2) (by omega)
            have r3 := hr (k2 + nn + 3) (by omega)
            go_wp2_with fail
            go_region
            go_wp2_with fail
            have hb12 : ∀ wq : World, (∀ a v, w2.cell? a = some v → wq.cell? a = some v) → Calls Tryz.prog 12 #[.slice (some ⟨b, off + 3 + k2, none⟩) nn (cap - 3 - k2)] wq fun e w' => e = .returned (.int .i64 (fnv ((List.range nn).map fun i => Y (k2 + i)))) ∧ w' = wq := by
              intro wq hq
              refine bytes12 b (off + 3 + k2) nn (cap - 3 - k2) ((List.range nn).map fun i => Y (k2 + i)) wq (by simp) (by omega) ?_
              intro i hi
              have := hq _ _ (hk2.cell (hX (k2 + i) (by omega)) (fun h => h))
              rw [← Nat.add_assoc] at this
              simpa [hi] using this
            refine wp_region_quiet_lit (by kernel_rfl) (by kernel_rfl) ?_
            quiet_step (fail)
            quiet_step ((go_at_call 12; refine quiet_like (hb12 _ ?_); exact fun a v h => h))
            repeat (quiet_step (fail))
            refine wpQuiet_nil ?_
            intro _ hw'
            obtain ⟨nq, hw5⟩ := hw'
            rename_i w5
            have hk5 : Keeps (fun _ => False) w w5 := by subst hw5; exact ⟨hk2.os, hk2.tape, hk2.output, hk2.size, hk2.block⟩
            have hc50 : w5.cell? ⟨w.heap.size, 0, none⟩ = some (.slice (some ⟨b, off + 3 + k2, none⟩) (m - k2) (cap - 3 - k2)) := by subst hw5; exact hc20
            have hf50 : w5.frozen? ⟨w.heap.size, 0, none⟩ = false := by subst hw5; exact h7.f0
            have hc51 : w5.cell? ⟨w.heap.size, 1, none⟩ = some (.bool true) := by subst hw5; exact h7.c1
            have hc52 : w5.cell? ⟨w.heap.size, 2, none⟩ = some (.bool false) := by subst hw5; exact h7.c2
            have hf52 : w5.frozen? ⟨w.heap.size, 2, none⟩ = false := by subst hw5; exact h7.f2
            have hxt5 : w5.cell? ⟨wr.heap.size, 0, none⟩ = some (.int .u8 (Y k)) := by subst hw5; exact hxt
            have hxn5 : w5.cell? ⟨w1.heap.size, 0, none⟩ = some (.int .i64 nn) := by subst hw5; exact hxn
            have h55 : w5.ownsRow (w.heap.size + 1) 30 4 u7 acc.length (cells4 acc) := by subst hw5; exact h52
            rw [good4_wrap Y k2 nn r0 r1 r2 r3]
            have hown7 : ∀ g, u7.ownBlock = some g → w.heap.size + 1 ≤ g ∧ g < wr.heap.size := g5.lt
            clear hb12 hw5 h52 hxn hxt hc20 h7 hc22 hk2 h6 h3 hx3 h4 h51 g5 g4 hx7 hk1 d0 d1 d2 d3
            have hsz5 : w1.heap.size < w5.heap.size := block_lt_of_cell hxn5
            go_wp2_with (first
              | (at_builtin; refine wpList_append_own _ rfl _ _ 24 rfl (w.heap.size + 1) 30 i0 _ 4 32 Tryz.underlying24 hi hz0 hz1 hz2 rfl (by decide) u7 acc.length (cells4 acc) rfl (h55.alloc _) ⟨w5.heap.size, 0, none⟩ 1 1 [.int .i64 (Y k), .int .i64 ((m : Int) + 3 - (m - k2 : Nat)), .int .i64 ((m : Int) + 3 - (m - k2 : Nat) + nn), .bool (good4 Y k2 nn)] rfl rfl ?c1 ?c2 ?c3 ?c4 ?c5 ?_)
              | go_in)
            case c1 =>
              intro j u hj
              match j, hj with
              | 0, hj => simp at hj; subst hj; simp [Addr.add]
              | 1, hj => simp at hj; subst hj; simp [Addr.add]
              | 2, hj => simp at hj; subst hj; simp [Addr.add]
              | 3, hj => simp at hj; subst hj; simp [Addr.add]
              | j + 4, hj => simp at hj
            case c2 => intro u hu; simp at hu; rcases hu with rfl | rfl | rfl | rfl <;> rfl
            case c3 => unfold maxLen; omega
            case c4 => omega
            case c5 => simp; omega
            intro v' w4 hown' hgrow hne
            have hk4 : Keeps (fun _ => False) w w4 := by
              refine (hk5.alloc (.cells #[.int .i64 (Y k), .int .i64 ((m : Int) + 3 - (m - k2 : Nat)), .int .i64 ((m : Int) + 3 - (m - k2 : Nat) + nn), .bool (good4 Y k2 nn)] 30)).trans_new (T := fun x => some x = u7.ownBlock) (Keeps.of_grown hgrow) ?_
              intro x hx
              have := hown7 x hx.symm
              omega
            have hb4 : ∀ q, q < w5.heap.size → some q ≠ u7.ownBlock → w4.heap[q]? = w5.heap[q]? := fun q hq hn => by
              rw [hgrow.block q (by simp; omega) hn]
              exact Below.heap_alloc _ _ _ hq
            have hbc := hb4 w.heap.size (by omega) (fun e => by have := hown7 _ e.symm; omega)
            have hbn := hb4 w1.heap.size (by omega) (fun e => by have := hown7 _ e.symm; omega)
            have hc40 : w4.cell? ⟨w.heap.size, 0, none⟩ = some (.slice (some ⟨b, off + 3 + k2, none⟩) (m - k2) (cap - 3 - k2)) := (World.cell?_of_block hbc).trans hc50
            have hf40 : w4.frozen? ⟨w.heap.size, 0, none⟩ = false := (World.frozen?_of_block hbc).trans hf50
            have hc41 : w4.cell? ⟨w.heap.size, 1, none⟩ = some (.bool true) := (World.cell?_of_block hbc).trans hc51
            have hc42 : w4.cell? ⟨w.heap.size, 2, none⟩ = some (.bool false) := (World.cell?_of_block hbc).trans hc52
            have hf42 : w4.frozen? ⟨w.heap.size, 2, none⟩ = false := (World.frozen?_of_block hbc).trans hf52
            have hxn4 : w4.cell? ⟨w1.heap.size, 0, none⟩ = some (.int .i64 nn) := (World.cell?_of_block hbn).trans hxn5
            clear hgrow hb4 hbc hbn hc50 hf50 hc51 hc52 hf52 hxn5 hxt5 h55 hk5
            go_wp2_with fail
            have hyk' := hyk h1
            refine ⟨⟨k2 + nn + 4, f - 1, Y k, acc ++ [chunk4 Y m k k2 nn], by omega, by omega, rfl, ?_, ?_, ?_, by simp; omega, ?_⟩, ?_⟩
            · rw [← chs_more (by omega) h1 hY0 hgood, g3]
            · refine ⟨⟨_, World.cell?_setCell_same _ _ _ hc40, (if cap - 3 - k2 = nn + 4 then ⟨b, off + 3 + k2, none⟩ else ⟨b, off + 3 + k2 + (nn + 4), none⟩), ?_, ?_⟩, ?_, ?_, ?_, ?_⟩
              · have e1 : m - k2 - (nn + 4) = m - (k2 + nn + 4) := by omega
                have e2 : cap - 3 - k2 - (nn + 4) = cap - 3 - (k2 + nn + 4) := by omega
                rw [e1, e2]
                split <;> rfl
              · intro hlt
                rw [if_neg (by omega)]
                have e3 : off + 3 + k2 + (nn + 4) = off + 3 + (k2 + nn + 4) := by omega
                rw [e3]
              · rw [set_other _ _ _ _ (by simp)]; exact hc41
              · rw [set_other _ _ _ _ (by simp)]; exact hc42
              · rw [frozen_set]; exact hf40
              · rw [frozen_set]; exact hf42
            · have hk := hown'.kept (row := some w.heap.size) (grownBy_set w4 ⟨w.heap.size, 0, none⟩ (Value.slice (if cap - 3 - k2 = nn + 4 then some ⟨b, off + 3 + k2, none⟩ else some ⟨b, off + 3 + k2 + (nn + 4), none⟩) (m - k2 - (nn + 4)) (cap - 3 - k2 - (nn + 4)))) (own_ne hown')
              rw [cells4_snoc, List.length_append]
              exact hk
            · exact hk4.setCell _ _ (.inr (Nat.le_refl _))
            · simp [intOf]; omega
end Go.Proofs.YtadnhiagecamhaaGreatDoor
