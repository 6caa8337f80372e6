/- The program's numbers are read as told here, for every reader. Conditions: those that the theorems name. -/
import Derived.Test.YtadnhiagecamhaaGreatDoorW3
namespace Go.Proofs.YtadnhiagecamhaaGreatDoor
open Go.RowKit

/-- The program's reader. -/
structure Cod (w : World) (c b off m cap k : Nat) (bad : Bool) : Prop where
  c0 : ∃ v, w.cell? ⟨c, 0, none⟩ = some v ∧ Rest v b off m cap k
  c1 : w.cell? ⟨c, 1, none⟩ = some (.bool true)
  c2 : w.cell? ⟨c, 2, none⟩ = some (.bool bad)
  f0 : w.frozen? ⟨c, 0, none⟩ = false
  f2 : w.frozen? ⟨c, 2, none⟩ = false
/-- A variable. -/
structure Var (w : World) (x : Nat) (v : Value) : Prop where
  c : w.cell? ⟨x, 0, none⟩ = some v
  f : w.frozen? ⟨x, 0, none⟩ = false

theorem alloc_cell {w : World} {a : Addr} {v : Value} (h : w.cell? a = some v) (o : Obj) : (w.alloc o).cell? a = some v := by
  rw [World.cell?_alloc_lt w o a (block_lt_of_cell h)]; exact h
theorem alloc_frozen {w : World} {a : Addr} {v : Value} (h : w.cell? a = some v) (o : Obj) : (w.alloc o).frozen? a = w.frozen? a :=
  World.frozen?_of_block (w := w) (Below.heap_alloc w o a.block (block_lt_of_cell h))
theorem Cod.alloc {w : World} {c b off m cap k : Nat} {bad : Bool} (h : Cod w c b off m cap k bad) (o : Obj) : Cod (w.alloc o) c b off m cap k bad := by
  obtain ⟨⟨v, h0, hr⟩, h1, h2, f0, f2⟩ := h
  exact ⟨⟨v, alloc_cell h0 o, hr⟩, alloc_cell h1 o, alloc_cell h2 o, by rw [alloc_frozen h0]; exact f0, by rw [alloc_frozen h2]; exact f2⟩
theorem Var.alloc {w : World} {x : Nat} {v : Value} (h : Var w x v) (o : Obj) : Var (w.alloc o) x v := ⟨alloc_cell h.c o, by rw [alloc_frozen h.c]; exact h.f⟩
theorem Var.fresh (w : World) (v : Value) (t : TypeId) : Var (w.alloc (.cells #[v] t)) w.heap.size v := by
  refine ⟨by rw [World.cell?_alloc_new]; rfl, ?_⟩
  unfold World.frozen?
  rw [heap_alloc_new]
  simp
theorem Var.set {w : World} {x : Nat} {v : Value} (h : Var w x v) (u : Value) : Var (w.setCell ⟨x, 0, none⟩ u) x u := ⟨World.cell?_setCell_same _ _ _ h.c, by rw [frozen_set]; exact h.f⟩
theorem Var.other {w : World} {x : Nat} {v : Value} (h : Var w x v) (a : Addr) (hn : a.block ≠ x) (u : Value) : Var (w.setCell a u) x v :=
  ⟨by rw [set_other _ _ _ _ (by rintro rfl; exact hn rfl)]; exact h.c, by rw [frozen_set]; exact h.f⟩
theorem Cod.other {w : World} {c b off m cap k : Nat} {bad : Bool} (h : Cod w c b off m cap k bad) (a : Addr) (hn : a.block ≠ c) (u : Value) : Cod (w.setCell a u) c b off m cap k bad := by
  obtain ⟨⟨v, h0, hr⟩, h1, h2, f0, f2⟩ := h
  have e : ∀ i, a ≠ (⟨c, i, none⟩ : Addr) := fun i => by rintro rfl; exact hn rfl
  exact ⟨⟨v, by rw [set_other _ _ _ _ (e 0)]; exact h0, hr⟩, by rw [set_other _ _ _ _ (e 1)]; exact h1, by rw [set_other _ _ _ _ (e 2)]; exact h2, by rw [frozen_set]; exact f0, by rw [frozen_set]; exact f2⟩
theorem Cod.setBad {w : World} {c b off m cap k : Nat} {bad : Bool} (h : Cod w c b off m cap k bad) (v : Bool) : Cod (w.setCell ⟨c, 2, none⟩ (.bool v)) c b off m cap k v := by
  obtain ⟨⟨x, h0, hr⟩, h1, h2, f0, f2⟩ := h
  exact ⟨⟨x, by rw [set_other _ _ _ _ (by simp)]; exact h0, hr⟩, by rw [set_other _ _ _ _ (by simp)]; exact h1, World.cell?_setCell_same _ _ _ h2, by rw [frozen_set]; exact f0, by rw [frozen_set]; exact f2⟩
theorem Keeps.var {S : Nat → Prop} {w w' : World} (h : Keeps S w w') {x : Nat} {v : Value} (hv : Var w x v) (hn : ¬ S x) : Var w' x v :=
  ⟨h.cell hv.c hn, by rw [World.frozen?_of_block (w := w) (h.block x (block_lt_of_cell hv.c) hn)]; exact hv.f⟩

theorem octet_rel (c x b off m cap k : Nat) (xv : Value) (X : Nat → Int) (w : World) (hcx : c ≠ x) (hcap : m ≤ cap) (hk : k ≤ m) (hr : Cod w c b off m cap k false) (hx : Var w x xv) (hb : ∀ i, i < m → w.cell? ⟨b, off + i, none⟩ = some (.int .u8 (X i))) :
    Calls Tryz.prog 16 #[.pointer (some ⟨c, 0, none⟩), .pointer (some ⟨x, 0, none⟩)] w fun e w' =>
      (k = m ∧ e = .returned (.tuple #[]) ∧ Cod w' c b off m cap k true ∧ Var w' x (.int .u8 0) ∧ Keeps (fun y => y = c ∨ y = x) w w') ∨
      (k < m ∧ e = .returned (.tuple #[]) ∧ Cod w' c b off m cap (k + 1) false ∧ Var w' x (.int .u8 (X k)) ∧ Keeps (fun y => y = c ∨ y = x) w w') := by
  obtain ⟨⟨v, c0, a, rfl, ha⟩, c1, c2, f0, f2⟩ := hr
  by_cases hkm : k = m
  · subst hkm
    rw [Nat.sub_self] at c0
    refine (octet_empty c x (cap - k) (some a) xv (.bool false) w hcx c0 c1 c2 f2 hx.c hx.f).mono fun e w' ⟨he, hw⟩ => .inl ⟨rfl, he, ?_, ?_, ?_⟩
    · subst hw
      exact (Cod.setBad (bad := false) ⟨⟨_, c0, a, by rw [Nat.sub_self], fun h => by omega⟩, c1, c2, f0, f2⟩ true).other _ (Ne.symm hcx) _
    · subst hw; exact (hx.other ⟨c, 2, none⟩ hcx _).set _
    · subst hw; exact ((Keeps.refl _ _).setCell _ _ (.inl (.inl rfl))).setCell _ _ (.inl (.inr rfl))
  · have hlt : k < m := by omega
    obtain rfl := ha hlt
    have e1 : m - k = (m - (k + 1)) + 1 := by omega
    rw [e1] at c0
    refine (octet_some c x b (off + k) (m - (k + 1)) (cap - k) (X k) xv w hcx (by omega) c0 c1 f0 hx.c hx.f (hb k hlt)).mono fun e w' ⟨he, hw⟩ => .inr ⟨hlt, he, ?_, ?_, ?_⟩
    · subst hw
      have c0' : (w.setCell ⟨x, 0, none⟩ (.int .u8 (X k))).cell? ⟨c, 0, none⟩ = _ := (set_other _ _ _ _ (fun h => hcx (congrArg Addr.block h).symm)).trans c0
      refine ⟨⟨_, World.cell?_setCell_same _ _ _ c0', (if cap - k = 1 then ⟨b, off + k, none⟩ else ⟨b, off + k + 1, none⟩), ?_, fun h => ?_⟩, ?_, ?_, ?_, ?_⟩
      · have : cap - k - 1 = cap - (k + 1) := by omega
        rw [this]
        split <;> rfl
      · rw [if_neg (by omega), Nat.add_assoc]
      · rw [World.cell?_drew, set_other _ _ _ _ (by simp), set_other _ _ _ _ (fun h => hcx (congrArg Addr.block h).symm)]; exact c1
      · rw [World.cell?_drew, set_other _ _ _ _ (by simp), set_other _ _ _ _ (fun h => hcx (congrArg Addr.block h).symm)]; exact c2
      · show ((w.setCell _ _).setCell _ _).frozen? _ = false
        rw [frozen_set, frozen_set]; exact f0
      · show ((w.setCell _ _).setCell _ _).frozen? _ = false
        rw [frozen_set, frozen_set]; exact f2
    · subst hw
      have h := (hx.set (.int .u8 (X k))).other ⟨c, 0, none⟩ hcx (.slice (if cap - k = 1 then some ⟨b, off + k, none⟩ else some ⟨b, off + k + 1, none⟩) (m - (k + 1)) (cap - k - 1))
      exact ⟨h.c, h.f⟩
    · subst hw; exact (((Keeps.refl _ _).setCell _ _ (.inl (.inr rfl))).setCell _ _ (.inl (.inl rfl))).drew

/-- The program's number. -/
def decP (X : Nat → Int) (m : Nat) : Nat → Nat → Nat → Int → Option (Int × Nat)
  | 0, _, _, _ => none
  | f + 1, j, k, u => if k < m then (if (j = 63 ∧ 1 < X k) ∨ (0 < j ∧ X k = 0) then none else if X k < 128 then some (accu u (X k) j, k + 1) else decP X m f (j + 7) (k + 1) (accu u (X k) j)) else none
theorem decP_end {X : Nat → Int} {m f j k : Nat} {u : Int} (h : ¬ k < m) : decP X m f j k u = none := by
  cases f with
  | zero => rfl
  | succ f => rw [decP, if_neg h]
theorem decP_bad {X : Nat → Int} {m f j k : Nat} {u : Int} (h : (j = 63 ∧ 1 < X k) ∨ (0 < j ∧ X k = 0)) : decP X m f j k u = none := by
  cases f with
  | zero => rfl
  | succ f =>
    rw [decP]
    by_cases hk : k < m
    · rw [if_pos hk, if_pos h]
    · rw [if_neg hk]
theorem decP_last {X : Nat → Int} {m f j k : Nat} {u : Int} (hf : 0 < f) (hk : k < m) (h : ¬ ((j = 63 ∧ 1 < X k) ∨ (0 < j ∧ X k = 0))) (hx : X k < 128) : decP X m f j k u = some (accu u (X k) j, k + 1) := by
  cases f with
  | zero => omega
  | succ f => rw [decP, if_pos hk, if_neg h, if_pos hx]
theorem decP_more {X : Nat → Int} {m f j k : Nat} {u : Int} (hf : 0 < f) (hk : k < m) (h : ¬ ((j = 63 ∧ 1 < X k) ∨ (0 < j ∧ X k = 0))) (hx : ¬ X k < 128) : decP X m f j k u = decP X m (f - 1) (j + 7) (k + 1) (accu u (X k) j) := by
  cases f with
  | zero => omega
  | succ f => rw [decP, if_pos hk, if_neg h, if_neg hx]; rfl
/-- What the program makes of it. -/
def unzP (u : Int) : Int := if bits BinOp.and IntKind.u64 u 1 == 1 then bits BinOp.xor IntKind.i64 (-1) (wrap64 (u / 2)) else wrap64 (u / 2)

/-- What 'whole' leaves. -/
def WholePost (X : Nat → Int) (c p b off m cap k0 : Nat) (w : World) (e : Ending) (w' : World) : Prop :=
  Keeps (fun x => x = c ∨ x = p) w w' ∧ e = .returned (.tuple #[]) ∧ ((decP X m 12 0 k0 0 = none ∧ (∃ k, Cod w' c b off m cap k true) ∧ Var w' p (.int .i64 0)) ∨
    ∃ u k, decP X m 12 0 k0 0 = some (u, k) ∧ k ≤ m ∧ Cod w' c b off m cap k false ∧ Var w' p (.int .i64 (unzP u)))

theorem Keeps.trans_new {S T : Nat → Prop} {a b c : World} (h : Keeps S a b) (k : Keeps T b c) (ht : ∀ x, T x → S x ∨ a.heap.size ≤ x) : Keeps S a c :=
  ⟨k.os.trans h.os, k.tape.trans h.tape, k.output.trans h.output, Nat.le_trans h.size k.size, fun j hj hs => (k.block j (Nat.lt_of_lt_of_le hj h.size) fun e => by rcases ht j e with e | e; exact hs e; omega).trans (h.block j hj hs)⟩

theorem whole_bad {X : Nat → Int} {c p b off m cap k0 k : Nat} {w w' : World} {bad : Bool} {pv : Value} (hcp : c ≠ p) (hk : Keeps (fun x => x = c) w w') (h3 : Cod w' c b off m cap k bad) (hp : Var w' p pv) (hd : decP X m 12 0 k0 0 = none) :
    WholePost X c p b off m cap k0 w (.returned (.tuple #[])) ((w'.setCell ⟨c, 2, none⟩ (.bool true)).setCell ⟨p, 0, none⟩ (.int .i64 0)) :=
  ⟨((hk.mono fun _ h => .inl h).setCell _ _ (.inl (.inl rfl))).setCell _ _ (.inl (.inr rfl)), rfl, .inl ⟨hd, ⟨k, (h3.setBad true).other _ (Ne.symm hcp) _⟩, (hp.other ⟨c, 2, none⟩ hcp _).set _⟩⟩
theorem whole_even {X : Nat → Int} {c p b off m cap k0 k : Nat} {u : Int} {w w' : World} {pv : Value} (hcp : c ≠ p) (hk : Keeps (fun x => x = c) w w') (h3 : Cod w' c b off m cap k false) (hp : Var w' p pv) (hkm : k ≤ m) (hd : decP X m 12 0 k0 0 = some (u, k))
    (hu : (bits BinOp.and IntKind.u64 u 1 == 1) = false) :
    WholePost X c p b off m cap k0 w (.returned (.tuple #[])) (w'.setCell ⟨p, 0, none⟩ (.int .i64 (wrap64 (u / 2)))) := by
  refine ⟨(hk.mono fun _ h => .inl h).setCell _ _ (.inl (.inr rfl)), rfl, .inr ⟨u, k, hd, hkm, h3.other _ (Ne.symm hcp) _, ?_⟩⟩
  unfold unzP
  rw [hu]
  exact hp.set _
theorem whole_odd {X : Nat → Int} {c p b off m cap k0 k : Nat} {u : Int} {w w' : World} {pv : Value} (hcp : c ≠ p) (hk : Keeps (fun x => x = c) w w') (h3 : Cod w' c b off m cap k false) (hp : Var w' p pv) (hkm : k ≤ m) (hd : decP X m 12 0 k0 0 = some (u, k))
    (hu : (bits BinOp.and IntKind.u64 u 1 == 1) = true) :
    WholePost X c p b off m cap k0 w (.returned (.tuple #[])) ((w'.setCell ⟨p, 0, none⟩ (.int .i64 (wrap64 (u / 2)))).setCell ⟨p, 0, none⟩ (.int .i64 (bits BinOp.xor IntKind.i64 (-1) (wrap64 (u / 2))))) := by
  refine ⟨((hk.mono fun _ h => .inl h).setCell _ _ (.inl (.inr rfl))).setCell _ _ (.inl (.inr rfl)), rfl, .inr ⟨u, k, hd, hkm, (h3.other _ (Ne.symm hcp) _).other _ (Ne.symm hcp) _, ?_⟩⟩
  unfold unzP
  rw [if_pos hu]
  exact (hp.set _).set _

set_option maxHeartbeats 4000000 in
theorem whole_rel (c p b off m cap : Nat) (pv : Value) (X : Nat → Int) (k0 : Nat) (w : World) (hcap : m ≤ cap) (hk0 : k0 ≤ m) (hcb : c ≠ b) (hcp : c ≠ p) (_hpb : p ≠ b) (hr : Cod w c b off m cap k0 false) (hp : Var w p pv) (hb : ∀ i, i < m → w.cell? ⟨b, off + i, none⟩ = some (.int .u8 (X i))) :
    Calls Tryz.prog 35 #[.pointer (some ⟨c, 0, none⟩), .pointer (some ⟨p, 0, none⟩)] w (WholePost X c p b off m cap k0 w) := by
  have hc1 := hr.c1
  go_enter Tryz.func35, Tryz.ntmps35
  go_wp2
  go_loopw [5, 6] (fun u s wr => ∃ j k f : Nat, ∃ uu : Int, k ≤ m ∧ u = .int .u64 uu ∧ s = .int .i64 j ∧ j + 7 * f = 84 ∧ j ≤ 63 ∧ decP X m f j k uu = decP X m 12 0 k0 0 ∧ Cod wr c b off m cap k false ∧ Keeps (fun x => x = c) w wr) (fun _ s _ => 100 - (intOf s).toNat)
  case atStart => exact ⟨0, k0, 12, 0, hk0, rfl, rfl, rfl, by omega, rfl, hr, Keeps.refl _ _⟩
  case round =>
    obtain ⟨j, k, f, uu, g2, rfl, rfl, g6, g3, g7, g4, g5⟩ := hrel
    have hb' : ∀ i, i < m → (wr.alloc (.cells #[.int .u8 0] 5)).cell? ⟨b, off + i, none⟩ = some (.int .u8 (X i)) := fun i hi => alloc_cell (g5.cell (hb i hi) (fun h => hcb h.symm)) _
    have hcs : c ≠ wr.heap.size := by have h0 := g4.c1; have := block_lt_of_cell h0; exact Nat.ne_of_lt this
    have hpn : ¬ (p = c ∨ p = wr.heap.size) := by
      have h0 := (g5.var hp (Ne.symm hcp)).c
      have := block_lt_of_cell h0
      simp only at this
      rintro (h | h)
      · exact hcp h.symm
      · omega
    go_wp2_with (first | (go_at_call 16; refine (octet_rel c wr.heap.size b off m cap k _ X (wr.alloc (.cells #[.int .u8 0] 5)) hcs hcap g2 (g4.alloc _) (Var.fresh wr _ 5) hb').mono ?_; clear hb' hb hr hc1; rintro e w' (⟨rfl, rfl, h3, hx3, h4⟩ | ⟨h1, rfl, h3, hx3, h4⟩) <;> have hc1 := h3.c1 <;> have hc2 := h3.c2 <;> have hf2 := h3.f2 <;> have hxc := hx3.c <;> have hpw := h4.var ((g5.var hp (Ne.symm hcp)).alloc _) hpn <;> have hpc := hpw.c <;> have hpf := hpw.f))
    all_goals
      have hsz : w.heap.size ≤ wr.heap.size := g5.size
      have hkk : Keeps (fun x => x = c) w w' := (g5.alloc _).trans_new h4 (fun x h => by rcases h with rfl | rfl; exact .inl rfl; exact .inr hsz)
    all_goals first
      | (refine bodyPost_ret (results_none Tryz.results35 _ _ _) rfl ?_
         refine whole_bad hcp hkk h3 hpw ?_
         rw [← g7]
         exact decP_end (by omega))
      | (refine bodyPost_ret (results_none Tryz.results35 _ _ _) rfl ?_
         refine whole_bad hcp hkk h3 hpw ?_
         rw [← g7]
         refine decP_bad ?_
         first
           | exact .inl ⟨by omega, by omega⟩
           | (rename_i hx; rcases hx with hx | hx
              · exact .inl ⟨by omega, hx⟩
              · exact .inr ⟨by omega, eq_of_beq hx⟩)
           | exact .inr ⟨by omega, eq_of_beq (by assumption)⟩)
      | (have hnc : ¬ ((j = 63 ∧ 1 < X k) ∨ (0 < j ∧ X k = 0)) := by
           rintro (⟨h, h'⟩ | ⟨h, h'⟩)
           · omega
           · first
               | omega
               | exact absurd (beq_iff_eq.2 h') (by rw [‹(X k == 0) = false›]; exact Bool.false_ne_true)
               | simp_all
         have hx128 : X k < 128 := by assumption
         have hd := (decP_last (u := uu) (by omega : 0 < f) h1 hnc hx128).symm.trans g7
         refine bodyPost_end (results_none Tryz.results35 _ _ _) rfl ?_
         first
           | exact whole_odd (pv := pv) hcp hkk h3 hpw (by omega) hd.symm (by assumption)
           | exact whole_even (pv := pv) hcp hkk h3 hpw (by omega) hd.symm (by assumption)
           | (have key := whole_odd (pv := pv) hcp hkk h3 hpw (by omega) hd.symm (by rw [accu_63 _ _ (by assumption)]; assumption)
              rw [accu_63 _ _ (by assumption)] at key
              exact key)
           | (have key := whole_even (pv := pv) hcp hkk h3 hpw (by omega) hd.symm (by rw [accu_63 _ _ (by assumption)]; assumption)
              rw [accu_63 _ _ (by assumption)] at key
              exact key)
           | exact whole_odd (pv := pv) hcp hkk h3 hpw (by omega) hd.symm (by assumption)
           | exact whole_even (pv := pv) hcp hkk h3 hpw (by omega) hd.symm (by assumption))
      | (have hnc : ¬ ((j = 63 ∧ 1 < X k) ∨ (0 < j ∧ X k = 0)) := by
           rintro (⟨h, h'⟩ | ⟨h, h'⟩)
           · omega
           · first
               | omega
               | simp_all
         have hg8 := (decP_more (u := uu) (by omega : 0 < f) h1 hnc (by omega)).symm.trans g7
         go_roundw
         case rel => exact ⟨j + 7, k + 1, f - 1, accu uu (X k) j, by omega, rfl, by go_num, by omega, by omega, hg8, h3, hkk⟩
         case measure => simp [intOf]; omega)
      | skip
end Go.Proofs.YtadnhiagecamhaaGreatDoor
