/- A part of an evaluator of the model's calls and of the proof that it tells the truth. Conditions: those that the theorems name. -/
import Derived.Test.YtadnhiagecamhaaGreatDoorEvR
namespace Go.Ev
open Go.RowKit
set_option linter.unusedVariables false
set_option linter.unusedSimpArgs false

theorem mkM_get : ∀ {l : List (Nat × LB)} {b : Nat} {K : Blk}, (mkM l).get b = some K → ∃ k, (b, k) ∈ l ∧ K = k.blk
  | [], b, K, h => by have h : (Tri.leaf : Tri Blk).get b = some K := h; rw [Tri.get_leaf] at h; cases h
  | p :: l, b, K, h => by
    have h : ((mkM l).set p.1 p.2.blk).get b = some K := h
    rw [Tri.get_set] at h
    by_cases e : b = p.1
    · rw [if_pos e, Option.some.injEq] at h
      exact ⟨p.2, by rw [e]; exact List.mem_cons_self, h.symm⟩
    · rw [if_neg e] at h
      obtain ⟨k, h1, h2⟩ := mkM_get h
      exact ⟨k, List.mem_cons_of_mem _ h1, h2⟩

theorem leK_sub {B : Blk} {k : LB} (h : leK B k = true) : SubB B k.blk := by
  cases k with
  | emap => have h : B.isMap = true := h; rw [isMap_eq] at h; subst h; exact .refl _
  | dead => exact ⟨fun _ => rfl, fun _ _ _ _ => .dead⟩
  | cells l =>
    have h : @Option.rec Cl (fun _ => Bool) false (leC l) B.cells? = true := h
    cases hc : B.cells? with
    | none => rw [hc] at h; cases h
    | some c =>
      rw [hc] at h
      have hh : leC l c = true := h
      clear h
      rw [cells?_eq] at hc; subst hc
      unfold leC at hh
      rw [bi_if] at hh
      by_cases hn : Nat.beq c.n (len l) = true
      · rw [if_pos hn] at hh
        rw [nbeq_t, len_eq] at hn
        cases hr : readN c.t (len l) (nat_lit 0) with
        | none => rw [hr] at hh; cases hh
        | some m =>
          rw [hr] at hh
          have hh : AV.beqs m l = true := hh
          rw [AV.beqs_eq hh] at hr
          obtain ⟨_, hg⟩ := readN_get hr
          refine ⟨fun e => (by cases e), fun κ p w hb => ?_⟩
          cases hb with
          | cells g1 g2 g3 g4 =>
            refine .cells g1 g2 (by rw [len_eq, ← hn]; exact g3) fun i v hi hv => ?_
            rw [len_eq] at hi
            rw [get_writeN, if_pos ⟨Nat.zero_le _, by show i < 0 + l.length; omega⟩] at hv
            have hv : l[i]? = some v := hv
            have := hg i (by rw [len_eq]; exact hi)
            rw [hv] at this
            have this : some v = c.t.get (0 + i) := this
            rw [Nat.zero_add] at this
            exact g4 i v (by omega) this.symm
      · rw [if_neg hn] at hh; cases hh

theorem leL_sub {h : Hp} : ∀ {l : List (Nat × LB)}, leL h l = true → ∀ b k, (b, k) ∈ l → ∃ B, h.m.get b = some B ∧ SubB B k.blk
  | [], _, b, k, hm => by cases hm
  | p :: l, hl, b, k, hm => by
    have hl : bi (@Option.rec Blk (fun _ => Bool) false (fun b => leK b p.2) (h.m.get p.1)) (leL h l) false = true := hl
    rw [bi_none'] at hl
    rcases List.mem_cons.1 hm with rfl | hm
    · cases hg : h.m.get b with
      | none => rw [hg] at hl; cases hl.1
      | some B => rw [hg] at hl; exact ⟨B, rfl, leK_sub hl.1⟩
    · exact leL_sub hl.2 b k hm
  where bi_none' {b t : Bool} : (bi b t false = true) = (b = true ∧ t = true) := by cases b <;> simp [bi]

theorem le_sub {h : Hp} {n : Nat} {l : List (Nat × LB)} (hl : leL h l = true) (b : Nat) : SubG (h.m.get b) ((mkHp n l).m.get b) := fun K hK => by
  obtain ⟨k, h1, rfl⟩ := mkM_get hK
  exact leL_sub hl b k h1

theorem WR.le {ι : Inj} {h : Hp} {w : World} (hw : WR ι h w) {n : Nat} {l : List (Nat × LB)} (hn : h.next = n) (hl : leL h l = true) : WR ι (mkHp n l) w := by
  have live : ∀ c, alive (mkHp n l) c → alive h c := by
    rintro c ⟨K, hK, hd⟩
    obtain ⟨B, hB, hs⟩ := le_sub (n := n) hl c K hK
    exact ⟨B, hB, fun e => hd (hs.1 e)⟩
  refine ⟨fun b p hb => by subst hn; exact hw.lt b p hb, fun b p K hb hK => ?_, fun b c p q hb hc hne h1 h2 => hw.sep b c p q hb hc hne (live b h1) (live c h2)⟩
  obtain ⟨B, hB, hs⟩ := le_sub (n := n) hl b K hK
  exact hs.2 _ _ _ (hw.blk b p B hb hB)

theorem bi_t {b t : Bool} : bi b t false = true ↔ b = true ∧ t = true := by cases b <;> simp [bi]

theorem fact_ok {P : Program} {call : CallF} (hc : CallOK P call) {F : Fact} (hF : factOk call F = true) {k : CallF} (hk : CallOK P k) : CallOK P (factK F k) := by
  intro f args h v h' hr
  unfold factK at hr
  rw [bi_if] at hr
  by_cases h1 : Nat.beq f F.f = true
  case neg => rw [if_neg h1] at hr; exact hk _ _ _ _ _ hr
  rw [if_pos h1, bi_if] at hr
  by_cases h2 : Nat.beq h.next F.next = true
  case neg => rw [if_neg h2] at hr; exact hk _ _ _ _ _ hr
  rw [if_pos h2, bi_if] at hr
  by_cases h3 : AV.beqs args F.args = true
  case neg => rw [if_neg h3] at hr; exact hk _ _ _ _ _ hr
  rw [if_pos h3, bi_if] at hr
  by_cases h4 : leL h F.hp = true
  case neg => rw [if_neg h4] at hr; exact hk _ _ _ _ _ hr
  rw [if_pos h4] at hr
  simp only [Option.some.injEq, Prod.mk.injEq] at hr
  obtain ⟨rfl, rfl⟩ := hr
  rw [nbeq_t] at h1 h2
  have h3 := AV.beqs_eq h3
  subst h1 h3
  unfold factOk at hF
  cases hcall : call F.f F.args (mkHp F.next F.hp) with
  | none => rw [hcall] at hF; cases hF
  | some r =>
    rw [hcall] at hF
    obtain ⟨rv, rh⟩ := r
    have hF : bi (AV.beq rv F.v) (bi (Nat.beq rh.next F.next') (leL rh F.hp') false) false = true := hF
    rw [bi_t, bi_t, nbeq_t] at hF
    obtain ⟨h5, h6, h7⟩ := hF
    have h5 := AV.beq_eq h5
    subst h5
    obtain ⟨hfn, hcalls⟩ := hc _ _ _ _ _ hcall
    refine ⟨hfn, fun ι w args' hw hargs => Calls.mono (hcalls ι w args' (hw.le h2 h4) hargs) fun e w' he => ?_⟩
    obtain ⟨v', κ, g1, g2, g3, g4⟩ := he
    refine ⟨v', κ, g1, g2, g3.le h6 h7, ⟨g4.ext, ?_, fun b hb hn => ?_, g4.size, g4.out, g4.fresh, g4.tape, g4.os, g4.output⟩⟩
    · have := g4.next
      show h.next ≤ F.next'
      rw [← h6, h2]
      exact this
    · obtain ⟨k1, k2⟩ := g4.unborn b (by show b < F.next; omega) hn
      exact ⟨k1, (le_sub h4 b).trans (k2.trans (le_sub (n := F.next') h7 b))⟩

theorem noK_ok (P : Program) : CallOK P noK := by intro f args h v h' hr; cases hr
end Go.Ev
