/- A part of an evaluator of the model's calls and of the proof that it tells the truth. Conditions: those that the theorems name. -/
import Derived.Test.YtadnhiagecamhaaGreatDoorEvD
import Derived.Laws.Tables
namespace Go.Ev
open Go.RowKit
set_option linter.unusedVariables false
set_option linter.unusedSimpArgs false

theorem of_run {P : Program} {ρ : Operand → Value} {o : Oper} {s : Sem Value} {v' : Value} {w w' : World} (h : execOp ρ o = (do pure (.value (← s)) : Sem Next)) (hr : s.run P w = .ok v' w') :
    (execOp ρ o).run P w = .ok (.value v') w' := by
  rw [h, Sem.run_bind, hr]; rfl

theorem bound_rel {ι : Inj} {iv : AV} {iv' : Value} {j : Nat} (h : bound? iv = some j) (hr : VR ι iv iv') : ∃ k, iv' = .int k (j : Int) := by
  simp only [bound?, ob_eq] at h
  obtain ⟨p, h1, h2⟩ := h
  rw [int?_eq] at h1; subst h1
  cases hr
  obtain ⟨k, n⟩ := p
  cases n with
  | negSucc m => simp [icase_neg] at h2
  | ofNat m => simp only [icase_ofNat, Option.some.injEq] at h2; subst h2; exact ⟨k, rfl⟩

section
variable {P : Program} {dst : Option Tmp} {type : TypeId} {pos : String} {after : Array Edge} {guard : Option (Nat × Bool)}

theorem nil_ok (x : Operand) : PureOK P ⟨dst, .nilCheck x, type, pos, after, guard⟩ (cNil x) := by
  intro ι nt ds e a v w h hv
  simp only [cNil, ob_eq] at hv
  obtain ⟨xv, h1, p, h2, h3⟩ := hv
  rw [ptr?_eq] at h2; subst h2
  simp only [Option.some.injEq] at h3; subst h3
  have hx := ev_rel h h1
  refine ⟨a.eval x, ?_, hx⟩
  cases hX : a.eval x <;> rw [hX] at hx <;> cases hx
  simp [execOp, hX]

theorem fieldAddr_ok (s : TypeId) (x : Operand) (f : Nat) : PureOK P ⟨dst, .fieldAddr s x f, type, pos, after, guard⟩ (cFieldAddr (fieldC P s f) x) := by
  intro ι nt ds e a v w h hv
  cases hf : fieldC P s f with
  | none => rw [hf] at hv; simp [cFieldAddr, fail] at hv
  | some r =>
    obtain ⟨fo, n⟩ := r
    cases n with
    | zero => rw [hf] at hv; simp [cFieldAddr, fail] at hv
    | succ n =>
      rw [hf] at hv
      simp only [cFieldAddr, ob_eq] at hv
      obtain ⟨xv, h1, p, h2, h3⟩ := hv
      rw [ptr?_eq] at h2; subst h2
      simp only [Option.some.injEq] at h3; subst h3
      simp only [fieldC, ob_eq] at hf
      obtain ⟨q, h4, m, h5, h6⟩ := hf
      simp only [Option.some.injEq, Prod.mk.injEq] at h6
      obtain ⟨rfl, rfl⟩ := h6
      rw [fieldT_eq] at h4
      obtain ⟨fs, fl, h7, h8, rfl⟩ := h4
      have hx := ev_rel h h1
      cases hX : a.eval x <;> rw [hX] at hx <;> cases hx
      rename_i q hq
      refine ⟨.pointer (some ((⟨q.B, q.O + p.2, none⟩ : Addr).add fl.offset)), of_run (s := Instr.fieldAt s (a.eval x) f) rfl ?_, ?_⟩
      · rw [hX]
        simp only [Instr.fieldAt, Sem.run_bind, run_underlying' h7, Result.andThen_ok, h8, Instr.sureAddr, fieldPlace]
        simp [run_sizeOf h5]
      · rw [add_mk, Nat.add_assoc]
        exact .ptr hq

theorem indexAddr_ok (t : TypeId) (x i : Operand) : PureOK P ⟨dst, .indexAddr t x i, type, pos, after, guard⟩ (cIndexAddr (elemSize P t) x i) := by
  intro ι nt ds e a v w h hv
  cases hf : elemSize P t with
  | none => rw [hf] at hv; simp [cIndexAddr, fail] at hv
  | some n =>
    rw [hf] at hv
    simp only [cIndexAddr, ob_eq, bi_none] at hv
    obtain ⟨xv, h1, s, h2, iv, h3, j, h4, h5, h6⟩ := hv
    rw [slice?_eq] at h2; subst h2
    rw [nble_t] at h5
    simp only [Option.some.injEq] at h6; subst h6
    simp only [elemSize, ob_eq] at hf
    obtain ⟨el, h7, h8⟩ := hf
    rw [elemT_eq] at h7
    have hx := ev_rel h h1
    obtain ⟨k, hi⟩ := bound_rel h4 (ev_rel h h3)
    cases hX : a.eval x <;> rw [hX] at hx <;> cases hx
    rename_i cap' p A hp h9 h10 h11
    rcases h11 with ⟨rfl, h11⟩ | h11
    · refine ⟨_, of_run (s := Instr.indexAt t (a.eval x) (a.eval i)) rfl (v' := .pointer (some ((⟨p.B, p.O + s.off, none⟩ : Addr).add (j * n)))) ?_, ?_⟩
      · have hj : (j : Int) < (s.len : Nat) := by omega
        rw [hX, hi]
        simp only [Instr.indexAt, asIntOf, Sem.run_bind, Sem.run_pure, run_underlying' h7, Result.andThen_ok]
        simp [hj, run_sizeOf h8]
      · rw [add_mk, Nat.add_assoc]
        exact .ptr hp
    · omega

theorem part_ok {ι : Inj} {l : List AV} {l' : List Value} {t : TypeId} {g : Bool} {n off : Nat} {v : AV} (w : World) (hl : VRs ι l l') (hs : ∀ x ∈ l, x.simple = true)
    (hv : partA g l off n = some v) (hg : aggT P t = some g) (hn : sizeT P t = some n) : ∃ v', (part t ⟨l'⟩ off).run P w = .ok v' w ∧ VR ι v v' := by
  unfold partA at hv
  rw [bi_if] at hv
  cases g with
  | true =>
    simp only [if_true, Option.some.injEq] at hv; subst hv
    refine ⟨.agg ⟨(l'.drop off).take n⟩, ?_, ?_⟩
    · simp only [part, Sem.run_bind, run_isAgg hg, Result.andThen_ok, if_true, run_sizeOf hn]
      simp
    · refine .agg (VRs.take _ (VRs.drop _ hl)) fun x hx => hs x ?_
      exact List.mem_of_mem_drop (List.mem_of_mem_take hx)
  | false =>
    simp only [Bool.false_eq_true, if_false] at hv
    obtain ⟨v', e', r⟩ := hl.get hv
    refine ⟨v', ?_, r⟩
    simp only [part, Sem.run_bind, run_isAgg hg, Result.andThen_ok]
    simp [e']

theorem field_ok (s : TypeId) (x : Operand) (f : Nat) : PureOK P ⟨dst, .field s x f, type, pos, after, guard⟩ (cField (fieldG P s f) x) := by
  intro ι nt ds e a v w h hv
  cases hf : fieldG P s f with
  | none => rw [hf] at hv; simp [cField, fail] at hv
  | some r =>
    obtain ⟨fo, g, n⟩ := r
    rw [hf] at hv
    simp only [cField, ob_eq] at hv
    obtain ⟨xv, h1, l, h2, h3⟩ := hv
    rw [agg?_eq] at h2; subst h2
    simp only [fieldG, ob_eq] at hf
    obtain ⟨q, h4, g', h5, m, h6, h7⟩ := hf
    simp only [Option.some.injEq, Prod.mk.injEq] at h7
    obtain ⟨rfl, rfl, rfl⟩ := h7
    rw [fieldT_eq] at h4
    obtain ⟨fs, fl, h7, h8, rfl⟩ := h4
    have hx := ev_rel h h1
    cases hX : a.eval x <;> rw [hX] at hx <;> cases hx
    rename_i l' hl hs
    obtain ⟨v', h9, h10⟩ := part_ok (P := P) w hl hs h3 h5 h6
    refine ⟨v', of_run (s := Instr.field s (a.eval x) f) rfl ?_, h10⟩
    rw [hX]
    simp only [Instr.field, Sem.run_bind, run_underlying' h7, Result.andThen_ok, h8, asAgg, Sem.run_pure, h9]

theorem indexStr_ok (t : TypeId) (x i : Operand) (ht : isStrT P t = true) : PureOK P ⟨dst, .index t x i, type, pos, after, guard⟩ (cIndexStr x i) := by
  intro ι nt ds e a v w h hv
  rw [isStrT_eq] at ht
  simp only [cIndexStr, ob_eq] at hv
  obtain ⟨xv, h1, s, h2, iv, h3, j, h4, b, h5, h6⟩ := hv
  rw [str?_eq] at h2; subst h2
  simp only [Option.some.injEq] at h6; subst h6
  have hx := ev_rel h h1
  obtain ⟨k, hi⟩ := bound_rel h4 (ev_rel h h3)
  cases hX : a.eval x <;> rw [hX] at hx <;> cases hx
  refine ⟨_, of_run (s := Instr.index t (a.eval x) (a.eval i)) rfl (v' := .int .u8 b.toNat) ?_, .int _ _⟩
  rw [hX, hi]
  simp only [Instr.index, asIntOf, Sem.run_bind, Sem.run_pure, run_underlying' ht, Result.andThen_ok]
  simp [h5]

theorem indexArr_ok (t : TypeId) (x i : Operand) : PureOK P ⟨dst, .index t x i, type, pos, after, guard⟩ (cIndexArr (arrG P t) x i) := by
  intro ι nt ds e a v w h hv
  cases hf : arrG P t with
  | none => rw [hf] at hv; simp [cIndexArr, fail] at hv
  | some r =>
    obtain ⟨n, g, k⟩ := r
    rw [hf] at hv
    simp only [cIndexArr, ob_eq, bi_none] at hv
    obtain ⟨xv, h1, l, h2, iv, h3, j, h4, h5, h6⟩ := hv
    rw [agg?_eq] at h2; subst h2
    rw [nble_t] at h5
    unfold arrG at hf
    split at hf
    · rename_i n' el hu
      simp only [ob_eq] at hf
      obtain ⟨g', h7, k', h8, h9⟩ := hf
      simp only [Option.some.injEq, Prod.mk.injEq] at h9
      obtain ⟨rfl, rfl, rfl⟩ := h9
      have hx := ev_rel h h1
      obtain ⟨kk, hi⟩ := bound_rel h4 (ev_rel h h3)
      cases hX : a.eval x <;> rw [hX] at hx <;> cases hx
      rename_i l' hl hs
      obtain ⟨v', h9, h10⟩ := part_ok (P := P) w hl hs h6 h7 h8
      refine ⟨v', of_run (s := Instr.index t (a.eval x) (a.eval i)) rfl ?_, h10⟩
      have hj : (j : Int) < (n' : Nat) := by omega
      have h9 : (part el ⟨l'⟩ (j * k')).run P w = .ok v' w := h9
      rw [hX, hi]
      simp only [Instr.index, asIntOf, Sem.run_bind, Sem.run_pure, run_underlying' hu, Result.andThen_ok]
      simp [hj, run_sizeOf h8, h9]
    · simp at hf

theorem index_ok (t : TypeId) (x i : Operand) : PureOK P ⟨dst, .index t x i, type, pos, after, guard⟩ (bi (isStrT P t) (cIndexStr x i) (cIndexArr (arrG P t) x i)) := by
  cases ht : isStrT P t with
  | true => exact indexStr_ok t x i ht
  | false => exact indexArr_ok t x i

theorem extract_ok (x : Operand) (i : Nat) : PureOK P ⟨dst, .extract x i, type, pos, after, guard⟩ (cExtract x i) := by
  intro ι nt ds e a v w h hv
  simp only [cExtract, ob_eq] at hv
  obtain ⟨xv, h1, l, h2, h3⟩ := hv
  rw [tup?_eq] at h2; subst h2
  have hx := ev_rel h h1
  cases hX : a.eval x <;> rw [hX] at hx <;> cases hx
  rename_i l' hl
  obtain ⟨v', e', r⟩ := hl.get h3
  refine ⟨v', of_run (s := Instr.extract (a.eval x) i) rfl ?_, r⟩
  rw [hX]
  simp [Instr.extract, e']

theorem makeFunc_ok (f : FuncId) (p q : Array Operand) : PureOK P ⟨dst, .makeFunc (.func f) p q, type, pos, after, guard⟩ (cFunc f p.toList q.toList) := by
  intro ι nt ds e a v w h hv
  simp only [cFunc, ob_eq] at hv
  obtain ⟨x, h1, y, h2, h3⟩ := hv
  simp only [Option.some.injEq] at h3; subst h3
  refine ⟨.func (.func f) ⟨p.toList.map a.eval⟩ ⟨q.toList.map a.eval⟩, of_run (s := Instr.makeFunc (.func f) (p.map a.eval) (q.map a.eval)) rfl ?_, .func (evs_rel h h1) (evs_rel h h2)⟩
  have e1 : ∀ r : Array Operand, r.map a.eval = ⟨r.toList.map a.eval⟩ := fun r => Array.ext' (by simp)
  simp [Instr.makeFunc, e1]
end
end Go.Ev
