/- A part of an evaluator of the model's calls and of the proof that it tells the truth. Conditions: those that the theorems name. -/
import Derived.Test.YtadnhiagecamhaaGreatDoorEvM
import Derived.Laws.Strings
namespace Go.Ev
open Go.RowKit
set_option linter.unusedVariables false
set_option linter.unusedSimpArgs false

/-! ### equal values -/
theorem byteArray_ext {a b : ByteArray} (h : (a.toList == b.toList) = true) : a = b := by
  have h : a.toList = b.toList := by simpa using h
  have e : ∀ x : ByteArray, x.toList = x.data.toList := fun x => ByteArray.toList_eq x
  rw [e, e] at h
  cases a; cases b
  simp at h
  rw [h]
mutual
theorem AV.beq_eq : ∀ {a b : AV}, AV.beq a b = true → a = b
  | .bool x, b, h => by cases b <;> simp_all [AV.beq]
  | .int k n, b, h => by
    cases b <;> simp [AV.beq] at h
    rw [kEq_eq, ieq_eq] at h
    simp at h
    rw [h.1, h.2]
  | .str s, b, h => by
    cases b <;> simp only [AV.beq, reduceCtorEq] at h
    rw [byteArray_ext h]
    all_goals simp at h
  | .ptr x y, b, h => by cases b <;> simp_all [AV.beq]
  | .nilptr, b, h => by cases b <;> simp_all [AV.beq]
  | .slice x y z u v, b, h => by cases b <;> simp_all [AV.beq]
  | .nilslice, b, h => by cases b <;> simp_all [AV.beq]
  | .map x, b, h => by cases b <;> simp_all [AV.beq]
  | .nilmap, b, h => by cases b <;> simp_all [AV.beq]
  | .func f x y, b, h => by
    cases b <;> simp [AV.beq] at h
    obtain ⟨⟨h1, h2⟩, h3⟩ := h
    rw [h1, AV.beqs_eq h2, AV.beqs_eq h3]
  | .nilfunc, b, h => by cases b <;> simp_all [AV.beq]
  | .yfn, b, h => by cases b <;> simp_all [AV.beq]
  | .iface t v, b, h => by
    cases b <;> simp [AV.beq] at h
    rw [h.1, AV.beq_eq h.2]
  | .nili, b, h => by cases b <;> simp_all [AV.beq]
  | .agg l, b, h => by
    cases b <;> simp [AV.beq] at h
    rw [AV.beqs_eq h]
  | .tup l, b, h => by
    cases b <;> simp [AV.beq] at h
    rw [AV.beqs_eq h]
theorem AV.beqs_eq : ∀ {a b : List AV}, AV.beqs a b = true → a = b
  | [], b, h => by cases b <;> simp_all [AV.beqs]
  | x :: l, b, h => by
    cases b <;> simp [AV.beqs] at h
    rw [AV.beq_eq h.1, AV.beqs_eq h.2]
end

/-! ### the slots behind some of the operations -/
abbrev Dst := Nat → Option Tmp
def lastOf (dst : Dst) (D : Nat → Bool) (t : Tmp) : Nat → Option Nat
  | 0 => none
  | n + 1 => if D n = true ∧ dst n = some t then some n else lastOf dst D t n
noncomputable def envL (e0 : Env) (dst : Dst) (val : Nat → AV) (D : Nat → Bool) : Nat → Env
  | 0 => e0
  | n + 1 => if D n = true then (match dst n with | some t => (envL e0 dst val D n).set t (val n) | none => envL e0 dst val D n) else envL e0 dst val D n
theorem envL_get (e0 : Env) (dst : Dst) (val : Nat → AV) (D : Nat → Bool) (t : Tmp) : ∀ n, (envL e0 dst val D n).get t = match lastOf dst D t n with | some j => some (val j) | none => e0.get t
  | 0 => rfl
  | n + 1 => by
    unfold envL lastOf
    by_cases hD : D n = true
    · rw [if_pos hD]
      cases hd : dst n with
      | none => simp only [hD, reduceCtorEq, and_false, if_false]; exact envL_get e0 dst val D t n
      | some u =>
        simp only [hD, true_and, Option.some.injEq]
        rw [Tri.get_set]
        by_cases hu : u = t
        · subst hu; rw [if_pos rfl, if_pos rfl]
        · rw [if_neg (Ne.symm hu), if_neg hu]; exact envL_get e0 dst val D t n
    · rw [if_neg hD, if_neg (fun h => hD h.1)]; exact envL_get e0 dst val D t n
theorem lastOf_congr {dst : Dst} {D D' : Nat → Bool} {t : Tmp} : ∀ {n : Nat}, (∀ j, j < n → dst j = some t → D j = D' j) → lastOf dst D t n = lastOf dst D' t n
  | 0, _ => rfl
  | n + 1, h => by
    unfold lastOf
    rw [lastOf_congr fun j hj hd => h j (by omega) hd]
    by_cases hd : dst n = some t
    · rw [h n (by omega) hd]
    · rw [if_neg (fun x => hd x.2), if_neg (fun x => hd x.2)]
theorem lastOf_mem {dst : Dst} {D : Nat → Bool} {t : Tmp} : ∀ {n j : Nat}, lastOf dst D t n = some j → j < n ∧ D j = true ∧ dst j = some t
  | 0, j, h => by cases h
  | n + 1, j, h => by
    unfold lastOf at h
    split at h
    · rename_i hc; rw [Option.some.injEq] at h; subst h; exact ⟨by omega, hc.1, hc.2⟩
    · have := lastOf_mem h; exact ⟨by omega, this.2⟩
theorem lastOf_top {dst : Dst} {D : Nat → Bool} {t : Tmp} {i : Nat} (hi : D i = true) (hd : dst i = some t) : ∀ {n : Nat}, i < n → (∀ j, j < n → i < j → D j = true → dst j ≠ some t) → lastOf dst D t n = some i
  | 0, h, _ => by omega
  | n + 1, h, hj => by
    unfold lastOf
    by_cases hc : D n = true ∧ dst n = some t
    · rw [if_pos hc]
      by_cases hn : n = i
      · rw [hn]
      · exact absurd hc.2 (hj n (by omega) (by omega) hc.1)
    · rw [if_neg hc]
      by_cases hn : n = i
      · subst hn; exact absurd ⟨hi, hd⟩ hc
      · exact lastOf_top hi hd (by omega) fun j h1 h2 => hj j (by omega) h2

/-- What is known of a region's operations' order. -/
structure Ord (ops : Array Oper) (A : Nat → Nat) : Prop where
  len : ∀ i, ops.size ≤ i → A i = 0
  lt : ∀ i o e, ops[i]? = some o → e ∈ o.after → Region.binds .any e = true → e.on < i
  anc : ∀ i o, ops[i]? = some o → ∀ j, (A i).testBit j = true ↔ ∃ e ∈ o.after, Region.binds .any e = true ∧ (e.on = j ∨ (A e.on).testBit j = true)
  apart : ∀ i j o p, i < j → ops[i]? = some o → ops[j]? = some p → (A j).testBit i = false → o.apart ops p = true

theorem ancOf_bits (as : List Nat) : ∀ (l : List Edge) (m j : Nat), (l.foldl (fun m e => bi (Region.binds .any e) (Nat.lor (Nat.lor m (bit e.on)) (as.getD e.on 0)) m) m).testBit j = true ↔
    m.testBit j = true ∨ ∃ e ∈ l, Region.binds .any e = true ∧ (e.on = j ∨ (as.getD e.on 0).testBit j = true)
  | [], m, j => by simp
  | e :: l, m, j => by
    rw [List.foldl_cons, ancOf_bits as l, bi_if]
    cases hb : Region.binds .any e with
    | false => simp [hb]
    | true =>
      simp only [if_true, lor_lor, Bool.or_eq_true, decide_eq_true_eq, List.mem_cons, exists_eq_or_imp, hb, true_and]
      constructor
      · rintro ((h | h) | h)
        · rcases h with h | h
          · exact .inl h
          · exact .inr (.inl (.inl h))
        · exact .inr (.inl (.inr h))
        · exact .inr (.inr h)
      · rintro (h | (h | h) | h)
        · exact .inl (.inl (.inl h))
        · exact .inl (.inl (.inr h))
        · exact .inl (.inr h)
        · exact .inr h

theorem apartAll_spec {ops : Array Oper} {o : Oper} {anc : Nat} : ∀ {l : List Oper} {i : Nat}, drawOk.apartAll ops o anc i l = true → ∀ k x, l[k]? = some x → anc.testBit (i + k) = false → x.apart ops o = true
  | [], i, _, k, x, hx, _ => by simp at hx
  | y :: l, i, h, k, x, hx, hb => by
    unfold drawOk.apartAll at h
    rw [Bool.and_eq_true, Bool.or_eq_true, hasBit_eq] at h
    cases k with
    | zero =>
      simp at hx; subst hx
      rcases h.1 with h1 | h1
      · rw [Nat.add_zero] at hb; rw [h1] at hb; cases hb
      · exact h1
    | succ k =>
      exact apartAll_spec h.2 k x (by simpa using hx) (by rw [show i + 1 + k = i + (k + 1) by omega]; exact hb)

theorem drawGo_spec {ops : Array Oper} {as : List Nat} : ∀ {l : List Oper} {i : Nat}, drawOk.go ops as i l = true → ∀ k x, l[k]? = some x →
    (∀ e ∈ x.after, Region.binds .any e = true → e.on < i + k) ∧ as.getD (i + k) 0 = ancOf x as ∧ drawOk.apartAll ops x (as.getD (i + k) 0) 0 (ops.toList.take (i + k)) = true
  | [], i, _, k, x, hx => by simp at hx
  | y :: l, i, h, k, x, hx => by
    unfold drawOk.go at h
    simp only [Bool.and_eq_true, nbeq_t] at h
    obtain ⟨⟨⟨h1, h2⟩, h3⟩, h4⟩ := h
    cases k with
    | zero =>
      simp at hx; subst hx
      refine ⟨fun e he hb => ?_, h2, h3⟩
      rw [List.all_eq_true] at h1
      have := h1 e (by simpa using he)
      rw [hb] at this
      have : e.on + 1 ≤ i := by simpa using this
      omega
    | succ k =>
      have := drawGo_spec h4 k x (by simpa using hx)
      rw [show i + 1 + k = i + (k + 1) by omega] at this
      exact this

theorem ord_of {ops : Array Oper} (h : drawOk ops = true) : Ord ops (fun i => (ancs ops.toList).getD i 0) ∧ (ancs ops.toList).length = ops.size := by
  unfold drawOk at h
  rw [Bool.and_eq_true, nbeq_t] at h
  obtain ⟨h1, h2⟩ := h
  refine ⟨⟨fun i hi => ?_, fun i o e ho he hb => ?_, fun i o ho j => ?_, fun i j o p hij ho hp hb => ?_⟩, h2⟩
  · show (ancs ops.toList).getD i 0 = 0
    rw [List.getD_eq_getElem?_getD, List.getElem?_eq_none (by omega)]; rfl
  · have := (drawGo_spec h1 i o (by simpa using ho)).1 e he hb
    omega
  · have := (drawGo_spec h1 i o (by simpa using ho)).2.1
    rw [Nat.zero_add] at this
    show ((ancs ops.toList).getD i 0).testBit j = true ↔ ∃ e ∈ o.after, Region.binds .any e = true ∧ (e.on = j ∨ ((ancs ops.toList).getD e.on 0).testBit j = true)
    rw [this]
    unfold ancOf
    rw [ancOf_bits]
    simp
  · have := (drawGo_spec h1 j p (by simpa using hp)).2.2
    rw [Nat.zero_add] at this
    have hlen : j < ops.size := (Array.getElem?_eq_some_iff.1 hp).1
    exact apartAll_spec this i o (by rw [List.getElem?_take, if_pos hij]; simpa using ho) (by rw [Nat.zero_add]; exact hb)

/-- A set of operations that holds all ancestors. -/
def Closed (A : Nat → Nat) (D : Nat → Bool) : Prop := ∀ i, D i = true → ∀ j, (A i).testBit j = true → D j = true

def dstOf (ops : Array Oper) : Dst := fun i => (ops[i]?).bind (·.dst)

section
variable {ops : Array Oper} {A : Nat → Nat}

theorem conflict_order (hO : Ord ops A) {i j : Nat} {o : Oper} (ho : ops[i]? = some o) {D : Nat → Bool} (hD : Closed A D) (hi : D i = false) (hj : D j = true) {t : Tmp} (hd : dstOf ops j = some t) (hc : t ∈ o.looksAt ops ∨ o.dst = some t) : (A i).testBit j = true := by
  cases hp : ops[j]? with
  | none => simp [dstOf, hp] at hd
  | some p =>
    have hd : p.dst = some t := by simpa [dstOf, hp] using hd
    have hne : j ≠ i := by rintro rfl; rw [hi] at hj; cases hj
    rcases Nat.lt_or_ge j i with hlt | hge
    · cases hb : (A i).testBit j with
      | true => rfl
      | false =>
        obtain ⟨h1, h2, h3⟩ := Oper.apart_spec (hO.apart j i p o hlt hp ho hb)
        rcases hc with hc | hc
        · exact absurd hc (h1 t hd)
        · exact absurd hc (h2 t hd)
    · have hlt : i < j := by omega
      cases hb : (A j).testBit i with
      | true => have := hD j hj i hb; rw [hi] at this; cases this
      | false =>
        obtain ⟨h1, h2, h3⟩ := Oper.apart_spec (hO.apart i j o p hlt ho hp hb)
        rcases hc with hc | hc
        · exact absurd hc (h3 t hd)
        · exact absurd hd (h2 t hc)

/-- What an operation sees is what its ancestors left. -/
theorem seen_env (hO : Ord ops A) {i : Nat} {o : Oper} (ho : ops[i]? = some o) {D : Nat → Bool} (hD : Closed A D) (hi : D i = false) (hA : ∀ j, (A i).testBit j = true → D j = true) (e0 : Env) (val : Nat → AV) (n : Nat) {t : Tmp} (ht : t ∈ o.looksAt ops) :
    (envL e0 (dstOf ops) val D n).get t = (envL e0 (dstOf ops) val (fun j => (A i).testBit j) n).get t := by
  rw [envL_get, envL_get, lastOf_congr fun j hj hd => ?_]
  cases hDj : D j with
  | true => exact (conflict_order hO ho hD hi hDj hd (.inl ht)).symm
  | false =>
    cases hb : (A i).testBit j with
    | false => rfl
    | true => rw [hA j hb] at hDj; cases hDj

theorem insert_env (hO : Ord ops A) {i : Nat} {o : Oper} (ho : ops[i]? = some o) {D D' : Nat → Bool} (hD : Closed A D) (hi : D i = false) (hA : ∀ j, (A i).testBit j = true → D j = true) (hD' : ∀ j, D' j = (D j || decide (i = j))) (e0 : Env) (val : Nat → AV) {n : Nat} (hn : i < n) (t : Tmp) :
    (envL e0 (dstOf ops) val D' n).get t = if o.dst = some t then some (val i) else (envL e0 (dstOf ops) val D n).get t := by
  have hdi : dstOf ops i = o.dst := by simp [dstOf, ho]
  rw [envL_get]
  by_cases hd : o.dst = some t
  · rw [if_pos hd, lastOf_top (i := i) (by rw [hD']; simp) (by rw [hdi]; exact hd) hn fun j hj hij hDj hdj => ?_]
    rw [hD'] at hDj
    have hDj : D j = true := by
      rcases Bool.or_eq_true _ _ ▸ hDj with h | h
      · exact h
      · simp at h; omega
    -- j > i, in D, of the same slot: i is its ancestor
    cases hp : ops[j]? with
    | none => simp [dstOf, hp] at hdj
    | some p =>
      have hdj : p.dst = some t := by simpa [dstOf, hp] using hdj
      cases hb : (A j).testBit i with
      | true => have := hD j hDj i hb; rw [hi] at this; cases this
      | false =>
        obtain ⟨h1, h2, h3⟩ := Oper.apart_spec (hO.apart i j o p hij ho hp hb)
        exact absurd hdj (h2 t hd)
  · rw [if_neg hd, envL_get, lastOf_congr fun j hj hdj => ?_]
    rw [hD']
    by_cases hij : i = j
    · subst hij; rw [hdi] at hdj; exact absurd hdj hd
    · simp [hij]
end
end Go.Ev
