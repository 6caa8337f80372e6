/- A part of an evaluator of the model's calls and of the proof that it tells the truth. Conditions: those that the theorems name. -/
import Derived.Test.YtadnhiagecamhaaGreatDoorEvN
namespace Go.Ev
open Go.RowKit
set_option linter.unusedVariables false
set_option linter.unusedSimpArgs false

theorem AR.congr {ι : Inj} {nt : Nat} {ds : List Deferred} {e e' : Env} {a : Act} (h : AR ι nt ds e a) (he : ∀ t, e.get t = e'.get t) : AR ι nt ds e' a :=
  ⟨h.size, fun t => by rw [← he]; exact h.rel t, h.defers⟩
theorem putO_get {nt : Nat} {d : Option Tmp} {v : AV} {e e' : Env} (h : putO nt d v e = some e') : (∀ t, d = some t → t + 1 ≤ nt) ∧ ∀ t, e'.get t = if d = some t then some v else e.get t := by
  cases d with
  | none => simp only [putO, Option.some.injEq] at h; subst h; exact ⟨fun t h => (by cases h), fun t => (by simp)⟩
  | some u =>
    have h : bi (Nat.ble (u + 1) nt) (fun (v : AV) (e : Env) => some (e.set u v)) (fun _ _ => none) v e = some e' := h
    rw [bi_if] at h
    by_cases hlt : u + 1 ≤ nt
    · rw [if_pos (nble_t.2 hlt), Option.some.injEq] at h; subst h
      refine ⟨fun t ht => by rw [Option.some.injEq] at ht; subst ht; exact hlt, fun t => ?_⟩
      rw [Tri.get_set]
      by_cases htu : t = u
      · subst htu; simp
      · rw [if_neg htu, if_neg (by simpa using Ne.symm htu)]
    · rw [if_neg (fun x => hlt (nble_t.1 x))] at h; cases h
theorem putO_some {nt : Nat} {d : Option Tmp} (v : AV) (e : Env) (h : ∀ t, d = some t → t + 1 ≤ nt) : ∃ e', putO nt d v e = some e' := by
  cases d with
  | none => exact ⟨e, rfl⟩
  | some u =>
    refine ⟨e.set u v, ?_⟩
    show bi (Nat.ble (u + 1) nt) (fun (v : AV) (e : Env) => some (e.set u v)) (fun _ _ => none) v e = _
    rw [bi_if, if_pos (nble_t.2 (h u rfl))]

theorem envL_val {e0 : Env} {dst : Dst} {val val' : Nat → AV} {D : Nat → Bool} (h : ∀ j, D j = true → val j = val' j) (n : Nat) (t : Tmp) : (envL e0 dst val D n).get t = (envL e0 dst val' D n).get t := by
  rw [envL_get, envL_get]
  cases hl : lastOf dst D t n with
  | none => rfl
  | some j => show some (val j) = some (val' j); rw [h j (lastOf_mem hl).2.1]

noncomputable def annOf (P : Program) (nt : Nat) (ops : Array Oper) (A : Nat → Nat) (i : Nat) (o : Oper) : Ann := ⟨i, A i, putO nt o.dst, comp P o.op, wantedA ops o.guard⟩

section
variable (P : Program) (nt : Nat) (ops : Array Oper) (A : Nat → Nat) (e0 : Env) (ι0 : Inj) (h0 : Hp) (w0 : World) (ds : List Deferred)

def Seen (val : Nat → AV) (i : Nat) (o : Oper) (e : Env) : Prop := ∀ t ∈ o.looksAt ops, e.get t = (envL e0 (dstOf ops) val (fun j => (A i).testBit j) ops.size).get t

/-- What is known of an operation that the own heap's run has had, and the machine has not. -/
def Will (lv : List Live) (h : Hp) (val : Nat → AV) (idOf : Nat → Option Nat) (ι : Inj) (i : Nat) (o : Oper) : Prop :=
  (∀ t, o.dst = some t → t + 1 ≤ nt) ∧
  (((∀ e, Seen ops A e0 val i o e → wantedA ops o.guard e = false) ∧ val i = undef) ∨
   ((∀ e, Seen ops A e0 val i o e → wantedA ops o.guard e = true) ∧
     ((comp P o.op = .p (evP P o.op) ∧ ∀ e, Seen ops A e0 val i o e → evP P o.op e = some (val i)) ∨
      (∃ rd, comp P o.op = .r (evR P o.op) ∧ (∀ e, Seen ops A e0 val i o e → evR P o.op e = some rd) ∧ ∃ x ∈ lv, x.i = i ∧ x.rd = rd ∧ x.v = val i) ∨
      (∃ m id, comp P o.op = .a (evA P o.op) ∧ (∀ e, Seen ops A e0 val i o e → evA P o.op e = some m) ∧ idOf i = some id ∧ val i = m.val id ∧ id < h.next ∧ h0.next ≤ id ∧ SubG (some m.blk) (h.m.get id) ∧ ι id = none))))

structure DI (s : PS) (val : Nat → AV) (idOf : Nat → Option Nat) (ι : Inj) (L : Array Bool) (a : Act) (w : World) : Prop where
  sz : L.size = ops.size
  lcl : Closed A (fun i => L.getD i false)
  dcl : Closed A (fun i => s.d.testBit i)
  dlt : ∀ i, s.d.testBit i = true → i < ops.size
  sub : ∀ i, L.getD i false = true → s.d.testBit i = true
  cenv : ∀ t, s.e.get t = (envL e0 (dstOf ops) val (fun i => s.d.testBit i) ops.size).get t
  aenv : AR ι nt ds (envL e0 (dstOf ops) val (fun i => L.getD i false) ops.size) a
  wr : WR ι s.h w
  fr : Fr ι0 h0 w0 ι s.h w
  will : ∀ i o, ops[i]? = some o → s.d.testBit i = true → L.getD i false = false → Will P nt ops A e0 h0 s.lv s.h val idOf ι i o
  idd : ∀ i x, idOf i = some x → s.d.testBit i = true ∧ x < s.h.next
  inj : ∀ i j x, i ≠ j → L.getD i false = false → L.getD j false = false → idOf i = some x → idOf j = some x → False

structure Pend (l : List Ann) (s : PS) : Prop where
  mem : ∀ x ∈ l ++ s.pend, ∃ o, ops[x.i]? = some o ∧ x = annOf P nt ops A x.i o ∧ s.d.testBit x.i = false
  all : ∀ i o, ops[i]? = some o → s.d.testBit i = false → ∃ x ∈ l ++ s.pend, x.i = i
  nodup : ((l ++ s.pend).map (·.i)).Nodup
end

section
variable {P : Program} {nt : Nat} {ops : Array Oper} {A : Nat → Nat} {e0 : Env} {ι0 : Inj} {h0 : Hp} {w0 : World} {ds : List Deferred}

theorem Seen.val {val val' : Nat → AV} {i : Nat} {o : Oper} {e : Env} (h : ∀ j, (A i).testBit j = true → val j = val' j) (hs : Seen ops A e0 val' i o e) : Seen ops A e0 val i o e :=
  fun t ht => (hs t ht).trans (envL_val (fun j hj => (h j hj).symm) _ _)

theorem Will.mono {lv lv' : List Live} {h h' : Hp} {val val' : Nat → AV} {idOf idOf' : Nat → Option Nat} {ι : Inj} {i : Nat} {o : Oper} (hw : Will P nt ops A e0 h0 lv h val idOf ι i o)
    (hv : ∀ j, (A i).testBit j = true → val j = val' j) (hvi : val i = val' i) (hlv : ∀ x ∈ lv, x.i = i → x ∈ lv') (hid : idOf i = idOf' i) (hn : h.next ≤ h'.next) (hg : ∀ id, idOf i = some id → ι id = none → id < h.next → SubG (h.m.get id) (h'.m.get id)) :
    Will P nt ops A e0 h0 lv' h' val' idOf' ι i o := by
  obtain ⟨h1, h2⟩ := hw
  refine ⟨h1, ?_⟩
  rcases h2 with ⟨h2, h3⟩ | ⟨h2, h3⟩
  · exact .inl ⟨fun e he => h2 e (he.val hv), hvi ▸ h3⟩
  · refine .inr ⟨fun e he => h2 e (he.val hv), ?_⟩
    rcases h3 with ⟨h3, h4⟩ | ⟨rd, h3, h4, x, h5, h6, h7, h8⟩ | ⟨m, id, h3, h4, h5, h6, h7, h8, h9, h10⟩
    · exact .inl ⟨h3, fun e he => hvi ▸ h4 e (he.val hv)⟩
    · exact .inr (.inl ⟨rd, h3, fun e he => h4 e (he.val hv), x, hlv x h5 h6, h6, h7, hvi ▸ h8⟩)
    · exact .inr (.inr ⟨m, id, h3, fun e he => h4 e (he.val hv), hid ▸ h5, hvi ▸ h6, by omega, h8, h9.trans (hg id h5 h10 h7), h10⟩)

def updV (val : Nat → AV) (i : Nat) (v : AV) : Nat → AV := fun j => if j = i then v else val j
theorem updV_same (val : Nat → AV) (i : Nat) (v : AV) : updV val i v i = v := if_pos rfl
theorem updV_ne (val : Nat → AV) {i j : Nat} (v : AV) (h : j ≠ i) : updV val i v j = val j := if_neg h

theorem bits_lor (d i : Nat) : (fun j => (Nat.lor d (bit i)).testBit j) = fun j => (d.testBit j || decide (i = j)) := funext fun j => lor_bit d i j

theorem closed_insert {D D' : Nat → Bool} {i : Nat} (h : Closed A D) (hA : ∀ j, (A i).testBit j = true → D j = true) (hD' : ∀ j, D' j = (D j || decide (i = j))) : Closed A D' := by
  intro k hk j hj
  rw [hD'] at hk ⊢
  rw [Bool.or_eq_true] at hk
  rcases hk with hk | hk
  · rw [h k hk j hj]; rfl
  · simp at hk; subst hk; rw [hA j hj]; rfl

/-- The own heap's run has had one more operation (no writer). -/
theorem DI.more (hO : Ord ops A) {s s' : PS} {val : Nat → AV} {idOf idOf' : Nat → Option Nat} {ι : Inj} {L : Array Bool} {a : Act} {w : World} (hD : DI P nt ops A e0 ι0 h0 w0 ds s val idOf ι L a w)
    {i : Nat} {o : Oper} (ho : ops[i]? = some o) (hi : s.d.testBit i = false) (hA : ∀ j, (A i).testBit j = true → s.d.testBit j = true) {v : AV} (hput : putO nt o.dst v s.e = some s'.e) (hd : s'.d = Nat.lor s.d (bit i))
    (hwr : WR ι s'.h w) (hfr : Fr ι0 h0 w0 ι s'.h w) (hn : s.h.next ≤ s'.h.next) (hg : ∀ b, b < s.h.next → s'.h.m.get b = s.h.m.get b) (hlv : ∀ x ∈ s.lv, x ∈ s'.lv)
    (hid : ∀ j, j ≠ i → idOf' j = idOf j) (hidi : ∀ x, idOf' i = some x → s.h.next ≤ x ∧ x < s'.h.next)
    (hwill : Will P nt ops A e0 h0 s'.lv s'.h (updV val i v) idOf' ι i o) : DI P nt ops A e0 ι0 h0 w0 ds s' (updV val i v) idOf' ι L a w := by
  have hLi : L.getD i false = false := by
    cases hl : L.getD i false with
    | false => rfl
    | true => have := hD.sub i hl; rw [hi] at this; cases this
  have hlt : i < ops.size := (Array.getElem?_eq_some_iff.1 ho).1
  have hvd : ∀ j, s.d.testBit j = true → val j = updV val i v j := fun j hj => (updV_ne val v (by rintro rfl; rw [hi] at hj; cases hj)).symm
  refine ⟨hD.sz, hD.lcl, ?_, fun j hj => ?_, fun j hj => ?_, fun t => ?_, ?_, hwr, hfr, fun j p hp hj hl => ?_, fun j x hx => ?_, fun j k x hjk hj hk h1 h2 => ?_⟩
  · exact closed_insert hD.dcl hA (fun j => by rw [hd]; exact lor_bit _ _ _)
  · rw [hd, lor_bit, Bool.or_eq_true] at hj
    rcases hj with hj | hj
    · exact hD.dlt j hj
    · simp at hj; omega
  · rw [hd, lor_bit, hD.sub j hj]; rfl
  · obtain ⟨_, hpg⟩ := putO_get hput
    rw [hpg, hd, bits_lor, insert_env hO ho hD.dcl hi hA (fun j => rfl) e0 (updV val i v) hlt t, updV_same, hD.cenv, envL_val hvd]
  · exact hD.aenv.congr fun t => envL_val (fun j hj => hvd j (hD.sub j hj)) _ _
  · rw [hd, lor_bit, Bool.or_eq_true] at hj
    by_cases hji : j = i
    · subst hji
      rw [ho, Option.some.injEq] at hp; subst hp
      exact hwill
    · have hj : s.d.testBit j = true := by
        rcases hj with hj | hj
        · exact hj
        · simp at hj; omega
      exact (hD.will j p hp hj hl).mono (fun k hk => hvd k (hD.dcl j hj k hk)) (hvd j hj) (fun x hx _ => hlv x hx) (hid j hji).symm hn fun id _ _ hlt => .of_eq (hg id hlt)
  · by_cases hji : j = i
    · subst hji
      exact ⟨by rw [hd, lor_bit]; simp, (hidi x hx).2⟩
    · rw [hid j hji] at hx
      have := hD.idd j x hx
      exact ⟨by rw [hd, lor_bit, this.1]; rfl, by omega⟩
  · by_cases hji : j = i
    · subst hji
      rw [hid k (Ne.symm hjk)] at h2
      have g1 := (hidi x h1).1
      have g2 := (hD.idd k x h2).2
      omega
    · rw [hid j hji] at h1
      by_cases hki : k = i
      · subst hki
        have g1 := (hidi x h2).1
        have g2 := (hD.idd j x h1).2
        omega
      · rw [hid k hki] at h2
        exact hD.inj j k x hjk hj hk h1 h2

theorem getD_set {L : Array Bool} {i : Nat} (hi : i < L.size) (j : Nat) : (L.setIfInBounds i true).getD j false = (L.getD j false || decide (i = j)) := by
  rw [Array.getD_eq_getD_getElem?, Array.getD_eq_getD_getElem?, Array.getElem?_setIfInBounds]
  by_cases hij : i = j
  · subst hij; simp [hi]
  · simp [hij]

/-- The machine has had one more operation that the own heap's run has had. -/
theorem DI.act (hO : Ord ops A) {s : PS} {val : Nat → AV} {idOf : Nat → Option Nat} {ι ι' : Inj} {L : Array Bool} {a : Act} {w w' : World} (hD : DI P nt ops A e0 ι0 h0 w0 ds s val idOf ι L a w)
    {i : Nat} {o : Oper} (ho : ops[i]? = some o) (hi : L.getD i false = false) (hdi : s.d.testBit i = true) (hA : ∀ j, (A i).testBit j = true → L.getD j false = true) {v' : Value}
    (hbound : ∀ t, o.dst = some t → t + 1 ≤ nt) (hx : Ext ι ι') (hv : VR ι' (val i) v') (hwr : WR ι' s.h w') (hfr : Fr ι0 h0 w0 ι' s.h w')
    (hnone : ∀ j id, j ≠ i → L.getD j false = false → idOf j = some id → ι id = none → ι' id = none) :
    DI P nt ops A e0 ι0 h0 w0 ds s val idOf ι' (L.setIfInBounds i true) (a.put o.dst v') w' := by
  have hlt : i < ops.size := (Array.getElem?_eq_some_iff.1 ho).1
  have hltL : i < L.size := by rw [hD.sz]; exact hlt
  have hset : (fun j => (L.setIfInBounds i true).getD j false) = fun j => (L.getD j false || decide (i = j)) := funext fun j => getD_set hltL j
  have hfalse : ∀ j, (L.setIfInBounds i true).getD j false = false → L.getD j false = false ∧ j ≠ i := fun j hj => by
    rw [getD_set hltL, Bool.or_eq_false_iff] at hj
    exact ⟨hj.1, by have := hj.2; simp at this; omega⟩
  refine ⟨by simp [hD.sz], closed_insert hD.lcl hA fun j => getD_set hltL j, hD.dcl, hD.dlt, fun j hj => ?_, hD.cenv, ?_, hwr, hfr, fun j p hp hj hl => ?_, hD.idd, fun j k x hjk hj hk h1 h2 => hD.inj j k x hjk (hfalse j hj).1 (hfalse k hk).1 h1 h2⟩
  · rw [getD_set hltL, Bool.or_eq_true] at hj
    rcases hj with hj | hj
    · exact hD.sub j hj
    · simp at hj; subst hj; exact hdi
  · obtain ⟨e1, he1⟩ := putO_some (val i) (envL e0 (dstOf ops) val (fun i => L.getD i false) ops.size) hbound
    refine ((hD.aenv.mono hx).put hv he1).congr fun t => ?_
    obtain ⟨_, hpg⟩ := putO_get he1
    rw [hpg, hset, insert_env hO ho hD.lcl hi hA (fun j => rfl) e0 val hlt t]
  · obtain ⟨hl1, hl2⟩ := hfalse j hl
    obtain ⟨g1, g2⟩ := hD.will j p hp hj hl1
    refine ⟨g1, ?_⟩
    rcases g2 with g2 | ⟨g2, g3⟩
    · exact .inl g2
    · refine .inr ⟨g2, ?_⟩
      rcases g3 with g3 | g3 | ⟨m, id, k1, k2, k3, k4, k5, k6, k7, k8⟩
      · exact .inl g3
      · exact .inr (.inl g3)
      · exact .inr (.inr ⟨m, id, k1, k2, k3, k4, k5, k6, k7, hnone j id hl2 hl1 k3 k8⟩)
end
end Go.Ev
