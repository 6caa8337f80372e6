/- A part of an evaluator of the model's calls and of the proof that it tells the truth. Conditions: those that the theorems name. -/
import Derived.Test.YtadnhiagecamhaaGreatDoorEvL
namespace Go.Ev
open Go.RowKit
set_option linter.unusedVariables false
set_option linter.unusedSimpArgs false

/-! ### an operation looks at its operands alone -/
section
variable {P : Program} {e e' : Env}

theorem evs_congr : ∀ {l : List Operand}, (∀ x ∈ l, ev x e = ev x e') → evs l e = evs l e'
  | [], _ => rfl
  | x :: l, h => by rw [evs_cons, evs_cons, h x (by simp), evs_congr fun y hy => h y (by simp [hy])]
theorem evopt_congr {x : Option Operand} (h : ∀ y ∈ x, ev y e = ev y e') : evopt x e = evopt x e' := by
  cases x with
  | none => rfl
  | some y => simp only [evopt]; rw [h y (by simp)]
theorem fillG_congr (pl : Nat → Option (Nat × Nat)) : ∀ {ps : List (Nat × Operand)}, (∀ x ∈ ps.map (·.2), ev x e = ev x e') → fillG pl ps e = fillG pl ps e'
  | [], _ => rfl
  | p :: ps, h => by
    funext cs
    show (ob (pl p.1) fun fo => ob (ev p.2 e) fun v => ob v.cells fun vc => bi (Nat.beq (len vc) fo.2) (bi (Nat.ble (Nat.add fo.1 fo.2) (len cs)) (fillG pl ps e (fillL cs fo.1 vc)) none) none) =
      (ob (pl p.1) fun fo => ob (ev p.2 e') fun v => ob v.cells fun vc => bi (Nat.beq (len vc) fo.2) (bi (Nat.ble (Nat.add fo.1 fo.2) (len cs)) (fillG pl ps e' (fillL cs fo.1 vc)) none) none)
    rw [h p.2 (by simp), fillG_congr pl fun x hx => h x (by simp only [List.map_cons, List.mem_cons]; exact .inr hx)]

theorem evP_congr {o : Op} (h : ∀ x ∈ o.operands, ev x e = ev x e') : evP P o e = evP P o e' := by
  cases o
  case move x => exact h x (by simp [Op.operands])
  case assign x => exact h x (by simp [Op.operands])
  case pick c x y =>
    show cPick c x y e = cPick c x y e'
    simp only [cPick]
    rw [h c (by simp [Op.operands]), h x (by simp [Op.operands]), h y (by simp [Op.operands])]
  case binOp op t x y u =>
    show cBin (binA op) x y e = cBin (binA op) x y e'
    simp only [cBin]
    rw [h x (by simp [Op.operands]), h y (by simp [Op.operands])]
  case unOp op t x =>
    show cUn (unA op) x e = cUn (unA op) x e'
    simp only [cUn]
    rw [h x (by simp [Op.operands])]
  case convert s d x =>
    show cConv (convK P s d) x e = cConv (convK P s d) x e'
    cases convK P s d with
    | none => rfl
    | some k => simp only [cConv]; rw [h x (by simp [Op.operands])]
  case nilCheck x =>
    show cNil x e = cNil x e'
    simp only [cNil]
    rw [h x (by simp [Op.operands])]
  case fieldAddr s x f =>
    show cFieldAddr (fieldC P s f) x e = cFieldAddr (fieldC P s f) x e'
    rcases fieldC P s f with _ | ⟨fo, _ | n⟩
    · rfl
    · rfl
    · simp only [cFieldAddr]; rw [h x (by simp [Op.operands])]
  case indexAddr t x i =>
    show cIndexAddr (elemSize P t) x i e = cIndexAddr (elemSize P t) x i e'
    cases elemSize P t with
    | none => rfl
    | some n => simp only [cIndexAddr]; rw [h x (by simp [Op.operands]), h i (by simp [Op.operands])]
  case field s x f =>
    show cField (fieldG P s f) x e = cField (fieldG P s f) x e'
    rcases fieldG P s f with _ | ⟨fo, g, n⟩
    · rfl
    · simp only [cField]; rw [h x (by simp [Op.operands])]
  case index t x i =>
    show bi (isStrT P t) (cIndexStr x i) (cIndexArr (arrG P t) x i) e = bi (isStrT P t) (cIndexStr x i) (cIndexArr (arrG P t) x i) e'
    cases isStrT P t with
    | true => rw [bi_true]; simp only [cIndexStr]; rw [h x (by simp [Op.operands]), h i (by simp [Op.operands])]
    | false =>
      rw [bi_false]
      rcases arrG P t with _ | ⟨n, g, k⟩
      · rfl
      · simp only [cIndexArr]; rw [h x (by simp [Op.operands]), h i (by simp [Op.operands])]
  case extract x i =>
    show cExtract x i e = cExtract x i e'
    simp only [cExtract]
    rw [h x (by simp [Op.operands])]
  case build t ps =>
    have hps : ∀ x ∈ ps.toList.map (·.2), ev x e = ev x e' := fun x hx => h x (by simpa [Op.operands] using hx)
    cases hu : P.underlying t with
    | none => simp [evP, hu]; rfl
    | some d =>
      cases d
      case struct fs =>
        simp only [evP, hu]
        cases placesT P t with
        | none => rfl
        | some pl =>
          cases zeroT P t with
          | none => rfl
          | some z => simp only [cBuildS]; rw [fillG_congr _ hps]
      case array n el =>
        simp only [evP, hu]
        cases sizeT P el with
        | none => rfl
        | some pl =>
          cases zeroT P t with
          | none => rfl
          | some z => simp only [cBuildE, fillE]; rw [fillG_congr _ hps]
      all_goals simp [evP, hu]; rfl
  case makeFunc f p q =>
    cases f
    case func f =>
      show cFunc f p.toList q.toList e = cFunc f p.toList q.toList e'
      simp only [cFunc]
      rw [evs_congr fun x hx => h x (by simp [Op.operands]; exact .inl (by simpa using hx)), evs_congr fun x hx => h x (by simp [Op.operands]; exact .inr (by simpa using hx))]
    all_goals rfl
  case slice t x lo hi mx =>
    cases mx with
    | some m => rfl
    | none =>
      have hx := h x (by simp [Op.operands])
      have hlo : evopt lo e = evopt lo e' := evopt_congr fun y hy => h y (by simp [Op.operands]; exact .inr (.inl hy))
      have hhi : evopt hi e = evopt hi e' := evopt_congr fun y hy => h y (by simp [Op.operands]; exact .inr (.inr hy))
      show bi (isStrT P t) (cSliceStr x lo hi) (cSlice (elemSize P t) x lo hi) e = bi (isStrT P t) (cSliceStr x lo hi) (cSlice (elemSize P t) x lo hi) e'
      cases isStrT P t with
      | true => rw [bi_true]; simp only [cSliceStr]; rw [hx, hlo, hhi]
      | false =>
        rw [bi_false]
        cases elemSize P t with
        | none => rfl
        | some n => simp only [cSlice]; rw [hx, hlo, hhi]
  case call c =>
    show evCallP P c e = evCallP P c e'
    have hargs : ∀ x ∈ c.args.toList, ev x e = ev x e' := fun x hx => h x (by simp [Op.operands, Call.operands]; exact .inr (by simpa using hx))
    cases hc : c.callee with
    | invoke r n => simp [evCallP, hc]; rfl
    | value f => simp [evCallP, hc]; rfl
    | builtin b =>
      cases b
      case len =>
        rcases ha : c.args.toList with _ | ⟨x, _ | ⟨x2, l⟩⟩
        · simp [evCallP, hc, ha]; rfl
        · rw [ha] at hargs
          have hx := hargs x (by simp)
          rcases ht : c.argTypes.toList with _ | ⟨t, _ | ⟨t2, l⟩⟩
          · simp [evCallP, hc, ha, ht]; rfl
          · simp only [evCallP, hc, ha, ht]
            cases isStrT P t with
            | true => rw [bi_true]; simp only [cLenStr]; rw [hx]
            | false =>
              rw [bi_false]
              cases elemT P t with
              | none => rfl
              | some el => simp only [cLenS]; rw [hx]
          · simp [evCallP, hc, ha, ht]; rfl
        · simp [evCallP, hc, ha]; rfl
      case min => simp only [evCallP, hc, cMinMax]; rw [evs_congr hargs]
      case max => simp only [evCallP, hc, cMinMax]; rw [evs_congr hargs]
      all_goals simp [evCallP, hc]; rfl
  all_goals rfl

theorem evR_congr {o : Op} (h : ∀ x ∈ o.operands, ev x e = ev x e') : evR P o e = evR P o e' := by
  cases o
  case load t x =>
    show cLoad (aggT P t) (sizeT P t) x e = cLoad (aggT P t) (sizeT P t) x e'
    cases aggT P t with
    | none => rfl
    | some g =>
      cases sizeT P t with
      | none => rfl
      | some n => simp only [cLoad]; rw [h x (by simp [Op.operands])]
  case convert s d x =>
    show bi (isStrT P d) (cBytes (ob (elemT P s) (kindT P)) x) rfail e = bi (isStrT P d) (cBytes (ob (elemT P s) (kindT P)) x) rfail e'
    cases isStrT P d with
    | false => rfl
    | true =>
      rw [bi_true]
      rcases ob (elemT P s) (kindT P) with _ | k
      · rfl
      · cases k
        case u8 => simp only [cBytes]; rw [h x (by simp [Op.operands])]
        all_goals rfl
  case lookup t x i ok =>
    show cLook (mapT P t) x i ok e = cLook (mapT P t) x i ok e'
    cases mapT P t with
    | none => rfl
    | some z => simp only [cLook]; rw [h x (by simp [Op.operands]), h i (by simp [Op.operands])]
  all_goals rfl

theorem evA_congr {o : Op} (h : ∀ x ∈ o.operands, ev x e = ev x e') : evA P o e = evA P o e' := by
  cases o
  case alloc t => show cAlloc (zeroT P t) e = cAlloc (zeroT P t) e'; cases zeroT P t <;> rfl
  case box t x => show cBox x e = cBox x e'; simp only [cBox]; rw [h x (by simp [Op.operands])]
  case buildSlice t n ps =>
    have hps : ∀ x ∈ ps.toList.map (·.2), ev x e = ev x e' := fun x hx => h x (by simpa [Op.operands] using hx)
    show cBuildSlice (elemSize P t) (ob (elemT P t) (zeroT P)) n ps.toList e = cBuildSlice (elemSize P t) (ob (elemT P t) (zeroT P)) n ps.toList e'
    cases elemSize P t with
    | none => rfl
    | some k =>
      cases ob (elemT P t) (zeroT P) with
      | none => rfl
      | some z => simp only [cBuildSlice, fillE]; rw [fillG_congr _ hps]
  case makeSlice t x y =>
    show cMakeSlice (smallT P t) (elemSize P t) (ob (elemT P t) (zeroT P)) x y e = cMakeSlice (smallT P t) (elemSize P t) (ob (elemT P t) (zeroT P)) x y e'
    cases smallT P t with
    | false => rfl
    | true =>
      cases elemSize P t with
      | none => rfl
      | some k =>
        cases ob (elemT P t) (zeroT P) with
        | none => rfl
        | some z => simp only [cMakeSlice]; rw [h x (by simp [Op.operands]), h y (by simp [Op.operands])]
  case makeMap t r => cases r <;> rfl
  all_goals rfl

theorem evW_congr {o : Op} (h : ∀ x ∈ o.operands, ev x e = ev x e') (call : CallF) (hp : Hp) : evW P o call e hp = evW P o call e' hp := by
  cases o
  case store t x y =>
    show cStore (sizeT P t) x y call e hp = cStore (sizeT P t) x y call e' hp
    cases sizeT P t with
    | none => rfl
    | some n => simp only [cStore]; rw [h x (by simp [Op.operands]), h y (by simp [Op.operands])]
  case insert t m k x =>
    show cInsert (mapStr P t) m k x call e hp = cInsert (mapStr P t) m k x call e' hp
    cases mapStr P t with
    | false => rfl
    | true => simp only [cInsert]; rw [h m (by simp [Op.operands]), h k (by simp [Op.operands]), h x (by simp [Op.operands])]
  case call c =>
    show evCallW P c call e hp = evCallW P c call e' hp
    have hargs : ∀ x ∈ c.args.toList, ev x e = ev x e' := fun x hx => h x (by simp [Op.operands, Call.operands]; exact .inr (by simpa using hx))
    cases hc : c.callee with
    | invoke r n => simp [evCallW, hc]; rfl
    | value f => simp only [evCallW, hc, cCall]; rw [evs_congr hargs, h f (by simp [Op.operands, Call.operands, hc])]
    | builtin b =>
      cases b
      case append =>
        rcases ha : c.args.toList with _ | ⟨s, _ | ⟨x, _ | ⟨y, l⟩⟩⟩
        · simp [evCallW, hc, ha]; rfl
        · simp [evCallW, hc, ha]; rfl
        · rw [ha] at hargs
          rcases ht : c.argTypes.toList with _ | ⟨t, _ | ⟨u, _ | ⟨y, l⟩⟩⟩
          · simp [evCallW, hc, ha, ht]; rfl
          · simp [evCallW, hc, ha, ht]; rfl
          · simp only [evCallW, hc, ha, ht]
            cases (smallT P t && srcOk P u) with
            | false => rfl
            | true =>
              cases elemSize P t with
              | none => rfl
              | some n => simp only [cAppend]; rw [hargs s (by simp), hargs x (by simp)]
          · simp [evCallW, hc, ha, ht]; rfl
        · simp [evCallW, hc, ha]; rfl
      all_goals simp [evCallW, hc]; rfl
  all_goals rfl

theorem ev_looks {ops : Array Oper} {o : Oper} (h : ∀ t ∈ o.looksAt ops, e.get t = e'.get t) : ∀ x ∈ o.op.operands, ev x e = ev x e' := by
  intro x hx
  cases x with
  | tmp t =>
    show evTmp t e = evTmp t e'
    rw [evTmp_eq, evTmp_eq, h t]
    exact List.mem_append_left _ (List.mem_filterMap.2 ⟨.tmp t, by simpa using hx, rfl⟩)
  | _ => rfl
theorem want_looks {ops : Array Oper} {o : Oper} (h : ∀ t ∈ o.looksAt ops, e.get t = e'.get t) : wantedA ops o.guard e = wantedA ops o.guard e' := by
  cases hg : o.guard with
  | none => rfl
  | some g =>
    obtain ⟨j, b⟩ := g
    have hw : ∀ e : Env, wantedA ops (some (j, b)) e = match (ops[j]?).bind (·.dst) with | some t => wantK t b e | none => false := fun e => by
      unfold wantedA
      split <;> rename_i heq <;> simp [heq]
    rw [hw, hw]
    cases hd : (ops[j]?).bind (·.dst) with
    | none => rfl
    | some t =>
      show wantK t b e = wantK t b e'
      unfold wantK
      rw [h t (by simp [Oper.looksAt, hg, hd])]
end

/-! ### bits -/
theorem testBit_bit (i j : Nat) : (bit i).testBit j = decide (i = j) := by
  show (2 ^ i).testBit j = _
  rw [Nat.testBit_two_pow]
theorem hasBit_eq (a i : Nat) : hasBit a i = true ↔ a.testBit i = true := by
  unfold hasBit
  rw [nbeq_t]
  show a &&& 2 ^ i = 2 ^ i ↔ _
  constructor
  · intro h
    have := congrArg (fun x => x.testBit i) h
    simp [Nat.testBit_and, Nat.testBit_two_pow] at this
    exact this
  · intro h
    apply Nat.eq_of_testBit_eq
    intro j
    rw [Nat.testBit_and, Nat.testBit_two_pow]
    by_cases hj : i = j
    · subst hj; simp [h]
    · simp [hj]
theorem subset_eq {a b : Nat} (h : subset a b = true) (i : Nat) (hi : a.testBit i = true) : b.testBit i = true := by
  unfold subset at h
  rw [nbeq_t] at h
  have h : a &&& b = a := h
  have := congrArg (fun x => x.testBit i) h
  simp only [Nat.testBit_and, hi, Bool.true_and] at this
  exact this
theorem lor_bit (d i j : Nat) : (Nat.lor d (bit i)).testBit j = (d.testBit j || decide (i = j)) := by
  show (d ||| bit i).testBit j = _
  rw [Nat.testBit_or, testBit_bit]
theorem lor_lor (m i x j : Nat) : (Nat.lor (Nat.lor m (bit i)) x).testBit j = (m.testBit j || decide (i = j) || x.testBit j) := by
  show ((m ||| bit i) ||| x).testBit j = _
  rw [Nat.testBit_or, Nat.testBit_or, testBit_bit]
end Go.Ev
