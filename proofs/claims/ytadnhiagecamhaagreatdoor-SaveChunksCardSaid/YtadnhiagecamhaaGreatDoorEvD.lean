/- A part of an evaluator of the model's calls and of the proof that it tells the truth. Conditions: those that the theorems name. -/
import Derived.Test.YtadnhiagecamhaaGreatDoorEvC
namespace Go.Ev
open Go.RowKit
set_option linter.unusedVariables false
set_option linter.unusedSimpArgs false

section types
variable {P : Program} {w : World}
theorem run_typeInfo {t : TypeId} {i : TypeInfo} (h : P.info? t = some i) : (typeInfo t).run P w = .ok i w := by
  simp [typeInfo, h]
theorem run_underlying' {t : TypeId} {d : TypeDesc} (h : P.underlying t = some d) : (underlying t).run P w = .ok d w := by
  simp [underlying, h]
theorem run_sizeOf {t : TypeId} {n : Nat} (h : sizeT P t = some n) : (sizeOf t).run P w = .ok n w := by
  simp only [sizeT, Option.map_eq_some_iff] at h
  obtain ⟨i, h1, rfl⟩ := h
  simp [sizeOf, run_typeInfo h1]
theorem run_isAgg {t : TypeId} {g : Bool} (h : aggT P t = some g) : (isAgg t).run P w = .ok g w := by
  simp only [aggT, Option.map_eq_some_iff] at h
  obtain ⟨d, h1, h2⟩ := h
  simp only [isAgg, Sem.run_bind, run_underlying' h1, Result.andThen_ok]
  split at h2 <;> simp_all
theorem run_zeroValue {t : TypeId} {z : AV} (h : zeroT P t = some z) : ∃ zv, (zeroValue t).run P w = .ok zv w ∧ ofV zv = some z := by
  unfold zeroT at h
  split at h
  · rename_i i hi
    split at h
    · rename_i v hv
      exact ⟨v, by simp [zeroValue, run_typeInfo hi, hv], h⟩
    · simp at h
  · simp at h
theorem elemT_eq {t e : TypeId} : elemT P t = some e ↔ P.underlying t = some (.slice e) := by
  unfold elemT; split <;> simp_all
theorem fieldT_eq {t : TypeId} {i : Nat} {r : Nat × TypeId} : fieldT P t i = some r ↔ ∃ fs f, P.underlying t = some (.struct fs) ∧ fs[i]? = some f ∧ r = (f.offset, f.type) := by
  unfold fieldT
  split
  · rename_i fs h
    simp only [Option.map_eq_some_iff, h, Option.some.injEq, TypeDesc.struct.injEq]
    constructor
    · rintro ⟨f, h1, rfl⟩; exact ⟨fs, f, rfl, h1, rfl⟩
    · rintro ⟨_, f, rfl, h1, rfl⟩; exact ⟨f, h1, rfl⟩
  · rename_i h
    simp only [reduceCtorEq, false_iff]
    rintro ⟨fs, f, h1, _⟩
    exact h fs h1
theorem kindT_eq {t : TypeId} {k : IntKind} : kindT P t = some k ↔ P.underlying t = some (.int k) := by
  unfold kindT; split <;> simp_all
theorem isStrT_eq {t : TypeId} : isStrT P t = true ↔ P.underlying t = some .string := by
  unfold isStrT; split <;> simp_all
end types

theorem add_mk (B o n : Nat) : (⟨B, o, none⟩ : Addr).add n = ⟨B, o + n, none⟩ := by
  unfold Addr.add; split
  · rename_i h; subst h; rfl
  · rfl
theorem run_asInt_int {P : Program} {w : World} (k : IntKind) (n : Int) : (asIntOf (.int k n)).run P w = .ok (k, n) w := rfl

/-- An operation that only reckons. -/
def PureOK (P : Program) (o : Oper) (f : PF) : Prop :=
  ∀ {ι : Inj} {nt : Nat} {ds : List Deferred} {e : Env} {a : Act} {v : AV} (w : World), AR ι nt ds e a → f e = some v → ∃ v', (execOp a.eval o).run P w = .ok (.value v') w ∧ VR ι v v'

section
variable {P : Program} {dst : Option Tmp} {type : TypeId} {pos : String} {after : Array Edge} {guard : Option (Nat × Bool)}

theorem fail_ok {o : Oper} : PureOK P o fail := by intro ι nt ds e a v w h hv; simp [fail] at hv

theorem move_ok (x : Operand) : PureOK P ⟨dst, .move x, type, pos, after, guard⟩ (ev x) := by
  intro ι nt ds e a v w h hv
  exact ⟨_, rfl, ev_rel h hv⟩
theorem assign_ok (x : Operand) : PureOK P ⟨dst, .assign x, type, pos, after, guard⟩ (ev x) := by
  intro ι nt ds e a v w h hv
  exact ⟨_, rfl, ev_rel h hv⟩

theorem pick_ok (c x y : Operand) : PureOK P ⟨dst, .pick c x y, type, pos, after, guard⟩ (cPick c x y) := by
  intro ι nt ds e a v w h hv
  simp only [cPick, ob_eq, bi_if] at hv
  obtain ⟨cv, h1, b, h2, h3⟩ := hv
  rw [bool?_eq] at h2; subst h2
  have hc := ev_rel h h1
  cases hb : a.eval c <;> rw [hb] at hc <;> cases hc
  cases b
  · exact ⟨a.eval y, by simp [execOp, hb, asBool], ev_rel h (by simpa using h3)⟩
  · exact ⟨a.eval x, by simp [execOp, hb, asBool], ev_rel h (by simpa using h3)⟩

/-- What a binary operation on values gives. -/
def BinOK (P : Program) (op : BinOp) (f : AV → AV → Option AV) : Prop :=
  ∀ {ι : Inj} {x y v : AV} {x' y' : Value} (t : TypeId) (X Y : Operand) (w : World), f x y = some v → VR ι x x' → VR ι y y' →
    ∃ v', (do eqGuard op t X Y x' y'; binOp op t x' y' : Sem Value).run P w = .ok v' w ∧ VR ι v v'

theorem bin_ok {op : BinOp} {f : AV → AV → Option AV} (hf : BinOK P op f) (t : TypeId) (x y : Operand) (u : TypeId) :
    PureOK P ⟨dst, .binOp op t x y u, type, pos, after, guard⟩ (cBin f x y) := by
  intro ι nt ds e a v w h hv
  simp only [cBin, ob_eq] at hv
  obtain ⟨xv, h1, yv, h2, h3⟩ := hv
  obtain ⟨v', h4, h5⟩ := hf t x y w h3 (ev_rel h h1) (ev_rel h h2)
  refine ⟨v', ?_, h5⟩
  have : execOp a.eval ⟨dst, .binOp op t x y u, type, pos, after, guard⟩ = (do pure (.value (← (do eqGuard op t x y (a.eval x) (a.eval y); binOp op t (a.eval x) (a.eval y) : Sem Value))) : Sem Next) := rfl
  rw [this, Sem.run_bind, h4]
  rfl

theorem int2_inv {f : IntKind → Int → Int → Option AV} {x y v : AV} (h : int2 f x y = some v) : ∃ k a b, x = .int k a ∧ y = .int k b ∧ f k a b = some v := by
  simp only [int2, ob_eq, bi_none] at h
  obtain ⟨p, h1, q, h2, h3, h4⟩ := h
  rw [int?_eq] at h1 h2
  rw [kEq_eq] at h3
  exact ⟨p.1, p.2, q.2, h1, by rw [h3]; exact h2, h4⟩

theorem eqGuard_int (op : BinOp) (t : TypeId) (X Y : Operand) (k : IntKind) (a b : Int) (w : World) : (eqGuard op t X Y (.int k a) (.int k b)).run P w = .ok () w := by
  unfold eqGuard
  cases op <;> simp

theorem int2_ok {op : BinOp} {f : IntKind → Int → Int → Option AV}
    (hf : ∀ k a b v, f k a b = some v → ∃ v', (∀ t, binOp op t (.int k a) (.int k b) = pure v') ∧ ∀ ι, VR ι v v') : BinOK P op (int2 f) := by
  intro ι x y v x' y' t X Y w h hx hy
  obtain ⟨k, a, b, rfl, rfl, h3⟩ := int2_inv h
  cases hx; cases hy
  obtain ⟨v', h4, h5⟩ := hf k a b v h3
  refine ⟨v', ?_, h5 ι⟩
  rw [Sem.run_bind, eqGuard_int, Result.andThen_ok, h4]
  rfl

theorem add_okb : BinOK P .add (int2 (arith iadd)) := int2_ok fun k a b v h => by
  simp only [arith, Option.some.injEq] at h; subst h
  exact ⟨.int k (k.wrap (a + b)), fun t => by simp [binOp, Op.intArith], fun ι => by rw [fwrap_eq, iadd_eq]; exact .int _ _⟩
theorem sub_okb : BinOK P .sub (int2 (arith isub)) := int2_ok fun k a b v h => by
  simp only [arith, Option.some.injEq] at h; subst h
  exact ⟨.int k (k.wrap (a - b)), fun t => by simp [binOp, Op.intArith], fun ι => by rw [fwrap_eq, isub_eq]; exact .int _ _⟩
theorem mul_okb : BinOK P .mul (int2 (arith imul)) := int2_ok fun k a b v h => by
  simp only [arith, Option.some.injEq] at h; subst h
  exact ⟨.int k (k.wrap (a * b)), fun t => by simp [binOp, Op.intArith], fun ι => by rw [fwrap_eq, imul_eq]; exact .int _ _⟩
theorem divz_inv {f : Int → Int → Int} {k : IntKind} {a b : Int} {v : AV} (h : divz f k a b = some v) : b ≠ 0 ∧ v = .int k (k.wrap (f a b)) := by
  unfold divz at h
  rw [ieq_eq, bi_if] at h
  by_cases hb : b = 0
  · simp [hb] at h
  · simp [hb] at h; exact ⟨hb, by rw [← h, fwrap_eq]⟩
theorem quo_okb : BinOK P .quo (int2 (divz fquo)) := int2_ok fun k a b v h => by
  obtain ⟨hb, rfl⟩ := divz_inv h
  exact ⟨.int k (k.wrap (a.tdiv b)), fun t => by simp [binOp, Op.intDiv, hb], fun ι => by rw [fquo_eq]; exact .int _ _⟩
theorem rem_okb : BinOK P .rem (int2 remz) := int2_ok fun k a b v h => by
  unfold remz at h
  rw [ieq_eq, bi_if] at h
  by_cases hb : b = 0
  · simp [hb] at h
  · simp [hb] at h; subst h
    exact ⟨.int k (a.tmod b), fun t => by simp [binOp, Op.intDiv, hb], fun ι => by rw [frem_eq]; exact .int _ _⟩
theorem fbits_and (k : IntKind) (a b : Int) : fbits Nat.land (fun _ a b => a &&& b) k a b = k.wrap (BitVec.ofInt k.bits a &&& BitVec.ofInt k.bits b).toNat :=
  fbits_eq Nat.land _ (fun n x y => BitVec.toNat_and x y) (fun n a b h1 h2 => Nat.and_lt_two_pow a h2) k a b
theorem fbits_or (k : IntKind) (a b : Int) : fbits Nat.lor (fun _ a b => a ||| b) k a b = k.wrap (BitVec.ofInt k.bits a ||| BitVec.ofInt k.bits b).toNat :=
  fbits_eq Nat.lor _ (fun n x y => BitVec.toNat_or x y) (fun n a b h1 h2 => Nat.or_lt_two_pow h1 h2) k a b
theorem fbits_xor (k : IntKind) (a b : Int) : fbits Nat.xor (fun _ a b => a ^^^ b) k a b = k.wrap (BitVec.ofInt k.bits a ^^^ BitVec.ofInt k.bits b).toNat :=
  fbits_eq Nat.xor _ (fun n x y => BitVec.toNat_xor x y) (fun n a b h1 h2 => Nat.xor_lt_two_pow h1 h2) k a b
theorem and_okb : BinOK P .and (int2 (bitI Nat.land fun _ a b => a &&& b)) := int2_ok fun k a b v h => by
  simp only [bitI, Option.some.injEq] at h; subst h
  refine ⟨.int k (k.wrap (BitVec.ofInt k.bits a &&& BitVec.ofInt k.bits b).toNat), fun t => by simp [binOp, Op.intBits], fun ι => ?_⟩
  rw [fbits_and]
  exact .int _ _
theorem or_okb : BinOK P .or (int2 (bitI Nat.lor fun _ a b => a ||| b)) := int2_ok fun k a b v h => by
  simp only [bitI, Option.some.injEq] at h; subst h
  refine ⟨.int k (k.wrap (BitVec.ofInt k.bits a ||| BitVec.ofInt k.bits b).toNat), fun t => by simp [binOp, Op.intBits], fun ι => ?_⟩
  rw [fbits_or]
  exact .int _ _
theorem xor_okb : BinOK P .xor (int2 (bitI Nat.xor fun _ a b => a ^^^ b)) := int2_ok fun k a b v h => by
  simp only [bitI, Option.some.injEq] at h; subst h
  refine ⟨.int k (k.wrap (BitVec.ofInt k.bits a ^^^ BitVec.ofInt k.bits b).toNat), fun t => by simp [binOp, Op.intBits], fun ι => ?_⟩
  rw [fbits_xor]
  exact .int _ _
theorem cmp_okb {op : BinOp} {f : Int → Int → Bool} (hf : ∀ (k : IntKind) (a b : Int) (t : TypeId), binOp op t (.int k a) (.int k b) = pure (.bool (f a b))) :
    BinOK P op (int2 (cmpI f)) := int2_ok fun k a b v h => by
  simp only [cmpI, Option.some.injEq] at h; subst h
  exact ⟨_, fun t => hf k a b t, fun ι => .bool _⟩
theorem lss_okb : BinOK P .lss (int2 (cmpI fun a b => !ile b a)) := cmp_okb fun k a b t => by
  have : (decide (a < b)) = !ile b a := by rw [ile_eq, ← decide_not, decide_eq_decide]; omega
  simp [binOp, Op.intCmp, this]
theorem leq_okb : BinOK P .leq (int2 (cmpI ile)) := cmp_okb fun k a b t => by simp [binOp, Op.intCmp, ile_eq]
theorem gtr_okb : BinOK P .gtr (int2 (cmpI fun a b => !ile a b)) := cmp_okb fun k a b t => by
  have : (decide (a > b)) = !ile a b := by rw [ile_eq, ← decide_not, decide_eq_decide]; omega
  simp [binOp, Op.intCmp, this]
theorem geq_okb : BinOK P .geq (int2 (cmpI fun a b => ile b a)) := cmp_okb fun k a b t => by
  have : (decide (a ≥ b)) = ile b a := by rw [ile_eq]
  simp [binOp, Op.intCmp, this]
theorem eqA_okb {op : BinOp} {neg : Bool} (hi : ∀ (k : IntKind) (a b : Int) (t : TypeId), binOp op t (.int k a) (.int k b) = pure (.bool (xor neg (ieq a b))))
    (hs : ∀ (a b : ByteArray) (t : TypeId), binOp op t (.string a) (.string b) = pure (.bool (xor neg (a.toList == b.toList)))) :
    BinOK P op (eqA neg) := by
  intro ι x y v x' y' t X Y w h hx hy
  cases hsx : x.str? with
  | none =>
    have h : int2 (cmpI fun a b => xor neg (ieq a b)) x y = some v := by
      unfold eqA at h; rw [hsx] at h; exact h
    exact cmp_okb (P := P) hi t X Y w h hx hy
  | some s =>
    have h : (ob y.str? fun t => some (AV.bool (xor neg (s.toList == t.toList)))) = some v := by
      unfold eqA at h; rw [hsx] at h; exact h
    rw [ob_eq] at h
    obtain ⟨s', h1, h2⟩ := h
    rw [str?_eq] at hsx h1
    subst hsx h1
    cases hx; cases hy
    simp only [Option.some.injEq] at h2; subst h2
    refine ⟨_, ?_, .bool _⟩
    have hg : (eqGuard op t X Y (.string s) (.string s')).run P w = .ok () w := by unfold eqGuard; cases op <;> simp
    rw [Sem.run_bind, hg, Result.andThen_ok, hs]
    rfl
theorem eql_okb : BinOK P .eql (eqA false) := eqA_okb (fun k a b t => by simp [binOp, Op.intCmp, ieq_eq]; rfl) (fun a b t => by simp [binOp, Op.stringOp])
theorem neq_okb : BinOK P .neq (eqA true) := eqA_okb (fun k a b t => by
  have : (a != b) = !ieq a b := by rw [ieq_eq]; rfl
  simp [binOp, Op.intCmp, this]) (fun a b t => by simp [binOp, Op.stringOp])

theorem shf_ok {op : BinOp} {f : IntKind → Int → Nat → Int}
    (hf : ∀ (k k' : IntKind) (a : Int) (n : Nat) (t : TypeId), binOp op t (.int k a) (.int k' n) = pure (.int k (f k a n)))  : BinOK P op (shf f) := by
  intro ι x y v x' y' t X Y w h hx hy
  simp only [shf, ob_eq] at h
  obtain ⟨p, h1, q, h2, h3⟩ := h
  rw [int?_eq] at h1 h2
  subst h1 h2
  cases hx; cases hy
  obtain ⟨k', n⟩ := q
  cases n with
  | negSucc m => simp [icase_neg] at h3
  | ofNat m =>
    simp only [icase_ofNat, Option.some.injEq] at h3; subst h3
    refine ⟨_, ?_, .int _ _⟩
    have hg : (eqGuard op t X Y (.int p.1 p.2) (.int k' (m : Nat))).run P w = .ok () w := by unfold eqGuard; cases op <;> simp
    show (do eqGuard op t X Y (.int p.1 p.2) (.int k' (m : Nat)); binOp op t (.int p.1 p.2) (.int k' (m : Nat)) : Sem Value).run P w = _
    rw [Sem.run_bind, hg, Result.andThen_ok, hf]
    rfl
theorem bmin (n b : Nat) : bi (Nat.ble n b) n b = min n b := by
  rw [bi_if]
  by_cases h : n ≤ b
  · rw [if_pos (nble_t.2 h)]; omega
  · rw [if_neg (fun e => h (nble_t.1 e))]; omega
theorem shl_okb : BinOK P .shl (shf shlI) := shf_ok fun k k' a n t => by
  have h0 : ¬ ((n : Int) < 0) := by omega
  simp only [binOp, Op.shift, h0, if_false, shlI, fwrap_eq, imul_eq, bmin, Int.toNat_natCast]
  have : (Int.ofNat (Nat.pow (nat_lit 2) (min n k.bits))) = (2 : Int) ^ (min n k.bits) := by
    show ((2 ^ (min n k.bits) : Nat) : Int) = _
    simp
  rw [this]
theorem shr_okb : BinOK P .shr (shf shrI) := shf_ok fun k k' a n t => by
  have h0 : ¬ ((n : Int) < 0) := by omega
  simp only [binOp, Op.shift, h0, if_false, Int.toNat_natCast]
  congr 2
  cases a with
  | ofNat m => 
    simp only [shrI, icase_ofNat, bmin]
    show (Int.ofNat m).fdiv _ = Int.ofNat (m / 2 ^ (min n k.bits))
    have : ((2 : Int) ^ min n k.bits) = ((2 ^ min n k.bits : Nat) : Int) := by simp
    rw [this]
    exact (Int.ofNat_fdiv _ _).symm
  | negSucc m =>
    simp only [shrI, icase_neg]
    simp
theorem none_okb {op : BinOp} : BinOK P op (fun _ _ => none) := by intro ι x y v x' y' t X Y w h; simp at h

theorem binA_ok (op : BinOp) : BinOK P op (binA op) := by
  cases op
  · exact add_okb
  · exact sub_okb
  · exact mul_okb
  · exact quo_okb
  · exact rem_okb
  · exact and_okb
  · exact or_okb
  · exact xor_okb
  all_goals first
    | exact none_okb | exact shl_okb | exact shr_okb | exact eql_okb | exact neq_okb | exact lss_okb | exact leq_okb | exact gtr_okb | exact geq_okb

theorem un_ok (op : UnOp) (t : TypeId) (x : Operand) : PureOK P ⟨dst, .unOp op t x, type, pos, after, guard⟩ (cUn (unA op) x) := by
  intro ι nt ds e a v w h hv
  simp only [cUn, ob_eq] at hv
  obtain ⟨xv, h1, h2⟩ := hv
  have hx := ev_rel h h1
  have hrun : ∀ v', (Op.unary op (a.eval x)).run P w = .ok v' w → (execOp a.eval ⟨dst, .unOp op t x, type, pos, after, guard⟩).run P w = .ok (.value v') w := by
    intro v' hh
    have : execOp a.eval ⟨dst, .unOp op t x, type, pos, after, guard⟩ = (do pure (.value (← Op.unary op (a.eval x))) : Sem Next) := rfl
    rw [this, Sem.run_bind, hh]; rfl
  cases op with
  | plus => simp [unA] at h2
  | neg =>
    simp only [unA, ob_eq] at h2
    obtain ⟨p, h3, h4⟩ := h2
    rw [int?_eq] at h3; subst h3
    simp only [Option.some.injEq] at h4; subst h4
    generalize a.eval x = X at hx hrun
    cases hx
    refine ⟨_, hrun (.int p.1 (p.1.wrap (0 - p.2))) (by simp [Op.unary, Op.intArith]), ?_⟩
    rw [fwrap_eq, ineg_eq]
    simp
    exact .int _ _
  | not =>
    simp only [unA, ob_eq] at h2
    obtain ⟨p, h3, h4⟩ := h2
    rw [bool?_eq] at h3; subst h3
    simp only [Option.some.injEq] at h4; subst h4
    generalize a.eval x = X at hx hrun
    cases hx
    exact ⟨_, hrun (.bool (!p)) (by simp [Op.unary]), .bool _⟩
  | xor =>
    simp only [unA, ob_eq] at h2
    obtain ⟨p, h3, h4⟩ := h2
    rw [int?_eq] at h3; subst h3
    simp only [Option.some.injEq] at h4; subst h4
    generalize a.eval x = X at hx hrun
    cases hx
    refine ⟨_, hrun (.int p.1 (p.1.wrap (BitVec.ofInt p.1.bits (if p.1.signed then -1 else p.1.max) ^^^ BitVec.ofInt p.1.bits p.2).toNat)) (by simp [Op.unary, Op.intBits]), ?_⟩
    rw [fbits_xor]
    have : (bi p.1.signed (Int.negSucc 0) (.ofNat (kMax p.1))) = (if p.1.signed then -1 else p.1.max) := by
      cases p.1 <;> rfl
    rw [this]
    exact .int _ _

theorem conv_ok (src d : TypeId) (x : Operand) : PureOK P ⟨dst, .convert src d x, type, pos, after, guard⟩ (cConv (convK P src d) x) := by
  intro ι nt ds e a v w h hv
  unfold convK at hv
  cases hs : P.underlying src with
  | none => rw [hs] at hv; simp [cConv, fail] at hv
  | some ds =>
  rw [hs] at hv
  cases hk : kindT P d with
  | none => simp [cConv, fail, hk] at hv
  | some k =>
    simp only [cConv, hk, ob_eq] at hv
    obtain ⟨xv, h1, p, h2, h3⟩ := hv
    rw [int?_eq] at h2; subst h2
    simp only [Option.some.injEq] at h3; subst h3
    have hx := ev_rel h h1
    rw [kindT_eq] at hk
    have : execOp a.eval ⟨dst, .convert src d x, type, pos, after, guard⟩ = (do pure (.value (← convert src d (a.eval x))) : Sem Next) := rfl
    rw [this, Sem.run_bind]
    generalize a.eval x = X at hx
    cases hx
    refine ⟨.int k (k.wrap p.2), ?_, by rw [fwrap_eq]; exact .int _ _⟩
    have : (convert src d (.int p.1 p.2)).run P w = .ok (.int k (k.wrap p.2)) w := by
      unfold convert
      simp only [Sem.run_bind, run_underlying' hs, run_underlying' hk, Result.andThen_ok, Conv.intToInt]
      cases ds <;> simp
    rw [this]; rfl
end
end Go.Ev
