/- A part of an evaluator of the model's calls and of the proof that it tells the truth. Conditions: those that the theorems name. -/
import Derived.Test.YtadnhiagecamhaaGreatDoorEvE
namespace Go.Ev
open Go.RowKit
set_option linter.unusedVariables false
set_option linter.unusedSimpArgs false

theorem foldl_set : ∀ (vs : List Value) (off k : Nat) (cs : List Value), off + k + vs.length ≤ cs.length →
    (vs.zipIdx k).foldl (fun (cs : Array Value) (c : Value × Nat) => cs.setIfInBounds (off + c.2) c.1) ⟨cs⟩ = ⟨cs.take (off + k) ++ vs ++ cs.drop (off + k + vs.length)⟩
  | [], off, k, cs, h => by simp
  | v :: vs, off, k, cs, h => by
    simp only [List.length_cons] at h
    have ih := foldl_set vs off (k + 1) (cs.set (off + k) v) (by simp; omega)
    simp only [List.zipIdx_cons, List.foldl_cons]
    have e1 : (⟨cs⟩ : Array Value).setIfInBounds (off + k) v = ⟨cs.set (off + k) v⟩ := by apply Array.ext'; simp
    rw [e1, ih]
    apply Array.ext'
    have hlt : off + k < cs.length := by omega
    have e2 : (cs.set (off + k) v).take (off + (k + 1)) = cs.take (off + k) ++ [v] := by
      rw [List.set_eq_take_append_cons_drop, if_pos hlt, List.take_append]
      have : (cs.take (off + k)).length = off + k := by simp; omega
      rw [this, List.take_of_length_le (by rw [this]; omega)]
      have : off + (k + 1) - (off + k) = 1 := by omega
      rw [this]; simp
    have e3 : (cs.set (off + k) v).drop (off + (k + 1) + vs.length) = cs.drop (off + k + (vs.length + 1)) := by
      rw [List.drop_set_of_lt (by omega)]
      congr 1; omega
    simp only [e2, e3, List.length_cons]
    simp

theorem fill_step (vs cs : Array Value) (off : Nat) (h : off + vs.size ≤ cs.size) :
    vs.zipIdx.foldl (fun (cs : Array Value) (c : Value × Nat) => cs.setIfInBounds (off + c.2) c.1) cs = ⟨cs.toList.take off ++ vs.toList ++ cs.toList.drop (off + vs.toList.length)⟩ := by
  have := foldl_set vs.toList off 0 cs.toList (by simpa using h)
  rw [← Array.foldl_toList, Array.toList_zipIdx]
  simpa using this

theorem fillG_rel {ι : Inj} {nt : Nat} {ds : List Deferred} {e : Env} {a : Act} (h : AR ι nt ds e a) (pl : Nat → Option (Nat × Nat)) :
    ∀ {ps : List (Nat × Operand)} {cs l : List AV} {cs' : List Value}, fillG pl ps e cs = some l → VRs ι cs cs' → (∀ x ∈ cs, x.simple = true) →
      ∃ l', Instr.fill pl ⟨cs'⟩ (ps.map fun p => (p.1, a.eval p.2)) = some ⟨l'⟩ ∧ VRs ι l l' ∧ (∀ x ∈ l, x.simple = true) ∧ l.length = cs.length
  | [], cs, l, cs', hf, hr, hs => by
    simp only [fillG, Option.some.injEq] at hf; subst hf
    exact ⟨cs', rfl, hr, hs, rfl⟩
  | p :: ps, cs, l, cs', hf, hr, hs => by
    have hf : (ob (pl p.1) fun fo => ob (ev p.2 e) fun v => ob v.cells fun vc => bi (Nat.beq (len vc) fo.2) (bi (Nat.ble (Nat.add fo.1 fo.2) (len cs)) (fillG pl ps e (fillL cs fo.1 vc)) none) none) = some l := hf
    simp only [ob_eq, bi_none, nbeq_t, nble_t, len_eq] at hf
    obtain ⟨fo, h1, v, h2, vc, h3, h4, h5, h6⟩ := hf
    have h5 : fo.1 + fo.2 ≤ cs.length := h5
    obtain ⟨hvc, hvs⟩ := (ev_rel h h2).cells h3
    have hlen := hvc.length
    have hlen2 := hr.length
    have hvl : (a.eval p.2).cells.toList.length = (a.eval p.2).cells.size := by simp
    have hr' : VRs ι (fillL cs fo.1 vc) (cs'.take fo.1 ++ (a.eval p.2).cells.toList ++ cs'.drop (fo.1 + vc.length)) :=
      ((hr.take _).append hvc).append (hr.drop _)
    have hs' : ∀ x ∈ fillL cs fo.1 vc, x.simple = true := by
      intro x hx
      simp only [fillL, List.mem_append] at hx
      rcases hx with (hx | hx) | hx
      · exact hs x (List.mem_of_mem_take hx)
      · exact hvs x hx
      · exact hs x (List.mem_of_mem_drop hx)
    obtain ⟨l', h7, h8, h9, h10⟩ := fillG_rel h pl h6 hr' hs'
    refine ⟨l', ?_, h8, h9, ?_⟩
    · simp only [List.map_cons, Instr.fill, h1]
      rw [if_neg (by
        simp only [gt_iff_lt, Bool.or_eq_true, bne_iff_ne, ne_eq, decide_eq_true_eq, not_or, Decidable.not_not, Nat.not_lt, List.size_toArray]
        exact ⟨by omega, by omega⟩)]
      have := fill_step (a.eval p.2).cells ⟨cs'⟩ fo.1 (by simp only [List.size_toArray]; omega)
      simp only at this
      rw [this, ← h7]
      congr 4
      omega
    · rw [h10]; simp [fillL]; omega

section
variable {P : Program} {dst : Option Tmp} {type : TypeId} {pos : String} {after : Array Edge} {guard : Option (Nat × Bool)}

theorem zeroT_eq {t : TypeId} {z : AV} (h : zeroT P t = some z) : ∃ i zv, P.info? t = some i ∧ i.zero = some zv ∧ ofV zv = some z := by
  unfold zeroT at h
  split at h
  · rename_i i hi
    split at h
    · rename_i v hv; exact ⟨i, v, hi, hv, h⟩
    · simp at h
  · simp at h
theorem sizeT_eq {t : TypeId} {n : Nat} (h : sizeT P t = some n) : ∃ i, P.info? t = some i ∧ i.size = n := by
  simpa [sizeT] using h

theorem buildS_ok (t : TypeId) (ps : Array (Nat × Operand)) : PureOK P ⟨dst, .build t ps, type, pos, after, guard⟩ (cBuildS (placesT P t) (zeroT P t) ps.toList) := by
  intro ι nt ds e a v w h hv
  cases hpl : placesT P t with
  | none => rw [hpl] at hv; simp [cBuildS, fail] at hv
  | some pl =>
  cases hz : zeroT P t with
  | none => rw [hpl, hz] at hv; simp [cBuildS, fail] at hv
  | some z =>
    rw [hpl, hz] at hv
    simp only [cBuildS, ob_eq] at hv
    obtain ⟨zc, h1, l, h2, h3⟩ := hv
    simp only [Option.some.injEq] at h3; subst h3
    obtain ⟨i, zv, h4, h5, h6⟩ := zeroT_eq hz
    obtain ⟨hzc, hzs⟩ := (ofV_rel (ι := ι) h6).cells h1
    obtain ⟨l', h7, h8, h9, _⟩ := fillG_rel h (fun i : Nat => pl[i]?) h2 hzc hzs
    refine ⟨.agg ⟨l'⟩, of_run (s := Instr.build t (ps.map fun p => (p.1, a.eval p.2))) rfl ?_, .agg h8 h9⟩
    apply run_build
    unfold placesT at hpl
    split at hpl
    · rename_i fs hu
      unfold Program.built
      simp only [h4, hu, h5, hpl]
      have e1 : (ps.map fun p => (p.1, a.eval p.2)).toList = ps.toList.map fun p => (p.1, a.eval p.2) := by simp
      have e2 : (fun i : Nat => pl.toArray[i]?) = fun i : Nat => pl[i]? := by funext i; simp
      rw [e1, e2]
      exact h7
    · simp at hpl

theorem buildE_ok (t el : TypeId) (n : Nat) (hu : P.underlying t = some (.array n el)) (ps : Array (Nat × Operand)) :
    PureOK P ⟨dst, .build t ps, type, pos, after, guard⟩ (cBuildE (sizeT P el) (zeroT P t) ps.toList) := by
  intro ι nt ds e a v w h hv
  cases hpl : sizeT P el with
  | none => rw [hpl] at hv; simp [cBuildE, fail] at hv
  | some n =>
  cases hz : zeroT P t with
  | none => rw [hpl, hz] at hv; simp [cBuildE, fail] at hv
  | some z =>
    rw [hpl, hz] at hv
    simp only [cBuildE, ob_eq] at hv
    obtain ⟨zc, h1, l, h2, h3⟩ := hv
    simp only [Option.some.injEq] at h3; subst h3
    obtain ⟨i, zv, h4, h5, h6⟩ := zeroT_eq hz
    obtain ⟨ie, h10, h11⟩ := sizeT_eq hpl
    obtain ⟨hzc, hzs⟩ := (ofV_rel (ι := ι) h6).cells h1
    obtain ⟨l', h7, h8, h9, _⟩ := fillG_rel h _ h2 hzc hzs
    refine ⟨.agg ⟨l'⟩, of_run (s := Instr.build t (ps.map fun p => (p.1, a.eval p.2))) rfl ?_, .agg h8 h9⟩
    apply run_build
    unfold Program.built
    simp only [h4, hu, h5, h10, h11]
    have e1 : (ps.map fun p => (p.1, a.eval p.2)).toList = ps.toList.map fun p => (p.1, a.eval p.2) := by simp
    rw [e1]
    exact h7

theorem build_ok (t : TypeId) (ps : Array (Nat × Operand)) : PureOK P ⟨dst, .build t ps, type, pos, after, guard⟩ (evP P (.build t ps)) := by
  intro ι nt ds e a v w h hv
  cases hu : P.underlying t with
  | none => simp [evP, hu, fail] at hv
  | some d =>
    cases d
    case struct fs => simp only [evP, hu] at hv; exact buildS_ok t ps w h hv
    case array n el => simp only [evP, hu] at hv; exact buildE_ok t el n hu ps w h hv
    all_goals simp [evP, hu, fail] at hv

theorem evopt_rel {ι : Inj} {nt : Nat} {ds : List Deferred} {e : Env} {a : Act} (h : AR ι nt ds e a) {x : Option Operand} {v : Option AV} (hv : evopt x e = some v) :
    (v = none ∧ x = none) ∨ ∃ u y, v = some u ∧ x = some y ∧ VR ι u (a.eval y) := by
  cases x with
  | none => simp [evopt] at hv; exact .inl ⟨hv.symm, rfl⟩
  | some y =>
    simp only [evopt, ob_eq] at hv
    obtain ⟨u, h1, h2⟩ := hv
    simp at h2; subst h2
    exact .inr ⟨u, y, rfl, rfl, ev_rel h h1⟩

theorem run_sliceBound (k : IntKind) (j y : Nat) (c : BoundsCode) (w : World) (h : j ≤ y) : (Instr.sliceBound (.int k (j : Int)) y c).run P w = .ok j w := by
  have : (j : Int) ≤ (y : Int) := by omega
  simp [Instr.sliceBound, asIntOf, this]

theorem bounds_rel {ι : Inj} {nt : Nat} {ds : List Deferred} {e : Env} {a : Act} (h : AR ι nt ds e a) {lo hi : Option Operand} {l' h' : Option AV} {l hh n cap : Nat} (isS : Bool) (w : World)
    (h1 : evopt lo e = some l') (h2 : evopt hi e = some h') (h3 : optB 0 l' = some l) (h4 : optB n h' = some hh) (h5 : l ≤ hh) (h6 : hh ≤ cap) :
    (Instr.sliceBounds isS n cap (lo.map a.eval) (hi.map a.eval) none).run P w = .ok (l, hh, cap) w := by
  have hhi : ∀ c : BoundsCode, ((match hi.map a.eval with | some v => Instr.sliceBound v cap c | none => pure n) : Sem Nat).run P w = .ok hh w := by
    intro c
    rcases evopt_rel h h2 with ⟨rfl, rfl⟩ | ⟨u, y, rfl, rfl, hr⟩
    · simp [optB] at h4; subst h4; rfl
    · have h4 : bound? u = some hh := h4
      obtain ⟨k, e1⟩ := bound_rel h4 hr
      simp only [Option.map_some, e1]
      exact run_sliceBound k hh cap c w h6
  have hlo : ∀ c : BoundsCode, ((match lo.map a.eval with | some v => Instr.sliceBound v hh c | none => pure 0) : Sem Nat).run P w = .ok l w := by
    intro c
    rcases evopt_rel h h1 with ⟨rfl, rfl⟩ | ⟨u, y, rfl, rfl, hr⟩
    · simp [optB] at h3; subst h3; rfl
    · have h3 : bound? u = some l := h3
      obtain ⟨k, e1⟩ := bound_rel h3 hr
      simp only [Option.map_some, e1]
      exact run_sliceBound k l hh c w h5
  unfold Instr.sliceBounds
  cases hi with
  | none =>
    have e1 := hhi .sliceAcap
    simp only [Option.map_none, Sem.run_pure, Result.ok.injEq, and_true] at e1
    subst e1
    cases lo with
    | none => simp only [Option.map_none, Sem.run_bind, Sem.run_pure, Result.andThen_ok]; have := hlo .sliceB; simp at this; subst this; rfl
    | some y => simp only [Option.map_none, Option.map_some, Sem.run_bind, Sem.run_pure, Result.andThen_ok]; have := hlo .sliceB; simp only [Option.map_some] at this; simp [this]
  | some z =>
    have e1 := hhi (if isS then .sliceAcap else .sliceAlen)
    simp only [Option.map_some] at e1
    cases lo with
    | none => simp only [Option.map_none, Option.map_some, Sem.run_bind, Sem.run_pure, Result.andThen_ok, e1]; have := hlo .sliceB; simp at this; subst this; rfl
    | some y => simp only [Option.map_some, Sem.run_bind, Sem.run_pure, Result.andThen_ok, e1]; have := hlo .sliceB; simp only [Option.map_some] at this; simp [this]

theorem sliceStr_ok (t : TypeId) (x : Operand) (lo hi : Option Operand) (ht : isStrT P t = true) : PureOK P ⟨dst, .slice t x lo hi none, type, pos, after, guard⟩ (cSliceStr x lo hi) := by
  intro ι nt ds e a v w h hv
  rw [isStrT_eq] at ht
  simp only [cSliceStr, ob_eq] at hv
  obtain ⟨xv, h1, l', h2, h', h3, h4⟩ := hv
  simp only [sliceStr, ob_eq, bi_none, nble_t] at h4
  obtain ⟨s, h5, l, h6, hh, h7, h8, h9, h10⟩ := h4
  rw [str?_eq] at h5; subst h5
  simp only [Option.some.injEq] at h10; subst h10
  have hx := ev_rel h h1
  cases hX : a.eval x <;> rw [hX] at hx <;> cases hx
  refine ⟨.string (s.extract l hh), of_run (s := Instr.sliceAt t (a.eval x) (lo.map a.eval) (hi.map a.eval) none) rfl ?_, .str _⟩
  rw [hX]
  have hb := bounds_rel (P := P) h false w h2 h3 h6 h7 h8 h9
  simp only [Instr.sliceAt, Instr.slice, Sem.run_bind, run_underlying' ht, Result.andThen_ok]
  simp [hb]

theorem slice_ok (t : TypeId) (x : Operand) (lo hi : Option Operand) : PureOK P ⟨dst, .slice t x lo hi none, type, pos, after, guard⟩ (cSlice (elemSize P t) x lo hi) := by
  intro ι nt ds e a v w h hv
  cases hf : elemSize P t with
  | none => rw [hf] at hv; simp [cSlice, fail] at hv
  | some n =>
    rw [hf] at hv
    simp only [elemSize, ob_eq] at hf
    obtain ⟨el, h7, h8⟩ := hf
    rw [elemT_eq] at h7
    simp only [cSlice, ob_eq] at hv
    obtain ⟨xv, h1, l', h2, h', h3, h4⟩ := hv
    unfold sliceV at h4
    rw [bi_if] at h4
    have hx := ev_rel h h1
    by_cases hn : xv.isNilSlice = true
    · rw [if_pos hn] at h4
      rw [nilSlice_eq] at hn; subst hn
      simp only [sliceNil, ob_eq, bi_none, nbeq_t] at h4
      obtain ⟨l, h5, hh, h6, rfl, rfl, h10⟩ := h4
      simp only [Option.some.injEq] at h10; subst h10
      cases hX : a.eval x <;> rw [hX] at hx <;> cases hx
      refine ⟨.slice none 0 0, of_run (s := Instr.sliceAt t (a.eval x) (lo.map a.eval) (hi.map a.eval) none) rfl ?_, .nilslice⟩
      have hb := bounds_rel (P := P) (cap := 0) h true w h2 h3 h5 h6 (Nat.le_refl 0) (Nat.le_refl 0)
      rw [hX]
      simp only [Instr.sliceAt, Instr.slice, Sem.run_bind, run_underlying' h7, Result.andThen_ok, hb, run_sizeOf h8]
      simp
    · rw [if_neg hn] at h4
      simp only [sliceS, ob_eq, bi_none, nbeq_t, nble_t] at h4
      obtain ⟨s, h9, l, h10, hh, h11, h12, h13, h14, h15⟩ := h4
      rw [slice?_eq] at h9; subst h9
      simp only [Option.some.injEq] at h15; subst h15
      cases hX : a.eval x <;> rw [hX] at hx <;> cases hx
      rename_i cap' p A hp h16 h17 h18
      have hb := bounds_rel (P := P) (cap := cap') h true w h2 h3 h10 h11 h13 (by omega)
      refine ⟨.slice (some (if cap' = l then A else A.add (l * n))) (hh - l) (cap' - l), of_run (s := Instr.sliceAt t (a.eval x) (lo.map a.eval) (hi.map a.eval) none) rfl ?_, ?_⟩
      · rw [hX]
        simp only [Instr.sliceAt, Instr.slice, Sem.run_bind, run_underlying' h7, Result.andThen_ok, hb, run_sizeOf h8]
        by_cases hc : cap' = l <;> simp [hc]
      · refine .slice hp (by show hh - l ≤ s.cap - l; omega) (by show s.cap - l ≤ cap' - l; omega) ?_
        by_cases hc : cap' = l
        · exact .inr (by omega)
        · left
          rcases h18 with ⟨rfl, h18⟩ | h18
          · rw [if_neg hc, add_mk]
            refine ⟨by show (⟨p.B, p.O + s.off + l * n, none⟩ : Addr) = ⟨p.B, p.O + (s.off + l * n), none⟩; rw [Nat.add_assoc], ?_⟩
            show p.O + (s.off + l * n) + (cap' - l) * n ≤ p.Z
            rw [h12] at h18
            have : (cap' - l) * n + l * n = cap' * n := by rw [← Nat.add_mul]; congr 1; omega
            omega
          · omega

theorem callP (c : Call) (b : Builtin) (hc : c.callee = .builtin b) (ρ : Operand → Value) :
    execOp ρ ⟨dst, .call c, type, pos, after, guard⟩ = builtin b c.argTypes type (c.args.map fun | .const _ => true | _ => false) (c.args.map ρ) := by
  show (do let d ← resolve ρ c type; invoke d.target d.args : Sem Next) = _
  unfold resolve
  rw [hc]
  rfl

theorem lenS_ok (c : Call) (x : Operand) (t : TypeId) (hc : c.callee = .builtin .len) (ha : c.args.toList = [x]) (ht : c.argTypes.toList = [t]) (el : TypeId) (he : elemT P t = some el) :
    PureOK P ⟨dst, .call c, type, pos, after, guard⟩ (cLenS x) := by
  intro ι nt ds e a v w h hv
  simp only [cLenS, ob_eq] at hv
  obtain ⟨xv, h1, h2⟩ := hv
  rw [elemT_eq] at he
  have ha : c.args = #[x] := Array.ext' ha
  have ht : c.argTypes = #[t] := Array.ext' ht
  have hx := ev_rel h h1
  rw [callP c .len hc]
  unfold lenS at h2
  rw [bi_if] at h2
  by_cases hn : xv.isNilSlice = true
  · rw [if_pos hn] at h2
    rw [nilSlice_eq] at hn; subst hn
    simp only [Option.some.injEq] at h2; subst h2
    cases hX : a.eval x <;> rw [hX] at hx <;> cases hx
    refine ⟨.int .i64 0, ?_, .int _ _⟩
    simp [builtin, ha, ht, hX, Builtin.len_, run_underlying' he, goInt]
  · rw [if_neg hn] at h2
    rw [ob_eq] at h2
    obtain ⟨s, h3, h4⟩ := h2
    rw [slice?_eq] at h3; subst h3
    simp only [Option.some.injEq] at h4; subst h4
    cases hX : a.eval x <;> rw [hX] at hx <;> cases hx
    refine ⟨.int .i64 (s.len : Nat), ?_, .int _ _⟩
    simp [builtin, ha, ht, hX, Builtin.len_, run_underlying' he, goInt]
theorem lenStr_ok (c : Call) (x : Operand) (t : TypeId) (hc : c.callee = .builtin .len) (ha : c.args.toList = [x]) (ht : c.argTypes.toList = [t]) (he : isStrT P t = true) :
    PureOK P ⟨dst, .call c, type, pos, after, guard⟩ (cLenStr x) := by
  intro ι nt ds e a v w h hv
  simp only [cLenStr, lenStr, ob_eq] at hv
  obtain ⟨xv, h1, s, h2, h3⟩ := hv
  rw [isStrT_eq] at he
  have ha : c.args = #[x] := Array.ext' ha
  have ht : c.argTypes = #[t] := Array.ext' ht
  have hx := ev_rel h h1
  rw [callP c .len hc]
  rw [str?_eq] at h2; subst h2
  simp only [Option.some.injEq] at h3; subst h3
  cases hX : a.eval x <;> rw [hX] at hx <;> cases hx
  refine ⟨.int .i64 (s.size : Nat), ?_, .int _ _⟩
  simp [builtin, ha, ht, hX, Builtin.len_, run_underlying' he, goInt]

theorem mm_rel {ι : Inj} (m : Bool) (f : Value → Value → Sem Value) (k : IntKind)
    (hf : ∀ (k k' : IntKind) (x y : Int), f (.int k x) (.int k' y) = pure (.int k (bi m (bi (ile x y) x y) (bi (ile y x) x y)))) (w : World) :
    ∀ (l : List AV) (l' : List Value) (x : Int) (v : AV), VRs ι l l' →
      @List.rec AV (fun _ => Int → Option AV) (fun x => some (.int k x)) (fun w _ ih x => ob w.int? fun q => ih (bi m (bi (ile x q.2) x q.2) (bi (ile q.2 x) x q.2))) l x = some v →
      ∃ v', (l'.foldlM f (.int k x)).run P w = .ok v' w ∧ VR ι v v'
  | [], _, x, v, .nil, h => by simp at h; subst h; exact ⟨.int k x, rfl, .int _ _⟩
  | y :: l, _, x, v, .cons (l' := l') (v' := y') h1 h2, h => by
    rw [ob_eq] at h
    obtain ⟨q, h3, h4⟩ := h
    rw [int?_eq] at h3; subst h3
    cases h1
    obtain ⟨v', h5, h6⟩ := mm_rel m f k hf w l l' _ v h2 h4
    refine ⟨v', ?_, h6⟩
    rw [List.foldlM_cons, hf]
    exact h5

theorem min2_eq (k k' : IntKind) (x y : Int) : Builtin.min2 (.int k x) (.int k' y) = pure (.int k (bi true (bi (ile x y) x y) (bi (ile y x) x y))) := by
  rw [bi_true, ile_eq, bi_if]
  by_cases h : y < x
  · simp [Builtin.min2, h]; rw [if_neg (by omega)]
  · simp [Builtin.min2, h]; rw [if_pos (by omega)]
theorem max2_eq (k k' : IntKind) (x y : Int) : Builtin.max2 (.int k x) (.int k' y) = pure (.int k (bi false (bi (ile x y) x y) (bi (ile y x) x y))) := by
  rw [bi_false, ile_eq, bi_if]
  by_cases h : y > x
  · simp [Builtin.max2, h]; rw [if_neg (by omega)]
  · simp [Builtin.max2, h]; rw [if_pos (by omega)]

theorem minmax_ok (c : Call) (m : Bool) (hc : c.callee = .builtin (if m then .min else .max)) :
    PureOK P ⟨dst, .call c, type, pos, after, guard⟩ (cMinMax m c.args.toList) := by
  intro ι nt ds e a v w h hv
  simp only [cMinMax, ob_eq] at hv
  obtain ⟨l, h1, h2⟩ := hv
  have hl := evs_rel h h1
  rw [callP c _ hc]
  unfold minmaxA at h2
  split at h2
  · simp at h2
  · rename_i x l
    rw [ob_eq] at h2
    obtain ⟨p, h3, h4⟩ := h2
    rw [int?_eq] at h3; subst h3
    generalize hL : c.args.toList.map a.eval = L at hl
    have hA : (c.args.map a.eval).toList = L := by simp [← hL]
    cases hl with
    | cons g1 g2 =>
      cases g1
      cases m with
      | true =>
        obtain ⟨v', h5, h6⟩ := mm_rel (P := P) true Builtin.min2 p.1 min2_eq w l _ _ v g2 h4
        refine ⟨v', ?_, h6⟩
        simp only [builtin, if_true, Builtin.min_, hA, Sem.run_bind, h5]
        rfl
      | false =>
        obtain ⟨v', h5, h6⟩ := mm_rel (P := P) false Builtin.max2 p.1 max2_eq w l _ _ v g2 h4
        refine ⟨v', ?_, h6⟩
        simp only [builtin, if_false, Bool.false_eq_true, Builtin.max_, hA, Sem.run_bind, h5]
        rfl

theorem callP_ok (c : Call) : PureOK P ⟨dst, .call c, type, pos, after, guard⟩ (evCallP P c) := by
  intro ι nt ds e a v w h hv
  cases hc : c.callee with
  | invoke r n => simp [evCallP, hc, fail] at hv
  | value f => simp [evCallP, hc, fail] at hv
  | builtin b =>
    cases b
    case len =>
      rcases ha : c.args.toList with _ | ⟨x, _ | ⟨x2, l⟩⟩
      · simp [evCallP, hc, ha, fail] at hv
      · rcases ht : c.argTypes.toList with _ | ⟨t, _ | ⟨t2, l⟩⟩
        · simp [evCallP, hc, ha, ht, fail] at hv
        · have hv : bi (isStrT P t) (cLenStr x) (@Option.rec TypeId (fun _ => PF) fail (fun _ => cLenS x) (elemT P t)) e = some v := by
            simpa only [evCallP, hc, ha, ht] using hv
          cases hs : isStrT P t with
          | true => rw [hs] at hv; exact lenStr_ok c x t hc ha ht hs w h hv
          | false =>
            rw [hs, bi_false] at hv
            cases he : elemT P t with
            | none => rw [he] at hv; simp [fail] at hv
            | some el => rw [he] at hv; exact lenS_ok c x t hc ha ht el he w h hv
        · simp [evCallP, hc, ha, ht, fail] at hv
      · simp [evCallP, hc, ha, fail] at hv
    case min => simp only [evCallP, hc] at hv; exact minmax_ok c true hc w h hv
    case max => simp only [evCallP, hc] at hv; exact minmax_ok c false hc w h hv
    all_goals simp [evCallP, hc, fail] at hv

theorem evP_ok (op : Op) : PureOK P ⟨dst, op, type, pos, after, guard⟩ (evP P op) := by
  intro ι nt ds e a v w h hv
  cases op
  case move x => exact move_ok _ w h hv
  case assign x => exact assign_ok _ w h hv
  case pick c x y => exact pick_ok _ _ _ w h hv
  case binOp op t x y u => exact bin_ok (binA_ok _) _ _ _ _ w h hv
  case unOp op t x => exact un_ok _ _ _ w h hv
  case convert s d x => exact conv_ok _ _ _ w h hv
  case nilCheck x => exact nil_ok _ w h hv
  case fieldAddr s x f => exact fieldAddr_ok _ _ _ w h hv
  case indexAddr t x i => exact indexAddr_ok _ _ _ w h hv
  case field s x f => exact field_ok _ _ _ w h hv
  case index t x i => exact index_ok _ _ _ w h hv
  case extract x i => exact extract_ok _ _ w h hv
  case build t ps => exact build_ok _ _ w h hv
  case makeFunc f p q =>
    cases f
    case func f => exact makeFunc_ok _ _ _ w h hv
    all_goals simp [evP, fail] at hv
  case slice t x lo hi mx =>
    cases mx with
    | some m => simp [evP, fail] at hv
    | none =>
      have hv : bi (isStrT P t) (cSliceStr x lo hi) (cSlice (elemSize P t) x lo hi) e = some v := hv
      cases hs : isStrT P t with
      | true => rw [hs] at hv; exact sliceStr_ok t x lo hi hs w h hv
      | false => rw [hs] at hv; exact slice_ok t x lo hi w h hv
  case call c => exact callP_ok _ w h hv
  all_goals simp [evP, fail] at hv
end
end Go.Ev
