/- A part of an evaluator of the model's calls and of the proof that it tells the truth. Conditions: those that the theorems name. -/
import Derived.Test.YtadnhiagecamhaaGreatDoorEvJ
import Derived.Scope
import Derived.LoopN
import Derived.Orders
import Derived.AtR
import Derived.RangeFuncRecord
import Derived.RangeFuncIn
namespace Go.Ev
open Go.RowKit
set_option linter.unusedVariables false
set_option linter.unusedSimpArgs false

def NotGo (P : Program) : Prop := ∀ (f : Nat) (fn : Func), P.funcs[f]? = some fn → (fn.name == "runtime.NumGoroutine") = false

theorem comp_cases (P : Program) (o : Op) : comp P o = .p (evP P o) ∨ comp P o = .r (evR P o) ∨ comp P o = .a (evA P o) ∨ comp P o = .w (evW P o) := by
  cases o
  case convert s d x =>
    have : comp P (.convert s d x) = bi (clsT P d) (.p (evP P (.convert s d x))) (.r (evR P (.convert s d x))) := rfl
    rw [this, bi_if]
    split
    · exact .inl rfl
    · exact .inr (.inl rfl)
  case call c =>
    have : comp P (.call c) = bi (isPureCall c) (.p (evP P (.call c))) (.w (evW P (.call c))) := rfl
    rw [this, bi_if]
    split
    · exact .inl rfl
    · exact .inr (.inr (.inr rfl))
  all_goals first
    | exact .inl rfl
    | exact .inr (.inl rfl)
    | exact .inr (.inr (.inl rfl))
    | exact .inr (.inr (.inr rfl))

theorem undef_rel (ι : Inj) : VR ι undef Go.undef := .tup .nil

theorem wanted_rel {ι : Inj} {nt : Nat} {ds : List Deferred} {e : Env} {a : Act} (ha : AR ι nt ds e a) (ops : Array Oper) (o : Oper) : wantedA ops o.guard e = Region.wanted o (yielded ops a.tmps) := by
  unfold Region.wanted
  cases hg : o.guard with
  | none => rfl
  | some g =>
    obtain ⟨j, b⟩ := g
    have : wantedA ops (some (j, b)) e = match (ops[j]?).bind (·.dst) with | some t => wantK t b e | none => false := by
      unfold wantedA
      split <;> rename_i heq <;> simp [heq]
    rw [this]
    show _ = (yielded ops a.tmps j == some b)
    cases hd : (ops[j]?).bind (·.dst) with
    | none =>
      have hy : yielded ops a.tmps j = none := by unfold yielded; rw [hd]; rfl
      rw [hy]; rfl
    | some t =>
      have hy : yielded ops a.tmps j = match a.tmps[t]? with | some (.bool b) => some b | _ => none := by unfold yielded; rw [hd]; rfl
      rw [hy]
      have hr := ha.rel t
      have hgd : ∀ x, a.tmps[t]? = some x → a.tmps.getD t Go.undef = x := fun x hx => by
        rw [Array.getD_eq_getD_getElem?, hx]; rfl
      show wantK t b e = _
      cases he : e.get t with
      | none =>
        rw [he] at hr
        have hw : wantK t b e = false := by unfold wantK; rw [he]
        rw [hw]
        cases hx : a.tmps[t]? with
        | none => rfl
        | some x =>
          rw [hgd x hx] at hr
          have hr : VR ι (.tup []) x := hr
          cases hr
          rfl
      | some v =>
        rw [he] at hr
        have hr : VR ι v (a.tmps.getD t Go.undef) := hr
        have hw : wantK t b e = @Option.rec Bool (fun _ => Bool) false (fun x => bi b x (!x)) v.bool? := by unfold wantK; rw [he]
        rw [hw]
        cases hx : a.tmps[t]? with
        | none =>
          have : a.tmps.getD t Go.undef = Go.undef := by rw [Array.getD_eq_getD_getElem?, hx]; rfl
          rw [this] at hr
          have hr : VR ι v (.tuple ⟨[]⟩) := hr
          cases hr
          rfl
        | some x =>
          rw [hgd x hx] at hr
          cases hr with
          | bool c => cases c <;> cases b <;> rfl
          | _ => rfl

/-- One operation of the own heap's run. -/
theorem co_ok {P : Program} (hN : NotGo P) {call : CallF} (hcall : CallOK P call) {ι : Inj} {nt : Nat} {ds : List Deferred} {e : Env} {a : Act} {v : AV} {h h' : Hp} {w : World} {K : Act → World → Prop} {Q : Exit → Act → World → Prop} (o : Oper)
    (ha : AR ι nt ds e a) (hw : WR ι h w) (hf : (comp P o.op).run call e h = some (v, h'))
    (hK : ∀ v' κ w', VR κ v v' → WR κ h' w' → Fr ι h w κ h' w' → K (a.put o.dst v') w') : o.wp P a w K Q := by
  obtain ⟨dst, op, type, pos, after, guard⟩ := o
  rcases comp_cases P op with hc | hc | hc | hc
  · rw [hc] at hf
    have hf : (ob (evP P op e) fun v => some (v, h)) = some (v, h') := hf
    simp only [ob_eq, Option.some.injEq, Prod.mk.injEq] at hf
    obtain ⟨v, h1, rfl, rfl⟩ := hf
    obtain ⟨v', h2, h3⟩ := evP_ok op w ha h1
    exact wp_of_run h2 (hK v' ι w h3 hw (Fr.refl _ _ _))
  · rw [hc] at hf
    have hf : (ob (evR P op e) fun rd => ob (rd.run h) fun v => some (v, h)) = some (v, h') := hf
    simp only [ob_eq, Option.some.injEq, Prod.mk.injEq] at hf
    obtain ⟨rd, h1, v, h2, rfl, rfl⟩ := hf
    obtain ⟨v', h3, h4⟩ := evR_ok op ha hw h1 h2
    exact wp_of_run h3 (hK v' ι w h4 hw (Fr.refl _ _ _))
  · rw [hc] at hf
    have hf : (ob (evA P op e) fun m => some (m.val h.next, h.add m.blk)) = some (v, h') := hf
    simp only [ob_eq, Option.some.injEq, Prod.mk.injEq] at hf
    obtain ⟨m, h1, rfl, rfl⟩ := hf
    obtain ⟨obj, n, v', h2, h3⟩ := evA_ok op w ha h1
    have hn : ι h.next = none := hw.fresh (Nat.le_refl _)
    obtain ⟨h4, h5⟩ := h3 (ι.upd h.next ⟨w.heap.size, 0, n⟩) (upd_ext _ hn)
    refine wp_of_run h2 (hK v' _ _ (h5 _ (upd_same _ _ _)) ((hw.add m.blk).born hn (Nat.lt_succ_self _) (fun K hk => by rw [add_get, if_pos rfl, Option.some.injEq] at hk; subst hk; exact .refl _) (h4 _ (heap_push_new _ _))) ?_)
    exact Fr.born hn _ (Nat.le_succ _) (Nat.le_refl _) fun b hb => by rw [add_get, if_neg (Nat.ne_of_lt hb)]
  · rw [hc] at hf
    exact evW_ok hN op hcall ha hw hf hK

theorem runOps_nil (P : Program) (call : CallF) (nt : Nat) (ops : Array Oper) (e : Env) (h : Hp) : runOps P call nt ops [] e h = some (e, h) := rfl
theorem runOps_cons (P : Program) (call : CallF) (nt : Nat) (ops : Array Oper) (o : Oper) (l : List Oper) (e : Env) (h : Hp) :
    runOps P call nt ops (o :: l) e h = bi (wantedA ops o.guard e) (ob ((comp P o.op).run call e h) fun p => ob (putO nt o.dst p.1 e) fun e' => runOps P call nt ops l e' p.2)
      (ob (putO nt o.dst undef e) fun e' => runOps P call nt ops l e' h) := rfl

theorem runOps_ok {P : Program} (hN : NotGo P) {call : CallF} (hcall : CallOK P call) {nt : Nat} {ds : List Deferred} {ops : Array Oper} {Q : Exit → Act → World → Prop} : ∀ {l : List Oper} {ι : Inj} {e e' : Env} {a : Act} {h h' : Hp} {w : World},
    runOps P call nt ops l e h = some (e', h') → AR ι nt ds e a → WR ι h w → (∀ κ a' w', AR κ nt ds e' a' → WR κ h' w' → Fr ι h w κ h' w' → Q .normal a' w') → wpList P ops Q l a w
  | [], ι, e, e', a, h, h', w, hr, ha, hw, hQ => by
    simp only [runOps_nil, Option.some.injEq, Prod.mk.injEq] at hr
    obtain ⟨rfl, rfl⟩ := hr
    exact hQ ι a w ha hw (Fr.refl _ _ _)
  | o :: l, ι, e, e', a, h, h', w, hr, ha, hw, hQ => by
    rw [runOps_cons, bi_if, wanted_rel ha] at hr
    unfold wpList
    by_cases hwant : Region.wanted o (yielded ops a.tmps) = true
    · rw [if_pos hwant] at hr ⊢
      simp only [ob_eq] at hr
      obtain ⟨p, h1, e1, h2, h3⟩ := hr
      refine .inl (co_ok hN hcall o ha hw h1 fun v' κ w' g1 g2 g3 => ?_)
      exact runOps_ok hN hcall h3 ((ha.mono g3.ext).put g1 h2) g2 fun μ a' w'' k1 k2 k3 => hQ μ a' w'' k1 k2 (g3.trans k3)
    · rw [if_neg hwant] at hr ⊢
      simp only [ob_eq] at hr
      obtain ⟨e1, h2, h3⟩ := hr
      exact runOps_ok hN hcall h3 (ha.put (undef_rel ι) h2) hw hQ

/-- A region that asks the tape. -/
def DrawOK (P : Program) (call : CallF) (nt : Nat) (ops : Array Oper) : Prop :=
  ∀ {Q : Exit → Act → World → Prop} {ι : Inj} {ds : List Deferred} {e e' : Env} {a : Act} {h h' : Hp} {w : World},
    runDraw call (Nat.succ ops.toList.length) ⟨e, h, (nat_lit 0), [], annot P nt ops⟩ = some (e', h') → AR ι nt ds e a → WR ι h w →
    (∀ κ a' w', AR κ nt ds e' a' → WR κ h' w' → Fr ι h w κ h' w' → Q .normal a' w') → wpAny P .any ops Q ops.size (Array.replicate ops.size false) a w

/-- Every region that asks the tape, of a code. -/
def AllDraw (p : Array Oper → Prop) : Code → Prop
  | .region _ ops d => d = true → p ops
  | .seq a b => AllDraw p a ∧ AllDraw p b
  | .cond _ a b => AllDraw p a ∧ AllDraw p b
  | .block _ b => AllDraw p b
  | .loop b => AllDraw p b
  | .scope b => AllDraw p b
  | _ => True

def exOf : Ex → Exit
  | .normal => .normal
  | .exit id => .exit id
  | .ret => .ret

theorem onNormal_eq {r : Out} {k : Env → Hp → Out} {o : O3} (h : onNormal r k = some o) : ∃ o1, r = some o1 ∧ ((o1.x = .normal ∧ k o1.e o1.h = some o) ∨ (o1.x ≠ .normal ∧ o = o1)) := by
  unfold onNormal at h
  rw [ob_eq] at h
  obtain ⟨⟨x, e, hh⟩, h1, h2⟩ := h
  refine ⟨_, h1, ?_⟩
  cases x with
  | normal => exact .inl ⟨rfl, h2⟩
  | exit id => exact .inr ⟨by simp, by simpa using h2.symm⟩
  | ret => exact .inr ⟨by simp, by simpa using h2.symm⟩

theorem then_of {K : Act → World → Prop} {Q : Exit → Act → World → Prop} {x : Ex} (h : x ≠ .normal) {a : Act} {w : World} (hq : Q (exOf x) a w) : Exit.then K Q (exOf x) a w := by
  cases x with
  | normal => exact absurd rfl h
  | exit id => exact hq
  | ret => exact hq

theorem loopN_succ (body : Env → Hp → Out) (n : Nat) (e : Env) (h : Hp) : loopN body (n + 1) e h = onNormal (body e h) (loopN body n) := rfl

/-- The marks of the ranges over functions, among an activation's deferred calls. -/
def markOf (r : Nat) : Deferred := { target := .collected r, args := #[] }
def Marks (β : Nat) (ι : Inj) (w : World) (ds : List Deferred) : Prop :=
  β ≤ w.heap.size ∧ ∃ rs : List Nat, ds = rs.map markOf ∧ rs.Nodup ∧ ∀ r ∈ rs, w.heap[r]? = some (.deferred (some [])) ∧ (∀ b p, ι b = some p → p.B ≠ r) ∧ β ≤ r
theorem Fr.free {ι κ : Inj} {h h' : Hp} {w w' : World} (f : Fr ι h w κ h' w') {r : Nat} (hr : r < w.heap.size) (hi : ∀ b p, ι b = some p → p.B ≠ r) : w'.heap[r]? = w.heap[r]? ∧ ∀ b p, κ b = some p → p.B ≠ r := by
  refine ⟨f.out r hr hi, fun b p hb he => ?_⟩
  cases hb' : ι b with
  | some q =>
    have := f.ext b q hb'
    rw [this, Option.some.injEq] at hb; subst hb
    exact hi b q hb' he
  | none =>
    rcases f.fresh b p hb hb' with h1 | ⟨c, q, h1, h2⟩
    · omega
    · exact hi c q h1 (h2.trans he)
theorem Marks.fr {β : Nat} {ι κ : Inj} {h h' : Hp} {w w' : World} {ds : List Deferred} (m : Marks β ι w ds) (f : Fr ι h w κ h' w') : Marks β κ w' ds := by
  obtain ⟨h0, rs, h1, h2, h3⟩ := m
  refine ⟨Nat.le_trans h0 f.size, rs, h1, h2, fun r hr => ?_⟩
  obtain ⟨h4, h5, h8⟩ := h3 r hr
  obtain ⟨h6, h7⟩ := f.free (Array.getElem?_eq_some_iff.1 h4).1 h5
  exact ⟨h6.trans h4, h7, h8⟩
theorem Marks.nil (ι : Inj) (w : World) : Marks w.heap.size ι w [] := ⟨Nat.le_refl _, [], rfl, List.nodup_nil, fun _ h => by cases h⟩

/-- A block that the own heap knows nothing of. -/
theorem WR.other {ι : Inj} {h : Hp} {w w' : World} (hw : WR ι h w) (hsz : w.heap.size ≤ w'.heap.size) (hsame : ∀ b p, ι b = some p → w'.heap[p.B]? = w.heap[p.B]?) : WR ι h w' :=
  ⟨fun b p hb => ⟨(hw.lt b p hb).1, Nat.lt_of_lt_of_le (hw.lt b p hb).2 hsz⟩, fun b p K hb hK => (hw.blk b p K hb hK).world (hsame b p hb), hw.sep⟩

/-- A range over a function that calls its yield never. -/
theorem wp_rangeFunc_none {P : Program} (hN : NotGo P) {β : Nat} {nt : Nat} {Q : Exit → Act → World → Prop} {ι : Inj} {ds : List Deferred} {e : Env} {a : Act} {h h' : Hp} {w : World} (g : Operand) (ps : Array Tmp) (assign body : Code)
    {f : FuncId} {l' c' : List Value} (hX : a.eval g = .func (.func f) ⟨l'⟩ ⟨c'⟩) {fn : Func} (h5 : P.funcs[f]? = some fn) (h6 : fn.body.isSome = true)
    (ha : AR ι nt ds e a) (hms : Marks β ι w ds) (hw : WR ι h w)
    (hcall : ∀ w2, WR ι h w2 → ∀ l : Nat, Calls P f ⟨l' ++ [.func (.yield l) #[] #[]] ++ c'⟩ w2 fun e w' => ∃ v' κ, e = .returned v' ∧ (∃ v, VR κ v v') ∧ WR κ h' w' ∧ Fr ι h w2 κ h' w')
    (hQ : ∀ κ ds' a' w', AR κ nt ds' e a' → Marks β κ w' ds' → WR κ h' w' → Fr ι h w κ h' w' → Q .normal a' w') : (Code.rangeFunc g ps assign body).wp P Q a w := by
  intro b k cs
  let rec0 : Loop := { state := .ready, pending := none, fn := b.fn, tmps := a.tmps, params := ps, assign, body, defers := w.heap.size }
  let w1 : World := (w.alloc (.deferred (some []))).alloc (.loop rec0)
  have hs1 : w1.heap.size = w.heap.size + 2 := by simp [w1]
  have hold : ∀ B, B < w.heap.size → w1.heap[B]? = w.heap[B]? := fun B hB => by
    show ((w.heap.push _).push _)[B]? = _
    rw [Array.getElem?_push, if_neg (by simp; omega), Array.getElem?_push, if_neg (by omega)]
  have hmark : w1.heap[w.heap.size]? = some (.deferred (some [])) := by
    show ((w.heap.push _).push _)[w.heap.size]? = _
    rw [Array.getElem?_push, if_neg (by simp)]; simp
  have hloop : w1.heap[w.heap.size + 1]? = some (.loop rec0) := by
    show ((w.heap.push _).push _)[w.heap.size + 1]? = _
    rw [Array.getElem?_push, if_pos (by simp)]
  have hw1 : WR ι h w1 := hw.other (by omega) fun c p hc => hold p.B (hw.lt c p hc).2
  have hfr1 : Fr ι h w ι h w1 :=
    ⟨Ext.refl ι, Nat.le_refl _, fun b _ hb => ⟨hb, .of_eq rfl⟩, by omega, fun B hB _ => hold B hB, fun c p h1 h2 => (by rw [h2] at h1; cases h1), rfl, rfl, rfl⟩
  have h0 : ({ b with roundOf := none } : Frame).roundOf = none := rfl
  have hbat : ∀ a k, ({ b with roundOf := none } : Frame).atR a k = b.at a k := fun a k => by simp [Frame.atR, Frame.at]
  have henter : step P (lone (b.at a (.code (.rangeFunc g ps assign body) :: k)) cs w) =
      .next (lone (Frame.enter P f ⟨l' ++ [.func (.yield (w.heap.size + 1)) #[] #[]] ++ c'⟩ .normal) (b.at { a with defers := markOf w.heap.size :: a.defers } (.inRangeFunc (w.heap.size + 1) :: k) :: cs) w1) := by
    have he := run_enterLoop_outer (P := P) (w := w) b.fn a.tmps ps assign body
    have hcf : (callFunc f (⟨l' ++ [.func (.yield (w.heap.size + 1)) #[] #[]] ++ c'⟩)).run P w1 = .ok (.enter f ⟨l' ++ [.func (.yield (w.heap.size + 1)) #[] #[]] ++ c'⟩) w1 := by
      unfold callFunc
      simp only [Sem.run_bind, run_program, Result.andThen_ok, h5, hN _ _ h5]
      cases hb : fn.body with
      | none => rw [hb] at h6; cases h6
      | some b => simp [hb]
    have e1 : ((⟨l'⟩ : Array Value) ++ #[.func (.yield (w.heap.size + 1)) #[] #[]] ++ ⟨c'⟩) = ⟨l' ++ [.func (.yield (w.heap.size + 1)) #[] #[]] ++ c'⟩ := Array.ext' (by simp)
    have hres : (resolve a.eval (rangeCall g (w.heap.size + 1)) 0).run P w1 = .ok { target := .fn (.func f) ⟨c'⟩, args := (⟨l'⟩ : Array Value) ++ #[.func (.yield (w.heap.size + 1)) #[] #[]] } w1 := by
      have : (rangeCall g (w.heap.size + 1)).args.map a.eval = #[.func (.yield (w.heap.size + 1)) #[] #[]] := by
        show Array.map a.eval #[.const (.func (.yield (w.heap.size + 1)) #[] #[])] = _
        simp [Act.eval]
      simp only [resolve, this, hX, Deferred.ofValue]
      rfl
    have hinv : (invoke (.fn (.func f) ⟨c'⟩) ((⟨l'⟩ : Array Value) ++ #[.func (.yield (w.heap.size + 1)) #[] #[]])).run P w1 = .ok (.enter f ⟨l' ++ [.func (.yield (w.heap.size + 1)) #[] #[]] ++ c'⟩) w1 := by
      simp only [invoke, e1]; exact hcf
    have := stepR_rangeFunc (P := P) (b := { b with roundOf := none }) (a := a) (k := k) (cs := cs) (w := w) (g := g) (ps := ps) (assign := assign) (body := body) he hres hinv
    rw [hbat, hbat] at this
    exact this
  obtain ⟨en, w3, fr, ⟨v', κ, rfl, hv, hw3, hfr3⟩, hsteps, hfn, hleave⟩ := hcall w1 hw1 (w.heap.size + 1) (b.at { a with defers := markOf w.heap.size :: a.defers } (.inRangeFunc (w.heap.size + 1) :: k) :: cs)
  have himg : ∀ r, w.heap.size ≤ r → ∀ c p, ι c = some p → p.B ≠ r := fun r hr c p hc => by have := (hw.lt c p hc).2; omega
  obtain ⟨hl3, hil⟩ := hfr3.free (r := w.heap.size + 1) (by omega) (himg _ (by omega))
  obtain ⟨hm3, him⟩ := hfr3.free (r := w.heap.size) (by omega) (himg _ (by omega))
  rw [hloop] at hl3
  rw [hmark] at hm3
  have hend := run_endLoop (P := P) (w := w3) hl3 (by simp [rec0])
  have hfin : step P (lone (b.at { a with defers := markOf w.heap.size :: a.defers } (.endRangeFunc (w.heap.size + 1) :: k)) cs w3) =
      .next (lone (b.at { a with defers := markOf w.heap.size :: a.defers } k) cs (w3.putObj (w.heap.size + 1) (.loop { rec0 with state := .exhausted }))) :=
    step_lone_go (by simp [stepG, stepG.exec, Frame.at, Sem.runT_eq, hend, GStep.bare_after, rec0])
  have hfinish : (b.at { a with defers := markOf w.heap.size :: a.defers } (.inRangeFunc (w.heap.size + 1) :: k)).finish v' = b.at { a with defers := markOf w.heap.size :: a.defers } (.endRangeFunc (w.heap.size + 1) :: k) := by
    simp [Frame.finish, Frame.at]
  have hback := step_leave_returned (c := b.at { a with defers := markOf w.heap.size :: a.defers } (.inRangeFunc (w.heap.size + 1) :: k)) (cs := cs) hleave
  rw [hfinish] at hback
  refine ⟨.normal, _, _, ?_, .head henter (Steps.trans hsteps (.head hback (.one hfin)))⟩
  have hput : ∀ j, j ≠ w.heap.size + 1 → (w3.putObj (w.heap.size + 1) (.loop { rec0 with state := .exhausted })).heap[j]? = w3.heap[j]? := fun j hj => World.putObj_heap_other hj
  have hfr : Fr ι h w κ h' (w3.putObj (w.heap.size + 1) (.loop { rec0 with state := .exhausted })) := by
    have f := hfr1.trans hfr3
    refine ⟨f.ext, f.next, f.unborn, by simpa using f.size, fun B hB hi => ?_, f.fresh, f.tape, f.os, f.output⟩
    rw [hput B (by omega)]; exact f.out B hB hi
  have hmsw := hms.fr hfr
  refine hQ κ (markOf w.heap.size :: ds) _ _ ⟨ha.size, fun t => (ha.rel t).mono hfr.ext, by rw [← ha.defers]⟩ ?_ (hw3.other (by simp) fun c p hc => hput p.B (hil c p hc)) hfr
  obtain ⟨m0, rs, m1, m2, m3⟩ := hms
  refine ⟨hmsw.1, w.heap.size :: rs, by rw [m1]; rfl, List.nodup_cons.2 ⟨fun hin => ?_, m2⟩, fun r hr => ?_⟩
  · have := (Array.getElem?_eq_some_iff.1 (m3 _ hin).1).1
    omega
  · rcases List.mem_cons.1 hr with rfl | hr
    · exact ⟨by rw [hput _ (by omega)]; exact hm3, him, m0⟩
    · obtain ⟨q1, q2, q5⟩ := m3 r hr
      obtain ⟨q3, q4⟩ := hfr.free (Array.getElem?_eq_some_iff.1 q1).1 q2
      exact ⟨q3.trans q1, q4, q5⟩

theorem evCode_ok {P : Program} (hN : NotGo P) (hm : P.follows .mixedOrders = true) {call : CallF} (hcall : CallOK P call) {nt β : Nat} : ∀ (c : Code), AllDraw (DrawOK P call nt) c →
    ∀ {Q : Exit → Act → World → Prop} {ι : Inj} {ds : List Deferred} {e : Env} {o : O3} {a : Act} {h : Hp} {w : World},
    evCode P call nt c e h = some o → AR ι nt ds e a → Marks β ι w ds → WR ι h w → (∀ κ ds' a' w', AR κ nt ds' o.e a' → Marks β κ w' ds' → WR κ o.h w' → Fr ι h w κ o.h w' → Q (exOf o.x) a' w') → c.wp P Q a w
  | .skip, _, Q, ι, ds, e, o, a, h, w, hr, ha, hms, hw, hQ => by
    have hr : some (⟨.normal, e, h⟩ : O3) = some o := hr
    rw [Option.some.injEq] at hr; subst hr
    exact wp_skip (hQ ι ds a w ha hms hw (Fr.refl _ _ _))
  | .label l, _, Q, ι, ds, e, o, a, h, w, hr, ha, hms, hw, hQ => by
    have hr : some (⟨.normal, e, h⟩ : O3) = some o := hr
    rw [Option.some.injEq] at hr; subst hr
    exact wp_label (hQ ι ds a w ha hms hw (Fr.refl _ _ _))
  | .exit id, _, Q, ι, ds, e, o, a, h, w, hr, ha, hms, hw, hQ => by
    have hr : some (⟨.exit id, e, h⟩ : O3) = some o := hr
    rw [Option.some.injEq] at hr; subst hr
    exact wp_exit (hQ ι ds a w ha hms hw (Fr.refl _ _ _))
  | .ret, _, Q, ι, ds, e, o, a, h, w, hr, ha, hms, hw, hQ => by
    have hr : some (⟨.ret, e, h⟩ : O3) = some o := hr
    rw [Option.some.injEq] at hr; subst hr
    exact wp_ret (hQ ι ds a w ha hms hw (Fr.refl _ _ _))
  | .goto l, _, Q, ι, ds, e, o, a, h, w, hr, ha, hms, hw, hQ => by
    have hr : (none : Out) = some o := hr
    cases hr
  | .refuse s, _, Q, ι, ds, e, o, a, h, w, hr, ha, hms, hw, hQ => by
    have hr : (none : Out) = some o := hr
    cases hr
  | .rangeFunc f ps x y, _, Q, ι, ds, e, o, a, h, w, hr, ha, hms, hw, hQ => by
    have hr : rangeK call f e h = some o := hr
    simp only [rangeK, ob_eq, Option.some.injEq] at hr
    obtain ⟨fv, h1, g, h2, p, h3, rfl⟩ := hr
    rw [func?_eq] at h2; subst h2
    have hx := ev_rel ha h1
    obtain ⟨⟨fn, h5, h6⟩, h7⟩ := hcall _ _ _ _ _ h3
    cases hX : a.eval f <;> rw [hX] at hx <;> cases hx
    rename_i l' c' h8 h9
    exact wp_rangeFunc_none hN f ps x y hX h5 h6 ha hms hw (fun w2 hw2 l => Calls.mono (h7 ι w2 _ hw2 ((h8.append (.cons (.yfn l) .nil)).append h9)) fun e w' ⟨v', κ, e1, e2, e3, e4⟩ => ⟨v', κ, e1, ⟨_, e2⟩, e3, e4⟩) fun κ ds' a' w' k1 km k2 k3 => hQ κ ds' a' w' k1 km k2 k3
  | .region id ops d, hd, Q, ι, ds, e, o, a, h, w, hr, ha, hms, hw, hQ => by
    have hr : regionK P call nt ops d e h = some o := hr
    cases d with
    | false =>
      have hr : norm (runOps P call nt ops ops.toList e h) = some o := hr
      unfold norm at hr
      rw [ob_eq] at hr
      obtain ⟨p, h1, h2⟩ := hr
      rw [Option.some.injEq] at h2; subst h2
      exact wp_region_list (runOps_ok hN hcall h1 ha hw fun κ a' w' k1 k2 k3 => hQ κ ds a' w' k1 (hms.fr k3) k2 k3)
    | true =>
      have hr : norm (runDraw call (Nat.succ ops.toList.length) ⟨e, h, (nat_lit 0), [], annot P nt ops⟩) = some o := hr
      unfold norm at hr
      rw [ob_eq] at hr
      obtain ⟨p, h1, h2⟩ := hr
      rw [Option.some.injEq] at h2; subst h2
      exact wp_region_any hm (hd rfl h1 ha hw.drew fun κ a' w' k1 k2 k3 => hQ κ ds a' w' k1 (hms.fr ((Fr.drew (ι := ι) (h := h) (w := w)).trans k3)) k2 ((Fr.drew (ι := ι) (h := h) (w := w)).trans k3))
  | .seq x y, hd, Q, ι, ds, e, o, a, h, w, hr, ha, hms, hw, hQ => by
    have hr : onNormal (evCode P call nt x e h) (evCode P call nt y) = some o := hr
    obtain ⟨o1, h1, h2⟩ := onNormal_eq hr
    refine wp_seq (evCode_ok hN hm hcall x hd.1 h1 ha hms hw fun κ ds' a' w' k1 km k2 k3 => ?_)
    rcases h2 with ⟨h2, h3⟩ | ⟨h2, rfl⟩
    · rw [h2]
      exact evCode_ok hN hm hcall y hd.2 h3 k1 km k2 fun μ ds'' a'' w'' g1 gm g2 g3 => hQ μ ds'' a'' w'' g1 gm g2 (k3.trans g3)
    · exact then_of h2 (hQ κ ds' a' w' k1 km k2 k3)
  | .cond c x y, hd, Q, ι, ds, e, o, a, h, w, hr, ha, hms, hw, hQ => by
    have hr : condK c (evCode P call nt x) (evCode P call nt y) e h = some o := hr
    simp only [condK, ob_eq] at hr
    obtain ⟨v, h1, t, h2, h3⟩ := hr
    rw [bool?_eq] at h2; subst h2
    have hc := ev_rel ha h1
    have hc' : a.eval c = .bool t := by
      generalize a.eval c = C at hc
      cases hc; rfl
    refine wp_cond hc' ?_
    cases t with
    | true => exact evCode_ok hN hm hcall x hd.1 h3 ha hms hw hQ
    | false => exact evCode_ok hN hm hcall y hd.2 h3 ha hms hw hQ
  | .block id b, hd, Q, ι, ds, e, o, a, h, w, hr, ha, hms, hw, hQ => by
    have hr : blockK id (evCode P call nt b e h) = some o := hr
    unfold blockK at hr
    rw [ob_eq] at hr
    obtain ⟨⟨x, e1, h1⟩, h2, h3⟩ := hr
    refine wp_block (evCode_ok hN hm hcall b hd h2 ha hms hw fun κ ds' a' w' k1 km k2 k3 => ?_)
    cases x with
    | normal => simp only [Option.some.injEq] at h3; subst h3; exact hQ κ ds' a' w' k1 km k2 k3
    | ret => simp only [Option.some.injEq] at h3; subst h3; exact hQ κ ds' a' w' k1 km k2 k3
    | exit id' =>
      have h3 : bi (Nat.beq id' id) (some (⟨.normal, e1, h1⟩ : O3)) (some ⟨.exit id', e1, h1⟩) = some o := h3
      rw [bi_if] at h3
      show (if id' = id then Q .normal a' w' else Q (.exit id') a' w')
      by_cases hid : id' = id
      · rw [if_pos (nbeq_t.2 hid), Option.some.injEq] at h3; subst h3
        rw [if_pos hid]; exact hQ κ ds' a' w' k1 km k2 k3
      · rw [if_neg (fun x => hid (nbeq_t.1 x)), Option.some.injEq] at h3; subst h3
        rw [if_neg hid]; exact hQ κ ds' a' w' k1 km k2 k3
  | .scope b, hd, Q, ι, ds, e, o, a, h, w, hr, ha, hms, hw, hQ => by
    have hr : evCode P call nt b e h = some o := hr
    refine wp_scope_straight (evCode_ok hN hm hcall b hd hr ha hms hw fun κ ds' a' w' k1 km k2 k3 => ?_)
    have := hQ κ ds' a' w' k1 km k2 k3
    cases hx : o.x <;> rw [hx] at this <;> exact this
  | .loop b, hd, Q, ι, ds, e, o, a, h, w, hr, ha, hms, hw, hQ => by
    have hr : loopN (evCode P call nt b) (nat_lit 1000000) e h = some o := hr
    have key : ∀ (n : Nat) {ι : Inj} {ds : List Deferred} {e : Env} {a : Act} {h : Hp} {w : World}, loopN (evCode P call nt b) n e h = some o → AR ι nt ds e a → Marks β ι w ds → WR ι h w →
        (∀ κ ds' a' w', AR κ nt ds' o.e a' → Marks β κ w' ds' → WR κ o.h w' → Fr ι h w κ o.h w' → Q (exOf o.x) a' w') → Code.rounds P b Q n a w := by
      intro n
      induction n with
      | zero => intro ι ds e a h w hr _ _ _ _; have hr : (none : Out) = some o := hr; cases hr
      | succ n ih =>
        intro ι ds e a h w hr ha hms hw hQ
        rw [loopN_succ] at hr
        obtain ⟨o1, h1, h2⟩ := onNormal_eq hr
        rw [rounds_succ]
        refine evCode_ok hN hm hcall b hd h1 ha hms hw fun κ ds' a' w' k1 km k2 k3 => ?_
        rcases h2 with ⟨h2, h3⟩ | ⟨h2, rfl⟩
        · rw [h2]
          exact ih h3 k1 km k2 fun μ ds'' a'' w'' g1 gm g2 g3 => hQ μ ds'' a'' w'' g1 gm g2 (k3.trans g3)
        · exact then_of h2 (hQ κ ds' a' w' k1 km k2 k3)
    exact wp_loop_rounds _ (key _ hr ha hms hw hQ)

/-! ### functions -/
theorem args0_nil (i : Nat) (e : Env) : args0 [] i e = e := rfl
theorem args0_cons (v : AV) (l : List AV) (i : Nat) (e : Env) : args0 (v :: l) i e = args0 l (i + 1) (e.set i v) := rfl
theorem get_args0 : ∀ (l : List AV) (off : Nat) (t : Env) (k : Nat), (args0 l off t).get k = if off ≤ k ∧ k < off + l.length then l[k - off]? else t.get k
  | [], off, t, k => by rw [args0_nil, if_neg (by simp)]
  | v :: l, off, t, k => by
    rw [args0_cons, get_args0 l, Tri.get_set]
    by_cases h : k = off
    · subst h; rw [if_neg (by omega), if_pos rfl, if_pos (by simp)]; simp
    · by_cases h2 : off ≤ k ∧ k < off + (v :: l).length
      · rw [if_pos h2, if_pos (by simp only [List.length_cons] at h2; omega)]
        have : k - off = (k - (off + 1)) + 1 := by omega
        rw [this, List.getElem?_cons_succ]
      · rw [if_neg h2, if_neg (by simp only [List.length_cons] at h2; omega), if_neg h]

theorem AR.enter {ι : Inj} {args : List AV} {args' : List Value} (h : VRs ι args args') {nt : Nat} (hn : args.length ≤ nt) :
    AR ι nt [] (args0 args (nat_lit 0) .leaf) { tmps := (⟨args'⟩ : Array Value) ++ Array.replicate (nt - (⟨args'⟩ : Array Value).size) Go.undef, defers := [] } := by
  have hl := h.length
  refine ⟨by simp; omega, fun t => ?_, rfl⟩
  rw [get_args0]
  rw [Array.getD_eq_getD_getElem?]
  show VR ι ((if 0 ≤ t ∧ t < 0 + args.length then args[t - 0]? else Tri.leaf.get t).getD undef) _
  by_cases ht : t < args.length
  · rw [if_pos (by omega), Nat.sub_zero]
    obtain ⟨v', h1, h2⟩ := h.get (i := t) (v := args[t]) (by simp [ht])
    rw [Array.getElem?_append_left (by simp; omega)]
    rw [List.getElem?_toArray, h1, List.getElem?_eq_getElem ht]
    exact h2
  · rw [if_neg (by omega), Tri.get_leaf, Array.getElem?_append_right (by simp; omega)]
    have : ((Array.replicate (nt - (⟨args'⟩ : Array Value).size) Go.undef)[t - (⟨args'⟩ : Array Value).size]?).getD Go.undef = Go.undef := by
      rw [Array.getElem?_replicate]; split <;> rfl
    rw [this]
    exact undef_rel ι

theorem resAll_nil (P : Program) (e : Env) (h : Hp) : resAll P [] e h = some [] := rfl
theorem resAll_cons (P : Program) (r : ResultVar) (l : List ResultVar) (e : Env) (h : Hp) : resAll P (r :: l) e h = ob (resA P r e h) fun v => ob (resAll P l e h) fun vs => some (v :: vs) := rfl

theorem resAll_rel {P : Program} {ι : Inj} {nt : Nat} {ds : List Deferred} {e : Env} {a : Act} {h : Hp} {w : World} (ha : AR ι nt ds e a) (hw : WR ι h w) : ∀ {l : List ResultVar} {vs : List AV}, resAll P l e h = some vs →
    ∃ vs', (l.mapM fun | ResultVar.tmp t => (pure (a.tmps.getD t Go.undef) : Sem Value) | .cell b t => do loadVar t (← asAddr (a.tmps.getD b Go.undef))).run P w = .ok vs' w ∧ VRs ι vs vs'
  | [], vs, hr => by
    rw [resAll_nil, Option.some.injEq] at hr; subst hr
    exact ⟨[], by simp, .nil⟩
  | r :: l, vs, hr => by
    rw [resAll_cons] at hr
    simp only [ob_eq, Option.some.injEq] at hr
    obtain ⟨v, h1, rs, h2, rfl⟩ := hr
    obtain ⟨rs', h3, h4⟩ := resAll_rel ha hw h2
    cases r with
    | tmp t =>
      have h1 : evTmp t e = some v := h1
      rw [evTmp_eq, Option.some.injEq] at h1; subst h1
      refine ⟨a.tmps.getD t Go.undef :: rs', ?_, .cons (ha.rel t) h4⟩
      simp only [List.mapM_cons, Sem.run_bind, Sem.run_pure, Result.andThen_ok, h3]
    | cell b t =>
      have h1 : (ob (aggT P t) fun g => ob (sizeT P t) fun n => ob (evTmp b e) fun v => ob v.ptr? fun p => rdLoad h p.1 p.2 n g) = some v := h1
      simp only [ob_eq] at h1
      obtain ⟨g, g1, n, g2, bv, g3, p, g4, g5⟩ := h1
      rw [evTmp_eq, Option.some.injEq] at g3; subst g3
      rw [ptr?_eq] at g4
      have hb := ha.rel b
      rw [g4] at hb
      cases hB : a.tmps.getD b Go.undef <;> rw [hB] at hb <;> cases hb
      rename_i q hq
      obtain ⟨v', k1, k2⟩ := rdLoad_rel (P := P) hw g5 g1 g2 hq
      refine ⟨v' :: rs', ?_, .cons k2 h4⟩
      have k3 : (loadVar t ⟨q.B, q.O + p.2, none⟩).run P w = .ok v' w := k1
      have hA : (asAddr (a.tmps.getD b Go.undef)).run P w = .ok ⟨q.B, q.O + p.2, none⟩ w := by rw [hB]; rfl
      simp only [List.mapM_cons, Sem.run_bind, hA, Sem.run_pure, Result.andThen_ok, k3, h3]

theorem results_rel {P : Program} {ι : Inj} {nt : Nat} {ds : List Deferred} {e : Env} {a : Act} {h : Hp} {w : World} (ha : AR ι nt ds e a) (hw : WR ι h w) (fn : Func) {vs : List AV} (hr : resAll P fn.results.toList e h = some vs) :
    ∃ v', (results fn a.tmps).run P w = .ok v' w ∧ VR ι (tupOf vs) v' := by
  obtain ⟨vs', h1, h2⟩ := resAll_rel (P := P) ha hw hr
  refine ⟨if hs : (⟨vs'⟩ : Array Value).size = 1 then (⟨vs'⟩ : Array Value)[0] else .tuple ⟨vs'⟩, ?_, ?_⟩
  · unfold results
    rw [Array.mapM_eq_mapM_toList]
    simp only [Sem.run_bind, Sem.run_map]
    erw [h1]
    rfl
  · cases h2 with
    | nil => exact .tup .nil
    | cons g1 g2 =>
      cases g2 with
      | nil => exact g1
      | cons g2 g3 =>
        rw [dif_neg (by simp)]
        exact .tup (.cons g1 (.cons g2 g3))

/-- The marks are taken, one after another. -/
theorem leaves_marks {P : Program} : ∀ (rs : List Nat) (w : World) (fr : Frame) (cs : List Frame), fr.mode = .returning → fr.defers = rs.map markOf → rs.Nodup → (∀ r ∈ rs, w.heap[r]? = some (.deferred (some []))) →
    ∃ w', Steps P (lone fr cs w) (lone { fr with defers := [] } cs w') ∧ (∀ k, k ∉ rs → w'.heap[k]? = w.heap[k]?) ∧ w'.heap.size = w.heap.size ∧ w'.tape = w.tape ∧ w'.os = w.os ∧ w'.output = w.output
  | [], w, fr, cs, hm, hd, _, _ => by
    refine ⟨w, ?_, fun _ _ => rfl, rfl, rfl, rfl, rfl⟩
    have : ({ fr with defers := [] } : Frame) = fr := by cases fr; simp at hd; simp [hd]
    rw [this]
    exact Steps.refl P _
  | r :: rs, w, fr, cs, hm, hd, hn, hr => by
    have hk := run_takeDeferred (P := P) (w := w) (hr r List.mem_cons_self)
    have h1 := step_collected (P := P) (fr := fr) (cs := cs) (w := w) (d := markOf r) (r := r) (ds := rs.map markOf) (calls := []) (by rw [hm]; simp) (by rw [hd]; rfl) rfl hk
    rw [List.nodup_cons] at hn
    have hlt : r < w.heap.size := (Array.getElem?_eq_some_iff.1 (hr r List.mem_cons_self)).1
    obtain ⟨w', h2, h3, h4, h5, h6, h7⟩ := leaves_marks rs (w.putObj r (.deferred none)) { fr with defers := [] ++ rs.map markOf } cs hm rfl hn.2 fun k hk' => by
      rw [World.putObj_heap_other (by rintro rfl; exact hn.1 hk')]
      exact hr k (List.mem_cons_of_mem _ hk')
    refine ⟨w', .head h1 h2, fun k hk' => ?_, by rw [h4]; simp, h5, h6, h7⟩
    rw [List.mem_cons, not_or] at hk'
    rw [h3 k hk'.2, World.putObj_heap_other hk'.1]

/-- A function's contract out of its body's, with such marks. -/
theorem calls_marks {P : Program} {f : FuncId} {fn : Func} {c : Code} {args : Array Value} {w : World} {R : Ending → World → Prop} (hf : P.funcs[f]? = some fn) (hb : fn.body = some c)
    (h : c.wp P (fun e a w => (e = .normal ∨ e = .ret) ∧ ∃ rs : List Nat, a.defers = rs.map markOf ∧ rs.Nodup ∧ (∀ r ∈ rs, w.heap[r]? = some (.deferred (some []))) ∧
      ∀ w', (∀ k, k ∉ rs → w'.heap[k]? = w.heap[k]?) → w'.heap.size = w.heap.size → w'.tape = w.tape → w'.os = w.os → w'.output = w.output → ∃ v, (results fn a.tmps).run P w' = .ok v w' ∧ R (.returned v) w')
      { tmps := args ++ Array.replicate (fn.ntmps - args.size) Go.undef, defers := [] } w) : Calls P f args w R := by
  intro cs
  let b : Frame := { (default : Frame) with fn := f, kind := .normal }
  have henter : Frame.enter P f args .normal = b.at { tmps := args ++ Array.replicate (fn.ntmps - args.size) Go.undef, defers := [] } [.code c] := by
    simp [Frame.enter, Frame.at, hf, hb, b]
  obtain ⟨e, a', w', ⟨he, rs, hd, hn, hr, hfin⟩, harr⟩ := h b [] cs
  rw [← henter] at harr
  have fin : ∀ todo, Steps P (lone (Frame.enter P f args .normal) cs w) (lone { b.at a' todo with mode := .returning } cs w') →
      ∃ e w' fr, R e w' ∧ Comes P (lone (Frame.enter P f args .normal) cs w) (lone fr cs w') e ∧ fr.fn = f ∧ fr.leaving P w' e := by
    intro todo hs
    obtain ⟨w'', h2, h3, h4, h5, h6, h7⟩ := leaves_marks (P := P) rs w' { b.at a' todo with mode := .returning } cs rfl hd hn hr
    obtain ⟨v, h8, h9⟩ := hfin w'' h3 h4 h5 h6 h7
    exact ⟨.returned v, w'', _, h9, Steps.trans hs h2, rfl, rfl, rfl, rfl, fn, hf, h8⟩
  rcases he with rfl | rfl
  · exact fin [] (Steps.trans harr (.one step_end))
  · obtain ⟨todo, hs⟩ := harr
    exact fin todo hs

/-- The whole: what the own heap's run says of a call holds of the program. -/
theorem evCall_ok {P : Program} (hN : NotGo P) (hm : P.follows .mixedOrders = true) (hd : ∀ (f : Nat) (fn : Func) (c : Code), P.funcs[f]? = some fn → fn.body = some c → ∀ call, CallOK P call → AllDraw (DrawOK P call fn.ntmps) c)
    {K : CallF} (hK : CallOK P K) : ∀ n, CallOK P (evCall P K n)
  | 0 => by intro f args h v h' hc; have hc : (none : Option (AV × Hp)) = some (v, h') := hc; cases hc
  | n + 1 => by
    intro f args h v h' hc
    have ih := evCall_ok hN hm hd hK n
    have hc : @Option.rec (AV × Hp) (fun _ => Option (AV × Hp)) (ob (P.funcs[f]?) fun fn => enterF P (evCall P K n) fn args h) some (K f args h) = some (v, h') := hc
    cases hk : K f args h with
    | some r =>
      rw [hk] at hc
      have hc : some r = some (v, h') := hc
      rw [Option.some.injEq] at hc; subst hc
      exact hK f args h v h' hk
    | none =>
      rw [hk] at hc
      have hc : (ob (P.funcs[f]?) fun fn => enterF P (evCall P K n) fn args h) = some (v, h') := hc
      rw [ob_eq] at hc
      obtain ⟨fn, h1, h2⟩ := hc
      simp only [enterF, ob_eq, bi_none, nble_t, len_eq] at h2
      obtain ⟨c, h3, h4, o, h5, h6⟩ := h2
      refine ⟨⟨fn, h1, by rw [h3]; rfl⟩, fun ι w args' hw hargs => ?_⟩
      refine calls_marks h1 h3 (evCode_ok hN hm ih c (hd f fn c h1 h3 _ ih) h5 (AR.enter hargs h4) (Marks.nil ι w) hw fun κ ds' a' w' k1 km k2 k3 => ?_)
      obtain ⟨x, e1, hh⟩ := o
      obtain ⟨_, rs, m1, m2, m3⟩ := km
      have fin : ∀ (l : List AV), resAll P fn.results.toList e1 hh = some l → ∀ w'' : World, (∀ k, k ∉ rs → w''.heap[k]? = w'.heap[k]?) → w''.heap.size = w'.heap.size → w''.tape = w'.tape → w''.os = w'.os → w''.output = w'.output →
          ∃ v, (results fn a'.tmps).run P w'' = .ok v w'' ∧ ∃ v' κ, Ending.returned v = .returned v' ∧ VR κ (tupOf l) v' ∧ WR κ hh w'' ∧ Fr ι h w κ hh w'' := by
        intro l hl w'' q1 q2 q3 q4 q5
        have himg : ∀ c p, κ c = some p → w''.heap[p.B]? = w'.heap[p.B]? := fun c p hc => q1 p.B fun hin => (m3 _ hin).2.1 c p hc rfl
        have hw'' : WR κ hh w'' := k2.other (by omega) himg
        obtain ⟨v', g1, g2⟩ := results_rel k1 hw'' fn hl
        refine ⟨v', g1, v', κ, rfl, g2, hw'', ⟨k3.ext, k3.next, k3.unborn, by rw [q2]; exact k3.size, fun B hB hi => ?_, k3.fresh, q3.trans k3.tape, q4.trans k3.os, q5.trans k3.output⟩⟩
        by_cases hin : B ∈ rs
        · have := (m3 B hin).2.2; omega
        · rw [q1 B hin]; exact k3.out B hB hi
      have hb : ∀ r ∈ rs, w'.heap[r]? = some (.deferred (some [])) := fun r hr => (m3 r hr).1
      cases x with
      | exit id => have h6 : (none : Option (AV × Hp)) = some (v, h') := h6; cases h6
      | normal =>
        have h6 : (ob (resAll P fn.results.toList e1 hh) fun l => some (tupOf l, hh)) = some (v, h') := h6
        simp only [ob_eq, Option.some.injEq, Prod.mk.injEq] at h6
        obtain ⟨l, h7, rfl, rfl⟩ := h6
        exact ⟨.inl rfl, rs, by rw [k1.defers, m1], m2, hb, fin l h7⟩
      | ret =>
        have h6 : (ob (resAll P fn.results.toList e1 hh) fun l => some (tupOf l, hh)) = some (v, h') := h6
        simp only [ob_eq, Option.some.injEq, Prod.mk.injEq] at h6
        obtain ⟨l, h7, rfl, rfl⟩ := h6
        exact ⟨.inr rfl, rs, by rw [k1.defers, m1], m2, hb, fin l h7⟩
end Go.Ev
