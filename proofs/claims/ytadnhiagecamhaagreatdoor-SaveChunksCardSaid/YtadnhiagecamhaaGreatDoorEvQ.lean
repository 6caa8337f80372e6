/- A part of an evaluator of the model's calls and of the proof that it tells the truth. Conditions: those that the theorems name. -/
import Derived.Test.YtadnhiagecamhaaGreatDoorEvO
namespace Go.Ev
open Go.RowKit
set_option linter.unusedVariables false
set_option linter.unusedSimpArgs false

section
variable {P : Program} {nt : Nat} {ops : Array Oper} {A : Nat → Nat} {e0 : Env} {ι0 : Inj} {h0 : Hp} {w0 : World} {ds : List Deferred}

theorem Pend.wait {x : Ann} {l : List Ann} {s : PS} (h : Pend P nt ops A (x :: l) s) : Pend P nt ops A l (s.wait x) := by
  have hmem : ∀ y, y ∈ l ++ (x :: s.pend) ↔ y ∈ (x :: l) ++ s.pend := fun y => by simp only [List.mem_append, List.mem_cons]; exact ⟨fun h => by rcases h with h | h | h <;> simp [h], fun h => by rcases h with (h | h) | h <;> simp [h]⟩
  refine ⟨fun y hy => h.mem y ((hmem y).1 hy), fun i o ho hi => ?_, ?_⟩
  · obtain ⟨y, hy, e⟩ := h.all i o ho hi
    exact ⟨y, (hmem y).2 hy, e⟩
  · have hp : ((l ++ (x :: s.pend)).map (·.i)).Perm (((x :: l) ++ s.pend).map (·.i)) := (List.perm_middle).map _
    exact hp.nodup_iff.2 h.nodup

theorem Pend.done {x : Ann} {l : List Ann} {s s' : PS} (h : Pend P nt ops A (x :: l) s) (hd : s'.d = Nat.lor s.d (bit x.i)) (hp : s'.pend = s.pend) : Pend P nt ops A l s' := by
  have hn : x.i ∉ (l ++ s.pend).map (·.i) ∧ ((l ++ s.pend).map (·.i)).Nodup := by
    have := h.nodup
    rw [List.cons_append, List.map_cons, List.nodup_cons] at this
    exact this
  refine ⟨fun y hy => ?_, fun i o ho hi => ?_, by rw [hp]; exact hn.2⟩
  · rw [hp] at hy
    obtain ⟨o, h1, h2, h3⟩ := h.mem y (by rw [List.cons_append]; exact List.mem_cons_of_mem _ hy)
    refine ⟨o, h1, h2, ?_⟩
    rw [hd, lor_bit, h3, Bool.false_or, decide_eq_false_iff_not]
    intro e
    exact hn.1 (List.mem_map.2 ⟨y, hy, e.symm⟩)
  · rw [hd, lor_bit, Bool.or_eq_false_iff] at hi
    obtain ⟨y, hy, e⟩ := h.all i o ho hi.1
    refine ⟨y, ?_, e⟩
    rw [hp]
    rw [List.cons_append, List.mem_cons] at hy
    rcases hy with rfl | hy
    · have := hi.2; rw [e] at this; simp at this
    · exact hy

/-- The slots as the own heap's run has them are what the operation sees. -/
theorem seen_here (hO : Ord ops A) {val val' : Nat → AV} {i : Nat} {o : Oper} (ho : ops[i]? = some o) {e e' : Env} {D : Nat → Bool} (hD : Closed A D) (hi : D i = false) (hA : ∀ j, (A i).testBit j = true → D j = true)
    (he : ∀ t, e.get t = (envL e0 (dstOf ops) val D ops.size).get t) (hv : ∀ j, (A i).testBit j = true → val j = val' j) (hs : Seen ops A e0 val' i o e') : ∀ t ∈ o.looksAt ops, e'.get t = e.get t := fun t ht => by
  rw [hs t ht, he t, seen_env hO ho hD hi hA e0 val _ ht]
  exact envL_val (fun j hj => (hv j hj).symm) _ _

theorem pOne_ok (hO : Ord ops A) {s s' : PS} {x : Ann} {l : List Ann} {val : Nat → AV} {idOf : Nat → Option Nat} {ι : Inj} {L : Array Bool} {a : Act} {w : World} (hr : pOne x s = some s')
    (hp : Pend P nt ops A (x :: l) s) (hD : DI P nt ops A e0 ι0 h0 w0 ds s val idOf ι L a w) : ∃ val' idOf', DI P nt ops A e0 ι0 h0 w0 ds s' val' idOf' ι L a w ∧ Pend P nt ops A l s' := by
  obtain ⟨o, ho, hx, hi⟩ := hp.mem x (by simp)
  have hwait : DI P nt ops A e0 ι0 h0 w0 ds (s.wait x) val idOf ι L a w :=
    ⟨hD.sz, hD.lcl, hD.dcl, hD.dlt, hD.sub, hD.cenv, hD.aenv, hD.wr, hD.fr, hD.will, hD.idd, hD.inj⟩
  unfold pOne at hr
  rw [bi_if] at hr
  by_cases hsub : subset x.anc s.d = true
  case neg =>
    rw [if_neg hsub, Option.some.injEq] at hr; subst hr
    exact ⟨val, idOf, hwait, hp.wait⟩
  rw [if_pos hsub, bi_if] at hr
  have hanc : x.anc = A x.i := by rw [hx]; rfl
  have hA : ∀ j, (A x.i).testBit j = true → s.d.testBit j = true := fun j hj => subset_eq hsub j (by rw [hanc]; exact hj)
  have hxput : x.put = putO nt o.dst := by rw [hx]; rfl
  have hxco : x.co = comp P o.op := by rw [hx]; rfl
  have hxw : x.want = wantedA ops o.guard := by rw [hx]; rfl
  have hidn : idOf x.i = none := by
    cases hid : idOf x.i with
    | none => rfl
    | some y => have := (hD.idd _ _ hid).1; rw [hi] at this; cases this
  -- what it sees, whatever the value that it leaves
  have hseen : ∀ (v : AV) (e' : Env), Seen ops A e0 (updV val x.i v) x.i o e' → ∀ t ∈ o.looksAt ops, e'.get t = s.e.get t := fun v e' hs =>
    seen_here hO ho hD.dcl hi hA hD.cenv (fun j hj => (updV_ne val v (by rintro rfl; have := hA _ hj; rw [hi] at this; cases this)).symm) hs
  by_cases hwant : x.want s.e = true
  case neg =>
    rw [if_neg hwant] at hr
    simp only [pSkip, ob_eq, Option.some.injEq] at hr
    obtain ⟨e1, h1, rfl⟩ := hr
    rw [hxput] at h1
    rw [hxw] at hwant
    refine ⟨updV val x.i undef, idOf, ?_, hp.done rfl rfl⟩
    refine hD.more hO ho hi hA (s' := s.done x e1) h1 rfl hD.wr hD.fr (Nat.le_refl _) (fun _ _ => rfl) (fun _ h => h) (fun _ _ => rfl) (fun y hy => by rw [hidn] at hy; cases hy) ⟨(putO_get h1).1, .inl ⟨fun e' hs => ?_, updV_same _ _ _⟩⟩
    rw [want_looks (hseen _ e' hs)]
    exact Bool.eq_false_iff.2 hwant
  rw [if_pos hwant] at hr
  rw [hxw] at hwant
  have hw' : ∀ v e', Seen ops A e0 (updV val x.i v) x.i o e' → wantedA ops o.guard e' = true := fun v e' hs => by rw [want_looks (hseen v e' hs)]; exact hwant
  unfold pDo at hr
  rw [hxco] at hr
  rcases comp_cases P o.op with hc | hc | hc | hc
  · rw [hc] at hr
    have hr : (ob (evP P o.op s.e) fun v => ob (x.put v s.e) fun e => some (s.done x e)) = some s' := hr
    simp only [ob_eq, Option.some.injEq] at hr
    obtain ⟨v, h1, e1, h2, rfl⟩ := hr
    rw [hxput] at h2
    refine ⟨updV val x.i v, idOf, ?_, hp.done rfl rfl⟩
    refine hD.more hO ho hi hA (s' := s.done x e1) h2 rfl hD.wr hD.fr (Nat.le_refl _) (fun _ _ => rfl) (fun _ h => h) (fun _ _ => rfl) (fun y hy => by rw [hidn] at hy; cases hy) ⟨(putO_get h2).1, .inr ⟨hw' v, .inl ⟨hc, fun e' hs => ?_⟩⟩⟩
    rw [evP_congr (ev_looks (hseen v e' hs)), updV_same]
    exact h1
  · rw [hc] at hr
    have hr : (ob (evR P o.op s.e) fun rd => ob (rd.run s.h) fun v => ob (x.put v s.e) fun e => some (⟨e, s.h, Nat.lor s.d (bit x.i), ⟨x.i, rd, v⟩ :: s.lv, s.pend⟩ : PS)) = some s' := hr
    simp only [ob_eq, Option.some.injEq] at hr
    obtain ⟨rd, h1, v, h2, e1, h3, rfl⟩ := hr
    rw [hxput] at h3
    refine ⟨updV val x.i v, idOf, ?_, hp.done rfl rfl⟩
    refine hD.more hO ho hi hA (s' := ⟨e1, s.h, Nat.lor s.d (bit x.i), ⟨x.i, rd, v⟩ :: s.lv, s.pend⟩) h3 rfl hD.wr hD.fr (Nat.le_refl _) (fun _ _ => rfl) (fun _ h => List.mem_cons_of_mem _ h) (fun _ _ => rfl) (fun y hy => by rw [hidn] at hy; cases hy)
      ⟨(putO_get h3).1, .inr ⟨hw' v, .inr (.inl ⟨rd, hc, fun e' hs => ?_, ⟨x.i, rd, v⟩, by simp, rfl, rfl, (updV_same _ _ _).symm⟩)⟩⟩
    rw [evR_congr (ev_looks (hseen v e' hs))]
    exact h1
  · rw [hc] at hr
    have hr : (ob (evA P o.op s.e) fun m => ob (x.put (m.val s.h.next) s.e) fun e => some (⟨e, s.h.add m.blk, Nat.lor s.d (bit x.i), s.lv, s.pend⟩ : PS)) = some s' := hr
    simp only [ob_eq, Option.some.injEq] at hr
    obtain ⟨m, h1, e1, h2, rfl⟩ := hr
    rw [hxput] at h2
    have hn : ι s.h.next = none := hD.wr.fresh (Nat.le_refl _)
    have hh : ∀ b, b < s.h.next → (s.h.add m.blk).m.get b = s.h.m.get b := fun b hb => by rw [add_get, if_neg (Nat.ne_of_lt hb)]
    refine ⟨updV val x.i (m.val s.h.next), fun j => if j = x.i then some s.h.next else idOf j, ?_, hp.done rfl rfl⟩
    refine hD.more hO ho hi hA (s' := ⟨e1, s.h.add m.blk, Nat.lor s.d (bit x.i), s.lv, s.pend⟩) h2 rfl (hD.wr.add _) ?_ (Nat.le_succ _) hh (fun _ h => h) (fun j hj => if_neg hj) (fun y hy => ?_)
      ⟨(putO_get h2).1, .inr ⟨hw' _, .inr (.inr ⟨m, s.h.next, hc, fun e' hs => ?_, if_pos rfl, updV_same _ _ _, Nat.lt_succ_self _, hD.fr.next, ?_, hn⟩)⟩⟩
    · have hf := hD.fr
      exact ⟨hf.ext, Nat.le_succ_of_le hf.next, fun b hb hb' => ⟨(hf.unborn b hb hb').1, (hf.unborn b hb hb').2.trans (.of_eq (hh b (Nat.lt_of_lt_of_le hb hf.next)))⟩, hf.size, hf.out, hf.fresh, hf.tape, hf.os, hf.output⟩
    · simp only [if_pos] at hy
      rw [Option.some.injEq] at hy; subst hy
      exact ⟨Nat.le_refl _, Nat.lt_succ_self _⟩
    · rw [evA_congr (ev_looks (hseen _ e' hs))]
      exact h1
    · exact .of_eq (by show (s.h.add m.blk).m.get s.h.next = _; rw [add_get, if_pos rfl])
  · rw [hc] at hr
    have hr : some (s.wait x) = some s' := hr
    rw [Option.some.injEq] at hr; subst hr
    exact ⟨val, idOf, hwait, hp.wait⟩

theorem pass_ok (hO : Ord ops A) {ι : Inj} {L : Array Bool} {a : Act} {w : World} : ∀ {l : List Ann} {s s' : PS} {val : Nat → AV} {idOf : Nat → Option Nat}, pass l s = some s' →
    Pend P nt ops A l s → DI P nt ops A e0 ι0 h0 w0 ds s val idOf ι L a w → ∃ val' idOf', DI P nt ops A e0 ι0 h0 w0 ds s' val' idOf' ι L a w ∧ Pend P nt ops A [] s'
  | [], s, s', val, idOf, hr, hp, hD => by
    have hr : some s = some s' := hr
    rw [Option.some.injEq] at hr; subst hr
    exact ⟨val, idOf, hD, hp⟩
  | x :: l, s, s', val, idOf, hr, hp, hD => by
    have hr : ob (pOne x s) (pass l) = some s' := hr
    rw [ob_eq] at hr
    obtain ⟨s1, h1, h2⟩ := hr
    obtain ⟨v1, i1, h3, h4⟩ := pOne_ok hO h1 hp hD
    exact pass_ok hO h2 h4 h3

theorem steady_spec {h : Hp} : ∀ {l : List Live}, steady h l = true → ∀ x ∈ l, x.rd.run h = some x.v
  | [], _, x, hx => by cases hx
  | y :: l, hs, x, hx => by
    have hs : bi (@Option.rec AV (fun _ => Bool) false (fun v => AV.beq v y.v) (y.rd.run h)) (steady h l) false = true := hs
    rw [bi_if] at hs
    by_cases hb : @Option.rec AV (fun _ => Bool) false (fun v => AV.beq v y.v) (y.rd.run h) = true
    · rw [if_pos hb] at hs
      rcases List.mem_cons.1 hx with rfl | hx
      · cases hr : x.rd.run h with
        | none => rw [hr] at hb; cases hb
        | some v => rw [hr] at hb; rw [AV.beq_eq hb]
      · exact steady_spec hs x hx
    · rw [if_neg hb] at hs; cases hs
theorem allAfter_spec {i : Nat} : ∀ {l : List Ann}, allAfter i l = true → ∀ x ∈ l, x.anc.testBit i = true
  | [], _, x, hx => by cases hx
  | y :: l, hs, x, hx => by
    have hs : bi (hasBit y.anc i) (allAfter i l) false = true := hs
    rw [bi_if] at hs
    by_cases hb : hasBit y.anc i = true
    · rw [if_pos hb] at hs
      rcases List.mem_cons.1 hx with rfl | hx
      · exact (hasBit_eq _ _).1 hb
      · exact allAfter_spec hs x hx
    · rw [if_neg hb] at hs; cases hs
theorem keepLive_mem {anc : Nat} : ∀ {l : List Live} {x : Live}, x ∈ l → anc.testBit x.i = false → x ∈ keepLive anc l
  | y :: l, x, hx, hb => by
    show x ∈ bi (hasBit anc y.i) (keepLive anc l) (y :: keepLive anc l)
    rw [bi_if]
    rcases List.mem_cons.1 hx with rfl | hx
    · rw [if_neg (fun h => by rw [hasBit_eq, hb] at h; cases h)]; exact List.mem_cons_self
    · have := keepLive_mem hx hb
      split
      · exact this
      · exact List.mem_cons_of_mem _ this

/-- How many are still to come. -/
def cntF (f : Nat → Bool) : Nat → Nat
  | 0 => 0
  | n + 1 => cntF f n + (if f n then 0 else 1)
theorem cntF_zero {f : Nat → Bool} : ∀ {n : Nat}, cntF f n = 0 → ∀ i, i < n → f i = true
  | 0, _, i, hi => by omega
  | n + 1, h, i, hi => by
    unfold cntF at h
    by_cases hin : i = n
    · subst hin
      cases hf : f i with
      | true => rfl
      | false => rw [hf] at h; simp at h
    · exact cntF_zero (n := n) (by omega) i (by omega)
theorem cntF_same {f g : Nat → Bool} : ∀ {n : Nat}, (∀ i, i < n → f i = g i) → cntF f n = cntF g n
  | 0, _ => rfl
  | n + 1, h => by unfold cntF; rw [cntF_same fun i hi => h i (by omega), h n (by omega)]
theorem cntF_set {f g : Nat → Bool} {i : Nat} (hi : f i = false) (hg : ∀ j, g j = (f j || decide (i = j))) : ∀ {n : Nat}, i < n → cntF g n + 1 = cntF f n
  | 0, h => by omega
  | n + 1, h => by
    unfold cntF
    by_cases hin : i = n
    · subst hin
      rw [hg i, hi, cntF_same (f := g) (g := f) fun j hj => by rw [hg]; simp; omega]
      simp
    · have ih := cntF_set hi hg (n := n) (by omega)
      have : g n = f n := by rw [hg]; simp [hin]
      rw [this]
      omega

/-- Whatever comes up. -/
theorem anc_done (hO : Ord ops A) {L : Array Bool} (hL : Closed A (fun i => L.getD i false)) {i : Nat} (hr : i ∈ Region.ready .any ops L) : L.getD i false = false ∧ ∃ o, ops[i]? = some o ∧ ∀ j, (A i).testBit j = true → L.getD j false = true := by
  obtain ⟨h1, o, ho, h2⟩ := mem_ready.1 hr
  have hi : L.getD i false = false := by
    rw [Array.getD_eq_getD_getElem?] at h1 ⊢
    cases hx : L[i]? with
    | none => rfl
    | some b => rw [hx] at h1; simpa using h1
  refine ⟨hi, o, ho, fun j hj => ?_⟩
  obtain ⟨e, he, hb, h3⟩ := (hO.anc i o ho j).1 hj
  rcases h3 with rfl | h3
  · exact h2 e he hb
  · exact hL e.on (h2 e he hb) j h3

theorem all_done (hO : Ord ops A) {L : Array Bool} (hsz : L.size = ops.size) (hr : Region.ready .any ops L = []) : ∀ i, i < ops.size → L.getD i false = true := by
  intro i
  induction i using Nat.strongRecOn with
  | _ i ih =>
    intro hi
    cases hl : L.getD i false with
    | true => rfl
    | false =>
      have : i ∈ Region.ready .any ops L := by
        refine mem_ready.2 ⟨?_, ops[i], by simp [hi], fun e he hb => ?_⟩
        · rw [Array.getD_eq_getD_getElem?] at hl ⊢
          have : i < L.size := by omega
          simp only [this, getElem?_pos, Option.getD_some] at hl ⊢
          exact hl
        · have := hO.lt i ops[i] e (by simp [hi]) he hb
          exact ih e.on this (by omega)
      rw [hr] at this
      cases this
end
end Go.Ev
