/- A part of an evaluator of the model's calls and of the proof that it tells the truth. Conditions: those that the theorems name. -/
import Derived.Test.YtadnhiagecamhaaGreatDoorEvQ
namespace Go.Ev
open Go.RowKit
set_option linter.unusedVariables false
set_option linter.unusedSimpArgs false

section
variable {P : Program} {nt : Nat} {ops : Array Oper} {A : Nat → Nat} {e0 : Env} {ι0 : Inj} {h0 : Hp} {w0 : World} {ds : List Deferred}

theorem runDraw_succ (call : CallF) (f : Nat) (s : PS) : runDraw call (f + 1) s = ob (pass s.pend ⟨s.e, s.h, s.d, s.lv, []⟩) (dStep call (runDraw call f)) := rfl

/-- An operation that both have had no hindrance to: the machine's turn. -/
theorem will_op (hN : NotGo P) (hO : Ord ops A) {s : PS} (hst : steady s.h s.lv = true) {val : Nat → AV} {idOf : Nat → Option Nat} {ι : Inj} {L : Array Bool} {a : Act} {w : World} (hD : DI P nt ops A e0 ι0 h0 w0 ds s val idOf ι L a w)
    {i : Nat} {o : Oper} (ho : ops[i]? = some o) (hi : L.getD i false = false) (hdi : s.d.testBit i = true) (hA : ∀ j, (A i).testBit j = true → L.getD j false = true) {K : Act → World → Prop} {Q : Exit → Act → World → Prop}
    (hK : ∀ ι' a' w', DI P nt ops A e0 ι0 h0 w0 ds s val idOf ι' (L.setIfInBounds i true) a' w' → K a' w') : wpOp P ops Q i K a w := by
  have hseen : Seen ops A e0 val i o (envL e0 (dstOf ops) val (fun j => L.getD j false) ops.size) := fun t ht => seen_env hO ho hD.lcl hi hA e0 val _ ht
  obtain ⟨hb, hw⟩ := hD.will i o ho hdi hi
  have hwr := wanted_rel hD.aenv ops o
  unfold wpOp
  simp only [ho]
  rcases hw with ⟨h1, h2⟩ | ⟨h1, h2⟩
  · rw [h1 _ hseen] at hwr
    rw [← hwr, if_neg Bool.false_ne_true]
    exact hK ι _ _ (hD.act hO ho hi hdi hA hb (Ext.refl ι) (h2 ▸ undef_rel ι) hD.wr hD.fr fun _ _ _ _ _ h => h)
  · rw [h1 _ hseen] at hwr
    rw [← hwr, if_pos rfl]
    refine .inl ?_
    obtain ⟨dst, op, type, pos, after, guard⟩ := o
    rcases h2 with ⟨h3, h4⟩ | ⟨rd, h3, h4, x, h5, h6, h7, h8⟩ | ⟨m, id, h3, h4, h5, h6, h7, h8, h9, h10⟩
    · obtain ⟨v', g1, g2⟩ := evP_ok op w hD.aenv (h4 _ hseen)
      exact wp_of_run g1 (hK ι _ _ (hD.act hO ho hi hdi hA hb (Ext.refl ι) g2 hD.wr hD.fr fun _ _ _ _ _ h => h))
    · have hrun := steady_spec hst x h5
      rw [h7, h8] at hrun
      obtain ⟨v', g1, g2⟩ := evR_ok op hD.aenv hD.wr (h4 _ hseen) hrun
      exact wp_of_run g1 (hK ι _ _ (hD.act hO ho hi hdi hA hb (Ext.refl ι) g2 hD.wr hD.fr fun _ _ _ _ _ h => h))
    · obtain ⟨obj, n, v', g1, g2⟩ := evA_ok op w hD.aenv (h4 _ hseen)
      have hx := upd_ext (ι := ι) ⟨w.heap.size, 0, n⟩ h10
      obtain ⟨g3, g4⟩ := g2 _ hx
      refine wp_of_run g1 (hK (ι.upd id ⟨w.heap.size, 0, n⟩) _ _ (hD.act hO ho hi hdi hA hb hx (h6 ▸ g4 id (upd_same _ _ _)) (hD.wr.born h10 h7 (fun K hk => by obtain ⟨B, hB, hs⟩ := h9 K hk; rw [Option.some.injEq] at hB; subst hB; exact hs) (g3 _ (heap_push_new _ _))) ?_ fun j id' hj hl hid hn => ?_))
      · have hf := hD.fr
        refine ⟨hf.ext.trans hx, hf.next, fun b hb hb' => ⟨by rw [upd_ne _ _ (by omega)]; exact (hf.unborn b hb hb').1, (hf.unborn b hb hb').2⟩, by have := hf.size; simp; omega, fun B hB hi => ?_, fun b p hb hb' => ?_, hf.tape, hf.os, hf.output⟩
        · rw [heap_push_old (Nat.lt_of_lt_of_le hB hf.size)]
          exact hf.out B hB hi
        · by_cases e : b = id
          · subst e; rw [upd_same, Option.some.injEq] at hb; subst hb; exact .inl hf.size
          · rw [upd_ne _ _ e] at hb; exact hf.fresh b p hb hb'
      · rw [upd_ne]
        · exact hn
        · rintro rfl
          exact hD.inj j i id' hj hl hi hid h5

theorem draw_ok (hN : NotGo P) (hO : Ord ops A) {call : CallF} (hcall : CallOK P call) {Q : Exit → Act → World → Prop} {e' : Env} {h' : Hp}
    (hQ : ∀ κ a' w', AR κ nt ds e' a' → WR κ h' w' → Fr ι0 h0 w0 κ h' w' → Q .normal a' w') : ∀ (fuel : Nat) (s0 : PS), runDraw call fuel s0 = some (e', h') → Pend P nt ops A s0.pend ⟨s0.e, s0.h, s0.d, s0.lv, []⟩ →
    ∀ (m : Nat) {val : Nat → AV} {idOf : Nat → Option Nat} {ι : Inj} {L : Array Bool} {a : Act} {w : World}, DI P nt ops A e0 ι0 h0 w0 ds s0 val idOf ι L a w → cntF (fun i => L.getD i false) ops.size ≤ m → wpAny P .any ops Q m L a w
  | 0, s0, hr, _ => by have hr : (none : Option (Env × Hp)) = some (e', h') := hr; cases hr
  | fuel + 1, s0, hr, hp0 => by
    intro m val idOf ι L a w hD0 hm
    rw [runDraw_succ, ob_eq] at hr
    obtain ⟨s, hpass, hstep⟩ := hr
    have hD0' : DI P nt ops A e0 ι0 h0 w0 ds ⟨s0.e, s0.h, s0.d, s0.lv, []⟩ val idOf ι L a w :=
      ⟨hD0.sz, hD0.lcl, hD0.dcl, hD0.dlt, hD0.sub, hD0.cenv, hD0.aenv, hD0.wr, hD0.fr, hD0.will, hD0.idd, hD0.inj⟩
    obtain ⟨v1, i1, hD, hp⟩ := pass_ok hO hpass hp0 hD0'
    clear hD0 hD0' hpass hp0
    unfold dStep at hstep
    rw [bi_none] at hstep
    obtain ⟨hst, hstep⟩ := hstep
    -- all have come up
    have fin : ∀ {ι : Inj} {L : Array Bool} {a : Act} {w : World}, DI P nt ops A e0 ι0 h0 w0 ds s v1 i1 ι L a w → (∀ i, i < ops.size → L.getD i false = true) → Q .normal a w := by
      intro ι L a w hD hall
      have hpend : s.pend = [] := by
        cases hps : s.pend with
        | nil => rfl
        | cons x l =>
          obtain ⟨o, ho, _, hx⟩ := hp.mem x (by rw [hps]; simp)
          have hlt : x.i < ops.size := (Array.getElem?_eq_some_iff.1 ho).1
          rw [hD.sub _ (hall _ hlt)] at hx
          cases hx
      rw [hpend] at hstep
      have hstep : some (s.e, s.h) = some (e', h') := hstep
      simp only [Option.some.injEq, Prod.mk.injEq] at hstep
      obtain ⟨rfl, rfl⟩ := hstep
      refine hQ ι a w (hD.aenv.congr fun t => ?_) hD.wr hD.fr
      rw [hD.cenv, envL_get, envL_get, lastOf_congr fun j hj _ => ?_]
      rw [hall j hj, hD.sub j (hall j hj)]
    induction m generalizing ι L a w with
    | zero =>
      have hall := cntF_zero (f := fun i => L.getD i false) (n := ops.size) (by omega)
      refine ⟨?_, fin hD hall⟩
      cases hr : Region.ready .any ops L with
      | nil => rfl
      | cons i l =>
        obtain ⟨h1, o, ho, _⟩ := anc_done hO hD.lcl (i := i) (by rw [hr]; simp)
        have hlt : i < ops.size := (Array.getElem?_eq_some_iff.1 ho).1
        have : L.getD i false = true := hall i hlt
        rw [h1] at this; cases this
    | succ m ih =>
      refine ⟨fun hr => fin hD (all_done hO hD.sz hr), fun i hi => ?_⟩
      obtain ⟨hLi, o, ho, hA⟩ := anc_done hO hD.lcl hi
      have hlt : i < ops.size := (Array.getElem?_eq_some_iff.1 ho).1
      have hcnt : ∀ L' : Array Bool, L' = L.setIfInBounds i true → cntF (fun j => L'.getD j false) ops.size ≤ m := by
        rintro L' rfl
        have := cntF_set (f := fun j => L.getD j false) (g := fun j => (L.setIfInBounds i true).getD j false) (i := i) hLi (fun j => getD_set (by rw [hD.sz]; exact hlt) j) hlt
        omega
      cases hdi : s.d.testBit i with
      | true => exact will_op hN hO hst hD ho hLi hdi hA fun ι' a' w' hD' => ih (hcnt _ rfl) hD'
      | false =>
        -- it is the writer whose turn it is
        obtain ⟨y, hy, hyi⟩ := hp.all i o ho hdi
        have hy : y ∈ s.pend.reverse := by simpa using hy
        cases hrev : s.pend.reverse with
        | nil => rw [hrev] at hy; cases hy
        | cons x rest =>
          rw [hrev] at hstep hy
          have hstep : dWrite call (runDraw call fuel) s x rest = some (e', h') := hstep
          simp only [dWrite, bi_none, ob_eq] at hstep
          obtain ⟨k1, k2, k3, p, k4, e2, k5, k6⟩ := hstep
          have hLsub : ∀ j, L.getD j false = true → s.d.testBit j = true := hD.sub
          have hmemx : ∀ z ∈ x :: rest, z ∈ s.pend := fun z hz => by
            have : z ∈ s.pend.reverse := by rw [hrev]; exact hz
            simpa using this
          have hyx : y = x := by
            rcases List.mem_cons.1 hy with h | h
            · exact h
            · have hanc := allAfter_spec k3 y h
              obtain ⟨oy, hoy, hey, hdy⟩ := hp.mem y (hmemx y (List.mem_cons_of_mem _ h))
              have hya : y.anc = A y.i := by rw [hey]; rfl
              rw [hya, hyi] at hanc
              have := hLsub _ (hA _ hanc)
              obtain ⟨ox, hox, hex, hdx⟩ := hp.mem x (hmemx x List.mem_cons_self)
              rw [hdx] at this; cases this
          subst hyx
          subst hyi
          obtain ⟨o', ho', hex, hdx⟩ := hp.mem y (hmemx y List.mem_cons_self)
          rw [ho, Option.some.injEq] at ho'; subst ho'
          have hya : y.anc = A y.i := by rw [hex]; rfl
          have hyput : y.put = putO nt o.dst := by rw [hex]; rfl
          have hyco : y.co = comp P o.op := by rw [hex]; rfl
          have hyw : y.want = wantedA ops o.guard := by rw [hex]; rfl
          rw [hyput] at k5
          rw [hyw] at k2
          unfold dW at k4
          rw [hyco] at k4
          have hAd : ∀ j, (A y.i).testBit j = true → s.d.testBit j = true := fun j hj => hLsub j (hA j hj)
          have hseen : ∀ t ∈ o.looksAt ops, (envL e0 (dstOf ops) v1 (fun j => L.getD j false) ops.size).get t = s.e.get t := fun t ht => by
            rw [hD.cenv, seen_env hO ho hD.dcl hdi hAd e0 v1 _ ht, seen_env hO ho hD.lcl hLi hA e0 v1 _ ht]
          have hwant : Region.wanted o (yielded ops a.tmps) = true := by
            rw [← wanted_rel hD.aenv ops o, want_looks hseen]; exact k2
          rcases comp_cases P o.op with hc | hc | hc | hc
          · rw [hc] at k4; cases k4
          · rw [hc] at k4; cases k4
          · rw [hc] at k4; cases k4
          rw [hc] at k4
          have k4 : evW P o.op call s.e s.h = some p := k4
          rw [← evW_congr (ev_looks hseen)] at k4
          unfold wpOp
          simp only [ho, hwant, if_true]
          refine .inl ?_
          have key : ∀ v' κ w', VR κ p.1 v' → WR κ p.2 w' → Fr ι s.h w κ p.2 w' → wpAny P .any ops Q m (L.setIfInBounds y.i true) (a.put o.dst v') w' := by
            intro v' κ w' q1 q2 q3
            have hvd : ∀ j, s.d.testBit j = true → v1 j = updV v1 y.i p.1 j := fun j hj => (updV_ne v1 p.1 (by rintro rfl; rw [hdi] at hj; cases hj)).symm
            have hltL : y.i < L.size := by rw [hD.sz]; exact hlt
            have hfalse : ∀ j, (L.setIfInBounds y.i true).getD j false = false → L.getD j false = false ∧ j ≠ y.i := fun j hj => by
              rw [getD_set hltL, Bool.or_eq_false_iff] at hj
              exact ⟨hj.1, by have := hj.2; simp at this; omega⟩
            have hsetL : (fun j => (L.setIfInBounds y.i true).getD j false) = fun j => (L.getD j false || decide (y.i = j)) := funext fun j => getD_set hltL j
            have hidn : i1 y.i = none := by
              cases hid : i1 y.i with
              | none => rfl
              | some z => have := (hD.idd _ _ hid).1; rw [hdi] at this; cases this
            have hD2 : DI P nt ops A e0 ι0 h0 w0 ds ⟨e2, p.2, Nat.lor s.d (bit y.i), keepLive y.anc s.lv, rest⟩ (updV v1 y.i p.1) i1 κ (L.setIfInBounds y.i true) (a.put o.dst v') w' := by
              refine ⟨by simp [hD.sz], closed_insert hD.lcl hA fun j => getD_set hltL j, closed_insert hD.dcl hAd fun j => lor_bit _ _ _, fun j hj => ?_, fun j hj => ?_, fun t => ?_, ?_, q2, hD.fr.trans q3, fun j o2 hj hdj hl => ?_, fun j z hz => ?_, fun j k z hjk hj hk g1 g2 => hD.inj j k z hjk (hfalse j hj).1 (hfalse k hk).1 g1 g2⟩
              · have hj : (Nat.lor s.d (bit y.i)).testBit j = true := hj
                rw [lor_bit, Bool.or_eq_true] at hj
                rcases hj with hj | hj
                · exact hD.dlt j hj
                · simp at hj; omega
              · show (Nat.lor s.d (bit y.i)).testBit j = true
                rw [getD_set hltL, Bool.or_eq_true] at hj
                rw [lor_bit, Bool.or_eq_true]
                rcases hj with hj | hj
                · exact .inl (hD.sub j hj)
                · exact .inr hj
              · show e2.get t = (envL e0 (dstOf ops) (updV v1 y.i p.1) (fun j => (Nat.lor s.d (bit y.i)).testBit j) ops.size).get t
                rw [(putO_get k5).2, bits_lor, insert_env hO ho hD.dcl hdi hAd (fun j => rfl) e0 _ hlt t, updV_same, hD.cenv, envL_val hvd]
              · obtain ⟨e1, he1⟩ := putO_some p.1 (envL e0 (dstOf ops) v1 (fun j => L.getD j false) ops.size) (putO_get k5).1
                refine ((hD.aenv.mono q3.ext).put q1 he1).congr fun t => ?_
                rw [(putO_get he1).2, hsetL, insert_env hO ho hD.lcl hLi hA (fun j => rfl) e0 (updV v1 y.i p.1) hlt t, updV_same, envL_val (fun j hj => hvd j (hD.sub j hj))]
              · obtain ⟨hl1, hl2⟩ := hfalse j hl
                have hdj : s.d.testBit j = true := by
                  have hdj : (Nat.lor s.d (bit y.i)).testBit j = true := hdj
                  rw [lor_bit, Bool.or_eq_true] at hdj
                  rcases hdj with hdj | hdj
                  · exact hdj
                  · simp at hdj; omega
                have hw1 := hD.will j o2 hj hdj hl1
                have hw2 := hw1.mono (lv' := keepLive y.anc s.lv) (h' := p.2) (val' := updV v1 y.i p.1) (idOf' := i1) (fun k hk => hvd k (hD.dcl j hdj k hk)) (hvd j hdj)
                  (fun z hz hzj => keepLive_mem hz (by
                    rw [hya, hzj]
                    cases hb : (A y.i).testBit j with
                    | false => rfl
                    | true => have := hA j hb; rw [hl1] at this; cases this)) rfl q3.next fun id _ hn hlt => (q3.unborn id hlt hn).2
                obtain ⟨g1, g2⟩ := hw2
                refine ⟨g1, ?_⟩
                rcases g2 with g2 | ⟨g2, g3⟩
                · exact .inl g2
                · refine .inr ⟨g2, ?_⟩
                  rcases g3 with g3 | g3 | ⟨mk, id, c1, c2, c3, c4, c5, c6, c7, c8⟩
                  · exact .inl g3
                  · exact .inr (.inl g3)
                  · exact .inr (.inr ⟨mk, id, c1, c2, c3, c4, c5, c6, c7, (q3.unborn id (hD.idd j id c3).2 c8).1⟩)
              · have := hD.idd j z hz
                refine ⟨?_, Nat.lt_of_lt_of_le this.2 q3.next⟩
                show (Nat.lor s.d (bit y.i)).testBit j = true
                rw [lor_bit, this.1]; rfl
            have hp2 : Pend P nt ops A rest ⟨e2, p.2, Nat.lor s.d (bit y.i), keepLive y.anc s.lv, []⟩ := by
              have hperm : (y :: rest).Perm s.pend := by rw [← hrev]; exact List.reverse_perm _
              have hpend : Pend P nt ops A (y :: rest) ⟨s.e, s.h, s.d, s.lv, []⟩ := by
                refine ⟨fun z hz => hp.mem z (by simpa using hmemx z (by simpa using hz)), fun j o2 hj hdj => ?_, ?_⟩
                · obtain ⟨z, hz, hzj⟩ := hp.all j o2 hj hdj
                  exact ⟨z, by rw [List.append_nil]; exact hperm.mem_iff.2 (by simpa using hz), hzj⟩
                · have := hp.nodup
                  rw [List.nil_append] at this
                  rw [List.append_nil]
                  exact (hperm.map _).nodup_iff.2 this
              exact hpend.done rfl rfl
            exact draw_ok hN hO hcall hQ fuel _ k6 hp2 m hD2 (hcnt _ rfl)
          obtain ⟨dst, op, type, pos, after, guard⟩ := o
          obtain ⟨pv, ph⟩ := p
          exact evW_ok hN op hcall hD.aenv hD.wr k4 key
  termination_by fuel => fuel

theorem annot_get : ∀ (l : List Oper) (as : List Nat) (n : Nat), l.length = as.length → ∀ x, x ∈ annot.go P nt ops n l as ↔ ∃ k o, l[k]? = some o ∧ x = (⟨n + k, as.getD k 0, putO nt o.dst, comp P o.op, wantedA ops o.guard⟩ : Ann)
  | [], as, n, h, x => by
    cases as with
    | nil => simp [annot.go]
    | cons _ _ => simp at h
  | o :: l, as, n, h, x => by
    cases as with
    | nil => simp at h
    | cons a as =>
      have e : annot.go P nt ops n (o :: l) (a :: as) = ⟨n, a, putO nt o.dst, comp P o.op, wantedA ops o.guard⟩ :: annot.go P nt ops (n + 1) l as := rfl
      rw [e, List.mem_cons, annot_get l as (n + 1) (by simpa using h)]
      constructor
      · rintro (rfl | ⟨k, p, hp, rfl⟩)
        · exact ⟨0, o, by simp, by simp⟩
        · exact ⟨k + 1, p, by simpa using hp, by simp; omega⟩
      · rintro ⟨k, p, hp, rfl⟩
        cases k with
        | zero => left; simp at hp; subst hp; simp
        | succ k => right; exact ⟨k, p, by simpa using hp, by simp; omega⟩
theorem annot_nodup : ∀ (l : List Oper) (as : List Nat) (n : Nat), ((annot.go P nt ops n l as).map (·.i)).Nodup ∧ ∀ x ∈ annot.go P nt ops n l as, n ≤ x.i
  | [], as, n => by cases as <;> simp [annot.go]
  | o :: l, as, n => by
    cases as with
    | nil => simp [annot.go]
    | cons a as =>
      have e : annot.go P nt ops n (o :: l) (a :: as) = ⟨n, a, putO nt o.dst, comp P o.op, wantedA ops o.guard⟩ :: annot.go P nt ops (n + 1) l as := rfl
      obtain ⟨h1, h2⟩ := annot_nodup l as (n + 1)
      rw [e]
      refine ⟨?_, fun x hx => ?_⟩
      · rw [List.map_cons, List.nodup_cons]
        refine ⟨fun hm => ?_, h1⟩
        obtain ⟨x, hx, hxi⟩ := List.mem_map.1 hm
        have := h2 x hx
        simp at hxi; omega
      · rcases List.mem_cons.1 hx with rfl | hx
        · exact Nat.le_refl _
        · have := h2 x hx; omega
end

/-- A region that asks the tape. -/
theorem drawOK_of {P : Program} (hN : NotGo P) {call : CallF} (hcall : CallOK P call) {nt : Nat} {ops : Array Oper} (hd : drawOk ops = true) : DrawOK P call nt ops := by
  intro Q ι ds e e' a h h' w hr ha hw hQ
  obtain ⟨hO, hlen⟩ := ord_of hd
  have hff : ∀ i, (Array.replicate ops.size false).getD i false = false := fun i => by
    rw [Array.getD_eq_getD_getElem?, Array.getElem?_replicate]; split <;> rfl
  have hl0 : (fun i => (Array.replicate ops.size false).getD i false) = fun _ => false := funext hff
  have hb0 : (fun i => Nat.testBit 0 i) = fun _ => false := funext fun i => Nat.zero_testBit i
  have henv : ∀ (val : Nat → AV) t, (envL e (dstOf ops) val (fun _ => false) ops.size).get t = e.get t := fun val t => by
    rw [envL_get]
    cases hl : lastOf (dstOf ops) (fun _ => false) t ops.size with
    | none => rfl
    | some j => have := (lastOf_mem hl).2.1; cases this
  refine draw_ok (e0 := e) (ι0 := ι) (h0 := h) (w0 := w) (val := fun _ => undef) (idOf := fun _ => none) (ι := ι) hN hO hcall hQ _ _ hr ⟨fun x hx => ?_, fun i o ho _ => ?_, ?_⟩ ops.size ⟨by simp, fun i hi => ?_, fun i hi => ?_, fun i hi => ?_, fun i hi => ?_, fun t => ?_, ?_, hw, Fr.refl _ _ _, fun i o _ hi => ?_, fun i x hx => (by cases hx), fun i j x _ _ _ hx => (by cases hx)⟩ ?_
  · rw [List.append_nil] at hx
    obtain ⟨k, o, h1, rfl⟩ := (annot_get ops.toList (ancs ops.toList) 0 (by simp [hlen]) x).1 hx
    refine ⟨o, by simpa using h1, ?_, Nat.zero_testBit _⟩
    simp [annOf]
  · rw [List.append_nil]
    exact ⟨_, (annot_get ops.toList (ancs ops.toList) 0 (by simp [hlen]) _).2 ⟨i, o, by simpa using ho, rfl⟩, by simp⟩
  · rw [List.append_nil]
    exact (annot_nodup ops.toList (ancs ops.toList) 0).1
  · simp only [hff] at hi; cases hi
  · simp only at hi; rw [Nat.zero_testBit] at hi; cases hi
  · simp only at hi; rw [Nat.zero_testBit] at hi; cases hi
  · rw [hff] at hi; cases hi
  · show e.get t = (envL e (dstOf ops) (fun _ => undef) (fun i => Nat.testBit 0 i) ops.size).get t
    rw [hb0, henv]
  · rw [hl0]
    exact ha.congr fun t => (henv _ t).symm
  · simp only at hi; rw [Nat.zero_testBit] at hi; cases hi
  · have : ∀ n, cntF (fun i => (Array.replicate ops.size false).getD i false) n ≤ n := by
      intro n
      induction n with
      | zero => exact Nat.le_refl _
      | succ n ih => unfold cntF; split <;> omega
    exact this _

/-- A code whose every region that asks the tape is in order. -/
noncomputable def codeDraw : Code → Bool
  | .region _ ops d => !d || drawOk ops
  | .seq a b => codeDraw a && codeDraw b
  | .cond _ a b => codeDraw a && codeDraw b
  | .block _ b => codeDraw b
  | .loop b => codeDraw b
  | .scope b => codeDraw b
  | _ => true
theorem allDraw_of {p : Array Oper → Prop} (hp : ∀ ops, drawOk ops = true → p ops) : ∀ (c : Code), codeDraw c = true → AllDraw p c
  | .region _ ops d, h => fun hd => hp ops (by subst hd; simpa [codeDraw] using h)
  | .seq a b, h => by simp only [codeDraw, Bool.and_eq_true] at h; exact ⟨allDraw_of hp a h.1, allDraw_of hp b h.2⟩
  | .cond _ a b, h => by simp only [codeDraw, Bool.and_eq_true] at h; exact ⟨allDraw_of hp a h.1, allDraw_of hp b h.2⟩
  | .block _ b, h => allDraw_of hp b h
  | .loop b, h => allDraw_of hp b h
  | .scope b, h => allDraw_of hp b h
  | .skip, _ => trivial
  | .rangeFunc .., _ => trivial
  | .exit _, _ => trivial
  | .label _, _ => trivial
  | .goto _, _ => trivial
  | .ret, _ => trivial
  | .refuse _, _ => trivial

/-- What is looked up of a program, once. -/
noncomputable def funcOk (fn : Func) : Bool := !(fn.name == "runtime.NumGoroutine") && (match fn.body with | some c => codeDraw c | none => true)

theorem ev_sound {P : Program} (hm : P.follows .mixedOrders = true) (hf : ∀ (f : Nat) (fn : Func), P.funcs[f]? = some fn → funcOk fn = true) {K : CallF} (hK : CallOK P K) (n : Nat) : CallOK P (evCall P K n) := by
  have hN : NotGo P := fun f fn h => by
    have := hf f fn h
    unfold funcOk at this
    rw [Bool.and_eq_true] at this
    simpa using this.1
  refine evCall_ok hN hm (fun f fn c h hb call hcall => ?_) hK n
  have := hf f fn h
  unfold funcOk at this
  rw [hb, Bool.and_eq_true] at this
  exact allDraw_of (p := DrawOK P call fn.ntmps) (fun ops hd => drawOK_of hN hcall hd) c this.2
end Go.Ev
