/- A part of an evaluator of the model's calls and of the proof that it tells the truth. Conditions: those that the theorems name. -/
import Derived.Test.YtadnhiagecamhaaGreatDoorEvI
namespace Go.Ev
open Go.RowKit
set_option linter.unusedVariables false
set_option linter.unusedSimpArgs false

section
variable {P : Program} {dst : Option Tmp} {type : TypeId} {pos : String} {after : Array Edge} {guard : Option (Nat × Bool)}

/-- A block made anew, behind a draw. -/
theorem grown_rel {ι : Inj} {h : Hp} {w : World} (hw : WR ι h w) (B : Blk) (obj : Obj) (n : Nat)
    (hbr : BR (ι.upd h.next ⟨w.heap.size, 0, n⟩) B ⟨w.heap.size, 0, n⟩ (w.drew.alloc obj)) :
    WR (ι.upd h.next ⟨w.heap.size, 0, n⟩) (h.add B) (w.drew.alloc obj) ∧ Fr ι h w (ι.upd h.next ⟨w.heap.size, 0, n⟩) (h.add B) (w.drew.alloc obj) := by
  have hn : ι h.next = none := hw.fresh (Nat.le_refl _)
  refine ⟨((hw.drew).add B).born (w := w.drew) (obj := obj) (n := n) hn (Nat.lt_succ_self _) (fun K hk => by rw [add_get, if_pos rfl, Option.some.injEq] at hk; subst hk; exact .refl _) hbr,
    (Fr.drew (ι := ι) (h := h) (w := w)).trans (Fr.born (w := w.drew) hn _ (Nat.le_succ _) (Nat.le_refl _) fun b hb => by rw [add_get, if_neg (Nat.ne_of_lt hb)])⟩

theorem append_rel {ι : Inj} {h h' : Hp} {w : World} (hw : WR ι h w) {t u el : TypeId} {size : Nat} {i : TypeInfo} {z : Value} (hsm : Small P t el size i z) (hu : srcOk P u = true) {s x v : AV} {s' x' : Value}
    (hs : VR ι s s') (hx : VR ι x x') (hv : appendA size h s x = some (v, h')) (ty : TypeId) :
    ∃ v' κ w', (Builtin.append_ #[t, u] ty #[s', x']).run P w = .ok v' w' ∧ VR κ v v' ∧ WR κ h' w' ∧ Fr ι h w κ h' w' := by
  simp only [appendA, ob_eq] at hv
  obtain ⟨r, h1, h2⟩ := hv
  obtain ⟨news, hsrc, hnr, hns⟩ := src_rel (P := P) hw hu hx h1
  have hnl := hnr.length
  have hnsz := hsrc.newsLen
  rw [bi_if] at h2
  have hby : ∀ n, n ≤ 65536 → ∀ old, old < n → Builtin.nextslicecap n old * i.bytes ≤ 281474976710656 := fun n hn old ho => grow_fits ho hn hsm.bytes
  by_cases hnil : s.isNilSlice = true
  · rw [if_pos hnil] at h2
    rw [nilSlice_eq] at hnil; subst hnil
    cases hs
    unfold appNil at h2
    rw [bi_if] at h2
    by_cases h0 : Nat.beq r.1 (nat_lit 0) = true
    · rw [if_pos h0] at h2
      rw [nbeq_t] at h0
      simp only [Option.some.injEq, Prod.mk.injEq] at h2
      obtain ⟨rfl, rfl⟩ := h2
      refine ⟨.slice none 0 0, ι, w, ?_, .nilslice, hw, Fr.refl _ _ _⟩
      have := Src.store t ty el i hsm.hu hsm.hi hsm.size none 0 0 hsrc (by rw [h0]; exact Nat.le_refl _) (w' := w) rfl
      rw [h0] at this
      exact this
    · rw [if_neg h0] at h2
      rw [nbeq_t] at h0
      have h0 : r.1 ≠ 0 := h0
      simp only [bi_none, nble_t, Option.some.injEq, Prod.mk.injEq] at h2
      obtain ⟨h3, rfl, rfl⟩ := h2
      have h3 : r.1 ≤ 65536 := h3
      have hrun := run_append_grow_src (P := P) w t u ty el i z hsm.hu hsm.hi hsm.hz none 0 0 [] (by rw [run_firstCells_none]) x' r.1 news (by rw [hsm.size]; exact hsrc) (by omega) (by omega) (hby _ (by omega) _ (by omega))
      simp only [Nat.zero_add, List.nil_append] at hrun
      have hge := grownCap_ge w r.1 0 el
      have hzc : (Builtin.zeroCells z.cells (grownCap w r.1 0 el - r.1)).size = (grownCap w r.1 0 el - r.1) * size := by rw [size_zeroCells, hsm.zero]
      generalize hcap : grownCap w r.1 0 el = cap at *
      have hbr : ∀ κ, Ext ι κ → BR κ (cellsOf r.2) ⟨w.heap.size, 0, r.2.length + (Builtin.zeroCells z.cells (cap - r.1)).size⟩ (w.drew.alloc (.cells (news.toArray ++ Builtin.zeroCells z.cells (cap - r.1)) el)) := by
        intro κ hκ
        refine .cells (heap_alloc_new w.drew _) (by simp [hnl]) (by show 0 + len r.2 ≤ r.2.length + (Builtin.zeroCells z.cells (cap - r.1)).size; rw [len_eq]; omega) fun j v hj hv => ?_
        rw [len_eq] at hj
        rw [get_writeN, if_pos ⟨Nat.zero_le _, by show j < 0 + r.2.length; omega⟩] at hv
        have hv : r.2[j]? = some v := hv
        obtain ⟨v', g1, g2⟩ := hnr.get hv
        refine ⟨hns v (List.mem_of_getElem? hv), v', ?_, g2.mono hκ⟩
        show (news.toArray ++ Builtin.zeroCells z.cells (cap - r.1))[0 + j]? = _
        rw [Nat.zero_add, Array.getElem?_append_left (by simp; omega), List.getElem?_toArray]
        exact g1
      obtain ⟨g1, g2⟩ := grown_rel hw (cellsOf r.2) (.cells (news.toArray ++ Builtin.zeroCells z.cells (cap - r.1)) el) _ (hbr _ (upd_ext _ (hw.fresh (Nat.le_refl _))))
      refine ⟨_, _, _, hrun, ?_, g1, g2⟩
      refine .slice (off := 0) (upd_same _ _ _) (Nat.le_refl _) hge (.inl ⟨rfl, ?_⟩)
      show 0 + 0 + cap * size ≤ r.2.length + _
      rw [hzc, hnl, hnsz, ← Nat.add_mul]
      have : r.1 + (cap - r.1) = cap := by omega
      rw [this]; omega
  · rw [if_neg hnil] at h2
    rw [ob_eq] at h2
    obtain ⟨sl, h3, h4⟩ := h2
    simp only [appS, ob_eq, bi_none, nbeq_t, nble_t, Nat.add_eq, Nat.mul_eq] at h4
    obtain ⟨k, h5, c, h6, h7, h8, h9, h10⟩ := h4
    have h9 : sl.len + r.1 ≤ 65536 := h9
    rw [slice?_eq] at h3; subst h3
    rw [cells?_eq] at h6; subst h6
    -- the outcome of the own heap
    obtain ⟨T, hT, hv', hh'⟩ : ∃ T, AppT c.t sl.off (sl.len * size) r.2 T ∧ v = .slice h.next 0 (sl.len + r.1) (sl.len + r.1) size ∧
        h' = ⟨Nat.succ h.next, (h.m.set sl.b .dead).set h.next (.cells (sl.len * size + r.2.length) T)⟩ := by
      rw [bi_if] at h10
      by_cases h0 : Nat.beq sl.off (nat_lit 0) = true
      · rw [if_pos h0] at h10
        rw [nbeq_t] at h0
        have h0 : sl.off = 0 := h0
        simp only [Option.some.injEq, Prod.mk.injEq] at h10
        refine ⟨writeN r.2 (sl.len * size) c.t, fun j hj => ?_, h10.1.symm, ?_⟩
        · rw [get_writeN]
          by_cases hjm : j < sl.len * size
          · rw [if_neg (by omega), if_pos hjm, h0, Nat.zero_add]
          · rw [if_pos (by omega), if_neg hjm]
        · rw [← h10.2, hnl, hnsz, ← Nat.add_mul]
      · rw [if_neg h0] at h10
        simp only [ob_eq, Option.some.injEq, Prod.mk.injEq] at h10
        obtain ⟨old, g1, g2, g3⟩ := h10
        obtain ⟨g4, g5⟩ := readN_get g1
        refine ⟨writeN (old ++ r.2) 0 .leaf, fun j hj => ?_, g2.symm, ?_⟩
        · rw [get_writeN, if_pos ⟨Nat.zero_le _, by simp; omega⟩, Nat.sub_zero]
          by_cases hjm : j < sl.len * size
          · rw [if_pos hjm, List.getElem?_append_left (by omega), g5 j hjm]
          · rw [if_neg hjm, List.getElem?_append_right (by omega), g4]
        · rw [← g3]
          show _ = (⟨Nat.succ h.next, (h.m.set sl.b .dead).set h.next (.cells (sl.len * size + r.2.length) (writeN (old ++ r.2) 0 .leaf))⟩ : Hp)
          have : len (old ++ r.2) = sl.len * size + r.2.length := by rw [len_eq, List.length_append, g4]
          rw [← this]; rfl
    subst hv' hh'
    cases hs
    rename_i p A cap' hp h16 h17 h18
    rw [h7] at h18
    have hbr := hw.blk sl.b p _ hp h5
    have hbr0 := hbr
    cases hbr with
    | @cells _ _ _ _ cur el0 g1 g2 g3 g4 =>
    have hkd : alive h sl.b := ⟨_, h5, by simp⟩
    by_cases hroom : sl.len + r.1 ≤ cap'
    · -- in place
      have hfit : p.O + sl.off + sl.len * size + news.length ≤ cur.size := by
        rcases h18 with ⟨_, h18⟩ | h18
        · have : (sl.len + r.1) * size ≤ cap' * size := Nat.mul_le_mul_right _ hroom
          rw [Nat.add_mul] at this
          omega
        · have e1 : sl.len = 0 := by omega
          have e2 : r.1 = 0 := by omega
          rw [e1, Nat.zero_mul] at h8 ⊢
          rw [e2, Nat.zero_mul] at hnsz
          omega
      have hst : (storeCells (A.add (sl.len * size)) news).run P w = .ok () (w.setRow p.B (splice cur (p.O + sl.off + sl.len * size) news)) := by
        rcases h18 with ⟨rfl, h18⟩ | h18
        · rw [add_mk]
          have := run_storeCells_at P p.B (p.O + sl.off + sl.len * size) el0 news 0 cur w g1 (by simpa using hfit) hsrc.one
          simp only [Nat.add_zero] at this
          exact this
        · have e2 : r.1 = 0 := by omega
          rw [e2, Nat.zero_mul] at hnsz
          have e3 : news = [] := List.eq_nil_of_length_eq_zero hnsz
          subst e3
          have : splice cur (p.O + sl.off + sl.len * size) [] = cur := by unfold splice; simp
          rw [this, setRow_self w p.B cur el0 (0, 0) g1]
          rfl
      have hrun := Src.store t ty el i hsm.hu hsm.hi hsm.size (some A) sl.len cap' hsrc hroom hst
      have hnew := BR.appended (ι := ι) g1 hbr0 hnr hns h8 (by omega) hT (setRow_heap w p.B cur (splice cur (p.O + sl.off + sl.len * size) news) el0 _ g1)
      have hx' := upd_ext (ι := ι) (⟨p.B, p.O + sl.off, p.Z⟩ : Pl) (hw.fresh (Nat.le_refl _))
      obtain ⟨k1, k2⟩ := hw.reuse (w' := w.setRow p.B (splice cur (p.O + sl.off + sl.len * size) news)) hp hkd (q := ⟨p.B, p.O + sl.off, p.Z⟩) rfl (hnew.mono hx')
        (fun k hk => setRow_other w p.B k _ hk) (by simp) rfl rfl rfl
      refine ⟨_, _, _, hrun, ?_, k1, k2⟩
      refine .slice (off := 0) (upd_same _ _ _) (Nat.le_refl _) hroom ?_
      rcases h18 with ⟨rfl, h18⟩ | h18
      · exact .inl ⟨rfl, by show p.O + sl.off + 0 + cap' * size ≤ p.Z; omega⟩
      · exact .inr h18
    · -- a new row
      have hlt : cap' < sl.len + r.1 := by omega
      have hos : p.O + sl.off + sl.len * size ≤ cur.size := by omega
      have holl : ((cur.toList.drop (p.O + sl.off)).take (sl.len * size)).length = sl.len * size := by simp; omega
      have hold : ∀ j, j < sl.len * size → ((cur.toList.drop (p.O + sl.off)).take (sl.len * size))[j]? = cur[p.O + sl.off + j]? := fun j hj => by
        rw [List.getElem?_take, if_pos hj, List.getElem?_drop]; simp
      have hofirst : (Builtin.firstCells i.size sl.len (.slice (some A) sl.len cap')).run P w.drew = .ok ((cur.toList.drop (p.O + sl.off)).take (sl.len * size)).toArray w.drew := by
        rw [hsm.size]
        refine run_firstCells_some w.drew size sl.len A sl.len cap' _ holl fun j u hj => ?_
        have hjl : j < sl.len * size := by
          rcases Nat.lt_or_ge j (sl.len * size) with hlt | hge
          · exact hlt
          · rw [List.getElem?_eq_none (by omega)] at hj; cases hj
        rw [hold j hjl] at hj
        rcases h18 with ⟨rfl, _⟩ | h18
        · rw [add_mk, World.cell?_drew, cell_of_row _ _ _ _ _ _ g1]; exact hj
        · have : sl.len = 0 := by omega
          rw [this, Nat.zero_mul] at hjl
          omega
      have hrun := run_append_grow_src (P := P) w t u ty el i z hsm.hu hsm.hi hsm.hz (some A) sl.len cap' _ hofirst x' r.1 news (by rw [hsm.size]; exact hsrc) hlt (by omega) (hby _ h9 _ hlt)
      have hge := grownCap_ge w (sl.len + r.1) cap' el
      have hzc : (Builtin.zeroCells z.cells (grownCap w (sl.len + r.1) cap' el - (sl.len + r.1))).size = (grownCap w (sl.len + r.1) cap' el - (sl.len + r.1)) * size := by rw [size_zeroCells, hsm.zero]
      generalize hcap : grownCap w (sl.len + r.1) cap' el = cap at *
      obtain ⟨k1, k2⟩ := hw.kill hp
      have hnew := BR.grown (ι := ι) (upd_ext (ι := ι) (⟨w.heap.size, 0, sl.len * size + r.2.length + (Builtin.zeroCells z.cells (cap - (sl.len + r.1))).size⟩ : Pl) (id := h.next) (hw.fresh (Nat.le_refl _))) g1 hbr0 hnr hns h8 hT holl hold
        (Builtin.zeroCells z.cells (cap - (sl.len + r.1))) (B := w.heap.size) (heap_alloc_new w.drew (.cells ((((cur.toList.drop (p.O + sl.off)).take (sl.len * size)) ++ news).toArray ++ Builtin.zeroCells z.cells (cap - (sl.len + r.1))) el))
      obtain ⟨k3, k4⟩ := grown_rel k1 _ _ _ hnew
      refine ⟨_, _, _, hrun, ?_, k3, k2.trans k4⟩
      refine .slice (off := 0) (upd_same _ _ _) (Nat.le_refl _) hge (.inl ⟨rfl, ?_⟩)
      show 0 + 0 + cap * size ≤ sl.len * size + r.2.length + _
      rw [hzc, hnl, hnsz, ← Nat.add_mul, ← Nat.add_mul]
      have : sl.len + r.1 + (cap - (sl.len + r.1)) = cap := by omega
      rw [this]; omega

theorem append_ok (c : Call) (s x : Operand) (t u : TypeId) (hc : c.callee = .builtin .append) (ha : c.args.toList = [s, x]) (ht : c.argTypes.toList = [t, u]) :
    WriteOK P ⟨dst, .call c, type, pos, after, guard⟩ (cAppend (smallT P t && srcOk P u) (elemSize P t) s x) := by
  intro call ι nt ds e a v h h' w K Q hcall hact hw hf hK
  cases hok : (smallT P t && srcOk P u) with
  | false => rw [hok] at hf; simp [cAppend, wfail] at hf
  | true =>
  cases hn : elemSize P t with
  | none => rw [hok, hn] at hf; simp [cAppend, wfail] at hf
  | some n =>
    rw [hok, hn] at hf
    simp only [cAppend, ob_eq] at hf
    obtain ⟨sv, h1, xv, h2, h3⟩ := hf
    rw [Bool.and_eq_true] at hok
    obtain ⟨el, i, z, hsm⟩ := small_of hok.1 hn
    have ha : c.args = #[s, x] := Array.ext' ha
    have ht : c.argTypes = #[t, u] := Array.ext' ht
    obtain ⟨v', κ, w', g1, g2, g3, g4⟩ := append_rel (P := P) hw hsm hok.2 (ev_rel hact h1) (ev_rel hact h2) h3 type
    refine wp_of_run (v := v') (w' := w') ?_ (hK v' κ w' g2 g3 g4)
    rw [callP c .append hc]
    have e1 : c.args.map a.eval = #[a.eval s, a.eval x] := by rw [ha]; simp
    rw [e1, ht]
    simp only [builtin, Sem.run_bind, g1, Result.andThen_ok, Sem.run_pure]

theorem call_ok (hN : ∀ (f : Nat) (fn : Func), P.funcs[f]? = some fn → (fn.name == "runtime.NumGoroutine") = false) (c : Call) (f : Operand) (hc : c.callee = .value f) :
    WriteOK P ⟨dst, .call c, type, pos, after, guard⟩ (cCall f c.args.toList) := by
  intro call ι nt ds e a v h h' w K Q hcall hact hw hf hK
  simp only [cCall, ob_eq] at hf
  obtain ⟨fv, h1, g, h2, args, h3, h4⟩ := hf
  rw [func?_eq] at h2; subst h2
  have h4 : call g.f (g.first ++ args ++ g.cap) h = some (v, h') := h4
  have hx := ev_rel hact h1
  have hargs := evs_rel hact h3
  obtain ⟨⟨fn, h5, h6⟩, h7⟩ := hcall _ _ _ _ _ h4
  cases hX : a.eval f <;> rw [hX] at hx <;> cases hx
  rename_i l' c' h8 h9
  have h10 := h7 ι w _ hw ((h8.append hargs).append h9)
  have hrun : (execOp a.eval ⟨dst, .call c, type, pos, after, guard⟩).run P w = .ok (.enter g.f ⟨l' ++ c.args.toList.map a.eval ++ c'⟩) w := by
    show (do let d ← resolve a.eval c type; invoke d.target d.args : Sem Next).run P w = _
    unfold resolve
    rw [hc]
    simp only [hX, Deferred.ofValue, pure_bind, invoke, callFunc]
    have e1 : ((⟨l'⟩ : Array Value) ++ c.args.map a.eval ++ ⟨c'⟩) = ⟨l' ++ c.args.toList.map a.eval ++ c'⟩ := Array.ext' (by simp)
    simp only [e1, Sem.run_bind, run_program, Result.andThen_ok, h5, hN _ _ h5]
    cases hb : fn.body with
    | none => rw [hb] at h6; cases h6
    | some b => simp [hb]
  unfold Oper.wp
  rw [hrun]
  refine Calls.mono h10 fun en w'' hen => ?_
  obtain ⟨v', κ, rfl, g1, g2, g3⟩ := hen
  exact hK v' κ w'' g1 g2 g3

theorem evCallW_ok (hN : ∀ (f : Nat) (fn : Func), P.funcs[f]? = some fn → (fn.name == "runtime.NumGoroutine") = false) (c : Call) : WriteOK P ⟨dst, .call c, type, pos, after, guard⟩ (evCallW P c) := by
  intro call ι nt ds e a v h h' w K Q hcall hact hw hf hK
  cases hc : c.callee with
  | invoke r n => simp [evCallW, hc, wfail] at hf
  | value f => simp only [evCallW, hc] at hf; exact call_ok hN c f hc hcall hact hw hf hK
  | builtin b =>
    cases b
    case append =>
      rcases ha : c.args.toList with _ | ⟨s, _ | ⟨x, _ | ⟨y, l⟩⟩⟩
      · simp [evCallW, hc, ha, wfail] at hf
      · simp [evCallW, hc, ha, wfail] at hf
      · rcases ht : c.argTypes.toList with _ | ⟨t, _ | ⟨u, _ | ⟨y, l⟩⟩⟩
        · simp [evCallW, hc, ha, ht, wfail] at hf
        · simp [evCallW, hc, ha, ht, wfail] at hf
        · simp only [evCallW, hc, ha, ht] at hf
          exact append_ok c s x t u hc ha ht hcall hact hw hf hK
        · simp [evCallW, hc, ha, ht, wfail] at hf
      · simp [evCallW, hc, ha, wfail] at hf
    all_goals simp [evCallW, hc, wfail] at hf

theorem mapStr_eq {t : TypeId} (h : mapStr P t = true) : ∃ k el, P.underlying t = some (.map k el) ∧ P.underlying k = some .string := by
  unfold mapStr at h
  split at h
  · rename_i k el hu; exact ⟨k, el, hu, isStrT_eq.1 h⟩
  · simp at h
theorem insert_ok (t : TypeId) (m k x : Operand) : WriteOK P ⟨dst, .insert t m k x, type, pos, after, guard⟩ (cInsert (mapStr P t) m k x) := by
  intro call ι nt ds e a v h h' w K Q hcall hact hw hf hK
  cases hok : mapStr P t with
  | false => rw [hok] at hf; simp [cInsert, wfail] at hf
  | true =>
    rw [hok] at hf
    simp only [cInsert, ob_eq, bi_none, Option.some.injEq, Prod.mk.injEq] at hf
    obtain ⟨mv, h1, r, h2, kv, h3, s, h4, xv, h5, B, h6, h7, rfl, rfl⟩ := hf
    rw [map?_eq] at h2; subst h2
    rw [str?_eq] at h4; subst h4
    rw [isMap_eq] at h7; subst h7
    obtain ⟨kt, el, hu, hk⟩ := mapStr_eq hok
    have hm := ev_rel hact h1
    have hkk := ev_rel hact h3
    cases hM : a.eval m <;> rw [hM] at hm <;> cases hm
    rename_i q hq
    cases hKv : a.eval k <;> rw [hKv] at hkk <;> cases hkk
    cases hw.blk r q _ hq h6 with
    | emap g1 =>
      rename_i clock
      have hlt : q.B < w.heap.size := (hw.lt r q hq).2
      have hrun := run_mapUpdate_first (P := P) (w := w) t kt el q.B clock s (a.eval x) hu hk g1
      obtain ⟨k1, k2⟩ := hw.trash (w' := { w with heap := w.heap.setIfInBounds q.B (.map #[{ key := .string s, val := a.eval x, born := clock }] (clock + 1)) }) hq ⟨_, h6, by simp⟩
        (fun j hj => by show (w.heap.setIfInBounds q.B _)[j]? = _; rw [Array.getElem?_setIfInBounds_ne (Ne.symm hj)]) (by simp) rfl rfl rfl
      have hex : (execOp a.eval ⟨dst, .insert t m k x, type, pos, after, guard⟩).run P w = .ok .skip { w with heap := w.heap.setIfInBounds q.B (.map #[{ key := .string s, val := a.eval x, born := clock }] (clock + 1)) } := by
        have : execOp a.eval ⟨dst, .insert t m k x, type, pos, after, guard⟩ = (do Instr.mapUpdate t (a.eval m) (a.eval k) (a.eval x); pure .skip : Sem Next) := rfl
        rw [this, hM, hKv, Sem.run_bind, hrun]
        rfl
      unfold Oper.wp
      rw [hex]
      exact hK _ ι _ (.tup .nil) k1 k2

theorem evW_ok (hN : ∀ (f : Nat) (fn : Func), P.funcs[f]? = some fn → (fn.name == "runtime.NumGoroutine") = false) (op : Op) : WriteOK P ⟨dst, op, type, pos, after, guard⟩ (evW P op) := by
  intro call ι nt ds e a v h h' w K Q hcall hact hw hf hK
  cases op
  case store t x y => exact store_ok t x y hcall hact hw hf hK
  case insert t m k x => exact insert_ok t m k x hcall hact hw hf hK
  case call c => exact evCallW_ok hN c hcall hact hw hf hK
  all_goals (have hf : wfail call e h = some (v, h') := hf; simp [wfail] at hf)
end
end Go.Ev
