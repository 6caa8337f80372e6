/- A part of an evaluator of the model's calls and of the proof that it tells the truth. Conditions: those that the theorems name. -/
import Derived.Test.YtadnhiagecamhaaGreatDoorEvH
import Derived.WideMake
namespace Go.Ev
open Go.RowKit
set_option linter.unusedVariables false
set_option linter.unusedSimpArgs false

theorem splice_get (l xs : List Value) (k : Nat) (h : k + xs.length ≤ l.length) (j : Nat) :
    (l.take k ++ xs ++ l.drop (k + xs.length))[j]? = if k ≤ j ∧ j < k + xs.length then xs[j - k]? else l[j]? := by
  have h1 : (l.take k).length = k := by simp; omega
  rw [List.append_assoc]
  by_cases hj : j < k
  · rw [List.getElem?_append_left (by omega), List.getElem?_take, if_pos hj, if_neg (by omega)]
  · rw [List.getElem?_append_right (by omega), h1]
    by_cases hj2 : j < k + xs.length
    · rw [List.getElem?_append_left (by omega), if_pos (by omega)]
    · rw [List.getElem?_append_right (by omega), if_neg (by omega), List.getElem?_drop]
      congr 1; omega

def splice (cur : Array Value) (k : Nat) (xs : List Value) : Array Value := (cur.toList.take k ++ xs ++ cur.toList.drop (k + xs.length)).toArray
theorem splice_size {cur : Array Value} {k : Nat} {xs : List Value} (h : k + xs.length ≤ cur.size) : (splice cur k xs).size = cur.size := by
  simp [splice]; omega
theorem splice_at {cur : Array Value} {k : Nat} {xs : List Value} (h : k + xs.length ≤ cur.size) (j : Nat) : (splice cur k xs)[j]? = if k ≤ j ∧ j < k + xs.length then xs[j - k]? else cur[j]? := by
  unfold splice
  rw [List.getElem?_toArray, splice_get _ _ _ (by simpa using h)]
  simp

/-- Cells written in place. -/
theorem BR.wrote {ι : Inj} {n : Nat} {t : Tri AV} {p : Pl} {w w' : World} {cur : Array Value} {el : TypeId} (hc : w.heap[p.B]? = some (.cells cur el (0, 0))) (hb : BR ι (.cells n t) p w)
    {x : List AV} {xs : List Value} (hx : VRs ι x xs) (hs : ∀ v ∈ x, v.simple = true) {off : Nat} (ho : off + x.length ≤ n) (hw' : w'.heap[p.B]? = some (.cells (splice cur (p.O + off) xs) el (0, 0))) :
    BR ι (.cells n (writeN x off t)) p w' := by
  cases hb with
  | cells g1 g2 g3 g4 =>
    rw [hc] at g1
    simp only [Option.some.injEq, Obj.cells.injEq] at g1
    obtain ⟨rfl, rfl, _⟩ := g1
    have hl := hx.length
    have hfit : p.O + off + xs.length ≤ cur.size := by omega
    refine .cells hw' (by rw [splice_size hfit]; exact g2) g3 fun i v hi hv => ?_
    rw [get_writeN] at hv
    rw [splice_at hfit]
    by_cases hin : off ≤ i ∧ i < off + x.length
    · rw [if_pos hin] at hv
      rw [if_pos (by omega)]
      obtain ⟨v', h1, h2⟩ := hx.get hv
      exact ⟨hs v (List.mem_of_getElem? hv), v', by rw [← h1]; congr 1; omega, h2⟩
    · rw [if_neg hin] at hv
      rw [if_neg (by omega)]
      exact g4 i v hi hv

theorem WR.write {ι : Inj} {h : Hp} {w : World} (hw : WR ι h w) {b : Nat} {p : Pl} (hb : ι b = some p) {n : Nat} {t : Tri AV} (hk : h.m.get b = some (.cells n t))
    {x : List AV} {xs : List Value} (hx : VRs ι x xs) (hs : ∀ v ∈ x, v.simple = true) {off : Nat} (ho : off + x.length ≤ n) :
    ∃ cur el, w.heap[p.B]? = some (.cells cur el (0, 0)) ∧ p.O + off + xs.length ≤ cur.size ∧
      WR ι ⟨h.next, h.m.set b (.cells n (writeN x off t))⟩ (w.setRow p.B (splice cur (p.O + off) xs)) ∧
      Fr ι h w ι ⟨h.next, h.m.set b (.cells n (writeN x off t))⟩ (w.setRow p.B (splice cur (p.O + off) xs)) := by
  have hbr := hw.blk b p _ hb hk
  cases hbr with
  | @cells _ _ _ _ cur el g1 g2 g3 g4 =>
    have hl := hx.length
    refine ⟨cur, el, g1, by omega, ⟨fun c q hc => ?_, fun c q B hc hB => ?_, fun c d q r hc hd hne h1 h2 => ?_⟩, ?_⟩
    · have := hw.lt c q hc
      exact ⟨this.1, by simpa using this.2⟩
    · by_cases e : c = b
      · subst e
        rw [hb, Option.some.injEq] at hc; subst hc
        rw [Tri.get_set_same, Option.some.injEq] at hB; subst hB
        exact BR.wrote g1 (hw.blk c p _ hb hk) hx hs ho (setRow_heap w p.B cur _ el _ g1)
      · rw [Tri.get_set_ne _ _ _ e] at hB
        by_cases hd : B = .dead
        · subst hd; exact .dead
        · have hne : q.B ≠ p.B := hw.sep c b q p hc hb e ⟨B, hB, hd⟩ ⟨_, hk, by simp⟩
          exact (hw.blk c q B hc hB).world (setRow_other w p.B q.B _ hne)
    · have live : ∀ k, alive ⟨h.next, h.m.set b (.cells n (writeN x off t))⟩ k → alive h k := by
        rintro k ⟨B, hB, hn⟩
        by_cases e : k = b
        · subst e; exact ⟨_, hk, by simp⟩
        · have hB : (h.m.set b (.cells n (writeN x off t))).get k = some B := hB
          rw [Tri.get_set_ne _ _ _ e] at hB
          exact ⟨B, hB, hn⟩
      exact hw.sep c d q r hc hd hne (live c h1) (live d h2)
    · refine ⟨Ext.refl ι, Nat.le_refl _, fun c hc hn => ⟨hn, .of_eq ?_⟩, by simp, fun B hB hi => ?_, fun c q hc hn => by (rw [hn] at hc; cases hc), rfl, rfl, rfl⟩
      · rw [Tri.get_set_ne]
        rintro rfl; rw [hb] at hn; cases hn
      · exact setRow_other w p.B B _ (fun e => hi b p hb e.symm)

/-- What a function's call does. -/
def CallOK (P : Program) (call : CallF) : Prop :=
  ∀ f args h v h', call f args h = some (v, h') → (∃ fn, P.funcs[f]? = some fn ∧ fn.body.isSome = true) ∧
    ∀ (ι : Inj) (w : World) (args' : List Value), WR ι h w → VRs ι args args' →
      Calls P f ⟨args'⟩ w fun e w' => ∃ v' κ, e = .returned v' ∧ VR κ v v' ∧ WR κ h' w' ∧ Fr ι h w κ h' w'

/-- An operation that writes. -/
def WriteOK (P : Program) (o : Oper) (f : WF) : Prop :=
  ∀ {call : CallF} {ι : Inj} {nt : Nat} {ds : List Deferred} {e : Env} {a : Act} {v : AV} {h h' : Hp} {w : World} {K : Act → World → Prop} {Q : Exit → Act → World → Prop}, CallOK P call → AR ι nt ds e a → WR ι h w →
    f call e h = some (v, h') → (∀ v' κ w', VR κ v v' → WR κ h' w' → Fr ι h w κ h' w' → K (a.put o.dst v') w') → o.wp P a w K Q

theorem wp_of_run {P : Program} {o : Oper} {a : Act} {w w' : World} {v : Value} {K : Act → World → Prop} {Q : Exit → Act → World → Prop} (h : (execOp a.eval o).run P w = .ok (.value v) w') (hK : K (a.put o.dst v) w') : o.wp P a w K Q := by
  unfold Oper.wp
  rw [h]
  exact hK

section
variable {P : Program} {dst : Option Tmp} {type : TypeId} {pos : String} {after : Array Edge} {guard : Option (Nat × Bool)}

theorem wfail_ok {o : Oper} : WriteOK P o wfail := by intro call ι nt ds e a v h h' w K Q _ _ _ hf; simp [wfail] at hf

theorem store_ok (t : TypeId) (x y : Operand) : WriteOK P ⟨dst, .store t x y, type, pos, after, guard⟩ (cStore (sizeT P t) x y) := by
  intro call ι nt ds e a v h h' w K Q hcall ha hw hf hK
  cases hn : sizeT P t with
  | none => rw [hn] at hf; simp [cStore, wfail] at hf
  | some n =>
    rw [hn] at hf
    simp only [cStore, storeK, ob_eq, bi_none, nbeq_t, nble_t, len_eq, Option.some.injEq, Prod.mk.injEq, Nat.add_eq] at hf
    obtain ⟨av, h1, p, h2, xv, h3, xc, h4, k, h5, c, h6, h7, h8, rfl, rfl⟩ := hf
    rw [ptr?_eq] at h2; subst h2
    rw [cells?_eq] at h6; subst h6
    have hx := ev_rel ha h1
    obtain ⟨hl, hs⟩ := (ev_rel ha h3).cells h4
    cases hX : a.eval x <;> rw [hX] at hx <;> cases hx
    rename_i q hq
    obtain ⟨cur, el, g1, g2, g3, g4⟩ := hw.write hq h5 hl hs (off := p.2) (by omega)
    have hst := run_storeCells_at P q.B (q.O + p.2) el (a.eval y).cells.toList 0 cur w g1 (by simpa using g2) (hl.one hs)
    simp only [Nat.add_zero] at hst
    have hsz : (a.eval y).cells.size = n := by rw [← h7, hl.length]; simp
    have hrun : (execOp a.eval ⟨dst, .store t x y, type, pos, after, guard⟩).run P w = .ok .skip (w.setRow q.B (splice cur (q.O + p.2) (a.eval y).cells.toList)) := by
      have : execOp a.eval ⟨dst, .store t x y, type, pos, after, guard⟩ = (do Instr.storeAt t (a.eval x) (a.eval y); pure .skip : Sem Next) := rfl
      rw [this, hX]
      simp only [Instr.storeAt, Instr.sureAddr, storeVar, Sem.run_bind, Sem.run_pure, Result.andThen_ok, run_sizeOf hn, hsz]
      simp only [ne_eq, not_true_eq_false, if_false, Sem.run_pure, Result.andThen_ok]
      rw [hst]
      rfl
    unfold Oper.wp
    rw [hrun]
    exact hK _ ι _ (.tup .nil) g3 g4

/-- What is appended. -/
theorem src_rel {ι : Inj} {h : Hp} {w : World} (hw : WR ι h w) {u : TypeId} (hu : srcOk P u = true) {size : Nat} {x : AV} {x' : Value} (hx : VR ι x x') {r : Nat × List AV} (hr : srcA h size x = some r) :
    ∃ news, Src P size u x' r.1 news w ∧ VRs ι r.2 news ∧ ∀ v ∈ r.2, v.simple = true := by
  have kind : (∃ e', P.underlying u = some (.slice e')) ∨ P.underlying u = some .string := by
    unfold srcOk at hu
    split at hu
    · rename_i e he; exact .inl ⟨e, he⟩
    · rename_i he; exact .inr he
    · simp at hu
  unfold srcA at hr
  rw [bi_if] at hr
  by_cases hn : x.isNilSlice = true
  · rw [if_pos hn, Option.some.injEq] at hr; subst hr
    rw [nilSlice_eq] at hn; subst hn
    cases hx
    exact ⟨[], ⟨kind, fun _ => rfl, run_firstCells_none w size 0 0 0, run_firstCells_none w.drew size 0 0 0, by simp, fun _ hh => by cases hh⟩, .nil, by simp⟩
  · rw [if_neg hn] at hr
    cases hsl : x.slice? with
    | none =>
      rw [hsl] at hr
      have hr : (ob x.str? fun s => bi (Nat.beq size (nat_lit 1)) (some (s.size, s.data.toList.map fun b => AV.int .u8 b.toNat)) none) = some r := hr
      simp only [ob_eq, bi_none, nbeq_t, Option.some.injEq] at hr
      obtain ⟨s, h1, h2, rfl⟩ := hr
      have h2 : size = 1 := h2
      subst h2
      rw [str?_eq] at h1; subst h1
      cases hx
      refine ⟨byteCells s, ⟨kind, fun _ => rfl, firstCells_string s w, firstCells_string s w.drew, by rw [byteCells_length, Nat.mul_one], fun v hv => ?_⟩, ?_, ?_⟩
      · obtain ⟨_, _, rfl⟩ := List.mem_map.1 hv
        rfl
      · have : ∀ l : List UInt8, VRs ι (l.map fun b => AV.int .u8 b.toNat) (l.map fun b => Value.int .u8 b.toNat) := by
          intro l
          induction l with
          | nil => exact .nil
          | cons b l ih => exact .cons (.int _ _) ih
        exact this _
      · intro v hv
        obtain ⟨_, _, rfl⟩ := List.mem_map.1 hv
        rfl
    | some s =>
      rw [hsl] at hr
      have hr : srcS h size s = some r := hr
      simp only [srcS, ob_eq, bi_none, nble_t, Option.some.injEq, Nat.add_eq, Nat.mul_eq] at hr
      obtain ⟨k, h1, c, h2, h3, l, h4, rfl⟩ := hr
      rw [slice?_eq] at hsl; subst hsl
      cases hx
      rename_i p A cap' hp h16 h17 h18
      obtain ⟨l', a1, a2, a3, a4⟩ := blk_read hw hp h1 h2 h3 h4
      have hcells : ∀ (j : Nat) v, l'[j]? = some v → w.cell? (A.add j) = some v := by
        intro j v hv
        rcases h18 with ⟨rfl, _⟩ | h18
        · exact a4 j v hv
        · have : s.len = 0 := by omega
          rw [this, Nat.zero_mul] at a1
          rw [List.eq_nil_of_length_eq_zero a1] at hv
          simp at hv
      exact ⟨l', ⟨kind, fun _ => rfl, run_firstCells_some w size s.len A s.len cap' l' a1 hcells, run_firstCells_some w.drew size s.len A s.len cap' l' a1 (by simpa using hcells), a1, a2.one a3⟩, a2, a3⟩

theorem Src.store {size : Nat} {tx : TypeId} {x : Value} {n : Nat} {news : List Value} {w w' : World} (t ty e : TypeId) (i : TypeInfo) (ht : P.underlying t = some (.slice e)) (hi : P.info? e = some i) (hz : i.size = size) (base : Option Addr) (sLen sCap : Nat) (hs : Src P size tx x n news w)
    (hroom : sLen + n ≤ sCap) (hst : ((match base with | some a => storeCells (a.add (sLen * size)) news | none => pure ()) : Sem Unit).run P w = .ok () w') :
    (Builtin.append_ #[t, tx] ty #[.slice base sLen sCap, x]).run P w = .ok (.slice base (sLen + n) sCap) w' := by
  subst hz
  rcases hs.kind with ⟨e', hk⟩ | hk <;> cases base <;> simp [Builtin.append_, run_underlying ht, run_underlying hk, sizeOf, typeInfo, hi, hs.len, hroom, hs.cells] at hst ⊢ <;> simp [hst]

structure Small (P : Program) (t el : TypeId) (n : Nat) (i : TypeInfo) (z : Value) : Prop where
  hu : P.underlying t = some (.slice el)
  hi : P.info? el = some i
  hz : i.zero = some z
  size : i.size = n
  bytes : i.bytes ≤ 65536
  zero : z.cells.size = n
theorem small_of {t : TypeId} {n : Nat} (h1 : smallT P t = true) (h2 : elemSize P t = some n) : ∃ el i z, Small P t el n i z := by
  simp only [elemSize, ob_eq] at h2
  obtain ⟨el, h3, h4⟩ := h2
  unfold smallT at h1
  rw [h3, ob_some] at h1
  obtain ⟨i, h5, h6⟩ := sizeT_eq h4
  rw [h5] at h1
  cases hz : i.zero with
  | none => simp [hz] at h1
  | some z =>
    simp only [hz, Bool.and_eq_true, nble_t, nbeq_t] at h1
    exact ⟨el, i, z, elemT_eq.1 h3, h5, hz, h6, h1.1, h1.2.trans h6⟩

theorem grow_fits {n old b : Nat} (h : old < n) (h1 : n ≤ 65536) (h2 : b ≤ 65536) : Builtin.nextslicecap n old * b ≤ 281474976710656 := by
  refine growslice_fits h ?_
  have := Nat.mul_le_mul h1 h2
  omega

end

theorem readN_get {t : Tri AV} : ∀ {n off : Nat} {l : List AV}, readN t n off = some l → l.length = n ∧ ∀ i, i < n → l[i]? = t.get (off + i)
  | 0, off, l, h => by rw [readN_zero, Option.some.injEq] at h; subst h; exact ⟨rfl, fun i hi => by omega⟩
  | n + 1, off, l, h => by
    rw [readN_succ] at h
    simp only [ob_eq, Option.some.injEq] at h
    obtain ⟨v, h1, r, h2, rfl⟩ := h
    obtain ⟨h3, h4⟩ := readN_get h2
    refine ⟨by simp [h3], fun i hi => ?_⟩
    cases i with
    | zero => simpa using h1.symm
    | succ i =>
      rw [List.getElem?_cons_succ, h4 i (by omega)]
      congr 1; omega

/-- The new block's cells behind an append. -/
def AppT (t : Tri AV) (off m : Nat) (xl : List AV) (T : Tri AV) : Prop := ∀ i, i < m + xl.length → T.get i = if i < m then t.get (off + i) else xl[i - m]?

theorem BR.appended {ι : Inj} {c : Cl} {p : Pl} {w w' : World} {cur : Array Value} {el : TypeId} (hc : w.heap[p.B]? = some (.cells cur el (0, 0))) (hb : BR ι (.cells c.n c.t) p w)
    {xl : List AV} {news : List Value} (hx : VRs ι xl news) (hs : ∀ v ∈ xl, v.simple = true) {off m : Nat} (ho : off + m ≤ c.n) (hfit : p.O + off + m + news.length ≤ p.Z) {T : Tri AV} (hT : AppT c.t off m xl T)
    (hw' : w'.heap[p.B]? = some (.cells (splice cur (p.O + off + m) news) el (0, 0))) : BR ι (.cells (m + xl.length) T) ⟨p.B, p.O + off, p.Z⟩ w' := by
  cases hb with
  | cells g1 g2 g3 g4 =>
    rw [hc] at g1
    simp only [Option.some.injEq, Obj.cells.injEq] at g1
    obtain ⟨rfl, rfl, _⟩ := g1
    have hl := hx.length
    have hfit' : p.O + off + m + news.length ≤ cur.size := by omega
    refine .cells hw' (by rw [splice_size hfit']; exact g2) (by show p.O + off + (m + xl.length) ≤ p.Z; omega) fun i v hi hv => ?_
    rw [hT i hi] at hv
    show v.simple = true ∧ ∃ v', (splice cur (p.O + off + m) news)[p.O + off + i]? = some v' ∧ _
    rw [splice_at hfit']
    by_cases hin : i < m
    · rw [if_pos hin] at hv
      rw [if_neg (by omega)]
      have := g4 (off + i) v (by omega) hv
      rw [← Nat.add_assoc] at this
      exact this
    · rw [if_neg hin] at hv
      rw [if_pos (by omega)]
      obtain ⟨v', h1, h2⟩ := hx.get hv
      exact ⟨hs v (List.mem_of_getElem? hv), v', by rw [← h1]; congr 1; omega, h2⟩

/-- The cells that a grown row takes over. -/
theorem BR.grown {ι κ : Inj} (hx' : Ext ι κ) {c : Cl} {p : Pl} {w w' : World} {cur : Array Value} {el el' : TypeId} (hc : w.heap[p.B]? = some (.cells cur el (0, 0))) (hb : BR ι (.cells c.n c.t) p w)
    {xl : List AV} {news : List Value} (hx : VRs ι xl news) (hs : ∀ v ∈ xl, v.simple = true) {off m : Nat} (ho : off + m ≤ c.n) {T : Tri AV} (hT : AppT c.t off m xl T)
    {olds : List Value} (hol : olds.length = m) (hold : ∀ j, j < m → olds[j]? = cur[p.O + off + j]?) (z : Array Value) {B : Nat}
    (hw' : w'.heap[B]? = some (.cells ((olds ++ news).toArray ++ z) el' (0, 0))) : BR κ (.cells (m + xl.length) T) ⟨B, 0, m + xl.length + z.size⟩ w' := by
  cases hb with
  | cells g1 g2 g3 g4 =>
    rw [hc] at g1
    simp only [Option.some.injEq, Obj.cells.injEq] at g1
    obtain ⟨rfl, rfl, _⟩ := g1
    have hl := hx.length
    refine .cells hw' (by simp [hl, hol]) (by show 0 + (m + xl.length) ≤ m + xl.length + z.size; omega) fun i v hi hv => ?_
    rw [hT i hi] at hv
    show v.simple = true ∧ ∃ v', ((olds ++ news).toArray ++ z)[0 + i]? = some v' ∧ _
    rw [Nat.zero_add, Array.getElem?_append_left (by simp; omega), List.getElem?_toArray]
    by_cases hin : i < m
    · rw [if_pos hin] at hv
      obtain ⟨a, v', b, d⟩ := g4 (off + i) v (by omega) hv
      refine ⟨a, v', ?_, d.mono hx'⟩
      rw [List.getElem?_append_left (by omega), hold i hin, ← b]
      congr 1; omega
    · rw [if_neg hin] at hv
      obtain ⟨v', h1, h2⟩ := hx.get hv
      refine ⟨hs v (List.mem_of_getElem? hv), v', ?_, h2.mono hx'⟩
      rw [List.getElem?_append_right (by omega), hol]
      exact h1

/-- A row in place of an elder one. -/
theorem WR.reuse {ι : Inj} {h : Hp} {w w' : World} (hw : WR ι h w) {b : Nat} {p q : Pl} (hb : ι b = some p) (hk : alive h b) (hq : q.B = p.B) {B : Blk}
    (hbr : BR (ι.upd h.next q) B q w') (hsame : ∀ k, k ≠ p.B → w'.heap[k]? = w.heap[k]?) (hsz : w'.heap.size = w.heap.size) (ht : w'.tape = w.tape) (hos : w'.os = w.os) (hout : w'.output = w.output) :
    WR (ι.upd h.next q) ⟨Nat.succ h.next, (h.m.set b .dead).set h.next B⟩ w' ∧ Fr ι h w (ι.upd h.next q) ⟨Nat.succ h.next, (h.m.set b .dead).set h.next B⟩ w' := by
  have hn : ι h.next = none := hw.fresh (Nat.le_refl _)
  have hx := upd_ext q hn
  have hbn : b ≠ h.next := Nat.ne_of_lt (hw.lt b p hb).1
  have getn : ((h.m.set b .dead).set h.next B).get h.next = some B := Tri.get_set_same _ _ _
  have getb : ((h.m.set b .dead).set h.next B).get b = some .dead := by rw [Tri.get_set_ne _ _ _ hbn, Tri.get_set_same]
  have geto : ∀ c, c ≠ h.next → c ≠ b → ((h.m.set b .dead).set h.next B).get c = h.m.get c := fun c h1 h2 => by rw [Tri.get_set_ne _ _ _ h1, Tri.get_set_ne _ _ _ h2]
  refine ⟨⟨fun c r hc => ?_, fun c r K hc hK => ?_, fun c d r s hc hd hne h1 h2 => ?_⟩, ⟨hx, Nat.le_succ _, fun c hc hi => ⟨by rw [upd_ne]; exact hi; omega, .of_eq (geto c (by omega) (by rintro rfl; rw [hb] at hi; cases hi))⟩, by omega, fun k _ hi => hsame k fun e => hi b p hb e.symm, fun c r hc hi => ?_, ht, hos, hout⟩⟩
  · by_cases e : c = h.next
    · subst e; rw [upd_same, Option.some.injEq] at hc; subst hc; exact ⟨Nat.lt_succ_self _, by rw [hsz, hq]; exact (hw.lt b p hb).2⟩
    · rw [upd_ne _ _ e] at hc
      have := hw.lt c r hc
      exact ⟨Nat.lt_succ_of_lt this.1, by rw [hsz]; exact this.2⟩
  · by_cases e : c = h.next
    · subst e
      rw [upd_same, Option.some.injEq] at hc; subst hc
      have hK : ((h.m.set b .dead).set h.next B).get h.next = some K := hK
      rw [getn, Option.some.injEq] at hK; subst hK
      exact hbr
    · rw [upd_ne _ _ e] at hc
      have hK : ((h.m.set b .dead).set h.next B).get c = some K := hK
      by_cases e2 : c = b
      · subst e2; rw [getb, Option.some.injEq] at hK; subst hK; exact .dead
      · rw [geto c e e2] at hK
        by_cases hd : K = .dead
        · subst hd; exact .dead
        · exact ((hw.blk c r K hc hK).mono hx).world (hsame r.B (hw.sep c b r p hc hb e2 ⟨K, hK, hd⟩ hk))
  · obtain ⟨B1, h1, n1⟩ := h1
    obtain ⟨B2, h2, n2⟩ := h2
    have h1 : ((h.m.set b .dead).set h.next B).get c = some B1 := h1
    have h2 : ((h.m.set b .dead).set h.next B).get d = some B2 := h2
    have dead1 : c ≠ b := by
      rintro rfl
      rw [getb, Option.some.injEq] at h1
      exact n1 h1.symm
    have dead2 : d ≠ b := by
      rintro rfl
      rw [getb, Option.some.injEq] at h2
      exact n2 h2.symm
    by_cases e : c = h.next
    · subst e
      rw [upd_same, Option.some.injEq] at hc; subst hc
      rw [upd_ne _ _ (Ne.symm hne)] at hd
      rw [geto d (Ne.symm hne) dead2] at h2
      rw [hq]
      exact (hw.sep d b s p hd hb dead2 ⟨B2, h2, n2⟩ hk).symm
    · rw [upd_ne _ _ e] at hc
      rw [geto c e dead1] at h1
      by_cases e2 : d = h.next
      · subst e2
        rw [upd_same, Option.some.injEq] at hd; subst hd
        rw [hq]
        exact hw.sep c b r p hc hb dead1 ⟨B1, h1, n1⟩ hk
      · rw [upd_ne _ _ e2] at hd
        rw [geto d e2 dead2] at h2
        exact hw.sep c d r s hc hd hne ⟨B1, h1, n1⟩ ⟨B2, h2, n2⟩
  · by_cases e : c = h.next
    · subst e; rw [upd_same, Option.some.injEq] at hc; subst hc; exact .inr ⟨b, p, hb, hq.symm⟩
    · rw [upd_ne _ _ e, hi] at hc; cases hc

/-- A block is given up. -/
theorem WR.kill {ι : Inj} {h : Hp} {w : World} (hw : WR ι h w) {b : Nat} {p : Pl} (hb : ι b = some p) :
    WR ι ⟨h.next, h.m.set b .dead⟩ w ∧ Fr ι h w ι ⟨h.next, h.m.set b .dead⟩ w := by
  have live : ∀ c, alive ⟨h.next, h.m.set b .dead⟩ c → alive h c := by
    rintro c ⟨B, hB, hn⟩
    have hB : (h.m.set b .dead).get c = some B := hB
    by_cases e : c = b
    · subst e; rw [Tri.get_set_same, Option.some.injEq] at hB; exact absurd hB.symm hn
    · rw [Tri.get_set_ne _ _ _ e] at hB; exact ⟨B, hB, hn⟩
  refine ⟨⟨hw.lt, fun c r K hc hK => ?_, fun c d r s hc hd hne h1 h2 => hw.sep c d r s hc hd hne (live c h1) (live d h2)⟩,
    ⟨Ext.refl ι, Nat.le_refl _, fun c hc hi => ⟨hi, .of_eq (Tri.get_set_ne _ _ _ (by rintro rfl; rw [hb] at hi; cases hi))⟩, Nat.le_refl _, fun _ _ _ => rfl, fun c r hc hi => by (rw [hi] at hc; cases hc), rfl, rfl, rfl⟩⟩
  have hK : (h.m.set b .dead).get c = some K := hK
  by_cases e : c = b
  · subst e; rw [Tri.get_set_same, Option.some.injEq] at hK; subst hK; exact .dead
  · rw [Tri.get_set_ne _ _ _ e] at hK
    exact hw.blk c r K hc hK

/-- A block is given up, and the world's block changes. -/
theorem WR.trash {ι : Inj} {h : Hp} {w w' : World} (hw : WR ι h w) {b : Nat} {p : Pl} (hb : ι b = some p) (hk : alive h b)
    (hsame : ∀ k, k ≠ p.B → w'.heap[k]? = w.heap[k]?) (hsz : w'.heap.size = w.heap.size) (ht : w'.tape = w.tape) (hos : w'.os = w.os) (hout : w'.output = w.output) :
    WR ι ⟨h.next, h.m.set b .dead⟩ w' ∧ Fr ι h w ι ⟨h.next, h.m.set b .dead⟩ w' := by
  obtain ⟨k1, k2⟩ := hw.kill hb
  refine ⟨⟨fun c r hc => by have := hw.lt c r hc; exact ⟨this.1, by rw [hsz]; exact this.2⟩, fun c r K hc hK => ?_, k1.sep⟩,
    ⟨k2.ext, k2.next, k2.unborn, by omega, fun B _ hi => hsame B fun e => hi b p hb e.symm, k2.fresh, ht, hos, hout⟩⟩
  by_cases e : c = b
  · subst e
    have hK : (h.m.set c .dead).get c = some K := hK
    rw [Tri.get_set_same, Option.some.injEq] at hK; subst hK; exact .dead
  · by_cases hd : K = .dead
    · subst hd; exact .dead
    · have hK' : (h.m.set b .dead).get c = some K := hK
      rw [Tri.get_set_ne _ _ _ e] at hK'
      exact (k1.blk c r K hc hK).world (hsame r.B (hw.sep c b r p hc hb e ⟨K, hK', hd⟩ hk))

theorem WR.drew {ι : Inj} {h : Hp} {w : World} (hw : WR ι h w) : WR ι h w.drew := by
  refine ⟨hw.lt, fun c r K hc hK => (hw.blk c r K hc hK).world rfl, hw.sep⟩
theorem Fr.drew {ι : Inj} {h : Hp} {w : World} : Fr ι h w ι h w.drew :=
  ⟨Ext.refl ι, Nat.le_refl _, fun b _ hb => ⟨hb, .of_eq rfl⟩, Nat.le_refl _, fun _ _ _ => rfl, fun b p h1 h2 => (by rw [h2] at h1; cases h1), rfl, rfl, rfl⟩
end Go.Ev
