/- A part of an evaluator of the model's calls and of the proof that it tells the truth. Conditions: those that the theorems name. -/
import Derived.Test.YtadnhiagecamhaaGreatDoorEvG
namespace Go.Ev
open Go.RowKit
set_option linter.unusedVariables false
set_option linter.unusedSimpArgs false

/-- What a piece of work leaves alone. -/
structure Fr (ι : Inj) (h : Hp) (w : World) (κ : Inj) (h' : Hp) (w' : World) : Prop where
  ext : Ext ι κ
  next : h.next ≤ h'.next
  unborn : ∀ b, b < h.next → ι b = none → κ b = none ∧ SubG (h.m.get b) (h'.m.get b)
  size : w.heap.size ≤ w'.heap.size
  out : ∀ B, B < w.heap.size → (∀ b p, ι b = some p → p.B ≠ B) → w'.heap[B]? = w.heap[B]?
  fresh : ∀ b p, κ b = some p → ι b = none → w.heap.size ≤ p.B ∨ ∃ c q, ι c = some q ∧ q.B = p.B
  tape : w'.tape = w.tape
  os : w'.os = w.os
  output : w'.output = w.output

theorem Fr.refl (ι : Inj) (h : Hp) (w : World) : Fr ι h w ι h w :=
  ⟨Ext.refl ι, Nat.le_refl _, fun b _ hb => ⟨hb, .of_eq rfl⟩, Nat.le_refl _, fun _ _ _ => rfl, fun b p h1 h2 => (by rw [h2] at h1; cases h1), rfl, rfl, rfl⟩

theorem Fr.trans {ι κ μ : Inj} {h h' h'' : Hp} {w w' w'' : World} (a : Fr ι h w κ h' w') (b : Fr κ h' w' μ h'' w'') : Fr ι h w μ h'' w'' where
  ext := a.ext.trans b.ext
  next := Nat.le_trans a.next b.next
  unborn := fun c hc hn => by
    obtain ⟨h1, h2⟩ := a.unborn c hc hn
    obtain ⟨h3, h4⟩ := b.unborn c (Nat.lt_of_lt_of_le hc a.next) h1
    exact ⟨h3, h2.trans h4⟩
  size := Nat.le_trans a.size b.size
  out := fun B hB hi => by
    rw [b.out B (Nat.lt_of_lt_of_le hB a.size) fun c p hc he => ?_, a.out B hB hi]
    cases hi2 : ι c with
    | some q =>
      have := a.ext c q hi2
      rw [this] at hc
      rw [Option.some.injEq] at hc; subst hc
      exact hi c q hi2 he
    | none =>
      rcases a.fresh c p hc hi2 with h1 | ⟨d, q, h1, h2⟩
      · omega
      · exact hi d q h1 (h2.trans he)
  fresh := fun c p hc hn => by
    cases hk : κ c with
    | some q =>
      have := b.ext c q hk
      rw [this] at hc
      rw [Option.some.injEq] at hc; subst hc
      exact a.fresh c q hk hn
    | none =>
      rcases b.fresh c p hc hk with h1 | ⟨d, q, h1, h2⟩
      · exact .inl (Nat.le_trans a.size h1)
      · cases hd : ι d with
        | some q' =>
          have := a.ext d q' hd
          rw [this] at h1
          rw [Option.some.injEq] at h1; subst h1
          exact .inr ⟨d, q', hd, h2⟩
        | none =>
          rcases a.fresh d q h1 hd with h3 | ⟨f, r, h3, h4⟩
          · exact .inl (by rw [← h2]; exact h3)
          · exact .inr ⟨f, r, h3, h4.trans h2⟩
  tape := b.tape.trans a.tape
  os := b.os.trans a.os
  output := b.output.trans a.output

theorem writeN_nil (off : Nat) (t : Tri AV) : writeN [] off t = t := rfl
theorem writeN_cons (v : AV) (l : List AV) (off : Nat) (t : Tri AV) : writeN (v :: l) off t = writeN l (off + 1) (t.set off v) := rfl
theorem get_writeN : ∀ (l : List AV) (off : Nat) (t : Tri AV) (k : Nat), (writeN l off t).get k = if off ≤ k ∧ k < off + l.length then l[k - off]? else t.get k
  | [], off, t, k => by rw [writeN_nil, if_neg (by simp)]
  | v :: l, off, t, k => by
    rw [writeN_cons, get_writeN l, Tri.get_set]
    by_cases h : k = off
    · subst h; rw [if_neg (by omega), if_pos rfl, if_pos (by simp)]; simp
    · by_cases h2 : off ≤ k ∧ k < off + (v :: l).length
      · rw [if_pos h2, if_pos (by simp only [List.length_cons] at h2; omega)]
        have : k - off = (k - (off + 1)) + 1 := by omega
        rw [this, List.getElem?_cons_succ]
      · rw [if_neg h2, if_neg (by simp only [List.length_cons] at h2; omega), if_neg h]

theorem cellsOf_rel {ι : Inj} {l : List AV} {l' : List Value} (h : VRs ι l l') (hs : ∀ x ∈ l, x.simple = true) {w : World} {p : Pl} {el : TypeId} (hb : w.heap[p.B]? = some (.cells ⟨l'⟩ el (0, 0))) (hO : p.O = 0) (hZ : p.Z = l.length) :
    BR ι (cellsOf l) p w := by
  refine .cells hb (by simp [hZ, h.length]) (by rw [hO, hZ, len_eq]; omega) fun i v hi hv => ?_
  rw [len_eq] at hi
  rw [get_writeN, if_pos ⟨Nat.zero_le _, by show i < 0 + l.length; omega⟩] at hv
  have hv : l[i]? = some v := hv
  obtain ⟨v', h1, h2⟩ := h.get hv
  exact ⟨hs v (List.mem_of_getElem? hv), v', by rw [hO]; simpa using h1, h2⟩

/-- An operation that only makes a block. -/
def MakeOK (P : Program) (o : Oper) (f : AF) : Prop :=
  ∀ {ι : Inj} {nt : Nat} {ds : List Deferred} {e : Env} {a : Act} {m : Mk} (w : World), AR ι nt ds e a → f e = some m →
    ∃ (obj : Obj) (n : Nat) (v' : Value), (execOp a.eval o).run P w = .ok (.value v') { w with heap := w.heap.push obj } ∧
      ∀ κ, Ext ι κ → (∀ w' : World, w'.heap[w.heap.size]? = some obj → BR κ m.blk ⟨w.heap.size, 0, n⟩ w') ∧ ∀ id, κ id = some ⟨w.heap.size, 0, n⟩ → VR κ (m.val id) v'

theorem rep_rel {ι : Inj} {z : List AV} {z' : List Value} (h : VRs ι z z') : ∀ n, VRs ι (rep z n) (List.replicate n z').flatten
  | 0 => .nil
  | n + 1 => by rw [List.replicate_succ, List.flatten_cons]; exact h.append (rep_rel h n)
theorem rep_simple {z : List AV} (h : ∀ x ∈ z, x.simple = true) : ∀ n, ∀ x ∈ rep z n, x.simple = true
  | 0, x, hx => by cases hx
  | n + 1, x, hx => by
    rcases List.mem_append.1 hx with hx | hx
    · exact h x hx
    · exact rep_simple h n x hx
theorem rep_length (z : List AV) : ∀ n, (rep z n).length = n * z.length
  | 0 => by simp [rep]
  | n + 1 => by rw [rep, List.length_append, rep_length z n, Nat.succ_mul]; omega
theorem range_rep (z : List Value) (k : Nat) : (Array.range (k * z.length)).map (fun i => (⟨z⟩ : Array Value)[i % z.length]!) = ⟨(List.replicate k z).flatten⟩ := by
  apply Array.ext'
  simp only [Array.toList_map, Array.toList_range]
  apply List.ext_getElem?
  intro i
  simp only [List.getElem?_map]
  induction k generalizing i with
  | zero => simp
  | succ k ih =>
    rw [List.replicate_succ, List.flatten_cons]
    by_cases hi : i < z.length
    · rw [List.getElem?_append_left hi]
      have : i < (k + 1) * z.length := by rw [Nat.succ_mul]; omega
      rw [List.getElem?_range this]
      simp [Nat.mod_eq_of_lt hi, hi]
    · rw [List.getElem?_append_right (by omega), ← ih]
      by_cases h2 : i < (k + 1) * z.length
      · have h3 : i - z.length < k * z.length := by rw [Nat.succ_mul] at h2; omega
        rw [List.getElem?_range h2, List.getElem?_range h3]
        have : i % z.length = (i - z.length) % z.length := by
          rw [← Nat.add_mod_right (i - z.length) z.length]
          congr 1; omega
        simp [this]
      · have h3 : ¬ i - z.length < k * z.length := by rw [Nat.succ_mul] at h2; omega
        rw [List.getElem?_eq_none (by simpa using h2), List.getElem?_eq_none (by simpa using h3)]

section
variable {P : Program} {dst : Option Tmp} {type : TypeId} {pos : String} {after : Array Edge} {guard : Option (Nat × Bool)}

theorem afail_ok {o : Oper} : MakeOK P o afail := by intro ι nt ds e a m w _ hf; simp [afail] at hf

theorem ptr_made {ι : Inj} {l : List AV} {l' : List Value} (hl : VRs ι l l') (hs : ∀ x ∈ l, x.simple = true) (el : TypeId) (w : World) :
    ∀ κ, Ext ι κ → (∀ w' : World, w'.heap[w.heap.size]? = some (.cells ⟨l'⟩ el (0, 0)) → BR κ (Mk.blk (.ptr l)) ⟨w.heap.size, 0, l.length⟩ w') ∧
      ∀ id, κ id = some ⟨w.heap.size, 0, l.length⟩ → VR κ (Mk.val id (.ptr l)) (.pointer (some ⟨w.heap.size, 0, none⟩)) :=
  fun κ hx => ⟨fun w' hb => cellsOf_rel (hl.mono hx) hs hb rfl rfl, fun id hid => VR.ptr (off := 0) hid⟩

theorem slice_made {ι : Inj} {l : List AV} {l' : List Value} (hl : VRs ι l l') (hs : ∀ x ∈ l, x.simple = true) (el : TypeId) (w : World) (n cap es : Nat) (h1 : n ≤ cap) (h2 : l.length = cap * es) :
    ∀ κ, Ext ι κ → (∀ w' : World, w'.heap[w.heap.size]? = some (.cells ⟨l'⟩ el (0, 0)) → BR κ (Mk.blk (.slice l n cap es)) ⟨w.heap.size, 0, l.length⟩ w') ∧
      ∀ id, κ id = some ⟨w.heap.size, 0, l.length⟩ → VR κ (Mk.val id (.slice l n cap es)) (.slice (some ⟨w.heap.size, 0, none⟩) n cap) :=
  fun κ hx => ⟨fun w' hb => cellsOf_rel (hl.mono hx) hs hb rfl rfl, fun id hid => VR.slice (off := 0) hid h1 (Nat.le_refl _) (.inl ⟨rfl, by simp [h2]⟩)⟩

theorem alloc_ok (t : TypeId) : MakeOK P ⟨dst, .alloc t, type, pos, after, guard⟩ (cAlloc (zeroT P t)) := by
  intro ι nt ds e a m w ha hf
  cases hz : zeroT P t with
  | none => rw [hz] at hf; simp [cAlloc, afail] at hf
  | some z =>
    rw [hz] at hf
    simp only [cAlloc, ob_eq, Option.some.injEq] at hf
    obtain ⟨l, h1, rfl⟩ := hf
    obtain ⟨zv, h2, h3⟩ := run_zeroValue (P := P) (w := w) hz
    obtain ⟨hl, hs⟩ := (ofV_rel (ι := ι) h3).cells h1
    refine ⟨.cells zv.cells t (0, 0), l.length, .pointer (some ⟨w.heap.size, 0, none⟩), of_run (s := Instr.alloc t true (.tuple #[])) rfl ?_, ptr_made hl hs t w⟩
    simp [Instr.alloc, h2, newVar, newRow]

theorem box_ok (t : TypeId) (x : Operand) : MakeOK P ⟨dst, .box t x, type, pos, after, guard⟩ (cBox x) := by
  intro ι nt ds e a m w ha hf
  simp only [cBox, ob_eq, Option.some.injEq] at hf
  obtain ⟨v, h1, l, h2, rfl⟩ := hf
  obtain ⟨hl, hs⟩ := (ev_rel ha h1).cells h2
  refine ⟨.cells (a.eval x).cells t (0, 0), l.length, .pointer (some ⟨w.heap.size, 0, none⟩), of_run (s := Instr.box t (a.eval x)) rfl ?_, ptr_made hl hs t w⟩
  simp [Instr.box, newVar, newRow]

theorem elemZero {t : TypeId} {z : AV} (h : ob (elemT P t) (zeroT P) = some z) : ∃ el, P.underlying t = some (.slice el) ∧ zeroT P el = some z := by
  rw [ob_eq] at h
  obtain ⟨el, h1, h2⟩ := h
  exact ⟨el, elemT_eq.1 h1, h2⟩
theorem elemSize_eq {t el : TypeId} {n : Nat} (h : elemSize P t = some n) (hu : P.underlying t = some (.slice el)) : sizeT P el = some n := by
  simp only [elemSize, ob_eq] at h
  obtain ⟨el', h1, h2⟩ := h
  rw [elemT_eq, hu] at h1
  simp only [Option.some.injEq, TypeDesc.slice.injEq] at h1
  rw [h1]; exact h2

theorem exec_buildSlice (ρ : Operand → Value) (t : TypeId) (n : Nat) (ps : Array (Nat × Operand)) :
    execOp ρ ⟨dst, .buildSlice t n ps, type, pos, after, guard⟩ = (do pure (.value (← Instr.buildSlice t n (ps.map fun (i, x) => (i, ρ x)))) : Sem Next) := by
  simp only [execOp]
theorem exec_makeSlice (ρ : Operand → Value) (t : TypeId) (x y : Operand) :
    execOp ρ ⟨dst, .makeSlice t x y, type, pos, after, guard⟩ = (do pure (.value (← Instr.makeSlice t (ρ x) (ρ y))) : Sem Next) := by
  simp only [execOp]
theorem buildSlice_ok (t : TypeId) (n : Nat) (ps : Array (Nat × Operand)) :
    MakeOK P ⟨dst, .buildSlice t n ps, type, pos, after, guard⟩ (cBuildSlice (elemSize P t) (ob (elemT P t) (zeroT P)) n ps.toList) := by
  intro ι nt ds e a m w ha hf
  cases hn : elemSize P t with
  | none => rw [hn] at hf; simp [cBuildSlice, afail] at hf
  | some k =>
  cases hz : ob (elemT P t) (zeroT P) with
  | none => rw [hn, hz] at hf; simp [cBuildSlice, afail] at hf
  | some z =>
    rw [hn, hz] at hf
    simp only [cBuildSlice, ob_eq, bi_none, nble_t, nbeq_t, len_eq, Option.some.injEq] at hf
    obtain ⟨zc, h1, l, h2, h3, h4, rfl⟩ := hf
    have h3 : n * k ≤ 16777216 := h3
    obtain ⟨el, hu, hz⟩ := elemZero hz
    have hk := elemSize_eq hn hu
    obtain ⟨zv, h5, h6⟩ := run_zeroValue (P := P) (w := w) hz
    obtain ⟨hl, hs⟩ := (ofV_rel (ι := ι) h6).cells h1
    obtain ⟨l', h7, h8, h9, h10⟩ := fillG_rel ha _ h2 (rep_rel hl n) (rep_simple hs n)
    have hzl : zv.cells.toList.length = k := by rw [← hl.length, h4]
    have hzs : zv.cells.size = k := by simpa using hzl
    refine ⟨.cells ⟨l'⟩ el (0, 0), l.length, .slice (some ⟨w.heap.size, 0, none⟩) n n, of_run (exec_buildSlice _ _ _ _) ?_,
      slice_made h8 h9 el w n n k (Nat.le_refl _) (by rw [h10, rep_length, h4])⟩
    have h3' : ¬ (n * k > 2 ^ 24) := by omega
    have e1 : (ps.map fun (i, x) => (i, a.eval x)).toList = ps.toList.map fun p => (p.1, a.eval p.2) := by simp
    have hr := range_rep zv.cells.toList n
    rw [hzl] at hr
    have hfill : Instr.fill (fun i => some (i * k, k)) ⟨(List.replicate n zv.cells.toList).flatten⟩ (ps.toList.map fun p => (p.1, a.eval p.2)) = some ⟨l'⟩ := h7
    unfold Instr.buildSlice
    simp only [Sem.run_bind, run_underlying' hu, Result.andThen_ok, run_sizeOf hk]
    rw [if_neg h3']
    by_cases h0 : n * k = 0
    · rw [if_pos h0]
      have hr0 : (⟨(List.replicate n zv.cells.toList).flatten⟩ : Array Value) = #[] := by
        have := congrArg Array.toList hr
        rw [h0] at this
        simp only [Array.toList_map, Array.toList_range, List.range_zero, List.map_nil] at this
        rw [← this]
      rw [hr0] at hfill
      simp [h0, newRow, e1]
      have e0 : (Array.range 0).map (fun _ : Nat => (default : Value)) = #[] := Array.ext' (by simp)
      rw [e0, hfill]
      simp
    · rw [if_neg h0]
      have hr' : ((Array.range (n * k)).map fun i => zv.cells[i % zv.cells.size]!) = ⟨(List.replicate n zv.cells.toList).flatten⟩ := by
        rw [← hr, hzs]
      simp only [Sem.run_bind, Sem.run_pure, h5, Result.andThen_ok, hr', e1, hfill]
      simp [newRow]

theorem wrap64 (n : Nat) (h : n ≤ 65536) : IntKind.i64.wrap (n : Int) = n := wrap_id .i64 n (by show n ≤ 9223372036854775807; omega)

theorem makeSlice_ok (t : TypeId) (x y : Operand) :
    MakeOK P ⟨dst, .makeSlice t x y, type, pos, after, guard⟩ (cMakeSlice (smallT P t) (elemSize P t) (ob (elemT P t) (zeroT P)) x y) := by
  intro ι nt ds e a m w ha hf
  cases hsm : smallT P t with
  | false => rw [hsm] at hf; simp [cMakeSlice, afail] at hf
  | true =>
  cases hn : elemSize P t with
  | none => rw [hsm, hn] at hf; simp [cMakeSlice, afail] at hf
  | some k =>
  cases hz : ob (elemT P t) (zeroT P) with
  | none => rw [hsm, hn, hz] at hf; simp [cMakeSlice, afail] at hf
  | some z =>
    rw [hsm, hn, hz] at hf
    simp only [cMakeSlice, ob_eq, bi_none, nble_t, nbeq_t, len_eq, Option.some.injEq] at hf
    obtain ⟨zc, h1, xv, h2, yv, h3, n, h4, cap, h5, h6, h7, h8, rfl⟩ := hf
    have h7 : cap ≤ 65536 := h7
    obtain ⟨el, hu, hz⟩ := elemZero hz
    have hk := elemSize_eq hn hu
    obtain ⟨kx, e2⟩ := bound_rel h4 (ev_rel ha h2)
    obtain ⟨ky, e3⟩ := bound_rel h5 (ev_rel ha h3)
    obtain ⟨zv, h9, h10⟩ := run_zeroValue (P := P) (w := w) hz
    obtain ⟨hl, hs⟩ := (ofV_rel (ι := ι) h10).cells h1
    have hzl : zv.cells.toList.length = k := by rw [← hl.length, h8]
    have hzs : zv.cells.size = k := by simpa using hzl
    unfold smallT at hsm
    rw [elemT_eq.2 hu, ob_some] at hsm
    cases hi : P.info? el with
    | none => rw [hi] at hsm; simp at hsm
    | some i =>
    rw [hi] at hsm
    cases hiz : i.zero with
    | none => simp [hiz] at hsm
    | some iz =>
    simp only [hiz, Bool.and_eq_true, nble_t] at hsm
    have hby : i.bytes ≤ 65536 := hsm.1
    have hmul : i.bytes * cap ≤ 65536 * 65536 := Nat.mul_le_mul hby h7
    refine ⟨.cells ⟨(List.replicate cap zv.cells.toList).flatten⟩ el (0, 0), (rep zc cap).length, .slice (some ⟨w.heap.size, 0, none⟩) n cap,
      of_run (exec_makeSlice _ _ _ _) ?_, slice_made (rep_rel hl cap) (rep_simple hs cap) el w n cap k h6 (by rw [rep_length, h8])⟩
    have hr := range_rep zv.cells.toList cap
    rw [hzl] at hr
    have c1 : ¬ ((cap : Int) < 0) := by omega
    have c2 : ¬ ((i.bytes : Int) * (cap : Int) > 2 ^ 48) := by
      have h1 : ((i.bytes * cap : Nat) : Int) ≤ 4294967296 := Int.ofNat_le.2 hmul
      rw [Int.natCast_mul] at h1
      have h2 : (2 : Int) ^ 48 = 281474976710656 := by decide
      rw [h2]
      omega
    have c3 : ¬ ((n : Int) < 0) := by omega
    have c4 : ¬ ((n : Int) > (cap : Int)) := by omega
    have hroom : (askRoom (cap * i.bytes)).run P w = .ok () w := by
      unfold askRoom
      by_cases hb : cap * i.bytes > roomBytes
      · rw [if_pos hb]; rfl
      · rw [if_neg hb]; rfl
    unfold Instr.makeSlice
    rw [e2, e3]
    simp only [Sem.run_bind, run_underlying' hu, Result.andThen_ok, asInt, asIntOf, Sem.run_pure, run_typeInfo hi, wrap64 n (by omega), wrap64 cap h7, Int.toNat_natCast, hroom, run_sizeOf hk]
    simp only [c1, c2, c3, c4, decide_false, Bool.or_self, Bool.false_eq_true, if_false]
    simp only [Sem.run_pure, Sem.run_bind, Result.andThen_ok, hroom, run_sizeOf hk]
    by_cases h0 : cap * k = 0
    · have hr0 : (⟨(List.replicate cap zv.cells.toList).flatten⟩ : Array Value) = #[] := by
        have := congrArg Array.toList hr
        rw [h0] at this
        simp only [Array.toList_map, Array.toList_range, List.range_zero, List.map_nil] at this
        rw [← this]
      rw [hr0]
      simp [h0, newRow]
      have e0 : (Array.range 0).map (fun _ : Nat => (default : Value)) = #[] := Array.ext' (by simp)
      rw [e0]
    · have hr' : ((Array.range (cap * k)).map fun i => zv.cells[i % zv.cells.size]!) = ⟨(List.replicate cap zv.cells.toList).flatten⟩ := by
        rw [← hr, hzs]
      rw [if_neg h0]
      simp only [Sem.run_bind, Sem.run_pure, h9, Result.andThen_ok, hr']
      simp [newRow]

theorem makeMap_ok (t : TypeId) : MakeOK P ⟨dst, .makeMap t none, type, pos, after, guard⟩ (fun _ => some .map) := by
  intro ι nt ds e a m w ha hf
  simp only [Option.some.injEq] at hf; subst hf
  refine ⟨.map #[] 0, 0, .map (some w.heap.size), of_run (s := Instr.makeMap t none) rfl (by simp [Instr.makeMap]), fun κ hx => ⟨fun w' hb => .emap hb, fun id hid => .map hid⟩⟩

theorem evA_ok (op : Op) : MakeOK P ⟨dst, op, type, pos, after, guard⟩ (evA P op) := by
  intro ι nt ds e a m w ha hf
  cases op
  case alloc t => exact alloc_ok t w ha hf
  case box t x => exact box_ok t x w ha hf
  case buildSlice t n ps => exact buildSlice_ok t n ps w ha hf
  case makeSlice t x y => exact makeSlice_ok t x y w ha hf
  case makeMap t r =>
    cases r with
    | none => exact makeMap_ok t w ha hf
    | some r => (have hf : afail e = some m := hf; simp [afail] at hf)
  all_goals (have hf : afail e = some m := hf; simp [afail] at hf)
end

/-! ### a block comes into the world -/
def Inj.upd (ι : Inj) (id : Nat) (p : Pl) : Inj := fun b => if b = id then some p else ι b
theorem upd_same (ι : Inj) (id : Nat) (p : Pl) : ι.upd id p id = some p := if_pos rfl
theorem upd_ne (ι : Inj) {id b : Nat} (p : Pl) (h : b ≠ id) : ι.upd id p b = ι b := if_neg h
theorem upd_ext {ι : Inj} {id : Nat} (p : Pl) (h : ι id = none) : Ext ι (ι.upd id p) := fun b q hb => by
  rw [upd_ne]
  · exact hb
  · rintro rfl; rw [h] at hb; cases hb

theorem heap_push_old {w : World} {o : Obj} {B : Nat} (h : B < w.heap.size) : ({ w with heap := w.heap.push o } : World).heap[B]? = w.heap[B]? := by
  show (w.heap.push o)[B]? = _
  rw [Array.getElem?_push, if_neg (Nat.ne_of_lt h)]
theorem heap_push_new (w : World) (o : Obj) : ({ w with heap := w.heap.push o } : World).heap[w.heap.size]? = some o := by
  show (w.heap.push o)[w.heap.size]? = _
  simp

/-- A block that the own heap has already comes into the world. -/
theorem WR.born {ι : Inj} {h : Hp} {w : World} (hw : WR ι h w) {id : Nat} {obj : Obj} {n : Nat} {B : Blk} (hid : ι id = none) (hlt : id < h.next) (hB : ∀ K, h.m.get id = some K → SubB B K)
    (hbr : BR (ι.upd id ⟨w.heap.size, 0, n⟩) B ⟨w.heap.size, 0, n⟩ { w with heap := w.heap.push obj }) : WR (ι.upd id ⟨w.heap.size, 0, n⟩) h { w with heap := w.heap.push obj } := by
  have hx := upd_ext (ι := ι) ⟨w.heap.size, 0, n⟩ hid
  refine ⟨fun b p hb => ?_, fun b p K hb hk => ?_, fun b c p q hb hc hne h1 h2 => ?_⟩
  · by_cases e : b = id
    · subst e; rw [upd_same, Option.some.injEq] at hb; subst hb; exact ⟨hlt, by simp⟩
    · rw [upd_ne _ _ e] at hb
      have := hw.lt b p hb
      exact ⟨this.1, by simp; omega⟩
  · by_cases e : b = id
    · subst e; rw [upd_same, Option.some.injEq] at hb; subst hb
      exact (hB K hk).2 _ _ _ hbr
    · rw [upd_ne _ _ e] at hb
      exact ((hw.blk b p K hb hk).mono hx).world (heap_push_old (hw.lt b p hb).2)
  · by_cases e : b = id
    · subst e; rw [upd_same, Option.some.injEq] at hb; subst hb
      rw [upd_ne _ _ (Ne.symm hne)] at hc
      have := (hw.lt c q hc).2
      show w.heap.size ≠ q.B
      omega
    · rw [upd_ne _ _ e] at hb
      by_cases e2 : c = id
      · subst e2; rw [upd_same, Option.some.injEq] at hc; subst hc
        have := (hw.lt b p hb).2
        show p.B ≠ w.heap.size
        omega
      · rw [upd_ne _ _ e2] at hc
        exact hw.sep b c p q hb hc hne h1 h2

theorem Fr.born {ι : Inj} {h : Hp} {w : World} {id : Nat} {obj : Obj} {n : Nat} (hid : ι id = none) (h' : Hp) (hn : h.next ≤ h'.next) (hge : h.next ≤ id) (hget : ∀ b, b < h.next → h'.m.get b = h.m.get b) :
    Fr ι h w (ι.upd id ⟨w.heap.size, 0, n⟩) h' { w with heap := w.heap.push obj } where
  ext := upd_ext _ hid
  next := hn
  unborn := fun b hb hi => ⟨by rw [upd_ne]; exact hi; omega, .of_eq (hget b hb)⟩
  size := by simp
  out := fun B hB _ => heap_push_old hB
  fresh := fun b p hb hi => by
    by_cases e : b = id
    · subst e; rw [upd_same, Option.some.injEq] at hb; subst hb; exact .inl (Nat.le_refl _)
    · rw [upd_ne _ _ e, hi] at hb; cases hb
  tape := rfl
  os := rfl
  output := rfl

theorem add_get (h : Hp) (B : Blk) (b : Nat) : (h.add B).m.get b = if b = h.next then some B else h.m.get b := Tri.get_set _ _ _ _
theorem WR.fresh {ι : Inj} {h : Hp} {w : World} (hw : WR ι h w) {b : Nat} (hb : h.next ≤ b) : ι b = none := by
  cases hi : ι b with
  | none => rfl
  | some p => have := (hw.lt b p hi).1; omega

/-- The own heap alone gets a block. -/
theorem WR.add {ι : Inj} {h : Hp} {w : World} (hw : WR ι h w) (B : Blk) : WR ι (h.add B) w := by
  refine ⟨fun b p hb => ⟨Nat.lt_succ_of_lt (hw.lt b p hb).1, (hw.lt b p hb).2⟩, fun b p K hb hk => ?_, fun b c p q hb hc hne h1 h2 => ?_⟩
  · rw [add_get, if_neg (Nat.ne_of_lt (hw.lt b p hb).1)] at hk
    exact hw.blk b p K hb hk
  · obtain ⟨B1, h1, n1⟩ := h1
    obtain ⟨B2, h2, n2⟩ := h2
    rw [add_get, if_neg (Nat.ne_of_lt (hw.lt b p hb).1)] at h1
    rw [add_get, if_neg (Nat.ne_of_lt (hw.lt c q hc).1)] at h2
    exact hw.sep b c p q hb hc hne ⟨B1, h1, n1⟩ ⟨B2, h2, n2⟩
end Go.Ev
