/- A part of an evaluator of the model's calls and of the proof that it tells the truth. Conditions: those that the theorems name. -/
import Derived.Test.YtadnhiagecamhaaGreatDoorEvF
import Derived.Deep.AppendSrc
import Derived.Laws.CopyRow
import Derived.Laws.Rows
import Derived.Laws.BytesString
namespace Go.Ev
open Go.RowKit
set_option linter.unusedVariables false
set_option linter.unusedSimpArgs false

/-- A block of the own heap, and the block of the world that it lies in. -/
inductive BR (ι : Inj) : Blk → Pl → World → Prop
  | cells {n : Nat} {t : Tri AV} {p : Pl} {w : World} {c : Array Value} {el : TypeId} : w.heap[p.B]? = some (.cells c el (0, 0)) → c.size = p.Z → p.O + n ≤ p.Z →
      (∀ i v, i < n → t.get i = some v → v.simple = true ∧ ∃ v', c[p.O + i]? = some v' ∧ VR ι v v') → BR ι (.cells n t) p w
  | emap {p : Pl} {w : World} {clock : Nat} : w.heap[p.B]? = some (.map #[] clock) → BR ι .emap p w
  | dead {p : Pl} {w : World} : BR ι .dead p w

/-- The second says no more than the first. -/
def SubB (B K : Blk) : Prop := (B = .dead → K = .dead) ∧ ∀ κ p w, BR κ B p w → BR κ K p w
theorem SubB.refl (B : Blk) : SubB B B := ⟨id, fun _ _ _ h => h⟩
theorem SubB.trans {A B C : Blk} (h : SubB A B) (k : SubB B C) : SubB A C := ⟨fun e => k.1 (h.1 e), fun κ p w e => k.2 κ p w (h.2 κ p w e)⟩
def SubG (x y : Option Blk) : Prop := ∀ K, y = some K → ∃ B, x = some B ∧ SubB B K
theorem SubG.of_eq {x y : Option Blk} (h : y = x) : SubG x y := fun K hK => ⟨K, h ▸ hK, .refl K⟩
theorem SubG.trans {x y z : Option Blk} (h : SubG x y) (k : SubG y z) : SubG x z := fun K hK => by
  obtain ⟨B, hB, s⟩ := k K hK
  obtain ⟨C, hC, s'⟩ := h B hB
  exact ⟨C, hC, s'.trans s⟩

/-- A block that the own heap knows. -/
def alive (h : Hp) (b : Nat) : Prop := ∃ B, h.m.get b = some B ∧ B ≠ .dead

/-- The own heap and the world. -/
structure WR (ι : Inj) (h : Hp) (w : World) : Prop where
  lt : ∀ b p, ι b = some p → b < h.next ∧ p.B < w.heap.size
  blk : ∀ b p B, ι b = some p → h.m.get b = some B → BR ι B p w
  sep : ∀ b c p q, ι b = some p → ι c = some q → b ≠ c → alive h b → alive h c → p.B ≠ q.B

theorem cells?_eq {b : Blk} {c : Cl} : b.cells? = some c ↔ b = .cells c.n c.t := by
  cases c; cases b <;> simp [Blk.cells?]
theorem isMap_eq {b : Blk} : b.isMap = true ↔ b = .emap := by cases b <;> simp [Blk.isMap]

theorem BR.mono {ι κ : Inj} (hx : Ext ι κ) {B : Blk} {p : Pl} {w : World} (h : BR ι B p w) : BR κ B p w := by
  cases h with
  | cells h1 h2 h3 h4 => exact .cells h1 h2 h3 fun i v hi hv => let ⟨a, v', b, c⟩ := h4 i v hi hv; ⟨a, v', b, c.mono hx⟩
  | emap h => exact .emap h
  | dead => exact .dead

/-- The same block elsewhere. -/
theorem BR.world {ι : Inj} {B : Blk} {p : Pl} {w w' : World} (h : BR ι B p w) (he : w'.heap[p.B]? = w.heap[p.B]?) : BR ι B p w' := by
  cases h with
  | cells h1 h2 h3 h4 => exact .cells (he.trans h1) h2 h3 h4
  | emap h => exact .emap (he.trans h)
  | dead => exact .dead

theorem readN_zero (t : Tri AV) (off : Nat) : readN t 0 off = some [] := rfl
theorem readN_succ (t : Tri AV) (n off : Nat) : readN t (n + 1) off = ob (t.get off) fun v => ob (readN t n (off + 1)) fun l => some (v :: l) := rfl

theorem readN_rel {ι : Inj} {t : Tri AV} {m O : Nat} {c : Array Value} (hc : ∀ i v, i < m → t.get i = some v → v.simple = true ∧ ∃ v', c[O + i]? = some v' ∧ VR ι v v') :
    ∀ {n off : Nat} {l : List AV}, off + n ≤ m → readN t n off = some l →
      ∃ l' : List Value, l'.length = n ∧ VRs ι l l' ∧ (∀ x ∈ l, x.simple = true) ∧ ∀ (j : Nat) v, l'[j]? = some v → c[O + off + j]? = some v
  | 0, off, l, _, h => by
    rw [readN_zero, Option.some.injEq] at h; subst h
    exact ⟨[], rfl, .nil, by simp, by simp⟩
  | n + 1, off, l, hm, h => by
    rw [readN_succ] at h
    simp only [ob_eq, Option.some.injEq] at h
    obtain ⟨v, h1, r, h2, rfl⟩ := h
    obtain ⟨s, v', h3, h4⟩ := hc off v (by omega) h1
    obtain ⟨r', h5, h6, h7, h8⟩ := readN_rel hc (by omega) h2
    refine ⟨v' :: r', by simp [h5], .cons h4 h6, by simpa using ⟨s, h7⟩, ?_⟩
    intro j u hu
    cases j with
    | zero => simp at hu; subst hu; exact h3
    | succ j =>
      have := h8 j u (by simpa using hu)
      rw [show O + (off + 1) + j = O + off + (j + 1) by omega] at this
      exact this

theorem VRs.one {ι : Inj} : ∀ {l : List AV} {l' : List Value}, VRs ι l l' → (∀ x ∈ l, x.simple = true) → ∀ v ∈ l', v.oneCell' = true
  | _, _, .nil, _, v, h => by cases h
  | _, _, .cons h1 h2, hs, v, h => by
    rcases List.mem_cons.1 h with rfl | h
    · exact h1.oneCell (hs _ (by simp))
    · exact VRs.one h2 (fun x hx => hs x (by simp [hx])) v h

/-- Cells of a block of the own heap: as the world has them. -/
theorem blk_read {ι : Inj} {h : Hp} {w : World} (hw : WR ι h w) {b : Nat} {p : Pl} (hb : ι b = some p) {k : Blk} {c : Cl} (h1 : h.m.get b = some k) (h2 : k.cells? = some c) {n off : Nat} (h3 : off + n ≤ c.n) {l : List AV}
    (h4 : readN c.t n off = some l) :
    ∃ l' : List Value, l'.length = n ∧ VRs ι l l' ∧ (∀ x ∈ l, x.simple = true) ∧ ∀ (j : Nat) v, l'[j]? = some v → w.cell? ((⟨p.B, p.O + off, none⟩ : Addr).add j) = some v := by
  rw [cells?_eq] at h2; subst h2
  cases hw.blk b p _ hb h1 with
  | cells g1 g2 g3 g4 =>
    obtain ⟨l', a1, a2, a3, a4⟩ := readN_rel g4 h3 h4
    refine ⟨l', a1, a2, a3, fun j v hv => ?_⟩
    rw [add_mk, cell_of_row _ _ _ _ _ _ g1]
    exact a4 j v hv

/-- An operation that only reads. -/
def ReadOK (P : Program) (o : Oper) (f : RF) : Prop :=
  ∀ {ι : Inj} {nt : Nat} {ds : List Deferred} {e : Env} {a : Act} {v : AV} {rd : Rd} {h : Hp} {w : World}, AR ι nt ds e a → WR ι h w → f e = some rd → rd.run h = some v →
    ∃ v', (execOp a.eval o).run P w = .ok (.value v') w ∧ VR ι v v'

section
variable {P : Program} {dst : Option Tmp} {type : TypeId} {pos : String} {after : Array Edge} {guard : Option (Nat × Bool)}

theorem rfail_ok {o : Oper} : ReadOK P o rfail := by intro ι nt ds e a v rd h w _ _ hf; simp [rfail] at hf

theorem rdLoad_rel {ι : Inj} {h : Hp} {w : World} (hw : WR ι h w) {b off n : Nat} {g : Bool} {v : AV} {t : TypeId} (hv : rdLoad h b off n g = some v) (hg : aggT P t = some g) (hn : sizeT P t = some n)
    {p : Pl} (hp : ι b = some p) : ∃ v', (Instr.loadAt t (.pointer (some ⟨p.B, p.O + off, none⟩))).run P w = .ok v' w ∧ VR ι v v' := by
  simp only [rdLoad, ob_eq, bi_none, nble_t, Nat.add_eq] at hv
  obtain ⟨k, h1, c, h2, h3, h4⟩ := hv
  have hrun : ∀ x, (Instr.loadAt t (.pointer (some x))).run P w = (loadVar t x).run P w := fun x => by simp [Instr.loadAt, Instr.sureAddr]
  rw [bi_if] at h4
  cases g with
  | true =>
    simp only [if_true, ob_eq, Option.some.injEq] at h4
    obtain ⟨l, h5, rfl⟩ := h4
    obtain ⟨l', g1, g2, g3, g4⟩ := blk_read hw hp h1 h2 h3 h5
    refine ⟨.agg ⟨l'⟩, ?_, .agg g2 g3⟩
    rw [hrun]
    have := run_loadCells_list (P := P) w _ l' g4
    rw [g1] at this
    simp [loadVar, run_isAgg hg, run_sizeOf hn, this]
  | false =>
    simp only [Bool.false_eq_true, if_false, bi_none, nbeq_t] at h4
    obtain ⟨rfl, h5⟩ := h4
    obtain ⟨l', g1, g2, g3, g4⟩ := blk_read hw hp h1 h2 h3 (l := [v]) (by rw [readN_succ, h5]; rfl)
    cases g2 with
    | cons g5 g6 =>
      cases g6
      rename_i v'
      refine ⟨v', ?_, g5⟩
      have := g4 0 v' (by simp)
      rw [hrun]
      have e : (⟨p.B, p.O + off, none⟩ : Addr).add 0 = ⟨p.B, p.O + off, none⟩ := rfl
      rw [e] at this
      simp [loadVar, run_isAgg hg, this]

theorem load_ok (t : TypeId) (x : Operand) : ReadOK P ⟨dst, .load t x, type, pos, after, guard⟩ (cLoad (aggT P t) (sizeT P t) x) := by
  intro ι nt ds e a v rd h w ha hw hf hr
  cases hg : aggT P t with
  | none => rw [hg] at hf; simp [cLoad, rfail] at hf
  | some g =>
  cases hn : sizeT P t with
  | none => rw [hg, hn] at hf; simp [cLoad, rfail] at hf
  | some n =>
    rw [hg, hn] at hf
    simp only [cLoad, ob_eq, Option.some.injEq] at hf
    obtain ⟨xv, h1, p, h2, rfl⟩ := hf
    rw [ptr?_eq] at h2; subst h2
    have hx := ev_rel ha h1
    cases hX : a.eval x <;> rw [hX] at hx <;> cases hx
    rename_i q hq
    have hr : rdLoad h p.1 p.2 n g = some v := hr
    obtain ⟨v', h3, h4⟩ := rdLoad_rel (P := P) hw hr hg hn hq
    exact ⟨v', of_run (s := Instr.loadAt t (a.eval x)) rfl (by rw [hX]; exact h3), h4⟩

theorem bytesOf_rel {ι : Inj} : ∀ {l : List AV} {l' : List Value} {s r : ByteArray}, bytesOf l s = some r → VRs ι l l' →
    ∃ ns : List Int, l' = ns.map (Value.int .u8) ∧ r = ns.foldl (fun r n => r.push (UInt8.ofNat n.toNat)) s
  | [], _, s, r, h, .nil => by simp only [bytesOf, Option.some.injEq] at h; subst h; exact ⟨[], rfl, rfl⟩
  | v :: l, _, s, r, h, .cons (l' := l') h1 h2 => by
    cases v with
    | int k n =>
      cases k
      case u8 =>
        cases h1
        have h : bytesOf l (s.push (UInt8.ofNat n.toNat)) = some r := h
        obtain ⟨ns, e1, e2⟩ := bytesOf_rel h h2
        exact ⟨n :: ns, by simp [e1], by simp [e2]⟩
      all_goals simp [bytesOf] at h
    | _ => simp [bytesOf] at h

theorem bytes_ok (src d : TypeId) (x : Operand) (hd : isStrT P d = true) : ReadOK P ⟨dst, .convert src d x, type, pos, after, guard⟩ (cBytes (ob (elemT P src) (kindT P)) x) := by
  intro ι nt ds e a v rd h w ha hw hf hr
  rw [isStrT_eq] at hd
  cases hk : ob (elemT P src) (kindT P) with
  | none => rw [hk] at hf; simp [cBytes, rfail] at hf
  | some k =>
    cases k
    case u8 =>
      rw [hk] at hf
      rw [ob_eq] at hk
      obtain ⟨el, h1, h2⟩ := hk
      rw [elemT_eq] at h1
      rw [kindT_eq] at h2
      simp only [cBytes, ob_eq] at hf
      obtain ⟨xv, h3, h4⟩ := hf
      have hx := ev_rel ha h3
      rw [bi_if] at h4
      by_cases hn : xv.isNilSlice = true
      · rw [if_pos hn, Option.some.injEq] at h4; subst h4
        rw [nilSlice_eq] at hn; subst hn
        have hr : some (AV.str ByteArray.empty) = some v := hr
        rw [Option.some.injEq] at hr; subst hr
        cases hX : a.eval x <;> rw [hX] at hx <;> cases hx
        refine ⟨.string ByteArray.empty, of_run (s := convert src d (a.eval x)) rfl ?_, .str _⟩
        rw [hX, run_convert_bytes_string w src d el _ _ _ h1 h2 hd]
        rfl
      · rw [if_neg hn] at h4
        simp only [ob_eq, Option.some.injEq] at h4
        obtain ⟨s, h5, rfl⟩ := h4
        rw [slice?_eq] at h5; subst h5
        have hr : rdBytes h s.b s.off s.len = some v := hr
        simp only [rdBytes, ob_eq, bi_none, nble_t, Nat.add_eq, Option.some.injEq] at hr
        obtain ⟨kk, g1, c, g2, g3, l, g4, r, g5, rfl⟩ := hr
        cases hX : a.eval x <;> rw [hX] at hx <;> cases hx
        rename_i cap' p A hp h16 h17 h18
        obtain ⟨l', a1, a2, a3, a4⟩ := blk_read hw hp g1 g2 g3 g4
        obtain ⟨ns, e1, e2⟩ := bytesOf_rel g5 a2
        have hl : (loadCells A s.len).run P w = .ok (ns.map (Value.int .u8)).toArray w := by
          rcases h18 with ⟨rfl, h18⟩ | h18
          · have := run_loadCells_list (P := P) w _ l' a4
            rw [a1] at this
            rw [this, e1]
          · have : s.len = 0 := by omega
            rw [this] at a1 ⊢
            have : l' = [] := List.eq_nil_of_length_eq_zero a1
            rw [← e1, this]; rfl
        refine ⟨.string r, of_run (s := convert src d (a.eval x)) rfl ?_, .str _⟩
        rw [hX, run_convert_bytes_string w src d el _ _ _ h1 h2 hd, run_bytesToString w A s.len cap' ns hl, e2]
    all_goals (rw [hk] at hf; simp [cBytes, rfail] at hf)

theorem checkKey_int {w : World} {k : TypeId} {kk : IntKind} (h : P.underlying k = some (.int kk)) (m : Nat) {j : IntKind} {n : Int} : (Instr.checkKey true (m + 1) k (.int j n)).run P w = .ok () w := by
  simp [Instr.checkKey, run_underlying' h]
theorem look_ok (t : TypeId) (x i : Operand) (ok : Bool) : ReadOK P ⟨dst, .lookup t x i ok, type, pos, after, guard⟩ (cLook (mapT P t) x i ok) := by
  intro ι nt ds e a v rd h w ha hw hf hr
  cases hz : mapT P t with
  | none => rw [hz] at hf; simp [cLook, rfail] at hf
  | some z =>
    rw [hz] at hf
    simp only [cLook, ob_eq, Option.some.injEq] at hf
    obtain ⟨xv, h1, r, h2, iv, h3, p, h4, rfl⟩ := hf
    rw [map?_eq] at h2; subst h2
    rw [int?_eq] at h4; subst h4
    unfold mapT at hz
    split at hz
    · rename_i k el hu
      rw [ob_eq] at hz
      obtain ⟨kk, h5, h6⟩ := hz
      rw [kindT_eq] at h5
      have hr : rdLook h r z ok = some v := hr
      simp only [rdLook, ob_eq, bi_none, Option.some.injEq] at hr
      obtain ⟨B, h7, h8, h9⟩ := hr
      rw [isMap_eq] at h8; subst h8
      have hx := ev_rel ha h1
      have hi := ev_rel ha h3
      cases hX : a.eval x <;> rw [hX] at hx <;> cases hx
      rename_i q hq
      cases hI : a.eval i <;> rw [hI] at hi <;> cases hi
      cases hw.blk r q _ hq h7 with
      | emap g1 =>
        rename_i clock
        obtain ⟨zv, g2, g3⟩ := run_zeroValue (P := P) (w := w) h6
        refine ⟨if ok then .tuple #[zv, .bool false] else zv, of_run (s := Instr.lookup t (a.eval x) (a.eval i) ok) rfl ?_, ?_⟩
        · rw [hX, hI]
          have gk : (Instr.checkKey true 10000 k (.int p.1 p.2)).run P w = .ok () w := by
            exact checkKey_int h5 9999
          have gf : (Instr.findKey k (.int p.1 p.2) []).run P w = .ok none w := by
            simp [Instr.findKey, run_underlying' h5, Instr.findNow]
          have go : (getObj q.B).run P w = .ok (.map #[] clock) w := by simp [getObj, Sem.run, g1]
          simp only [Instr.lookup, Sem.run_bind, run_underlying' hu, Result.andThen_ok, go, Sem.run_pure]
          simp [gk, gf, g2]
        · rw [← h9, bi_if]
          cases ok
          · simp; exact ofV_rel g3
          · simp; exact .tup (.cons (ofV_rel g3) (.cons (.bool _) .nil))
    · simp at hz

theorem evR_ok (op : Op) : ReadOK P ⟨dst, op, type, pos, after, guard⟩ (evR P op) := by
  intro ι nt ds e a v rd h w ha hw hf hr
  cases op
  case load t x => exact load_ok t x ha hw hf hr
  case convert s d x =>
    have hf : bi (isStrT P d) (cBytes (ob (elemT P s) (kindT P)) x) rfail e = some rd := hf
    cases hd : isStrT P d with
    | true => rw [hd] at hf; exact bytes_ok s d x hd ha hw hf hr
    | false => rw [hd, bi_false] at hf; simp [rfail] at hf
  case lookup t x i ok => exact look_ok t x i ok ha hw hf hr
  all_goals (have hf : rfail e = some rd := hf; simp [rfail] at hf)
end
end Go.Ev
