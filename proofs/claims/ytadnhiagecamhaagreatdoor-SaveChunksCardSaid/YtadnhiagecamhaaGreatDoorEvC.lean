/- A part of an evaluator of the model's calls and of the proof that it tells the truth. Conditions: those that the theorems name. -/
import Derived.Test.YtadnhiagecamhaaGreatDoorEvB
import Derived.RowKit3
import Derived.Below
namespace Go.Ev
open Go.RowKit
set_option linter.unusedVariables false

/-- Where a block lies: the block in the world, the offset in it, how many cells that block has. -/
structure Pl where
  B : Nat
  O : Nat
  Z : Nat
abbrev Inj := Nat → Option Pl

def AV.simple : AV → Bool
  | .agg _ | .tup _ => false
  | _ => true

mutual
inductive VR (ι : Inj) : AV → Value → Prop
  | bool (b : Bool) : VR ι (.bool b) (.bool b)
  | int (k : IntKind) (n : Int) : VR ι (.int k n) (.int k n)
  | str (s : ByteArray) : VR ι (.str s) (.string s)
  | ptr {b off : Nat} {p : Pl} : ι b = some p → VR ι (.ptr b off) (.pointer (some ⟨p.B, p.O + off, none⟩))
  | nilptr : VR ι .nilptr (.pointer none)
  | slice {b off len cap es : Nat} {p : Pl} {a : Addr} {cap' : Nat} : ι b = some p → len ≤ cap → cap ≤ cap' →
      (a = ⟨p.B, p.O + off, none⟩ ∧ p.O + off + cap' * es ≤ p.Z ∨ cap' = 0) → VR ι (.slice b off len cap es) (.slice (some a) len cap')
  | nilslice : VR ι .nilslice (.slice none 0 0)
  | map {r : Nat} {p : Pl} : ι r = some p → VR ι (.map r) (.map (some p.B))
  | nilmap : VR ι .nilmap (.map none)
  | func {f : FuncId} {l c : List AV} {l' c' : List Value} : VRs ι l l' → VRs ι c c' → VR ι (.func f l c) (.func (.func f) ⟨l'⟩ ⟨c'⟩)
  | nilfunc : VR ι .nilfunc .nilFunc
  | yfn (l : Nat) : VR ι .yfn (.func (.yield l) #[] #[])
  | iface {t : TypeId} {v : AV} {v' : Value} : VR ι v v' → VR ι (.iface t v) (.iface t v')
  | nili : VR ι .nili .nilIface
  | agg {l : List AV} {l' : List Value} : VRs ι l l' → (∀ x ∈ l, x.simple = true) → VR ι (.agg l) (.agg ⟨l'⟩)
  | tup {l : List AV} {l' : List Value} : VRs ι l l' → VR ι (.tup l) (.tuple ⟨l'⟩)
inductive VRs (ι : Inj) : List AV → List Value → Prop
  | nil : VRs ι [] []
  | cons {v : AV} {v' : Value} {l : List AV} {l' : List Value} : VR ι v v' → VRs ι l l' → VRs ι (v :: l) (v' :: l')
end

def Ext (ι κ : Inj) : Prop := ∀ b p, ι b = some p → κ b = some p
theorem Ext.refl (ι : Inj) : Ext ι ι := fun _ _ h => h
theorem Ext.trans {ι κ μ : Inj} (h : Ext ι κ) (k : Ext κ μ) : Ext ι μ := fun b p e => k b p (h b p e)

mutual
theorem VR.mono {ι κ : Inj} (hx : Ext ι κ) {v : AV} {v' : Value} (h : VR ι v v') : VR κ v v' := by
  cases h with
  | bool b => exact .bool b
  | int k n => exact .int k n
  | str s => exact .str s
  | ptr h => exact .ptr (hx _ _ h)
  | nilptr => exact .nilptr
  | slice h1 h2 h3 h4 => exact .slice (hx _ _ h1) h2 h3 h4
  | nilslice => exact .nilslice
  | map h => exact .map (hx _ _ h)
  | nilmap => exact .nilmap
  | func h1 h2 => exact .func (VRs.mono hx h1) (VRs.mono hx h2)
  | nilfunc => exact .nilfunc
  | yfn l => exact .yfn l
  | iface h => exact .iface (VR.mono hx h)
  | nili => exact .nili
  | agg h1 h2 => exact .agg (VRs.mono hx h1) h2
  | tup h => exact .tup (VRs.mono hx h)
theorem VRs.mono {ι κ : Inj} (hx : Ext ι κ) {l : List AV} {l' : List Value} (h : VRs ι l l') : VRs κ l l' := by
  cases h with
  | nil => exact .nil
  | cons h1 h2 => exact .cons (VR.mono hx h1) (VRs.mono hx h2)
end

theorem VRs.length {ι : Inj} : ∀ {l : List AV} {l' : List Value}, VRs ι l l' → l.length = l'.length
  | _, _, .nil => rfl
  | _, _, .cons _ h => by simp [VRs.length h]
theorem VRs.append {ι : Inj} : ∀ {l : List AV} {l' : List Value} {m : List AV} {m' : List Value}, VRs ι l l' → VRs ι m m' → VRs ι (l ++ m) (l' ++ m')
  | _, _, _, _, .nil, k => k
  | _, _, _, _, .cons h1 h2, k => .cons h1 (VRs.append h2 k)
theorem VRs.get {ι : Inj} : ∀ {l : List AV} {l' : List Value}, VRs ι l l' → ∀ {i : Nat} {v : AV}, l[i]? = some v → ∃ v', l'[i]? = some v' ∧ VR ι v v'
  | _, _, .nil, i, v, e => by simp at e
  | _, _, .cons h1 h2, 0, v, e => by simp at e; subst e; exact ⟨_, by simp, h1⟩
  | _, _, .cons h1 h2, i + 1, v, e => by
    obtain ⟨v', e', r⟩ := VRs.get h2 (i := i) (by simpa using e)
    exact ⟨v', by simpa using e', r⟩
theorem VRs.of_get {ι : Inj} : ∀ {l : List AV} {l' : List Value}, l.length = l'.length → (∀ (i : Nat) v v', l[i]? = some v → l'[i]? = some v' → VR ι v v') → VRs ι l l'
  | [], [], _, _ => .nil
  | [], _ :: _, h, _ => by simp at h
  | _ :: _, [], h, _ => by simp at h
  | v :: l, v' :: l', h, k => .cons (k 0 v v' (by simp) (by simp)) (VRs.of_get (by simpa using h) fun i x x' e e' => k (i + 1) x x' (by simpa using e) (by simpa using e'))
theorem VRs.take {ι : Inj} : ∀ (n : Nat) {l : List AV} {l' : List Value}, VRs ι l l' → VRs ι (l.take n) (l'.take n)
  | 0, _, _, _ => .nil
  | n + 1, _, _, .nil => .nil
  | n + 1, _, _, .cons h1 h2 => .cons h1 (VRs.take n h2)
theorem VRs.drop {ι : Inj} : ∀ (n : Nat) {l : List AV} {l' : List Value}, VRs ι l l' → VRs ι (l.drop n) (l'.drop n)
  | 0, _, _, h => h
  | n + 1, _, _, .nil => .nil
  | n + 1, _, _, .cons h1 h2 => VRs.drop n h2

theorem len_eq : ∀ l : List AV, len l = l.length
  | [] => rfl
  | _ :: l => by show (len l).succ = _; rw [len_eq l]; rfl

/-- The cells of a value. -/
theorem VR.cells {ι : Inj} {v : AV} {v' : Value} {l : List AV} (h : VR ι v v') (hc : v.cells = some l) :
    VRs ι l v'.cells.toList ∧ ∀ x ∈ l, x.simple = true := by
  cases h with
  | agg h1 h2 => simp [AV.cells] at hc; subst hc; exact ⟨h1, h2⟩
  | tup h => simp [AV.cells] at hc
  | bool b => simp [AV.cells] at hc; subst hc; exact ⟨.cons (.bool b) .nil, by simp [AV.simple]⟩
  | int k n => simp [AV.cells] at hc; subst hc; exact ⟨.cons (.int k n) .nil, by simp [AV.simple]⟩
  | str s => simp [AV.cells] at hc; subst hc; exact ⟨.cons (.str s) .nil, by simp [AV.simple]⟩
  | ptr h => simp [AV.cells] at hc; subst hc; exact ⟨.cons (.ptr h) .nil, by simp [AV.simple]⟩
  | nilptr => simp [AV.cells] at hc; subst hc; exact ⟨.cons .nilptr .nil, by simp [AV.simple]⟩
  | slice h1 h2 h3 h4 => simp [AV.cells] at hc; subst hc; exact ⟨.cons (.slice h1 h2 h3 h4) .nil, by simp [AV.simple]⟩
  | nilslice => simp [AV.cells] at hc; subst hc; exact ⟨.cons .nilslice .nil, by simp [AV.simple]⟩
  | map h => simp [AV.cells] at hc; subst hc; exact ⟨.cons (.map h) .nil, by simp [AV.simple]⟩
  | nilmap => simp [AV.cells] at hc; subst hc; exact ⟨.cons .nilmap .nil, by simp [AV.simple]⟩
  | func h1 h2 => simp [AV.cells] at hc; subst hc; exact ⟨.cons (.func h1 h2) .nil, by simp [AV.simple]⟩
  | nilfunc => simp [AV.cells] at hc; subst hc; exact ⟨.cons .nilfunc .nil, by simp [AV.simple]⟩
  | yfn l => simp [AV.cells] at hc; subst hc; exact ⟨.cons (.yfn l) .nil, by simp [AV.simple]⟩
  | iface h => simp [AV.cells] at hc; subst hc; exact ⟨.cons (.iface h) .nil, by simp [AV.simple]⟩
  | nili => simp [AV.cells] at hc; subst hc; exact ⟨.cons .nili .nil, by simp [AV.simple]⟩

/-- A simple value is one cell. -/
theorem VR.oneCell {ι : Inj} {v : AV} {v' : Value} (h : VR ι v v') (hs : v.simple = true) : v'.oneCell' = true := by
  cases h <;> simp_all [AV.simple, Value.oneCell']

/-! ### looks at values -/
theorem bool?_eq {v : AV} {b : Bool} : v.bool? = some b ↔ v = .bool b := by cases v <;> simp [AV.bool?]
theorem int?_eq {v : AV} {p : IntKind × Int} : v.int? = some p ↔ v = .int p.1 p.2 := by
  cases v <;> simp [AV.int?, Prod.ext_iff]
theorem str?_eq {v : AV} {s : ByteArray} : v.str? = some s ↔ v = .str s := by cases v <;> simp [AV.str?]
theorem ptr?_eq {v : AV} {p : Nat × Nat} : v.ptr? = some p ↔ v = .ptr p.1 p.2 := by cases v <;> simp [AV.ptr?, Prod.ext_iff]
theorem slice?_eq {v : AV} {s : Sl} : v.slice? = some s ↔ v = .slice s.b s.off s.len s.cap s.es := by
  cases s
  cases v <;> simp [AV.slice?]
theorem nilSlice_eq {v : AV} : v.isNilSlice = true ↔ v = .nilslice := by cases v <;> simp [AV.isNilSlice]
theorem nilSlice_false {v : AV} : v.isNilSlice = false ↔ v ≠ .nilslice := by cases v <;> simp [AV.isNilSlice]
theorem map?_eq {v : AV} {r : Nat} : v.map? = some r ↔ v = .map r := by cases v <;> simp [AV.map?]
theorem func?_eq {v : AV} {f : Fv} : v.func? = some f ↔ v = .func f.f f.first f.cap := by cases f; cases v <;> simp [AV.func?]
theorem agg?_eq {v : AV} {l : List AV} : v.agg? = some l ↔ v = .agg l := by cases v <;> simp [AV.agg?]
theorem tup?_eq {v : AV} {l : List AV} : v.tup? = some l ↔ v = .tup l := by cases v <;> simp [AV.tup?]

/-! ### constants and slots -/
theorem ofV1_rel {ι : Inj} {v : Value} {x : AV} (h : ofV1 v = some x) : VR ι x v ∧ x.simple = true := by
  unfold ofV1 at h
  split at h <;> simp at h <;> subst h <;> first
    | exact ⟨.bool _, rfl⟩ | exact ⟨.int _ _, rfl⟩ | exact ⟨.str _, rfl⟩ | exact ⟨.nilptr, rfl⟩ | exact ⟨.nilslice, rfl⟩
    | exact ⟨.nilmap, rfl⟩ | exact ⟨.nilfunc, rfl⟩ | exact ⟨.nili, rfl⟩
theorem ofVs_rel {ι : Inj} : ∀ {l : List Value} {x : List AV}, ofVs l = some x → VRs ι x l ∧ ∀ y ∈ x, y.simple = true
  | [], x, h => by simp [ofVs] at h; subst h; exact ⟨.nil, by simp⟩
  | v :: l, x, h => by
    simp only [ofVs, ob_eq] at h
    obtain ⟨y, h1, ys, h2, h3⟩ := h
    simp at h3; subst h3
    obtain ⟨r1, s1⟩ := ofV1_rel (ι := ι) h1
    obtain ⟨r2, s2⟩ := ofVs_rel (ι := ι) h2
    exact ⟨.cons r1 r2, by
      intro z hz
      rcases List.mem_cons.1 hz with rfl | hz
      · exact s1
      · exact s2 z hz⟩
theorem ofV_rel {ι : Inj} {v : Value} {x : AV} (h : ofV v = some x) : VR ι x v := by
  unfold ofV at h
  split at h
  · rename_i cs
    simp only [Option.map_eq_some_iff] at h
    obtain ⟨l, h1, rfl⟩ := h
    obtain ⟨r, s⟩ := ofVs_rel (ι := ι) h1
    exact .agg r s
  · rename_i cs
    simp only [Option.map_eq_some_iff] at h
    obtain ⟨l, h1, rfl⟩ := h
    obtain ⟨r, s⟩ := ofVs_rel (ι := ι) h1
    exact .tup r
  · exact (ofV1_rel h).1

/-- The slots. -/
structure AR (ι : Inj) (nt : Nat) (ds : List Deferred) (e : Env) (a : Act) : Prop where
  size : a.tmps.size = nt
  rel : ∀ t, VR ι ((e.get t).getD undef) (a.tmps.getD t Go.undef)
  defers : a.defers = ds
theorem AR.mono {ι κ : Inj} {nt : Nat} {ds : List Deferred} {e : Env} {a : Act} (h : AR ι nt ds e a) (hx : Ext ι κ) : AR κ nt ds e a := ⟨h.size, fun t => (h.rel t).mono hx, h.defers⟩
theorem evTmp_eq (t : Nat) (e : Env) : evTmp t e = some ((e.get t).getD undef) := by
  unfold evTmp; cases e.get t <;> rfl
theorem ev_rel {ι : Inj} {nt : Nat} {ds : List Deferred} {e : Env} {a : Act} (h : AR ι nt ds e a) {x : Operand} {v : AV} (hv : ev x e = some v) : VR ι v (a.eval x) := by
  cases x with
  | tmp t => have hv : evTmp t e = some v := hv; rw [evTmp_eq] at hv; simp at hv; subst hv; exact h.rel t
  | const c => exact ofV_rel hv
  | global g => simp [ev] at hv
  | func f => simp [ev] at hv; subst hv; exact .func .nil .nil
theorem evs_nil (e : Env) : evs [] e = some [] := rfl
theorem evs_cons (x : Operand) (l : List Operand) (e : Env) : evs (x :: l) e = ob (ev x e) fun v => ob (evs l e) fun vs => some (v :: vs) := rfl
theorem evs_rel {ι : Inj} {nt : Nat} {ds : List Deferred} {e : Env} {a : Act} (h : AR ι nt ds e a) : ∀ {l : List Operand} {vs : List AV}, evs l e = some vs → VRs ι vs (l.map a.eval)
  | [], vs, hv => by rw [evs_nil] at hv; simp at hv; subst hv; exact .nil
  | x :: l, vs, hv => by
    rw [evs_cons] at hv
    simp only [ob_eq] at hv
    obtain ⟨v, h1, ws, h2, h3⟩ := hv
    simp at h3; subst h3
    exact .cons (ev_rel h h1) (evs_rel h h2)

theorem AR.put {ι : Inj} {nt : Nat} {ds : List Deferred} {e e' : Env} {a : Act} (h : AR ι nt ds e a) {d : Option Tmp} {v : AV} {v' : Value} (hv : VR ι v v') (hp : putO nt d v e = some e') :
    AR ι nt ds e' (a.put d v') := by
  cases d with
  | none => simp [putO] at hp; subst hp; exact h
  | some t =>
    have hp : bi (Nat.ble (t + 1) nt) (fun (v : AV) (e : Env) => some (e.set t v)) (fun _ _ => none) v e = some e' := hp
    rw [bi_if] at hp
    by_cases hlt : t + 1 ≤ nt
    · rw [if_pos (nble_t.2 hlt)] at hp
      simp at hp; subst hp
      refine ⟨by simp [Act.put, h.size], fun s => ?_, h.defers⟩
      have hs := h.rel s
      have hsz := h.size
      rw [Tri.get_set]
      by_cases hst : s = t
      · subst hst
        rw [if_pos rfl]
        have hs : s < a.tmps.size := by rw [hsz]; exact hlt
        have : (a.put (some s) v').tmps.getD s Go.undef = v' := by
          simp only [Act.put, Array.getD_eq_getD_getElem?]
          rw [Array.getElem?_setIfInBounds_self_of_lt hs]; rfl
        rw [this]; exact hv
      · rw [if_neg hst]
        have : (a.put (some t) v').tmps.getD s Go.undef = a.tmps.getD s Go.undef := by
          simp only [Act.put, Array.getD_eq_getD_getElem?]
          rw [Array.getElem?_setIfInBounds_ne (Ne.symm hst)]
        rw [this]; exact hs
    · rw [if_neg (fun e => hlt (nble_t.1 e))] at hp
      simp at hp
end Go.Ev
