/- A table of types, checked by reckoning. -/
import Derived.Test.YtkimeoknckohfaaDoorR1Draw
namespace Go.Proofs.YtkimeoknckohfaaDoor.R1

def zeroEq : C → C → Bool
  | .int k n, .int k' n' => decide (k = k') && decide (n = n')
  | .bool a, .bool b => a == b
  | .str s, .str s' => Nat.beq s.size 0 && Nat.beq s'.size 0
  | .nils, .nils => true
  | .nilp, .nilp => true
  | .nilf, .nilf => true
  | .nilm, .nilm => true
  | _, _ => false

theorem str_empty {s : ByteArray} (h : Nat.beq s.size 0 = true) : s = ByteArray.empty := by
  have := Nat.eq_of_beq_eq_true h
  obtain ⟨d⟩ := s
  have : d = #[] := Array.eq_empty_of_size_eq_zero this
  subst this; rfl

theorem zeroEq_eq {c c' : C} (h : zeroEq c c' = true) : c = c' := by
  cases c <;> cases c' <;> simp only [zeroEq, Bool.and_eq_true, decide_eq_true_eq, Bool.false_eq_true, beq_iff_eq] at h <;> first | rfl | (obtain ⟨rfl, rfl⟩ := h; rfl) | (subst h; rfl) | (rw [str_empty h.1, str_empty h.2])

def zerosEq : List C → List C → Bool
  | [], [] => true
  | c :: l, c' :: l' => zeroEq c c' && zerosEq l l'
  | _, _ => false

theorem zerosEq_eq : ∀ {l l' : List C}, zerosEq l l' = true → l = l'
  | [], [], _ => rfl
  | c :: l, c' :: l', h => by simp only [zerosEq, Bool.and_eq_true] at h; rw [zeroEq_eq h.1, zerosEq_eq h.2]
  | [], _ :: _, h => by cases h
  | _ :: _, [], h => by cases h

def pairsEq : List (Nat × Nat) → List (Nat × Nat) → Bool
  | [], [] => true
  | (a, b) :: l, (a', b') :: l' => Nat.beq a a' && Nat.beq b b' && pairsEq l l'
  | _, _ => false

theorem pairsEq_eq : ∀ {l l' : List (Nat × Nat)}, pairsEq l l' = true → l = l'
  | [], [], _ => rfl
  | (a, b) :: l, (a', b') :: l', h => by
    simp only [pairsEq, Bool.and_eq_true] at h
    rw [Nat.eq_of_beq_eq_true h.1.1, Nat.eq_of_beq_eq_true h.1.2, pairsEq_eq h.2]
  | [], _ :: _, h => by cases h
  | _ :: _, [], h => by cases h

def kindB (P : Program) (d : TypeDesc) (k : TK) : Bool :=
  match d, k with
  | .int k, .int k' => decide (k = k')
  | .bool, .bool => true
  | .string, .str => true
  | .struct fields, .struct fs => pairsEq (fields.toList.map fun f => (f.offset, f.type)) fs && fields.toList.all fun f => match P.info? f.type with
    | some i => !Nat.beq i.size 0
    | none => false
  | .array n e, .arr n' e' => Nat.beq n n' && Nat.beq e e'
  | .slice e, .sl e' => Nat.beq e e'
  | .pointer e, .ptr e' => Nat.beq e e'
  | .func .., .func => true
  | .map k e, .map k' e' => Nat.beq k k' && Nat.beq e e'
  | .struct _, .other => false
  | .array .., .other => false
  | _, .other => true
  | _, _ => false

theorem kindB_ok {P : Program} {d : TypeDesc} {k : TK} (h : kindB P d k = true) : KindOk P d k := by
  cases d <;> cases k <;> simp only [kindB, Bool.false_eq_true, decide_eq_true_eq, Bool.and_eq_true] at h <;> (try cases h) <;> (try trivial) <;> (try exact h)
  case struct.struct.intro fields fs h1 h2 =>
    refine ⟨pairsEq_eq h1, fun f hf => ?_⟩
    have := List.all_eq_true.1 h2 f hf
    split at this
    · rename_i i e; exact ⟨i, e, fun e0 => by rw [e0] at this; cases this⟩
    · cases this
  all_goals first | exact ⟨Nat.eq_of_beq_eq_true (by assumption), Nat.eq_of_beq_eq_true (by assumption)⟩ | exact Nat.eq_of_beq_eq_true h | trivial

def TIchk (P : Program) (t : TypeId) (i : TI) : Bool :=
  (match P.underlying t with
   | some d => kindB P d i.k && (!i.eq || (!P.stoodInHeld t && !P.eqGuardType P.depth t && (match d with
     | .struct fields => fields.toList.all fun f => !(f.name == "_")
     | _ => true)))
   | none => false) &&
  (match P.info? t with
   | some inf => Nat.beq inf.size i.size && Nat.beq inf.bytes i.bytes && (match inf.zero with
     | some z => sameB (isA z) i.agg && Nat.beq z.cells.size i.size && (!Nat.beq i.zero.length i.size || (match ofCellList z.cells.toList with
       | some l => zerosEq l i.zero
       | none => false))
     | none => false)
   | none => false) &&
  (Nat.beq i.u.n 0 || (Nat.beq i.u.n i.size && Nat.blt 0 i.bytes))

theorem TIchk_ok {P : Program} {t : TypeId} {i : TI} (h : TIchk P t i = true) : TIok P t i := by
  simp only [TIchk, Bool.and_eq_true] at h
  obtain ⟨⟨h1, h2⟩, h3⟩ := h
  split at h1
  case h_2 => cases h1
  rename_i d ed
  simp only [Bool.and_eq_true, Bool.or_eq_true, Bool.not_eq_true'] at h1
  split at h2
  case h_2 => cases h2
  rename_i inf einf
  simp only [Bool.and_eq_true] at h2
  obtain ⟨⟨h4, h5⟩, h6⟩ := h2
  split at h6
  case h_2 => cases h6
  rename_i z ez
  simp only [Bool.and_eq_true, Bool.or_eq_true, Bool.not_eq_true'] at h6
  refine ⟨⟨d, ed, kindB_ok h1.1⟩, ⟨inf, z, einf, Nat.eq_of_beq_eq_true h4, Nat.eq_of_beq_eq_true h5, ez, Nat.eq_of_beq_eq_true h6.1.2, fun hz => ?_⟩, fun hu => ?_, fun he => ?_, fun inf' z' hi' hz' => ?_⟩
  · rcases h6.2 with h | h
    · rw [hz, Nat.beq_refl] at h; cases h
    · split at h
      · rename_i l el; rw [el, zerosEq_eq h]
      · cases h
  · simp only [Bool.or_eq_true, Bool.and_eq_true, Nat.blt_eq] at h3
    rcases h3 with h | h
    · have := Nat.eq_of_beq_eq_true h; omega
    · exact ⟨Nat.eq_of_beq_eq_true h.1, h.2⟩
  · rcases h1.2 with h | h
    · rw [he] at h; cases h
    · refine ⟨h.1.1, h.1.2, fun d' hd' => ?_⟩
      rw [ed] at hd'; injection hd' with hd'; subst hd'
      have := h.2
      cases d <;> (try trivial)
      intro f hf
      have := List.all_eq_true.1 this f hf
      simpa using this
  · rw [einf] at hi'; injection hi' with hi'; subst hi'
    rw [ez] at hz'; injection hz' with hz'; subst hz'
    exact sameB_eq h6.1.1

def TTchk (P : Program) (tt : TT) : Bool := tt.all fun p => TIchk P p.1 p.2

theorem ttok_of_chk {P : Program} {tt : TT} (h : TTchk P tt = true) : TTok P tt := fun t i ht => TIchk_ok (List.all_eq_true.1 h _ (assoc_mem ht))

/-- An entry's function can be entered, by reckoning. -/
def fnChk (fn : Func) : Bool := !(fn.name == "runtime.NumGoroutine") && !fn.body.isNone

theorem entryFn_of {P : Program} {e : Entry} {fn : Func} (h : P.funcs[e.id]? = some fn) (hc : fnChk fn = true) : EntryFn P e := by
  simp only [fnChk, Bool.and_eq_true, Bool.not_eq_true'] at hc
  exact ⟨fn, h, hc.1, hc.2⟩
end Go.Proofs.YtkimeoknckohfaaDoor.R1
