/- Every operation but a call of a function: the machine does what the abstract run does. -/
import Derived.Test.YtkimeoknckohfaaDoorR1Build
import Derived.Laws.StructEq
import Derived.Laws.Small
import Derived.Laws.Pointers
import Derived.Laws.Cover3
namespace Go.Proofs.YtkimeoknckohfaaDoor.R1
variable {P : Program} {ρ : Type}

theorem run_ints (w : World) (t : TypeId) (op : BinOp) (k : IntKind) (a b : Int) {κ : C → Option ρ} {r : ρ} (hne : op ≠ .shl ∧ op ≠ .shr) (h : intBin op k a b κ = some r) :
    ∃ (c : C) (v : Value), κ c = some r ∧ (binOp op t (.int k a) (.int k b)).run P w = .ok v w ∧ (∀ S φ hh, RelC S w φ hh c v) := by
  cases op with
  | shl => exact absurd rfl hne.1
  | shr => exact absurd rfl hne.2
  | quo =>
    simp only [intBin] at h
    cases hb : decide (b = 0) with
    | true => rw [hb] at h; cases h
    | false => rw [hb] at h; exact ⟨_, _, h, by simp [binOp, Op.intDiv, of_decide_eq_false hb], fun _ _ _ => rfl⟩
  | rem =>
    simp only [intBin] at h
    cases hb : decide (b = 0) with
    | true => rw [hb] at h; cases h
    | false => rw [hb] at h; exact ⟨_, _, h, by simp [binOp, Op.intDiv, of_decide_eq_false hb], fun _ _ _ => rfl⟩
  | add => exact ⟨_, _, h, by simp [binOp, Op.intArith], fun _ _ _ => rfl⟩
  | sub => exact ⟨_, _, h, by simp [binOp, Op.intArith], fun _ _ _ => rfl⟩
  | mul => exact ⟨_, _, h, by simp [binOp, Op.intArith], fun _ _ _ => rfl⟩
  | and => exact ⟨_, _, h, by simp only [binOp, Op.intBits]; rw [if_neg (by simp)]; rfl, fun _ _ _ => rfl⟩
  | or => exact ⟨_, _, h, by simp only [binOp, Op.intBits]; rw [if_neg (by simp)]; rfl, fun _ _ _ => rfl⟩
  | xor => exact ⟨_, _, h, by simp only [binOp, Op.intBits]; rw [if_neg (by simp)]; rfl, fun _ _ _ => rfl⟩
  | andNot => exact ⟨_, _, h, by simp only [binOp, Op.intBits]; rw [if_neg (by simp)]; rfl, fun _ _ _ => rfl⟩
  | eql => exact ⟨_, _, h, by simp [binOp, Op.intCmp], fun _ _ _ => rfl⟩
  | neq => exact ⟨_, _, h, by simp [binOp, Op.intCmp], fun _ _ _ => rfl⟩
  | lss => exact ⟨_, _, h, by simp [binOp, Op.intCmp], fun _ _ _ => rfl⟩
  | leq => exact ⟨_, _, h, by simp [binOp, Op.intCmp], fun _ _ _ => rfl⟩
  | gtr => exact ⟨_, _, h, by simp [binOp, Op.intCmp], fun _ _ _ => rfl⟩
  | geq => exact ⟨_, _, h, by simp [binOp, Op.intCmp], fun _ _ _ => rfl⟩

theorem run_shift (w : World) (t : TypeId) (op : BinOp) (k k' : IntKind) (a b : Int) {κ : C → Option ρ} {r : ρ} (ho : op = .shl ∨ op = .shr) (h : intBin op k a b κ = some r) :
    ∃ (c : C) (v : Value), κ c = some r ∧ (binOp op t (.int k a) (.int k' b)).run P w = .ok v w ∧ (∀ S φ hh, RelC S w φ hh c v) := by
  rcases ho with rfl | rfl
  all_goals
    simp only [intBin] at h
    cases hb : decide (b < 0) with
    | true => rw [hb] at h; cases h
    | false =>
      rw [hb] at h
      exact ⟨_, _, h, by simp only [binOp, Op.shift]; rw [if_neg (of_decide_eq_false hb)]; rfl, fun _ _ _ => rfl⟩

theorem run_strs (w : World) (t : TypeId) (op : BinOp) (a b : ByteArray) {κ : C → Option ρ} {r : ρ} (h : strBin op a b κ = some r) :
    ∃ (c : C) (v : Value), κ c = some r ∧ (binOp op t (.string a) (.string b)).run P w = .ok v w ∧ (∀ S φ hh, RelC S w φ hh c v) := by
  cases op with
  | add =>
    simp only [strBin] at h
    cases hb : decide (((a.size + b.size : Nat) : Int) > 9223372036854775807) with
    | true => rw [hb] at h; cases h
    | false =>
      rw [hb] at h
      refine ⟨_, _, h, ?_, fun _ _ _ => rfl⟩
      simp only [binOp, Op.stringOp]
      rw [if_neg (by have := of_decide_eq_false hb; simpa [IntKind.max, IntKind.signed, IntKind.bits] using this)]
      rfl
  | eql => exact ⟨_, _, h, by simp [binOp, Op.stringOp], fun _ _ _ => rfl⟩
  | neq => exact ⟨_, _, h, by simp [binOp, Op.stringOp], fun _ _ _ => rfl⟩
  | lss => exact ⟨_, _, h, by simp [binOp, Op.stringOp], fun _ _ _ => rfl⟩
  | leq => exact ⟨_, _, h, by simp [binOp, Op.stringOp], fun _ _ _ => rfl⟩
  | gtr => exact ⟨_, _, h, by simp [binOp, Op.stringOp], fun _ _ _ => rfl⟩
  | geq => exact ⟨_, _, h, by simp [binOp, Op.stringOp], fun _ _ _ => rfl⟩
  | _ => cases h

/-! ### Equality of structs -/
section
variable {S : Nat → Prop} {w : World} {φ : Nat → Value} {h : Nat → B}

theorem run_part {tt : TT} (hT : TTok P tt) {t off : Nat} {cs : List C} {x : W1} {vs : Array Value} (ha : All2 (RelC S w φ h) cs vs.toList) (hp : partW tt t cs off = some x) :
    ∃ v, (part t vs off).run P w = .ok v w ∧ RelW S w φ h x v := by
  unfold partW at hp
  split at hp
  · rename_i i e
    have ok := hT t i e
    split at hp
    · rename_i cs' e1 e2
      injection hp with hp; subst hp
      obtain ⟨hle, rfl⟩ := take?_some e2
      refine ⟨.agg (vs.extract off (off + i.size)), ?_, ⟨_, rfl, ?_⟩⟩
      · simp [part, ok.run_agg, e1, ok.run_size]
      · have := (ha.drop off).take i.size
        rw [show (vs.extract off (off + i.size)).toList = (vs.toList.drop off).take i.size by simp [List.extract_eq_take_drop]]; exact this
    · rename_i c e1 e2
      injection hp with hp; subst hp
      obtain ⟨hle, h2⟩ := take?_some e2
      have hx := (ha.drop off).take i.size
      rw [← h2] at hx
      cases hv : (vs.toList.drop off).take i.size with
      | nil => rw [hv] at hx; exact hx.elim
      | cons v r =>
        rw [hv] at hx
        have hv0 : vs[off]? = some v := by
          have := congrArg (·[0]?) hv
          simp only [List.getElem?_cons_zero, List.getElem?_take, List.getElem?_drop, Nat.add_zero] at this
          split at this
          · simpa using this
          · cases this
        exact ⟨v, by simp [part, ok.run_agg, e1, hv0], hx.1⟩
    · cases hp
  · cases hp

theorem eqFs_sound {tt : TT} (hT : TTok P tt) (d : Nat) (rec : Nat → W1 → W1 → Option Bool)
    (hrec : ∀ {t x y b vx vy}, rec t x y = some b → RelW S w φ h x vx → RelW S w φ h y vy → (Op.equalIn d t vx vy).run P w = .ok b w) :
    ∀ {fields : List Field} {fs : List (Nat × Nat)} {xs ys : List C} {vxs vys : Array Value} {b : Bool}, fields.map (fun f => (f.offset, f.type)) = fs → (∀ f ∈ fields, f.name ≠ "_") →
      All2 (RelC S w φ h) xs vxs.toList → All2 (RelC S w φ h) ys vys.toList → eqFs rec tt fs xs ys = some b → (Op.eqFields d vxs vys fields).run P w = .ok b w := by
  intro fields
  induction fields with
  | nil => intro fs xs ys vxs vys b hf _ _ _ he; subst hf; simp [eqFs] at he; subst he; simp [Op.eqFields]
  | cons f fields ih =>
    intro fs xs ys vxs vys b hf hn hx hy he
    subst hf
    simp only [List.map_cons, eqFs] at he
    split at he
    · rename_i a c e1 e2
      split at he
      · rename_i p q e3 e4
        injection he with he; subst he
        obtain ⟨v1, r1, h1⟩ := run_part hT hx e1
        obtain ⟨v2, r2, h2⟩ := run_part hT hy e2
        have r3 := hrec e3 h1 h2
        have r4 := ih rfl (fun f hf => hn f (List.mem_cons_of_mem _ hf)) hx hy e4
        simp only [Op.eqFields]
        rw [if_pos (hn f (by simp))]
        simp only [Sem.run_bind, r1, r2, r3, Result.andThen_ok]
        cases p with
        | true => simp only [Bool.not_true, Bool.false_eq_true, if_false, Bool.true_and]; exact r4
        | false => simp
      · cases he
    · cases he

theorem eqT_sound {tt : TT} (hT : TTok P tt) : ∀ {n d t : Nat} {x y : W1} {b : Bool} {vx vy : Value}, n ≤ d → eqT tt n t x y = some b → RelW S w φ h x vx → RelW S w φ h y vy → (Op.equalIn d t vx vy).run P w = .ok b w := by
  intro n
  induction n with
  | zero => intro d t x y b vx vy _ he; cases he
  | succ n ih =>
    intro d t x y b vx vy hd he hx hy
    obtain ⟨d, rfl⟩ : ∃ e, d = e + 1 := ⟨d - 1, by omega⟩
    simp only [eqT] at he
    split at he
    · rename_i i e
      have ok := hT t i e
      obtain ⟨desc, hu, hk⟩ := ok.und
      split at he
      · rename_i kk k a k' b' ek
        rw [ek] at hk
        cases desc <;> simp [KindOk] at hk
        split at he
        · rename_i q; subst q; injection he with he; subst he
          have hx : vx = .int k a := hx
          have hy : vy = .int k b' := hy
          subst hx; subst hy
          exact run_equalIn_int w d t k _ a b' hu
        · cases he
      · rename_i a b' ek
        rw [ek] at hk
        cases desc <;> simp [KindOk] at hk
        injection he with he; subst he
        have hx : vx = .bool a := hx
        have hy : vy = .bool b' := hy
        subst hx; subst hy
        exact run_equalIn_bool w d t a b' hu
      · rename_i a b' ek
        rw [ek] at hk
        cases desc <;> simp [KindOk] at hk
        injection he with he; subst he
        have hx : vx = .string a := hx
        have hy : vy = .string b' := hy
        subst hx; subst hy
        exact run_equalIn_string w d t a b' hu
      · rename_i fs xs ys ek
        cases hq : i.eq with
        | false => rw [hq] at he; cases he
        | true =>
          rw [hq] at he
          simp only [cond_true] at he
          rw [ek] at hk
          cases desc with
          | struct fields =>
            simp only [KindOk] at hk
            obtain ⟨vxs, rfl, hxs⟩ := hx
            obtain ⟨vys, rfl, hys⟩ := hy
            obtain ⟨q1, q2, q3⟩ := ok.eq hq
            have hf : P.fieldsOf t = fields := by simp [Program.fieldsOf, hu]
            rw [run_equalIn_struct w d t vxs vys (by rw [hf]; exact hu) q1, hf]
            exact eqFs_sound hT d (eqT tt n) (fun he hx hy => ih (by omega) he hx hy) hk.1 (q3 _ hu) hxs hys he
          | _ => simp [KindOk] at hk
      · cases he
    · cases he
end

theorem run_eqGuard_plain (w : World) (op : BinOp) (t : TypeId) (x y : Operand) (a b : Value) (ha : (∀ cs, a ≠ .agg cs) ∧ a ≠ .nilIface) : (eqGuard op t x y a b).run P w = .ok () w := by
  unfold eqGuard
  cases op <;> simp <;> (split <;> first | (exact absurd rfl ha.2) | (exact absurd rfl (ha.1 _)) | rfl)

theorem isPtr_sound {tt : TT} (hT : TTok P tt) {t : Nat} (h : isPtr tt t = true) : P.underlying t = some (.pointer (P.pointee t)) := by
  unfold isPtr at h
  split at h
  · rename_i i e
    obtain ⟨d, hu, hk⟩ := (hT t i e).und
    split at h
    · rename_i e' ek
      rw [ek] at hk
      cases d <;> simp [KindOk] at hk
      simp [Program.pointee, hu]
    · cases h
  · cases h

theorem isSl_sound {tt : TT} (hT : TTok P tt) {t : Nat} (h : isSl tt t = true) : ∃ e, P.underlying t = some (.slice e) := by
  unfold isSl at h
  split at h
  · rename_i i e
    obtain ⟨d, hu, hk⟩ := (hT t i e).und
    split at h
    · rename_i e' ek
      rw [ek] at hk
      cases d <;> simp [KindOk] at hk
      exact ⟨_, hu⟩
    · cases h
  · cases h

theorem bin_sound {tt : TT} (hT : TTok P tt) {S : Nat → Prop} {w : World} {φ : Nat → Value} {hh : Nat → B} {t : Nat} {op : BinOp} {x y : V} {vx vy : Value} (ox oy : Operand) (hx : RelV S w φ hh x vx) (hy : RelV S w φ hh y vy)
    {κ : C → Option ρ} {r : ρ} (h : bin tt t op x y κ = some r) :
    ∃ (c : C) (v : Value), κ c = some r ∧ (do eqGuard op t ox oy vx vy; binOp op t vx vy : Sem Value).run P w = .ok v w ∧ RelC S w φ hh c v := by
  unfold bin at h
  split at h
  · rename_i k a k' b
    have hx : vx = .int k a := hx
    have hy : vy = .int k' b := hy
    subst hx; subst hy
    have hg := run_eqGuard_plain (P := P) w op t ox oy (.int k a) (.int k' b) ⟨fun _ => by simp, by simp⟩
    simp only [Sem.run_bind, hg, Result.andThen_ok]
    split at h
    · obtain ⟨c, v, h1, h2, h3⟩ := run_shift (P := P) w t .shl k k' a b (.inl rfl) h; exact ⟨c, v, h1, h2, h3 _ _ _⟩
    · obtain ⟨c, v, h1, h2, h3⟩ := run_shift (P := P) w t .shr k k' a b (.inr rfl) h; exact ⟨c, v, h1, h2, h3 _ _ _⟩
    · rename_i n1 n2
      split at h
      · rename_i q; subst q
        obtain ⟨c, v, h1, h2, h3⟩ := run_ints (P := P) w t op k a b ⟨fun h => n1 h, fun h => n2 h⟩ h; exact ⟨c, v, h1, h2, h3 _ _ _⟩
      · cases h
  · rename_i a b
    have hx : vx = .string a := hx
    have hy : vy = .string b := hy
    subst hx; subst hy
    have hg := run_eqGuard_plain (P := P) w op t ox oy (.string a) (.string b) ⟨fun _ => by simp, by simp⟩
    simp only [Sem.run_bind, hg, Result.andThen_ok]
    obtain ⟨c, v, h1, h2, h3⟩ := run_strs (P := P) w t op a b h; exact ⟨c, v, h1, h2, h3 _ _ _⟩
  · rename_i c
    have hy : vy = .pointer none := hy
    subst hy
    have key : ∀ b, nilness c = some b → ∃ q, vx = .pointer q ∧ q.isNone = b := by
      intro b hb
      cases c with
      | nilp => have hx : vx = .pointer none := hx; simp [nilness] at hb; subst hb; exact ⟨none, hx, rfl⟩
      | ptr n i sz off => obtain ⟨_, g, _, hv⟩ := hx; simp [nilness] at hb; subst hb; exact ⟨_, hv, rfl⟩
      | dptr u x off => obtain ⟨a, cs, hv, _⟩ := hx; simp [nilness] at hb; subst hb; exact ⟨_, hv, rfl⟩
      | _ => simp [nilness] at hb
    split at h
    · rename_i b e1 e2
      obtain ⟨q, rfl, hq⟩ := key b e2
      have hg := run_eqGuard_plain (P := P) w .eql t ox oy (.pointer q) (.pointer none) ⟨fun _ => by simp, by simp⟩
      simp only [Sem.run_bind, hg, Result.andThen_ok]
      refine ⟨_, .bool b, h, ?_, rfl⟩
      simp [binOp, run_equal_pointer_nil w t q (isPtr_sound hT e1), hq]
    · rename_i b e1 e2
      obtain ⟨q, rfl, hq⟩ := key b e2
      have hg := run_eqGuard_plain (P := P) w .neq t ox oy (.pointer q) (.pointer none) ⟨fun _ => by simp, by simp⟩
      simp only [Sem.run_bind, hg, Result.andThen_ok]
      refine ⟨_, .bool (!b), h, ?_, rfl⟩
      simp [binOp, run_equal_pointer_nil w t q (isPtr_sound hT e1), hq]
    · cases h
  · rename_i c
    have hy : vy = .slice none 0 0 := hy
    subst hy
    have key : ∀ b, slNil c = some b → ∃ q l cc, vx = .slice q l cc ∧ q.isNone = b := by
      intro b hb
      cases c with
      | nils => have hx : vx = .slice none 0 0 := hx; simp [slNil] at hb; subst hb; exact ⟨none, 0, 0, hx, rfl⟩
      | slx u l => obtain ⟨_, a, l', cc, hv⟩ := hx; simp [slNil] at hb; subst hb; exact ⟨some a, l', cc, hv, rfl⟩
      | _ => simp [slNil] at hb
    split at h
    · rename_i b e1 e2
      obtain ⟨q, l, cc, rfl, hq⟩ := key b e2
      obtain ⟨e, he⟩ := isSl_sound hT e1
      have hg := run_eqGuard_plain (P := P) w .eql t ox oy (.slice q l cc) (.slice none 0 0) ⟨fun _ => by simp, by simp⟩
      simp only [Sem.run_bind, hg, Result.andThen_ok]
      refine ⟨_, .bool b, h, ?_, rfl⟩
      simp [binOp, run_equal_slice_nil w t e q l cc he, hq]
    · rename_i b e1 e2
      obtain ⟨q, l, cc, rfl, hq⟩ := key b e2
      obtain ⟨e, he⟩ := isSl_sound hT e1
      have hg := run_eqGuard_plain (P := P) w .neq t ox oy (.slice q l cc) (.slice none 0 0) ⟨fun _ => by simp, by simp⟩
      simp only [Sem.run_bind, hg, Result.andThen_ok]
      refine ⟨_, .bool (!b), h, ?_, rfl⟩
      simp [binOp, run_equal_slice_nil w t e q l cc he, hq]
    · cases h
  · rename_i a b
    have hx' : vx = .bool a := hx
    have hy' : vy = .bool b := hy
    subst hx'; subst hy'
    have hg := run_eqGuard_plain (P := P) w op t ox oy (.bool a) (.bool b) ⟨fun _ => by simp, by simp⟩
    simp only [Sem.run_bind, hg, Result.andThen_ok]
    split at h
    · rename_i q e
      have he := eqT_sound (S := S) (w := w) (φ := φ) (h := hh) hT (n := 50) (d := 10000) (by omega) e rfl rfl
      exact ⟨_, .bool q, h, by simp [binOp, Op.equal, Op.maxDepth, he], rfl⟩
    · rename_i q e
      have he := eqT_sound (S := S) (w := w) (φ := φ) (h := hh) hT (n := 50) (d := 10000) (by omega) e rfl rfl
      exact ⟨_, .bool (!q), h, by simp [binOp, Op.equal, Op.maxDepth, he], rfl⟩
    · cases h
  · rename_i a b
    have hguard : ∀ q, eqT tt 50 t (.agg a) (.agg b) = some q → P.eqGuardType P.depth t = false := by
      intro q he
      rw [show (50 : Nat) = 49 + 1 from rfl, eqT] at he
      cases e : assoc tt t with
      | none => rw [e] at he; cases he
      | some i =>
        cases hq : i.eq with
        | true => exact ((hT t i e).eq hq).2.1
        | false => cases ek : i.k <;> simp [e, ek, hq] at he
    split at h
    · rename_i q e
      have he := eqT_sound (S := S) (w := w) (φ := φ) (h := hh) hT (n := 50) (d := 10000) (by omega) e hx hy
      obtain ⟨xs, rfl, _⟩ := hx
      obtain ⟨ys, rfl, _⟩ := hy
      have hg := run_eqGuard_agg (P := P) w .eql t ox oy xs ys (hguard q e)
      simp only [Sem.run_bind, hg, Result.andThen_ok]
      exact ⟨_, .bool q, h, by rw [run_eql_struct, he]; rfl, rfl⟩
    · rename_i q e
      have he := eqT_sound (S := S) (w := w) (φ := φ) (h := hh) hT (n := 50) (d := 10000) (by omega) e hx hy
      obtain ⟨xs, rfl, _⟩ := hx
      obtain ⟨ys, rfl, _⟩ := hy
      have hg := run_eqGuard_agg (P := P) w .neq t ox oy xs ys (hguard q e)
      simp only [Sem.run_bind, hg, Result.andThen_ok]
      exact ⟨_, .bool (!q), h, by rw [run_neq_struct, he]; rfl, rfl⟩
    · cases h
  · cases h
end Go.Proofs.YtkimeoknckohfaaDoor.R1
