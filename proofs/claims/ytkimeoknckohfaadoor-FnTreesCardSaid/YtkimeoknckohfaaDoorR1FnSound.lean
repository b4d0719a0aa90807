/- A function's contract out of the abstract run of its code. -/
import Derived.Test.YtkimeoknckohfaaDoorR1Fn
namespace Go.Proofs.YtkimeoknckohfaaDoor.R1
variable {P : Program} {ρ : Type}

theorem run_array_mapM {α β : Type} (f : α → Sem β) (w : World) (l : Array α) {ys : List β} (h : (l.toList.mapM f).run P w = .ok ys w) : (l.mapM f).run P w = .ok ys.toArray w := by
  rw [Array.mapM_eq_mapM_toList]
  simp [h]

/-- What a result is read from. -/
def resultOf (tmps : Array Value) : ResultVar → Sem Value
  | .tmp t => pure (tmps.getD t undef)
  | .cell a t => do loadVar t (← asAddr (tmps.getD a undef))

theorem resTemps_sound {cfg : Cfg} (hT : TTok P cfg.tt) {cx : Cx} {nt : Nat} {φ : Nat → Value} {S : Nat → Prop} {st : St} {a : Act} {w : World} (m : RelP cx nt φ S st a w) : ∀ {l : List ResultVar} {κ : List V → Option ρ} {r : ρ}, resTemps cfg st l κ = some r →
    ∃ vs xs, κ vs = some r ∧ (l.mapM (resultOf a.tmps)).run P w = .ok xs w ∧ All2 (RelV S w φ st.h) vs xs ∧ xs.length = l.length
  | [], κ, r, h => ⟨[], [], h, by simp, trivial, rfl⟩
  | .tmp t :: l, κ, r, h => by
    obtain ⟨vs, xs, h1, h2, h3, h4⟩ := resTemps_sound hT m (l := l) h
    exact ⟨st.t t :: vs, a.tmps.getD t undef :: xs, h1, by rw [List.mapM_cons]; simp only [resultOf, Sem.run_bind, Sem.run_pure, Result.andThen_ok, h2], ⟨m.t t, h3⟩, by simp [h4]⟩
  | .cell ad t :: l, κ, r, h => by
    simp only [resTemps] at h
    split at h
    · rename_i i c e e0
      have hc : RelC S w φ st.h c (a.tmps.getD ad undef) := relV_one (m.t ad) e0
      obtain ⟨v, v', h1, h2, h3⟩ := load_sound (hT t i e) m.m hc h
      obtain ⟨vs, xs, h4, h5, h6, h7⟩ := resTemps_sound hT m (l := l) h1
      have hp : ∃ q, a.tmps.getD ad undef = .pointer (some q) := by
        cases c with
        | ptr n i sz off => obtain ⟨_, g, _, hv⟩ := hc; exact ⟨_, hv⟩
        | dptr u x off => obtain ⟨b, cs, hv, _⟩ := hc; exact ⟨_, hv⟩
        | _ => simp [load] at h
      obtain ⟨q, hq⟩ := hp
      rw [hq] at h2
      have h2' : (loadVar t q).run P w = .ok v' w := by simpa [Instr.loadAt, Instr.sureAddr] using h2
      exact ⟨v :: vs, v' :: xs, h4, by rw [List.mapM_cons]; simp only [resultOf, hq, asAddr, Sem.run_bind, Sem.run_pure, Result.andThen_ok, h2', h5], ⟨h3, h6⟩, by simp [h7]⟩
    · cases h

theorem isSeq_get : ∀ {ts : List (Nat × VK)} {n : Nat}, isSeq ts n = true → ∀ {i : Nat} {p : Nat × VK}, ts[i]? = some p → p.1 = n + i
  | [], _, _, i, p, h => by simp at h
  | (j, k) :: ts, n, hs, 0, p, h => by
    simp only [isSeq, Bool.and_eq_true] at hs
    simp at h; subst h
    exact Nat.eq_of_beq_eq_true hs.1
  | (j, k) :: ts, n, hs, i + 1, p, h => by
    simp only [isSeq, Bool.and_eq_true] at hs
    simp at h
    have := isSeq_get hs.2 h
    omega

theorem tempsOf_out : ∀ {ts : List (Nat × VK)} {n : Nat} (x : VKsT ts), isSeq ts n = true → ∀ i, i < n ∨ n + ts.length ≤ i → tempsOf ts x i = .bad
  | [], _, _, _, _, _ => rfl
  | (j, k) :: ts, n, x, hs, i, hi => by
    simp only [isSeq, Bool.and_eq_true] at hs
    have := Nat.eq_of_beq_eq_true hs.1
    subst this
    simp only [tempsOf]
    simp only [List.length_cons] at hi
    rw [upd_ne _ _ (by omega)]
    exact tempsOf_out x.2 hs.2 i (by omega)

theorem rets_all2 {S : Nat → Prop} {w : World} {φ : Nat → Value} {h : Nat → B} : ∀ {ts : List (Nat × VK)} {n : Nat} {x : VKsT ts} {xs : List Value} {f : Nat → Value}, isSeq ts n = true → (∀ i, n ≤ i → RelV S w φ h (tempsOf ts x i) (f i)) → xs.length = ts.length → (∀ j v, xs[j]? = some v → f (n + j) = v) →
    All2 (RelW S w φ h) (retsOf ts x) xs
  | [], n, x, [], f, _, _, _, _ => trivial
  | (j, k) :: ts, n, x, y :: xs, f, hs, hr, hl, hf => by
    simp only [isSeq, Bool.and_eq_true] at hs
    have := Nat.eq_of_beq_eq_true hs.1
    subst this
    refine ⟨?_, rets_all2 (f := f) hs.2 (fun i hi => ?_) (by simpa using hl) fun q v hv => ?_⟩
    · have := hr j (Nat.le_refl _)
      simp only [tempsOf, upd_same] at this
      have hy := hf 0 y rfl
      rw [Nat.add_zero] at hy
      rw [hy] at this
      exact this
    · have := hr i (by omega)
      simp only [tempsOf] at this
      rwa [upd_ne _ _ (by omega)] at this
    · have := hf (q + 1) v hv
      rw [← this]; congr 1; omega
  | [], _, _, _ :: _, _, _, _, hl, _ => by cases hl
  | _ :: _, _, _, [], _, _, _, hl, _ => by cases hl

/-- A FUNCTION'S CONTRACT: its body's abstract run comes to what the entry tells. -/
theorem fn_sound (hdraw : DrawOk P) {cfg : Full} {fn : Func} {e : Entry} (hf : P.funcs[e.id]? = some fn) (hT : Tab P cfg.toCfg) (hobl : ∀ c, fn.body = some c → Obl cfg c) {k : Nat}
    (hev : ∀ v, e.f k v = evFn cfg fn e.ar e.res (e.ar.st cfg.glob v) some) (hpar : e.ar.blocks.all (fun b => isParam b.1) = true) : EntryOk P cfg.glob k e := by
  refine ⟨hpar, fun v o hv cx φ S w args hg hw hφ0 m ht hsz => ?_⟩
  rw [hev] at hv
  unfold evFn at hv
  split at hv
  case h_2 => cases hv
  rename_i c eb hchk
  simp only [Bool.and_eq_true] at hchk
  obtain ⟨⟨⟨⟨⟨k1, k2⟩, k3⟩, k4⟩, k5⟩, k6⟩ := hchk
  have k2 := Nat.eq_of_beq_eq_true k2
  have k5 := Nat.eq_of_beq_eq_true k5
  have k6 := Nat.le_of_ble_eq_true k6
  have hcx : ∀ n, isGlob n = false → cx.glob n = .free := by rw [hg]; exact hT.glob
  have T0 := hT
  refine calls_of_wp hf eb ?_
  -- the first frame
  have mP : RelP cx fn.ntmps φ S (e.ar.st cfg.glob v) { tmps := args ++ Array.replicate (fn.ntmps - args.size) undef, defers := [] } w := by
    refine ⟨fun i => ?_, m, by simp; omega, rfl⟩
    by_cases hi : i < args.size
    · have h1 := ht i
      have e1 : (args ++ Array.replicate (fn.ntmps - args.size) undef).getD i undef = args.getD i undef := by
        simp [Array.getElem?_append, hi]
      show RelV S w φ _ _ ((args ++ Array.replicate (fn.ntmps - args.size) undef).getD i undef)
      rw [e1]; exact h1
    · have : (e.ar.st cfg.glob v).t i = .bad := tempsOf_out v.1 k4 i (by omega)
      rw [this]; trivial
  refine evC_sound hdraw c hT hg k5 (hobl c eb) (Q := bodyPost P fn _) (r := o) (fun o' st φ S a w hk m => ?_) mP hv
  -- where the body ends
  have fin : ∀ {ρ' : Exit}, (resTemps cfg.toCfg st fn.results.toList fun vs => (e.res.own ⟨ofList vs, st.h⟩).bind some) = some o → a.defers = [] ∧ ∃ v, (results fn a.tmps).run P w = .ok v w ∧ ∃ φ' S' val, Ending.returned v = .returned val ∧ RelH cx φ' S' (e.res.st cfg.glob o).h w ∧ RelV S' w φ' (e.res.st cfg.glob o).h (retV (retsOf e.res.temps o.1)) val := by
    intro _ hk
    refine ⟨m.defers, ?_⟩
    obtain ⟨vs, xs, h1, h2, h3, h4⟩ := resTemps_sound T0.tt m hk
    obtain ⟨v', ev, h1⟩ := Option.bind_eq_some_iff.1 h1
    · injection h1 with h1; subst h1
      obtain ⟨φ', S', m', t'⟩ := own_sound hcx (st := ⟨ofList vs, st.h⟩) m.m (tv := fun i => xs.getD i undef) (fun i => relV_ofList h3 i) ev
      have hlen : xs.length = e.res.temps.length := by rw [k2, h4, Array.length_toList]
      have hall : All2 (RelW S' w φ' (e.res.st cfg.glob v').h) (retsOf e.res.temps v'.1) xs := by
        rw [hg] at t' m'
        exact rets_all2 (n := 0) (f := fun i => xs.getD i undef) k1 (fun i _ => t' i) hlen fun j v hv => by simp [List.getD, hv]
      have hres : (results fn a.tmps).run P w = .ok (if h : xs.toArray.size = 1 then xs.toArray[0] else .tuple xs.toArray) w := by
        have := run_array_mapM (resultOf a.tmps) w fn.results h2
        unfold results
        rw [Sem.run_bind]
        have e3 : ∀ f : ResultVar → Sem Value, (∀ x, f x = resultOf a.tmps x) → fn.results.mapM f = fn.results.mapM (resultOf a.tmps) := fun f hf => by rw [funext hf]
        rw [e3 _ (fun x => by cases x <;> rfl), this]
        simp
      refine ⟨_, hres, φ', S', _, rfl, by rw [← hg]; exact m', ?_⟩
      generalize retsOf e.res.temps v'.1 = ws at hall
      cases xs with
      | nil => cases ws with
        | nil => exact ⟨#[], rfl, trivial⟩
        | cons => exact hall.elim
      | cons x xs => cases xs with
        | nil => cases ws with
          | nil => exact hall.elim
          | cons y ws => cases ws with
            | nil => exact hall.1
            | cons => exact hall.2.elim
        | cons x2 xs => cases ws with
          | nil => exact hall.elim
          | cons y ws => cases ws with
            | nil => exact hall.2.elim
            | cons y2 ws => exact ⟨_, by simp, hall⟩
  cases o' with
  | exit i => cases hk
  | normal => simp only at hk; exact fin (ρ' := .normal) hk
  | ret => simp only at hk; exact fin (ρ' := .ret) hk
end Go.Proofs.YtkimeoknckohfaaDoor.R1
