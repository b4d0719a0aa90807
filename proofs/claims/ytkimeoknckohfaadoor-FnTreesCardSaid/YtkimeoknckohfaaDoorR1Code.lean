/- Regions, code, cuts and functions. -/
import Derived.Test.YtkimeoknckohfaaDoorR1Call
import Derived.Deep.LoopGhost
namespace Go.Proofs.YtkimeoknckohfaaDoor.R1
variable {P : Program} {ρ : Type}

/-- An entry's function can be entered. -/
def EntryFn (P : Program) (e : Entry) : Prop := ∃ fn, P.funcs[e.id]? = some fn ∧ (fn.name == "runtime.NumGoroutine") = false ∧ fn.body.isNone = false

structure Tab (P : Program) (cfg : Cfg) : Prop where
  tt : TTok P cfg.tt
  fns : ∀ e ∈ cfg.fns, EntryFn P e ∧ EntryOk P cfg.glob cfg.k e
  glob : ∀ n, isGlob n = false → cfg.glob n = .free

theorem callIn_sound {cx : Cx} {φ : Nat → Value} {S : Nat → Prop} {w : World} {st : St} (m : RelH cx φ S st.h w) {args : List V} {xs : List Value} (ha : All2 (RelV S w φ st.h) args xs)
    (hcx : ∀ n, isGlob n = false → cx.glob n = .free) {k dst f : Nat} {κ : V → St → Option ρ} {r0 : ρ} : ∀ {es : List Entry}, (∀ e ∈ es, EntryFn P e ∧ EntryOk P cx.glob k e) → callIn k st dst f args κ es = some r0 →
    (∃ fn, P.funcs[f]? = some fn ∧ (fn.name == "runtime.NumGoroutine") = false ∧ fn.body.isNone = false) ∧
    Calls P f xs.toArray w fun en w' => ∃ vv st' φ' S' val, κ vv st' = some r0 ∧ en = .returned val ∧ RelH cx φ' S' st'.h w' ∧ st'.t = st.t ∧ Later S S' w w' φ φ' st.h st'.h ∧ RelV S' w' φ' st'.h vv val
  | [], _, h => by cases h
  | e :: es, he, h => by
    simp only [callIn] at h
    split at h
    · rename_i q
      have q := Nat.eq_of_beq_eq_true q
      subst q
      obtain ⟨h1, h2⟩ := he e (by simp)
      exact ⟨h1, callEnt_sound hcx m ha h2 (fun h => (callIn_sound m ha hcx (fun e he' => he e (List.mem_cons_of_mem _ he')) h).2) h⟩
    · exact callIn_sound m ha hcx (fun e he' => he e (List.mem_cons_of_mem _ he')) h

theorem openFn_rel {S : Nat → Prop} {w : World} {φ : Nat → Value} {h : Nat → B} : ∀ {g : C} {acc : List V} {xs : List Value} {n : Nat} {caps : List V} {f : Fn} {cs : Array Value}, openFn g acc = some (n, caps) → RelC S w φ h g (.func f #[] cs) → All2 (RelV S w φ h) acc xs →
    f = .func n ∧ All2 (RelV S w φ h) caps (cs.toList ++ xs) := by
  intro g
  induction g with
  | fn k =>
    intro acc xs n caps f cs ho hr ha
    simp only [openFn] at ho
    injection ho with ho; injection ho with h1 h2; subst h1; subst h2
    have hr : Value.func f #[] cs = .func (.func k) #[] #[] := hr
    injection hr with e1 _ e3
    subst e3
    exact ⟨e1, by simpa using ha⟩
  | cap g c ih _ =>
    intro acc xs n caps f cs ho hr ha
    simp only [openFn] at ho
    obtain ⟨f', cs', x, h1, h2, hv⟩ := hr
    injection hv with e1 _ e3
    subst e1; subst e3
    obtain ⟨r1, r2⟩ := ih (xs := x :: xs) ho h1 ⟨h2, ha⟩
    exact ⟨r1, by simpa using r2⟩
  | _ => intro acc xs n caps f cs ho; cases ho

theorem openFn_func {S : Nat → Prop} {w : World} {φ : Nat → Value} {h : Nat → B} : ∀ {g : C} {acc : List V} {n : Nat} {caps : List V} {v : Value}, openFn g acc = some (n, caps) → RelC S w φ h g v → ∃ f cs, v = .func f #[] cs := by
  intro g acc n caps v ho hr
  cases g with
  | fn k => exact ⟨_, _, hr⟩
  | cap g c => obtain ⟨f, cs, x, _, _, hv⟩ := hr; exact ⟨_, _, hv⟩
  | _ => cases ho

section
variable {cx : Cx} {nt : Nat} {φ : Nat → Value} {S : Nat → Prop} {st : St} {a : Act} {w : World}

/-- One operation. -/
theorem evOp_wp {cfg : Cfg} (T : Tab P cfg) (hg : cx.glob = cfg.glob) (m : RelP cx nt φ S st a w) (o : Oper) {κ : V → St → Option ρ} {r : ρ} (h : evOp cfg st o κ = some r) {K : Act → World → Prop} {Q : Exit → Act → World → Prop}
    (hK : ∀ vv st' φ' S' val w', κ vv st' = some r → RelH cx φ' S' st'.h w' → st'.t = st.t → Later S S' w w' φ φ' st.h st'.h → RelV S' w' φ' st'.h vv val → K (a.put o.dst val) w') : o.wp P a w K Q := by
  by_cases hcall : ∃ c f, o.op = .call c ∧ c.callee = .value f
  · obtain ⟨c, f, ho, hc⟩ := hcall
    obtain ⟨callee, args, argTypes⟩ := c
    simp only at hc; subst hc
    simp only [evOp, ho] at h
    split at h
    · rename_i g eg
      split at h
      · rename_i n caps eo
        have hgr := opnd_one m eg
        obtain ⟨f', cs, hv⟩ := openFn_func eo hgr
        rw [hv] at hgr
        obtain ⟨rfl, hcaps⟩ := openFn_rel eo hgr (show All2 (RelV S w φ st.h) [] [] from trivial)
        have hall := (opnds_rel m args.toList).append hcaps
        obtain ⟨⟨fn, hf1, hf2, hf3⟩, hcalls⟩ := callIn_sound (P := P) m.m hall (by rw [hg]; exact T.glob) (by rw [hg]; exact T.fns) h
        have hargs : (args.toList.map a.eval ++ (cs.toList ++ [])).toArray = args.map a.eval ++ cs := by apply Array.ext'; simp
        rw [hargs] at hcalls
        have hrun : (execOp a.eval o).run P w = .ok (.enter n (args.map a.eval ++ cs)) w := by
          have hf2' : ¬ fn.name = "runtime.NumGoroutine" := by simpa using hf2
          obtain ⟨bd, hf4⟩ : ∃ bd, fn.body = some bd := by cases hb : fn.body with
            | none => rw [hb] at hf3; cases hf3
            | some bd => exact ⟨bd, rfl⟩
          simp [execOp, ho, resolve, hv, Deferred.ofValue, invoke, callFunc, hf1, hf2', hf4]
        unfold Oper.wp
        rw [hrun, Oper.upon_enter]
        refine hcalls.mono fun en w' hh => ?_
        obtain ⟨vv, st', φ', S', val, h1, rfl, h3, h4, h5, h6⟩ := hh
        exact hK vv st' φ' S' val w' h1 h3 h4 h5 h6
      · cases h
    · cases h
  · obtain ⟨v, st', φ', S', v', w', h1, h2, h3, h4, h5, h6⟩ := evOp_step T.tt m o (fun c f hc hf => hcall ⟨c, f, hc, hf⟩) h
    unfold Oper.wp
    rcases h2 with h2 | ⟨h2, rfl⟩
    · rw [h2]; exact hK v st' φ' S' v' w' h1 h3 h4 h5 h6
    · rw [h2]; exact hK v st' φ' S' undef w' h1 h3 h4 h5 h6

theorem RelP.later {φ' : Nat → Value} {S' : Nat → Prop} {st' : St} {w' : World} (m : RelP cx nt φ S st a w) (h : RelH cx φ' S' st'.h w') (ht : st'.t = st.t) (l : Later S S' w w' φ φ' st.h st'.h) : RelP cx nt φ' S' st' a w' :=
  ⟨fun i => by rw [ht]; exact l.relV (m.t i), h, m.size, m.defers⟩

theorem RelP.put {cfg : Cfg} (hn : cfg.n = nt) (m : RelP cx nt φ S st a w) {d : Option Nat} {v : V} {val : Value} (hv : RelV S w φ st.h v val) {κ : St → Option ρ} {r : ρ} (h : put cfg st d v κ = some r) :
    ∃ st', κ st' = some r ∧ RelP cx nt φ S st' (a.put d val) w := by
  unfold R1.put at h
  cases d with
  | none => exact ⟨st, h, m⟩
  | some d =>
    simp only at h
    split at h
    · rename_i hd
      have hd : d < cfg.n := by rwa [Nat.blt_eq] at hd
      refine ⟨_, h, fun i => ?_, m.m, by simp [Act.put, m.size], m.defers⟩
      show RelV S w φ st.h (upd st.t d v i) ((a.put (some d) val).tmps.getD i undef)
      by_cases e : i = d
      · subst e
        rw [upd_same]
        have : (a.put (some i) val).tmps.getD i undef = val := by simp [Act.put, m.size, ← hn, hd]
        rw [this]; exact hv
      · rw [upd_ne _ _ e]
        have : (a.put (some d) val).tmps.getD i undef = a.tmps.getD i undef := by simp [Act.put, Array.getElem?_setIfInBounds_ne (Ne.symm e)]
        rw [this]; exact m.t i
    · cases h

theorem RelP.lit {d : Nat} {b : Bool} (m : RelP cx nt φ S st a w) (hd : st.t d = .v (.c (.bool b))) {c : Bool} (hc : b = c) : RelP cx nt φ S { st with t := upd st.t d (.v (.c (.bool c))) } a w := by
  subst hc
  refine ⟨fun i => ?_, m.m, m.size, m.defers⟩
  by_cases e : i = d
  · subst e
    have h : RelV S w φ st.h (upd st.t i (.v (.c (.bool b))) i) (a.tmps.getD i undef) := by
      rw [upd_same]; have := m.t i; rw [hd] at this; exact this
    exact h
  · have h : RelV S w φ st.h (upd st.t d (.v (.c (.bool b))) i) (a.tmps.getD i undef) := by rw [upd_ne _ _ e]; exact m.t i
    exact h

theorem wanted_bool {ops : Array Oper} {o : Oper} {j d : Nat} {want b : Bool} (hg : o.guard = some (j, want)) (hj : (ops.toList[j]?).bind (·.dst) = some d) (hd : a.tmps.getD d undef = .bool b) : Region.wanted o (yielded ops a.tmps) = (b == want) := by
  have h1 : (ops[j]?).bind (·.dst) = some d := by simpa using hj
  have h2 : a.tmps[d]? = some (.bool b) := by
    cases e : a.tmps[d]? with
    | none => simp [e, undef] at hd
    | some v => simp [e] at hd; rw [hd]
  simp only [Region.wanted, hg, yielded, h1, Option.bind_some, h2]
  cases b <;> cases want <;> rfl

theorem wanted_und {ops : Array Oper} {o : Oper} {j d : Nat} {want : Bool} (hg : o.guard = some (j, want)) (hj : (ops.toList[j]?).bind (·.dst) = some d) (hd : a.tmps.getD d undef = undef) : Region.wanted o (yielded ops a.tmps) = false := by
  have h1 : (ops[j]?).bind (·.dst) = some d := by simpa using hj
  simp only [Region.wanted, hg, yielded, h1, Option.bind_some]
  cases e : a.tmps[d]? with
  | none => rfl
  | some v =>
    simp [e] at hd
    rw [hd]; rfl
end

/-- A region whose order is its text's. -/
theorem evOps_sound {cfg : Cfg} (T : Tab P cfg) {cx : Cx} (hg : cx.glob = cfg.glob) {nt : Nat} (hn : cfg.n = nt) {ops : Array Oper} {Q : Exit → Act → World → Prop} {κ : St → Option ρ} {r : ρ}
    (hQ : ∀ st' φ' S' a' w', κ st' = some r → RelP cx nt φ' S' st' a' w' → Q .normal a' w') :
    ∀ (l : List Oper) {φ : Nat → Value} {S : Nat → Prop} {st : St} {a : Act} {w : World}, RelP cx nt φ S st a w → evOps cfg ops.toList l st κ = some r → wpList P ops Q l a w
  | [], φ, S, st, a, w, m, h => hQ st φ S a w h m
  | o :: l, φ, S, st, a, w, m, h => by
    have run : ∀ {φ : Nat → Value} {S : Nat → Prop} {st : St} {a : Act} {w : World}, RelP cx nt φ S st a w → (evOp cfg st o fun v st => put cfg st o.dst v fun st => evOps cfg ops.toList l st κ) = some r → o.wp P a w (wpList P ops Q l) Q := by
      intro φ S st a w m h
      refine evOp_wp T hg m o h fun vv st' φ' S' val w' h1 h2 h3 h4 h5 => ?_
      obtain ⟨st2, h6, m2⟩ := (m.later h2 h3 h4).put hn h5 h1
      exact evOps_sound T hg hn hQ l m2 h6
    have skip : ∀ {φ : Nat → Value} {S : Nat → Prop} {st : St} {a : Act} {w : World}, RelP cx nt φ S st a w → (put cfg st o.dst .und fun st => evOps cfg ops.toList l st κ) = some r → wpList P ops Q l (a.put o.dst undef) w := by
      intro φ S st a w m h
      obtain ⟨st2, h6, m2⟩ := m.put hn (show RelV S w φ st.h .und undef from rfl) h
      exact evOps_sound T hg hn hQ l m2 h6
    simp only [evOps] at h
    unfold wpList
    split at h
    · rename_i eg
      rw [if_pos (by simp [Region.wanted, eg])]
      exact .inl (run m h)
    · rename_i j want eg
      split at h
      · cases h
      · rename_i d ed
        split at h
        · rename_i b eb
          have hb : a.tmps.getD d undef = .bool b := by have := m.t d; rw [eb] at this; exact this
          rw [wanted_bool eg ed hb]
          cases b with
          | true =>
            simp only [cond_true] at h
            have m' := m.lit (c := true) eb rfl
            cases want with
            | true => simp only [BEq.rfl, if_true]; exact .inl (run m' h)
            | false => simp only [Bool.true_beq, Bool.false_eq_true, if_false]; exact skip m' h
          | false =>
            simp only [cond_false] at h
            have m' := m.lit (c := false) eb rfl
            cases want with
            | true => simp only [Bool.false_beq, Bool.not_true, Bool.false_eq_true, if_false]; exact skip m' h
            | false => simp only [BEq.rfl, if_true]; exact .inl (run m' h)
        · rename_i eb
          have hb : a.tmps.getD d undef = undef := by have := m.t d; rw [eb] at this; exact this
          rw [wanted_und eg ed hb]
          simp only [Bool.false_eq_true, if_false]
          exact skip m h
        · cases h
end Go.Proofs.YtkimeoknckohfaaDoor.R1
