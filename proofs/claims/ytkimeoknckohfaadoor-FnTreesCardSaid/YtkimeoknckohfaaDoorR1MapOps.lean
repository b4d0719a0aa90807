/- Maps: made, looked up, written. -/
import Derived.Test.YtkimeoknckohfaaDoorR1EvOp
import Derived.MapKept
import Derived.ChangeMaps5
namespace Go.Proofs.YtkimeoknckohfaaDoor.R1
open Go.MapKept Go.ChangeMaps
variable {P : Program} {ρ : Type}

theorem TIok.map {t : TypeId} {i : TI} {k e : Nat} (ok : TIok P t i) (ek : i.k = .map k e) : P.underlying t = some (.map k e) := by
  obtain ⟨d, hd, hk⟩ := ok.und
  rw [ek] at hk
  cases d <;> simp only [KindOk] at hk
  rw [hd, hk.1, hk.2]

section
variable {cx : Cx} {nt : Nat} {φ : Nat → Value} {S : Nat → Prop} {st : St} {a : Act} {w : World}

theorem sameB_eq {a b : Bool} (h : sameB a b = true) : a = b := by cases a <;> cases b <;> first | rfl | cases h

theorem isAgg_cells {h : Nat → B} {x : W1} {v : Value} (hr : RelW S w φ h x v) : match x.isAgg with
    | true => ∃ cs, v = .agg cs ∧ All2 (RelC S w φ h) x.cells cs.toList
    | false => All2 (RelC S w φ h) x.cells [v] := by
  cases x with
  | c c => exact ⟨hr, trivial⟩
  | agg xs => exact hr

theorem datumW_rel {h : Nat → B} {ag : Bool} {u : U} {x : V} {v : Value} {y : El u} (hr : RelV S w φ h x v) (hd : datumW ag u x = some y) : RepA S w ag u y v := by
  cases x with
  | v x =>
    simp only [datumW] at hd
    split at hd
    case h_2 => cases hd
    rename_i hb
    rw [Bool.and_eq_true] at hb
    have hag := sameB_eq hb.1
    have hc := isAgg_cells (show RelW S w φ h x v from hr)
    have pl : ∀ {cs : List C} {vs : List Value}, cs.all C.plain = true → All2 (RelC S w φ h) cs vs → All2 (RelC S w φ (fun _ => .free)) cs vs := by
      intro cs
      induction cs with
      | nil => intro vs _ ha; cases vs <;> exact ha
      | cons c cs ih =>
        intro vs hp ha
        cases vs with
        | nil => exact ha.elim
        | cons v vs =>
          simp only [List.all_cons, Bool.and_eq_true] at hp
          exact ⟨plain_rel hp.1 ha.1, ih hp.2 ha.2⟩
    rw [hag] at hc
    cases ag with
    | true =>
      obtain ⟨cs, rfl, ha⟩ := hc
      exact ⟨cs, rfl, rep_datum (ok := fun _ => True) free_b (fun _ h => h) (pl hb.2 ha) hd fun n _ hn => (by cases hn)⟩
    | false => exact rep_datum (ok := fun _ => True) free_b (fun _ h => h) (pl hb.2 hc) hd fun n _ hn => (by cases hn)
  | _ => simp [datumW] at hd

/-- What the keys' comparison says. -/
structure KeyOk (P : Program) (k : TypeId) (ka : Bool) (u : U) (eq : El u → El u → Bool) (d : TypeDesc) : Prop where
  und : P.underlying k = some d
  isKey : ∀ {S : Nat → Prop} {w : World} {x : El u} {v : Value}, RepA S w ka u x v → IsKey d v
  same : ∀ {S : Nat → Prop} {w : World} {x y : El u} {v v' : Value}, RepA S w ka u x v → RepA S w ka u y v' → Instr.sameNow d v v' = some (eq x y)
  eq : ∀ {S : Nat → Prop} {w : World} {x y : El u} {v v' : Value}, RepA S w ka u x v → RepA S w ka u y v' → eq x y = true → v' = v

theorem keyEq_ok {tt : TT} (hT : TTok P tt) {k : Nat} {ik : TI} (hk : assoc tt k = some ik) {u : U} {eq : El u → El u → Bool} (h : keyEq tt k u = some eq) : ∃ d, KeyOk P k ik.agg u eq d := by
  cases u with
  | int q =>
    simp only [keyEq, hk] at h
    split at h
    · rename_i q' ek
      split at h
      · rename_i e
        subst e
        injection h with h; subst h
        have hag : ik.agg = false := by simp [TI.agg, ek]
        rw [hag]
        refine ⟨_, (hT k ik hk).int ek, ?_, ?_, ?_⟩
        · intro S w x v hr; have hr : [v] = [Value.int q' x] := hr; injection hr with hr; subst hr; rfl
        · intro S w x y v v' hr hr'
          have hr : [v] = [Value.int q' x] := hr
          have hr' : [v'] = [Value.int q' y] := hr'
          injection hr with hr; injection hr' with hr'; subst hr; subst hr'
          simp [Instr.sameNow]
        · intro S w x y v v' hr hr' he
          have hr : [v] = [Value.int q' x] := hr
          have hr' : [v'] = [Value.int q' y] := hr'
          injection hr with hr; injection hr' with hr'; subst hr; subst hr'
          have : x = y := by simpa using he
          rw [this]
      · cases h
    · cases h
  | _ => simp [keyEq] at h

theorem find_rel {k : TypeId} {ka va : Bool} {ku vu : U} {eq : El ku → El ku → Bool} {d : TypeDesc} (K : KeyOk P k ka ku eq d) {x : El ku} {v : Value} (hx : RepA S w ka ku x v) : ∀ {l : List (El ku × El vu)} {es : List MapEntry} (i : Nat), All2 (RepE S w ka va ku vu) l es →
    (mapGet eq x l = none ∧ Instr.findNow d v es i = some none ∧ ∀ y, mapPut eq x y l = l ++ [(x, y)]) ∨
    ∃ j e b, Instr.findNow d v es i = some (some (i + j, e.val)) ∧ es[j]? = some e ∧ mapGet eq x l = some b ∧ RepA S w va vu b e.val ∧ e.key = v ∧ ∀ y, mapPut eq x y l = l.set j (x, y)
  | [], [], i, _ => .inl ⟨rfl, rfl, fun _ => rfl⟩
  | p :: l, e :: es, i, ha => by
    have hs := K.same hx ha.1.1
    cases hq : eq x p.1 with
    | true =>
      rw [hq] at hs
      exact .inr ⟨0, e, p.2, by simp [Instr.findNow, hs], rfl, by simp [mapGet, hq], ha.1.2, K.eq hx ha.1.1 hq, fun y => by simp [mapPut, hq]⟩
    | false =>
      rw [hq] at hs
      rcases find_rel K hx (i + 1) ha.2 with ⟨h1, h2, h3⟩ | ⟨j, e', b, h1, h2, h3, h4, h5, h6⟩
      · exact .inl ⟨by simp [mapGet, hq, h1], by simp [Instr.findNow, hs, h2], fun y => by simp [mapPut, hq, h3]⟩
      · exact .inr ⟨j + 1, e', b, by simp [Instr.findNow, hs, h1]; omega, by simpa using h2, by simp [mapGet, hq, h3], h4, h5, fun y => by simp [mapPut, hq, h6]⟩
  | [], _ :: _, _, h => h.elim
  | _ :: _, [], _, h => h.elim

theorem RepM.push {ka va : Bool} {ku vu : U} {l : List (El ku × El vu)} {es : Array MapEntry} {clock : Nat} (h : RepM S w ka va ku vu l es clock) {x : El ku × El vu} {e : MapEntry} (he : RepE S w ka va ku vu x e) (hb : e.born = clock) : RepM S w ka va ku vu (l ++ [x]) (es.push e) (clock + 1) := by
  obtain ⟨h1, h2, h3⟩ := h
  refine ⟨by rw [Array.toList_push]; exact h1.append ⟨he, trivial⟩, by simp [h2], fun i e' hi => ?_⟩
  rw [Array.getElem?_push] at hi
  split at hi
  · rename_i q; injection hi with hi; subst hi; rw [hb, h2, q]
  · exact h3 i e' hi

theorem RepM.modify {ka va : Bool} {ku vu : U} {l : List (El ku × El vu)} {es : Array MapEntry} {clock : Nat} (h : RepM S w ka va ku vu l es clock) {x : El ku × El vu} {j : Nat} {e : MapEntry} (hj : es[j]? = some e) {f : MapEntry → MapEntry} (he : RepE S w ka va ku vu x (f e)) (hb : (f e).born = e.born) : RepM S w ka va ku vu (l.set j x) (es.modify j f) clock := by
  obtain ⟨h1, h2, h3⟩ := h
  have hjl : j < es.size := (Array.getElem?_eq_some_iff.1 hj).1
  have el : (es.modify j f).toList = es.toList.set j (f e) := by
    apply List.ext_getElem?
    intro q
    rw [Array.getElem?_toList, Array.getElem?_modify, List.getElem?_set]
    by_cases hq : j = q
    · subst hq; simp [hj, hjl, (Array.getElem?_eq_some_iff.1 hj).2]
    · simp [hq]
  refine ⟨by rw [el]; exact h1.set j he, by simp [h2], fun i e' hi => ?_⟩
  rw [Array.getElem?_modify] at hi
  split at hi
  · rename_i q
    subst q
    rw [hj] at hi
    simp only [Option.map_some] at hi
    injection hi with hi; subst hi; rw [hb]; exact h3 _ e hj
  · exact h3 i e' hi

theorem mapEnt_get {ku vu : U} {eq : El ku → El ku → Bool} {x : El ku} {z : El vu} : ∀ {l : List (El ku × El vu)}, mapEnt eq x z l = mapPut eq x ((mapGet eq x l).getD z) l
  | [] => rfl
  | p :: l => by
    cases h : eq x p.1 with
    | true => simp [mapEnt, mapPut, mapGet, h]
    | false => simp [mapEnt, mapPut, mapGet, h, mapEnt_get (l := l)]

theorem find_idx {k : TypeId} {ka va : Bool} {ku vu : U} {eq : El ku → El ku → Bool} {d : TypeDesc} (K : KeyOk P k ka ku eq d) {x : El ku} {v : Value} (hx : RepA S w ka ku x v) : ∀ {l : List (El ku × El vu)} {es : List MapEntry} (i : Nat), All2 (RepE S w ka va ku vu) l es →
    ∀ r, Instr.findNow d v es i = some r → match r with
      | none => mapIdx eq x l = es.length
      | some q => q.1 = i + mapIdx eq x l
  | [], [], i, _, r, h => by simp [Instr.findNow] at h; subst h; rfl
  | p :: l, e :: es, i, ha, r, h => by
    have hs := K.same hx ha.1.1
    cases hq : eq x p.1 with
    | true =>
      rw [hq] at hs
      simp [Instr.findNow, hs] at h
      subst h
      simp [mapIdx, hq]
    | false =>
      rw [hq] at hs
      simp only [Instr.findNow, hs] at h
      have := find_idx K hx (i + 1) ha.2 r h
      cases r with
      | none => simp only [mapIdx, hq, cond_false] at this ⊢; simp [this]
      | some q => simp only [mapIdx, hq, cond_false] at this ⊢; omega
  | [], _ :: _, _, h, _, _ => h.elim
  | _ :: _, [], _, h, _, _ => h.elim

theorem asV_repA {i : TI} {u : U} {x : El u} {v : Value} (h : Nat → B) (hr : RepA S w i.agg u x v) {y : W1} (hv : asV i.agg (toCells u x) = some (.v y)) : RelW S w φ h y v := by
  cases hag : i.agg with
  | true =>
    rw [hag] at hr hv
    obtain ⟨cs, rfl, hr⟩ := hr
    simp [asV] at hv; subst hv
    exact ⟨cs, rfl, relC_toCells hr⟩
  | false =>
    rw [hag] at hr hv
    have ha := relC_toCells (φ := φ) (h := h) (show Rep S w u x [v] from hr)
    cases hc : toCells u x with
    | nil => rw [hc] at hv; simp [asV] at hv
    | cons c r => cases r with
      | cons => rw [hc] at hv; simp [asV] at hv
      | nil => rw [hc] at hv ha; simp [asV] at hv; subst hv; exact ha.1

theorem step_makeMap {cfg : Cfg} (hT : TTok P cfg.tt) (m : RelP cx nt φ S st a w) {o : Oper} {t : TypeId} (ho : o.op = .makeMap t none) {κ : V → St → Option ρ} {r : ρ} (h : evOp cfg st o κ = some r) : StepR P cx φ S st a w o κ r := by
  simp only [evOp, ho] at h
  split at h
  case h_2 => cases h
  rename_i i e
  split at h
  case h_2 => cases h
  rename_i k el ek
  split at h
  case h_2 => cases h
  rename_i ik ie e1 e2
  split at h
  case h_2 => cases h
  rename_i hp
  rw [Bool.and_eq_true] at hp
  obtain ⟨hf, hgl, h⟩ := newBlock_some h
  have hfree : (none : Option Nat) = some (Oper.name o) ∧ pv (Value.map (some w.heap.size)) = pv (φ (Oper.name o)) ∨ (st.h (Oper.name o)).live = false ∧ isKept (Oper.name o) = false := .inr ⟨by rw [hf]; rfl, hgl⟩
  have hkeep : ∀ g, g < w.heap.size → (∀ n, (none : Option Nat) = some n → ¬ Bk (φ n) g) → (w.alloc (.map #[] 0)).heap[g]? = w.heap[g]? := fun g hg _ => heap_alloc_old w _ g hg
  have hlat := Later.of_change m.m none (by simp) hkeep (Oper.name o) (.mp t ik.agg ie.agg ik.u ie.u []) (.map (some w.heap.size)) rfl hfree
  have hm := m.m.change (w' := w.alloc (.map #[] 0)) rfl rfl rfl (by simp) none (by simp) hkeep (Oper.name o) (.mp t ik.agg ie.agg ik.u ie.u []) (.map (some w.heap.size)) rfl hfree (fun g hg => .inr (Nat.le_of_eq (bk_map.1 hg).symm))
    (fun h' hh => ⟨hp.1, hp.2, .inr ⟨w.heap.size, #[], 0, rfl, heap_alloc_new w _, ⟨trivial, rfl, fun i e h => by simp at h⟩, .inl m.m.keep.size⟩⟩)
  refine ⟨_, _, _, S, .map (some w.heap.size), _, h, .inl ?_, hm, rfl, hlat, ?_⟩
  · simp [execOp, ho, Instr.makeMap, newObj, Sem.run, Result.andThen]
  · exact ⟨by show (upd st.h _ _ _).live = true; rw [upd_same]; rfl, some w.heap.size, rfl, rfl, by rw [upd_same]; rfl⟩

theorem step_lookup {cfg : Cfg} (hT : TTok P cfg.tt) (m : RelP cx nt φ S st a w) {o : Oper} {t : TypeId} {x y : Operand} {cm : Bool} (ho : o.op = .lookup t x y cm) {κ : V → St → Option ρ} {r : ρ} (h : evOp cfg st o κ = some r) : StepR P cx φ S st a w o κ r := by
  simp only [evOp, ho] at h
  split at h
  case h_2 => cases h
  rename_i i e
  split at h
  case h_2 => cases h
  rename_i k el ek
  split at h
  case h_2 => cases h
  rename_i ik ie e1 e2
  split at h
  case h_2 => cases h
  rename_i hz
  have hz := Nat.eq_of_beq_eq_true hz
  have hu := (hT t i e).map ek
  unfold lookupW at h
  split at h
  case h_2 => cases h
  rename_i z eq kx ez eeq ekx
  obtain ⟨d, K⟩ := keyEq_ok hT e1 eeq
  have hkx := datumW_rel (relV_opnd m y) ekx
  have oke := hT el ie e2
  obtain ⟨inf, zv, i1, _, _, i4, i5, i6⟩ := oke.info
  have hz1 : (zeroValue el).run P w = .ok zv w := by simp [zeroValue, typeInfo, i1, i4]
  have hz2 : All2 (RelC S w φ (fun _ => .free)) ie.zero zv.cells.toList := all2_ofCells (i6 hz)
  have hzr : RepA S w ie.agg ie.u z zv := by
    have hr := rep_datum (ok := fun _ => True) free_b (fun _ h => h) hz2 ez fun n _ hn => (by cases hn)
    have hag := oke.zagg inf zv i1 i4
    rw [← hag]
    cases zv with
    | agg cs => exact ⟨cs, rfl, hr⟩
    | _ => exact hr
  have hck : ∀ em, (Instr.checkKey em 10000 k (a.eval y)).run P w = .ok () w := fun em => run_checkKey K.und (K.isKey hkx) em 9999
  have fin : ∀ (g : Option (El ie.u)) (vv : Value), RepA S w ie.agg ie.u (g.getD z) vv → (Instr.lookup t (a.eval x) (a.eval y) cm).run P w = .ok (if cm then .tuple #[vv, .bool g.isSome] else vv) w →
      (match asV ie.agg (toCells ie.u (g.getD z)) with
      | some (.v w) => κ (lookupV cm w g.isSome) st
      | _ => none) = some r → StepR P cx φ S st a w o κ r := by
    intro g vv hvv hrun h
    split at h
    case h_2 => cases h
    rename_i w1 ew
    have hw := asV_repA (φ := φ) st.h hvv ew
    cases cm with
    | true => exact StepR.pure (v' := .tuple #[vv, .bool g.isSome]) m h (by simp [execOp, ho, hrun]) ⟨#[vv, .bool g.isSome], rfl, hw, rfl, trivial⟩
    | false => exact StepR.pure (v' := vv) m h (by simp [execOp, ho, hrun]) hw
  have hnil : a.eval x = .map none → (Instr.lookup t (a.eval x) (a.eval y) cm).run P w = .ok (if cm then .tuple #[zv, .bool (none : Option (El ie.u)).isSome] else zv) w := by
    intro hx
    have hf : (Instr.findKey k (a.eval y) []).run P w = .ok none w := run_findKey K.und rfl
    simp [Instr.lookup, run_underlying hu, hx, hck, hf, hz1, Result.andThen]
  split at h
  · rename_i hx
    have hx : a.eval x = .map none := opnd_eq m hx
    exact fin none zv hzr (hnil hx) h
  · rename_i b n hx
    obtain ⟨hl, q, hq, hb, hv⟩ : RelC S w φ st.h (.mapr b n) (a.eval x) := opnd_eq m hx
    have hbn := m.m.b n
    split at h
    case h_2 => cases h
    rename_i t' ka va ku vu l en
    rw [en] at hbn
    split at h
    case h_2 => cases h
    rename_i hb3
    simp only [Bool.and_eq_true] at hb3
    obtain ⟨⟨ht', hka⟩, hva⟩ := hb3
    have hka := sameB_eq hka
    have hva := sameB_eq hva
    subst hka; subst hva
    split at h
    case isFalse => cases h
    rename_i huu
    obtain ⟨hku, hvu⟩ := huu
    subst hku; subst hvu
    obtain ⟨_, _, ⟨h0, hl0⟩ | ⟨r0, es, clock, h0, hg, hes, _⟩⟩ := hbn
    · subst hl0
      have hx : a.eval x = .map none := by
        rw [h0] at hv
        cases q with
        | none => exact hq
        | some q => cases hv
      exact fin none zv hzr (hnil hx) h
    · have hx : a.eval x = .map (some r0) := by
        rw [h0] at hv
        cases q with
        | none => cases hv
        | some q => rw [hq]; exact hv.symm
      rcases find_rel K hkx 0 hes.1 with ⟨g1, g2, _⟩ | ⟨j, e', b', g1, g2, g3, g4, g5, _⟩
      · have hf : (Instr.findKey k (a.eval y) es.toList).run P w = .ok none w := run_findKey K.und g2
        rw [show mapGet eq kx _ = none from g1] at h
        refine fin none zv hzr ?_ h
        simp [Instr.lookup, run_underlying hu, hx, MapKept.run_getObj_map hg, hck, hf, hz1, Result.andThen]
      · have hf : (Instr.findKey k (a.eval y) es.toList).run P w = .ok (some (0 + j, e'.val)) w := run_findKey K.und g1
        rw [show mapGet eq kx _ = some b' from g3] at h
        refine fin (some b') e'.val g4 ?_ h
        simp [Instr.lookup, run_underlying hu, hx, MapKept.run_getObj_map hg, hck, hf, Result.andThen]
  · cases h

theorem step_mapUpdate {cfg : Cfg} (hT : TTok P cfg.tt) (m : RelP cx nt φ S st a w) {o : Oper} {t : TypeId} {x y z : Operand} (ho : o.op = .mapUpdate t x y z) {κ : V → St → Option ρ} {r : ρ} (h : evOp cfg st o κ = some r) : StepR P cx φ S st a w o κ r := by
  simp only [evOp, ho] at h
  split at h
  case h_2 => cases h
  rename_i i e
  split at h
  case h_2 => cases h
  rename_i k el ek
  split at h
  case h_2 => cases h
  rename_i ik ie e1 e2
  have hu := (hT t i e).map ek
  unfold updateW at h
  split at h
  case h_2 => cases h
  rename_i eq kx vx eeq ekx evx
  obtain ⟨d, K⟩ := keyEq_ok hT e1 eeq
  have hkx := datumW_rel (relV_opnd m y) ekx
  have hvx := datumW_rel (relV_opnd m z) evx
  have hck : ∀ em, (Instr.checkKey em 10000 k (a.eval y)).run P w = .ok () w := fun em => run_checkKey K.und (K.isKey hkx) em 9999
  split at h
  case h_2 => cases h
  rename_i b n hx
  obtain ⟨hl, q, hq, hb, hv⟩ : RelC S w φ st.h (.mapr b n) (a.eval x) := opnd_eq m hx
  have hbn := m.m.b n
  cases b with
  | true => cases h
  | false =>
    simp only [cond_false] at h
    split at h
    case h_2 => cases h
    rename_i t' ka va ku vu l en
    rw [en] at hbn
    split at h
    case h_2 => cases h
    rename_i hb3
    simp only [Bool.and_eq_true] at hb3
    obtain ⟨⟨ht', hka⟩, hva⟩ := hb3
    have hka := sameB_eq hka
    have hva := sameB_eq hva
    subst hka; subst hva
    split at h
    case isFalse => cases h
    rename_i huu
    obtain ⟨hku, hvu⟩ := huu
    subst hku; subst hvu
    obtain ⟨p1, p2, ⟨h0, hl0⟩ | ⟨r0, es, clock, h0, hg, hes, hok⟩⟩ := hbn
    · rw [h0] at hv
      cases q with
      | none => cases hb
      | some q => cases hv
    · have hx : a.eval x = .map (some r0) := by
        rw [h0] at hv
        cases q with
        | none => cases hv
        | some q => rw [hq]; exact hv.symm
      have key : ∃ es' clock', (Instr.mapUpdate t (a.eval x) (a.eval y) (a.eval z)).run P w = .ok () (setBlock w r0 (.map es' clock')) ∧ RepM S w ik.agg ie.agg ik.u ie.u (mapPut eq kx vx l) es' clock' := by
        rcases find_rel K hkx 0 hes.1 with ⟨_, g2, g3⟩ | ⟨j, e', b', g1, g2, _, g4, g5, g6⟩
        · have hf : (Instr.findKey k (a.eval y) es.toList).run P w = .ok none w := run_findKey K.und g2
          refine ⟨es.push ⟨a.eval y, a.eval z, clock⟩, clock + 1, ?_, ?_⟩
          · simp [Instr.mapUpdate, run_underlying hu, hx, MapKept.run_getObj_map hg, hck, hf, MapKept.run_setObj_map _ hg, Result.andThen, setBlock]
          · rw [g3 vx]
            exact hes.push ⟨hkx, hvx⟩ rfl
        · have hf : (Instr.findKey k (a.eval y) es.toList).run P w = .ok (some (0 + j, e'.val)) w := run_findKey K.und g1
          have hj : es[j]? = some e' := by simpa using g2
          have hst : (Instr.keyThatStays (a.eval y) (a.eval y)).run P w = .ok (a.eval y) w := run_keyThatStays (K.isKey hkx)
          refine ⟨es.modify j (fun e => { e with key := a.eval y, val := a.eval z }), clock, ?_, ?_⟩
          · simp [Instr.mapUpdate, run_underlying hu, hx, MapKept.run_getObj_map hg, hck, hf, hj, g5, hst, MapKept.run_setObj_map _ hg, Result.andThen, setBlock]
          · rw [g6 vx]
            exact hes.modify hj ⟨hkx, hvx⟩ rfl
      obtain ⟨es', clock', hrun, hes'⟩ := key
      have hmut : (st.h n).mut = true := by rw [en]; rfl
      have hold : ∀ k, some n = some k → (st.h k).mut = true := fun k hk => by injection hk with hk; subst hk; exact hmut
      have hsz : w.heap.size = (setBlock w r0 (.map es' clock')).heap.size := by simp [setBlock]
      have hkeep : ∀ g, g < w.heap.size → (∀ k, some n = some k → ¬ Bk (φ k) g) → (setBlock w r0 (.map es' clock')).heap[g]? = w.heap[g]? := fun g _ hne => heap_setBlock_other hg _ fun e => hne n rfl (by rw [h0, e]; exact bk_map.2 rfl)
      have hfree : (some n : Option Nat) = some n ∧ pv (φ n) = pv (φ n) ∨ (st.h n).live = false ∧ isKept n = false := .inl ⟨rfl, rfl⟩
      have hlat := Later.of_change m.m (some n) hold hkeep n (.mp t' ik.agg ie.agg ik.u ie.u (mapPut eq kx vx l)) (φ n) rfl hfree
      have hm := m.m.change (w' := setBlock w r0 (.map es' clock')) rfl rfl rfl (Nat.le_of_eq hsz) (some n) hold hkeep n (.mp t' ik.agg ie.agg ik.u ie.u (mapPut eq kx vx l)) (φ n) rfl hfree (fun g hg => .inl ⟨n, rfl, hg⟩)
        (fun h' hh => ⟨p1, p2, .inr ⟨r0, es', clock', h0, heap_setBlock_same hg _, hes'.mono fun _ _ hh => ⟨hh.1.mono (fun _ h => h) hlat.k, hh.2.mono (fun _ h => h) hlat.k⟩, hok⟩⟩)
      simp only [giveUp, upd_upd] at hm hlat
      exact ⟨_, _, _, S, undef, _, h, .inr ⟨by simp [execOp, ho, hrun], rfl⟩, hm, rfl, hlat, rfl⟩

theorem step_mapEntry {cfg : Cfg} (hT : TTok P cfg.tt) (m : RelP cx nt φ S st a w) {o : Oper} {t : TypeId} {x y : Operand} (ho : o.op = .mapEntry t x y) {κ : V → St → Option ρ} {r : ρ} (h : evOp cfg st o κ = some r) : StepR P cx φ S st a w o κ r := by
  simp only [evOp, ho] at h
  split at h
  case h_2 => cases h
  rename_i i e
  split at h
  case h_2 => cases h
  rename_i k el ek
  split at h
  case h_2 => cases h
  rename_i ik ie e1 e2
  split at h
  case h_2 => cases h
  rename_i hz
  have hz := Nat.eq_of_beq_eq_true hz
  have hu := (hT t i e).map ek
  unfold entryW at h
  split at h
  case h_2 => cases h
  rename_i z eq kx ez eeq ekx
  obtain ⟨d, K⟩ := keyEq_ok hT e1 eeq
  have hkx := datumW_rel (relV_opnd m y) ekx
  have oke := hT el ie e2
  obtain ⟨inf, zv, i1, _, _, i4, i5, i6⟩ := oke.info
  have hz1 : (zeroValue el).run P w = .ok zv w := by simp [zeroValue, typeInfo, i1, i4]
  have hz2 : All2 (RelC S w φ (fun _ => .free)) ie.zero zv.cells.toList := all2_ofCells (i6 hz)
  have hzr : RepA S w ie.agg ie.u z zv := by
    have hr := rep_datum (ok := fun _ => True) free_b (fun _ h => h) hz2 ez fun n _ hn => (by cases hn)
    have hag := oke.zagg inf zv i1 i4
    rw [← hag]
    cases zv with
    | agg cs => exact ⟨cs, rfl, hr⟩
    | _ => exact hr
  have hck : ∀ em, (Instr.checkKey em 10000 k (a.eval y)).run P w = .ok () w := fun em => run_checkKey K.und (K.isKey hkx) em 9999
  split at h
  case h_2 => cases h
  rename_i b n hx
  obtain ⟨hl, q, hq, hb, hv⟩ : RelC S w φ st.h (.mapr b n) (a.eval x) := opnd_eq m hx
  have hbn := m.m.b n
  cases b with
  | true => cases h
  | false =>
    simp only [cond_false] at h
    split at h
    case h_2 => cases h
    rename_i t' ka va ku vu l en
    rw [en] at hbn
    split at h
    case h_2 => cases h
    rename_i hb3
    simp only [Bool.and_eq_true] at hb3
    obtain ⟨⟨ht', hka⟩, hva⟩ := hb3
    have hka := sameB_eq hka
    have hva := sameB_eq hva
    subst hka; subst hva
    split at h
    case isFalse => cases h
    rename_i huu
    obtain ⟨hku, hvu⟩ := huu
    subst hku; subst hvu
    split at h
    case h_2 => cases h
    rename_i w1 ew
    obtain ⟨p1, p2, ⟨h0, hl0⟩ | ⟨r0, es, clock, h0, hg, hes, hok⟩⟩ := hbn
    · rw [h0] at hv
      cases q with
      | none => cases hb
      | some q => cases hv
    · have hx : a.eval x = .map (some r0) := by
        rw [h0] at hv
        cases q with
        | none => cases hv
        | some q => rw [hq]; exact hv.symm
      have key : ∃ es' clock' vv, (Instr.mapEntry t (a.eval x) (a.eval y)).run P w = .ok (.tuple #[vv, .int .i64 (mapIdx eq kx l : Int)]) (setBlock w r0 (.map es' clock')) ∧ RepA S w ie.agg ie.u ((mapGet eq kx l).getD z) vv ∧ RepM S w ik.agg ie.agg ik.u ie.u (mapEnt eq kx z l) es' clock' := by
        rw [mapEnt_get]
        rcases find_rel K hkx 0 hes.1 with ⟨g1, g2, g3⟩ | ⟨j, e', b', g1, g2, g3, g4, g5, g6⟩
        · have hf : (Instr.findKey k (a.eval y) es.toList).run P w = .ok none w := run_findKey K.und g2
          have hi := find_idx K hkx 0 hes.1 _ g2
          have hcl : (clock : Int) = (mapIdx eq kx l : Int) := by rw [hes.2.1, show mapIdx eq kx l = es.toList.length from hi]; simp
          refine ⟨es.push ⟨a.eval y, zv, clock⟩, clock + 1, zv, ?_, ?_, ?_⟩
          · simp [Instr.mapEntry, run_underlying hu, hx, MapKept.run_getObj_map hg, hck, hf, hz1, MapKept.run_setObj_map _ hg, Result.andThen, setBlock, goInt, hcl]
          · rw [g1]; exact hzr
          · rw [g3, g1]
            exact hes.push ⟨hkx, hzr⟩ rfl
        · have hf : (Instr.findKey k (a.eval y) es.toList).run P w = .ok (some (0 + j, e'.val)) w := run_findKey K.und g1
          have hi : 0 + j = 0 + mapIdx eq kx l := find_idx K hkx 0 hes.1 _ g1
          have hj : es[j]? = some e' := by simpa using g2
          have hst : (Instr.keyThatStays (a.eval y) (a.eval y)).run P w = .ok (a.eval y) w := run_keyThatStays (K.isKey hkx)
          have hbn : (e'.born : Int) = (mapIdx eq kx l : Int) := by rw [hes.2.2 j e' hj]; omega
          refine ⟨es.modify j (fun e => { e with key := a.eval y }), clock, e'.val, ?_, ?_, ?_⟩
          · simp [Instr.mapEntry, run_underlying hu, hx, MapKept.run_getObj_map hg, hck, hf, hj, g5, hst, MapKept.run_setObj_map _ hg, Result.andThen, setBlock, goInt, hbn]
          · rw [g3]; exact g4
          · rw [g6, g3]
            exact hes.modify hj ⟨hkx, g4⟩ rfl
      obtain ⟨es', clock', vv, hrun, hvv, hes'⟩ := key
      have hmut : (st.h n).mut = true := by rw [en]; rfl
      have hold : ∀ k, some n = some k → (st.h k).mut = true := fun k hk => by injection hk with hk; subst hk; exact hmut
      have hsz : w.heap.size = (setBlock w r0 (.map es' clock')).heap.size := by simp [setBlock]
      have hkeep : ∀ g, g < w.heap.size → (∀ k, some n = some k → ¬ Bk (φ k) g) → (setBlock w r0 (.map es' clock')).heap[g]? = w.heap[g]? := fun g _ hne => heap_setBlock_other hg _ fun e => hne n rfl (by rw [h0, e]; exact bk_map.2 rfl)
      have hfree : (some n : Option Nat) = some n ∧ pv (φ n) = pv (φ n) ∨ (st.h n).live = false ∧ isKept n = false := .inl ⟨rfl, rfl⟩
      have hlat := Later.of_change m.m (some n) hold hkeep n (.mp t' ik.agg ie.agg ik.u ie.u (mapEnt eq kx z l)) (φ n) rfl hfree
      have hm := m.m.change (w' := setBlock w r0 (.map es' clock')) rfl rfl rfl (Nat.le_of_eq hsz) (some n) hold hkeep n (.mp t' ik.agg ie.agg ik.u ie.u (mapEnt eq kx z l)) (φ n) rfl hfree (fun g hg => .inl ⟨n, rfl, hg⟩)
        (fun h' hh => ⟨p1, p2, .inr ⟨r0, es', clock', h0, heap_setBlock_same hg _, hes'.mono fun _ _ hh => ⟨hh.1.mono (fun _ h => h) hlat.k, hh.2.mono (fun _ h => h) hlat.k⟩, hok⟩⟩)
      have hw := asV_repA (φ := upd φ n (φ n)) (upd (giveUp st.h (some n)) n (.mp t' ik.agg ie.agg ik.u ie.u (mapEnt eq kx z l))) (hvv.mono (fun _ h => h) hlat.k) ew
      simp only [giveUp, upd_upd] at hm hlat hw
      exact ⟨_, _, _, S, .tuple #[vv, .int .i64 (mapIdx eq kx l : Int)], _, h, .inl (by simp [execOp, ho, hrun]), hm, rfl, hlat, #[vv, .int .i64 (mapIdx eq kx l : Int)], rfl, hw, rfl, trivial⟩

theorem step_entryStore {cfg : Cfg} (hT : TTok P cfg.tt) (m : RelP cx nt φ S st a w) {o : Oper} {t : TypeId} {x y z : Operand} (ho : o.op = .entryStore t x y z) {κ : V → St → Option ρ} {r : ρ} (h : evOp cfg st o κ = some r) : StepR P cx φ S st a w o κ r := by
  simp only [evOp, ho] at h
  split at h
  case h_2 => cases h
  rename_i i e
  split at h
  case h_2 => cases h
  rename_i k el ek
  split at h
  case h_2 => cases h
  rename_i ie e2
  unfold entrySetW at h
  split at h
  case h_2 => cases h
  rename_i b n kk j vx hx hy evx
  have hvx := datumW_rel (relV_opnd m z) evx
  have hyv : a.eval y = .int kk j := opnd_eq m hy
  obtain ⟨hl, q, hq, hb, hv⟩ : RelC S w φ st.h (.mapr b n) (a.eval x) := opnd_eq m hx
  have hbn := m.m.b n
  cases b with
  | true => cases h
  | false =>
    simp only [cond_false] at h
    split at h
    case h_2 => cases h
    rename_i t' ka va ku vu l en
    rw [en] at hbn
    split at h
    case h_2 => cases h
    rename_i hb3
    simp only [Bool.and_eq_true] at hb3
    have hva := sameB_eq hb3.2
    subst hva
    split at h
    case isFalse => cases h
    rename_i hvu
    subst hvu
    obtain ⟨p, hp, h⟩ := Option.bind_eq_some_iff.1 h
    unfold getI at hp
    split at hp
    case isFalse => cases hp
    rename_i h0j
    obtain ⟨p1, p2, ⟨h0, hl0⟩ | ⟨r0, es, clock, h0, hg, hes, hok⟩⟩ := hbn
    · rw [h0] at hv
      cases q with
      | none => cases hb
      | some q => cases hv
    · have hx : a.eval x = .map (some r0) := by
        rw [h0] at hv
        cases q with
        | none => cases hv
        | some q => rw [hq]; exact hv.symm
      obtain ⟨e', he', hpe⟩ := hes.1.get hp
      have hje : es[j.toNat]? = some e' := by simpa using he'
      have hfi : es.findIdx? (fun e => (e.born : Int) == j) = some j.toNat := by
        rw [Array.findIdx?_eq_some_iff_getElem]
        refine ⟨(Array.getElem?_eq_some_iff.1 hje).1, ?_, fun i hi => ?_⟩
        · have := hes.2.2 j.toNat e' hje
          rw [(Array.getElem?_eq_some_iff.1 hje).2, this]
          simp; omega
        · have hil : i < es.size := Nat.lt_trans hi (Array.getElem?_eq_some_iff.1 hje).1
          have := hes.2.2 i es[i] (Array.getElem?_eq_getElem hil)
          rw [this]
          simp; omega
      have hrun : (Instr.entryStore t (a.eval x) (a.eval y) (a.eval z)).run P w = .ok () (setBlock w r0 (.map (es.modify j.toNat fun e => { e with val := a.eval z }) clock)) := by
        simp [Instr.entryStore, hx, hyv, asInt, asIntOf, MapKept.run_getObj_map hg, hfi, MapKept.run_setObj_map _ hg, Result.andThen, setBlock]
      have hes' : RepM S w ka ie.agg ku ie.u (l.set j.toNat (p.1, vx)) (es.modify j.toNat fun e => { e with val := a.eval z }) clock := hes.modify hje ⟨hpe.1, hvx⟩ rfl
      have hmut : (st.h n).mut = true := by rw [en]; rfl
      have hold : ∀ k, some n = some k → (st.h k).mut = true := fun k hk => by injection hk with hk; subst hk; exact hmut
      have hsz : w.heap.size = (setBlock w r0 (.map (es.modify j.toNat fun e => { e with val := a.eval z }) clock)).heap.size := by simp [setBlock]
      have hkeep : ∀ g, g < w.heap.size → (∀ k, some n = some k → ¬ Bk (φ k) g) → (setBlock w r0 (.map (es.modify j.toNat fun e => { e with val := a.eval z }) clock)).heap[g]? = w.heap[g]? := fun g _ hne => heap_setBlock_other hg _ fun e => hne n rfl (by rw [h0, e]; exact bk_map.2 rfl)
      have hfree : (some n : Option Nat) = some n ∧ pv (φ n) = pv (φ n) ∨ (st.h n).live = false ∧ isKept n = false := .inl ⟨rfl, rfl⟩
      have hlat := Later.of_change m.m (some n) hold hkeep n (.mp t' ka ie.agg ku ie.u (l.set j.toNat (p.1, vx))) (φ n) rfl hfree
      have hm := m.m.change (w' := setBlock w r0 (.map (es.modify j.toNat fun e => { e with val := a.eval z }) clock)) rfl rfl rfl (Nat.le_of_eq hsz) (some n) hold hkeep n (.mp t' ka ie.agg ku ie.u (l.set j.toNat (p.1, vx))) (φ n) rfl hfree (fun g hg => .inl ⟨n, rfl, hg⟩)
        (fun h' hh => ⟨p1, p2, .inr ⟨r0, _, clock, h0, heap_setBlock_same hg _, hes'.mono fun _ _ hh => ⟨hh.1.mono (fun _ h => h) hlat.k, hh.2.mono (fun _ h => h) hlat.k⟩, hok⟩⟩)
      simp only [giveUp, upd_upd] at hm hlat
      exact ⟨_, _, _, S, undef, _, h, .inr ⟨by simp [execOp, ho, hrun], rfl⟩, hm, rfl, hlat, rfl⟩
end
end Go.Proofs.YtkimeoknckohfaaDoor.R1
