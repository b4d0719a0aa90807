/- Every operation but a call of a function, in one word. -/
import Derived.Test.YtkimeoknckohfaaDoorR1Step
import Derived.Laws.Slices
import Derived.Laws.BytesString
namespace Go.Proofs.YtkimeoknckohfaaDoor.R1
variable {P : Program} {ρ : Type}

theorem TIok.sl {t : TypeId} {i : TI} {e : Nat} (ok : TIok P t i) (ek : i.k = .sl e) : P.underlying t = some (.slice e) := by
  obtain ⟨d, hd, hk⟩ := ok.und
  rw [ek] at hk
  cases d <;> simp [KindOk] at hk
  subst hk; exact hd

theorem TIok.arr {t : TypeId} {i : TI} {n e : Nat} (ok : TIok P t i) (ek : i.k = .arr n e) : P.underlying t = some (.array n e) := by
  obtain ⟨d, hd, hk⟩ := ok.und
  rw [ek] at hk
  cases d <;> simp [KindOk] at hk
  obtain ⟨rfl, rfl⟩ := hk; exact hd

theorem TIok.int {t : TypeId} {i : TI} {k : IntKind} (ok : TIok P t i) (ek : i.k = .int k) : P.underlying t = some (.int k) := by
  obtain ⟨d, hd, hk⟩ := ok.und
  rw [ek] at hk
  cases d <;> simp [KindOk] at hk
  subst hk; exact hd

theorem TIok.str {t : TypeId} {i : TI} (ok : TIok P t i) (ek : i.k = .str) : P.underlying t = some .string := by
  obtain ⟨d, hd, hk⟩ := ok.und
  rw [ek] at hk
  cases d <;> simp [KindOk] at hk
  exact hd

theorem TIok.struct {t : TypeId} {i : TI} {fs : List (Nat × Nat)} (ok : TIok P t i) (ek : i.k = .struct fs) : ∃ fields, P.underlying t = some (.struct fields) ∧ fields.toList.map (fun f => (f.offset, f.type)) = fs ∧ ∀ f ∈ fields.toList, ∃ i, P.info? f.type = some i ∧ i.size ≠ 0 := by
  obtain ⟨d, hd, hk⟩ := ok.und
  rw [ek] at hk
  cases d <;> simp only [KindOk] at hk
  exact ⟨_, hd, hk⟩

/-- The machine's step, and what is known behind it. -/
def StepR (P : Program) (cx : Cx) (φ : Nat → Value) (S : Nat → Prop) (st : St) (a : Act) (w : World) (o : Oper) (κ : V → St → Option ρ) (r : ρ) : Prop :=
  ∃ v st' φ' S' v' w', κ v st' = some r ∧ ((execOp a.eval o).run P w = .ok (.value v') w' ∨ ((execOp a.eval o).run P w = .ok .skip w' ∧ v' = undef)) ∧ RelH cx φ' S' st'.h w' ∧ st'.t = st.t ∧
    Later S S' w w' φ φ' st.h st'.h ∧ RelV S' w' φ' st'.h v v'

section
variable {cx : Cx} {nt : Nat} {φ : Nat → Value} {S : Nat → Prop} {st : St} {a : Act} {w : World}

theorem StepR.pure {o : Oper} {κ : V → St → Option ρ} {r : ρ} (m : RelP cx nt φ S st a w) {v : V} {v' : Value} (hk : κ v st = some r) (hr : (execOp a.eval o).run P w = .ok (.value v') w) (hv : RelV S w φ st.h v v') : StepR P cx φ S st a w o κ r :=
  ⟨v, st, φ, S, v', w, hk, .inl hr, m.m, rfl, Later.refl _ _ _ _, hv⟩

theorem opnd_one (m : RelP cx nt φ S st a w) {x : Operand} {c : C} (h : (opnd st x).one = some c) : RelC S w φ st.h c (a.eval x) := relV_one (relV_opnd m x) h

theorem opnd_eq (m : RelP cx nt φ S st a w) {x : Operand} {v : V} (h : opnd st x = v) : RelV S w φ st.h v (a.eval x) := h ▸ relV_opnd m x

theorem run_zero {t : TypeId} {i : TI} (ok : TIok P t i) (hz : i.zero.length = i.size) (S : Nat → Prop) (w : World) (φ : Nat → Value) (h : Nat → B) :
    ∃ z, (zeroValue t).run P w = .ok z w ∧ All2 (RelC S w φ h) i.zero z.cells.toList ∧ z.cells.size = i.size := by
  obtain ⟨inf, z, h1, _, _, h4, h5, h6⟩ := ok.info
  exact ⟨z, by simp [zeroValue, typeInfo, h1, h4], all2_ofCells (h6 hz), h5⟩

theorem rowsIn_zero : ∀ {vs : List Value} {cs : List C}, ofCellList vs = some cs → rowsIn cs = []
  | [], cs, hv => by simp [ofCellList] at hv; subst hv; rfl
  | v :: r, cs, hv => by
    simp only [ofCellList] at hv
    cases e : ofCell v with
    | none => rw [e] at hv; cases hv
    | some c =>
      rw [e] at hv
      cases e2 : ofCellList r with
      | none => rw [e2] at hv; cases hv
      | some cs' =>
        rw [e2] at hv; injection hv with hv; subst hv
        have hc : ∀ n, c ≠ .row n := by
          rintro n rfl
          cases v with
          | slice x y z => simp only [ofCell] at e; split at e <;> cases e
          | pointer x => cases x <;> cases e
          | map x => cases x <;> cases e
          | func g x y => simp only [ofCell] at e; split at e <;> cases e
          | _ => cases e
        cases c with
        | row n => exact absurd rfl (hc n)
        | _ => simp only [rowsIn]; exact rowsIn_zero e2

theorem zero_rows {t : TypeId} {i : TI} (ok : TIok P t i) (hz : i.zero.length = i.size) : rowsIn i.zero = [] := by
  obtain ⟨inf, z, h1, _, _, h4, h5, h6⟩ := ok.info
  exact rowsIn_zero (h6 hz)

/-- A row in a new block. -/
theorem RelH.allocRow {h : Nat → B} (m : RelH cx φ S h w) {dst : Nat} (hf : h dst = .free) (hgl : isKept dst = false) {t : TypeId} {u : U} {l : List (El u)} {cells : Array Value} (hu : 0 < u.n) (hl : RepL (Rep S w u) l cells.toList) (hn : l.length ≤ Go.maxLen) :
    RelH cx (upd φ dst (.slice (some ⟨w.heap.size, 0, none⟩) l.length l.length)) S (upd h dst (.row t u l)) (w.alloc (.cells cells t)) ∧
      Later S S w (w.alloc (.cells cells t)) φ (upd φ dst (.slice (some ⟨w.heap.size, 0, none⟩) l.length l.length)) h (upd h dst (.row t u l)) :=
  m.newRow none (by simp) (dst := dst) hf hgl (w' := w.alloc (.cells cells t)) (World.grownBy_alloc w _ none) hu
    (World.ownsRow_lit (e := t) w cells l.length (Nat.zero_le _) hn (by rw [← Array.length_toList]; exact hl.length)) hl (fun g hg => .inr (Nat.le_of_eq (bk_slice.1 hg).symm))

theorem step_alloc {cfg : Cfg} (hT : TTok P cfg.tt) (m : RelP cx nt φ S st a w) {o : Oper} {t : TypeId} (ho : o.op = .alloc t) {κ : V → St → Option ρ} {r : ρ} (h : evOp cfg st o κ = some r) : StepR P cx φ S st a w o κ r := by
  simp only [evOp, ho] at h
  split at h
  · rename_i i e
    have ok := hT t i e
    have hrun : ∀ z, (zeroValue t).run P w = .ok z w → (execOp a.eval o).run P w = .ok (.value (.pointer (some ⟨w.heap.size, 0, none⟩))) (w.alloc (.cells z.cells t)) := by
      intro z hz; simp [execOp, ho, Instr.alloc, hz, newVar, Go.newRow]
    split at h
    · rename_i n e' ek
      split at h
      · rename_i ie e1
        split at h
        · rename_i l e2
          cases hb : Nat.ble n 16777216 && Nat.beq i.zero.length i.size with
          | false => rw [hb] at h; cases h
          | true =>
            rw [hb] at h
            simp only [cond_true] at h
            rw [Bool.and_eq_true] at hb
            obtain ⟨hu, hf, hgl, h⟩ := newRow_some h
            obtain ⟨z, h1, h2, h3⟩ := run_zero ok (Nat.eq_of_beq_eq_true hb.2) S w φ st.h
            obtain ⟨hl, hn⟩ := dataList_sound m.m.b (fun _ h => h) h2 e2 (by rw [zero_rows ok (Nat.eq_of_beq_eq_true hb.2)]; simp)
            have hbn := Nat.le_of_ble_eq_true hb.1
            obtain ⟨hm, hlat⟩ := m.m.allocRow (dst := Oper.name o) hf hgl (t := t) hu hl (by rw [hn]; simp only [Go.maxLen]; omega)
            exact ⟨_, _, _, S, _, _, h, .inl (hrun z h1), hm, rfl, hlat, by show (upd st.h _ _ _).live = true; rw [upd_same]; rfl, w.heap.size, by rw [upd_same]; rfl, by simp⟩
        · cases h
      · cases h
    · cases hb : Nat.beq i.zero.length i.size with
      | false => rw [hb] at h; cases h
      | true =>
        rw [hb] at h
        simp only [cond_true] at h
        obtain ⟨hf, hgl, h⟩ := newBlock_some h
        obtain ⟨z, h1, h2, h3⟩ := run_zero ok (Nat.eq_of_beq_eq_true hb) S w φ st.h
        obtain ⟨hm, hlat⟩ := m.m.newBox (dst := Oper.name o) hf hgl (t := t) h2
        exact ⟨_, _, _, S, _, _, h, .inl (hrun z h1), hm, rfl, hlat, by show (upd st.h _ _ _).live = true; rw [upd_same]; rfl, w.heap.size, by rw [upd_same]; rfl, by simp⟩
  · cases h

theorem step_box {cfg : Cfg} (hT : TTok P cfg.tt) (m : RelP cx nt φ S st a w) {o : Oper} {t : TypeId} {x : Operand} (ho : o.op = .box t x) {κ : V → St → Option ρ} {r : ρ} (h : evOp cfg st o κ = some r) : StepR P cx φ S st a w o κ r := by
  simp only [evOp, ho] at h
  split at h
  · rename_i i cs e e0
    have hc := relV_cells (relV_opnd m x) e0
    have hrun : (execOp a.eval o).run P w = .ok (.value (.pointer (some ⟨w.heap.size, 0, none⟩))) (w.alloc (.cells (a.eval x).cells t)) := by
      simp [execOp, ho, Instr.box, newVar, Go.newRow]
    split at h
    · rename_i n e' ek
      split at h
      · rename_i ie e1
        split at h
        · rename_i l e2
          cases hb : Nat.ble n 16777216 with
          | false => rw [hb] at h; cases h
          | true =>
            rw [hb] at h
            simp only [cond_true] at h
            obtain ⟨hu, hf, hgl, h⟩ := newRow_some h
            obtain ⟨S', hS, m', hrow⟩ := m.m.freezeAll (rowsIn cs)
            have hlat0 := Later.of_freeze (φ := φ) (h := st.h) (w := w) hS (rowsIn cs)
            obtain ⟨hl, hn⟩ := dataList_sound m.m.b hS hc e2 (fun n hn hr => hrow n hn (mut_row hr))
            have hbn := Nat.le_of_ble_eq_true hb
            obtain ⟨hm, hlat⟩ := m'.allocRow (dst := Oper.name o) hf hgl (t := t) hu hl (by rw [hn]; simp only [Go.maxLen]; omega)
            exact ⟨_, _, _, S', _, _, h, .inl hrun, hm, rfl, hlat0.trans hlat, by show (upd (freezeAll st.h (rowsIn cs)) (Oper.name o) _ (Oper.name o)).live = true; rw [upd_same]; rfl, w.heap.size, by rw [upd_same]; rfl, by simp⟩
        · cases h
      · cases h
    · obtain ⟨hf, hgl, h⟩ := newBlock_some h
      obtain ⟨hm, hlat⟩ := m.m.newBox (dst := Oper.name o) hf hgl (t := t) hc
      exact ⟨_, _, _, S, _, _, h, .inl hrun, hm, rfl, hlat, by show (upd st.h _ _ _).live = true; rw [upd_same]; rfl, w.heap.size, by rw [upd_same]; rfl, by simp⟩
  · cases h

theorem parts_rel (m : RelP cx nt φ S st a w) : ∀ (parts : List (Nat × Operand)), All2 (fun (p : Nat × V) (q : Nat × Value) => p.1 = q.1 ∧ RelV S w φ st.h p.2 q.2) (parts.map fun p => (p.1, opnd st p.2)) (parts.map fun p => (p.1, a.eval p.2))
  | [] => trivial
  | p :: r => ⟨⟨rfl, relV_opnd m p.2⟩, parts_rel m r⟩

/-- With more places the same literal is laid. -/
theorem fill_more {p1 p2 : Nat → Option (Nat × Nat)} (hp : ∀ j q, p1 j = some q → p2 j = some q) : ∀ {parts : List (Nat × Value)} {cells r : Array Value}, Instr.fill p1 cells parts = some r → Instr.fill p2 cells parts = some r
  | [], cells, r, h => h
  | (i, v) :: parts, cells, r, h => by
    simp only [Instr.fill] at h ⊢
    cases e : p1 i with
    | none => rw [e] at h; cases h
    | some q =>
      rw [e] at h
      rw [hp i q e]
      simp only at h ⊢
      split at h
      · cases h
      · rename_i c
        rw [if_neg c]
        exact fill_more hp h

theorem step_build {cfg : Cfg} (hT : TTok P cfg.tt) (m : RelP cx nt φ S st a w) {o : Oper} {t : TypeId} {parts : Array (Nat × Operand)} (ho : o.op = .build t parts) {κ : V → St → Option ρ} {r : ρ} (h : evOp cfg st o κ = some r) : StepR P cx φ S st a w o κ r := by
  simp only [evOp, ho] at h
  split at h
  · rename_i i e
    have ok := hT t i e
    split at h
    · rename_i fs efs
      split at h
      · rename_i cs e1 e2
        obtain ⟨inf, z, q1, q2, q3, q4, q5, q6⟩ := ok.info
        obtain ⟨d, hu, hk⟩ := ok.und
        cases ek : i.k with
        | struct fs' =>
          rw [ek] at efs hk
          injection efs with efs
          subst efs
          cases d with
          | struct fields =>
            simp only [KindOk] at hk
            obtain ⟨hk1, hk2⟩ := hk
            have hz := all2_ofCells (S := S) (w := w) (φ := φ) (h := st.h) (q6 (Nat.eq_of_beq_eq_true e2))
            -- the places
            obtain ⟨places, hpl, hpl2⟩ : ∃ places, fields.toList.mapM (fun f => (P.info? f.type).map fun i => (f.offset, i.size)) = some places ∧ ∀ (i off t s : Nat), fs'[i]? = some (off, t) → (cfg.ty t).map (·.size) = some s → places[i]? = some (off, s) := by
              subst hk1
              generalize fields.toList = fl at hk2
              clear hu e1
              induction fl with
              | nil => exact ⟨[], rfl, by simp⟩
              | cons f fl ih =>
                obtain ⟨pl, hp1, hp2⟩ := ih (fun f hf => hk2 f (List.mem_cons_of_mem _ hf))
                obtain ⟨inf2, hi2, _⟩ := hk2 f (by simp)
                refine ⟨(f.offset, inf2.size) :: pl, by simp [List.mapM_cons, hi2, hp1], fun j off t s hj hs => ?_⟩
                cases j with
                | zero =>
                  simp only [List.map_cons, List.getElem?_cons_zero, Option.some.injEq, Prod.mk.injEq] at hj
                  obtain ⟨rfl, rfl⟩ := hj
                  cases ht : cfg.ty f.type with
                  | none => rw [ht] at hs; cases hs
                  | some ti =>
                    rw [ht] at hs
                    obtain ⟨inf3, _, h3, h4, _⟩ := (hT f.type ti ht).info
                    rw [hi2] at h3; injection h3 with h3; subst h3
                    simp only [Option.map_some, Option.some.injEq] at hs
                    subst hs
                    simp [h4]
                | succ j =>
                  simp only [List.map_cons, List.getElem?_cons_succ] at hj ⊢
                  exact hp2 j off t s hj hs
            obtain ⟨cells', hf, hrel⟩ := fillParts_sound hpl2 (parts_rel m parts.toList) hz e1
            have hb : P.built t ((parts.map fun (i, x) => (i, a.eval x)).toList) = some cells' := by
              unfold Program.built
              simp only [q1, hu, q4, hpl]
              rw [Array.toList_map]
              exact hf
            exact StepR.pure m h (by simp [execOp, ho, run_build w t _ cells' hb]) ⟨cells', rfl, hrel⟩
          | _ => simp [KindOk] at hk
        | arr n el =>
          rw [ek] at efs hk
          simp only [fieldsOf] at efs
          split at efs
          case h_2 => cases efs
          rename_i ie e3
          injection efs with efs
          subst efs
          have hua := ok.arr ek
          obtain ⟨inf3, _, h3, h4, _⟩ := (hT el ie e3).info
          have hz := all2_ofCells (S := S) (w := w) (φ := φ) (h := st.h) (q6 (Nat.eq_of_beq_eq_true e2))
          have hpl2 : ∀ (j off t s : Nat), ((List.range n).map fun j => (j * ie.size, el))[j]? = some (off, t) → (cfg.ty t).map (·.size) = some s → ((List.range n).map fun j => (j * inf3.size, inf3.size))[j]? = some (off, s) := by
            intro j off t s hj hs
            rw [List.getElem?_map] at hj ⊢
            obtain ⟨q, hq, hj⟩ := Option.map_eq_some_iff.1 hj
            injection hj with hj1 hj2
            subst hj2
            rw [e3] at hs
            injection hs with hs
            rw [hq]
            simp only [Option.map_some, Option.some.injEq, Prod.mk.injEq]
            have : inf3.size = ie.size := by omega
            exact ⟨by rw [this]; exact hj1, by rw [this]; exact hs⟩
          obtain ⟨cells', hf, hrel⟩ := fillParts_sound hpl2 (parts_rel m parts.toList) hz e1
          have hb : P.built t ((parts.map fun (i, x) => (i, a.eval x)).toList) = some cells' := by
            unfold Program.built
            simp only [q1, hua, q4, h3]
            rw [Array.toList_map]
            refine fill_more ?_ hf
            intro j p hj
            simp only [List.getElem?_toArray, List.getElem?_map] at hj
            obtain ⟨q, hq, hj⟩ := Option.map_eq_some_iff.1 hj
            obtain ⟨hq1, hq2⟩ := List.getElem?_eq_some_iff.1 hq
            rw [List.getElem_range] at hq2
            subst hq2
            rw [← hj]
          exact StepR.pure m h (by simp [execOp, ho, run_build w t _ cells' hb]) ⟨cells', rfl, hrel⟩
        | _ => rw [ek] at efs; cases efs
      · cases h
    · cases h
  · cases h

theorem step_buildSlice {cfg : Cfg} (hT : TTok P cfg.tt) (m : RelP cx nt φ S st a w) {o : Oper} {t : TypeId} {len : Nat} {parts : Array (Nat × Operand)} (ho : o.op = .buildSlice t len parts) {κ : V → St → Option ρ} {r : ρ} (h : evOp cfg st o κ = some r) : StepR P cx φ S st a w o κ r := by
  simp only [evOp, ho] at h
  split at h
  · rename_i i e
    have ok := hT t i e
    split at h
    · rename_i e' ek
      split at h
      · rename_i ie e1
        split at h
        · rename_i sh esh
          split at h
          · rename_i l ns e3
            split at h
            · rename_i hdn hsu
              have hsu : sh.u = ie.u := by
                by_cases q : sh.u = ie.u
                · exact q
                · rw [if_neg q] at hsu; cases hsu
              cases hb : Nat.beq l.length len && Nat.ble (len * ie.size) (2 ^ 24) with
              | false => rw [hb] at h; cases h
              | true =>
                rw [hb] at h
                simp only [cond_true] at h
                rw [Bool.and_eq_true] at hb
                have hll := Nat.eq_of_beq_eq_true hb.1
                have hb := Nat.le_of_ble_eq_true hb.2
                obtain ⟨hu, hf, hgl, h⟩ := newOwn_some h
                have oke := hT e' ie e1
                obtain ⟨hus, _⟩ := oke.u (by rw [← hsu]; exact hu)
                rw [← hsu] at hus
                have hd := ok.sl ek
                obtain ⟨inf, zv, q1, q2, q3, q4, q5, q6⟩ := oke.info
                have hzsz : zv.cells.size = sh.u.n := by rw [q5, hus]
                have hlp : len = parts.toList.length := by
                  have : ∀ (ps : List (Nat × V)) (i : Nat) (l : List (El sh.u)) (ns : List Nat), ownList st.h sh i ps = some (l, ns) → l.length = ps.length := by
                    intro ps
                    induction ps with
                    | nil => intro i l ns h; simp only [ownList] at h; injection h with h; injection h with h1 h2; subst h1; rfl
                    | cons p ps ih =>
                      intro i l ns h
                      obtain ⟨pi, pv⟩ := p
                      cases pv with
                      | v x =>
                        simp only [ownList] at h
                        split at h
                        · split at h
                          · rename_i e9
                            injection h with h; injection h with h1 h2; subst h1
                            rw [List.length_cons, List.length_cons, ih _ _ _ e9]
                          · cases h
                        · cases h
                      | _ => cases h
                  rw [← hll, this _ _ _ _ e3, List.length_map]
                have hmade : (madeCells zv.cells (len * zv.cells.size)).toList.length = len * sh.u.n := by rw [Array.length_toList, size_madeCells, hzsz]
                obtain ⟨cells', mid, F, hfill, hc', hol, _, hF, hnd, hmut⟩ := ownList_sound m.m.b m.m.apart (o := sh) (size := ie.size) hus.symm (parts_rel m parts.toList) (i := 0) (cells := madeCells zv.cells (len * zv.cells.size)) (done := []) (rest := (madeCells zv.cells (len * zv.cells.size)).toList) rfl (by simp) (by rw [hmade, hus, List.length_map, hlp]) e3
                have hc'' : cells'.toList = mid := hc'
                obtain ⟨φ', hm, hlat, hpv⟩ := m.m.allocOwn (t := e') hmut hf hgl hu (by rw [hc'']; exact hol) hF (hnd (distinct_nodup hdn)) (by
                  rw [hll]
                  have : len ≤ len * ie.size := Nat.le_mul_of_pos_right _ (by omega)
                  simp only [Go.maxLen]; omega)
                have hrun : (Instr.buildSlice t len (parts.map fun (i, x) => (i, a.eval x))).run P w = .ok (.slice (some ⟨w.heap.size, 0, none⟩) len len) (w.alloc (.cells cells' e')) := by
                  by_cases hlen : len = 0
                  · subst hlen
                    have : l = [] := List.eq_nil_of_length_eq_zero hll
                    subst this
                    have hc : cells'.toList = [] := by rw [hc'']; exact hol.1
                    have hc' : cells' = #[] := by cases cells'; simp_all
                    subst hc'
                    have hfill' : Instr.fill (fun i => some (i * ie.size, ie.size)) #[] (parts.toList.map fun p => (p.1, a.eval p.2)) = some #[] := by
                      have : madeCells zv.cells (0 * zv.cells.size) = #[] := by simp [madeCells]
                      rw [this] at hfill; exact hfill
                    simp [Instr.buildSlice, run_underlying hd, sizeOf, typeInfo, q1, q2, Go.newRow, hfill', show Array.range 0 = #[] from rfl]
                  · refine run_buildSlice w t e' len _ cells' inf zv hd q1 q4 (by rw [q2]; omega) (by rw [q2]; exact Nat.ne_of_gt (Nat.mul_pos (by omega) (by omega))) ?_
                    rw [q2, Array.toList_map]
                    have : (Array.range (len * ie.size)).map (zv.cells[· % zv.cells.size]!) = madeCells zv.cells (len * zv.cells.size) := by unfold madeCells; rw [q5]
                    rw [this]; exact hfill
                refine ⟨_, _, φ', S, .slice (some ⟨w.heap.size, 0, none⟩) len len, _, h, .inl ?_, hm, rfl, hlat, ?_⟩
                · simp [execOp, ho, hrun]
                · refine ⟨by show (upd (goneL st.h ns) (Oper.name o) _ (Oper.name o)).live = true; rw [upd_same]; rfl, by rw [hpv, hll], _, _, _, rfl⟩
            · cases h
          · cases h
        split at h
        · rename_i z e2
          split at h
          · rename_i l e3
            cases hb : Nat.ble (len * ie.size) (2 ^ 24) with
            | false => rw [hb] at h; cases h
            | true =>
              rw [hb] at h
              simp only [cond_true] at h
              have hb := Nat.le_of_ble_eq_true hb
              obtain ⟨hu, hf, hgl, h⟩ := newRow_some h
              have oke := hT e' ie e1
              obtain ⟨hus, _⟩ := oke.u hu
              have hd := ok.sl ek
              have hz0 : ie.zero.length = ie.size := by rw [datum_length e2, hus]
              obtain ⟨inf, zv, q1, q2, q3, q4, q5, q6⟩ := oke.info
              have hz := all2_ofCells (S := S) (w := w) (φ := φ) (h := st.h) (q6 hz0)
              obtain ⟨S', hS, m', hrow⟩ := m.m.freezeAll (rowsInAll (parts.toList.map fun p => (p.1, opnd st p.2)))
              have hrz : Rep S' w ie.u z zv.cells.toList := rep_datum m.m.b hS hz e2 (by rw [zero_rows oke hz0]; simp)
              have hzsz : zv.cells.size = ie.u.n := by rw [q5, hus]
              have hflat := madeCells_flat zv.cells (by rw [hzsz]; exact hu) len
              have hrl : RepL (Rep S' w ie.u) (List.replicate len z) (madeCells zv.cells (len * zv.cells.size)).toList := by rw [hflat]; exact repL_replicate hrz len
              obtain ⟨cells', hfill, hl⟩ := putParts_sound m.m.b hS (u := ie.u) (size := ie.size) hus.symm (parts_rel m parts.toList) hrl e3 (fun n hn hr => hrow n hn (mut_row hr))
              have hll : l.length = len := by
                have : ∀ (parts : List (Nat × V)) (l l' : List (El ie.u)), putParts st.h parts l = some l' → l'.length = l.length := by
                  intro parts
                  induction parts with
                  | nil => intro l l' h; simp [putParts] at h; subst h; rfl
                  | cons p parts ih =>
                    intro l l' h
                    obtain ⟨pi, pv⟩ := p
                    simp only [putParts] at h
                    split at h
                    · split at h
                      · cases hq : Nat.blt pi l.length with
                        | false => rw [hq] at h; cases h
                        | true => rw [hq] at h; simp only [cond_true] at h; rw [ih _ _ h]; simp
                      · cases h
                    · cases h
                rw [this _ _ _ e3]; simp
              have hlat0 := Later.of_freeze (φ := φ) (h := st.h) (w := w) hS (rowsInAll (parts.toList.map fun p => (p.1, opnd st p.2)))
              obtain ⟨hm, hlat⟩ := m'.allocRow (dst := Oper.name o) hf hgl (t := e') hu hl (by
                rw [hll]
                have : len ≤ len * ie.size := Nat.le_mul_of_pos_right _ (by omega)
                simp only [Go.maxLen]; omega)
              have hrun : (Instr.buildSlice t len (parts.map fun (i, x) => (i, a.eval x))).run P w = .ok (.slice (some ⟨w.heap.size, 0, none⟩) len len) (w.alloc (.cells cells' e')) := by
                by_cases hlen : len = 0
                · subst hlen
                  have : l = [] := List.eq_nil_of_length_eq_zero hll
                  subst this
                  have hc : cells'.toList = [] := hl
                  have hc' : cells' = #[] := by cases cells'; simp_all
                  subst hc'
                  have hfill' : Instr.fill (fun i => some (i * ie.size, ie.size)) #[] (parts.toList.map fun p => (p.1, a.eval p.2)) = some #[] := by
                    have : madeCells zv.cells (0 * zv.cells.size) = #[] := by simp [madeCells]
                    rw [this] at hfill; exact hfill
                  simp [Instr.buildSlice, run_underlying hd, sizeOf, typeInfo, q1, q2, Go.newRow, hfill', show Array.range 0 = #[] from rfl]
                · refine run_buildSlice w t e' len _ cells' inf zv hd q1 q4 (by rw [q2]; omega) (by rw [q2]; exact Nat.ne_of_gt (Nat.mul_pos (by omega) (by omega))) ?_
                  rw [q2, Array.toList_map]
                  have : (Array.range (len * ie.size)).map (zv.cells[· % zv.cells.size]!) = madeCells zv.cells (len * zv.cells.size) := by unfold madeCells; rw [q5]
                  rw [this]; exact hfill
              refine ⟨_, _, _, S', .slice (some ⟨w.heap.size, 0, none⟩) len len, _, h, .inl ?_, hm, rfl, hlat0.trans hlat, ?_⟩
              · simp [execOp, ho, hrun]
              · refine ⟨by show (upd (freezeAll st.h (rowsInAll (parts.toList.map fun p => (p.1, opnd st p.2)))) (Oper.name o) _ (Oper.name o)).live = true; rw [upd_same]; rfl, by rw [upd_same, hll]; rfl, _, _, _, rfl⟩
          · cases h
        · cases h
      · cases h
    · cases h
  · cases h

theorem step_load {cfg : Cfg} (hT : TTok P cfg.tt) (m : RelP cx nt φ S st a w) {o : Oper} {t : TypeId} {x : Operand} (ho : o.op = .load t x) {κ : V → St → Option ρ} {r : ρ} (h : evOp cfg st o κ = some r) : StepR P cx φ S st a w o κ r := by
  simp only [evOp, ho] at h
  split at h
  · rename_i i c e e0
    cases hb : cfg.opens.any (Nat.beq (Oper.name o)) with
    | true =>
      rw [hb] at h
      obtain ⟨v, v', φ', h', h1, h2, h3, h4, h5⟩ := openLoad_sound (hT t i e) m.m (opnd_one m e0) h
      exact ⟨v, _, φ', S, v', w, h1, .inl (by simp [execOp, ho, h2]), h3, rfl, h4, h5⟩
    | false =>
      rw [hb] at h
      obtain ⟨v, v', h1, h2, h3⟩ := load_sound (hT t i e) m.m (opnd_one m e0) h
      exact StepR.pure m h1 (by simp [execOp, ho, h2]) h3
  · cases h

theorem step_store {cfg : Cfg} (hT : TTok P cfg.tt) (m : RelP cx nt φ S st a w) {o : Oper} {t : TypeId} {x y : Operand} (ho : o.op = .store t x y) {κ : V → St → Option ρ} {r : ρ} (h : evOp cfg st o κ = some r) : StepR P cx φ S st a w o κ r := by
  simp only [evOp, ho] at h
  split at h
  · rename_i i c e e0
    obtain ⟨st', φ', S', w', h1, h2, h3, h4, h5⟩ := store_sound (hT t i e) m.m (opnd_one m e0) (relV_opnd m y) h
    exact ⟨_, _, φ', S', undef, w', h1, .inr ⟨by simp [execOp, ho, h2], rfl⟩, h3, h4, h5, rfl⟩
  · cases h

theorem step_move (m : RelP cx nt φ S st a w) {cfg : Cfg} {o : Oper} {x : Operand} (ho : o.op = .move x ∨ o.op = .assign x) {κ : V → St → Option ρ} {r : ρ} (h : evOp cfg st o κ = some r) : StepR P cx φ S st a w o κ r := by
  rcases ho with ho | ho <;> (simp only [evOp, ho] at h; exact StepR.pure m h (by simp [execOp, ho]) (relV_opnd m x))

theorem step_pick (m : RelP cx nt φ S st a w) {cfg : Cfg} {o : Oper} {c x y : Operand} (ho : o.op = .pick c x y) {κ : V → St → Option ρ} {r : ρ} (h : evOp cfg st o κ = some r) : StepR P cx φ S st a w o κ r := by
  simp only [evOp, ho] at h
  split at h
  · rename_i b e
    have hb : a.eval c = .bool b := opnd_eq m e
    cases b with
    | true => exact StepR.pure m h (by simp [execOp, ho, hb, asBool]) (relV_opnd m x)
    | false => exact StepR.pure m h (by simp [execOp, ho, hb, asBool]) (relV_opnd m y)
  · cases h

theorem step_nilCheck (m : RelP cx nt φ S st a w) {cfg : Cfg} {o : Oper} {x : Operand} (ho : o.op = .nilCheck x) {κ : V → St → Option ρ} {r : ρ} (h : evOp cfg st o κ = some r) : StepR P cx φ S st a w o κ r := by
  simp only [evOp, ho] at h
  have hx := relV_opnd m x
  split at h
  · rename_i n i sz off e
    rw [e] at hx
    obtain ⟨_, g, _, hv⟩ := id hx
    exact StepR.pure m h (by simp [execOp, ho, hv]) (hv ▸ hx)
  · rename_i u y off e
    rw [e] at hx
    obtain ⟨b, cs, hv, _⟩ := id hx
    exact StepR.pure m h (by simp [execOp, ho, hv]) (hv ▸ hx)
  · rename_i f e
    rw [e] at hx
    have hv : a.eval x = .func (.func f) #[] #[] := hx
    exact StepR.pure m h (by simp [execOp, ho, hv]) rfl
  · rename_i g c e
    rw [e] at hx
    have key : ∀ (g : C) (v : Value) (f : Fn) (cs : Array Value), RelC S w φ st.h g v → v = .func f #[] cs → ∃ k, f = .func k := by
      intro g
      induction g with
      | fn k => intro v f cs hr hv; have hr : v = _ := hr; rw [hv] at hr; injection hr with h1; exact ⟨k, h1⟩
      | cap g c ih _ => intro v f cs hr hv; obtain ⟨f', cs', x', h1, _, h3⟩ := hr; rw [hv] at h3; injection h3 with h4; subst h4; exact ih _ _ _ h1 rfl
      | row n => intro v f cs hr hv; obtain ⟨_, _, A, l, c, h1⟩ := hr; rw [hv] at h1; cases h1
      | ptr n i sz off => intro v f cs hr hv; obtain ⟨_, g, _, h1⟩ := hr; rw [hv] at h1; cases h1
      | dptr u x off => intro v f cs hr hv; obtain ⟨b, cs', h1, _⟩ := hr; rw [hv] at h1; cases h1
      | sl u l => intro v f cs hr hv; obtain ⟨A, cap, cs', h1, _⟩ := hr; rw [hv] at h1; cases h1
      | slx u l => intro v f cs hr hv; obtain ⟨_, a, k, c, h1⟩ := hr; rw [hv] at h1; cases h1
      | tail n i sz => intro v f cs hr hv; obtain ⟨_, A, l, c, _, _, h1⟩ := hr; rw [hv] at h1; cases h1
      | mapr b n => intro v f cs hr hv; obtain ⟨_, q, h1, _⟩ := hr; rw [hv] at h1; cases h1
      | _ => intro v f cs hr hv; have hr : v = _ := hr; rw [hv] at hr; cases hr
    obtain ⟨f, cs, y, h1, h2, hv⟩ := id hx
    obtain ⟨k, rfl⟩ := key g _ f cs h1 rfl
    exact StepR.pure m h (by simp [execOp, ho, hv]) (hv ▸ hx)
  · cases h

theorem step_bin {cfg : Cfg} (hT : TTok P cfg.tt) (m : RelP cx nt φ S st a w) {o : Oper} {op : BinOp} {t t' : TypeId} {x y : Operand} (ho : o.op = .binOp op t x y t') {κ : V → St → Option ρ} {r : ρ} (h : evOp cfg st o κ = some r) : StepR P cx φ S st a w o κ r := by
  simp only [evOp, ho] at h
  obtain ⟨c, v, h1, h2, h3⟩ := bin_sound hT x y (relV_opnd m x) (relV_opnd m y) h
  have hrun : (execOp a.eval o).run P w = .ok (.value v) w := by
    simp only [execOp, ho]
    rw [Sem.run_bind, h2]; rfl
  exact StepR.pure m h1 hrun h3

theorem step_un (m : RelP cx nt φ S st a w) {cfg : Cfg} {o : Oper} {op : UnOp} {t : TypeId} {x : Operand} (ho : o.op = .unOp op t x) {κ : V → St → Option ρ} {r : ρ} (h : evOp cfg st o κ = some r) : StepR P cx φ S st a w o κ r := by
  simp only [evOp, ho] at h
  unfold un at h
  split at h
  · rename_i k n e
    have hv : a.eval x = .int k n := opnd_eq m e
    exact StepR.pure m h (by simp [execOp, ho, hv, Op.unary, Op.intArith]) rfl
  · rename_i b e
    have hv : a.eval x = .bool b := opnd_eq m e
    exact StepR.pure m h (by simp [execOp, ho, hv, Op.unary]) rfl
  · rename_i k n e
    have hv : a.eval x = .int k n := opnd_eq m e
    exact StepR.pure m h (by simp [execOp, ho, hv, Op.unary, Op.intBits]) rfl
  · cases h

theorem repL_ints {S : Nat → Prop} {w : World} {k : IntKind} : ∀ {l : List Int} {cs : List Value}, RepL (Rep S w (.int k)) l cs → cs = l.map (Value.int k)
  | [], _, h => h
  | n :: l, _, ⟨v1, v2, e, h1, h2⟩ => by
    have h1 : v1 = [Value.int k n] := h1
    rw [e, h1, repL_ints h2]; rfl

theorem step_convert {cfg : Cfg} (hT : TTok P cfg.tt) (m : RelP cx nt φ S st a w) {o : Oper} {s d : TypeId} {x : Operand} (ho : o.op = .convert s d x) {κ : V → St → Option ρ} {r : ρ} (h : evOp cfg st o κ = some r) : StepR P cx φ S st a w o κ r := by
  simp only [evOp, ho] at h
  split at h
  · rename_i i j c e1 e2 e3
    unfold conv at h
    split at h
    · rename_i k' n
      have hv : a.eval x = .int k' n := opnd_eq m e3
      split at h
      · rename_i k ek
        have hd := (hT d j e2).int ek
        obtain ⟨ds, hs, _⟩ := (hT s i e1).und
        exact StepR.pure m h (by simp [execOp, ho, hv, convert, run_underlying hs, run_underlying hd, Conv.intToInt]) rfl
      · cases h
    · split at h
      · rename_i e ej ei
        split at h
        · rename_i ie e4
          split at h
          · rename_i ek
            split at h
            · rename_i l hl
              have hc : RelC S w φ st.h c (a.eval x) := opnd_eq m e3
              have hs := (hT s i e1).sl ei
              have hd := (hT d j e2).str ej
              have he := (hT e ie e4).int ek
              obtain ⟨A, cap, cs, hv, hcap, hfl, hA⟩ := rep_dataSl (S' := fun _ => True) m.m.b (fun _ _ => trivial) hc hl (fun _ _ _ _ _ => trivial)
              injection hv with hv _
              have hcs : cs = l.map (Value.int .u8) := repL_ints hfl
              refine StepR.pure (v' := .string (bytesStr l)) m h ?_ rfl
              have hrun : (convert s d (a.eval x)).run P w = .ok (.string (bytesStr l)) w := by
                rw [hv, run_convert_bytes_string w s d e _ _ _ hs he hd]
                cases A with
                | none => rw [hA.1]; simp [Conv.bytesToString, bytesStr]
                | some ad =>
                  have hll := run_loadCells_list (P := P) w ad cs hA.1
                  have : cs.length = l.length := by rw [hcs, List.length_map]
                  rw [this, hcs] at hll
                  rw [run_bytesToString w ad l.length cap l hll]; rfl
              simp [execOp, ho, hrun]
            · cases h
          · cases h
        · cases h
      · cases h
  · cases h

theorem run_fieldAt {t : TypeId} {i : TI} (ok : TIok P t i) {fs : List (Nat × Nat)} (ek : i.k = .struct fs) {f off ft : Nat} (hf : fs[f]? = some (off, ft)) (ad : Addr) : (Instr.fieldAt t (.pointer (some ad)) f).run P w = .ok (.pointer (some (ad.add off))) w := by
  obtain ⟨fields, hu, h1, h2⟩ := ok.struct ek
  subst h1
  simp only [List.getElem?_map, Option.map_eq_some_iff] at hf
  obtain ⟨fld, hf, hp⟩ := hf
  injection hp with hp1 hp2
  subst hp1
  have hf' : fields[f]? = some fld := by simpa using hf
  obtain ⟨inf, hi, hs⟩ := h2 fld (List.mem_of_getElem? hf)
  simp [Instr.fieldAt, run_underlying hu, hf', Instr.sureAddr, fieldPlace, sizeOf, typeInfo, hi, hs]

theorem step_fieldAddr {cfg : Cfg} (hT : TTok P cfg.tt) (m : RelP cx nt φ S st a w) {o : Oper} {t : TypeId} {x : Operand} {f : Nat} (ho : o.op = .fieldAddr t x f) {κ : V → St → Option ρ} {r : ρ} (h : evOp cfg st o κ = some r) : StepR P cx φ S st a w o κ r := by
  simp only [evOp, ho] at h
  split at h
  · rename_i i c e e0
    have hc := opnd_one m e0
    split at h
    · rename_i fs ek
      split at h
      · rename_i off ft n j sz o' hf
        obtain ⟨hlive, g, hg, hv⟩ := hc
        have hrun := run_fieldAt (w := w) (hT t i e) ek hf ⟨g, j * sz + o', none⟩
        rw [add_at] at hrun
        exact StepR.pure (v' := .pointer (some ⟨g, j * sz + o' + off, none⟩)) m h (by simp [execOp, ho, hv, hrun]) ⟨hlive, g, hg, by rw [Nat.add_assoc]⟩
      · rename_i off ft u y o' hf
        obtain ⟨b, cs, hv, h1, h2, h3⟩ := hc
        have hrun := run_fieldAt (w := w) (hT t i e) ek hf (b.add o')
        rw [add_add] at hrun
        exact StepR.pure (v' := .pointer (some (b.add (o' + off)))) m h (by simp [execOp, ho, hv, hrun]) ⟨b, cs, rfl, h1, h2, h3⟩
      · cases h
    · cases h
  · cases h

theorem asV_all {cs : List C} {vs : List Value} (ha : All2 (RelC S w φ st.h) cs vs) {i : TI} {v : V} (hv : asV i.agg cs = some v) : (i.agg = true ∧ v = .v (.agg cs)) ∨ (i.agg = false ∧ ∃ c x, v = .v (.c c) ∧ cs = [c] ∧ vs = [x] ∧ RelC S w φ st.h c x) := by
  cases hag : i.agg with
  | true => rw [hag] at hv; simp [asV] at hv; exact .inl ⟨rfl, hv.symm⟩
  | false =>
    rw [hag] at hv
    cases cs with
    | nil => simp [asV] at hv
    | cons c r => cases r with
      | cons => simp [asV] at hv
      | nil =>
        simp [asV] at hv
        cases vs with
        | nil => exact ha.elim
        | cons x r => cases r with
          | cons => exact ha.2.elim
          | nil => exact .inr ⟨rfl, c, x, hv.symm, rfl, rfl, ha.1⟩

theorem step_field {cfg : Cfg} (hT : TTok P cfg.tt) (m : RelP cx nt φ S st a w) {o : Oper} {t : TypeId} {x : Operand} {f : Nat} (ho : o.op = .field t x f) {κ : V → St → Option ρ} {r : ρ} (h : evOp cfg st o κ = some r) : StepR P cx φ S st a w o κ r := by
  simp only [evOp, ho] at h
  split at h
  · rename_i i cs e e0
    obtain ⟨vs, hv, hc⟩ : RelW S w φ st.h (.agg cs) (a.eval x) := opnd_eq m e0
    split at h
    · rename_i fs ek
      split at h
      · rename_i off ft hf
        split at h
        · rename_i ti et
          obtain ⟨fields, hu, h1, h2⟩ := (hT t i e).struct ek
          subst h1
          simp only [List.getElem?_map, Option.map_eq_some_iff] at hf
          obtain ⟨fld, hf, hp⟩ := hf
          injection hp with hp1 hp2
          subst hp1
          subst hp2
          have hf' : fields[f]? = some fld := by simpa using hf
          split at h
          · rename_i cs' e1
            split at h
            · rename_i v e2
              have hw : ∃ y : W1, partW cfg.tt fld.type cs fld.offset = some y ∧ v = .v y := by
                unfold partW
                rw [show assoc cfg.tt fld.type = some ti from et]
                simp only [e1]
                cases hag : ti.agg with
                | true => rw [hag] at e2; simp [asV] at e2; exact ⟨.agg cs', rfl, e2.symm⟩
                | false =>
                  rw [hag] at e2
                  cases cs' with
                  | nil => simp [asV] at e2
                  | cons c r => cases r with
                    | cons => simp [asV] at e2
                    | nil => simp [asV] at e2; exact ⟨.c c, rfl, e2.symm⟩
              obtain ⟨y, hy, rfl⟩ := hw
              obtain ⟨v', hr, hrel⟩ := run_part hT hc hy
              exact StepR.pure m h (by simp [execOp, ho, hv, Instr.field, run_underlying hu, hf', asAgg, hr]) hrel
            · cases h
          · cases h
        · cases h
      · cases h
    · cases h
  · cases h

theorem splitI_some {ρ : Type} : ∀ {m i : Nat} {j : Int} {κ : Nat → Option ρ} {r : ρ}, splitI m i j κ = some r → ∃ q : Nat, j = (q : Int) ∧ q < i + m ∧ κ q = some r
  | 0, _, _, _, _, h => by cases h
  | m + 1, i, j, κ, r, h => by
    unfold splitI at h
    cases hd : decide (j = (i : Int)) with
    | true => rw [hd] at h; exact ⟨i, of_decide_eq_true hd, by omega, h⟩
    | false => rw [hd] at h; obtain ⟨q, h1, h2, h3⟩ := splitI_some (m := m) (i := i + 1) h; exact ⟨q, h1, by omega, h3⟩

theorem elemSize_arr {cfg : Cfg} (hT : TTok P cfg.tt) {n e : Nat} {ie : TI} (e1 : cfg.ty e = some ie) (w : World) : (sizeOf e).run P w = .ok (elemSize cfg (.arr n e)) w := by
  rw [elemSize, e1]; exact (hT e ie e1).run_size w

theorem step_index {cfg : Cfg} (hT : TTok P cfg.tt) (m : RelP cx nt φ S st a w) {o : Oper} {t : TypeId} {x y : Operand} (ho : o.op = .index t x y) {κ : V → St → Option ρ} {r : ρ} (h : evOp cfg st o κ = some r) : StepR P cx φ S st a w o κ r := by
  simp only [evOp, ho] at h
  split at h
  · rename_i i s k j e e1 e2
    have hx : a.eval x = .string s := opnd_eq m e1
    have hy : a.eval y = .int k j := opnd_eq m e2
    split at h
    · rename_i ek
      have hu := (hT t i e).str ek
      obtain ⟨b, hb, h⟩ := Option.bind_eq_some_iff.1 h
      exact StepR.pure m h (by simp [execOp, ho, hx, hy, Instr.index, asIntOf, run_underlying hu, hb]) rfl
    · cases h
  · rename_i i cs k j e e1 e2
    obtain ⟨vs, hx, hc⟩ : RelV S w φ st.h (.v (.agg cs)) (a.eval x) := opnd_eq m e1
    have hy : a.eval y = .int k j := opnd_eq m e2
    split at h
    · rename_i len el ek
      have hu := (hT t i e).arr ek
      obtain ⟨q, hq, hlt, h⟩ := splitI_some h
      split at h
      case h_2 => cases h
      rename_i x' hp
      obtain ⟨v', hr, hrel⟩ := run_part hT hc hp
      have hty : ∃ ie, cfg.ty el = some ie := by
        unfold partW at hp
        split at hp
        · rename_i ie e3; exact ⟨ie, e3⟩
        · cases hp
      obtain ⟨ie, hty⟩ := hty
      have hs : (sizeOf el).run P w = .ok (elemSize cfg i.k) w := by rw [ek]; exact elemSize_arr hT (n := len) hty w
      have hj : j.toNat = q := by omega
      have hb : 0 ≤ j ∧ j < (len : Int) := ⟨by omega, by omega⟩
      exact StepR.pure m h (by simp [execOp, ho, hx, hy, Instr.index, asIntOf, run_underlying hu, hb, hs, hj, hr, Result.andThen]) hrel
    · cases h
  · cases h

theorem step_extract (m : RelP cx nt φ S st a w) {cfg : Cfg} {o : Oper} {x : Operand} {i : Nat} (ho : o.op = .extract x i) {κ : V → St → Option ρ} {r : ρ} (h : evOp cfg st o κ = some r) : StepR P cx φ S st a w o κ r := by
  simp only [evOp, ho] at h
  split at h
  · rename_i ws e
    obtain ⟨vs, hv, hc⟩ : RelV S w φ st.h (.tup ws) (a.eval x) := opnd_eq m e
    split at h
    · rename_i y ey
      obtain ⟨b, hb, hr⟩ := hc.get ey
      have hb' : vs[i]? = some b := by simpa using hb
      exact StepR.pure m h (by simp [execOp, ho, hv, Instr.extract, hb']) hr
    · cases h
  · cases h

theorem elemSize_sl {cfg : Cfg} (hT : TTok P cfg.tt) {t : TypeId} {i : TI} {e : Nat} (ok : TIok P t i) (ek : i.k = .sl e) {u : U} (hu : 0 < u.n) (h : Nat.beq (elemSize cfg i.k) u.n = true) (w : World) : (sizeOf e).run P w = .ok u.n w := by
  have h := Nat.eq_of_beq_eq_true h
  rw [ek, elemSize] at h
  split at h
  · rename_i ie e1; rw [← h]; exact (hT e ie e1).run_size w
  · omega

theorem elem_sl {t e : TypeId} (h : P.underlying t = some (.slice e)) : P.elem t = e := by simp [Program.elem, h]

theorem dec2 {p q : Prop} [Decidable p] [Decidable q] {α : Type} {x : Option α} {r : α} (h : (bif decide p && decide q then x else none) = some r) : p ∧ q ∧ x = some r := by
  cases hp : decide p <;> cases hq : decide q <;> rw [hp, hq] at h <;> first | exact ⟨of_decide_eq_true hp, of_decide_eq_true hq, h⟩ | cases h

theorem dec3 {p q s : Prop} [Decidable p] [Decidable q] [Decidable s] {α : Type} {x : Option α} {r : α} (h : (bif decide p && decide q && decide s then x else none) = some r) : p ∧ q ∧ s ∧ x = some r := by
  cases hp : decide p <;> cases hq : decide q <;> cases hs : decide s <;> rw [hp, hq, hs] at h <;> first | exact ⟨of_decide_eq_true hp, of_decide_eq_true hq, of_decide_eq_true hs, h⟩ | cases h

theorem run_indexAt_in {t e : TypeId} (hu : P.underlying t = some (.slice e)) {s : Nat} (hs : (sizeOf e).run P w = .ok s w) (ad : Addr) (len cap : Nat) (k : IntKind) (j : Int) (h0 : 0 ≤ j) (h1 : j < len) :
    (Instr.indexAt t (.slice (some ad) len cap) (.int k j)).run P w = .ok (.pointer (some (ad.add (j.toNat * s)))) w := by
  rw [run_indexAt_slice w t ad len cap k j (by rw [elem_sl hu]; exact hu), if_pos ⟨h0, h1⟩, elem_sl hu, hs]; rfl

theorem row_value {ok : Nat → Prop} {n e : Nat} {u : U} {l : List (El u)} (hb : RelB S w φ st.h ok (φ n) (.row e u l)) (h : 0 < l.length) : ∃ g cap, φ n = .slice (some ⟨g, 0, none⟩) l.length cap := by
  obtain ⟨_, flat, ho, _, _⟩ := hb
  rcases ho.2 with ⟨_, h0⟩ | ⟨g, cap, cur, h0, _⟩
  · omega
  · exact ⟨g, cap, h0⟩

theorem ro_value {ok : Nat → Prop} {n e : Nat} {u : U} {l : List (El u)} (hb : RelB S w φ st.h ok (φ n) (.ro e u l)) (h : 0 < l.length) : ∃ g cap, pv (φ n) = .slice (some ⟨g, 0, none⟩) l.length cap := by
  obtain ⟨_, flat, cap, _, _, hv⟩ := hb
  rcases hv with ⟨_, h0⟩ | ⟨g, h0, _⟩
  · subst h0; simp at h
  · exact ⟨g, cap, h0⟩

theorem own_value {ok : Nat → Prop} {n e : Nat} {o : O} {l : List (El o.u)} (hb : RelB S w φ st.h ok (φ n) (.own e o l)) (h : 0 < l.length) : 0 < o.u.n ∧ ∃ g cap, pv (φ n) = .slice (some ⟨g, 0, none⟩) l.length cap := by
  obtain ⟨s, F, hφ, ⟨flat, F', hu, ho, _⟩, _⟩ := hb
  rw [hφ.1]
  rcases ho.2 with ⟨_, h0⟩ | ⟨g, cap, cur, h0, _⟩
  · omega
  · exact ⟨hu, g, cap, h0⟩

theorem opn_value {ok : Nat → Prop} {n e i : Nat} {o : O} {l : List (El o.u)} {cs : List C} (hb : RelB S w φ st.h ok (φ n) (.opn e o l i cs)) : 0 < o.u.n ∧ ∃ g cap, pv (φ n) = .slice (some ⟨g, 0, none⟩) l.length cap := by
  obtain ⟨s, F, v1, v2, v3, F1, F3, hφ, hu, hi, ho, _⟩ := hb
  rw [hφ, pv_ghost]
  rcases ho.2 with ⟨_, h0⟩ | ⟨g, cap, cur, h0, _⟩
  · omega
  · exact ⟨hu, g, cap, h0⟩

theorem run_indexArr {t e : TypeId} {n : Nat} (hu : P.underlying t = some (.array n e)) {s : Nat} (hs : (sizeOf e).run P w = .ok s w) (ad : Addr) (k : IntKind) (j : Int) (h0 : 0 ≤ j) (h1 : j < n) :
    (Instr.indexAt t (.pointer (some ad)) (.int k j)).run P w = .ok (.pointer (some (ad.add (j.toNat * s)))) w := by
  have e1 : P.arrayLen t = n := by simp [Program.arrayLen, hu]
  have e2 : P.elem t = e := by simp [Program.elem, hu]
  rw [run_indexAt_array w t ad k j (by rw [e1, e2]; exact hu), if_pos ⟨h0, by rw [e1]; exact h1⟩, e2, hs]; rfl

theorem elemSize_arr' {cfg : Cfg} (hT : TTok P cfg.tt) {n e : Nat} {u : U} (hu : 0 < u.n) (h : Nat.beq (elemSize cfg (.arr n e)) u.n = true) (w : World) : (sizeOf e).run P w = .ok u.n w := by
  have h := Nat.eq_of_beq_eq_true h
  rw [elemSize] at h
  split at h
  · rename_i ie e1; rw [← h]; exact (hT e ie e1).run_size w
  · omega

theorem boxArr_some {ti : TI} {c : C} {n len off : Nat} (h : boxArr st ti c = some (n, len, off)) : ∃ el sz t cs, ti.k = .arr len el ∧ c = .ptr n 0 sz off ∧ st.h n = .box t cs := by
  unfold boxArr at h
  split at h
  · rename_i len' el n' i sz off' ek
    split at h
    · rename_i t cs eh
      injection h with h; injection h with h1 h2; injection h2 with h2 h3
      subst h1; subst h2; subst h3
      exact ⟨el, sz, t, cs, ek, rfl, eh⟩
    · cases h
  · cases h

theorem step_indexAddr {cfg : Cfg} (hT : TTok P cfg.tt) (m : RelP cx nt φ S st a w) {o : Oper} {t : TypeId} {x y : Operand} (ho : o.op = .indexAddr t x y) {κ : V → St → Option ρ} {r : ρ} (h : evOp cfg st o κ = some r) : StepR P cx φ S st a w o κ r := by
  simp only [evOp, ho] at h
  split at h
  · rename_i i c k j e e0 e2
    have ok := hT t i e
    have hc := (opnd_one m e0).weak
    split at h
    · rename_i n len off hbx
      obtain ⟨el, sz, bt, bcs, ek, rfl, eh⟩ := boxArr_some hbx
      have hu := ok.arr ek
      rw [ek] at h
      split at h
      case h_2 => cases h
      rename_i hpos
      obtain ⟨q, hq, hlt, h⟩ := splitI_some h
      have hy : a.eval y = .int k j := opnd_eq m e2
      obtain ⟨hlive, g, hg, hv⟩ := hc
      cases hty : cfg.ty el with
      | none => simp [elemSize, hty] at hpos
      | some ie =>
        have hs := elemSize_arr hT (n := len) hty w
        have hrun := run_indexArr hu hs ⟨g, 0 * sz + off, none⟩ k j (by omega) (by omega)
        rw [add_at, show 0 * sz + off + j.toNat * elemSize cfg (.arr len el) = 0 * 0 + (off + q * elemSize cfg (.arr len el)) by rw [hq]; simp] at hrun
        exact StepR.pure (v' := .pointer (some ⟨g, 0 * 0 + (off + q * elemSize cfg (.arr len el)), none⟩)) m h (by simp only [execOp, ho, hv, hy, Sem.run_bind, hrun]; rfl) ⟨hlive, g, hg, rfl⟩
    generalize c.weak = c at h hc
    have hy : a.eval y = .int k j := opnd_eq m e2
    unfold indexAddr at h
    split at h
    · -- data
      rename_i el u l ek
      split at h
      · rename_i hb
        rw [Bool.and_eq_true] at hb
        have hun : 0 < u.n := by have := hb.2; rwa [Nat.blt_eq] at this
        obtain ⟨z, hz, h⟩ := Option.bind_eq_some_iff.1 h
        unfold getI at hz
        split at hz
        · rename_i h0
          have hu := ok.sl ek
          have hjl : j.toNat < l.length := by
            rcases Nat.lt_or_ge j.toNat l.length with q | q
            · exact q
            · rw [List.getElem?_eq_none q] at hz; cases hz
          obtain ⟨A, cap, flat, hv, _, hl, hA⟩ := hc
          injection hv with hv _
          cases A with
          | none => obtain ⟨hnil, _⟩ := hA; rw [hnil] at hjl; simp at hjl
          | some ad =>
            obtain ⟨hm, hS⟩ := hA
            obtain ⟨v1, v2, v3, rfl, hl1, hrep, _⟩ := hl.at hz
            have hs := elemSize_sl hT ok ek hun hb.1 w
            refine StepR.pure (v' := .pointer (some (ad.add (j.toNat * u.n)))) m h (by simp [execOp, ho, hv, hy, run_indexAt_in hu hs ad l.length cap k j h0 (by omega)]) ⟨ad.add (j.toNat * u.n), v2, by rw [add_zero], hrep, ?_, fun hne => by rw [add_block]; exact hS (by simp [hne])⟩
            rw [← hl1]; exact hm.part.2.part.1
        · cases hz
      · cases h
    · rename_i el n ek
      obtain ⟨hlive, hv, _⟩ := hc
      have hn := m.m.b n
      have hu := ok.sl ek
      split at h
      · rename_i e' u l eh
        rw [eh] at hn
        split at h
        · rename_i hb
          obtain ⟨h0, h1, h⟩ := dec2 h
          obtain ⟨g, cap, hφ⟩ := row_value hn (by omega)
          have hs := elemSize_sl hT ok ek hn.1 hb w
          have hrun := run_indexAt_in hu hs ⟨g, 0, none⟩ l.length cap k j h0 h1
          rw [add_at, Nat.zero_add] at hrun
          exact StepR.pure (v' := .pointer (some ⟨g, j.toNat * u.n, none⟩)) m h (by simp [execOp, ho, hv, hφ, pv, hy, hrun]) ⟨hlive, g, by rw [hφ]; rfl, rfl⟩
        · cases h
      · rename_i e' u l eh
        rw [eh] at hn
        split at h
        · rename_i hb
          obtain ⟨h0, h1, h⟩ := dec2 h
          obtain ⟨g, cap, hφ⟩ := ro_value hn (by omega)
          have hs := elemSize_sl hT ok ek hn.1 hb w
          have hrun := run_indexAt_in hu hs ⟨g, 0, none⟩ l.length cap k j h0 h1
          rw [add_at, Nat.zero_add] at hrun
          exact StepR.pure (v' := .pointer (some ⟨g, j.toNat * u.n, none⟩)) m h (by simp [execOp, ho, hv, hφ, hy, hrun]) ⟨hlive, g, by rw [hφ]; rfl, rfl⟩
        · cases h
      · rename_i e' q l eh
        rw [eh] at hn
        split at h
        · rename_i hb
          obtain ⟨h0, h1, h⟩ := dec2 h
          obtain ⟨hun, g, cap, hφ⟩ := own_value hn (by omega)
          have hs := elemSize_sl hT ok ek hun hb w
          have hrun := run_indexAt_in hu hs ⟨g, 0, none⟩ l.length cap k j h0 h1
          rw [add_at, Nat.zero_add] at hrun
          exact StepR.pure (v' := .pointer (some ⟨g, j.toNat * q.u.n, none⟩)) m h (by simp [execOp, ho, hv, hφ, hy, hrun]) ⟨hlive, g, by rw [hφ]; rfl, rfl⟩
        · cases h
      · rename_i e' q l qi qc eh
        rw [eh] at hn
        split at h
        · rename_i hb
          obtain ⟨h0, h1, h⟩ := dec2 h
          obtain ⟨hun, g, cap, hφ⟩ := opn_value hn
          have hs := elemSize_sl hT ok ek hun hb w
          have hrun := run_indexAt_in hu hs ⟨g, 0, none⟩ l.length cap k j h0 h1
          rw [add_at, Nat.zero_add] at hrun
          exact StepR.pure (v' := .pointer (some ⟨g, j.toNat * q.u.n, none⟩)) m h (by simp [execOp, ho, hv, hφ, hy, hrun]) ⟨hlive, g, by rw [hφ]; rfl, rfl⟩
        · cases h
      · cases h
    · rename_i el n i' sz ek
      obtain ⟨hlive, A, L, cp, hφ, hi, hv⟩ := hc
      have hn := m.m.b n
      have hu := ok.sl ek
      split at h
      · rename_i e' u l eh
        rw [eh] at hn
        split at h
        · rename_i hb
          rw [Bool.and_eq_true] at hb
          have := Nat.eq_of_beq_eq_true hb.2; subst this
          obtain ⟨h0, h1, h⟩ := dec2 h
          obtain ⟨g, cap, hφ'⟩ := row_value hn (by omega)
          have hcl : l.length ≤ cap := by
            obtain ⟨_, flat, ho, _, _⟩ := hn
            rcases ho.2 with ⟨e0, _⟩ | ⟨g', cap', cur, e0, _, _, hc1, _⟩
            · rw [e0] at hφ'; cases hφ'
            · rw [e0] at hφ'; cases hφ'; exact hc1
          rw [hφ'] at hφ
          injection hφ with e1 e2 e3
          subst e1; subst e2; subst e3
          rw [if_neg (show ¬ cap = i' by omega)] at hv
          have hs := elemSize_sl hT ok ek hn.1 hb.1 w
          have hrun := run_indexAt_in hu hs ⟨g, i' * u.n, none⟩ (l.length - i') (cap - i') k j h0 h1
          rw [add_at] at hrun
          refine StepR.pure (v' := .pointer (some ⟨g, i' * u.n + j.toNat * u.n, none⟩)) m h ?_ ⟨hlive, g, by rw [hφ']; rfl, by rw [Nat.add_mul]; rfl⟩
          simp [execOp, ho, hv, hy, add_at, hrun]
        · cases h
      · cases h
    · rename_i len el u x off ek
      obtain ⟨ad, cs, hv, h1, h2, h3⟩ := hc
      have hu := ok.arr ek
      rw [ek] at h
      split at h
      case h_2 => cases h
      rename_i hpos
      obtain ⟨h0, h1', h⟩ := dec2 h
      cases hty : cfg.ty el with
      | none => simp [elemSize, hty] at hpos
      | some ie =>
        have hs := elemSize_arr hT (n := len) hty w
        have hrun := run_indexArr hu hs (ad.add off) k j h0 h1'
        rw [add_add] at hrun
        exact StepR.pure (v' := .pointer (some (ad.add (off + j.toNat * elemSize cfg (.arr len el))))) m h (by simp only [execOp, ho, hv, hy, Sem.run_bind, hrun]; rfl) ⟨ad, cs, rfl, h1, h2, h3⟩
    · rename_i len el n ii sz off ek
      obtain ⟨hlive, g, hg, hv⟩ := hc
      have hn := m.m.b n
      have hu := ok.arr ek
      rw [ek] at h
      have inner : ∀ (hpos : Nat.blt 0 (elemSize cfg (.arr len el)) = true) (h : (bif decide (0 ≤ j) && decide (j < (len : Int)) then κ (.v (.c (.ptr n ii sz (off + j.toNat * elemSize cfg (.arr len el))))) st else none) = some r), StepR P cx φ S st a w o κ r := by
        intro hpos h
        obtain ⟨h0, h1, h⟩ := dec2 h
        cases hty : cfg.ty el with
        | none => simp [elemSize, hty] at hpos
        | some ie =>
          have hs := elemSize_arr hT (n := len) hty w
          have hrun := run_indexArr hu hs ⟨g, ii * sz + off, none⟩ k j h0 h1
          rw [add_at] at hrun
          exact StepR.pure (v' := .pointer (some ⟨g, ii * sz + off + j.toNat * elemSize cfg (.arr len el), none⟩)) m h (by simp only [execOp, ho, hv, hy, Sem.run_bind, hrun]; rfl) ⟨hlive, g, hg, by congr 3; omega⟩
      split at h
      · rename_i e' u l eh
        rw [eh] at hn
        split at h
        · rename_i hb
          split at h
          case h_2 => cases h
          rename_i ho0
          obtain ⟨h0, h1, h⟩ := dec2 h
          have hs := elemSize_arr' hT hn.1 hb w
          have hrun := run_indexArr hu hs ⟨g, 0 * sz + off, none⟩ k j h0 h1
          have : off = 0 := Nat.eq_of_beq_eq_true ho0
          subst this
          rw [add_at, show 0 * sz + 0 + j.toNat * u.n = j.toNat * u.n by omega] at hrun
          exact StepR.pure (v' := .pointer (some ⟨g, j.toNat * u.n, none⟩)) m h (by simp only [execOp, ho, hv, hy, Sem.run_bind, hrun]; rfl) ⟨hlive, g, hg, rfl⟩
        · split at h
          · rename_i hpos; exact inner hpos h
          · cases h
      · rename_i e' u l eh
        rw [eh] at hn
        split at h
        · rename_i hb
          split at h
          case h_2 => cases h
          rename_i ho0
          obtain ⟨h0, h1, h⟩ := dec2 h
          have hs := elemSize_arr' hT hn.1 hb w
          have hrun := run_indexArr hu hs ⟨g, 0 * sz + off, none⟩ k j h0 h1
          have : off = 0 := Nat.eq_of_beq_eq_true ho0
          subst this
          rw [add_at, show 0 * sz + 0 + j.toNat * u.n = j.toNat * u.n by omega] at hrun
          exact StepR.pure (v' := .pointer (some ⟨g, j.toNat * u.n, none⟩)) m h (by simp only [execOp, ho, hv, hy, Sem.run_bind, hrun]; rfl) ⟨hlive, g, hg, rfl⟩
        · split at h
          · rename_i hpos; exact inner hpos h
          · cases h
      · split at h
        case h_2 => cases h
        rename_i hpos
        obtain ⟨h0, h1, h⟩ := dec2 h
        cases hty : cfg.ty el with
        | none => simp [elemSize, hty] at hpos
        | some ie =>
          have hs := elemSize_arr hT (n := len) hty w
          have hrun := run_indexArr hu hs ⟨g, 0 * sz + off, none⟩ k j h0 h1
          rw [add_at] at hrun
          exact StepR.pure (v' := .pointer (some ⟨g, 0 * sz + off + j.toNat * elemSize cfg (.arr len el), none⟩)) m h (by simp only [execOp, ho, hv, hy, Sem.run_bind, hrun]; rfl) ⟨hlive, g, hg, by congr 3; omega⟩
      · cases h
    · cases h
  · cases h

/-- A part of a data slice. -/
theorem rep_sub {u : U} {l : List (El u)} {v : Value} (hr : Rep S w (.sl u) l [v]) {lo hi : Int} (h0 : 0 ≤ lo) (h1 : lo ≤ hi) (h2 : hi ≤ (l.length : Int)) :
    ∃ A cap, v = .slice A l.length cap ∧ hi ≤ (cap : Int) ∧ Rep S w (.sl u) (sub l lo hi) [.slice (if cap = lo.toNat then A else A.map (·.add (lo.toNat * u.n))) (hi.toNat - lo.toNat) (cap - lo.toNat)] := by
  obtain ⟨A, cap, flat, hv, hcl, hl, hA⟩ := hr
  injection hv with hv _
  refine ⟨A, cap, hv, by omega, ?_⟩
  have hlen : (sub l lo hi).length = hi.toNat - lo.toNat := by simp [sub]; omega
  have hdec : l = (l.take lo.toNat) ++ (sub l lo hi ++ l.drop hi.toNat) := by
    have e1 : (l.take hi.toNat).take lo.toNat = l.take lo.toNat := by rw [List.take_take]; congr 1; omega
    calc l = l.take hi.toNat ++ l.drop hi.toNat := (List.take_append_drop _ _).symm
      _ = ((l.take hi.toNat).take lo.toNat ++ (l.take hi.toNat).drop lo.toNat) ++ l.drop hi.toNat := by rw [List.take_append_drop lo.toNat]
      _ = _ := by rw [e1, List.append_assoc]; rfl
  have hl' := hl
  rw [hdec] at hl'
  obtain ⟨f1, f23, rfl, r1, r23⟩ := hl'.split
  obtain ⟨f2, f3, rfl, r2, r3⟩ := r23.split
  have hf1 : f1.length = lo.toNat * u.n := by rw [r1.length, List.length_take, Nat.min_eq_left (by omega)]
  refine ⟨_, cap - lo.toNat, f2, by rw [hlen], by omega, r2, ?_⟩
  cases A with
  | none =>
    obtain ⟨rfl, rfl⟩ := hA
    have : lo.toNat = 0 := by simp at h2; omega
    simp [this, sub]
  | some ad =>
    obtain ⟨hm, hs⟩ := hA
    have hm2 := hm.part.2.part.1
    rw [hf1] at hm2
    by_cases hc : cap = lo.toNat
    · rw [if_pos hc]
      have : sub l lo hi = [] := List.eq_nil_of_length_eq_zero (by rw [hlen]; omega)
      have : f2 = [] := by rw [this] at r2; exact r2
      subst this
      exact ⟨fun j v hv => by simp at hv, fun h => absurd rfl h⟩
    · rw [if_neg hc]
      exact ⟨hm2, fun hne => by rw [add_block]; exact hs (by simp [hne])⟩

def IsInt : Option Int → Option Value → Prop
  | none, v => v = none
  | some z, v => ∃ k, v = some (.int k z)

theorem run_slice_data {t e : TypeId} (hu : P.underlying t = some (.slice e)) {s : Nat} (hs : (sizeOf e).run P w = .ok s w) {A : Option Addr} {n cap : Nat} {lo hi : Option Int} {vlo vhi : Option Value}
    (hlo : IsInt lo vlo) (hhi : IsInt hi vhi)
    (h0 : 0 ≤ lo.getD 0) (h1 : lo.getD 0 ≤ hi.getD n) (h2 : hi.getD n ≤ (cap : Int)) :
    (Instr.sliceAt t (.slice A n cap) vlo vhi none).run P w = .ok (.slice (if cap = (lo.getD 0).toNat then A else A.map (·.add ((lo.getD 0).toNat * s))) ((hi.getD n).toNat - (lo.getD 0).toNat) (cap - (lo.getD 0).toNat)) w := by
  have hsl : (Instr.sliceAt t (.slice A n cap) vlo vhi none).run P w = (Instr.slice t (.slice A n cap) vlo vhi none).run P w := by simp [Instr.sliceAt, run_underlying hu]
  rw [hsl]
  cases lo with
  | none =>
    obtain rfl : vlo = none := hlo
    cases hi with
    | none =>
      obtain rfl : vhi = none := hhi
      simp [Instr.slice, run_underlying hu, Instr.sliceBounds, hs]
    | some z =>
      obtain ⟨k, rfl⟩ := hhi
      simp only [Option.getD_none, Option.getD_some] at h0 h1 h2 ⊢
      simp [Instr.slice, run_underlying hu, Instr.sliceBounds, run_sliceBound, h1, h2, hs]
  | some y =>
    obtain ⟨k', rfl⟩ := hlo
    cases hi with
    | none =>
      obtain rfl : vhi = none := hhi
      simp only [Option.getD_none, Option.getD_some] at h0 h1 h2 ⊢
      simp [Instr.slice, run_underlying hu, Instr.sliceBounds, run_sliceBound, h0, h1, hs]
    | some z =>
      obtain ⟨k, rfl⟩ := hhi
      simp only [Option.getD_none, Option.getD_some] at h0 h1 h2 ⊢
      have hz : 0 ≤ z := by omega
      have ez : (z.toNat : Int) = z := Int.toNat_of_nonneg hz
      simp [Instr.slice, run_underlying hu, Instr.sliceBounds, run_sliceBound, h0, h1, h2, hz, ez, hs]

theorem intOpt_rel (m : RelP cx nt φ S st a w) {x : Option Operand} {z : Option Int} (h : intOpt st x = some z) : IsInt z (x.map a.eval) := by
  cases x with
  | none => simp [intOpt] at h; subst h; rfl
  | some x =>
    simp only [intOpt] at h
    split at h
    · rename_i k n e
      injection h with h; subst h
      have : a.eval x = .int k n := opnd_eq m e
      exact ⟨k, by simp [this]⟩
    · cases h

theorem step_tail {cfg : Cfg} (hT : TTok P cfg.tt) (m : RelP cx nt φ S st a w) {o : Oper} {t : TypeId} {x : Operand} {lo hi : Option Operand} (ho : o.op = .slice t x lo hi none) {i : TI} (ok : TIok P t i) {c : C}
    (hc : RelC S w φ st.h c (a.eval x)) {zl zh : Option Int} (hlo : IsInt zl (lo.map a.eval)) (hhi : IsInt zh (hi.map a.eval)) {κ : V → St → Option ρ} {r : ρ}
    (h : tailOp st i (elemSize cfg i.k) c zl zh (fun c => κ (.v (.c c)) st) = some r) : StepR P cx φ S st a w o κ r := by
  have exec : ∀ v' w', (Instr.sliceAt t (a.eval x) (lo.map a.eval) (hi.map a.eval) none).run P w = .ok v' w' → (execOp a.eval o).run P w = .ok (.value v') w' := by
    intro v' w' hr; simp only [execOp, ho, Option.map_none, Sem.run_bind, hr, Result.andThen_ok]; rfl
  unfold tailOp at h
  split at h
  · rename_i el n z ek
    obtain ⟨hlive, hv, _⟩ := hc
    have hn := m.m.b n
    split at h
    · rename_i e' u xs en
      rw [en] at hn
      split at h
      · rename_i hb
        obtain ⟨h0, h1, h⟩ := dec2 h
        have hs := elemSize_sl hT ok ek hn.1 hb w
        have ez : (z.toNat : Int) = z := Int.toNat_of_nonneg h0
        have hval : ∃ A cap, pv (φ n) = .slice A xs.length cap ∧ xs.length ≤ cap := by
          rw [pv_row hn]
          obtain ⟨_, flat, ho, _, _⟩ := hn
          rcases ho.2 with ⟨e0, e1⟩ | ⟨g', cap', cur, e0, _, _, hc1, _⟩
          · exact ⟨none, 0, by rw [e0, e1], by omega⟩
          · exact ⟨_, _, e0, hc1⟩
        obtain ⟨A, cap, hφ, hcap⟩ := hval
        refine StepR.pure m h (exec _ _ ?_) ⟨hlive, A, xs.length, cap, hφ, by omega, rfl⟩
        rw [hv, hφ]
        have := run_slice_data (P := P) (w := w) (ok.sl ek) hs (A := A) (n := xs.length) (cap := cap) (lo := some z) (hi := none) hlo hhi (by simpa using h0) (by simpa using h1) (by simpa using hcap)
        rw [this]
        cases A <;> simp [Option.map]
      · cases h
    · cases h
  · cases h

theorem step_slice {cfg : Cfg} (hT : TTok P cfg.tt) (m : RelP cx nt φ S st a w) {o : Oper} {t : TypeId} {x : Operand} {lo hi : Option Operand} (ho : o.op = .slice t x lo hi none) {κ : V → St → Option ρ} {r : ρ} (h : evOp cfg st o κ = some r) : StepR P cx φ S st a w o κ r := by
  simp only [evOp, ho] at h
  split at h
  · rename_i i c zl zh e e0 el eh
    have ok := hT t i e
    have hc0 := opnd_one m e0
    have hlo := intOpt_rel m el
    have hhi := intOpt_rel m eh
    cases htl : cfg.tails.any (Nat.beq (Oper.name o)) with
    | true =>
      rw [htl] at h
      simp only [cond_true] at h
      exact step_tail hT m ho ok hc0 hlo hhi h
    | false =>
    rw [htl] at h
    simp only [cond_false] at h
    have hc := hc0.weak
    generalize c.weak = c at h hc
    have exec : ∀ v' w', (Instr.sliceAt t (a.eval x) (lo.map a.eval) (hi.map a.eval) none).run P w = .ok v' w' → (execOp a.eval o).run P w = .ok (.value v') w' := by
      intro v' w' hr; simp only [execOp, ho, Option.map_none, Sem.run_bind, hr, Result.andThen_ok]; rfl
    unfold sliceOp at h
    split at h
    · rename_i s ek
      obtain ⟨h0, h1, h2, h⟩ := dec3 h
      have hv : a.eval x = .string s := hc
      have hu := ok.str ek
      refine StepR.pure (v' := .string (s.extract (zl.getD 0).toNat (zh.getD s.size).toNat)) m h (exec _ _ ?_) rfl
      rw [hv]
      have hsl : ∀ vlo vhi, (Instr.sliceAt t (.string s) vlo vhi none).run P w = (Instr.slice t (.string s) vlo vhi none).run P w := by intro vlo vhi; simp [Instr.sliceAt, run_underlying hu]
      rw [hsl]
      cases zl with
      | none =>
        have hlo : lo.map a.eval = none := hlo
        rw [hlo]
        cases zh with
        | none => have hhi : hi.map a.eval = none := hhi; rw [hhi]; simp [Instr.slice, run_underlying hu, Instr.sliceBounds]
        | some z =>
          obtain ⟨k, hk⟩ := hhi
          rw [hk]
          simp only [Option.getD_none, Option.getD_some] at h0 h1 h2 ⊢
          simp [Instr.slice, run_underlying hu, Instr.sliceBounds, run_sliceBound, h1, h2]
      | some y =>
        obtain ⟨k', hk'⟩ := hlo
        rw [hk']
        cases zh with
        | none =>
          have hhi : hi.map a.eval = none := hhi
          rw [hhi]
          simp only [Option.getD_none, Option.getD_some] at h0 h1 h2 ⊢
          simp [Instr.slice, run_underlying hu, Instr.sliceBounds, run_sliceBound, h0, h1]
        | some z =>
          obtain ⟨k, hk⟩ := hhi
          rw [hk]
          simp only [Option.getD_none, Option.getD_some] at h0 h1 h2 ⊢
          have hz : 0 ≤ z := by omega
          have ez : (z.toNat : Int) = z := Int.toNat_of_nonneg hz
          simp [Instr.slice, run_underlying hu, Instr.sliceBounds, run_sliceBound, h0, h1, h2, hz, ez]
    · rename_i el' u xs ek
      split at h
      · rename_i hb
        rw [Bool.and_eq_true] at hb
        have hun : 0 < u.n := by have := hb.2; rwa [Nat.blt_eq] at this
        obtain ⟨h0, h1, h2, h⟩ := dec3 h
        obtain ⟨A, cap, hv, hcap, hrep⟩ := rep_sub hc h0 h1 h2
        refine StepR.pure m h (exec _ _ ?_) hrep
        rw [hv]
        exact run_slice_data (ok.sl ek) (elemSize_sl hT ok ek hun hb.1 w) hlo hhi h0 h1 hcap
      · cases h
    · rename_i el' n ek
      obtain ⟨hlive, hv, _⟩ := hc
      have hn := m.m.b n
      split at h
      · rename_i e' u xs en
        rw [en] at hn
        rw [pv_row hn] at hv
        split at h
        · rename_i hb
          have hs := elemSize_sl hT ok ek hn.1 hb w
          cases htr : cfg.trunc.any (Nat.beq (Oper.name o)) with
          | true =>
            rw [htr] at h
            simp only [cond_true] at h
            split at h
            · rename_i z
              obtain ⟨h0, h1, h⟩ := dec2 h
              obtain ⟨hu, hf, hgl, h⟩ := newRow_some h
              obtain ⟨_, flat, hown, hl, _⟩ := hn
              -- the row's first part, in the same block
              have hsplit : RepL (Rep S w u) (xs.take z.toNat ++ xs.drop z.toNat) flat := by rw [List.take_append_drop]; exact hl
              obtain ⟨f1, f2, rfl, r1, r2⟩ := hsplit.split
              have hlen : (xs.take z.toNat).length = z.toNat := by rw [List.length_take]; omega
              have hgrow : w.grownBy w (match some n with | some n => blk (pv (φ n)) | none => none) := ⟨rfl, rfl, rfl, Nat.le_refl _, fun _ _ _ => rfl⟩
              rcases hown.2 with ⟨hφ, hz⟩ | ⟨g, cap, cur, hφ, hb0, hh, hc1, hc2, hc3, hc4⟩
              · have hz' : z = 0 := by omega
                subst hz'
                have hf1 : f1 = [] := by simpa using r1.length
                subst hf1
                obtain ⟨hm, hlat⟩ := m.m.newRow (some n) (fun k hk => by cases hk; rw [en]; rfl) (dst := Oper.name o) hf hgl hgrow hu (v := φ n) (e := e') (l := xs.take (0 : Int).toNat) (flat := [])
                  (by rw [hφ]; simpa using World.ownsRow_nil w 0 e' u.n) (by simpa using r1) (fun g hg => .inl ⟨n, rfl, hg⟩)
                refine ⟨_, _, _, S, φ n, w, h, .inl (exec _ _ ?_), hm, rfl, hlat, by show (upd (upd st.h n .gone) (Oper.name o) _ (Oper.name o)).live = true; rw [upd_same]; rfl, by rw [upd_same, hφ]; rfl, by rw [hφ]; exact ⟨_, _, _, rfl⟩⟩
                rw [hv, hφ]
                have := run_slice_data (P := P) (w := w) (ok.sl ek) hs (A := none) (n := 0) (cap := 0) (lo := none) (hi := some 0) hlo hhi (by simp) (by simp) (by simp)
                rw [this]; simp
              · obtain ⟨hm, hlat⟩ := m.m.newRow (some n) (fun k hk => by cases hk; rw [en]; rfl) (dst := Oper.name o) hf hgl hgrow hu (v := .slice (some ⟨g, 0, none⟩) z.toNat cap) (e := e') (l := xs.take z.toNat) (flat := f1)
                  ⟨by rw [r1.length], .inr ⟨g, cap, cur, by rw [hlen], hb0, hh, by rw [hlen]; omega, hc2, hc3, by
                    have h5 : f1.length = (xs.take z.toNat).length * u.n := r1.length
                    rw [← h5]
                    have h7 : f1.length ≤ xs.length * u.n := by rw [h5, hlen]; exact Nat.mul_le_mul_right _ (by omega)
                    have h6 : (cur.toList.take (xs.length * u.n)).take f1.length = f1 := by rw [hc4, List.take_left]
                    rw [List.take_take, Nat.min_eq_left h7] at h6
                    exact h6⟩⟩ r1 (fun g' hg => .inl ⟨n, rfl, by rw [hφ]; exact hg⟩)
                refine ⟨_, _, _, S, .slice (some ⟨g, 0, none⟩) z.toNat cap, w, h, .inl (exec _ _ ?_), hm, rfl, hlat, by show (upd (upd st.h n .gone) (Oper.name o) _ (Oper.name o)).live = true; rw [upd_same]; rfl, by rw [upd_same]; rfl, ⟨_, _, _, rfl⟩⟩
                rw [hv, hφ]
                have := run_slice_data (P := P) (w := w) (ok.sl ek) hs (A := some ⟨g, 0, none⟩) (n := xs.length) (cap := cap) (lo := none) (hi := some z) hlo hhi (by simp) (by simpa using h0) (by simp; omega)
                rw [this]; simp [add_zero]
            · cases h
          | false =>
            rw [htr] at h
            simp only [cond_false] at h
            obtain ⟨h0, h1, h2, h⟩ := dec3 h
            have m' := m.m.freeze1 n
            have hrow : (st.h n).isRow = true := by rw [en]; rfl
            have hlat : Later S (fun g => S g ∨ (st.h n).isRow = true ∧ Bk (φ n) g) w w φ φ st.h (upd st.h n (st.h n).freeze) := ⟨fun g hg => .inl hg, fun _ _ => rfl, fun k hk => ⟨upd_live (by rw [freeze_live, en]; rfl) k hk, rfl⟩⟩
            have hrep0 : Rep (fun g => S g ∨ (st.h n).isRow = true ∧ Bk (φ n) g) w (.sl u) xs [φ n] := by
              have := rep_row (S' := fun g => S g ∨ (st.h n).isRow = true ∧ Bk (φ n) g) (fun g hg => .inl hg) hn (fun g hg => .inr ⟨hrow, hg⟩)
              rwa [pv_row hn] at this
            obtain ⟨A, cap, hv2, hcap, hrep⟩ := rep_sub hrep0 h0 h1 h2
            rw [en] at m' hlat hrep
            refine ⟨_, _, φ, _, _, w, h, .inl (exec _ _ ?_), m', rfl, hlat, hrep⟩
            rw [hv, hv2]
            exact run_slice_data (ok.sl ek) hs hlo hhi h0 h1 hcap
        · cases h
      · rename_i e' u xs en
        rw [en] at hn
        split at h
        · rename_i hb
          have hs := elemSize_sl hT ok ek hn.1 hb w
          obtain ⟨h0, h1, h2, h⟩ := dec3 h
          have hro := rep_ro hn
          obtain ⟨A, cap, hv2, hcap, hrep⟩ := rep_sub hro h0 h1 h2
          refine StepR.pure m h (exec _ _ ?_) hrep
          rw [hv, hv2]
          exact run_slice_data (ok.sl ek) hs hlo hhi h0 h1 hcap
        · cases h
      · cases h
    · cases h
  · cases h
end
end Go.Proofs.YtkimeoknckohfaaDoor.R1
