/- The last operations (made slices, function values, builtins), and all of them in one word. -/
import Derived.Test.YtkimeoknckohfaaDoorR1MapOps
namespace Go.Proofs.YtkimeoknckohfaaDoor.R1
variable {P : Program} {ρ : Type}
section
variable {cx : Cx} {nt : Nat} {φ : Nat → Value} {S : Nat → Prop} {st : St} {a : Act} {w : World}

theorem capAll_rel {f : Fn} : ∀ {vs : List V} {xs : List Value} {g c : C} {cs : Array Value}, All2 (RelV S w φ st.h) vs xs → RelC S w φ st.h g (.func f #[] cs) → capAll g vs = some c → RelC S w φ st.h c (.func f #[] (cs ++ xs.toArray))
  | [], [], g, c, cs, _, hg, h => by simp [capAll] at h; subst h; simpa using hg
  | v :: vs, x :: xs, g, c, cs, ha, hg, h => by
    obtain ⟨hv, ha⟩ := ha
    cases v with
    | v y => cases y with
      | c y =>
        simp only [capAll] at h
        have hv : RelC S w φ st.h y x := hv
        have := capAll_rel (cs := cs.push x) ha (show RelC S w φ st.h (.cap g y) _ from ⟨f, cs, x, hg, hv, rfl⟩) h
        simpa using this
      | agg ys => simp [capAll] at h
    | _ => simp [capAll] at h
  | [], _ :: _, _, _, _, ha, _, _ => ha.elim
  | _ :: _, [], _, _, _, ha, _, _ => ha.elim

theorem opnds_rel (m : RelP cx nt φ S st a w) : ∀ (l : List Operand), All2 (RelV S w φ st.h) (l.map (opnd st)) (l.map a.eval)
  | [] => trivial
  | x :: l => ⟨relV_opnd m x, opnds_rel m l⟩

theorem step_makeFunc (m : RelP cx nt φ S st a w) {cfg : Cfg} {o : Oper} {f : Nat} {first captured : Array Operand} (ho : o.op = .makeFunc (.func f) first captured) {κ : V → St → Option ρ} {r : ρ} (h : evOp cfg st o κ = some r) : StepR P cx φ S st a w o κ r := by
  simp only [evOp, ho] at h
  split at h
  · rename_i c e1 e2
    have hf : first = #[] := by cases first; simp_all
    subst hf
    have := capAll_rel (f := .func f) (cs := #[]) (opnds_rel m captured.toList) (show RelC S w φ st.h (.fn f) _ from rfl) e2
    refine StepR.pure (v' := .func (.func f) #[] (captured.map a.eval)) m h (by simp [execOp, ho, Instr.makeFunc]) ?_
    have e3 : #[] ++ (captured.toList.map a.eval).toArray = captured.map a.eval := by apply Array.ext'; simp
    rw [e3] at this
    exact this
  · cases h

theorem step_makeSlice {cfg : Cfg} (hT : TTok P cfg.tt) (m : RelP cx nt φ S st a w) {o : Oper} {t : TypeId} {x y : Operand} (ho : o.op = .makeSlice t x y) {κ : V → St → Option ρ} {r : ρ} (h : evOp cfg st o κ = some r) : StepR P cx φ S st a w o κ r := by
  simp only [evOp, ho] at h
  split at h
  · rename_i i kx n ky n' e e1 e2
    have hx : a.eval x = .int kx n := opnd_eq m e1
    have hy : a.eval y = .int ky n' := opnd_eq m e2
    have ok := hT t i e
    split at h
    · rename_i e' ek
      split at h
      · rename_i ie ee
        split at h
        · rename_i sh esh
          split at h
          · rename_i z ez
            split at h
            · rename_i hsu
              have hsu : sh.u = ie.u := by
                by_cases q : sh.u = ie.u
                · exact q
                · rw [if_neg q] at hsu; cases hsu
              obtain ⟨h0, h1, h2, h'⟩ := dec3 h
              clear h
              subst h0
              obtain ⟨hu, hf, hgl, h⟩ := newOwn_some h'
              have oke := hT e' ie ee
              obtain ⟨hus, hbp⟩ := oke.u (by rw [← hsu]; exact hu)
              rw [← hsu] at hus
              obtain ⟨inf, zv, q1, q2, q3, q4, q5, q6⟩ := oke.info
              have hz0 : ie.zero.length = ie.size := by rw [closeC_length ez, hus]; simp
              have hz := all2_ofCells (S := S) (w := w) (φ := φ) (h := st.h) (q6 hz0)
              obtain ⟨a1, a2, F, hvc, har, hrep, hF, _, _⟩ := closeC_rel m.m.b m.m.apart hz ez
              have : a2 = [] := by
                cases a2 with
                | nil => rfl
                | cons => exact har.elim
              subst this
              rw [List.append_nil] at hvc
              have hF0 : F = [] := List.eq_nil_iff_forall_not_mem.2 fun g hg => by obtain ⟨n, hn, _⟩ := (hF g).1 hg; cases hn
              subst hF0
              have hzsz : zv.cells.size = sh.u.n := by rw [q5, hus]
              obtain ⟨nn, rfl⟩ : ∃ nn : Nat, n = nn := ⟨n.toNat, (Int.toNat_of_nonneg h1).symm⟩
              have h2' : nn * ie.bytes ≤ roomy := by
                have : ((nn * ie.bytes : Nat) : Int) ≤ (roomy : Int) := by rw [Int.natCast_mul]; exact h2
                exact Int.ofNat_le.1 this
              have h63 : nn ≤ Go.maxLen := by
                have : nn ≤ nn * ie.bytes := Nat.le_mul_of_pos_right _ hbp
                simp only [roomy, Go.maxLen] at *; omega
              obtain ⟨w', hr, hown, hgrow⟩ := run_make_full (P := P) w 0 t e' inf zv sh.u.n (ok.sl ek) q1 q4 (by rw [q2, hus]) kx ky nn (by rw [q3, Nat.mul_comm]; simp only [roomy] at h2'; omega) h63 (Nat.zero_le _)
              have hflat := madeCells_flat zv.cells (by rw [hzsz]; exact hu) nn
              rw [hzsz] at hflat
              have hkeep : ∀ g, g < w.heap.size → w'.heap[g]? = w.heap[g]? := fun g hg => hgrow.block g hg (by simp)
              have hrep' : RepO S w' sh z zv.cells.toList [] := by rw [hvc]; exact hrep.mono (fun _ h => h) (fun g hg => hkeep g (m.m.lt g hg)) (fun g hg => (by cases hg))
              have hoa : OwnAt (RepO S w' sh) w' e' sh.u.n (List.replicate nn z) (.slice (some ⟨w.heap.size, 0, none⟩) nn nn) [w.heap.size] :=
                ⟨_, [], hu, by simpa using hown, by rw [hflat]; exact repOL_replicate hrep' nn, rfl⟩
              obtain ⟨hm, hlat⟩ := m.m.gather hgrow.os hgrow.tape hgrow.output hgrow.size [] (fun n hn => (by cases hn)) (fun g hg _ => hkeep g hg) (dst := Oper.name o) hf hgl hoa (List.nodup_cons.2 ⟨by simp, List.nodup_nil⟩) (fun g hg => .inr (Nat.le_of_eq (List.mem_singleton.1 hg).symm))
              have hval : (List.replicate ((nn : Int)).toNat z) = List.replicate nn z := rfl
              refine ⟨_, _, _, S, .slice (some ⟨w.heap.size, 0, none⟩) nn nn, w', h, .inl ?_, hm, rfl, hlat, by show (upd (goneL st.h []) _ _ _).live = true; rw [upd_same]; rfl, by rw [upd_same, pv_ghost], ⟨_, _, _, rfl⟩⟩
              simp only [execOp, ho, hx, hy, Sem.run_bind, hr, Result.andThen_ok]
              rfl
            · cases h
          · cases h
        split at h
        · rename_i z ez
          obtain ⟨h0, h1, h2, h'⟩ := dec3 h
          clear h
          subst h0
          obtain ⟨hu, hf, hgl, h⟩ := newRow_some h'
          have oke := hT e' ie ee
          obtain ⟨hus, hbp⟩ := oke.u hu
          have hz0 : ie.zero.length = ie.size := by rw [datum_length ez, hus]
          obtain ⟨inf, zv, q1, q2, q3, q4, q5, q6⟩ := oke.info
          have hz := all2_ofCells (S := S) (w := w) (φ := φ) (h := st.h) (q6 hz0)
          have hrz : Rep S w ie.u z zv.cells.toList := rep_datum m.m.b (fun _ h => h) hz ez (by rw [zero_rows oke hz0]; simp)
          have hzsz : zv.cells.size = ie.u.n := by rw [q5, hus]
          obtain ⟨nn, rfl⟩ : ∃ nn : Nat, n = nn := ⟨n.toNat, (Int.toNat_of_nonneg h1).symm⟩
          have h2' : nn * ie.bytes ≤ roomy := by
            have : ((nn * ie.bytes : Nat) : Int) ≤ (roomy : Int) := by rw [Int.natCast_mul]; exact h2
            exact Int.ofNat_le.1 this
          have h63 : nn ≤ Go.maxLen := by
            have : nn ≤ nn * ie.bytes := Nat.le_mul_of_pos_right _ hbp
            simp only [roomy, Go.maxLen] at *; omega
          obtain ⟨w', hr, hown, hgrow⟩ := run_make_full (P := P) w 0 t e' inf zv ie.u.n (ok.sl ek) q1 q4 (by rw [q2, hus]) kx ky nn (by rw [q3, Nat.mul_comm]; simp only [roomy] at h2'; omega) h63 (Nat.zero_le _)
          have hflat := madeCells_flat zv.cells (by rw [hzsz]; exact hu) nn
          rw [hzsz] at hflat
          have hl : RepL (Rep S w ie.u) (List.replicate nn z) (madeCells zv.cells (nn * ie.u.n)).toList := by rw [hflat]; exact repL_replicate hrz nn
          obtain ⟨hm, hlat⟩ := m.m.newRow none (by simp) (dst := Oper.name o) hf hgl (w' := w') hgrow hu (v := .slice (some ⟨w.heap.size, 0, none⟩) nn nn) (e := e') (l := List.replicate nn z) (by simpa using hown) hl (fun g hg => .inr (Nat.le_of_eq (bk_slice.1 hg).symm))
          refine ⟨_, _, _, S, .slice (some ⟨w.heap.size, 0, none⟩) nn nn, w', h, .inl ?_, hm, rfl, hlat, by show (upd st.h _ _ _).live = true; rw [upd_same]; rfl, by rw [upd_same]; rfl, ⟨_, _, _, rfl⟩⟩
          simp only [execOp, ho, hx, hy, Sem.run_bind, hr, Result.andThen_ok]
          rfl
        · cases h
      · cases h
    · cases h
  · cases h

theorem minMax_rel {isMax : Bool} : ∀ {vs : List V} {xs : List Value} {c c' : C} {x : Value}, All2 (RelV S w φ st.h) vs xs → RelC S w φ st.h c x → minMax isMax c vs = some c' →
    ∃ v, (xs.foldlM (bif isMax then Builtin.max2 else Builtin.min2) x).run P w = .ok v w ∧ RelC S w φ st.h c' v
  | [], [], c, c', x, _, hc, h => by simp [minMax] at h; subst h; exact ⟨x, by simp, hc⟩
  | v :: vs, y :: xs, c, c', x, ha, hc, h => by
    obtain ⟨hv, ha⟩ := ha
    cases c with
    | int k n => cases v with
      | v z => cases z with
        | c z => cases z with
          | int k' n' =>
            simp only [minMax] at h
            split at h
            · rename_i q; subst q
              have hx : x = .int k' n := hc
              have hy : y = .int k' n' := hv
              subst hx; subst hy
              cases isMax with
              | true =>
                simp only [cond_true] at h ⊢
                obtain ⟨v, h1, h2⟩ := minMax_rel (isMax := true) (c := .int k' (bif decide (n' > n) then n' else n)) (x := .int k' (bif decide (n' > n) then n' else n)) ha rfl h
                simp only [cond_true] at h1
                refine ⟨v, ?_, h2⟩
                have : Builtin.max2 (.int k' n) (.int k' n') = pure (.int k' (bif decide (n' > n) then n' else n)) := by
                  simp only [Builtin.max2]; by_cases hq : n' > n <;> simp [hq]
                rw [List.foldlM_cons, this]; simpa using h1
              | false =>
                simp only [cond_false] at h ⊢
                obtain ⟨v, h1, h2⟩ := minMax_rel (isMax := false) (c := .int k' (bif decide (n' < n) then n' else n)) (x := .int k' (bif decide (n' < n) then n' else n)) ha rfl h
                simp only [cond_false] at h1
                refine ⟨v, ?_, h2⟩
                have : Builtin.min2 (.int k' n) (.int k' n') = pure (.int k' (bif decide (n' < n) then n' else n)) := by
                  simp only [Builtin.min2]; by_cases hq : n' < n <;> simp [hq]
                rw [List.foldlM_cons, this]; simpa using h1
            · cases h
          | _ => simp [minMax] at h
        | agg ys => simp [minMax] at h
      | _ => simp [minMax] at h
    | _ => simp [minMax] at h
  | [], _ :: _, _, _, _, ha, _, _ => ha.elim
  | _ :: _, [], _, _, _, ha, _, _ => ha.elim

theorem len_slice {t e ty : TypeId} (h : P.underlying t = some (.slice e)) (A : Option Addr) (n c : Nat) : (Builtin.len_ #[t] ty #[.slice A n c]).run P w = .ok (.int .i64 n) w := by
  rw [run_len_slice w t ty A n c (by rw [elem_sl h]; exact h)]; rfl

theorem lenOf_rel {cfg : Cfg} (hT : TTok P cfg.tt) (m : RelP cx nt φ S st a w) {c : C} {v : Value} {t : TypeId} (ty : TypeId) {i : TI} (ht : cfg.ty t = some i) (hc : RelC S w φ st.h c v) {n : Int} (h : lenOf st i c = some n) :
    (Builtin.len_ #[t] ty #[v]).run P w = .ok (.int .i64 n) w := by
  have ok := hT t i ht
  unfold lenOf at h
  split at h
  · rename_i e u l ek
    injection h with h; subst h
    obtain ⟨A, cap, cs, hv, _⟩ := hc
    injection hv with hv _
    subst hv
    exact len_slice (ok.sl ek) A _ _
  · rename_i e u l ek
    injection h with h; subst h
    obtain ⟨⟨A, cap, cs, hv, _⟩, _⟩ := hc
    injection hv with hv _
    subst hv
    exact len_slice (ok.sl ek) A _ _
  · rename_i e ek
    injection h with h; subst h
    have hv : v = .slice none 0 0 := hc
    subst hv
    exact len_slice (ok.sl ek) none 0 0
  · rename_i s ek
    injection h with h; subst h
    have hv : v = .string s := hc
    subst hv
    simp [Builtin.len_, run_underlying (ok.str ek)]; rfl
  · rename_i e k ek
    obtain ⟨_, hv, _⟩ := hc
    have hk := m.m.b k
    split at h
    · rename_i e' u l eh
      injection h with h; subst h
      rw [eh] at hk
      obtain ⟨_, flat, ho, _⟩ := hk
      subst hv
      rcases ho.2 with ⟨h0, hz⟩ | ⟨g, cap, cur, h0, _⟩
      · rw [h0, hz]; exact len_slice (ok.sl ek) none 0 0
      · rw [h0]; exact len_slice (ok.sl ek) _ _ _
    · rename_i e' u l eh
      injection h with h; subst h
      rw [eh] at hk
      obtain ⟨_, flat, cap, _, _, hvv⟩ := hk
      subst hv
      rcases hvv with ⟨h0, hz⟩ | ⟨g, h0, _⟩
      · rw [h0, hz]; exact len_slice (ok.sl ek) none 0 0
      · rw [h0]; exact len_slice (ok.sl ek) _ _ _
    · rename_i e' q l eh
      injection h with h; subst h
      rw [eh] at hk
      obtain ⟨s, F, hφ, ⟨flat, F', _, ho, _⟩, _⟩ := hk
      rw [hφ.1] at hv
      subst hv
      rcases ho.2 with ⟨h0, hz⟩ | ⟨g, cap, cur, h0, _⟩
      · rw [h0, hz]; exact len_slice (ok.sl ek) none 0 0
      · rw [h0]; exact len_slice (ok.sl ek) _ _ _
    · rename_i e' q l qi qc eh
      injection h with h; subst h
      rw [eh] at hk
      obtain ⟨_, g, cap, h0⟩ := opn_value hk
      rw [hv, h0]; exact len_slice (ok.sl ek) _ _ _
    · cases h
  · rename_i e k j sz ek
    obtain ⟨_, A, L, cp, hφ, hi, hv⟩ := hc
    have hk := m.m.b k
    split at h
    · rename_i e' u l eh
      injection h with h; subst h
      rw [eh] at hk
      obtain ⟨_, flat, ho, _⟩ := hk
      have hL : L = l.length := by
        rcases ho.2 with ⟨h0, hz⟩ | ⟨g, cap, cur, h0, _⟩
        · rw [h0] at hφ; injection hφ with _ e2 _; omega
        · rw [h0] at hφ; injection hφ with _ e2 _; exact e2.symm
      subst hL; subst hv
      exact len_slice (ok.sl ek) _ _ _
    · cases h
  · cases h

theorem map_one {α β : Type} {f g : Operand → α} {l : List Operand} {x : α} (h : l.map f = [x]) : ∃ o, l = [o] ∧ f o = x := by
  cases l with
  | nil => cases h
  | cons o r => cases r with
    | nil => injection h with h1; exact ⟨o, rfl, h1⟩
    | cons => injection h with _ h2; cases h2

theorem step_len {cfg : Cfg} (hT : TTok P cfg.tt) (m : RelP cx nt φ S st a w) {o : Oper} {c : Call} (ho : o.op = .call c) (hb : c.callee = .builtin .len) {κ : V → St → Option ρ} {r : ρ} (h : evOp cfg st o κ = some r) : StepR P cx φ S st a w o κ r := by
  obtain ⟨callee, args, argTypes⟩ := c
  simp only at hb; subst hb
  simp only [evOp, ho] at h
  split at h
  · rename_i x t e1 e2
    cases hargs : args.toList with
    | nil => rw [hargs] at e1; cases e1
    | cons y r => cases r with
      | cons => rw [hargs] at e1; injection e1 with _ e1; cases e1
      | nil =>
        rw [hargs] at e1
        injection e1 with e1 _
        have hA : args = #[y] := by cases args; simp_all
        have hTy : argTypes = #[t] := by cases argTypes; simp_all
        subst hA; subst hTy
        split at h
        · rename_i i ei
          split at h
          · rename_i n en
            have hc : RelC S w φ st.h x (a.eval y) := opnd_eq m e1
            have := lenOf_rel hT m o.type ei hc en
            refine StepR.pure (v' := .int .i64 n) m h ?_ rfl
            simp [execOp, ho, resolve, invoke, builtin, this]
          · cases h
        · cases h
  · cases h

theorem run_clear {t e ty : TypeId} (hu : P.underlying t = some (.slice e)) {z : Value} (hz : (zeroValue e).run P w = .ok z w) (hz0 : 0 < z.cells.size) (h1 : ∀ v ∈ z.cells.toList, v.oneCell' = true) {g o n c : Nat} {cur : Array Value} {t0 : TypeId}
    (hg : w.heap[g]? = some (.cells cur t0 (0, 0))) (hfit : o + n * z.cells.size ≤ cur.size) (hn : 0 < n) :
    (Builtin.clear_ #[t] ty #[.slice (some ⟨g, o, none⟩) n c]).run P w = .ok (.tuple #[]) (w.setRow g (cur.toList.take o ++ (List.replicate n z.cells.toList).flatten ++ cur.toList.drop (o + n * z.cells.size)).toArray) := by
  have e1 : (Builtin.zeroCells z.cells n).toList = (List.replicate n z.cells.toList).flatten := madeCells_flat z.cells hz0 n
  have e2 : (List.replicate n z.cells.toList).flatten.length = n * z.cells.size := by simp
  have hst := run_storeCells_at P g o t0 (List.replicate n z.cells.toList).flatten 0 cur w hg (by rw [e2]; omega) (fun v hv => by
    obtain ⟨l, hl, hv⟩ := List.mem_flatten.1 hv
    rw [List.eq_of_mem_replicate hl] at hv
    exact h1 v hv)
  rw [e2, Nat.add_zero, ← e1] at hst
  obtain ⟨k, rfl⟩ : ∃ k, n = k + 1 := ⟨n - 1, by omega⟩
  rw [e1] at hst
  simp [Builtin.clear_, run_underlying hu, hz, e1]
  rw [List.append_assoc] at hst
  simp [hst]

theorem clear_nil {t e ty : TypeId} (hu : P.underlying t = some (.slice e)) (A : Option Addr) (c : Nat) : (Builtin.clear_ #[t] ty #[.slice A 0 c]).run P w = .ok (.tuple #[]) w := by
  cases A <;> simp [Builtin.clear_, run_underlying hu]

theorem clear_sound {cfg : Cfg} (hT : TTok P cfg.tt) {t : TypeId} {i : TI} (ok : TIok P t i) (ty : TypeId) (m : RelH cx φ S st.h w) {x : C} {xv : Value} (hx : RelC S w φ st.h x xv) {κ : V → St → Option ρ} {r : ρ} (h : clearOp cfg st i x κ = some r) :
    ∃ v st' φ' S' v' w', κ v st' = some r ∧ (Builtin.clear_ #[t] ty #[xv]).run P w = .ok v' w' ∧ RelH cx φ' S' st'.h w' ∧ st'.t = st.t ∧ Later S S' w w' φ φ' st.h st'.h ∧ RelV S' w' φ' st'.h v v' := by
  unfold clearOp at h
  split at h
  · rename_i e n j sz ek
    obtain ⟨hlive, A, L, cp, hφ, hi, hv⟩ := hx
    have hn := m.b n
    split at h
    · rename_i ie e0 u l hie eh
      rw [eh] at hn
      split at h
      · rename_i hb hue hz
        have := Nat.eq_of_beq_eq_true hb; subst this
        split at hue
        · rename_i hue'
          split at h
          · rename_i z hzd
            have oke := hT e ie hie
            obtain ⟨zv, hzr, hza, hzs⟩ := run_zero oke (Nat.eq_of_beq_eq_true hz) S w φ st.h
            have hzrep : Rep S w u z zv.cells.toList := rep_datum m.b (fun _ h => h) hza hzd fun k hk _ => by rw [zero_rows oke (Nat.eq_of_beq_eq_true hz)] at hk; cases hk
            have hzlen : zv.cells.size = u.n := by rw [← hzrep.length, Array.length_toList]
            obtain ⟨hun, flat, ho, hfl, hok⟩ := hn
            have hu := ok.sl ek
            by_cases hlt : j < l.length
            · rcases ho.2 with ⟨h0, h1⟩ | ⟨g, cap, cur, hφ', _, hh, hcl, hcm, hcs, htk⟩
              · omega
              · rw [hφ'] at hφ
                injection hφ with e1 e2 e3
                subst e1; subst e2; subst e3
                rw [if_neg (show ¬ cap = j by omega)] at hv
                have hv : xv = .slice (some ⟨g, j * u.n, none⟩) (l.length - j) (cap - j) := by rw [hv]; simp [add_at]
                subst hv
                have hle : l.length * u.n ≤ cur.size := by rw [hcs]; exact Nat.mul_le_mul_right _ hcl
                have hjn : j * u.n + (l.length - j) * u.n = l.length * u.n := by rw [← Nat.add_mul]; congr 1; omega
                have hrun := run_clear (P := P) (w := w) (ty := ty) hu hzr (by omega) hzrep.one hh (o := j * u.n) (n := l.length - j) (c := cap - j) (by rw [hzlen]; omega) (by omega)
                rw [hzlen, hjn] at hrun
                generalize hnew : (cur.toList.take (j * u.n) ++ (List.replicate (l.length - j) zv.cells.toList).flatten ++ cur.toList.drop (l.length * u.n)).toArray = nv at hrun
                have hnv : nv.toList = cur.toList.take (j * u.n) ++ (List.replicate (l.length - j) zv.cells.toList).flatten ++ cur.toList.drop (l.length * u.n) := by rw [← hnew]
                have hsplit : RepL (Rep S w u) (l.take j ++ l.drop j) flat := by rw [List.take_append_drop]; exact hfl
                obtain ⟨f1, f2, rfl, r1, r2⟩ := hsplit.split
                have hf1 : f1.length = j * u.n := by rw [r1.length, List.length_take, Nat.min_eq_left (by omega)]
                have htk1 : cur.toList.take (j * u.n) = f1 := by
                  have h6 : (cur.toList.take (l.length * u.n)).take (j * u.n) = f1 := by rw [htk, ← hf1, List.take_left]
                  rw [List.take_take, Nat.min_eq_left (by omega)] at h6
                  exact h6
                rw [htk1] at hnv
                have hfill : (List.replicate (l.length - j) zv.cells.toList).flatten.length = (l.length - j) * u.n := by simp [hzlen]
                obtain ⟨g1, g2, g3, g4, g5⟩ := setRow_facts w g nv
                have hmut : (st.h n).mut = true := by rw [eh]; rfl
                have hbk : Bk (φ n) g := by rw [hφ']; exact bk_slice.2 rfl
                have hkeep : ∀ g', g' < w.heap.size → (∀ n', some n = some n' → ¬ Bk (φ n') g') → (w.setRow g nv).heap[g']? = w.heap[g']? := fun g' _ hne => g5 g' fun eg => hne n rfl (by rw [eg]; exact hbk)
                have hlat := Later.of_change m (w' := w.setRow g nv) (some n) (fun k hk => by cases hk; exact hmut) hkeep n (.row e0 u (clearFrom l j z)) (φ n) rfl (.inl ⟨rfl, rfl⟩)
                have hkS : ∀ g', S g' → (w.setRow g nv).heap[g']? = w.heap[g']? := hlat.k
                have hlen' : (clearFrom l j z).length = l.length := by simp [clearFrom]; omega
                have hm' := m.change (w' := w.setRow g nv) g1 g2 g3 (Nat.le_of_eq g4.symm) (some n) (fun k hk => by cases hk; exact hmut) hkeep n (.row e0 u (clearFrom l j z)) (φ n) rfl (.inl ⟨rfl, rfl⟩)
                  (fun g' hg => .inl ⟨n, rfl, hg⟩) (fun h' hh' => by
                    refine ⟨hun, f1 ++ (List.replicate (l.length - j) zv.cells.toList).flatten, ⟨?_, .inr ⟨g, cap, nv, ?_, Nat.zero_le _, setRow_heap w g cur nv e0 (0, 0) hh, ?_, hcm, ?_, ?_⟩⟩, ?_, hok⟩
                    · rw [List.length_append, hfill, hf1, hlen']; exact hjn
                    · rw [hφ', hlen']
                    · rw [hlen']; exact hcl
                    · have e4 : nv.size = cur.size := by
                        have e5 := congrArg List.length hnv
                        simp only [List.length_append, hfill, hf1, Array.length_toList, List.length_drop] at e5
                        omega
                      rw [e4, hcs]
                    · rw [hnv, hlen']
                      have : (f1 ++ (List.replicate (l.length - j) zv.cells.toList).flatten).length = l.length * u.n := by rw [List.length_append, hfill, hf1]; exact hjn
                      rw [← this]
                      exact List.take_left
                    · have hmono : ∀ (q : El u) (vs : List Value), Rep S w u q vs → Rep S (w.setRow g nv) u q vs := fun q vs hq => Rep.mono (fun _ h => h) hkS hq
                      exact (r1.mono hmono).append ((repL_replicate hzrep _).mono hmono))
                rw [show giveUp st.h (some n) = upd st.h n .gone from rfl, upd_upd, upd_self] at hm' hlat
                exact ⟨_, _, φ, S, .tuple #[], _, h, hrun, hm', rfl, hlat, #[], rfl, trivial⟩
            · have hjl : j = l.length := by
                have : L = l.length := by
                  rcases ho.2 with ⟨h0, hz⟩ | ⟨g, cap, cur, h0, _⟩
                  · rw [h0] at hφ; injection hφ with _ e2 _; omega
                  · rw [h0] at hφ; injection hφ with _ e2 _; exact e2.symm
                omega
              have hL : L - j = 0 := by
                have : L = l.length := by
                  rcases ho.2 with ⟨h0, hz⟩ | ⟨g, cap, cur, h0, _⟩
                  · rw [h0] at hφ; injection hφ with _ e2 _; omega
                  · rw [h0] at hφ; injection hφ with _ e2 _; exact e2.symm
                omega
              have hsame : upd st.h n (.row e0 u (clearFrom l j z)) = st.h := by
                have : clearFrom l j z = l := by subst hjl; simp [clearFrom]
                rw [this, ← eh]; exact upd_self _ _
              rw [hsame] at h
              refine ⟨_, _, φ, S, .tuple #[], w, h, ?_, m, rfl, Later.refl _ _ _ _, #[], rfl, trivial⟩
              rw [hv, hL]
              exact clear_nil hu _ _
          · cases h
        · cases hue
      · cases h
    · cases h
  · cases h

theorem step_clear {cfg : Cfg} (hT : TTok P cfg.tt) (m : RelP cx nt φ S st a w) {o : Oper} {c : Call} (ho : o.op = .call c) (hb : c.callee = .builtin .clear) {κ : V → St → Option ρ} {r : ρ} (h : evOp cfg st o κ = some r) : StepR P cx φ S st a w o κ r := by
  obtain ⟨callee, args, argTypes⟩ := c
  simp only at hb; subst hb
  simp only [evOp, ho] at h
  split at h
  · rename_i x t e1 e2
    cases hargs : args.toList with
    | nil => rw [hargs] at e1; cases e1
    | cons y r => cases r with
      | cons => rw [hargs] at e1; injection e1 with _ e1; cases e1
      | nil =>
        rw [hargs] at e1
        injection e1 with e1 _
        have hA : args = #[y] := by cases args; simp_all
        have hTy : argTypes = #[t] := by cases argTypes; simp_all
        subst hA; subst hTy
        split at h
        · rename_i i ei
          have hc : RelC S w φ st.h x (a.eval y) := opnd_eq m e1
          obtain ⟨v, st', φ', S', v', w', k1, k2, k3, k4, k5, k6⟩ := clear_sound hT (hT t i ei) o.type m.m hc h
          exact ⟨v, st', φ', S', v', w', k1, .inl (by simp [execOp, ho, resolve, invoke, builtin, k2]), k3, k4, k5, k6⟩
        · cases h
  · cases h

theorem step_append {cfg : Cfg} (hT : TTok P cfg.tt) (m : RelP cx nt φ S st a w) {o : Oper} {c : Call} (ho : o.op = .call c) (hb : c.callee = .builtin .append) {κ : V → St → Option ρ} {r : ρ} (h : evOp cfg st o κ = some r) : StepR P cx φ S st a w o κ r := by
  obtain ⟨callee, args, argTypes⟩ := c
  simp only at hb; subst hb
  simp only [evOp, ho] at h
  split at h
  · rename_i s x t t' e1 e2
    cases hargs : args.toList with
    | nil => rw [hargs] at e1; cases e1
    | cons y r => cases r with
      | nil => rw [hargs] at e1; injection e1 with _ e1; cases e1
      | cons z r => cases r with
        | cons => rw [hargs] at e1; injection e1 with _ e1; injection e1 with _ e1; cases e1
        | nil =>
          rw [hargs] at e1
          injection e1 with e1 e3
          injection e3 with e3 _
          have hA : args = #[y, z] := by cases args; simp_all
          have hTy : argTypes = #[t, t'] := by cases argTypes; simp_all
          subst hA; subst hTy
          split at h
          · rename_i i ei eb
            have eb := Nat.eq_of_beq_eq_true eb
            subst eb
            split at h
            · rename_i el ek
              split at h
              · rename_i ie ee
                split at h
                · rename_i sh esh
                  obtain ⟨v, st', φ', S', v', w', h1, h2, h3, h4, h5, h6⟩ := appendOwn_sound (hT el ie ee) ((hT t i ei).sl ek) o.type m.m (opnd_eq m e1 : RelV S w φ st.h (.v (.c s)) (a.eval y)) (opnd_eq m e3 : RelV S w φ st.h (.v (.c x)) (a.eval z)) h
                  exact ⟨v, st', φ', S', v', w', h1, .inl (by simp [execOp, ho, resolve, invoke, builtin, h2]), h3, h4, h5, h6⟩
                obtain ⟨v, st', φ', S', v', w', h1, h2, h3, h4, h5, h6⟩ := append_sound (hT el ie ee) ((hT t i ei).sl ek) o.type m.m (opnd_eq m e1 : RelV S w φ st.h (.v (.c s)) (a.eval y)) (opnd_eq m e3 : RelV S w φ st.h (.v (.c x)) (a.eval z)) h
                exact ⟨v, st', φ', S', v', w', h1, .inl (by simp [execOp, ho, resolve, invoke, builtin, h2]), h3, h4, h5, h6⟩
              · cases h
            · cases h
          · cases h
  · cases h

theorem step_minMax {cfg : Cfg} (m : RelP cx nt φ S st a w) {o : Oper} {c : Call} (ho : o.op = .call c) (hb : c.callee = .builtin .max ∨ c.callee = .builtin .min) {κ : V → St → Option ρ} {r : ρ} (h : evOp cfg st o κ = some r) : StepR P cx φ S st a w o κ r := by
  obtain ⟨callee, args, argTypes⟩ := c
  simp only at hb
  have hops := opnds_rel m args.toList
  rcases hb with hb | hb
  · subst hb
    simp only [evOp, ho] at h
    split at h
    · rename_i x r' e1
      rw [e1] at hops
      split at h
      · rename_i c' e2
        cases hargs : args.toList.map a.eval with
        | nil => rw [hargs] at hops; exact hops.elim
        | cons y ys =>
          rw [hargs] at hops
          obtain ⟨v, h1, h2⟩ := minMax_rel (P := P) (w := w) hops.2 (show RelC S w φ st.h x y from hops.1) e2
          refine StepR.pure m h ?_ h2
          have e4 : (args.map a.eval).toList = y :: ys := by rw [Array.toList_map]; exact hargs
          simp only [cond_true] at h1
          simp [execOp, ho, resolve, invoke, builtin, Builtin.max_, hargs, h1]
      · cases h
    · cases h
  · subst hb
    simp only [evOp, ho] at h
    split at h
    · rename_i x r' e1
      rw [e1] at hops
      split at h
      · rename_i c' e2
        cases hargs : args.toList.map a.eval with
        | nil => rw [hargs] at hops; exact hops.elim
        | cons y ys =>
          rw [hargs] at hops
          obtain ⟨v, h1, h2⟩ := minMax_rel (P := P) (w := w) hops.2 (show RelC S w φ st.h x y from hops.1) e2
          refine StepR.pure m h ?_ h2
          have e4 : (args.map a.eval).toList = y :: ys := by rw [Array.toList_map]; exact hargs
          simp only [cond_false] at h1
          simp [execOp, ho, resolve, invoke, builtin, Builtin.min_, hargs, h1]
      · cases h
    · cases h

/-- Every operation but a call of a function value. -/
theorem evOp_step {cfg : Cfg} (hT : TTok P cfg.tt) (m : RelP cx nt φ S st a w) (o : Oper) (hcall : ∀ c f, o.op = .call c → c.callee ≠ .value f) {κ : V → St → Option ρ} {r : ρ} (h : evOp cfg st o κ = some r) : StepR P cx φ S st a w o κ r := by
  cases ho : o.op with
  | move x => exact step_move m (.inl ho) h
  | assign x => exact step_move m (.inr ho) h
  | pick c x y => exact step_pick m ho h
  | alloc t => exact step_alloc hT m ho h
  | box t x => exact step_box hT m ho h
  | build t parts => exact step_build hT m ho h
  | buildSlice t len parts => exact step_buildSlice hT m ho h
  | load t x => exact step_load hT m ho h
  | store t x y => exact step_store hT m ho h
  | nilCheck x => exact step_nilCheck m ho h
  | binOp op t x y t' => exact step_bin hT m ho h
  | unOp op t x => exact step_un m ho h
  | convert s d x => exact step_convert hT m ho h
  | fieldAddr t x f => exact step_fieldAddr hT m ho h
  | field t x f => exact step_field hT m ho h
  | indexAddr t x i => exact step_indexAddr hT m ho h
  | index t x i => exact step_index hT m ho h
  | slice t x lo hi mx => cases mx with
    | none => exact step_slice hT m ho h
    | some y => simp [evOp, ho] at h
  | extract x i => exact step_extract m ho h
  | makeFunc f first captured => cases f with
    | func f => exact step_makeFunc m ho h
    | _ => simp [evOp, ho] at h
  | makeSlice t x y => exact step_makeSlice hT m ho h
  | makeMap t x => cases x with
    | none => exact step_makeMap hT m ho h
    | some y => simp [evOp, ho] at h
  | lookup t x y cm => exact step_lookup hT m ho h
  | mapUpdate t x y z => exact step_mapUpdate hT m ho h
  | mapEntry t x y => exact step_mapEntry hT m ho h
  | entryStore t x y z => exact step_entryStore hT m ho h
  | call c => cases hc : c.callee with
    | value f => exact absurd hc (hcall c f ho)
    | invoke x n => simp [evOp, ho, hc] at h
    | builtin b => cases b with
      | len => exact step_len hT m ho hc h
      | append => exact step_append hT m ho hc h
      | max => exact step_minMax m ho (.inl hc) h
      | min => exact step_minMax m ho (.inr hc) h
      | clear => exact step_clear hT m ho hc h
      | _ => simp [evOp, ho, hc] at h
  | _ => simp [evOp, ho] at h
end
end Go.Proofs.YtkimeoknckohfaaDoor.R1
