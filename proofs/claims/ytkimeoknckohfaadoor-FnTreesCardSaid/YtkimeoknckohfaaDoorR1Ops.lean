/- The operations' soundness: types, loads, stores, new blocks. -/
import Derived.Test.YtkimeoknckohfaaDoorR1OwnEl
namespace Go.Proofs.YtkimeoknckohfaaDoor.R1
variable {P : Program}

structure Later (S S' : Nat → Prop) (w w' : World) (φ φ' : Nat → Value) (h h' : Nat → B) : Prop where
  s : ∀ g, S g → S' g
  k : ∀ g, S g → w'.heap[g]? = w.heap[g]?
  l : ∀ n, (h n).live = true → (h' n).live = true ∧ pv (φ' n) = pv (φ n)

theorem Later.refl (S : Nat → Prop) (w : World) (φ : Nat → Value) (h : Nat → B) : Later S S w w φ φ h h := ⟨fun _ h => h, fun _ _ => rfl, fun _ h => ⟨h, rfl⟩⟩

theorem Later.trans {S1 S2 S3 : Nat → Prop} {w1 w2 w3 : World} {φ1 φ2 φ3 : Nat → Value} {h1 h2 h3 : Nat → B} (a : Later S1 S2 w1 w2 φ1 φ2 h1 h2) (b : Later S2 S3 w2 w3 φ2 φ3 h2 h3) : Later S1 S3 w1 w3 φ1 φ3 h1 h3 :=
  ⟨fun g hg => b.s g (a.s g hg), fun g hg => (b.k g (a.s g hg)).trans (a.k g hg), fun n hn => ⟨(b.l n (a.l n hn).1).1, (b.l n (a.l n hn).1).2.trans (a.l n hn).2⟩⟩

theorem Later.relV {S S' : Nat → Prop} {w w' : World} {φ φ' : Nat → Value} {h h' : Nat → B} (l : Later S S' w w' φ φ' h h') {x : V} {v : Value} (hr : RelV S w φ h x v) : RelV S' w' φ' h' x v := hr.mono l.s l.k l.l
theorem Later.relC {S S' : Nat → Prop} {w w' : World} {φ φ' : Nat → Value} {h h' : Nat → B} (l : Later S S' w w' φ φ' h h') {x : C} {v : Value} (hr : RelC S w φ h x v) : RelC S' w' φ' h' x v := hr.mono l.s l.k l.l

/-! ### Types -/
def KindOk (P : Program) : TypeDesc → TK → Prop
  | .int k, .int k' => k = k'
  | .bool, .bool => True
  | .string, .str => True
  | .struct fields, .struct fs => fields.toList.map (fun f => (f.offset, f.type)) = fs ∧ ∀ f ∈ fields.toList, ∃ i, P.info? f.type = some i ∧ i.size ≠ 0
  | .array n e, .arr n' e' => n = n' ∧ e = e'
  | .slice e, .sl e' => e = e'
  | .pointer e, .ptr e' => e = e'
  | .func .., .func => True
  | .map k e, .map k' e' => k = k' ∧ e = e'
  | d, .other => match d with
    | .struct _ | .array .. => False
    | _ => True
  | _, _ => False

def isA : Value → Bool
  | .agg _ => true
  | _ => false

structure TIok (P : Program) (t : TypeId) (i : TI) : Prop where
  und : ∃ d, P.underlying t = some d ∧ KindOk P d i.k
  info : ∃ inf z, P.info? t = some inf ∧ inf.size = i.size ∧ inf.bytes = i.bytes ∧ inf.zero = some z ∧ z.cells.size = i.size ∧ (i.zero.length = i.size → ofCellList z.cells.toList = some i.zero)
  u : 0 < i.u.n → i.u.n = i.size ∧ 0 < i.bytes
  eq : i.eq = true → P.stoodInHeld t = false ∧ P.eqGuardType P.depth t = false ∧ ∀ d, P.underlying t = some d → match d with
    | .struct fields => ∀ f ∈ fields.toList, f.name ≠ "_"
    | _ => True
  zagg : ∀ inf z, P.info? t = some inf → inf.zero = some z → isA z = i.agg

def TTok (P : Program) (tt : TT) : Prop := ∀ t i, assoc tt t = some i → TIok P t i

theorem TIok.run_size {t : TypeId} {i : TI} (ok : TIok P t i) (w : World) : (sizeOf t).run P w = .ok i.size w := by
  obtain ⟨inf, z, h1, h2, _⟩ := ok.info
  simp [sizeOf, typeInfo, h1, h2]

theorem TIok.run_agg {t : TypeId} {i : TI} (ok : TIok P t i) (w : World) : (isAgg t).run P w = .ok i.agg w := by
  obtain ⟨d, h1, h2⟩ := ok.und
  simp only [isAgg, Sem.run_bind, run_underlying h1, Result.andThen_ok]
  cases d <;> cases hk : i.k <;> rw [hk] at h2 <;> simp [KindOk] at h2 <;> simp [TI.agg, hk]

theorem take?_some {off n : Nat} {cs cs' : List C} (h : take? off n cs = some cs') : off + n ≤ cs.length ∧ cs' = (cs.drop off).take n := by
  unfold take? at h
  cases e : Nat.ble (off + n) cs.length with
  | true => rw [e] at h; simp at h; exact ⟨Nat.le_of_ble_eq_true e, h.symm⟩
  | false => rw [e] at h; simp at h

theorem splice_some {off : Nat} {new cs cs' : List C} (h : splice off new cs = some cs') : off + new.length ≤ cs.length ∧ cs' = cs.take off ++ new ++ cs.drop (off + new.length) := by
  unfold splice at h
  cases e : Nat.ble (off + new.length) cs.length with
  | true => rw [e] at h; simp at h; exact ⟨Nat.le_of_ble_eq_true e, by simp [← h]⟩
  | false => rw [e] at h; simp at h

section
variable {S : Nat → Prop} {w : World} {φ : Nat → Value} {h : Nat → B}

theorem ble_self (n : Nat) : Nat.ble n n = true := by rw [Nat.ble_eq]; exact Nat.le_refl n

theorem load_cells {t : TypeId} {i : TI} (ok : TIok P t i) {a : Addr} {vs : List Value} {off : Nat} {cs cs' : List C} {v : V} (hm : Mem w a vs) (ha : All2 (RelC S w φ h) cs vs)
    (ht : take? off i.size cs = some cs') (hv : asV i.agg cs' = some v) : ∃ v', (Instr.loadAt t (.pointer (some (a.add off)))).run P w = .ok v' w ∧ RelV S w φ h v v' := by
  obtain ⟨hle, rfl⟩ := take?_some ht
  have ha' := (ha.drop off).take i.size
  have hm' : Mem w (a.add off) ((vs.drop off).take i.size) := (hm.drop off).take _
  have hl : ((vs.drop off).take i.size).length = i.size := by rw [← ha'.length]; simp; omega
  generalize (cs.drop off).take i.size = cs' at *
  generalize (vs.drop off).take i.size = vs' at *
  simp only [Instr.loadAt, Instr.sureAddr, loadVar, Sem.run_bind, Sem.run_pure, Result.andThen_ok, ok.run_agg]
  cases hag : i.agg with
  | true =>
    rw [hag] at hv
    simp [asV] at hv
    subst hv
    have hr := run_loadCells_list (P := P) w (a.add off) vs' hm'
    rw [hl] at hr
    simp [ok.run_size, hr]
    exact ⟨_, rfl, by simpa using ha'⟩
  | false =>
    rw [hag] at hv
    cases cs' with
    | nil => simp [asV] at hv
    | cons c r => cases r with
      | cons => simp [asV] at hv
      | nil =>
        simp [asV] at hv
        subst hv
        cases vs' with
        | nil => exact ha'.elim
        | cons x r => cases r with
          | cons => exact ha'.2.elim
          | nil =>
            have := hm' 0 x rfl
            rw [add_zero] at this
            simp [this]
            exact ha'.1

theorem row_cells {ok : Nat → Prop} {n j : Nat} {e : Nat} {u : U} {l : List (El u)} {x : El u} {g : Nat} (hb : RelB S w φ h ok (φ n) (.row e u l)) (hg : blk (pv (φ n)) = some g) (hx : l[j]? = some x) :
    ∃ vs, Rep S w u x vs ∧ Mem w ⟨g, j * u.n, none⟩ vs := by
  rw [pv_row hb] at hg
  obtain ⟨_, flat, ho, hl, _⟩ := hb
  obtain ⟨v1, v2, v3, rfl, h1, h2, _⟩ := hl.at hx
  refine ⟨v2, h2, ?_⟩
  have hm : Mem w ⟨g, 0, none⟩ (v1 ++ (v2 ++ v3)) := ho.cells (by rw [← blk_eq_ownBlock ho]; exact hg)
  have := hm.part.2.part.1
  rw [add_at, h1, Nat.zero_add] at this
  exact this

theorem ro_cells {ok : Nat → Prop} {n j : Nat} {e : Nat} {u : U} {l : List (El u)} {x : El u} {g : Nat} (hb : RelB S w φ h ok (φ n) (.ro e u l)) (hg : blk (pv (φ n)) = some g) (hx : l[j]? = some x) :
    ∃ vs, Rep S w u x vs ∧ Mem w ⟨g, j * u.n, none⟩ vs := by
  obtain ⟨_, flat, cap, hl, _, hv⟩ := hb
  obtain ⟨v1, v2, v3, rfl, h1, h2, _⟩ := hl.at hx
  refine ⟨v2, h2, ?_⟩
  rcases hv with ⟨hv, _⟩ | ⟨g', hv, hm, _⟩
  · rw [hv] at hg; cases hg
  · rw [hv] at hg; cases hg
    have := hm.part.2.part.1
    rw [add_at, h1, Nat.zero_add] at this
    exact this

theorem load_sound {ρ : Type} {cx : Cx} {st : St} {t : TypeId} {i : TI} (ok : TIok P t i) (m : RelH cx φ S st.h w) {a : C} {av : Value} (hr : RelC S w φ st.h a av) {κ : V → Option ρ} {r : ρ} (hl : load st i a κ = some r) :
    ∃ v v', κ v = some r ∧ (Instr.loadAt t av).run P w = .ok v' w ∧ RelV S w φ st.h v v' := by
  unfold load at hl
  cases a with
  | ptr n j sz off =>
    obtain ⟨_, g, hg, rfl⟩ := hr
    have hn := m.b n
    simp only at hl
    split at hl
    · rename_i t' cs e
      rw [e] at hn
      obtain ⟨g', vals, hφ, hh, ha, _⟩ := hn
      rw [hφ] at hg; cases hg
      split at hl
      · rename_i cs' ht
        split at hl
        · rename_i v hv
          have hm : Mem w ⟨g', 0, none⟩ vals.toList := fun q x hx => by
            rw [add_at, cell_of_row w g' _ vals t' (0, 0) hh]; simpa using hx
          obtain ⟨v', h1, h2⟩ := load_cells ok hm ha ht hv
          rw [add_at] at h1
          exact ⟨v, v', hl, by simpa using h1, h2⟩
        · cases hl
      · cases hl
    · rename_i e0 u l e
      rw [e] at hn
      cases hsz : Nat.beq sz u.n with
      | false => rw [hsz] at hl; cases hl
      | true =>
        have := Nat.eq_of_beq_eq_true hsz; subst this
        rw [hsz] at hl
        simp only [cond_true] at hl
        obtain ⟨x, hx, hl⟩ := Option.bind_eq_some_iff.1 hl
        obtain ⟨vs, hrep, hm⟩ := row_cells hn hg hx
        split at hl
        · rename_i cs ht
          split at hl
          · rename_i v hv
            obtain ⟨v', h1, h2⟩ := load_cells ok hm (relC_toCells hrep) ht hv
            rw [add_at] at h1
            exact ⟨v, v', hl, h1, h2⟩
          · cases hl
        · cases hl
    · rename_i e0 u l e
      rw [e] at hn
      cases hsz : Nat.beq sz u.n with
      | false => rw [hsz] at hl; cases hl
      | true =>
        have := Nat.eq_of_beq_eq_true hsz; subst this
        rw [hsz] at hl
        simp only [cond_true] at hl
        obtain ⟨x, hx, hl⟩ := Option.bind_eq_some_iff.1 hl
        obtain ⟨vs, hrep, hm⟩ := ro_cells hn hg hx
        split at hl
        · rename_i cs ht
          split at hl
          · rename_i v hv
            obtain ⟨v', h1, h2⟩ := load_cells ok hm (relC_toCells hrep) ht hv
            rw [add_at] at h1
            exact ⟨v, v', hl, h1, h2⟩
          · cases hl
        · cases hl
    · rename_i e0 o l e
      rw [e] at hn
      obtain ⟨s, F, hφ, ⟨flat, F', hun, how, hol, hF⟩, _, _⟩ := hn
      rw [hφ.1] at hg
      cases hsz : Nat.beq sz o.u.n && o.plain off i.size with
      | false => rw [hsz] at hl; cases hl
      | true =>
        rw [hsz] at hl
        rw [Bool.and_eq_true] at hsz
        have := Nat.eq_of_beq_eq_true hsz.1; subst this
        simp only [cond_true] at hl
        obtain ⟨x, hx, hl⟩ := Option.bind_eq_some_iff.1 hl
        split at hl
        · rename_i cs ht
          split at hl
          · rename_i v hv
            obtain ⟨v1, v2, v3, F1, F2, F3, rfl, _, hl1, hrep, _, _⟩ := hol.at hx
            have hm : Mem w ⟨g, 0, none⟩ (v1 ++ (v2 ++ v3)) := how.cells (by rw [← blk_eq_ownBlock how]; exact hg)
            have hm := hm.part.2.part.1
            rw [add_at, hl1, Nat.zero_add] at hm
            have hm := (hm.drop off).take i.size
            rw [add_at] at hm
            obtain ⟨hle, rfl⟩ := take?_some ht
            have hlen : (((toCells o.u x).drop off).take i.size).length = i.size := by simp only [List.length_take, List.length_drop]; omega
            obtain ⟨v', h1, h2⟩ := load_cells (off := 0) ok hm (hrep.cells hsz.2) (by unfold take?; rw [hlen, Nat.zero_add, ble_self]; simp only [cond_true, List.drop_zero]; rw [List.take_of_length_le (by omega)]) hv
            rw [add_zero] at h1
            exact ⟨v, v', hl, h1, h2⟩
          · cases hl
        · cases hl
    · rename_i e0 o l k cs e
      rw [e] at hn
      obtain ⟨s, F, v1, v2, v3, F1, F3, hφ, hun, hi, how, ho1, hcs, hv2, _⟩ := hn
      rw [hφ, pv_ghost] at hg
      cases hsz : Nat.beq sz o.u.n && Nat.beq j k with
      | false => rw [hsz] at hl; cases hl
      | true =>
        rw [hsz] at hl
        rw [Bool.and_eq_true] at hsz
        have := Nat.eq_of_beq_eq_true hsz.1; subst this
        have := Nat.eq_of_beq_eq_true hsz.2; subst this
        simp only [cond_true] at hl
        split at hl
        · rename_i cs' ht
          split at hl
          · rename_i v hv
            have hm : Mem w ⟨g, 0, none⟩ (v1 ++ (v2 ++ v3)) := how.cells (by rw [← blk_eq_ownBlock how]; exact hg)
            have hm := hm.part.2.part.1
            have hl1 : v1.length = j * o.u.n := by
              have := ho1.length
              rw [this, List.length_take, Nat.min_eq_left (Nat.le_of_lt hi)]
            rw [add_at, hl1, Nat.zero_add] at hm
            obtain ⟨v', h1, h2⟩ := load_cells ok hm hcs ht hv
            rw [add_at] at h1
            exact ⟨v, v', hl, h1, h2⟩
          · cases hl
        · cases hl
    · cases hl
  | dptr u x off =>
    obtain ⟨b, cs, rfl, hrep, hm, _⟩ := hr
    simp only at hl
    split at hl
    · rename_i cs' ht
      split at hl
      · rename_i v hv
        obtain ⟨v', h1, h2⟩ := load_cells ok hm (relC_toCells hrep) ht hv
        exact ⟨v, v', hl, h1, h2⟩
      · cases hl
    · cases hl
  | _ => cases hl

theorem freeN_spec {h : Nat → B} : ∀ {m k : Nat}, freeN h k m = true → ∀ n, k ≤ n → n < k + m → h n = .free ∧ isKept n = false
  | 0, k, _, n, h1, h2 => by omega
  | m + 1, k, hf, n, h1, h2 => by
    simp only [freeN, Bool.and_eq_true] at hf
    rcases Nat.lt_or_ge k n with q | q
    · exact freeN_spec hf.2 n q (by omega)
    · have : n = k := by omega
      subst this
      have := hf.1
      cases e : h n <;> cases e2 : isKept n <;> rw [e, e2] at this <;> first | exact ⟨rfl, rfl⟩ | cases this

theorem perm_swap3 {α : Type} (a b c : List α) : (a ++ (b ++ c)).Perm (b ++ (a ++ c)) := by
  rw [← List.append_assoc, ← List.append_assoc]
  exact List.Perm.append_right _ List.perm_append_comm

/-- A row's element laid open. -/
theorem RelH.openEl {cx : Cx} (m : RelH cx φ S h w) {n t j k : Nat} {o : O} {l : List (El o.u)} {x : El o.u} (e : h n = .own t o l) (hx : l[j]? = some x) (hf : freeN h k o.rows = true) :
    ∃ φ', RelH cx φ' S (openB o x k (upd h n (.opn t o l j (openC o x k)))) w ∧ Later S S w w φ φ' h (openB o x k (upd h n (.opn t o l j (openC o x k)))) := by
  have hn := m.b n
  rw [e] at hn
  obtain ⟨s, F, hφ, ⟨flat, F', hun, how, hol, hF⟩, hnd, hok⟩ := hn
  obtain ⟨v1, v2, v3, F1, F2, F3, rfl, hF', hl1, hrep, ht, hd⟩ := hol.at hx
  subst hF'
  obtain ⟨ψ, hψ⟩ := hrep.opened k
  have hfr := freeN_spec hf
  have hnk : n < k ∨ k + o.rows ≤ n := by
    rcases Nat.lt_or_ge n k with q | q
    · exact .inl q
    · rcases Nat.lt_or_ge n (k + o.rows) with p | p
      · have := (hfr n q p).1; rw [e] at this; cases this
      · exact .inr p
  have hjl : j < l.length := by
    rcases Nat.lt_or_ge j l.length with q | q
    · exact q
    · rw [List.getElem?_eq_none q] at hx; cases hx
  have hperm : F.Perm (F2 ++ ((blk s).toList ++ (F1 ++ F3))) := by
    rw [hF]
    exact (List.Perm.append_left _ (perm_swap3 F1 F2 F3)).trans (perm_swap3 _ _ _)
  have hnd2 := hperm.nodup_iff.1 hnd
  have hnd3 := List.nodup_append.1 hnd2
  have inF : ∀ g, g ∈ F2 → g ∈ F := fun g hg => hperm.mem_iff.2 (List.mem_append.2 (.inl hg))
  have inF' : ∀ g, g ∈ (blk s).toList ++ (F1 ++ F3) → g ∈ F := fun g hg => hperm.mem_iff.2 (List.mem_append.2 (.inr hg))
  generalize hh' : openB o x k (upd h n (.opn t o l j (openC o x k))) = h'
  have hout : ∀ i, (i < k ∨ k + o.rows ≤ i) → i ≠ n → h' i = h i := fun i hi hne => by rw [← hh', openB_out hi, upd_ne _ _ hne]
  have hat : h' n = .opn t o l j (openC o x k) := by rw [← hh', openB_out hnk, upd_same]
  let φ' : Nat → Value := fun i => if k ≤ i ∧ i < k + o.rows then ψ i else if i = n then ghost s ((blk s).toList ++ (F1 ++ F3)) else φ i
  have φin : ∀ i, k ≤ i → i < k + o.rows → φ' i = ψ i := fun i h1 h2 => if_pos ⟨h1, h2⟩
  have φn : φ' n = ghost s ((blk s).toList ++ (F1 ++ F3)) := by
    show (if _ then _ else _) = _
    rw [if_neg (by omega), if_pos rfl]
  have φout : ∀ i, (i < k ∨ k + o.rows ≤ i) → i ≠ n → φ' i = φ i := fun i h1 h2 => by
    show (if _ then _ else _) = _
    rw [if_neg (by omega), if_neg h2]
  have mutin : ∀ i, k ≤ i → i < k + o.rows → (h' i).mut = true := fun i h1 h2 => by rw [← hh']; exact openB_mut h1 h2
  have live : ∀ i, (h i).live = true → (h' i).live = true ∧ pv (φ' i) = pv (φ i) := by
    intro i hi
    have hio : i < k ∨ k + o.rows ≤ i := by
      rcases Nat.lt_or_ge i k with q | q
      · exact .inl q
      · rcases Nat.lt_or_ge i (k + o.rows) with p | p
        · rw [(hfr i q p).1] at hi; cases hi
        · exact .inr p
    by_cases en : i = n
    · subst en; rw [hat, φn, hφ.1, pv_ghost]; exact ⟨rfl, rfl⟩
    · rw [hout i hio en, φout i hio en]; exact ⟨hi, rfl⟩
  have hinn : ∀ i, k ≤ i ∧ i < k + o.rows ∨ i = n → (h' i).mut = true → ∀ g, Bk (φ' i) g → g ∈ F := by
    rintro i (⟨h1, h2⟩ | rfl) _ g hg
    · rw [φin i h1 h2] at hg
      exact inF g ((hψ.rel (φ := φ) (h := h) (ok := fun _ => True) hnd3.1 (fun _ _ => trivial) (h0 := h) h1 h2).2 g hg)
    · rw [φn] at hg; unfold Bk at hg; rw [pf_ghost] at hg; exact inF' g hg
  refine ⟨φ', m.regroup (fun i => k ≤ i ∧ i < k + o.rows ∨ i = n) ?_ live ?_ ?_ ?_ ?_ ?_, ⟨fun _ h => h, fun _ _ => rfl, live⟩⟩
  · intro i hi
    have hio : i < k ∨ k + o.rows ≤ i := by
      rcases Nat.lt_or_ge i k with q | q
      · exact .inl q
      · rcases Nat.lt_or_ge i (k + o.rows) with p | p
        · exact absurd (.inl ⟨q, p⟩) hi
        · exact .inr p
    have hin : i ≠ n := fun e => hi (.inr e)
    exact ⟨hout i hio hin, φout i hio hin⟩
  · rintro i (⟨h1, h2⟩ | rfl)
    · rw [φin i h1 h2, ← hh']
      exact (hψ.rel hnd3.1 (fun g hg => hok g (inF g hg)) h1 h2).1
    · rw [φn, hat]
      refine ⟨s, _, v1, v2, v3, F1, F3, rfl, hun, hjl, how, ht, hψ.cells fun i h1 h2 => ⟨φin i h1 h2, live_of_mut (mutin i h1 h2)⟩, hψ.length, hd, rfl, hnd3.2.1, fun g hg => hok g (inF' g hg)⟩
  · intro i g hi hm hb
    exact ⟨n, .inr rfl, by rw [e]; rfl, by unfold Bk; rw [hφ.2]; exact hinn i hi hm g hb⟩
  · rintro i i' g hlt h1 h2 h3 h4 hb1 hb2
    have key : ∀ i, k ≤ i → i < k + o.rows → Bk (φ' i) g → g ∈ F2 := fun i h1 h2 hg => by
      rw [φin i h1 h2] at hg
      exact (hψ.rel (φ := φ) (h := h) (ok := fun _ => True) hnd3.1 (fun _ _ => trivial) (h0 := h) h1 h2).2 g hg
    have keyn : Bk (φ' n) g → g ∈ (blk s).toList ++ (F1 ++ F3) := fun hg => by rw [φn] at hg; unfold Bk at hg; rwa [pf_ghost] at hg
    rcases h1 with ⟨p1, p2⟩ | rfl
    · rcases h2 with ⟨q1, q2⟩ | rfl
      · rw [φin i p1 p2] at hb1; rw [φin i' q1 q2] at hb2
        exact hψ.apart hnd3.1 hlt p1 q2 hb1 hb2
      · exact hnd3.2.2 g (key i p1 p2 hb1) g (keyn hb2) rfl
    · rcases h2 with ⟨q1, q2⟩ | rfl
      · exact hnd3.2.2 g (key i' q1 q2 hb2) g (keyn hb1) rfl
      · omega
  · rintro i (⟨h1, h2⟩ | rfl)
    · exact kept_glob (hfr i h1 h2).2
    · cases hg : isGlob i with
      | false => rfl
      | true => have := (m.gl i hg).2; rw [e] at this; cases this
  · rintro i (⟨h1, h2⟩ | rfl) hk
    · rw [(hfr i h1 h2).2] at hk; cases hk
    · rw [e]; rfl

theorem openLoad_sound {ρ : Type} {cx : Cx} {st : St} {t : TypeId} {i : TI} (ok : TIok P t i) (m : RelH cx φ S st.h w) {a : C} {av : Value} (hr : RelC S w φ st.h a av) {d : Nat} {κ : V → St → Option ρ} {r : ρ} (hl : openLoad st i a d κ = some r) :
    ∃ v v' φ' h', κ v { st with h := h' } = some r ∧ (Instr.loadAt t av).run P w = .ok v' w ∧ RelH cx φ' S h' w ∧ Later S S w w φ φ' st.h h' ∧ RelV S w φ' h' v v' := by
  have plain : ∀ {a : C} {av : Value}, RelC S w φ st.h a av → (load st i a fun v => κ v st) = some r → ∃ v v' φ' h', κ v { st with h := h' } = some r ∧ (Instr.loadAt t av).run P w = .ok v' w ∧ RelH cx φ' S h' w ∧ Later S S w w φ φ' st.h h' ∧ RelV S w φ' h' v v' := by
    intro a av hr hl
    obtain ⟨v, v', h1, h2, h3⟩ := load_sound ok m hr hl
    exact ⟨v, v', φ, st.h, h1, h2, m, Later.refl _ _ _ _, h3⟩
  unfold openLoad at hl
  split at hl
  · rename_i n j sz off
    split at hl
    · rename_i t0 o l e
      split at hl
      · rename_i hc hf
        rw [Bool.and_eq_true] at hc
        have := Nat.eq_of_beq_eq_true hc.1; subst this
        obtain ⟨x, hx, hl⟩ := Option.bind_eq_some_iff.1 hl
        obtain ⟨φ', m', lat⟩ := m.openEl e hx hf
        have hr' := lat.relC hr
        generalize hh : openB o x (2000000 + d * 100) (upd st.h n (.opn t0 o l j (openC o x (2000000 + d * 100)))) = h' at *
        have hn : h' n = .opn t0 o l j (openC o x (2000000 + d * 100)) := by
          rw [← hh, openB_out, upd_same]
          rcases Nat.lt_or_ge n (2000000 + d * 100) with q | q
          · exact .inl q
          · rcases Nat.lt_or_ge n (2000000 + d * 100 + o.rows) with p | p
            · have := (freeN_spec hf n q p).1; rw [e] at this; cases this
            · exact .inr p
        have hlo : load (⟨st.t, h'⟩ : St) i (.ptr n j o.u.n off) (fun v => κ v { st with h := h' }) = some r := by
          unfold load
          simp only [hn, Nat.beq_refl, Bool.and_self, cond_true]
          exact hl
        obtain ⟨v, v', h1, h2, h3⟩ := load_sound (st := ⟨st.t, h'⟩) ok m' hr' hlo
        exact ⟨v, v', φ', h', h1, h2, m', lat, h3⟩
      · cases hl
    · exact plain hr hl
  · exact plain hr hl

theorem rowsIn_all2 {cs : List C} : ∀ {new : List C}, (∀ n ∈ rowsIn new, n ∈ rowsIn cs) → True := fun _ => trivial

theorem rowsIn_append : ∀ (a b : List C), rowsIn (a ++ b) = rowsIn a ++ rowsIn b
  | [], _ => rfl
  | c :: a, b => by cases c <;> simp [rowsIn, rowsIn_append a b]

theorem rowsIn_toCells : ∀ {u : U} {x : El u}, rowsIn (toCells u x) = [] := by
  intro u
  induction u with
  | pair a b iha ihb => intro x; simp [toCells, rowsIn_append, iha, ihb]
  | _ => intro x; rfl

theorem rowsIn_sub_take : ∀ (n : Nat) (a : List C), ∀ k ∈ rowsIn (a.take n), k ∈ rowsIn a
  | 0, _ => by simp [rowsIn]
  | _ + 1, [] => by simp [rowsIn]
  | n + 1, c :: a => by cases c <;> simp [rowsIn] <;> first | exact fun k h => rowsIn_sub_take n a k h | exact fun k h => .inr (rowsIn_sub_take n a k h)

theorem rowsIn_sub_drop : ∀ (n : Nat) (a : List C), ∀ k ∈ rowsIn (a.drop n), k ∈ rowsIn a
  | 0, _ => by simp
  | _ + 1, [] => by simp [rowsIn]
  | n + 1, c :: a => by cases c <;> simp [rowsIn] <;> first | exact fun k h => rowsIn_sub_drop n a k h | exact fun k h => .inr (rowsIn_sub_drop n a k h)

theorem run_storeAt {t : TypeId} {i : TI} (ok : TIok P t i) {g o : Nat} {cur : Array Value} {t0 : TypeId} {vv : Value} (hg : w.heap[g]? = some (.cells cur t0 (0, 0))) (hs : vv.cells.size = i.size) (hfit : o + vv.cells.size ≤ cur.size)
    (h1 : ∀ v ∈ vv.cells.toList, v.oneCell' = true) :
    (Instr.storeAt t (.pointer (some ⟨g, o, none⟩)) vv).run P w = .ok () (w.setRow g (cur.toList.take o ++ vv.cells.toList ++ cur.toList.drop (o + vv.cells.size)).toArray) := by
  have hst := run_storeCells_at P g o t0 vv.cells.toList 0 cur w hg (by simpa using hfit) h1
  simp only [Nat.add_zero, Array.length_toList] at hst
  simp [Instr.storeAt, Instr.sureAddr, storeVar, ok.run_size, hs]
  rw [hs, List.append_assoc] at hst
  exact hst
end

theorem setRow_facts (w : World) (g : Nat) (cs : Array Value) : (w.setRow g cs).os = w.os ∧ (w.setRow g cs).tape = w.tape ∧ (w.setRow g cs).output = w.output ∧ (w.setRow g cs).heap.size = w.heap.size ∧ ∀ k, k ≠ g → (w.setRow g cs).heap[k]? = w.heap[k]? :=
  ⟨rfl, rfl, rfl, by simp, fun k hk => setRow_other w g k cs hk⟩

theorem Later.of_change {cx : Cx} {φ : Nat → Value} {S : Nat → Prop} {h : Nat → B} {w : World} (m : RelH cx φ S h w) {w' : World}
    (old : Option Nat) (hold : ∀ n, old = some n → (h n).mut = true)
    (hb : ∀ g, g < w.heap.size → (∀ n, old = some n → ¬ Bk (φ n) g) → w'.heap[g]? = w.heap[g]?)
    (dst : Nat) (b : B) (v : Value) (hbl : b.live = true) (hfree : old = some dst ∧ pv v = pv (φ dst) ∨ (h dst).live = false ∧ isKept dst = false) :
    Later S S w w' φ (upd φ dst v) h (upd (giveUp h old) dst b) := by
  refine ⟨fun _ h => h, fun g hg => hb g (m.lt g hg) fun n hn hbk => m.sep n g (hold n hn) hbk hg, fun n hn => ?_⟩
  by_cases e : n = dst
  · subst e
    rw [upd_same, upd_same]
    refine ⟨hbl, ?_⟩
    rcases hfree with ⟨_, hv⟩ | ⟨hf, _⟩
    · rw [hv]
    · rw [hf] at hn; cases hn
  · rw [upd_ne _ _ e, upd_ne _ _ e]
    refine ⟨?_, rfl⟩
    cases old with
    | none => exact hn
    | some n0 =>
      by_cases e2 : n = n0
      · subst e2; simp only [giveUp, upd_same]; rfl
      · simp only [giveUp, upd_ne _ _ e2]; exact hn

theorem Later.of_freeze {φ : Nat → Value} {S S' : Nat → Prop} {h : Nat → B} {w : World} (hS : ∀ g, S g → S' g) (ns : List Nat) : Later S S' w w φ φ h (freezeAll h ns) :=
  ⟨hS, fun _ _ => rfl, fun n hn => ⟨by rw [freezeAll_live]; exact hn, rfl⟩⟩

theorem set_middle {α : Type} : ∀ (l : List α) (i : Nat) (x y : α), l[i]? = some x → l.set i y = l.take i ++ y :: l.drop (i + 1)
  | [], i, x, y, h => by simp at h
  | a :: l, 0, x, y, h => by simp
  | a :: l, i + 1, x, y, h => by simp at h; simp [set_middle l i x y h]

theorem take_splice (L V2 A B : List Value) (o : Nat) (h : o + A.length ≤ V2.length) (pre post : List Value) (hL : L = pre ++ (V2 ++ post)) :
    L.take (pre.length + o) ++ A ++ L.drop (pre.length + o + A.length) = pre ++ ((V2.take o ++ A ++ V2.drop (o + A.length)) ++ post) := by
  subst hL
  rw [List.take_append, List.drop_append, List.drop_append, List.take_append]
  simp [Nat.add_sub_cancel_left, List.drop_eq_nil_of_le, show pre.length ≤ pre.length + o + A.length by omega, show pre.length + o + A.length - pre.length = o + A.length by omega, show o - V2.length = 0 by omega, show o + A.length - V2.length = 0 by omega, List.take_of_length_le]

theorem owns_store {w : World} {t : TypeId} {i : TI} (ok : TIok P t i) {e size n g a off : Nat} {s vv : Value} {v1 v2 v3 : List Value} (ho : w.ownsRow 0 e size s n (v1 ++ (v2 ++ v3))) (hg : blk s = some g)
    (hvs : vv.cells.size = i.size) (h1 : ∀ v ∈ vv.cells.toList, v.oneCell' = true) (hl1 : v1.length = a) (hfit : off + vv.cells.size ≤ v2.length) :
    ∃ w', (Instr.storeAt t (.pointer (some ⟨g, a + off, none⟩)) vv).run P w = .ok () w' ∧ w'.os = w.os ∧ w'.tape = w.tape ∧ w'.output = w.output ∧ w'.heap.size = w.heap.size ∧ (∀ k, k ≠ g → w'.heap[k]? = w.heap[k]?) ∧
      w'.ownsRow 0 e size s n (v1 ++ ((v2.take off ++ vv.cells.toList ++ v2.drop (off + vv.cells.size)) ++ v3)) := by
  rcases ho.2 with ⟨h0, _⟩ | ⟨g', cap, cur, hφ, _, hh, hcl, hcm, hcs, htk⟩
  · rw [h0] at hg; cases hg
  · rw [hφ] at hg; cases hg
    have hlen := ho.1
    have hcap : n * size ≤ cur.size := by rw [hcs]; exact Nat.mul_le_mul_right _ hcl
    simp only [List.length_append] at hlen
    have hvs' : vv.cells.size = vv.cells.toList.length := (Array.length_toList).symm
    have hfit' : a + off + vv.cells.size ≤ cur.size := by omega
    have hrun := run_storeAt ok (o := a + off) hh hvs hfit' h1
    have hcur : cur.toList = v1 ++ (v2 ++ (v3 ++ cur.toList.drop (n * size))) := by
      have := List.take_append_drop (n * size) cur.toList
      rw [htk] at this
      simpa using this.symm
    have hsp := take_splice cur.toList v2 vv.cells.toList [] off (by omega) v1 _ hcur
    rw [hl1, ← hvs'] at hsp
    rw [hsp] at hrun
    generalize hnew : (v1 ++ ((v2.take off ++ vv.cells.toList ++ v2.drop (off + vv.cells.size)) ++ (v3 ++ cur.toList.drop (n * size)))).toArray = nv at hrun
    have hnv : nv.toList = v1 ++ ((v2.take off ++ vv.cells.toList ++ v2.drop (off + vv.cells.size)) ++ (v3 ++ cur.toList.drop (n * size))) := by rw [← hnew]
    have hmid : (v2.take off ++ vv.cells.toList ++ v2.drop (off + vv.cells.size)).length = v2.length := by simp; omega
    obtain ⟨f1, f2, f3, f4, f5⟩ := setRow_facts w g' nv
    refine ⟨_, hrun, f1, f2, f3, f4, f5, ⟨?_, .inr ⟨g', cap, nv, hφ, Nat.zero_le _, setRow_heap w g' cur nv e (0, 0) hh, hcl, hcm, ?_, ?_⟩⟩⟩
    · simp only [List.length_append] at hmid ⊢
      omega
    · have e4 : nv.size = cur.size := by
        have e5 := congrArg List.length hnv
        have e6 := congrArg List.length hcur
        simp only [Array.length_toList, List.length_append] at e5 e6 hmid
        omega
      rw [e4, hcs]
    · rw [hnv]
      have hlen2 : (v1 ++ ((v2.take off ++ vv.cells.toList ++ v2.drop (off + vv.cells.size)) ++ v3)).length = n * size := by
        simp only [List.length_append] at hmid ⊢
        omega
      generalize cur.toList.drop (n * size) = tl
      rw [← hlen2, show v1 ++ ((v2.take off ++ vv.cells.toList ++ v2.drop (off + vv.cells.size)) ++ (v3 ++ tl)) = (v1 ++ ((v2.take off ++ vv.cells.toList ++ v2.drop (off + vv.cells.size)) ++ v3)) ++ tl by simp]
      exact List.take_left

theorem storeRow_sound {ρ : Type} {cx : Cx} {φ : Nat → Value} {S : Nat → Prop} {w : World} {st : St} {h : Nat → B} {t : TypeId} {i : TI} (ok : TIok P t i) (m : RelH cx φ S h w) {n j sz off g : Nat} (hg : blk (pv (φ n)) = some g)
    {new : List C} {vv : Value} (hcells : All2 (RelC S w φ h) new vv.cells.toList) (hsz : new.length = i.size) (hfz : ∀ k ∈ rowsIn new, (h k).isRow = false) {κ : St → Option ρ} {r : ρ} (hl : storeRow st h sz off j n new κ = some r) :
    ∃ st' w', κ st' = some r ∧ (Instr.storeAt t (.pointer (some ⟨g, j * sz + off, none⟩)) vv).run P w = .ok () w' ∧ RelH cx φ S st'.h w' ∧ st'.t = st.t ∧ Later S S w w' φ φ h st'.h := by
  unfold storeRow at hl
  have hn := m.b n
  split at hl
  · rename_i e0 u l e
    rw [e] at hn
    cases hsu : Nat.beq sz u.n with
    | false => rw [hsu] at hl; cases hl
    | true =>
      have := Nat.eq_of_beq_eq_true hsu; subst this
      rw [hsu] at hl
      simp only [cond_true] at hl
      obtain ⟨x, hx, hl⟩ := Option.bind_eq_some_iff.1 hl
      split at hl
      · rename_i cs ht
        obtain ⟨hle, rfl⟩ := splice_some ht
        split at hl
        · rename_i y hy
          have hvs : vv.cells.size = i.size := by have := hcells.length; rw [← hsz, this, Array.length_toList]
          have h1 := hcells.one
          obtain ⟨hun, flat, ho, hfl, hok⟩ := hn
          obtain ⟨v1, v2, v3, hflat, hl1, hrep, hr1, hr3⟩ := hfl.at hx
          subst hflat
          rcases ho.2 with ⟨h0, _⟩ | ⟨g', cap, cur, hφ, _, hh, hcl, hcm, hcs, htk⟩
          · rw [h0] at hg; cases hg
          · rw [hφ] at hg; cases hg
            have hv2 : v2.length = u.n := hrep.length
            have hjl : j < l.length := by
              rcases Nat.lt_or_ge j l.length with q | q
              · exact q
              · rw [List.getElem?_eq_none q] at hx; cases hx
            have hjn : j * u.n + u.n ≤ l.length * u.n := by rw [← Nat.succ_mul]; exact Nat.mul_le_mul_right _ hjl
            have hcap : l.length * u.n ≤ cur.size := by rw [hcs]; exact Nat.mul_le_mul_right _ hcl
            have hon : off + new.length ≤ u.n := by rw [toCells_length] at hle; exact hle
            have hvn : vv.cells.toList.length = new.length := hcells.length.symm
            have hvs' : vv.cells.size = vv.cells.toList.length := (Array.length_toList).symm
            have hfit : j * u.n + off + vv.cells.size ≤ cur.size := by omega
            have hrun := run_storeAt ok (o := j * u.n + off) hh hvs hfit h1
            have hcur : cur.toList = v1 ++ (v2 ++ (v3 ++ cur.toList.drop (l.length * u.n))) := by
              have := List.take_append_drop (l.length * u.n) cur.toList
              rw [htk] at this
              simpa using this.symm
            have hsp := take_splice cur.toList v2 vv.cells.toList [] off (by omega) v1 _ hcur
            rw [hl1, ← hvs'] at hsp
            rw [hsp] at hrun
            generalize hnew : (v1 ++ ((v2.take off ++ vv.cells.toList ++ v2.drop (off + vv.cells.size)) ++ (v3 ++ cur.toList.drop (l.length * u.n)))).toArray = nv at hrun
            have hnv : nv.toList = v1 ++ ((v2.take off ++ vv.cells.toList ++ v2.drop (off + vv.cells.size)) ++ (v3 ++ cur.toList.drop (l.length * u.n))) := by rw [← hnew]
            have hmid : (v2.take off ++ vv.cells.toList ++ v2.drop (off + vv.cells.size)).length = u.n := by simp; omega
            obtain ⟨f1, f2, f3, f4, f5⟩ := setRow_facts w g' nv
            have hmut : (h n).mut = true := by rw [e]; rfl
            have hbk : Bk (φ n) g' := by rw [hφ]; exact bk_slice.2 rfl
            have hkeep : ∀ g, g < w.heap.size → (∀ n', some n = some n' → ¬ Bk (φ n') g) → (w.setRow g' nv).heap[g]? = w.heap[g]? := fun g _ hne => f5 g fun eg => hne n rfl (by rw [eg]; exact hbk)
            have hlat := Later.of_change m (w' := w.setRow g' nv) (some n) (fun k hk => by cases hk; exact hmut) hkeep n (.row e0 u (l.set j y)) (φ n) rfl (.inl ⟨rfl, rfl⟩)
            have hkS : ∀ g, S g → (w.setRow g' nv).heap[g]? = w.heap[g]? := hlat.k
            have hm' := m.change (w' := w.setRow g' nv) f1 f2 f3 (Nat.le_of_eq f4.symm) (some n) (fun k hk => by cases hk; exact hmut) hkeep n (.row e0 u (l.set j y)) (φ n) rfl (.inl ⟨rfl, rfl⟩)
              (fun g hg => .inl ⟨n, rfl, hg⟩) (fun h' hh' => by
                refine ⟨hun, v1 ++ ((v2.take off ++ vv.cells.toList ++ v2.drop (off + vv.cells.size)) ++ v3), ⟨?_, .inr ⟨g', cap, nv, ?_, Nat.zero_le _, setRow_heap w g' cur nv e0 (0, 0) hh, ?_, hcm, ?_, ?_⟩⟩, ?_, hok⟩
                · have hlen3 : v3.length = (l.length - (j + 1)) * u.n := by have := hr3.length; simpa using this
                  have hx2 : l.length * u.n = j * u.n + u.n + (l.length - (j + 1)) * u.n := by
                    rw [← Nat.succ_mul, ← Nat.add_mul]; congr 1; omega
                  simp only [List.length_append, hl1, List.length_set] at hmid ⊢
                  omega
                · rw [hφ, List.length_set]
                · rw [List.length_set]; exact hcl
                · have e4 : nv.size = cur.size := by
                    have e5 := congrArg List.length hnv
                    have e6 := congrArg List.length hcur
                    simp only [Array.length_toList, List.length_append] at e5 e6 hmid
                    omega
                  rw [e4, hcs]
                · rw [hnv, List.length_set]
                  have hlen : (v1 ++ ((v2.take off ++ vv.cells.toList ++ v2.drop (off + vv.cells.size)) ++ v3)).length = l.length * u.n := by
                    have hlen0 := ho.1
                    simp only [List.length_append] at hmid hlen0 ⊢
                    omega
                  generalize cur.toList.drop (l.length * u.n) = tl
                  rw [← hlen, show v1 ++ ((v2.take off ++ vv.cells.toList ++ v2.drop (off + vv.cells.size)) ++ (v3 ++ tl)) = (v1 ++ ((v2.take off ++ vv.cells.toList ++ v2.drop (off + vv.cells.size)) ++ v3)) ++ tl by simp]
                  exact List.take_left
                · rw [set_middle l j x y hx]
                  have hmono : ∀ (q : El u) (vs : List Value), Rep S w u q vs → Rep S (w.setRow g' nv) u q vs := fun q vs hq => Rep.mono (fun _ h => h) hkS hq
                  refine (hr1.mono hmono).append ⟨_, _, rfl, hmono _ _ ?_, hr3.mono hmono⟩
                  have hbase := relC_toCells (φ := φ) (h := h) hrep
                  have hall := ((hbase.take off).append hcells).append (hbase.drop (off + new.length))
                  rw [hvs', hvn]
                  refine rep_datum m.b (fun _ h => h) hall hy fun k hk hrow => ?_
                  simp only [rowsIn_append, List.mem_append] at hk
                  have hno : ∀ k, k ∈ rowsIn (toCells u x) → False := fun k hk => by rw [rowsIn_toCells] at hk; cases hk
                  rcases hk with (hk | hk) | hk
                  · exact (hno k (rowsIn_sub_take _ _ k hk)).elim
                  · rw [hfz k hk] at hrow; cases hrow
                  · exact (hno k (rowsIn_sub_drop _ _ k hk)).elim)
            rw [show giveUp h (some n) = upd h n .gone from rfl, upd_upd, upd_self] at hm' hlat
            exact ⟨_, _, hl, hrun, hm', rfl, hlat⟩
        · cases hl
      · cases hl
  · cases hl

theorem freezeAll_row (ns : List Nat) : ∀ (h : Nat → B), ∀ k ∈ ns, (freezeAll h ns k).isRow = false := by
  induction ns with
  | nil => simp
  | cons n r ih =>
    intro h k hk
    rw [freezeAll]
    by_cases hr : k ∈ r
    · exact ih _ k hr
    · rcases List.mem_cons.1 hk with rfl | h1
      · have key : ∀ (r : List Nat) (h : Nat → B) (k : Nat), (h k).isRow = false → (freezeAll h r k).isRow = false := by
          intro r
          induction r with
          | nil => intro h k hk; exact hk
          | cons n r ih =>
            intro h k hk
            rw [freezeAll]
            refine ih _ k ?_
            by_cases e : k = n
            · subst e; rw [upd_same]; cases h k <;> rfl
            · rw [upd_ne _ _ e]; exact hk
        refine key r _ k ?_
        rw [upd_same]; cases h k <;> rfl
      · exact absurd h1 hr

section
variable {cx : Cx} {φ : Nat → Value} {S : Nat → Prop} {h : Nat → B} {w : World}
theorem goneL_in {ns : List Nat} : ∀ {h : Nat → B} {n : Nat}, n ∈ ns → goneL h ns n = .gone := by
  induction ns with
  | nil => intro h n hn; cases hn
  | cons k r ih =>
    intro h n hn
    simp only [goneL]
    by_cases q : n ∈ r
    · exact ih q
    · rcases List.mem_cons.1 hn with rfl | p
      · have key : ∀ (r : List Nat) (h : Nat → B) (n : Nat), n ∉ r → goneL h r n = h n := by
          intro r
          induction r with
          | nil => intro h n _; rfl
          | cons k r ih => intro h n hn; simp only [goneL]; rw [ih _ _ fun q => hn (List.mem_cons.2 (.inr q)), upd_ne _ _ fun e => hn (List.mem_cons.2 (.inl e))]
        rw [key r _ n q, upd_same]
      · exact absurd p q

theorem goneL_out {ns : List Nat} : ∀ {h : Nat → B} {n : Nat}, n ∉ ns → goneL h ns n = h n := by
  induction ns with
  | nil => intro h n _; rfl
  | cons k r ih => intro h n hn; simp only [goneL]; rw [ih fun q => hn (List.mem_cons.2 (.inr q)), upd_ne _ _ fun e => hn (List.mem_cons.2 (.inl e))]

/-- An open row closed. -/
theorem RelH.close1 (m : RelH cx φ S h w) (n : Nat) : ∃ φ', RelH cx φ' S (closeN h n) w ∧ Later S S w w φ φ' h (closeN h n) := by
  have stay : ∃ φ', RelH cx φ' S h w ∧ Later S S w w φ φ' h h := ⟨φ, m, Later.refl _ _ _ _⟩
  unfold closeN
  split
  · rename_i t o l i cs e
    split
    · rename_i x ns hc
      split
      · rename_i hd
        have hn := m.b n
        rw [e] at hn
        obtain ⟨s, F, v1, v2, v3, F1, F3, hφ, hun, hi, how, ho1, hcs, hv2, ho3, hF, hnd, hok⟩ := hn
        obtain ⟨a1, a2, F2, hv, hr, hrep, hF2, hnd2, hm2⟩ := closeC_rel m.b m.apart hcs hc
        have : a2 = [] := by
          cases a2 with
          | nil => rfl
          | cons => exact hr.elim
        subst this
        rw [List.append_nil] at hv
        subst hv
        have hdn : ns.Nodup := distinct_nodup hd
        have hnn : n ∉ ns := fun q => by
          obtain ⟨q1, q2⟩ := closeC_row hc n q
          rw [e] at q2; cases q2
        have hF2d : ∀ g ∈ F2, g ∉ F := fun g hg hgF => by
          obtain ⟨k, hk, hbk⟩ := (hF2 g).1 hg
          exact m.apart k n g (by rintro rfl; exact hnn hk) (hm2 k hk) (by rw [e]; rfl) hbk (by rw [hφ]; unfold Bk; rw [pf_ghost]; exact hgF)
        have hperm : ((blk s).toList ++ (F1 ++ (F2 ++ F3))).Perm (F2 ++ F) := by
          rw [hF]
          exact (List.Perm.append_left _ (perm_swap3 F1 F2 F3)).trans (perm_swap3 _ _ _)
        have hnd' : ((blk s).toList ++ (F1 ++ (F2 ++ F3))).Nodup := hperm.nodup_iff.2 (List.nodup_append.2 ⟨hnd2 hdn, hnd, fun g h1 g' h2 e => hF2d g h1 (by rw [e]; exact h2)⟩)
        have hin : ∀ g, g ∈ (blk s).toList ++ (F1 ++ (F2 ++ F3)) → (∃ k ∈ ns, Bk (φ k) g) ∨ Bk (φ n) g := fun g hg => by
          rcases List.mem_append.1 (hperm.mem_iff.1 hg) with q | q
          · exact .inl ((hF2 g).1 q)
          · exact .inr (by rw [hφ]; unfold Bk; rw [pf_ghost]; exact q)
        have hout : ∀ k, k ≠ n → k ∉ ns → upd (goneL h ns) n (.own t o (l.set i x)) k = h k := fun k h1 h2 => by rw [upd_ne _ _ h1, goneL_out h2]
        have hgone : ∀ k ∈ ns, upd (goneL h ns) n (.own t o (l.set i x)) k = .gone := fun k hk => by rw [upd_ne _ _ (by rintro rfl; exact hnn hk), goneL_in hk]
        have live : ∀ k, (h k).live = true → (upd (goneL h ns) n (.own t o (l.set i x)) k).live = true ∧ pv (upd φ n (ghost s ((blk s).toList ++ (F1 ++ (F2 ++ F3)))) k) = pv (φ k) := by
          intro k hk
          by_cases ek : k = n
          · subst ek; rw [upd_same, upd_same, hφ, pv_ghost, pv_ghost]; exact ⟨rfl, rfl⟩
          · rw [upd_ne φ _ ek]
            by_cases q : k ∈ ns
            · rw [hgone k q]; exact ⟨rfl, rfl⟩
            · rw [hout k ek q]; exact ⟨hk, rfl⟩
        have hmm : ∀ k, k = n ∨ k ∈ ns → (h k).mut = true := fun k hk => hk.elim (fun q => by rw [q, e]; rfl) (hm2 k)
        have hxi : l[i]? = some (l[i]'hi) := List.getElem?_eq_getElem hi
        refine ⟨_, m.regroup (fun k => k = n ∨ k ∈ ns) ?_ live ?_ ?_ ?_ ?_ ?_, ⟨fun _ h => h, fun _ _ => rfl, live⟩⟩
        · intro k hk
          have h1 : k ≠ n := fun q => hk (.inl q)
          exact ⟨hout k h1 fun q => hk (.inr q), upd_ne _ _ h1⟩
        · rintro k (rfl | hk)
          · rw [upd_same, upd_same]
            refine ⟨s, _, ⟨pv_ghost s _, pf_ghost s _⟩, ⟨_, _, hun, by rw [List.length_set]; exact how, ?_, rfl⟩, hnd', fun g hg => ?_⟩
            · rw [set_middle l i _ x hxi]
              exact ho1.append ⟨_, _, _, _, rfl, rfl, hrep, ho3⟩
            · rcases hin g hg with ⟨j, hj, hbj⟩ | hbj
              · exact mut_ok (hm2 j hj) (m.b j) hbj
              · exact mut_ok (hmm k (.inl rfl)) (m.b k) hbj
          · rw [hgone k hk]; trivial
        · rintro k g (rfl | hk) hm hb
          · rw [upd_same] at hb; unfold Bk at hb; rw [pf_ghost] at hb
            rcases hin g hb with ⟨j, hj, hbj⟩ | hbj
            · exact ⟨j, .inr hj, hm2 j hj, hbj⟩
            · exact ⟨k, .inl rfl, hmm k (.inl rfl), hbj⟩
          · rw [hgone k hk] at hm; cases hm
        · rintro k j g hlt hk hj h1 h2
          rcases hk with rfl | hk
          · rcases hj with rfl | hj
            · omega
            · rw [hgone j hj] at h2; cases h2
          · rw [hgone k hk] at h1; cases h1
        · intro k hk
          cases hg : isGlob k with
          | false => rfl
          | true => have := (m.gl k hg).2; rw [hmm k hk] at this; cases this
        · intro k hk _
          exact live_of_mut (hmm k hk)
      · exact stay
    · exact stay
  · exact stay

theorem RelH.closes (ns : List Nat) : ∀ {φ : Nat → Value} {h : Nat → B}, RelH cx φ S h w → ∃ φ', RelH cx φ' S (closeL h ns) w ∧ Later S S w w φ φ' h (closeL h ns) := by
  induction ns with
  | nil => intro φ h m; exact ⟨φ, m, Later.refl _ _ _ _⟩
  | cons n r ih =>
    intro φ h m
    obtain ⟨φ1, m1, l1⟩ := m.close1 n
    obtain ⟨φ2, m2, l2⟩ := ih m1
    exact ⟨φ2, m2, l1.trans l2⟩

end

theorem store_sound {ρ : Type} {cx : Cx} {φ : Nat → Value} {S : Nat → Prop} {w : World} {st : St} {t : TypeId} {i : TI} (ok : TIok P t i) (m : RelH cx φ S st.h w) {a : C} {av : Value} (hr : RelC S w φ st.h a av)
    {v : V} {vv : Value} (hv : RelV S w φ st.h v vv) {κ : St → Option ρ} {r : ρ} {wh : Bool} (hl : store wh st i a v κ = some r) :
    ∃ st' φ' S' w', κ st' = some r ∧ (Instr.storeAt t av vv).run P w = .ok () w' ∧ RelH cx φ' S' st'.h w' ∧ st'.t = st.t ∧ Later S S' w w' φ φ' st.h st'.h := by
  unfold store at hl
  cases hc : v.cells with
  | none => rw [hc] at hl; cases hl
  | some new =>
    rw [hc] at hl
    simp only at hl
    have hcells := relV_cells hv hc
    cases hsz : Nat.beq new.length i.size with
    | false => rw [hsz] at hl; cases hl
    | true =>
      have hsz' := Nat.eq_of_beq_eq_true hsz
      rw [hsz] at hl
      simp only [cond_true] at hl
      have hvs : vv.cells.size = i.size := by rw [← hsz', hcells.length, Array.length_toList]
      have h1 := hcells.one
      cases a with
      | ptr n j sz off =>
        obtain ⟨hlive, g, hg, rfl⟩ := hr
        have hn := m.b n
        simp only at hl
        split at hl
        · rename_i t' cs e
          rw [e] at hn
          obtain ⟨g', vals, hφ, hh, ha, hok⟩ := hn
          rw [hφ] at hg; cases hg
          split at hl
          · rename_i cs' ht
            obtain ⟨hle, rfl⟩ := splice_some ht
            have hfit : 0 * sz + off + vv.cells.size ≤ vals.size := by
              have e3 := ha.length
              have e4 : vals.toList.length = vals.size := Array.length_toList
              omega
            have hrun := run_storeAt ok (o := 0 * sz + off) hh hvs hfit h1
            have e2 : vv.cells.size = new.length := by rw [hvs, hsz']
            rw [e2, show 0 * sz + off = off by omega] at hrun
            generalize hnew : (vals.toList.take off ++ vv.cells.toList ++ vals.toList.drop (off + new.length)).toArray = nv at hrun
            have hnv : nv.toList = vals.toList.take off ++ vv.cells.toList ++ vals.toList.drop (off + new.length) := by rw [← hnew]
            obtain ⟨f1, f2, f3, f4, f5⟩ := setRow_facts w g' nv
            have hmut : (st.h n).mut = true := by rw [e]; rfl
            have hbk : Bk (φ n) g' := by rw [hφ]; exact bk_pointer.2 rfl
            have hkeep : ∀ g, g < w.heap.size → (∀ n', some n = some n' → ¬ Bk (φ n') g) → (w.setRow g' nv).heap[g]? = w.heap[g]? := fun g _ hne => f5 g fun eg => hne n rfl (by rw [eg]; exact hbk)
            have hlat := Later.of_change m (w' := w.setRow g' nv) (some n) (fun k hk => by cases hk; exact hmut) hkeep n (.box t' (cs.take off ++ new ++ cs.drop (off + new.length))) (φ n) rfl (.inl ⟨rfl, rfl⟩)
            have hm' := m.change (w' := w.setRow g' nv) f1 f2 f3 (Nat.le_of_eq f4.symm) (some n) (fun k hk => by cases hk; exact hmut) hkeep n (.box t' (cs.take off ++ new ++ cs.drop (off + new.length))) (φ n) rfl (.inl ⟨rfl, rfl⟩)
              (fun g hg => .inl ⟨n, rfl, hg⟩) (fun h' hh' => by
                subst hh'
                refine ⟨g', nv, hφ, setRow_heap w g' vals nv t' (0, 0) hh, ?_, hok⟩
                rw [hnv]
                exact (((ha.take off).append hcells).append (ha.drop (off + new.length))).mono fun c x hcx => RelC.mono hlat.s hlat.k hlat.l hcx)
            rw [show giveUp st.h (some n) = upd st.h n .gone from rfl, upd_upd, upd_self] at hm' hlat
            refine ⟨_, φ, S, _, hl, ?_, hm', rfl, hlat⟩
            rw [show 0 * sz + off = off by omega]; exact hrun
          · cases hl
        · rename_i e
          obtain ⟨S', hS, m', _⟩ := m.freezeAll (rowsIn new)
          have hlat0 := Later.of_freeze (φ := φ) (h := st.h) (w := w) hS (rowsIn new)
          obtain ⟨st', w', h1, h2, h3, h4, h5⟩ := storeRow_sound ok m' hg (hcells.mono fun c x hcx => hlat0.relC hcx) hsz' (freezeAll_row _ _) hl
          exact ⟨st', φ, S', w', h1, h2, h3, h4, hlat0.trans h5⟩
        · rename_i e0 o l e
          split at hl
          · rename_i hbeq
            have := Nat.eq_of_beq_eq_true hbeq; subst this
            replace hl := Option.bind_eq_some_iff.1 hl
            obtain ⟨x, hx, hl⟩ := hl
            split at hl
            · rename_i y hy
              obtain ⟨c, rfl⟩ : ∃ c, new = [c] := by
                cases new with
                | nil => cases hy
                | cons c r => cases r with
                  | nil => exact ⟨c, rfl⟩
                  | cons => cases hy
              replace hy : setAt o x off c = some y := hy
              rw [e] at hn
              obtain ⟨s, F, hφ, ⟨flat, F', hun, how, hol, hF⟩, hnd, hok⟩ := hn
              rw [hφ.1] at hg
              obtain ⟨v1, v2, v3, F1, F2, F3, rfl, hF', hl1, hrep, ht, hd⟩ := hol.at hx
              have hv1 : ∃ x, vv.cells.toList = [x] := by
                have := hcells.length
                cases hq : vv.cells.toList with
                | nil => rw [hq] at this; cases this
                | cons x r => cases r with
                  | nil => exact ⟨x, rfl⟩
                  | cons y r => rw [hq] at this; cases this
              obtain ⟨xv, hxv⟩ := hv1
              have hc : RelC S w φ st.h c xv := by rw [hxv] at hcells; exact hcells.1
              obtain ⟨hoff, hrep'⟩ := hrep.set hy hc
              have h1' : vv.cells.size = 1 := by rw [← Array.length_toList, hxv]; rfl
              obtain ⟨w', hrun, f1, f2, f3, f4, f5, how'⟩ := owns_store ok how hg hvs h1 hl1 (off := off) (by rw [h1', hrep.length]; omega)
              have hset : v2.take off ++ vv.cells.toList ++ v2.drop (off + vv.cells.size) = v2.set off xv := by
                rw [hxv, h1']
                have : v2[off]? = some (v2[off]'(by rw [hrep.length]; exact hoff)) := List.getElem?_eq_getElem _
                rw [set_middle v2 off _ xv this, List.append_assoc]; rfl
              rw [hset] at how'
              have hmut : (st.h n).mut = true := by rw [e]; rfl
              have hgF : g ∈ F := by rw [hF]; exact List.mem_append.2 (.inl (by rw [hg]; exact List.mem_singleton.2 rfl))
              have hbk : Bk (φ n) g := by unfold Bk; rw [hφ.2]; exact hgF
              have hkeep : ∀ g', g' < w.heap.size → (∀ n', some n = some n' → ¬ Bk (φ n') g') → w'.heap[g']? = w.heap[g']? := fun g' _ hne => f5 g' fun eg => hne n rfl (by rw [eg]; exact hbk)
              have hlat := Later.of_change m (w' := w') (some n) (fun k hk => by cases hk; exact hmut) hkeep n (.own e0 o (l.set j y)) (φ n) rfl (.inl ⟨rfl, rfl⟩)
              have hnF : ∀ g' ∈ F1 ++ (F2 ++ F3), g' ≠ g := by
                intro g' hg' eq
                subst eq
                rw [hF] at hnd
                exact (List.nodup_append.1 hnd).2.2 g' (by rw [hg]; exact List.mem_singleton.2 rfl) g' (by rw [hF']; exact hg') rfl
              have hm' := m.change (w' := w') f1 f2 f3 (Nat.le_of_eq f4.symm) (some n) (fun k hk => by cases hk; exact hmut) hkeep n (.own e0 o (l.set j y)) (φ n) rfl (.inl ⟨rfl, rfl⟩)
                (fun g hg => .inl ⟨n, rfl, hg⟩) (fun h' hh' => by
                  refine ⟨s, F, hφ, ⟨_, F', hun, by rw [List.length_set]; exact how', ?_, hF⟩, hnd, hok⟩
                  rw [set_middle l j x y hx, hF']
                  have mono : ∀ (q : El o.u) (vs : List Value) (G : List Nat), (∀ g' ∈ G, g' ≠ g) → RepO S w o q vs G → RepO S w' o q vs G := fun q vs G hG hq => hq.mono (fun _ h => h) hlat.k fun g' hg' => f5 g' (hG g' hg')
                  refine (ht.mono mono fun g' hg' => hnF g' (List.mem_append.2 (.inl hg'))).append ⟨_, _, _, _, rfl, rfl, mono _ _ _ (fun g' hg' => hnF g' (List.mem_append.2 (.inr (List.mem_append.2 (.inl hg'))))) hrep', hd.mono mono fun g' hg' => hnF g' (List.mem_append.2 (.inr (List.mem_append.2 (.inr hg'))))⟩)
              rw [show giveUp st.h (some n) = upd st.h n .gone from rfl, upd_upd, upd_self] at hm' hlat
              exact ⟨_, φ, S, _, hl, hrun, hm', rfl, hlat⟩
            · have hlq : (wh && Nat.beq off 0 && Nat.beq new.length o.u.n) = true ∧ κ { st with h := closeN (upd st.h n (.opn e0 o l j new)) n } = some r := by
                cases hq : wh && Nat.beq off 0 && Nat.beq new.length o.u.n with
                | false => rw [hq] at hl; cases hl
                | true => rw [hq] at hl; exact ⟨rfl, hl⟩
              clear hl
              obtain ⟨hq, hl⟩ := hlq
              rw [Bool.and_eq_true, Bool.and_eq_true] at hq
              have hoff := Nat.eq_of_beq_eq_true hq.1.2; subst hoff
              have hnl := Nat.eq_of_beq_eq_true hq.2
              rw [e] at hn
              obtain ⟨s, F, hφ, ⟨flat, F', hun, how, hol, hF⟩, hnd, hok⟩ := hn
              rw [hφ.1] at hg
              obtain ⟨v1, v2, v3, F1, F2, F3, rfl, hF', hl1, hrep, ht, hd⟩ := hol.at hx
              have hjl : j < l.length := by
                rcases Nat.lt_or_ge j l.length with q | q
                · exact q
                · rw [List.getElem?_eq_none q] at hx; cases hx
              have hv2 := hrep.length
              have hvn : vv.cells.toList.length = o.u.n := by rw [← hcells.length, hnl]
              obtain ⟨w', hrun, f1, f2, f3, f4, f5, how'⟩ := owns_store ok how hg hvs h1 hl1 (off := 0) (by rw [← Array.length_toList, hvn, hv2]; omega)
              have hset : v2.take 0 ++ vv.cells.toList ++ v2.drop (0 + vv.cells.size) = vv.cells.toList := by
                rw [← Array.length_toList, hvn, List.drop_eq_nil_of_le (by rw [hv2]; omega)]; simp
              rw [hset] at how'
              have hmut : (st.h n).mut = true := by rw [e]; rfl
              have hgF : g ∈ F := by rw [hF]; exact List.mem_append.2 (.inl (by rw [hg]; exact List.mem_singleton.2 rfl))
              have hbk : Bk (φ n) g := by unfold Bk; rw [hφ.2]; exact hgF
              have hperm : F.Perm (F2 ++ ((blk s).toList ++ (F1 ++ F3))) := by
                rw [hF, hF']
                exact (List.Perm.append_left _ (perm_swap3 F1 F2 F3)).trans (perm_swap3 _ _ _)
              have hnd2 := List.nodup_append.1 (hperm.nodup_iff.1 hnd)
              have inF : ∀ g', g' ∈ (blk s).toList ++ (F1 ++ F3) → g' ∈ F := fun g' hg' => hperm.mem_iff.2 (List.mem_append.2 (.inr hg'))
              have hnF : ∀ g' ∈ F1 ++ F3, g' ≠ g := by
                intro g' hg' eq
                subst eq
                exact (List.nodup_append.1 hnd2.2.1).2.2 g' (by rw [hg]; exact List.mem_singleton.2 rfl) g' hg' rfl
              have hkeep : ∀ g', g' < w.heap.size → (∀ n', some n = some n' → ¬ Bk (φ n') g') → w'.heap[g']? = w.heap[g']? := fun g' _ hne => f5 g' fun eg => hne n rfl (by rw [eg]; exact hbk)
              have hpv : pv (ghost s ((blk s).toList ++ (F1 ++ F3))) = pv (φ n) := by rw [pv_ghost, hφ.1]
              have hlat := Later.of_change m (w' := w') (some n) (fun k hk => by cases hk; exact hmut) hkeep n (.opn e0 o l j new) (ghost s ((blk s).toList ++ (F1 ++ F3))) rfl (.inl ⟨rfl, hpv⟩)
              have hm1 := m.change (w' := w') f1 f2 f3 (Nat.le_of_eq f4.symm) (some n) (fun k hk => by cases hk; exact hmut) hkeep n (.opn e0 o l j new) (ghost s ((blk s).toList ++ (F1 ++ F3))) rfl (.inl ⟨rfl, hpv⟩)
                (fun g' hg' => .inl ⟨n, rfl, by unfold Bk at hg' ⊢; rw [pf_ghost] at hg'; rw [hφ.2]; exact inF g' hg'⟩) (fun h' hh' => by
                  subst hh'
                  have mono : ∀ (q : El o.u) (vs : List Value) (G : List Nat), (∀ g' ∈ G, g' ≠ g) → RepO S w o q vs G → RepO S w' o q vs G := fun q vs G hG hq => hq.mono (fun _ h => h) hlat.k fun g' hg' => f5 g' (hG g' hg')
                  exact ⟨s, _, v1, vv.cells.toList, v3, F1, F3, rfl, hun, hjl, how', ht.mono mono fun g' hg' => hnF g' (List.mem_append.2 (.inl hg')), hcells.mono fun c x hcx => RelC.mono hlat.s hlat.k hlat.l hcx, hvn, hd.mono mono fun g' hg' => hnF g' (List.mem_append.2 (.inr hg')), rfl, hnd2.2.1, fun g' hg' => hok g' (inF g' hg')⟩)
              rw [show giveUp st.h (some n) = upd st.h n .gone from rfl, upd_upd] at hm1 hlat
              obtain ⟨φ2, hm2, hlat2⟩ := hm1.close1 n
              exact ⟨_, φ2, S, _, hl, hrun, hm2, rfl, hlat.trans hlat2⟩
          · cases hl
        · rename_i e0 o l k cs e
          cases hsz2 : Nat.beq sz o.u.n && Nat.beq j k with
          | false => rw [hsz2] at hl; cases hl
          | true =>
            rw [hsz2] at hl
            rw [Bool.and_eq_true] at hsz2
            have := Nat.eq_of_beq_eq_true hsz2.1; subst this
            have := Nat.eq_of_beq_eq_true hsz2.2; subst this
            simp only [cond_true] at hl
            split at hl
            · rename_i cs' ht
              obtain ⟨hle, rfl⟩ := splice_some ht
              rw [e] at hn
              obtain ⟨s, F, v1, v2, v3, F1, F3, hφ, hun, hi, how, ho1, hcs, hv2, ho3, hF, hnd, hok⟩ := hn
              rw [hφ, pv_ghost] at hg
              have hl1 : v1.length = j * o.u.n := by rw [ho1.length, List.length_take, Nat.min_eq_left (Nat.le_of_lt hi)]
              have hlc := hcs.length
              obtain ⟨w', hrun, f1, f2, f3, f4, f5, how'⟩ := owns_store ok how hg hvs h1 hl1 (off := off) (by rw [hvs, ← hsz']; omega)
              have hmut : (st.h n).mut = true := by rw [e]; rfl
              have hgF : g ∈ F := by rw [hF]; exact List.mem_append.2 (.inl (by rw [hg]; exact List.mem_singleton.2 rfl))
              have hbk : Bk (φ n) g := by rw [hφ]; unfold Bk; rw [pf_ghost]; exact hgF
              have hkeep : ∀ g', g' < w.heap.size → (∀ n', some n = some n' → ¬ Bk (φ n') g') → w'.heap[g']? = w.heap[g']? := fun g' _ hne => f5 g' fun eg => hne n rfl (by rw [eg]; exact hbk)
              have hlat := Later.of_change m (w' := w') (some n) (fun k hk => by cases hk; exact hmut) hkeep n (.opn e0 o l j (cs.take off ++ new ++ cs.drop (off + new.length))) (φ n) rfl (.inl ⟨rfl, rfl⟩)
              have hnF : ∀ g' ∈ F1 ++ F3, g' ≠ g := by
                intro g' hg' eq
                subst eq
                rw [hF] at hnd
                exact (List.nodup_append.1 hnd).2.2 g' (by rw [hg]; exact List.mem_singleton.2 rfl) g' hg' rfl
              have e2 : vv.cells.size = new.length := by rw [hvs, hsz']
              have hm' := m.change (w' := w') f1 f2 f3 (Nat.le_of_eq f4.symm) (some n) (fun k hk => by cases hk; exact hmut) hkeep n (.opn e0 o l j (cs.take off ++ new ++ cs.drop (off + new.length))) (φ n) rfl (.inl ⟨rfl, rfl⟩)
                (fun g hg => .inl ⟨n, rfl, hg⟩) (fun h' hh' => by
                  subst hh'
                  have mono : ∀ (q : El o.u) (vs : List Value) (G : List Nat), (∀ g' ∈ G, g' ≠ g) → RepO S w o q vs G → RepO S w' o q vs G := fun q vs G hG hq => hq.mono (fun _ h => h) hlat.k fun g' hg' => f5 g' (hG g' hg')
                  refine ⟨s, F, v1, _, v3, F1, F3, hφ, hun, hi, how', ho1.mono mono fun g' hg' => hnF g' (List.mem_append.2 (.inl hg')), ?_, ?_, ho3.mono mono fun g' hg' => hnF g' (List.mem_append.2 (.inr hg')), hF, hnd, hok⟩
                  · rw [e2]
                    exact (((hcs.take off).append hcells).append (hcs.drop (off + new.length))).mono fun c x hcx => RelC.mono hlat.s hlat.k hlat.l hcx
                  · have := hcells.length
                    simp only [List.length_append, List.length_take, List.length_drop]
                    omega)
              rw [show giveUp st.h (some n) = upd st.h n .gone from rfl, upd_upd, upd_self] at hm' hlat
              exact ⟨_, φ, S, _, hl, hrun, hm', rfl, hlat⟩
            · cases hl
        · cases hl
      | _ => cases hl
end Go.Proofs.YtkimeoknckohfaaDoor.R1
