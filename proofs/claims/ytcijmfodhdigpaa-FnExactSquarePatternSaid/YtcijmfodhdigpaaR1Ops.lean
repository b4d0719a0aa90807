/- The operations' soundness: types, loads, stores, new blocks. -/
import Derived.Test.YtcijmfodhdigpaaR1Heap
namespace Go.Proofs.Ytcijmfodhdigpaa.R1
variable {P : Program}

structure Later (S S' : Nat → Prop) (w w' : World) (φ φ' : Nat → Value) (h h' : Nat → B) : Prop where
  s : ∀ g, S g → S' g
  k : ∀ g, S g → w'.heap[g]? = w.heap[g]?
  l : ∀ n, (h n).live = true → (h' n).live = true ∧ φ' n = φ n

theorem Later.refl (S : Nat → Prop) (w : World) (φ : Nat → Value) (h : Nat → B) : Later S S w w φ φ h h := ⟨fun _ h => h, fun _ _ => rfl, fun _ h => ⟨h, rfl⟩⟩

theorem Later.trans {S1 S2 S3 : Nat → Prop} {w1 w2 w3 : World} {φ1 φ2 φ3 : Nat → Value} {h1 h2 h3 : Nat → B} (a : Later S1 S2 w1 w2 φ1 φ2 h1 h2) (b : Later S2 S3 w2 w3 φ2 φ3 h2 h3) : Later S1 S3 w1 w3 φ1 φ3 h1 h3 :=
  ⟨fun g hg => b.s g (a.s g hg), fun g hg => (b.k g (a.s g hg)).trans (a.k g hg), fun n hn => ⟨(b.l n (a.l n hn).1).1, (b.l n (a.l n hn).1).2.trans (a.l n hn).2⟩⟩

theorem Later.relV {S S' : Nat → Prop} {w w' : World} {φ φ' : Nat → Value} {h h' : Nat → B} (l : Later S S' w w' φ φ' h h') {x : V} {v : Value} (hr : RelV S w φ h x v) : RelV S' w' φ' h' x v := hr.mono l.s l.k l.l
theorem Later.relC {S S' : Nat → Prop} {w w' : World} {φ φ' : Nat → Value} {h h' : Nat → B} (l : Later S S' w w' φ φ' h h') {x : C} {v : Value} (hr : RelC S w φ h x v) : RelC S' w' φ' h' x v := hr.mono l.s l.k l.l

/-! ### Types -/
def KindOk (P : Program) : TypeDesc → TK → Prop
  | .int k, .int k' => k = k'
  | .bool, .bool => True
  | .string, .str => True
  | .struct fields, .struct fs => fields.toList.map (fun f => (f.offset, f.type)) = fs ∧ ∀ f ∈ fields.toList, ∃ i, P.info? f.type = some i ∧ i.size ≠ 0
  | .array n e, .arr n' e' => n = n' ∧ e = e'
  | .slice e, .sl e' => e = e'
  | .pointer e, .ptr e' => e = e'
  | .func .., .func => True
  | d, .other => match d with
    | .struct _ | .array .. => False
    | _ => True
  | _, _ => False

structure TIok (P : Program) (t : TypeId) (i : TI) : Prop where
  und : ∃ d, P.underlying t = some d ∧ KindOk P d i.k
  info : ∃ inf z, P.info? t = some inf ∧ inf.size = i.size ∧ inf.bytes = i.bytes ∧ inf.zero = some z ∧ z.cells.size = i.size ∧ (i.zero.length = i.size → ofCellList z.cells.toList = some i.zero)
  u : 0 < i.u.n → i.u.n = i.size ∧ 0 < i.bytes
  eq : i.eq = true → P.stoodInHeld t = false ∧ P.eqGuardType P.depth t = false ∧ ∀ d, P.underlying t = some d → match d with
    | .struct fields => ∀ f ∈ fields.toList, f.name ≠ "_"
    | _ => True

def TTok (P : Program) (tt : TT) : Prop := ∀ t i, assoc tt t = some i → TIok P t i

theorem TIok.run_size {t : TypeId} {i : TI} (ok : TIok P t i) (w : World) : (sizeOf t).run P w = .ok i.size w := by
  obtain ⟨inf, z, h1, h2, _⟩ := ok.info
  simp [sizeOf, typeInfo, h1, h2]

theorem TIok.run_agg {t : TypeId} {i : TI} (ok : TIok P t i) (w : World) : (isAgg t).run P w = .ok i.agg w := by
  obtain ⟨d, h1, h2⟩ := ok.und
  simp only [isAgg, Sem.run_bind, run_underlying h1, Result.andThen_ok]
  cases d <;> cases hk : i.k <;> rw [hk] at h2 <;> simp [KindOk] at h2 <;> simp [TI.agg, hk]

theorem take?_some {off n : Nat} {cs cs' : List C} (h : take? off n cs = some cs') : off + n ≤ cs.length ∧ cs' = (cs.drop off).take n := by
  unfold take? at h
  cases e : Nat.ble (off + n) cs.length with
  | true => rw [e] at h; simp at h; exact ⟨Nat.le_of_ble_eq_true e, h.symm⟩
  | false => rw [e] at h; simp at h

theorem splice_some {off : Nat} {new cs cs' : List C} (h : splice off new cs = some cs') : off + new.length ≤ cs.length ∧ cs' = cs.take off ++ new ++ cs.drop (off + new.length) := by
  unfold splice at h
  cases e : Nat.ble (off + new.length) cs.length with
  | true => rw [e] at h; simp at h; exact ⟨Nat.le_of_ble_eq_true e, by simp [← h]⟩
  | false => rw [e] at h; simp at h

section
variable {S : Nat → Prop} {w : World} {φ : Nat → Value} {h : Nat → B}

theorem load_cells {t : TypeId} {i : TI} (ok : TIok P t i) {a : Addr} {vs : List Value} {off : Nat} {cs cs' : List C} {v : V} (hm : Mem w a vs) (ha : All2 (RelC S w φ h) cs vs)
    (ht : take? off i.size cs = some cs') (hv : asV i.agg cs' = some v) : ∃ v', (Instr.loadAt t (.pointer (some (a.add off)))).run P w = .ok v' w ∧ RelV S w φ h v v' := by
  obtain ⟨hle, rfl⟩ := take?_some ht
  have ha' := (ha.drop off).take i.size
  have hm' : Mem w (a.add off) ((vs.drop off).take i.size) := (hm.drop off).take _
  have hl : ((vs.drop off).take i.size).length = i.size := by rw [← ha'.length]; simp; omega
  generalize (cs.drop off).take i.size = cs' at *
  generalize (vs.drop off).take i.size = vs' at *
  simp only [Instr.loadAt, Instr.sureAddr, loadVar, Sem.run_bind, Sem.run_pure, Result.andThen_ok, ok.run_agg]
  cases hag : i.agg with
  | true =>
    rw [hag] at hv
    simp [asV] at hv
    subst hv
    have hr := run_loadCells_list (P := P) w (a.add off) vs' hm'
    rw [hl] at hr
    simp [ok.run_size, hr]
    exact ⟨_, rfl, by simpa using ha'⟩
  | false =>
    rw [hag] at hv
    cases cs' with
    | nil => simp [asV] at hv
    | cons c r => cases r with
      | cons => simp [asV] at hv
      | nil =>
        simp [asV] at hv
        subst hv
        cases vs' with
        | nil => exact ha'.elim
        | cons x r => cases r with
          | cons => exact ha'.2.elim
          | nil =>
            have := hm' 0 x rfl
            rw [add_zero] at this
            simp [this]
            exact ha'.1

theorem row_cells {ok : Nat → Prop} {n j : Nat} {e : Nat} {u : U} {l : List (El u)} {x : El u} {g : Nat} (hb : RelB S w φ h ok (φ n) (.row e u l)) (hg : blk (φ n) = some g) (hx : l[j]? = some x) :
    ∃ vs, Rep S w u x vs ∧ Mem w ⟨g, j * u.n, none⟩ vs := by
  obtain ⟨_, flat, ho, hl, _⟩ := hb
  obtain ⟨v1, v2, v3, rfl, h1, h2, _⟩ := hl.at hx
  refine ⟨v2, h2, ?_⟩
  have hm : Mem w ⟨g, 0, none⟩ (v1 ++ (v2 ++ v3)) := ho.cells (by rw [← blk_eq_ownBlock ho]; exact hg)
  have := hm.part.2.part.1
  rw [add_at, h1, Nat.zero_add] at this
  exact this

theorem ro_cells {ok : Nat → Prop} {n j : Nat} {e : Nat} {u : U} {l : List (El u)} {x : El u} {g : Nat} (hb : RelB S w φ h ok (φ n) (.ro e u l)) (hg : blk (φ n) = some g) (hx : l[j]? = some x) :
    ∃ vs, Rep S w u x vs ∧ Mem w ⟨g, j * u.n, none⟩ vs := by
  obtain ⟨_, flat, cap, hl, _, hv⟩ := hb
  obtain ⟨v1, v2, v3, rfl, h1, h2, _⟩ := hl.at hx
  refine ⟨v2, h2, ?_⟩
  rcases hv with ⟨hv, _⟩ | ⟨g', hv, hm, _⟩
  · rw [hv] at hg; cases hg
  · rw [hv] at hg; cases hg
    have := hm.part.2.part.1
    rw [add_at, h1, Nat.zero_add] at this
    exact this

theorem load_sound {ρ : Type} {cx : Cx} {st : St} {t : TypeId} {i : TI} (ok : TIok P t i) (m : RelH cx φ S st.h w) {a : C} {av : Value} (hr : RelC S w φ st.h a av) {κ : V → Option ρ} {r : ρ} (hl : load st i a κ = some r) :
    ∃ v v', κ v = some r ∧ (Instr.loadAt t av).run P w = .ok v' w ∧ RelV S w φ st.h v v' := by
  unfold load at hl
  cases a with
  | ptr n j sz off =>
    obtain ⟨_, g, hg, rfl⟩ := hr
    have hn := m.b n
    simp only at hl
    split at hl
    · rename_i t' cs e
      rw [e] at hn
      obtain ⟨g', vals, hφ, hh, ha, _⟩ := hn
      rw [hφ] at hg; cases hg
      split at hl
      · rename_i cs' ht
        split at hl
        · rename_i v hv
          have hm : Mem w ⟨g', 0, none⟩ vals.toList := fun q x hx => by
            rw [add_at, cell_of_row w g' _ vals t' (0, 0) hh]; simpa using hx
          obtain ⟨v', h1, h2⟩ := load_cells ok hm ha ht hv
          rw [add_at] at h1
          exact ⟨v, v', hl, by simpa using h1, h2⟩
        · cases hl
      · cases hl
    · rename_i e0 u l e
      rw [e] at hn
      cases hsz : Nat.beq sz u.n with
      | false => rw [hsz] at hl; cases hl
      | true =>
        have := Nat.eq_of_beq_eq_true hsz; subst this
        rw [hsz] at hl
        simp only [cond_true] at hl
        obtain ⟨x, hx, hl⟩ := Option.bind_eq_some_iff.1 hl
        obtain ⟨vs, hrep, hm⟩ := row_cells hn hg hx
        split at hl
        · rename_i cs ht
          split at hl
          · rename_i v hv
            obtain ⟨v', h1, h2⟩ := load_cells ok hm (relC_toCells hrep) ht hv
            rw [add_at] at h1
            exact ⟨v, v', hl, h1, h2⟩
          · cases hl
        · cases hl
    · rename_i e0 u l e
      rw [e] at hn
      cases hsz : Nat.beq sz u.n with
      | false => rw [hsz] at hl; cases hl
      | true =>
        have := Nat.eq_of_beq_eq_true hsz; subst this
        rw [hsz] at hl
        simp only [cond_true] at hl
        obtain ⟨x, hx, hl⟩ := Option.bind_eq_some_iff.1 hl
        obtain ⟨vs, hrep, hm⟩ := ro_cells hn hg hx
        split at hl
        · rename_i cs ht
          split at hl
          · rename_i v hv
            obtain ⟨v', h1, h2⟩ := load_cells ok hm (relC_toCells hrep) ht hv
            rw [add_at] at h1
            exact ⟨v, v', hl, h1, h2⟩
          · cases hl
        · cases hl
    · cases hl
  | dptr u x off =>
    obtain ⟨b, cs, rfl, hrep, hm, _⟩ := hr
    simp only at hl
    split at hl
    · rename_i cs' ht
      split at hl
      · rename_i v hv
        obtain ⟨v', h1, h2⟩ := load_cells ok hm (relC_toCells hrep) ht hv
        exact ⟨v, v', hl, h1, h2⟩
      · cases hl
    · cases hl
  | _ => cases hl

theorem rowsIn_all2 {cs : List C} : ∀ {new : List C}, (∀ n ∈ rowsIn new, n ∈ rowsIn cs) → True := fun _ => trivial

theorem rowsIn_append : ∀ (a b : List C), rowsIn (a ++ b) = rowsIn a ++ rowsIn b
  | [], _ => rfl
  | c :: a, b => by cases c <;> simp [rowsIn, rowsIn_append a b]

theorem rowsIn_toCells : ∀ {u : U} {x : El u}, rowsIn (toCells u x) = [] := by
  intro u
  induction u with
  | pair a b iha ihb => intro x; simp [toCells, rowsIn_append, iha, ihb]
  | _ => intro x; rfl

theorem rowsIn_sub_take : ∀ (n : Nat) (a : List C), ∀ k ∈ rowsIn (a.take n), k ∈ rowsIn a
  | 0, _ => by simp [rowsIn]
  | _ + 1, [] => by simp [rowsIn]
  | n + 1, c :: a => by cases c <;> simp [rowsIn] <;> first | exact fun k h => rowsIn_sub_take n a k h | exact fun k h => .inr (rowsIn_sub_take n a k h)

theorem rowsIn_sub_drop : ∀ (n : Nat) (a : List C), ∀ k ∈ rowsIn (a.drop n), k ∈ rowsIn a
  | 0, _ => by simp
  | _ + 1, [] => by simp [rowsIn]
  | n + 1, c :: a => by cases c <;> simp [rowsIn] <;> first | exact fun k h => rowsIn_sub_drop n a k h | exact fun k h => .inr (rowsIn_sub_drop n a k h)

theorem run_storeAt {t : TypeId} {i : TI} (ok : TIok P t i) {g o : Nat} {cur : Array Value} {t0 : TypeId} {vv : Value} (hg : w.heap[g]? = some (.cells cur t0 (0, 0))) (hs : vv.cells.size = i.size) (hfit : o + vv.cells.size ≤ cur.size)
    (h1 : ∀ v ∈ vv.cells.toList, v.oneCell' = true) :
    (Instr.storeAt t (.pointer (some ⟨g, o, none⟩)) vv).run P w = .ok () (w.setRow g (cur.toList.take o ++ vv.cells.toList ++ cur.toList.drop (o + vv.cells.size)).toArray) := by
  have hst := run_storeCells_at P g o t0 vv.cells.toList 0 cur w hg (by simpa using hfit) h1
  simp only [Nat.add_zero, Array.length_toList] at hst
  simp [Instr.storeAt, Instr.sureAddr, storeVar, ok.run_size, hs]
  rw [hs, List.append_assoc] at hst
  exact hst
end

theorem setRow_facts (w : World) (g : Nat) (cs : Array Value) : (w.setRow g cs).os = w.os ∧ (w.setRow g cs).tape = w.tape ∧ (w.setRow g cs).output = w.output ∧ (w.setRow g cs).heap.size = w.heap.size ∧ ∀ k, k ≠ g → (w.setRow g cs).heap[k]? = w.heap[k]? :=
  ⟨rfl, rfl, rfl, by simp, fun k hk => setRow_other w g k cs hk⟩

theorem Later.of_change {cx : Cx} {φ : Nat → Value} {S : Nat → Prop} {h : Nat → B} {w : World} (m : RelH cx φ S h w) {w' : World}
    (old : Option Nat) (hold : ∀ n, old = some n → (h n).mut = true)
    (hb : ∀ g, g < w.heap.size → (∀ n, old = some n → blk (φ n) ≠ some g) → w'.heap[g]? = w.heap[g]?)
    (dst : Nat) (b : B) (v : Value) (hbl : b.live = true) (hfree : old = some dst ∧ v = φ dst ∨ (h dst).live = false ∧ isKept dst = false) :
    Later S S w w' φ (upd φ dst v) h (upd (giveUp h old) dst b) := by
  refine ⟨fun _ h => h, fun g hg => hb g (m.lt g hg) fun n hn hbk => m.sep n g (hold n hn) hbk hg, fun n hn => ?_⟩
  by_cases e : n = dst
  · subst e
    rw [upd_same, upd_same]
    refine ⟨hbl, ?_⟩
    rcases hfree with ⟨_, hv⟩ | ⟨hf, _⟩
    · exact hv
    · rw [hf] at hn; cases hn
  · rw [upd_ne _ _ e, upd_ne _ _ e]
    refine ⟨?_, rfl⟩
    cases old with
    | none => exact hn
    | some n0 =>
      by_cases e2 : n = n0
      · subst e2; simp only [giveUp, upd_same]; rfl
      · simp only [giveUp, upd_ne _ _ e2]; exact hn

theorem Later.of_freeze {φ : Nat → Value} {S S' : Nat → Prop} {h : Nat → B} {w : World} (hS : ∀ g, S g → S' g) (ns : List Nat) : Later S S' w w φ φ h (freezeAll h ns) :=
  ⟨hS, fun _ _ => rfl, fun n hn => ⟨by rw [freezeAll_live]; exact hn, rfl⟩⟩

theorem set_middle {α : Type} : ∀ (l : List α) (i : Nat) (x y : α), l[i]? = some x → l.set i y = l.take i ++ y :: l.drop (i + 1)
  | [], i, x, y, h => by simp at h
  | a :: l, 0, x, y, h => by simp
  | a :: l, i + 1, x, y, h => by simp at h; simp [set_middle l i x y h]

theorem take_splice (L V2 A B : List Value) (o : Nat) (h : o + A.length ≤ V2.length) (pre post : List Value) (hL : L = pre ++ (V2 ++ post)) :
    L.take (pre.length + o) ++ A ++ L.drop (pre.length + o + A.length) = pre ++ ((V2.take o ++ A ++ V2.drop (o + A.length)) ++ post) := by
  subst hL
  rw [List.take_append, List.drop_append, List.drop_append, List.take_append]
  simp [Nat.add_sub_cancel_left, List.drop_eq_nil_of_le, show pre.length ≤ pre.length + o + A.length by omega, show pre.length + o + A.length - pre.length = o + A.length by omega, show o - V2.length = 0 by omega, show o + A.length - V2.length = 0 by omega, List.take_of_length_le]

theorem storeRow_sound {ρ : Type} {cx : Cx} {φ : Nat → Value} {S : Nat → Prop} {w : World} {st : St} {h : Nat → B} {t : TypeId} {i : TI} (ok : TIok P t i) (m : RelH cx φ S h w) {n j sz off g : Nat} (hg : blk (φ n) = some g)
    {new : List C} {vv : Value} (hcells : All2 (RelC S w φ h) new vv.cells.toList) (hsz : new.length = i.size) (hfz : ∀ k ∈ rowsIn new, (h k).isRow = false) {κ : St → Option ρ} {r : ρ} (hl : storeRow st h sz off j n new κ = some r) :
    ∃ st' w', κ st' = some r ∧ (Instr.storeAt t (.pointer (some ⟨g, j * sz + off, none⟩)) vv).run P w = .ok () w' ∧ RelH cx φ S st'.h w' ∧ st'.t = st.t ∧ Later S S w w' φ φ h st'.h := by
  unfold storeRow at hl
  have hn := m.b n
  split at hl
  · rename_i e0 u l e
    rw [e] at hn
    cases hsu : Nat.beq sz u.n with
    | false => rw [hsu] at hl; cases hl
    | true =>
      have := Nat.eq_of_beq_eq_true hsu; subst this
      rw [hsu] at hl
      simp only [cond_true] at hl
      obtain ⟨x, hx, hl⟩ := Option.bind_eq_some_iff.1 hl
      split at hl
      · rename_i cs ht
        obtain ⟨hle, rfl⟩ := splice_some ht
        split at hl
        · rename_i y hy
          have hvs : vv.cells.size = i.size := by have := hcells.length; rw [← hsz, this, Array.length_toList]
          have h1 := hcells.one
          obtain ⟨hun, flat, ho, hfl, hok⟩ := hn
          obtain ⟨v1, v2, v3, hflat, hl1, hrep, hr1, hr3⟩ := hfl.at hx
          subst hflat
          rcases ho.2 with ⟨h0, _⟩ | ⟨g', cap, cur, hφ, _, hh, hcl, hcm, hcs, htk⟩
          · rw [h0] at hg; cases hg
          · rw [hφ] at hg; cases hg
            have hv2 : v2.length = u.n := hrep.length
            have hjl : j < l.length := by
              rcases Nat.lt_or_ge j l.length with q | q
              · exact q
              · rw [List.getElem?_eq_none q] at hx; cases hx
            have hjn : j * u.n + u.n ≤ l.length * u.n := by rw [← Nat.succ_mul]; exact Nat.mul_le_mul_right _ hjl
            have hcap : l.length * u.n ≤ cur.size := by rw [hcs]; exact Nat.mul_le_mul_right _ hcl
            have hon : off + new.length ≤ u.n := by rw [toCells_length] at hle; exact hle
            have hvn : vv.cells.toList.length = new.length := hcells.length.symm
            have hvs' : vv.cells.size = vv.cells.toList.length := (Array.length_toList).symm
            have hfit : j * u.n + off + vv.cells.size ≤ cur.size := by omega
            have hrun := run_storeAt ok (o := j * u.n + off) hh hvs hfit h1
            have hcur : cur.toList = v1 ++ (v2 ++ (v3 ++ cur.toList.drop (l.length * u.n))) := by
              have := List.take_append_drop (l.length * u.n) cur.toList
              rw [htk] at this
              simpa using this.symm
            have hsp := take_splice cur.toList v2 vv.cells.toList [] off (by omega) v1 _ hcur
            rw [hl1, ← hvs'] at hsp
            rw [hsp] at hrun
            generalize hnew : (v1 ++ ((v2.take off ++ vv.cells.toList ++ v2.drop (off + vv.cells.size)) ++ (v3 ++ cur.toList.drop (l.length * u.n)))).toArray = nv at hrun
            have hnv : nv.toList = v1 ++ ((v2.take off ++ vv.cells.toList ++ v2.drop (off + vv.cells.size)) ++ (v3 ++ cur.toList.drop (l.length * u.n))) := by rw [← hnew]
            have hmid : (v2.take off ++ vv.cells.toList ++ v2.drop (off + vv.cells.size)).length = u.n := by simp; omega
            obtain ⟨f1, f2, f3, f4, f5⟩ := setRow_facts w g' nv
            have hmut : (h n).mut = true := by rw [e]; rfl
            have hbk : blk (φ n) = some g' := by rw [hφ]; rfl
            have hkeep : ∀ g, g < w.heap.size → (∀ n', some n = some n' → blk (φ n') ≠ some g) → (w.setRow g' nv).heap[g]? = w.heap[g]? := fun g _ hne => f5 g fun eg => hne n rfl (by rw [eg]; exact hbk)
            have hlat := Later.of_change m (w' := w.setRow g' nv) (some n) (fun k hk => by cases hk; exact hmut) hkeep n (.row e0 u (l.set j y)) (φ n) rfl (.inl ⟨rfl, rfl⟩)
            have hkS : ∀ g, S g → (w.setRow g' nv).heap[g]? = w.heap[g]? := hlat.k
            have hm' := m.change (w' := w.setRow g' nv) f1 f2 f3 (Nat.le_of_eq f4.symm) (some n) (fun k hk => by cases hk; exact hmut) hkeep n (.row e0 u (l.set j y)) (φ n) rfl (.inl ⟨rfl, rfl⟩)
              (fun g hg => .inl ⟨n, rfl, hg⟩) (fun h' hh' => by
                refine ⟨hun, v1 ++ ((v2.take off ++ vv.cells.toList ++ v2.drop (off + vv.cells.size)) ++ v3), ⟨?_, .inr ⟨g', cap, nv, ?_, Nat.zero_le _, setRow_heap w g' cur nv e0 (0, 0) hh, ?_, hcm, ?_, ?_⟩⟩, ?_, hok⟩
                · have hlen3 : v3.length = (l.length - (j + 1)) * u.n := by have := hr3.length; simpa using this
                  have hx2 : l.length * u.n = j * u.n + u.n + (l.length - (j + 1)) * u.n := by
                    rw [← Nat.succ_mul, ← Nat.add_mul]; congr 1; omega
                  simp only [List.length_append, hl1, List.length_set] at hmid ⊢
                  omega
                · rw [hφ, List.length_set]
                · rw [List.length_set]; exact hcl
                · have e4 : nv.size = cur.size := by
                    have e5 := congrArg List.length hnv
                    have e6 := congrArg List.length hcur
                    simp only [Array.length_toList, List.length_append] at e5 e6 hmid
                    omega
                  rw [e4, hcs]
                · rw [hnv, List.length_set]
                  have hlen : (v1 ++ ((v2.take off ++ vv.cells.toList ++ v2.drop (off + vv.cells.size)) ++ v3)).length = l.length * u.n := by
                    have hlen0 := ho.1
                    simp only [List.length_append] at hmid hlen0 ⊢
                    omega
                  generalize cur.toList.drop (l.length * u.n) = tl
                  rw [← hlen, show v1 ++ ((v2.take off ++ vv.cells.toList ++ v2.drop (off + vv.cells.size)) ++ (v3 ++ tl)) = (v1 ++ ((v2.take off ++ vv.cells.toList ++ v2.drop (off + vv.cells.size)) ++ v3)) ++ tl by simp]
                  exact List.take_left
                · rw [set_middle l j x y hx]
                  have hmono : ∀ (q : El u) (vs : List Value), Rep S w u q vs → Rep S (w.setRow g' nv) u q vs := fun q vs hq => Rep.mono (fun _ h => h) hkS hq
                  refine (hr1.mono hmono).append ⟨_, _, rfl, hmono _ _ ?_, hr3.mono hmono⟩
                  have hbase := relC_toCells (φ := φ) (h := h) hrep
                  have hall := ((hbase.take off).append hcells).append (hbase.drop (off + new.length))
                  rw [hvs', hvn]
                  refine rep_datum m.b (fun _ h => h) hall hy fun k hk hrow => ?_
                  simp only [rowsIn_append, List.mem_append] at hk
                  have hno : ∀ k, k ∈ rowsIn (toCells u x) → False := fun k hk => by rw [rowsIn_toCells] at hk; cases hk
                  rcases hk with (hk | hk) | hk
                  · exact (hno k (rowsIn_sub_take _ _ k hk)).elim
                  · rw [hfz k hk] at hrow; cases hrow
                  · exact (hno k (rowsIn_sub_drop _ _ k hk)).elim)
            rw [show giveUp h (some n) = upd h n .gone from rfl, upd_upd, upd_self] at hm' hlat
            exact ⟨_, _, hl, hrun, hm', rfl, hlat⟩
        · cases hl
      · cases hl
  · cases hl

theorem freezeAll_row (ns : List Nat) : ∀ (h : Nat → B), ∀ k ∈ ns, (freezeAll h ns k).isRow = false := by
  induction ns with
  | nil => simp
  | cons n r ih =>
    intro h k hk
    rw [freezeAll]
    by_cases hr : k ∈ r
    · exact ih _ k hr
    · rcases List.mem_cons.1 hk with rfl | h1
      · have key : ∀ (r : List Nat) (h : Nat → B) (k : Nat), (h k).isRow = false → (freezeAll h r k).isRow = false := by
          intro r
          induction r with
          | nil => intro h k hk; exact hk
          | cons n r ih =>
            intro h k hk
            rw [freezeAll]
            refine ih _ k ?_
            by_cases e : k = n
            · subst e; rw [upd_same]; cases h k <;> rfl
            · rw [upd_ne _ _ e]; exact hk
        refine key r _ k ?_
        rw [upd_same]; cases h k <;> rfl
      · exact absurd h1 hr

theorem store_sound {ρ : Type} {cx : Cx} {φ : Nat → Value} {S : Nat → Prop} {w : World} {st : St} {t : TypeId} {i : TI} (ok : TIok P t i) (m : RelH cx φ S st.h w) {a : C} {av : Value} (hr : RelC S w φ st.h a av)
    {v : V} {vv : Value} (hv : RelV S w φ st.h v vv) {κ : St → Option ρ} {r : ρ} (hl : store st i a v κ = some r) :
    ∃ st' S' w', κ st' = some r ∧ (Instr.storeAt t av vv).run P w = .ok () w' ∧ RelH cx φ S' st'.h w' ∧ st'.t = st.t ∧ Later S S' w w' φ φ st.h st'.h := by
  unfold store at hl
  cases hc : v.cells with
  | none => rw [hc] at hl; cases hl
  | some new =>
    rw [hc] at hl
    simp only at hl
    have hcells := relV_cells hv hc
    cases hsz : Nat.beq new.length i.size with
    | false => rw [hsz] at hl; cases hl
    | true =>
      have hsz' := Nat.eq_of_beq_eq_true hsz
      rw [hsz] at hl
      simp only [cond_true] at hl
      have hvs : vv.cells.size = i.size := by rw [← hsz', hcells.length, Array.length_toList]
      have h1 := hcells.one
      cases a with
      | ptr n j sz off =>
        obtain ⟨hlive, g, hg, rfl⟩ := hr
        have hn := m.b n
        simp only at hl
        split at hl
        · rename_i t' cs e
          rw [e] at hn
          obtain ⟨g', vals, hφ, hh, ha, hok⟩ := hn
          rw [hφ] at hg; cases hg
          split at hl
          · rename_i cs' ht
            obtain ⟨hle, rfl⟩ := splice_some ht
            have hfit : 0 * sz + off + vv.cells.size ≤ vals.size := by
              have e3 := ha.length
              have e4 : vals.toList.length = vals.size := Array.length_toList
              omega
            have hrun := run_storeAt ok (o := 0 * sz + off) hh hvs hfit h1
            have e2 : vv.cells.size = new.length := by rw [hvs, hsz']
            rw [e2, show 0 * sz + off = off by omega] at hrun
            generalize hnew : (vals.toList.take off ++ vv.cells.toList ++ vals.toList.drop (off + new.length)).toArray = nv at hrun
            have hnv : nv.toList = vals.toList.take off ++ vv.cells.toList ++ vals.toList.drop (off + new.length) := by rw [← hnew]
            obtain ⟨f1, f2, f3, f4, f5⟩ := setRow_facts w g' nv
            have hmut : (st.h n).mut = true := by rw [e]; rfl
            have hbk : blk (φ n) = some g' := by rw [hφ]; rfl
            have hkeep : ∀ g, g < w.heap.size → (∀ n', some n = some n' → blk (φ n') ≠ some g) → (w.setRow g' nv).heap[g]? = w.heap[g]? := fun g _ hne => f5 g fun eg => hne n rfl (by rw [eg]; exact hbk)
            have hlat := Later.of_change m (w' := w.setRow g' nv) (some n) (fun k hk => by cases hk; exact hmut) hkeep n (.box t' (cs.take off ++ new ++ cs.drop (off + new.length))) (φ n) rfl (.inl ⟨rfl, rfl⟩)
            have hm' := m.change (w' := w.setRow g' nv) f1 f2 f3 (Nat.le_of_eq f4.symm) (some n) (fun k hk => by cases hk; exact hmut) hkeep n (.box t' (cs.take off ++ new ++ cs.drop (off + new.length))) (φ n) rfl (.inl ⟨rfl, rfl⟩)
              (fun g hg => .inl ⟨n, rfl, hg⟩) (fun h' hh' => by
                subst hh'
                refine ⟨g', nv, hφ, setRow_heap w g' vals nv t' (0, 0) hh, ?_, hok⟩
                rw [hnv]
                exact (((ha.take off).append hcells).append (ha.drop (off + new.length))).mono fun c x hcx => RelC.mono hlat.s hlat.k hlat.l hcx)
            rw [show giveUp st.h (some n) = upd st.h n .gone from rfl, upd_upd, upd_self] at hm' hlat
            refine ⟨_, S, _, hl, ?_, hm', rfl, hlat⟩
            rw [show 0 * sz + off = off by omega]; exact hrun
          · cases hl
        · rename_i e
          obtain ⟨S', hS, m', _⟩ := m.freezeAll (rowsIn new)
          have hlat0 := Later.of_freeze (φ := φ) (h := st.h) (w := w) hS (rowsIn new)
          obtain ⟨st', w', h1, h2, h3, h4, h5⟩ := storeRow_sound ok m' hg (hcells.mono fun c x hcx => hlat0.relC hcx) hsz' (freezeAll_row _ _) hl
          exact ⟨st', S', w', h1, h2, h3, h4, hlat0.trans h5⟩
        · cases hl
      | _ => cases hl
end Go.Proofs.Ytcijmfodhdigpaa.R1
