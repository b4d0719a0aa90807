/- Package variables that are read as they were laid. -/
import Derived.Test.YtkimeoknckohfaaDoorR1Law
import Derived.OpenShut
import Derived.Carry
import Derived.Lib.LaidU8
import Derived.Lib.SmallJoins
namespace Go.Proofs.YtkimeoknckohfaaDoor.R1
open Go.RowKit Go.Deep Go.WideShapes
set_option linter.unusedVariables false

/-! ### What a datum's cells are -/
def cellsL (P : Program) (rec : TypeId → DataW Unit → Option (List Value)) : Nat → List (Nat × TypeId) → List (DataW Unit) → Option (List Value)
  | _, [], [] => some []
  | off, (o, t) :: ps, d :: ds => match rec t d with
    | some vs => match Nat.beq o off, Nat.beq vs.length (P.cellsOf t) with
      | true, true => match cellsL P rec (off + vs.length) ps ds with
        | some r => some (vs ++ r)
        | none => none
      | _, _ => none
    | none => none
  | _, _, _ => none

def whole (P : Program) (t : TypeId) : Option (List Value) → Option (List Value)
  | some r => bif Nat.beq r.length (P.cellsOf t) then some r else none
  | none => none

def cellsD (P : Program) : Nat → TypeId → DataW Unit → Option (List Value)
  | 0, _, _ => none
  | k + 1, t, d => match P.underlying t, d with
    | some (.int kk), .lit (.int _ n) => some [.int kk n]
    | some .bool, .lit (.bool b) => some [.bool b]
    | some (.array n e), .agg ds => whole P t (cellsL P (cellsD P k) 0 ((List.range n).map fun i => (i * P.cellsOf e, e)) ds)
    | some (.struct fs), .agg ds => whole P t (cellsL P (cellsD P k) 0 (fs.toList.map fun f => (f.offset, f.type)) ds)
    | _, _ => none

section
variable {P : Program} {w : World} {base : Nat} {sp : Nat → Bool} {held : Bool} {enc : TypeId × Value → Unit}

theorem cellsL_sound {rec : TypeId → DataW Unit → Option (List Value)} {cs : List Value} (hrec : ∀ (t : TypeId) (d : DataW Unit) (fuel : Nat) (cs : List Value) (p : List MemPlace) (vs : List Value), DataW.trod enc P w base sp held fuel t cs = some (d, p) → rec t d = some vs → cs = vs) :
    ∀ (ps : List (Nat × TypeId)) (ds : List (DataW Unit)) (off : Nat) (r : List Value),
      (∀ (i o : Nat) (t : TypeId) (d : DataW Unit), ps[i]? = some (o, t) → ds[i]? = some d → ∃ fuel p, DataW.trod enc P w base sp held fuel t ((cs.drop o).take (P.cellsOf t)) = some (d, p)) →
      cellsL P rec off ps ds = some r → (cs.drop off).take r.length = r
  | [], [], off, r, _, h => by simp only [cellsL] at h; injection h with h; subst h; simp
  | [], _ :: _, off, r, _, h => by cases h
  | _ :: _, [], off, r, _, h => by cases h
  | (o, t) :: ps, d :: ds, off, r, hall, h => by
    simp only [cellsL] at h
    split at h
    · rename_i vs e1
      split at h
      · rename_i h1 h2
        split at h
        · rename_i r' e2
          injection h with h; subst h
          have h1 := Nat.eq_of_beq_eq_true h1
          have h2 := Nat.eq_of_beq_eq_true h2
          subst h1
          obtain ⟨fuel, p, ht⟩ := hall 0 o t d rfl rfl
          have e3 := hrec t d fuel _ p vs ht e1
          have e4 := cellsL_sound hrec ps ds (o + vs.length) r' (fun i o' t' d' hp hd => hall (i + 1) o' t' d' (by simpa using hp) (by simpa using hd)) e2
          rw [List.length_append, List.take_add, List.drop_drop, e4, h2, e3]
        · cases h
      · cases h
    · cases h

theorem whole_some {t : TypeId} {x : Option (List Value)} {r : List Value} (h : whole P t x = some r) : x = some r ∧ r.length = P.cellsOf t := by
  unfold whole at h
  split at h
  · rename_i r'
    cases e : Nat.beq r'.length (P.cellsOf t) with
    | false => rw [e] at h; cases h
    | true => rw [e] at h; injection h with h; subst h; exact ⟨rfl, Nat.eq_of_beq_eq_true e⟩
  · cases h

theorem cellsD_sound : ∀ (k : Nat) (t : TypeId) (d : DataW Unit) (fuel : Nat) (cs : List Value) (p : List MemPlace) (vs : List Value), DataW.trod enc P w base sp held fuel t cs = some (d, p) → cellsD P k t d = some vs → cs = vs := by
  intro k
  induction k with
  | zero => intro t d fuel cs p vs _ h; cases h
  | succ k ih =>
    intro t d fuel cs p vs ht h
    simp only [cellsD] at h
    split at h
    · rename_i kk k' n e1
      injection h with h; subst h
      obtain ⟨n', rfl, hx, _⟩ := DataW.trod_int e1 ht
      injection hx with hx _
      injection hx with hx
      injection hx with _ hx
      subst hx; rfl
    · rename_i b e1
      injection h with h; subst h
      obtain ⟨b', rfl, hx⟩ := DataW.trod_bool e1 ht
      injection hx with hx _
      injection hx with hx
      injection hx with hx
      subst hx; rfl
    · rename_i n e ds e1
      obtain ⟨h1, h2⟩ := whole_some h
      obtain ⟨xs, m, _, hx, hlen, hxl, hel⟩ := DataW.trod_array e1 ht
      injection hx with hx _
      injection hx with hx
      subst hx
      have := cellsL_sound (cs := cs) (fun t d fuel cs p vs h1 h2 => ih t d fuel cs p vs h1 h2) _ _ 0 vs (fun i o t' d' hp hd => by
        rw [List.getElem?_map] at hp
        cases q : (List.range n)[i]? with
        | none => rw [q] at hp; cases hp
        | some j =>
          rw [q] at hp
          have hij : j = i ∧ i < n := by
            have := List.getElem?_eq_some_iff.1 q
            obtain ⟨q1, q2⟩ := this
            simp at q1 q2; omega
          obtain ⟨rfl, hi⟩ := hij
          simp only [Option.map_some, Option.some.injEq, Prod.mk.injEq] at hp
          obtain ⟨rfl, rfl⟩ := hp
          rw [List.getElem?_map] at hd
          cases q2 : xs[j]? with
          | none => rw [q2] at hd; cases hd
          | some y =>
            rw [q2] at hd
            simp only [Option.map_some, Option.some.injEq] at hd
            subst hd
            exact ⟨m, y.2, by rw [hel j hi, q2]⟩) h1
      rw [h2, ← hlen] at this
      simpa using this
    · rename_i fs ds e1
      obtain ⟨h1, h2⟩ := whole_some h
      obtain ⟨xs, m, _, hx, hlen, hxl, hel⟩ := DataW.trod_struct e1 ht
      injection hx with hx _
      injection hx with hx
      subst hx
      have := cellsL_sound (cs := cs) (fun t d fuel cs p vs h1 h2 => ih t d fuel cs p vs h1 h2) _ _ 0 vs (fun i o t' d' hp hd => by
        rw [List.getElem?_map] at hp
        cases q : fs.toList[i]? with
        | none => rw [q] at hp; cases hp
        | some f =>
          rw [q] at hp
          simp only [Option.map_some, Option.some.injEq, Prod.mk.injEq] at hp
          obtain ⟨rfl, rfl⟩ := hp
          rw [List.getElem?_map] at hd
          cases q2 : xs[i]? with
          | none => rw [q2] at hd; cases hd
          | some y =>
            rw [q2] at hd
            simp only [Option.map_some, Option.some.injEq] at hd
            subst hd
            exact ⟨m, y.2, by rw [hel i f (by simpa using q), q2]⟩) h1
      rw [h2, ← hlen] at this
      simpa using this
    · cases h
end

/-! ### The blocks of package variables -/
/-- A package variable holds these elements. -/
def GlobAt (W : World) (g : Nat) (u : U) (l : List (El u)) : Prop := ∃ flat, RepL (Rep (Old W) W u) l flat ∧ Mem W ⟨g, 0, none⟩ flat

def GlobsAt (W : World) : List (Nat × B) → Prop
  | [] => True
  | (n, .ro _ u l) :: r => (isGlob n = true ∧ 0 < u.n ∧ GlobAt W (n - 1000000) u l) ∧ GlobsAt W r
  | (n, .glo q) :: r => (isGlob n = true ∧ ∃ ob, W.heap[n - 1000000]? = some ob ∧ q ob) ∧ GlobsAt W r
  | _ :: _ => False

theorem globsAt {W : World} : ∀ {l : List (Nat × B)}, GlobsAt W l → ∀ n, globOf l n = .free ∨ (∃ t u xs, globOf l n = .ro t u xs ∧ isGlob n = true ∧ 0 < u.n ∧ GlobAt W (n - 1000000) u xs) ∨ ∃ q ob, globOf l n = .glo q ∧ isGlob n = true ∧ W.heap[n - 1000000]? = some ob ∧ q ob
  | [], _, n => .inl rfl
  | (m, b) :: r, h, n => by
    cases b with
    | ro t u xs =>
      obtain ⟨⟨h1, h2, h3⟩, h4⟩ := h
      unfold globOf
      simp only [assoc]
      cases e : Nat.beq m n with
      | true =>
        have := Nat.eq_of_beq_eq_true e; subst this
        exact .inr (.inl ⟨t, u, xs, rfl, h1, h2, h3⟩)
      | false => exact globsAt h4 n
    | glo q =>
      obtain ⟨⟨h1, ob, h2, h3⟩, h4⟩ := h
      unfold globOf
      simp only [assoc]
      cases e : Nat.beq m n with
      | true =>
        have := Nat.eq_of_beq_eq_true e; subst this
        exact .inr (.inr ⟨q, ob, rfl, h1, h2, h3⟩)
      | false => exact globsAt h4 n
    | _ => exact h.elim

/-- A datum's elements. -/
def dataOf (P : Program) (k n : Nat) (t : TypeId) (d : DataW Unit) (u : U) : Option (List (El u)) := match cellsD P k t d with
  | some vs => match ofCellList vs with
    | some cs => dataList (fun _ => .free) u n cs
    | none => none
  | none => none

theorem glob_at {P : Program} {W : World} {name : String} {d : DataW Unit} {g k n : Nat} {t : TypeId} {u : U} {xs : List (El u)} (h : Go.Lib.VarReads P W name d) (hg : P.globalNamed name = some g) (ht : (P.globals[g]?).map (·.type) = some t)
    (hx : dataOf P k n t d u = some xs) : GlobAt W g u xs := by
  unfold dataOf at hx
  split at hx
  · rename_i vs hc
    split at hx
    · rename_i cs ho
      obtain ⟨g', t', cs', fuel, p, h1, h2, h3, h4⟩ := h
      obtain rfl := Option.some.inj (hg.symm.trans h1)
      obtain rfl := Option.some.inj (ht.symm.trans h2)
      have e := cellsD_sound k t d fuel _ p vs h4 hc
      refine ⟨vs, (dataList_sound (φ := fun _ => undef) (h := fun _ => .free) (S := Old W) (w := W) (ok := fun _ => True) (fun _ => trivial) (fun _ h => h) (all2_ofCells ho) hx fun n hn => by rw [rowsIn_zero ho] at hn; cases hn).1, fun j v hv => ?_⟩
      rw [add_at, Nat.zero_add, World.var?_cell h1 h3 j]
      have : cs'.toList[j]? = some v := by rw [e]; exact hv
      simpa using this
    · cases hx
  · cases hx

theorem trodVars_next {H : Type} {enc : TypeId × Value → H} {P : Program} {w : World} {sp : Nat → Bool} {n : String} {ns : List String} {gs : List (DataW H)} {ps : List MemPlace} (h : DataW.TrodVars enc P w sp (n :: ns) gs ps) :
    ∃ d ds q, gs = d :: ds ∧ DataW.TrodVars enc P w sp ns ds q := by
  cases gs with
  | nil => exact h.elim
  | cons d ds => obtain ⟨g, t, cs, fuel, p, q, h1, h2, h3, h4, h5, _⟩ := h; exact ⟨d, ds, q, rfl, h5⟩

/-- THE LAW'S CALL, beside package variables. -/
theorem law_calls_g {P : Program} {gl : List (Nat × B)} {e : Entry} (hs : Sound P (globOf gl) e) {k : Nat} {v : e.ar.V} {o : e.res.V} (h : e.f k v = some o) (w : World) (hgl : GlobsAt w gl) (args : Array Value)
    (hh : (e.ar.st (globOf gl) v).h = globOf gl) (ht : ∀ φ i, RelV (Old w) w φ (globOf gl) ((e.ar.st (globOf gl) v).t i) (args.getD i undef)) (hsz : args.size = e.ar.temps.length) :
    Calls P e.id args w fun en w' => ∃ S' φ' val, en = .returned val ∧ Below w.heap.size w w' ∧ RelV S' w' φ' (e.res.st (globOf gl) o).h (retV (retsOf e.res.temps o.1)) val := by
  have key := globsAt hgl
  let φ : Nat → Value := fun n => match globOf gl n with
    | .ro _ _ l => .slice (some ⟨n - 1000000, 0, none⟩) l.length l.length
    | .glo _ => .slice (some ⟨n - 1000000, 0, none⟩) 0 0
    | _ => undef
  have nomut : ∀ n, (globOf gl n).mut = false := fun n => by rcases key n with e1 | ⟨t, u, xs, e1, _⟩ | ⟨q, ob, e1, _⟩ <;> rw [e1] <;> rfl
  have hm : RelH ⟨globOf gl, w, fun _ => False, Old w, φ⟩ φ (Old w) (e.ar.st (globOf gl) v).h w := by
    rw [hh]
    refine { b := fun n => ?_, apart := fun n m g _ hm => (by rw [nomut] at hm; cases hm), sep := fun n g hm => (by rw [nomut] at hm; cases hm), inS := fun g hg _ => .inl hg, lt := fun g hg => hg, glob := fun g hg hl => ?_,
             gl := fun n _ => ⟨rfl, nomut n⟩, kp := fun n _ hl => rfl, keep := ⟨rfl, rfl, rfl, Nat.le_refl _, fun _ _ _ => rfl⟩ }
    · rcases key n with e1 | ⟨t, u, xs, e1, h1, h2, flat, h3, h4⟩ | ⟨q, ob, e1, h1, h2, h3⟩
      · rw [e1]; trivial
      · rw [e1]
        refine ⟨h2, flat, xs.length, h3, Nat.le_refl _, .inr ⟨n - 1000000, ?_, h4, fun hne => h4.lt hne⟩⟩
        show pv (match globOf gl n with | .ro _ _ l => .slice (some ⟨n - 1000000, 0, none⟩) l.length l.length | .glo _ => .slice (some ⟨n - 1000000, 0, none⟩) 0 0 | _ => undef) = _
        rw [e1]; rfl
      · rw [e1]
        refine ⟨n - 1000000, ob, ?_, h2, h3, (Array.getElem?_eq_some_iff.1 h2).1⟩
        show blk (pv (match globOf gl n with | .ro _ _ l => .slice (some ⟨n - 1000000, 0, none⟩) l.length l.length | .glo _ => .slice (some ⟨n - 1000000, 0, none⟩) 0 0 | _ => undef)) = _
        rw [e1]; rfl
    · have e9 : gname g - 1000000 = g := by unfold gname; omega
      rcases key (gname g) with e1 | ⟨t, u, xs, e1, h1, h2, flat, h3, h4⟩ | ⟨q, ob, e1, h1, h2, h3⟩
      · rw [e1] at hl; cases hl
      · show blk (pv (match globOf gl (gname g) with | .ro _ _ l => _ | .glo _ => _ | _ => undef)) = _
        rw [e1]
        exact congrArg some e9
      · show blk (pv (match globOf gl (gname g) with | .ro _ _ l => _ | .glo _ => _ | _ => undef)) = _
        rw [e1]
        exact congrArg some e9
  refine ((hs.2 k).2 v o h ⟨globOf gl, w, fun _ => False, Old w, φ⟩ φ (Old w) w args rfl rfl rfl hm (by rw [hh]; exact ht φ) hsz).mono fun en w' hp => ?_
  obtain ⟨φ', S', val, h1, h2, h3⟩ := hp
  exact ⟨S', φ', val, h1, ⟨h2.keep.os, h2.keep.tape, h2.keep.output, h2.keep.size, fun k hk => h2.keep.block k hk (fun h => h)⟩, h3⟩

theorem law_true_g {P : Program} {gl : List (Nat × B)} {id : Nat} {ar : Spec} {f : Nat → ar.V → Option (Spec.mk [(0, .c .bool)] [] []).V} (hs : Sound P (globOf gl) ⟨id, ar, ⟨[(0, .c .bool)], [], []⟩, f⟩) {k : Nat} {v : ar.V} {b : Bool} (h : f k v = some ((b, ()), ())) (w : World) (hgl : GlobsAt w gl) (args : Array Value)
    (hh : (ar.st (globOf gl) v).h = globOf gl) (ht : ∀ φ i, RelV (Old w) w φ (globOf gl) ((ar.st (globOf gl) v).t i) (args.getD i undef)) (hsz : args.size = ar.temps.length) :
    Calls P id args w fun en w' => en = .returned (.bool b) ∧ Below w.heap.size w w' := by
  refine (law_calls_g hs h w hgl args hh ht hsz).mono fun en w' hp => ?_
  obtain ⟨S', φ', val, h1, h2, h3⟩ := hp
  have h3 : val = .bool b := h3
  exact ⟨by rw [h1, h3], h2⟩

/-! ### Package variables read behind the call as they read before -/
def varsOk (P : Program) (ns : List String) : Bool := ns.all fun n => match P.globalNamed n with
  | some g => match (P.globals[g]?).map (·.type) with
    | some t => P.readableRec t && decide (t < P.types.size)
    | none => true
  | none => true

theorem trodVars_below {H : Type} {enc : TypeId × Value → H} {P : Program} (hl : laidOutB P = true) {W W' : World} (hb : Below W.heap.size W W') : ∀ {ns : List String} {gs : List (DataW H)} {ps : List MemPlace}, varsOk P ns = true →
    DataW.TrodVars enc P W (fun _ => true) ns gs ps → DataW.TrodVars enc P W' (fun b => decide (b < W.heap.size)) ns gs ps
  | [], [], ps, _, h => h
  | [], _ :: _, ps, _, h => h.elim
  | _ :: _, [], ps, _, h => h.elim
  | n :: ns, d :: ds, ps, hok, h => by
    obtain ⟨g, t, cs, fuel, p, q, h1, h2, h3, h4, h5, h6⟩ := h
    unfold varsOk at hok
    simp only [List.all_cons, Bool.and_eq_true, h1, h2] at hok
    have k0 : DataW.Trod enc P W 0 (fun _ => true) true t (.agg cs) d p := ⟨fuel, h4⟩
    have lt0 : ∀ x ∈ p, x.block < W.heap.size := DataW.trod_lt fuel _ _ _ h4
    obtain ⟨fuel', h4'⟩ := Below.trod hl hok.1.1 (of_decide_eq_true hok.1.2) k0 hb lt0
    exact ⟨g, t, cs, fuel', p, q, h1, h2, Go.Joins.var_stays h1 h3 hb (Nat.le_refl _), h4', trodVars_below hl hb hok.2 h5, h6⟩
end Go.Proofs.YtkimeoknckohfaaDoor.R1
