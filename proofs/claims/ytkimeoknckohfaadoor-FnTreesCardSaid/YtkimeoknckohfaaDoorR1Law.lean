/- The row of a law: what comes in reads as data; the contract of the law's function, as the row wants it. -/
import Derived.Test.YtkimeoknckohfaaDoorR1Tools
import Derived.Deep.Slices
import Derived.ChangeArms
import Derived.WideShapes
import Derived.Below
namespace Go.Proofs.YtkimeoknckohfaaDoor.R1
open Go.RowKit Go.Deep Go.WideShapes
set_option linter.unusedVariables false

/-- Whether a law's plain twin says true. -/
def yes (o : Option ((Bool × Unit) × Unit)) : Bool := match o with
  | some ((true, _), _) => true
  | _ => false

theorem yes_some {o : Option ((Bool × Unit) × Unit)} (h : yes o = true) : o = some ((true, ()), ()) := by
  match o, h with
  | some ((true, ()), ()), _ => rfl

abbrev Old (w : World) : Nat → Prop := fun g => g < w.heap.size

/-- What is known of data that came in. -/
def Ok : (u : U) → El u → Prop
  | .int k, n => (Lit.int k n).wf = true
  | .bool, _ => True
  | .str, s => s.size ≤ maxLen
  | .unit, _ => True
  | .pair a b, x => Ok a x.1 ∧ Ok b x.2
  | .sl e, l => l.length ≤ maxLen ∧ ∀ y ∈ l, Ok e y

/-- Whatever reads as data at type t is data of the kind u. -/
def Opn (P : Program) (t : TypeId) (u : U) : Prop :=
  ∀ {H : Type} (enc : TypeId × Value → H) (w : World) (base : Nat) (spare : Nat → Bool) (held : Bool) (fuel : Nat) (cs : List Value) (x : DataW H × List MemPlace),
    DataW.trod enc P w base spare held fuel t cs = some x → ∃ a : El u, Rep (Old w) w u a cs ∧ Ok u a

theorem opn_int {P : Program} {t : TypeId} {k : IntKind} (hu : P.underlying t = some (.int k)) : Opn P t (.int k) := by
  intro H enc w base spare held fuel cs x h
  obtain ⟨n, rfl, _, hw⟩ := DataW.trod_int hu h
  exact ⟨n, rfl, hw⟩

theorem opn_bool {P : Program} {t : TypeId} (hu : P.underlying t = some .bool) : Opn P t .bool := by
  intro H enc w base spare held fuel cs x h
  obtain ⟨b, rfl, _⟩ := DataW.trod_bool hu h
  exact ⟨b, rfl, trivial⟩

theorem opn_string {P : Program} {t : TypeId} (hu : P.underlying t = some .string) : Opn P t .str := by
  intro H enc w base spare held fuel cs x h
  obtain ⟨s, rfl, _, hs⟩ := DataW.trod_string hu h
  exact ⟨s, rfl, hs⟩

theorem Mem.of_cells {w : World} {base : Nat} {a : Addr} {n : Nat} {cs : List Value} (h : w.cells? base a n = some cs) : Mem w a cs := by
  intro i u hi
  unfold World.cells? at h
  split at h
  · have hl := mapM_some_length h
    have hlt : i < n := by
      have := (List.getElem?_eq_some_iff.1 hi).1
      simp at hl
      omega
    have := mapM_some_get h i i (by simp [hlt])
    rw [this]
    exact hi
  · simp at h

theorem Mem.append {w : World} {a : Addr} {l r : List Value} (h1 : Mem w a l) (h2 : Mem w (a.add l.length) r) : Mem w a (l ++ r) := by
  intro j v hv
  by_cases hj : j < l.length
  · rw [List.getElem?_append_left hj] at hv; exact h1 j v hv
  · rw [List.getElem?_append_right (by omega)] at hv
    have := h2 _ v hv
    rwa [add_add, show l.length + (j - l.length) = j by omega] at this

theorem opn_slice {P : Program} {t e : TypeId} {u : U} (hu : P.underlying t = some (.slice e)) (hd : Opn P e u) (hsz : P.cellsOf e = u.n) : Opn P t (.sl u) := by
  intro H enc w base spare held fuel cs x h
  rcases open_slice hu h with ⟨rfl, _⟩ | ⟨a, len, cap, m, n, D, Pl, rfl, _, hl, hc, hm, _, hel⟩
  · exact ⟨[], ⟨none, 0, [], rfl, Nat.le_refl _, rfl, rfl, rfl⟩, Nat.zero_le _, fun y hy => by cases hy⟩
  · have hlm : len ≤ m := by rw [hm]; split <;> omega
    have key : ∀ j, j ≤ len → ∃ (l : List (El u)) (flat : List Value), l.length = j ∧ RepL (Rep (Old w) w u) l flat ∧ Mem w a flat ∧ ∀ y ∈ l, Ok u y := by
      intro j
      induction j with
      | zero => exact fun _ => ⟨[], [], rfl, rfl, fun j v hv => by simp at hv, fun y hy => by cases hy⟩
      | succ j ih =>
        intro hj
        obtain ⟨l, flat, h1, h2, h3, h4⟩ := ih (by omega)
        obtain ⟨cs', k1, k2⟩ := hel j (by omega)
        obtain ⟨y, hy, hok⟩ := hd enc w base spare held n cs' _ k2
        refine ⟨l ++ [y], flat ++ cs', by simp [h1], h2.append ⟨cs', [], by simp, hy, rfl⟩, h3.append ?_, fun z hz => ?_⟩
        · rw [h2.length, h1, ← hsz]; exact Mem.of_cells k1
        · rcases List.mem_append.1 hz with hz | hz
          · exact h4 z hz
          · obtain rfl := List.mem_singleton.1 hz; exact hok
    obtain ⟨l, flat, h1, h2, h3, h4⟩ := key len (Nat.le_refl _)
    exact ⟨l, ⟨some a, cap, flat, by rw [h1], by rw [h1]; exact hl, h2, h3, fun hne => h3.lt hne⟩, by rw [h1]; omega, h4⟩

theorem list_cons {l : List Value} {n : Nat} (h : l.length = n + 1) : ∃ a r, l = a :: r ∧ r.length = n := by
  cases l with
  | nil => cases h
  | cons a r => exact ⟨a, r, rfl, by simpa using h⟩

theorem temps_rel {S : Nat → Prop} {w : World} {φ : Nat → Value} {h : Nat → B} {i : Nat} {k : VK} {r : List (Nat × VK)} {x : VKsT ((i, k) :: r)} {a : Nat → Value} (h0 : RelW S w φ h (k.mkW x.1) (a i)) (hr : ∀ j, RelV S w φ h (tempsOf r x.2 j) (a j)) :
    ∀ j, RelV S w φ h (tempsOf ((i, k) :: r) x j) (a j) := by
  intro j
  simp only [tempsOf]
  by_cases e : j = i
  · subst e; rw [upd_same]; exact h0
  · rw [upd_ne _ _ e]; exact hr j

/-- THE LAW'S CALL, as the row wants it. -/
theorem law_calls {P : Program} {glob : Nat → B} (hglob : ∀ n, glob n = .free) {e : Entry} (hs : Sound P glob e) {k : Nat} {v : e.ar.V} {o : e.res.V} (h : e.f k v = some o) (w : World) (args : Array Value)
    (hh : (e.ar.st glob v).h = glob) (ht : ∀ i, RelV (Old w) w (fun _ => undef) glob ((e.ar.st glob v).t i) (args.getD i undef)) (hsz : args.size = e.ar.temps.length) :
    Calls P e.id args w fun en w' => ∃ S' φ' val, en = .returned val ∧ Below w.heap.size w w' ∧ RelV S' w' φ' (e.res.st glob o).h (retV (retsOf e.res.temps o.1)) val := by
  have hm : RelH ⟨glob, w, fun _ => False, Old w, fun _ => undef⟩ (fun _ => undef) (Old w) (e.ar.st glob v).h w := by
    rw [hh]
    exact { b := fun n => by rw [hglob]; trivial
            apart := fun n m g _ hm => by rw [hglob] at hm; cases hm
            sep := fun n g hm => by rw [hglob] at hm; cases hm
            inS := fun g hg _ => .inl hg
            lt := fun g hg => hg
            glob := fun g _ hl => by rw [hglob] at hl; cases hl
            gl := fun n _ => ⟨rfl, by rw [hglob]; rfl⟩
            kp := fun n _ hl => rfl
            keep := ⟨rfl, rfl, rfl, Nat.le_refl _, fun _ _ _ => rfl⟩ }
  refine ((hs.2 k).2 v o h ⟨glob, w, fun _ => False, Old w, fun _ => undef⟩ (fun _ => undef) (Old w) w args rfl rfl rfl hm (by rw [hh]; exact ht) hsz).mono fun en w' hp => ?_
  obtain ⟨φ', S', val, h1, h2, h3⟩ := hp
  exact ⟨S', φ', val, h1, ⟨h2.keep.os, h2.keep.tape, h2.keep.output, h2.keep.size, fun k hk => h2.keep.block k hk (fun h => h)⟩, h3⟩

/-- A law of one answer, true or false. -/
theorem law_true {P : Program} {glob : Nat → B} (hglob : ∀ n, glob n = .free) {id : Nat} {ar : Spec} {f : Nat → ar.V → Option (Spec.mk [(0, .c .bool)] [] []).V} (hs : Sound P glob ⟨id, ar, ⟨[(0, .c .bool)], [], []⟩, f⟩) {k : Nat} {v : ar.V} {b : Bool} (h : f k v = some ((b, ()), ())) (w : World) (args : Array Value)
    (hh : (ar.st glob v).h = glob) (ht : ∀ i, RelV (Old w) w (fun _ => undef) glob ((ar.st glob v).t i) (args.getD i undef)) (hsz : args.size = ar.temps.length) :
    Calls P id args w fun en w' => en = .returned (.bool b) ∧ Below w.heap.size w w' := by
  refine (law_calls hglob hs h w args hh ht hsz).mono fun en w' hp => ?_
  obtain ⟨S', φ', val, h1, h2, h3⟩ := hp
  have h3 : val = .bool b := h3
  exact ⟨by rw [h1, h3], h2⟩
end Go.Proofs.YtkimeoknckohfaaDoor.R1
