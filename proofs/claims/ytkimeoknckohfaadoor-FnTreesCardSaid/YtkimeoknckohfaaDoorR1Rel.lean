/- What an abstract state says of the machine: how data lies in memory, whose the blocks are, and that this is kept. -/
import Derived.Test.YtkimeoknckohfaaDoorR1Run
import Derived.Maps.AppendAt
import Derived.Laws.OwnMore
import Derived.Laws.MakeOwn
import Derived.Below
namespace Go.Proofs.YtkimeoknckohfaaDoor.R1

def All2 {α β : Type} (r : α → β → Prop) : List α → List β → Prop
  | [], [] => True
  | a :: l, b :: m => r a b ∧ All2 r l m
  | _, _ => False

theorem All2.length {α β : Type} {r : α → β → Prop} : ∀ {l : List α} {m : List β}, All2 r l m → l.length = m.length
  | [], [], _ => rfl
  | _ :: l, _ :: m, h => by simp [All2.length h.2]
  | [], _ :: _, h => h.elim
  | _ :: _, [], h => h.elim

theorem All2.mono {α β : Type} {r r' : α → β → Prop} (hr : ∀ a b, r a b → r' a b) : ∀ {l : List α} {m : List β}, All2 r l m → All2 r' l m
  | [], [], _ => trivial
  | _ :: _, _ :: _, h => ⟨hr _ _ h.1, All2.mono hr h.2⟩
  | [], _ :: _, h => h.elim
  | _ :: _, [], h => h.elim

theorem All2.append {α β : Type} {r : α → β → Prop} : ∀ {l : List α} {m : List β} {l' : List α} {m' : List β}, All2 r l m → All2 r l' m' → All2 r (l ++ l') (m ++ m')
  | [], [], _, _, _, h => h
  | _ :: _, _ :: _, _, _, h, h' => ⟨h.1, All2.append h.2 h'⟩
  | [], _ :: _, _, _, h, _ => h.elim
  | _ :: _, [], _, _, h, _ => h.elim

theorem All2.get {α β : Type} {r : α → β → Prop} : ∀ {l : List α} {m : List β}, All2 r l m → ∀ {i : Nat} {a : α}, l[i]? = some a → ∃ b, m[i]? = some b ∧ r a b
  | [], [], _, i, a, h => by simp at h
  | _ :: l, b :: m, hh, 0, a, h => by simp at h; subst h; exact ⟨b, rfl, hh.1⟩
  | _ :: l, b :: m, hh, i + 1, a, h => by simp at h; obtain ⟨c, hc, hr⟩ := All2.get hh.2 h; exact ⟨c, by simpa using hc, hr⟩
  | [], _ :: _, h, _, _, _ => h.elim
  | _ :: _, [], h, _, _, _ => h.elim

theorem All2.take {α β : Type} {r : α → β → Prop} : ∀ {l : List α} {m : List β} (n : Nat), All2 r l m → All2 r (l.take n) (m.take n)
  | [], [], n, _ => by simp [All2]
  | _ :: _, _ :: _, 0, _ => by simp [All2]
  | _ :: _, _ :: _, n + 1, h => ⟨h.1, All2.take n h.2⟩
  | [], _ :: _, _, h => h.elim
  | _ :: _, [], _, h => h.elim

theorem All2.drop {α β : Type} {r : α → β → Prop} : ∀ {l : List α} {m : List β} (n : Nat), All2 r l m → All2 r (l.drop n) (m.drop n)
  | [], [], n, _ => by simp [All2]
  | _ :: _, _ :: _, 0, h => h
  | _ :: _, _ :: _, n + 1, h => All2.drop n h.2
  | [], _ :: _, _, h => h.elim
  | _ :: _, [], _, h => h.elim

theorem All2.split {α β : Type} {r : α → β → Prop} : ∀ {l l' : List α} {m : List β}, All2 r (l ++ l') m → ∃ m1 m2, m = m1 ++ m2 ∧ All2 r l m1 ∧ All2 r l' m2
  | [], l', m, h => ⟨[], m, rfl, trivial, h⟩
  | _ :: l, l', b :: m, h => by
    obtain ⟨m1, m2, rfl, h1, h2⟩ := All2.split h.2
    exact ⟨b :: m1, m2, rfl, ⟨h.1, h1⟩, h2⟩
  | _ :: _, _, [], h => h.elim

/-! ### Memory -/
def Mem (w : World) (a : Addr) (vs : List Value) : Prop := ∀ j v, vs[j]? = some v → w.cell? (a.add j) = some v

theorem add_block (a : Addr) (n : Nat) : (a.add n).block = a.block := by unfold Addr.add; split <;> rfl

theorem add_add (a : Addr) (n m : Nat) : (a.add n).add m = a.add (n + m) := by
  unfold Addr.add
  by_cases h : n = 0
  · subst h; simp
  · by_cases h' : m = 0
    · subst h'; simp [h]
    · rw [if_neg h, if_neg h', if_neg (by omega)]; simp [Nat.add_assoc]

theorem add_zero (a : Addr) : a.add 0 = a := by unfold Addr.add; simp

theorem add_at (g o n : Nat) : (⟨g, o, none⟩ : Addr).add n = ⟨g, o + n, none⟩ := by unfold Addr.add; split <;> simp_all

theorem Mem.kept {w w' : World} {a : Addr} {vs : List Value} (h : Mem w a vs) (hk : vs ≠ [] → w'.heap[a.block]? = w.heap[a.block]?) : Mem w' a vs := by
  intro j v hv
  rw [World.cell?_of_block (w := w)]
  · exact h j v hv
  · rw [add_block]; exact hk (by rintro rfl; simp at hv)

theorem Mem.lt {w : World} {a : Addr} {vs : List Value} (h : Mem w a vs) (hne : vs ≠ []) : a.block < w.heap.size := by
  cases vs with
  | nil => exact absurd rfl hne
  | cons v r => have := World.block_lt_of_cell? w _ (h 0 v rfl); rwa [add_block] at this

theorem Mem.part {w : World} {a : Addr} {v1 v2 : List Value} (h : Mem w a (v1 ++ v2)) : Mem w a v1 ∧ Mem w (a.add v1.length) v2 := by
  refine ⟨fun j v hv => h j v ?_, fun j v hv => ?_⟩
  · have : j < v1.length := by
      rcases Nat.lt_or_ge j v1.length with h | h
      · exact h
      · rw [List.getElem?_eq_none h] at hv; cases hv
    rw [List.getElem?_append_left this]; exact hv
  · rw [add_add]
    refine h (v1.length + j) v ?_
    rw [List.getElem?_append_right (by omega)]
    simpa using hv

theorem Mem.take {w : World} {a : Addr} {vs : List Value} (h : Mem w a vs) (n : Nat) : Mem w a (vs.take n) := fun j v hv => h j v (by
  rw [List.getElem?_take] at hv
  split at hv
  · exact hv
  · cases hv)

theorem Mem.drop {w : World} {a : Addr} {vs : List Value} (h : Mem w a vs) (n : Nat) : Mem w (a.add n) (vs.drop n) := fun j v hv => by
  rw [add_add]; exact h _ _ (by rw [List.getElem?_drop] at hv; exact hv)

/-! ### Data in memory -/
def RepL {α : Type} (rep : α → List Value → Prop) : List α → List Value → Prop
  | [], vs => vs = []
  | x :: l, vs => ∃ v1 v2, vs = v1 ++ v2 ∧ rep x v1 ∧ RepL rep l v2

theorem RepL.mono {α : Type} {r r' : α → List Value → Prop} (hr : ∀ x vs, r x vs → r' x vs) : ∀ {l : List α} {vs : List Value}, RepL r l vs → RepL r' l vs
  | [], _, h => h
  | _ :: _, _, ⟨v1, v2, e, h1, h2⟩ => ⟨v1, v2, e, hr _ _ h1, RepL.mono hr h2⟩

theorem RepL.append {α : Type} {r : α → List Value → Prop} : ∀ {l l' : List α} {vs vs' : List Value}, RepL r l vs → RepL r l' vs' → RepL r (l ++ l') (vs ++ vs')
  | [], _, _, _, h, h' => by have : _ = [] := h; subst this; exact h'
  | _ :: _, _, _, _, ⟨v1, v2, e, h1, h2⟩, h' => by subst e; exact ⟨v1, v2 ++ _, by simp, h1, RepL.append h2 h'⟩

def Rep (S : Nat → Prop) (w : World) : (u : U) → El u → List Value → Prop
  | .int k, n, vs => vs = [.int k n]
  | .bool, b, vs => vs = [.bool b]
  | .str, s, vs => vs = [.string s]
  | .unit, _, vs => vs = []
  | .pair a b, x, vs => ∃ v1 v2, vs = v1 ++ v2 ∧ Rep S w a x.1 v1 ∧ Rep S w b x.2 v2
  | .sl e, l, vs => ∃ A cap cs, vs = [.slice A l.length cap] ∧ l.length ≤ cap ∧ RepL (Rep S w e) l cs ∧
    match A with
    | none => l = [] ∧ cap = 0
    | some a => Mem w a cs ∧ (cs ≠ [] → S a.block)

theorem Rep.mono {S S' : Nat → Prop} {w w' : World} (hS : ∀ g, S g → S' g) (hk : ∀ g, S g → w'.heap[g]? = w.heap[g]?) : ∀ {u : U} {x : El u} {vs : List Value}, Rep S w u x vs → Rep S' w' u x vs := by
  intro u
  induction u with
  | int k => exact fun h => h
  | bool => exact fun h => h
  | str => exact fun h => h
  | unit => exact fun h => h
  | pair a b iha ihb =>
    rintro x vs ⟨v1, v2, e, h1, h2⟩
    exact ⟨v1, v2, e, iha h1, ihb h2⟩
  | sl e ih =>
    rintro l vs ⟨A, cap, cs, e, hc, hl, hA⟩
    refine ⟨A, cap, cs, e, hc, hl.mono (fun _ _ h => ih h), ?_⟩
    cases A with
    | none => exact hA
    | some a => exact ⟨hA.1.kept fun hne => hk _ (hA.2 hne), fun hne => hS _ (hA.2 hne)⟩

theorem Rep.length {S : Nat → Prop} {w : World} : ∀ {u : U} {x : El u} {vs : List Value}, Rep S w u x vs → vs.length = u.n := by
  intro u
  induction u with
  | int k => intro x vs h; cases h; rfl
  | bool => intro x vs h; cases h; rfl
  | str => intro x vs h; cases h; rfl
  | unit => intro x vs h; cases h; rfl
  | pair a b iha ihb => rintro x vs ⟨v1, v2, rfl, h1, h2⟩; simp [iha h1, ihb h2, U.n]
  | sl e ih => rintro l vs ⟨A, cap, cs, rfl, _⟩; rfl

theorem RepL.length {S : Nat → Prop} {w : World} {u : U} : ∀ {l : List (El u)} {vs : List Value}, RepL (Rep S w u) l vs → vs.length = l.length * u.n
  | [], _, h => by have : _ = [] := h; subst this; simp
  | _ :: l, _, ⟨v1, v2, e, h1, h2⟩ => by subst e; simp [h1.length, RepL.length h2, Nat.add_mul, Nat.add_comm]

theorem Rep.one {S : Nat → Prop} {w : World} : ∀ {u : U} {x : El u} {vs : List Value}, Rep S w u x vs → ∀ v ∈ vs, v.oneCell' = true := by
  intro u
  induction u with
  | int k => intro x vs h; cases h; simp [Value.oneCell']
  | bool => intro x vs h; cases h; simp [Value.oneCell']
  | str => intro x vs h; cases h; simp [Value.oneCell']
  | unit => intro x vs h; cases h; simp
  | pair a b iha ihb =>
    rintro x vs ⟨v1, v2, rfl, h1, h2⟩ v hv
    rcases List.mem_append.1 hv with h | h
    · exact iha h1 v h
    · exact ihb h2 v h
  | sl e ih => rintro l vs ⟨A, cap, cs, rfl, _⟩; simp [Value.oneCell']

theorem RepL.one {S : Nat → Prop} {w : World} {u : U} : ∀ {l : List (El u)} {vs : List Value}, RepL (Rep S w u) l vs → ∀ v ∈ vs, v.oneCell' = true
  | [], _, h => by have : _ = [] := h; subst this; simp
  | _ :: l, _, ⟨v1, v2, e, h1, h2⟩ => by
    subst e
    intro v hv
    rcases List.mem_append.1 hv with h | h
    · exact h1.one v h
    · exact RepL.one h2 v h

/-- The cells of one element. -/
theorem RepL.at {S : Nat → Prop} {w : World} {u : U} : ∀ {l : List (El u)} {vs : List Value}, RepL (Rep S w u) l vs → ∀ {i : Nat} {x : El u}, l[i]? = some x →
    ∃ v1 v2 v3, vs = v1 ++ (v2 ++ v3) ∧ v1.length = i * u.n ∧ Rep S w u x v2 ∧ RepL (Rep S w u) (l.take i) v1 ∧ RepL (Rep S w u) (l.drop (i + 1)) v3
  | [], _, _, i, x, h => by simp at h
  | y :: l, _, ⟨v1, v2, e, h1, h2⟩, 0, x, h => by
    simp at h
    subst h
    exact ⟨[], v1, v2, by simpa using e, by simp, h1, rfl, by simpa using h2⟩
  | y :: l, _, ⟨v1, v2, e, h1, h2⟩, i + 1, x, h => by
    simp at h
    obtain ⟨a, b, c, rfl, hl, hr, ht, hd⟩ := RepL.at h2 h
    subst e
    exact ⟨v1 ++ a, b, c, by simp, by simp [hl, h1.length, Nat.add_mul, Nat.add_comm], hr, ⟨v1, a, rfl, h1, ht⟩, by simpa using hd⟩

theorem RepL.split {α : Type} {r : α → List Value → Prop} : ∀ {l l' : List α} {vs : List Value}, RepL r (l ++ l') vs → ∃ v1 v2, vs = v1 ++ v2 ∧ RepL r l v1 ∧ RepL r l' v2
  | [], _, vs, h => ⟨[], vs, rfl, rfl, h⟩
  | _ :: l, l', _, ⟨v1, v2, e, h1, h2⟩ => by
    obtain ⟨a, b, rfl, ha, hb⟩ := RepL.split h2
    exact ⟨v1 ++ a, b, by simp [e], ⟨v1, a, rfl, h1, ha⟩, hb⟩

/-! ### Cells -/
def blk : Value → Option Nat
  | .slice (some a) _ _ => some a.block
  | .pointer (some a) => some a.block
  | .map (some r) => some r
  | _ => none

/-- What a name stands for, and the blocks that are its own: a slice's or a pointer's one block; for rows with rows of their own both are written out. -/
def pv : Value → Value
  | .tuple xs => xs.getD 0 undef
  | v => v

theorem pv_slice {v : Value} (h : ∃ A l c, v = .slice A l c) : pv v = v := by obtain ⟨_, _, _, rfl⟩ := h; rfl

def natOf : Value → Nat
  | .int _ n => n.toNat
  | _ => 0

def pf : Value → List Nat
  | .slice (some a) _ _ => [a.block]
  | .pointer (some a) => [a.block]
  | .map (some r) => [r]
  | .tuple xs => (xs.toList.drop 1).map natOf
  | _ => []

def ghost (s : Value) (F : List Nat) : Value := .tuple (s :: F.map fun (g : Nat) => Value.int .i64 (g : Int)).toArray

theorem pv_ghost (s : Value) (F : List Nat) : pv (ghost s F) = s := by simp [pv, ghost]

theorem pf_ghost (s : Value) (F : List Nat) : pf (ghost s F) = F := by
  unfold pf ghost
  simp only [List.drop_succ_cons, List.drop_zero, List.map_map]
  induction F with
  | nil => rfl
  | cons g F ih => rw [List.map_cons, ih]; simp [natOf]

def Bk (v : Value) (g : Nat) : Prop := g ∈ pf v

theorem Bk.of_blk {v : Value} {g : Nat} (h : blk v = some g) : Bk v g := by
  cases v with
  | slice a l c => cases a with
    | none => cases h
    | some a => injection h with h; subst h; exact List.mem_singleton.2 rfl
  | pointer a => cases a with
    | none => cases h
    | some a => injection h with h; subst h; exact List.mem_singleton.2 rfl
  | map r => cases r with
    | none => cases h
    | some r => injection h with h; subst h; exact List.mem_singleton.2 rfl
  | _ => cases h

theorem bk_slice {a : Addr} {l c g : Nat} : Bk (.slice (some a) l c) g ↔ g = a.block := List.mem_singleton
theorem bk_pointer {a : Addr} {g : Nat} : Bk (.pointer (some a)) g ↔ g = a.block := List.mem_singleton
theorem bk_map {r g : Nat} : Bk (.map (some r)) g ↔ g = r := List.mem_singleton
theorem bk_nil {l c g : Nat} : ¬ Bk (.slice none l c) g := fun h => by cases h

/-- What a map's name stands for; a nil map's is as a nil slice's. -/
def mapV : Option Nat → Value
  | some r => .map (some r)
  | none => .slice none 0 0

def RelC (S : Nat → Prop) (w : World) (φ : Nat → Value) (h : Nat → B) : C → Value → Prop
  | .int k n, v => v = .int k n
  | .bool b, v => v = .bool b
  | .str s, v => v = .string s
  | .sl u l, v => Rep S w (.sl u) l [v]
  | .slx u l, v => Rep S w (.sl u) l [v] ∧ ∃ a k c, v = .slice (some a) k c
  | .nils, v => v = .slice none 0 0
  | .tail n i sz, v => (h n).live = true ∧ ∃ A l c, pv (φ n) = .slice A l c ∧ i ≤ l ∧ v = .slice (if c = i then A else A.map (·.add (i * sz))) (l - i) (c - i)
  | .row n, v => (h n).live = true ∧ v = pv (φ n) ∧ ∃ A l c, v = .slice A l c
  | .ptr n i sz off, v => (h n).live = true ∧ ∃ g, blk (pv (φ n)) = some g ∧ v = .pointer (some ⟨g, i * sz + off, none⟩)
  | .dptr u x off, v => ∃ a cs, v = .pointer (some (a.add off)) ∧ Rep S w u x cs ∧ Mem w a cs ∧ (cs ≠ [] → S a.block)
  | .nilp, v => v = .pointer none
  | .nilf, v => v = .nilFunc
  | .fn f, v => v = .func (.func f) #[] #[]
  | .cap g c, v => ∃ f cs x, RelC S w φ h g (.func f #[] cs) ∧ RelC S w φ h c x ∧ v = .func f #[] (cs.push x)
  | .mapr b n, v => (h n).live = true ∧ ∃ r, v = .map r ∧ b = r.isNone ∧ pv (φ n) = mapV r
  | .nilm, v => v = .map none

def RelW (S : Nat → Prop) (w : World) (φ : Nat → Value) (h : Nat → B) : W1 → Value → Prop
  | .c x, v => RelC S w φ h x v
  | .agg xs, v => ∃ cs, v = .agg cs ∧ All2 (RelC S w φ h) xs cs.toList

def RelV (S : Nat → Prop) (w : World) (φ : Nat → Value) (h : Nat → B) : V → Value → Prop
  | .bad, _ => True
  | .und, v => v = undef
  | .v x, v => RelW S w φ h x v
  | .tup xs, v => ∃ vs, v = .tuple vs ∧ All2 (RelW S w φ h) xs vs.toList

theorem RelC.mono {S S' : Nat → Prop} {w w' : World} {φ φ' : Nat → Value} {h h' : Nat → B} (hS : ∀ g, S g → S' g) (hk : ∀ g, S g → w'.heap[g]? = w.heap[g]?)
    (hφ : ∀ n, (h n).live = true → (h' n).live = true ∧ pv (φ' n) = pv (φ n)) : ∀ {c : C} {v : Value}, RelC S w φ h c v → RelC S' w' φ' h' c v := by
  intro c
  induction c with
  | int k n => exact fun h => h
  | bool b => exact fun h => h
  | str s => exact fun h => h
  | sl u l => exact fun h => Rep.mono hS hk h
  | slx u l => rintro v ⟨h1, h2⟩; exact ⟨Rep.mono hS hk h1, h2⟩
  | tail n i sz => rintro v ⟨hl, A, l, c, h1, h2, h3⟩; exact ⟨(hφ n hl).1, A, l, c, by rw [(hφ n hl).2]; exact h1, h2, h3⟩
  | nils => exact fun h => h
  | row n => rintro v ⟨hl, rfl, hv⟩; exact ⟨(hφ n hl).1, (hφ n hl).2.symm, hv⟩
  | ptr n i sz off => rintro v ⟨hl, g, hg, hv⟩; exact ⟨(hφ n hl).1, g, by rw [(hφ n hl).2]; exact hg, hv⟩
  | dptr u x off => rintro v ⟨a, cs, hv, hr, hm, hs⟩; exact ⟨a, cs, hv, Rep.mono hS hk hr, hm.kept fun hne => hk _ (hs hne), fun hne => hS _ (hs hne)⟩
  | nilp => exact fun h => h
  | nilf => exact fun h => h
  | fn f => exact fun h => h
  | cap g c ihg ihc => rintro v ⟨f, cs, x, h1, h2, hv⟩; exact ⟨f, cs, x, ihg h1, ihc h2, hv⟩
  | mapr b n => rintro v ⟨hl, r, h1, h2, h3⟩; exact ⟨(hφ n hl).1, r, h1, h2, by rw [(hφ n hl).2]; exact h3⟩
  | nilm => exact fun h => h

theorem RelC.one {S : Nat → Prop} {w : World} {φ : Nat → Value} {h : Nat → B} : ∀ {c : C} {v : Value}, RelC S w φ h c v → v.oneCell' = true := by
  intro c v hr
  cases c with
  | sl u l => exact Rep.one hr v (by simp)
  | slx u l => exact Rep.one hr.1 v (by simp)
  | tail n i sz => obtain ⟨_, A, l, c, _, _, rfl⟩ := hr; rfl
  | row n => obtain ⟨_, _, A, l, c, rfl⟩ := hr; rfl
  | ptr n i sz off => obtain ⟨_, g, _, rfl⟩ := hr; rfl
  | dptr u x off => obtain ⟨a, cs, rfl, _⟩ := hr; rfl
  | cap g c => obtain ⟨f, cs, x, _, _, rfl⟩ := hr; rfl
  | mapr b n => obtain ⟨_, r, rfl, _⟩ := hr; rfl
  | _ => cases hr; rfl

theorem RelC.weak {S : Nat → Prop} {w : World} {φ : Nat → Value} {h : Nat → B} {c : C} {v : Value} (hr : RelC S w φ h c v) : RelC S w φ h c.weak v := by
  cases c <;> first | exact hr.1 | exact hr

theorem All2.one {S : Nat → Prop} {w : World} {φ : Nat → Value} {h : Nat → B} : ∀ {cs : List C} {vs : List Value}, All2 (RelC S w φ h) cs vs → ∀ v ∈ vs, v.oneCell' = true
  | [], [], _ => by simp
  | _ :: cs, _ :: vs, hh => by
    intro v hv
    rcases List.mem_cons.1 hv with rfl | hv
    · exact hh.1.one
    · exact All2.one hh.2 v hv
  | [], _ :: _, h => h.elim
  | _ :: _, [], h => h.elim

section
variable {S S' : Nat → Prop} {w w' : World} {φ φ' : Nat → Value} {h h' : Nat → B} (hS : ∀ g, S g → S' g) (hk : ∀ g, S g → w'.heap[g]? = w.heap[g]?)
    (hφ : ∀ n, (h n).live = true → (h' n).live = true ∧ pv (φ' n) = pv (φ n))
include hS hk hφ
theorem RelW.mono {x : W1} {v : Value} (hr : RelW S w φ h x v) : RelW S' w' φ' h' x v := by
  cases x with
  | c x => exact RelC.mono hS hk hφ hr
  | agg xs => obtain ⟨cs, rfl, ha⟩ := hr; exact ⟨cs, rfl, ha.mono fun _ _ => RelC.mono hS hk hφ⟩

theorem RelV.mono {x : V} {v : Value} (hr : RelV S w φ h x v) : RelV S' w' φ' h' x v := by
  cases x with
  | bad => trivial
  | und => exact hr
  | v x => exact RelW.mono hS hk hφ hr
  | tup xs => obtain ⟨vs, rfl, ha⟩ := hr; exact ⟨vs, rfl, ha.mono fun _ _ => RelW.mono hS hk hφ⟩
end

theorem kept_glob {n : Nat} (h : isKept n = false) : isGlob n = false := by
  unfold isKept at h; cases e : isGlob n with
  | false => rfl
  | true => rw [e] at h; cases h

/-! ### Rows with rows of their own -/
def RepOL {α : Type} (r : α → List Value → List Nat → Prop) : List α → List Value → List Nat → Prop
  | [], vs, F => vs = [] ∧ F = []
  | x :: l, vs, F => ∃ v1 v2 F1 F2, vs = v1 ++ v2 ∧ F = F1 ++ F2 ∧ r x v1 F1 ∧ RepOL r l v2 F2

/-- A row at its value, with the blocks that are its own. -/
def OwnAt {α : Type} (r : α → List Value → List Nat → Prop) (w : World) (t n : Nat) (l : List α) (v : Value) (F : List Nat) : Prop :=
  ∃ flat F', 0 < n ∧ w.ownsRow 0 t n v l.length flat ∧ RepOL r l flat F' ∧ F = (blk v).toList ++ F'

def RepO (S : Nat → Prop) (w : World) : (o : O) → El o.u → List Value → List Nat → Prop
  | .d u, x, vs, F => Rep S w u x vs ∧ F = []
  | .p a b, x, vs, F => ∃ v1 v2 F1 F2, vs = v1 ++ v2 ∧ F = F1 ++ F2 ∧ RepO S w a x.1 v1 F1 ∧ RepO S w b x.2 v2 F2
  | .s t e, l, vs, F => ∃ v, vs = [v] ∧ OwnAt (RepO S w e) w t e.u.n l v F

section
variable {S S' : Nat → Prop} {w w' : World}

theorem RepOL.all {α : Type} {r : α → List Value → List Nat → Prop} {Q : Nat → Prop} (h : ∀ x vs F, r x vs F → ∀ g ∈ F, Q g) : ∀ {l : List α} {vs : List Value} {F : List Nat}, RepOL r l vs F → ∀ g ∈ F, Q g
  | [], _, _, ⟨_, hF⟩, g, hg => by subst hF; cases hg
  | x :: l, _, _, ⟨v1, v2, F1, F2, _, hF, h1, h2⟩, g, hg => by
    subst hF
    rcases List.mem_append.1 hg with q | q
    · exact h _ _ _ h1 g q
    · exact RepOL.all h h2 g q

theorem RepOL.mono {α : Type} {r r' : α → List Value → List Nat → Prop} {Q : Nat → Prop} (h : ∀ x vs F, (∀ g ∈ F, Q g) → r x vs F → r' x vs F) : ∀ {l : List α} {vs : List Value} {F : List Nat}, (∀ g ∈ F, Q g) → RepOL r l vs F → RepOL r' l vs F
  | [], _, _, _, hr => hr
  | x :: l, _, _, hq, ⟨v1, v2, F1, F2, hv, hF, h1, h2⟩ => by
    subst hF
    exact ⟨v1, v2, F1, F2, hv, rfl, h _ _ _ (fun g hg => hq g (List.mem_append.2 (.inl hg))) h1, RepOL.mono h (fun g hg => hq g (List.mem_append.2 (.inr hg))) h2⟩

theorem RepOL.append {α : Type} {r : α → List Value → List Nat → Prop} : ∀ {l l' : List α} {vs vs' : List Value} {F F' : List Nat}, RepOL r l vs F → RepOL r l' vs' F' → RepOL r (l ++ l') (vs ++ vs') (F ++ F')
  | [], _, _, _, _, _, ⟨hv, hF⟩, h' => by subst hv; subst hF; exact h'
  | _ :: _, _, _, _, _, _, ⟨v1, v2, F1, F2, hv, hF, h1, h2⟩, h' => by subst hv; subst hF; exact ⟨v1, v2 ++ _, F1, F2 ++ _, by simp, by simp, h1, RepOL.append h2 h'⟩

theorem blk_own {base e size n : Nat} {v : Value} {xs : List Value} (ho : w.ownsRow base e size v n xs) {g : Nat} (hg : g ∈ (blk v).toList) : g < w.heap.size := by
  rcases ho.2 with ⟨rfl, _⟩ | ⟨g', cap, cur, rfl, _, hh, _⟩
  · cases hg
  · obtain rfl := List.mem_singleton.1 hg
    exact (Array.getElem?_eq_some_iff.1 hh).1

theorem OwnAt.lt {α : Type} {r : α → List Value → List Nat → Prop} (h : ∀ x vs F, r x vs F → ∀ g ∈ F, g < w.heap.size) {t n : Nat} {l : List α} {v : Value} {F : List Nat} (ho : OwnAt r w t n l v F) : ∀ g ∈ F, g < w.heap.size := by
  obtain ⟨flat, F', _, ho, hl, rfl⟩ := ho
  intro g hg
  rcases List.mem_append.1 hg with q | q
  · exact blk_own ho q
  · exact hl.all h g q

theorem RepO.lt : ∀ {o : O} {x : El o.u} {vs : List Value} {F : List Nat}, RepO S w o x vs F → ∀ g ∈ F, g < w.heap.size := by
  intro o
  induction o with
  | d u => rintro x vs F ⟨_, rfl⟩ g hg; cases hg
  | p a b iha ihb =>
    rintro x vs F ⟨v1, v2, F1, F2, _, rfl, h1, h2⟩ g hg
    rcases List.mem_append.1 hg with q | q
    · exact iha h1 g q
    · exact ihb h2 g q
  | s t e ih => rintro l vs F ⟨v, _, ho⟩; exact ho.lt fun x vs F h => ih h

theorem RepO.length : ∀ {o : O} {x : El o.u} {vs : List Value} {F : List Nat}, RepO S w o x vs F → vs.length = o.u.n := by
  intro o
  induction o with
  | d u => rintro x vs F ⟨h, _⟩; exact h.length
  | p a b iha ihb => rintro x vs F ⟨v1, v2, F1, F2, rfl, _, h1, h2⟩; simp [iha h1, ihb h2, U.n]
  | s t e ih => rintro l vs F ⟨v, rfl, _⟩; rfl

theorem RepOL.length {o : O} : ∀ {l : List (El o.u)} {vs : List Value} {F : List Nat}, RepOL (RepO S w o) l vs F → vs.length = l.length * o.u.n
  | [], _, _, ⟨h, _⟩ => by subst h; simp
  | _ :: l, _, _, ⟨v1, v2, F1, F2, e, _, h1, h2⟩ => by subst e; simp [h1.length, RepOL.length h2, Nat.add_mul, Nat.add_comm]

theorem owns_one {base e size n : Nat} {v : Value} {xs : List Value} (ho : w.ownsRow base e size v n xs) : v.oneCell' = true := by
  rcases ho.2 with ⟨rfl, _⟩ | ⟨g', cap, cur, rfl, _⟩ <;> rfl

theorem RepO.one : ∀ {o : O} {x : El o.u} {vs : List Value} {F : List Nat}, RepO S w o x vs F → ∀ v ∈ vs, v.oneCell' = true := by
  intro o
  induction o with
  | d u => rintro x vs F ⟨h, _⟩; exact h.one
  | p a b iha ihb =>
    rintro x vs F ⟨v1, v2, F1, F2, rfl, _, h1, h2⟩ v hv
    rcases List.mem_append.1 hv with h | h
    · exact iha h1 v h
    · exact ihb h2 v h
  | s t e ih =>
    rintro l vs F ⟨v, rfl, flat, F', _, ho, _⟩ x hx
    rw [List.mem_singleton.1 hx]; exact owns_one ho

theorem RepOL.one {o : O} : ∀ {l : List (El o.u)} {vs : List Value} {F : List Nat}, RepOL (RepO S w o) l vs F → ∀ v ∈ vs, v.oneCell' = true
  | [], _, _, ⟨h, _⟩ => by subst h; simp
  | _ :: l, _, _, ⟨v1, v2, F1, F2, e, _, h1, h2⟩ => by
    subst e
    intro v hv
    rcases List.mem_append.1 hv with h | h
    · exact h1.one v h
    · exact RepOL.one h2 v h

theorem owns_same {base e size n : Nat} {v : Value} {xs : List Value} (ho : w.ownsRow base e size v n xs) (hk : ∀ g ∈ (blk v).toList, w'.heap[g]? = w.heap[g]?) : w'.ownsRow base e size v n xs := by
  refine ⟨ho.1, ?_⟩
  rcases ho.2 with hn | ⟨g, cap, cur, rfl, hb, hg, rest⟩
  · exact .inl hn
  · exact .inr ⟨g, cap, cur, rfl, hb, by rw [hk g (List.mem_singleton.2 rfl)]; exact hg, rest⟩

theorem OwnAt.mono {α : Type} {r r' : α → List Value → List Nat → Prop} (h : ∀ x vs F, (∀ g ∈ F, w'.heap[g]? = w.heap[g]?) → r x vs F → r' x vs F) {t n : Nat} {l : List α} {v : Value} {F : List Nat} (hk : ∀ g ∈ F, w'.heap[g]? = w.heap[g]?)
    (ho : OwnAt r w t n l v F) : OwnAt r' w' t n l v F := by
  obtain ⟨flat, F', hn, ho, hl, rfl⟩ := ho
  exact ⟨flat, F', hn, owns_same ho fun g hg => hk g (List.mem_append.2 (.inl hg)), hl.mono h fun g hg => hk g (List.mem_append.2 (.inr hg)), rfl⟩

theorem RepO.mono (hS : ∀ g, S g → S' g) (hk : ∀ g, S g → w'.heap[g]? = w.heap[g]?) : ∀ {o : O} {x : El o.u} {vs : List Value} {F : List Nat}, (∀ g ∈ F, w'.heap[g]? = w.heap[g]?) → RepO S w o x vs F → RepO S' w' o x vs F := by
  intro o
  induction o with
  | d u => rintro x vs F _ ⟨h, e⟩; exact ⟨Rep.mono hS hk h, e⟩
  | p a b iha ihb =>
    rintro x vs F hF ⟨v1, v2, F1, F2, e, rfl, h1, h2⟩
    exact ⟨v1, v2, F1, F2, e, rfl, iha (fun g hg => hF g (List.mem_append.2 (.inl hg))) h1, ihb (fun g hg => hF g (List.mem_append.2 (.inr hg))) h2⟩
  | s t e ih => rintro l vs F hF ⟨v, e, ho⟩; exact ⟨v, e, ho.mono (fun x vs F hq h => ih hq h) hF⟩

/-- What is a row's own, as data. -/
theorem RepOL.rep {α : Type} {r : α → List Value → List Nat → Prop} {q : α → List Value → Prop} {Q : Nat → Prop} (h : ∀ x vs F, (∀ g ∈ F, Q g) → r x vs F → q x vs) : ∀ {l : List α} {vs : List Value} {F : List Nat}, (∀ g ∈ F, Q g) → RepOL r l vs F → RepL q l vs
  | [], _, _, _, ⟨e, _⟩ => e
  | x :: l, _, _, hq, ⟨v1, v2, F1, F2, hv, hF, h1, h2⟩ => by
    subst hF
    exact ⟨v1, v2, hv, h _ _ _ (fun g hg => hq g (List.mem_append.2 (.inl hg))) h1, RepOL.rep h (fun g hg => hq g (List.mem_append.2 (.inr hg))) h2⟩

theorem OwnAt.rep {u : U} {r : El u → List Value → List Nat → Prop} (h : ∀ x vs F, (∀ g ∈ F, S' g) → r x vs F → Rep S' w u x vs) {t : Nat} {l : List (El u)} {v : Value} {F : List Nat} (hF : ∀ g ∈ F, S' g) (ho : OwnAt r w t u.n l v F) : Rep S' w (.sl u) l [v] := by
  obtain ⟨flat, F', hn, ho, hl, rfl⟩ := ho
  have hl' := hl.rep h fun g hg => hF g (List.mem_append.2 (.inr hg))
  rcases ho.2 with ⟨rfl, h0⟩ | ⟨g, cap, cur, rfl, _, hg, hc, _, _, ht⟩
  · have : l = [] := List.eq_nil_of_length_eq_zero h0
    subst this
    exact ⟨none, 0, [], rfl, Nat.le_refl _, rfl, rfl, rfl⟩
  · exact ⟨some ⟨g, 0, none⟩, cap, flat, rfl, hc, hl', ho.cells rfl, fun _ => hF g (List.mem_append.2 (.inl (List.mem_singleton.2 rfl)))⟩

theorem RepO.rep (hS : ∀ g, S g → S' g) : ∀ {o : O} {x : El o.u} {vs : List Value} {F : List Nat}, (∀ g ∈ F, S' g) → RepO S w o x vs F → Rep S' w o.u x vs := by
  intro o
  induction o with
  | d u => rintro x vs F _ ⟨h, _⟩; exact Rep.mono hS (fun _ _ => rfl) h
  | p a b iha ihb =>
    rintro x vs F hF ⟨v1, v2, F1, F2, e, rfl, h1, h2⟩
    exact ⟨v1, v2, e, iha (fun g hg => hF g (List.mem_append.2 (.inl hg))) h1, ihb (fun g hg => hF g (List.mem_append.2 (.inr hg))) h2⟩
  | s t e ih => rintro l vs F hF ⟨v, rfl, ho⟩; exact ho.rep (fun x vs F hq h => ih hq h) hF
end

/-! ### Blocks -/
def B.mut : B → Bool
  | .row .. | .box .. => true
  | .own .. | .opn .. => true
  | .mp .. => true
  | _ => false

/-- A value that is data: of one cell, or of parts. -/
def RepA (S : Nat → Prop) (w : World) (a : Bool) (u : U) (x : El u) (v : Value) : Prop := match a with
  | true => ∃ cs, v = .agg cs ∧ Rep S w u x cs.toList
  | false => Rep S w u x [v]

theorem RepA.mono {S S' : Nat → Prop} {w w' : World} (hS : ∀ g, S g → S' g) (hk : ∀ g, S g → w'.heap[g]? = w.heap[g]?) {a : Bool} {u : U} {x : El u} {v : Value} (h : RepA S w a u x v) : RepA S' w' a u x v := by
  cases a with
  | true => obtain ⟨cs, e, h⟩ := h; exact ⟨cs, e, Rep.mono hS hk h⟩
  | false => exact Rep.mono hS hk h

/-- A map's entry. -/
def RepE (S : Nat → Prop) (w : World) (ka va : Bool) (ku vu : U) (x : El ku × El vu) (e : MapEntry) : Prop := RepA S w ka ku x.1 e.key ∧ RepA S w va vu x.2 e.val

/-- A map's entries; each bears its place as its stamp. -/
def RepM (S : Nat → Prop) (w : World) (ka va : Bool) (ku vu : U) (l : List (El ku × El vu)) (es : Array MapEntry) (clock : Nat) : Prop :=
  All2 (RepE S w ka va ku vu) l es.toList ∧ clock = es.size ∧ ∀ (i : Nat) (e : MapEntry), es[i]? = some e → e.born = i

theorem RepM.mono {S S' : Nat → Prop} {w w' : World} {ka va : Bool} {ku vu : U} {l : List (El ku × El vu)} {es : Array MapEntry} {clock : Nat} (h : RepM S w ka va ku vu l es clock) (hr : ∀ x e, RepE S w ka va ku vu x e → RepE S' w' ka va ku vu x e) : RepM S' w' ka va ku vu l es clock :=
  ⟨h.1.mono hr, h.2⟩

def RelB (S : Nat → Prop) (w : World) (φ : Nat → Value) (h : Nat → B) (ok : Nat → Prop) (v : Value) : B → Prop
  | .free => True
  | .gone => True
  | .row e u l => 0 < u.n ∧ ∃ flat, w.ownsRow 0 e u.n v l.length flat ∧ RepL (Rep S w u) l flat ∧ ∀ g, Bk v g → ok g
  | .ro _ u l => 0 < u.n ∧ ∃ flat cap, RepL (Rep S w u) l flat ∧ l.length ≤ cap ∧
      ((pv v = .slice none 0 0 ∧ l = []) ∨ ∃ g, pv v = .slice (some ⟨g, 0, none⟩) l.length cap ∧ Mem w ⟨g, 0, none⟩ flat ∧ (flat ≠ [] → S g))
  | .box t cs => ∃ g vals, v = .pointer (some ⟨g, 0, none⟩) ∧ w.heap[g]? = some (.cells vals t (0, 0)) ∧ All2 (RelC S w φ h) cs vals.toList ∧ ok g
  | .own t o l => ∃ s F, (pv v = s ∧ pf v = F) ∧ OwnAt (RepO S w o) w t o.u.n l s F ∧ F.Nodup ∧ ∀ g ∈ F, ok g
  | .opn t o l i cs => ∃ s F v1 v2 v3 F1 F3, v = ghost s F ∧ 0 < o.u.n ∧ i < l.length ∧ w.ownsRow 0 t o.u.n s l.length (v1 ++ (v2 ++ v3)) ∧ RepOL (RepO S w o) (l.take i) v1 F1 ∧ All2 (RelC S w φ h) cs v2 ∧ v2.length = o.u.n ∧ RepOL (RepO S w o) (l.drop (i + 1)) v3 F3 ∧ F = (blk s).toList ++ (F1 ++ F3) ∧ F.Nodup ∧ ∀ g ∈ F, ok g
  | .glo q => ∃ g ob, blk (pv v) = some g ∧ w.heap[g]? = some ob ∧ q ob ∧ S g
  | .mp _ ka va ku vu l => ku.flat = true ∧ vu.flat = true ∧ ((v = .slice none 0 0 ∧ l = []) ∨ ∃ r es clock, v = .map (some r) ∧ w.heap[r]? = some (.map es clock) ∧ RepM S w ka va ku vu l es clock ∧ ok r)

structure Cx where
  glob : Nat → B
  w0 : World
  own : Nat → Prop
  S0 : Nat → Prop
  φ0 : Nat → Value

def Cx.ok (cx : Cx) (g : Nat) : Prop := cx.w0.heap.size ≤ g ∨ cx.own g

structure Keeps (cx : Cx) (w : World) : Prop where
  os : w.os = cx.w0.os
  tape : w.tape = cx.w0.tape
  output : w.output = cx.w0.output
  size : cx.w0.heap.size ≤ w.heap.size
  block : ∀ k, k < cx.w0.heap.size → ¬ cx.own k → w.heap[k]? = cx.w0.heap[k]?

/-- The memory's side of a state. -/
structure RelH (cx : Cx) (φ : Nat → Value) (S : Nat → Prop) (h : Nat → B) (w : World) : Prop where
  b : ∀ n, RelB S w φ h cx.ok (φ n) (h n)
  apart : ∀ n m g, n ≠ m → (h n).mut = true → (h m).mut = true → Bk (φ n) g → ¬ Bk (φ m) g
  sep : ∀ n g, (h n).mut = true → Bk (φ n) g → ¬ S g
  inS : ∀ g, S g → g < cx.w0.heap.size → cx.S0 g ∨ cx.own g
  lt : ∀ g, S g → g < w.heap.size
  glob : ∀ g, isGlob (gname g) = true → (h (gname g)).live = true → blk (pv (φ (gname g))) = some g
  gl : ∀ n, isGlob n = true → h n = cx.glob n ∧ (h n).mut = false
  kp : ∀ n, isKept n = true → (h n).live = true → pv (φ n) = pv (cx.φ0 n)
  keep : Keeps cx w

structure RelP (cx : Cx) (nt : Nat) (φ : Nat → Value) (S : Nat → Prop) (st : St) (a : Act) (w : World) : Prop where
  t : ∀ i, RelV S w φ st.h (st.t i) (a.tmps.getD i undef)
  m : RelH cx φ S st.h w
  size : a.tmps.size = nt
  defers : a.defers = []

theorem live_of_mut {b : B} (h : b.mut = true) : b.live = true := by cases b <;> first | rfl | cases h

theorem RelH.blk_lt {cx : Cx} {φ : Nat → Value} {S : Nat → Prop} {h : Nat → B} {w : World} (m : RelH cx φ S h w) {n g : Nat} (hm : (h n).mut = true) (hb : Bk (φ n) g) : g < w.heap.size := by
  have := m.b n
  cases e : h n with
  | row ee u l =>
    rw [e] at this
    obtain ⟨_, flat, ho, _, _⟩ := this
    rcases ho.2 with ⟨h0, _⟩ | ⟨g', cap, cur, h0, _, hg, _⟩
    · rw [h0] at hb; exact (bk_nil hb).elim
    · rw [h0] at hb; rw [bk_slice.1 hb]; exact (Array.getElem?_eq_some_iff.1 hg).1
  | box t cs =>
    rw [e] at this
    obtain ⟨g', vals, h0, hg, _⟩ := this
    rw [h0] at hb; rw [bk_pointer.1 hb]; exact (Array.getElem?_eq_some_iff.1 hg).1
  | own t o l =>
    rw [e] at this
    obtain ⟨s, F, h0, ho, _⟩ := this
    unfold Bk at hb
    rw [h0.2] at hb
    exact ho.lt (fun _ _ _ hx => RepO.lt hx) g hb
  | opn t o l i cs =>
    rw [e] at this
    obtain ⟨s, F, v1, v2, v3, F1, F3, h0, _, _, ho, h1, _, _, h3, hF, _⟩ := this
    rw [h0] at hb
    unfold Bk at hb
    rw [pf_ghost, hF] at hb
    rcases List.mem_append.1 hb with q | q
    · exact blk_own ho q
    · rcases List.mem_append.1 q with q | q
      · exact h1.all (fun _ _ _ hx => RepO.lt hx) g q
      · exact h3.all (fun _ _ _ hx => RepO.lt hx) g q
  | mp t ka va ku vu l =>
    rw [e] at this
    obtain ⟨_, _, ⟨h0, _⟩ | ⟨r, es, clock, h0, hg, _⟩⟩ := this
    · rw [h0] at hb; exact (bk_nil hb).elim
    · rw [h0] at hb; rw [bk_map.1 hb]; exact (Array.getElem?_eq_some_iff.1 hg).1
  | free => rw [e] at hm; cases hm
  | gone => rw [e] at hm; cases hm
  | ro => rw [e] at hm; cases hm
  | glo => rw [e] at hm; cases hm

end Go.Proofs.YtkimeoknckohfaaDoor.R1
