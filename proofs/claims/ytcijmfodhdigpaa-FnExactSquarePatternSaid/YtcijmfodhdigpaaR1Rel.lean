/- What an abstract state says of the machine: how data lies in memory, whose the blocks are, and that this is kept. -/
import Derived.Test.YtcijmfodhdigpaaR1Run
import Derived.Maps.AppendAt
import Derived.Laws.OwnMore
import Derived.Laws.MakeOwn
import Derived.Below
namespace Go.Proofs.Ytcijmfodhdigpaa.R1

def All2 {α β : Type} (r : α → β → Prop) : List α → List β → Prop
  | [], [] => True
  | a :: l, b :: m => r a b ∧ All2 r l m
  | _, _ => False

theorem All2.length {α β : Type} {r : α → β → Prop} : ∀ {l : List α} {m : List β}, All2 r l m → l.length = m.length
  | [], [], _ => rfl
  | _ :: l, _ :: m, h => by simp [All2.length h.2]
  | [], _ :: _, h => h.elim
  | _ :: _, [], h => h.elim

theorem All2.mono {α β : Type} {r r' : α → β → Prop} (hr : ∀ a b, r a b → r' a b) : ∀ {l : List α} {m : List β}, All2 r l m → All2 r' l m
  | [], [], _ => trivial
  | _ :: _, _ :: _, h => ⟨hr _ _ h.1, All2.mono hr h.2⟩
  | [], _ :: _, h => h.elim
  | _ :: _, [], h => h.elim

theorem All2.append {α β : Type} {r : α → β → Prop} : ∀ {l : List α} {m : List β} {l' : List α} {m' : List β}, All2 r l m → All2 r l' m' → All2 r (l ++ l') (m ++ m')
  | [], [], _, _, _, h => h
  | _ :: _, _ :: _, _, _, h, h' => ⟨h.1, All2.append h.2 h'⟩
  | [], _ :: _, _, _, h, _ => h.elim
  | _ :: _, [], _, _, h, _ => h.elim

theorem All2.get {α β : Type} {r : α → β → Prop} : ∀ {l : List α} {m : List β}, All2 r l m → ∀ {i : Nat} {a : α}, l[i]? = some a → ∃ b, m[i]? = some b ∧ r a b
  | [], [], _, i, a, h => by simp at h
  | _ :: l, b :: m, hh, 0, a, h => by simp at h; subst h; exact ⟨b, rfl, hh.1⟩
  | _ :: l, b :: m, hh, i + 1, a, h => by simp at h; obtain ⟨c, hc, hr⟩ := All2.get hh.2 h; exact ⟨c, by simpa using hc, hr⟩
  | [], _ :: _, h, _, _, _ => h.elim
  | _ :: _, [], h, _, _, _ => h.elim

theorem All2.take {α β : Type} {r : α → β → Prop} : ∀ {l : List α} {m : List β} (n : Nat), All2 r l m → All2 r (l.take n) (m.take n)
  | [], [], n, _ => by simp [All2]
  | _ :: _, _ :: _, 0, _ => by simp [All2]
  | _ :: _, _ :: _, n + 1, h => ⟨h.1, All2.take n h.2⟩
  | [], _ :: _, _, h => h.elim
  | _ :: _, [], _, h => h.elim

theorem All2.drop {α β : Type} {r : α → β → Prop} : ∀ {l : List α} {m : List β} (n : Nat), All2 r l m → All2 r (l.drop n) (m.drop n)
  | [], [], n, _ => by simp [All2]
  | _ :: _, _ :: _, 0, h => h
  | _ :: _, _ :: _, n + 1, h => All2.drop n h.2
  | [], _ :: _, _, h => h.elim
  | _ :: _, [], _, h => h.elim

theorem All2.split {α β : Type} {r : α → β → Prop} : ∀ {l l' : List α} {m : List β}, All2 r (l ++ l') m → ∃ m1 m2, m = m1 ++ m2 ∧ All2 r l m1 ∧ All2 r l' m2
  | [], l', m, h => ⟨[], m, rfl, trivial, h⟩
  | _ :: l, l', b :: m, h => by
    obtain ⟨m1, m2, rfl, h1, h2⟩ := All2.split h.2
    exact ⟨b :: m1, m2, rfl, ⟨h.1, h1⟩, h2⟩
  | _ :: _, _, [], h => h.elim

/-! ### Memory -/
def Mem (w : World) (a : Addr) (vs : List Value) : Prop := ∀ j v, vs[j]? = some v → w.cell? (a.add j) = some v

theorem add_block (a : Addr) (n : Nat) : (a.add n).block = a.block := by unfold Addr.add; split <;> rfl

theorem add_add (a : Addr) (n m : Nat) : (a.add n).add m = a.add (n + m) := by
  unfold Addr.add
  by_cases h : n = 0
  · subst h; simp
  · by_cases h' : m = 0
    · subst h'; simp [h]
    · rw [if_neg h, if_neg h', if_neg (by omega)]; simp [Nat.add_assoc]

theorem add_zero (a : Addr) : a.add 0 = a := by unfold Addr.add; simp

theorem add_at (g o n : Nat) : (⟨g, o, none⟩ : Addr).add n = ⟨g, o + n, none⟩ := by unfold Addr.add; split <;> simp_all

theorem Mem.kept {w w' : World} {a : Addr} {vs : List Value} (h : Mem w a vs) (hk : vs ≠ [] → w'.heap[a.block]? = w.heap[a.block]?) : Mem w' a vs := by
  intro j v hv
  rw [World.cell?_of_block (w := w)]
  · exact h j v hv
  · rw [add_block]; exact hk (by rintro rfl; simp at hv)

theorem Mem.lt {w : World} {a : Addr} {vs : List Value} (h : Mem w a vs) (hne : vs ≠ []) : a.block < w.heap.size := by
  cases vs with
  | nil => exact absurd rfl hne
  | cons v r => have := World.block_lt_of_cell? w _ (h 0 v rfl); rwa [add_block] at this

theorem Mem.part {w : World} {a : Addr} {v1 v2 : List Value} (h : Mem w a (v1 ++ v2)) : Mem w a v1 ∧ Mem w (a.add v1.length) v2 := by
  refine ⟨fun j v hv => h j v ?_, fun j v hv => ?_⟩
  · have : j < v1.length := by
      rcases Nat.lt_or_ge j v1.length with h | h
      · exact h
      · rw [List.getElem?_eq_none h] at hv; cases hv
    rw [List.getElem?_append_left this]; exact hv
  · rw [add_add]
    refine h (v1.length + j) v ?_
    rw [List.getElem?_append_right (by omega)]
    simpa using hv

theorem Mem.take {w : World} {a : Addr} {vs : List Value} (h : Mem w a vs) (n : Nat) : Mem w a (vs.take n) := fun j v hv => h j v (by
  rw [List.getElem?_take] at hv
  split at hv
  · exact hv
  · cases hv)

theorem Mem.drop {w : World} {a : Addr} {vs : List Value} (h : Mem w a vs) (n : Nat) : Mem w (a.add n) (vs.drop n) := fun j v hv => by
  rw [add_add]; exact h _ _ (by rw [List.getElem?_drop] at hv; exact hv)

/-! ### Data in memory -/
def RepL {α : Type} (rep : α → List Value → Prop) : List α → List Value → Prop
  | [], vs => vs = []
  | x :: l, vs => ∃ v1 v2, vs = v1 ++ v2 ∧ rep x v1 ∧ RepL rep l v2

theorem RepL.mono {α : Type} {r r' : α → List Value → Prop} (hr : ∀ x vs, r x vs → r' x vs) : ∀ {l : List α} {vs : List Value}, RepL r l vs → RepL r' l vs
  | [], _, h => h
  | _ :: _, _, ⟨v1, v2, e, h1, h2⟩ => ⟨v1, v2, e, hr _ _ h1, RepL.mono hr h2⟩

theorem RepL.append {α : Type} {r : α → List Value → Prop} : ∀ {l l' : List α} {vs vs' : List Value}, RepL r l vs → RepL r l' vs' → RepL r (l ++ l') (vs ++ vs')
  | [], _, _, _, h, h' => by have : _ = [] := h; subst this; exact h'
  | _ :: _, _, _, _, ⟨v1, v2, e, h1, h2⟩, h' => by subst e; exact ⟨v1, v2 ++ _, by simp, h1, RepL.append h2 h'⟩

def Rep (S : Nat → Prop) (w : World) : (u : U) → El u → List Value → Prop
  | .int k, n, vs => vs = [.int k n]
  | .bool, b, vs => vs = [.bool b]
  | .str, s, vs => vs = [.string s]
  | .unit, _, vs => vs = []
  | .pair a b, x, vs => ∃ v1 v2, vs = v1 ++ v2 ∧ Rep S w a x.1 v1 ∧ Rep S w b x.2 v2
  | .sl e, l, vs => ∃ A cap cs, vs = [.slice A l.length cap] ∧ l.length ≤ cap ∧ RepL (Rep S w e) l cs ∧
    match A with
    | none => l = [] ∧ cap = 0
    | some a => Mem w a cs ∧ (cs ≠ [] → S a.block)

theorem Rep.mono {S S' : Nat → Prop} {w w' : World} (hS : ∀ g, S g → S' g) (hk : ∀ g, S g → w'.heap[g]? = w.heap[g]?) : ∀ {u : U} {x : El u} {vs : List Value}, Rep S w u x vs → Rep S' w' u x vs := by
  intro u
  induction u with
  | int k => exact fun h => h
  | bool => exact fun h => h
  | str => exact fun h => h
  | unit => exact fun h => h
  | pair a b iha ihb =>
    rintro x vs ⟨v1, v2, e, h1, h2⟩
    exact ⟨v1, v2, e, iha h1, ihb h2⟩
  | sl e ih =>
    rintro l vs ⟨A, cap, cs, e, hc, hl, hA⟩
    refine ⟨A, cap, cs, e, hc, hl.mono (fun _ _ h => ih h), ?_⟩
    cases A with
    | none => exact hA
    | some a => exact ⟨hA.1.kept fun hne => hk _ (hA.2 hne), fun hne => hS _ (hA.2 hne)⟩

theorem Rep.length {S : Nat → Prop} {w : World} : ∀ {u : U} {x : El u} {vs : List Value}, Rep S w u x vs → vs.length = u.n := by
  intro u
  induction u with
  | int k => intro x vs h; cases h; rfl
  | bool => intro x vs h; cases h; rfl
  | str => intro x vs h; cases h; rfl
  | unit => intro x vs h; cases h; rfl
  | pair a b iha ihb => rintro x vs ⟨v1, v2, rfl, h1, h2⟩; simp [iha h1, ihb h2, U.n]
  | sl e ih => rintro l vs ⟨A, cap, cs, rfl, _⟩; rfl

theorem RepL.length {S : Nat → Prop} {w : World} {u : U} : ∀ {l : List (El u)} {vs : List Value}, RepL (Rep S w u) l vs → vs.length = l.length * u.n
  | [], _, h => by have : _ = [] := h; subst this; simp
  | _ :: l, _, ⟨v1, v2, e, h1, h2⟩ => by subst e; simp [h1.length, RepL.length h2, Nat.add_mul, Nat.add_comm]

theorem Rep.one {S : Nat → Prop} {w : World} : ∀ {u : U} {x : El u} {vs : List Value}, Rep S w u x vs → ∀ v ∈ vs, v.oneCell' = true := by
  intro u
  induction u with
  | int k => intro x vs h; cases h; simp [Value.oneCell']
  | bool => intro x vs h; cases h; simp [Value.oneCell']
  | str => intro x vs h; cases h; simp [Value.oneCell']
  | unit => intro x vs h; cases h; simp
  | pair a b iha ihb =>
    rintro x vs ⟨v1, v2, rfl, h1, h2⟩ v hv
    rcases List.mem_append.1 hv with h | h
    · exact iha h1 v h
    · exact ihb h2 v h
  | sl e ih => rintro l vs ⟨A, cap, cs, rfl, _⟩; simp [Value.oneCell']

theorem RepL.one {S : Nat → Prop} {w : World} {u : U} : ∀ {l : List (El u)} {vs : List Value}, RepL (Rep S w u) l vs → ∀ v ∈ vs, v.oneCell' = true
  | [], _, h => by have : _ = [] := h; subst this; simp
  | _ :: l, _, ⟨v1, v2, e, h1, h2⟩ => by
    subst e
    intro v hv
    rcases List.mem_append.1 hv with h | h
    · exact h1.one v h
    · exact RepL.one h2 v h

/-- The cells of one element. -/
theorem RepL.at {S : Nat → Prop} {w : World} {u : U} : ∀ {l : List (El u)} {vs : List Value}, RepL (Rep S w u) l vs → ∀ {i : Nat} {x : El u}, l[i]? = some x →
    ∃ v1 v2 v3, vs = v1 ++ (v2 ++ v3) ∧ v1.length = i * u.n ∧ Rep S w u x v2 ∧ RepL (Rep S w u) (l.take i) v1 ∧ RepL (Rep S w u) (l.drop (i + 1)) v3
  | [], _, _, i, x, h => by simp at h
  | y :: l, _, ⟨v1, v2, e, h1, h2⟩, 0, x, h => by
    simp at h
    subst h
    exact ⟨[], v1, v2, by simpa using e, by simp, h1, rfl, by simpa using h2⟩
  | y :: l, _, ⟨v1, v2, e, h1, h2⟩, i + 1, x, h => by
    simp at h
    obtain ⟨a, b, c, rfl, hl, hr, ht, hd⟩ := RepL.at h2 h
    subst e
    exact ⟨v1 ++ a, b, c, by simp, by simp [hl, h1.length, Nat.add_mul, Nat.add_comm], hr, ⟨v1, a, rfl, h1, ht⟩, by simpa using hd⟩

theorem RepL.split {α : Type} {r : α → List Value → Prop} : ∀ {l l' : List α} {vs : List Value}, RepL r (l ++ l') vs → ∃ v1 v2, vs = v1 ++ v2 ∧ RepL r l v1 ∧ RepL r l' v2
  | [], _, vs, h => ⟨[], vs, rfl, rfl, h⟩
  | _ :: l, l', _, ⟨v1, v2, e, h1, h2⟩ => by
    obtain ⟨a, b, rfl, ha, hb⟩ := RepL.split h2
    exact ⟨v1 ++ a, b, by simp [e], ⟨v1, a, rfl, h1, ha⟩, hb⟩

/-! ### Cells -/
def blk : Value → Option Nat
  | .slice (some a) _ _ => some a.block
  | .pointer (some a) => some a.block
  | _ => none

def RelC (S : Nat → Prop) (w : World) (φ : Nat → Value) (h : Nat → B) : C → Value → Prop
  | .int k n, v => v = .int k n
  | .bool b, v => v = .bool b
  | .str s, v => v = .string s
  | .sl u l, v => Rep S w (.sl u) l [v]
  | .slx u l, v => Rep S w (.sl u) l [v] ∧ ∃ a k c, v = .slice (some a) k c
  | .nils, v => v = .slice none 0 0
  | .tail n i sz, v => (h n).live = true ∧ ∃ A l c, φ n = .slice A l c ∧ i ≤ l ∧ v = .slice (if c = i then A else A.map (·.add (i * sz))) (l - i) (c - i)
  | .row n, v => (h n).live = true ∧ v = φ n ∧ ∃ A l c, v = .slice A l c
  | .ptr n i sz off, v => (h n).live = true ∧ ∃ g, blk (φ n) = some g ∧ v = .pointer (some ⟨g, i * sz + off, none⟩)
  | .dptr u x off, v => ∃ a cs, v = .pointer (some (a.add off)) ∧ Rep S w u x cs ∧ Mem w a cs ∧ (cs ≠ [] → S a.block)
  | .nilp, v => v = .pointer none
  | .nilf, v => v = .nilFunc
  | .fn f, v => v = .func (.func f) #[] #[]
  | .cap g c, v => ∃ f cs x, RelC S w φ h g (.func f #[] cs) ∧ RelC S w φ h c x ∧ v = .func f #[] (cs.push x)

def RelW (S : Nat → Prop) (w : World) (φ : Nat → Value) (h : Nat → B) : W1 → Value → Prop
  | .c x, v => RelC S w φ h x v
  | .agg xs, v => ∃ cs, v = .agg cs ∧ All2 (RelC S w φ h) xs cs.toList

def RelV (S : Nat → Prop) (w : World) (φ : Nat → Value) (h : Nat → B) : V → Value → Prop
  | .bad, _ => True
  | .und, v => v = undef
  | .v x, v => RelW S w φ h x v
  | .tup xs, v => ∃ vs, v = .tuple vs ∧ All2 (RelW S w φ h) xs vs.toList

theorem RelC.mono {S S' : Nat → Prop} {w w' : World} {φ φ' : Nat → Value} {h h' : Nat → B} (hS : ∀ g, S g → S' g) (hk : ∀ g, S g → w'.heap[g]? = w.heap[g]?)
    (hφ : ∀ n, (h n).live = true → (h' n).live = true ∧ φ' n = φ n) : ∀ {c : C} {v : Value}, RelC S w φ h c v → RelC S' w' φ' h' c v := by
  intro c
  induction c with
  | int k n => exact fun h => h
  | bool b => exact fun h => h
  | str s => exact fun h => h
  | sl u l => exact fun h => Rep.mono hS hk h
  | slx u l => rintro v ⟨h1, h2⟩; exact ⟨Rep.mono hS hk h1, h2⟩
  | tail n i sz => rintro v ⟨hl, A, l, c, h1, h2, h3⟩; exact ⟨(hφ n hl).1, A, l, c, by rw [(hφ n hl).2]; exact h1, h2, h3⟩
  | nils => exact fun h => h
  | row n => rintro v ⟨hl, rfl, hv⟩; exact ⟨(hφ n hl).1, (hφ n hl).2.symm, hv⟩
  | ptr n i sz off => rintro v ⟨hl, g, hg, hv⟩; exact ⟨(hφ n hl).1, g, by rw [(hφ n hl).2]; exact hg, hv⟩
  | dptr u x off => rintro v ⟨a, cs, hv, hr, hm, hs⟩; exact ⟨a, cs, hv, Rep.mono hS hk hr, hm.kept fun hne => hk _ (hs hne), fun hne => hS _ (hs hne)⟩
  | nilp => exact fun h => h
  | nilf => exact fun h => h
  | fn f => exact fun h => h
  | cap g c ihg ihc => rintro v ⟨f, cs, x, h1, h2, hv⟩; exact ⟨f, cs, x, ihg h1, ihc h2, hv⟩

theorem RelC.one {S : Nat → Prop} {w : World} {φ : Nat → Value} {h : Nat → B} : ∀ {c : C} {v : Value}, RelC S w φ h c v → v.oneCell' = true := by
  intro c v hr
  cases c with
  | sl u l => exact Rep.one hr v (by simp)
  | slx u l => exact Rep.one hr.1 v (by simp)
  | tail n i sz => obtain ⟨_, A, l, c, _, _, rfl⟩ := hr; rfl
  | row n => obtain ⟨_, _, A, l, c, rfl⟩ := hr; rfl
  | ptr n i sz off => obtain ⟨_, g, _, rfl⟩ := hr; rfl
  | dptr u x off => obtain ⟨a, cs, rfl, _⟩ := hr; rfl
  | cap g c => obtain ⟨f, cs, x, _, _, rfl⟩ := hr; rfl
  | _ => cases hr; rfl

theorem RelC.weak {S : Nat → Prop} {w : World} {φ : Nat → Value} {h : Nat → B} {c : C} {v : Value} (hr : RelC S w φ h c v) : RelC S w φ h c.weak v := by
  cases c <;> first | exact hr.1 | exact hr

theorem All2.one {S : Nat → Prop} {w : World} {φ : Nat → Value} {h : Nat → B} : ∀ {cs : List C} {vs : List Value}, All2 (RelC S w φ h) cs vs → ∀ v ∈ vs, v.oneCell' = true
  | [], [], _ => by simp
  | _ :: cs, _ :: vs, hh => by
    intro v hv
    rcases List.mem_cons.1 hv with rfl | hv
    · exact hh.1.one
    · exact All2.one hh.2 v hv
  | [], _ :: _, h => h.elim
  | _ :: _, [], h => h.elim

section
variable {S S' : Nat → Prop} {w w' : World} {φ φ' : Nat → Value} {h h' : Nat → B} (hS : ∀ g, S g → S' g) (hk : ∀ g, S g → w'.heap[g]? = w.heap[g]?)
    (hφ : ∀ n, (h n).live = true → (h' n).live = true ∧ φ' n = φ n)
include hS hk hφ
theorem RelW.mono {x : W1} {v : Value} (hr : RelW S w φ h x v) : RelW S' w' φ' h' x v := by
  cases x with
  | c x => exact RelC.mono hS hk hφ hr
  | agg xs => obtain ⟨cs, rfl, ha⟩ := hr; exact ⟨cs, rfl, ha.mono fun _ _ => RelC.mono hS hk hφ⟩

theorem RelV.mono {x : V} {v : Value} (hr : RelV S w φ h x v) : RelV S' w' φ' h' x v := by
  cases x with
  | bad => trivial
  | und => exact hr
  | v x => exact RelW.mono hS hk hφ hr
  | tup xs => obtain ⟨vs, rfl, ha⟩ := hr; exact ⟨vs, rfl, ha.mono fun _ _ => RelW.mono hS hk hφ⟩
end

theorem kept_glob {n : Nat} (h : isKept n = false) : isGlob n = false := by
  unfold isKept at h; cases e : isGlob n with
  | false => rfl
  | true => rw [e] at h; cases h

/-! ### Blocks -/
def B.mut : B → Bool
  | .row .. | .box .. => true
  | _ => false

def RelB (S : Nat → Prop) (w : World) (φ : Nat → Value) (h : Nat → B) (ok : Nat → Prop) (v : Value) : B → Prop
  | .free => True
  | .gone => True
  | .row e u l => 0 < u.n ∧ ∃ flat, w.ownsRow 0 e u.n v l.length flat ∧ RepL (Rep S w u) l flat ∧ ∀ g, blk v = some g → ok g
  | .ro _ u l => 0 < u.n ∧ ∃ flat cap, RepL (Rep S w u) l flat ∧ l.length ≤ cap ∧
      ((v = .slice none 0 0 ∧ l = []) ∨ ∃ g, v = .slice (some ⟨g, 0, none⟩) l.length cap ∧ Mem w ⟨g, 0, none⟩ flat ∧ (flat ≠ [] → S g))
  | .box t cs => ∃ g vals, v = .pointer (some ⟨g, 0, none⟩) ∧ w.heap[g]? = some (.cells vals t (0, 0)) ∧ All2 (RelC S w φ h) cs vals.toList ∧ ok g

def B.isRow : B → Bool
  | .row .. => true
  | _ => false

structure Cx where
  glob : Nat → B
  w0 : World
  own : Nat → Prop
  S0 : Nat → Prop
  φ0 : Nat → Value

def Cx.ok (cx : Cx) (g : Nat) : Prop := cx.w0.heap.size ≤ g ∨ cx.own g

structure Keeps (cx : Cx) (w : World) : Prop where
  os : w.os = cx.w0.os
  tape : w.tape = cx.w0.tape
  output : w.output = cx.w0.output
  size : cx.w0.heap.size ≤ w.heap.size
  block : ∀ k, k < cx.w0.heap.size → ¬ cx.own k → w.heap[k]? = cx.w0.heap[k]?

/-- The memory's side of a state. -/
structure RelH (cx : Cx) (φ : Nat → Value) (S : Nat → Prop) (h : Nat → B) (w : World) : Prop where
  b : ∀ n, RelB S w φ h cx.ok (φ n) (h n)
  apart : ∀ n m g, n ≠ m → (h n).mut = true → (h m).mut = true → blk (φ n) = some g → blk (φ m) ≠ some g
  sep : ∀ n g, (h n).mut = true → blk (φ n) = some g → ¬ S g
  inS : ∀ g, S g → g < cx.w0.heap.size → cx.S0 g ∨ cx.own g
  lt : ∀ g, S g → g < w.heap.size
  glob : ∀ g, isGlob (gname g) = true → (h (gname g)).live = true → blk (φ (gname g)) = some g
  gl : ∀ n, isGlob n = true → h n = cx.glob n ∧ (h n).mut = false
  kp : ∀ n, isKept n = true → (h n).live = true → φ n = cx.φ0 n
  keep : Keeps cx w

structure RelP (cx : Cx) (nt : Nat) (φ : Nat → Value) (S : Nat → Prop) (st : St) (a : Act) (w : World) : Prop where
  t : ∀ i, RelV S w φ st.h (st.t i) (a.tmps.getD i undef)
  m : RelH cx φ S st.h w
  size : a.tmps.size = nt
  defers : a.defers = []

theorem live_of_mut {b : B} (h : b.mut = true) : b.live = true := by cases b <;> first | rfl | cases h

theorem RelH.blk_lt {cx : Cx} {φ : Nat → Value} {S : Nat → Prop} {h : Nat → B} {w : World} (m : RelH cx φ S h w) {n g : Nat} (hm : (h n).mut = true) (hb : blk (φ n) = some g) : g < w.heap.size := by
  have := m.b n
  cases e : h n with
  | row ee u l =>
    rw [e] at this
    obtain ⟨_, flat, ho, _, _⟩ := this
    rcases ho.2 with ⟨h0, _⟩ | ⟨g', cap, cur, h0, _, hg, _⟩
    · rw [h0] at hb; cases hb
    · rw [h0] at hb; cases hb; exact (Array.getElem?_eq_some_iff.1 hg).1
  | box t cs =>
    rw [e] at this
    obtain ⟨g', vals, h0, hg, _⟩ := this
    rw [h0] at hb; cases hb; exact (Array.getElem?_eq_some_iff.1 hg).1
  | free => rw [e] at hm; cases hm
  | gone => rw [e] at hm; cases hm
  | ro => rw [e] at hm; cases hm

end Go.Proofs.Ytcijmfodhdigpaa.R1
