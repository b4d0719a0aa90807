/- Folded maps: the tables of mates, reckoned for all small maps. -/
import Derived.Test.YtplcjfnobdlkeaaR1StD
namespace Go.Proofs.Ytplcjfnobdlkeaa.R
open Go.Proofs.Ytplcjfnobdlkeaa.R1

theorem mapGet_mem {eq : Int → Int → Bool} (he : ∀ a b, eq a b = true → a = b) : ∀ {l : MapL} {x y : Int}, mapGet eq x l = some y → (x, y) ∈ l
  | [], _, _, h => by cases h
  | p :: l, x, y, h => by
    simp only [mapGet] at h
    cases e : eq x p.1 with
    | true => rw [e] at h; injection h with h; subst h; rw [he _ _ e]; exact List.mem_cons.2 (.inl rfl)
    | false => rw [e] at h; exact List.mem_cons.2 (.inr (mapGet_mem he h))

def optEq : Option Int → Option Int → Bool
  | some a, some b => decide (a = b)
  | none, none => true
  | _, _ => false

theorem optEq_eq {a b : Option Int} (h : optEq a b = true) : a = b := by
  cases a <;> cases b <;> first | rfl | (simp [optEq] at h; rw [h]) | cases h

/-- Mates are mates of each other. -/
def symB (l : MapL) : Bool := l.all fun p => optEq (mget l p.2) (some p.1) && decide (0 ≤ p.2)

theorem sym_of {l : MapL} (h : symB l = true) : Sym (mget l) := by
  intro x y hxy
  have := List.all_eq_true.1 h (x, y) (mapGet_mem (fun a b h => by simpa using h) hxy)
  rw [Bool.and_eq_true] at this
  exact ⟨optEq_eq this.1, of_decide_eq_true this.2⟩

def atB (n : Nat) (F : List (List Int)) (i : Nat) (l : MapL) : Bool := match F[i]? with
  | some G => (List.range n).all fun a => optEq (getI G ((a : Nat) : Int)) (some ((mget l ((a : Nat) : Int)).getD (-1)))
  | none => false

theorem at_of {n : Nat} {F : List (List Int)} {i : Nat} {l : MapL} (h : atB n F i l = true) : ∃ G, F[i]? = some G ∧ ∀ a, a < n → getI G ((a : Nat) : Int) = some ((mget l a).getD (-1)) := by
  unfold atB at h
  split at h
  · rename_i G e
    exact ⟨G, e, fun a ha => optEq_eq (List.all_eq_true.1 h a (List.mem_range.2 ha))⟩
  · cases h

/-- The mates of a map of this many squares. -/
def mates (r c : Int) := (f15 300 r c 0)

def chk (r c : Nat) : Bool := match mates (r : Int) (c : Int), f25 300 (r : Int) (c : Int) with
  | some x, some y => decide (x.2.1.1 = 0) && decide (x.2.2.1.1 = ((r * c : Nat) : Int)) && symB x.2.2.2.2.1 && symB x.2.2.2.2.2.1 && symB x.2.2.2.2.2.2.1 && symB x.2.2.2.2.2.2.2.1 &&
      atB (r * c) y.2.1 0 x.2.2.2.2.1 && atB (r * c) y.2.1 1 x.2.2.2.2.2.1 && atB (r * c) y.2.1 2 x.2.2.2.2.2.2.1 && atB (r * c) y.2.1 3 x.2.2.2.2.2.2.2.1
  | _, _ => false

theorem chk_all : ((List.range 13).all fun r => (List.range 13).all fun c => Nat.blt 9 (r * c) || Nat.beq (r * c) 0 || chk r c) = true := by kernel_rfl
end Go.Proofs.Ytplcjfnobdlkeaa.R
