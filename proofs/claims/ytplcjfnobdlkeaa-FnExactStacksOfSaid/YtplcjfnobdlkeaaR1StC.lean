/- Folded maps: what placing a square comes to. (Printed by pure/stk.py.) -/
import Derived.Test.YtplcjfnobdlkeaaR1StB
namespace Go.Proofs.Ytplcjfnobdlkeaa.R
open Go.Proofs.Ytplcjfnobdlkeaa.R1

abbrev MapL := List (Int × Int)
def mget (M : MapL) (a : Int) : Option Int := mapGet (fun (a b : Int) => a == b) a M

/-- One side. -/
def plS {ρ : Type} (k : Nat) (s : List Int) (a : Int) (m : Option Int) (o : List Int) (κ : List Int → Option ρ) (e : Option ρ) : Option ρ :=
  bif (!m.isSome) then κ o
  else
    (f30 k s (m.getD 0)).bind fun x =>
    bif (!x.1.1) then
      (f32 k o).bind fun y =>
      bif decide ((y.2.1.length + [a].length) * 8 ≤ roomy) then κ (y.2.1 ++ [a]) else none
    else
      (getI o (wr .i64 ((o.length : Int) - 1))).bind fun z =>
      bif (z != (m.getD 0)) then e
      else
        bif decide (0 ≤ 0) && decide (0 ≤ (wr .i64 ((o.length : Int) - 1))) && decide ((wr .i64 ((o.length : Int) - 1)) ≤ (o.length : Int)) then κ (sub o 0 (wr .i64 ((o.length : Int) - 1))) else none

theorem plS_ev {ρ : Type} {k : Nat} {s : List Int} {a : Int} {m : Option Int} {o : List Int} {κ : List Int → Option ρ} {e : Option ρ} (hk : s.length < k) (hs : s.length ≤ 100) (ho : o.length ≤ 100) (hne : ∀ y, m = some y → y ∈ s → o ≠ []) :
    plS k s a m o κ e = match opn1 m s a o with | some o' => κ o' | none => e := by
  unfold plS opn1
  cases m with
  | none => rfl
  | some y =>
    simp only [Option.isSome_some, Bool.not_true, cond_false, Option.getD_some, impl_has s y hk (by omega), Option.bind_some]
    by_cases hys : y ∈ s
    · obtain ⟨z, z1, z2, z3, z4⟩ := last_get o (hne y rfl hys) (by omega)
      simp only [hys, decide_true, Bool.not_true, cond_false, if_true, z1, z2, getI_nat, z3, Option.bind_some]
      rw [show (decide ((0 : Nat) ≤ 0) && decide (0 ≤ ((o.length - 1 : Nat) : Int)) && decide (((o.length - 1 : Nat) : Int) ≤ (o.length : Int))) = true by rw [dle (by omega), dle (by omega)]; rfl, cond_true]
      by_cases hzy : z = y
      · subst hzy
        rw [bne_self_int, cond_false, if_pos rfl]
        simp only [sub, List.dropLast_eq_take, Int.toNat_natCast, Int.toNat_zero, List.drop_zero]
      · rw [show (z != y) = true by simpa using hzy, cond_true, if_neg (by intro h; injection h with h; exact hzy h)]
    · simp only [hys, decide_false, Bool.not_false, cond_true, impl_clone k o (by omega), Option.bind_some]
      rw [show decide ((o.length + [a].length) * 8 ≤ roomy) = true from decide_eq_true (by simp only [roomy, List.length_singleton]; omega)]
      rfl

def TC : Type := ((Int × Bool × Bool × Bool × Bool × Bool × (List Int) × (List Int) × (List Int) × (List Int) × (List Int) × (Unit × Unit) × Unit) × (List (Int × Int)) × (List (Int × Int)) × (List (Int × Int)) × (List (Int × Int)) × (List (Int × Int)) × (Int × Unit) × Unit)
@[reducible] def stC (n : Int) (b0 b1 b2 b3 b4 : Bool) (o0 o1 o2 o3 o4 : List Int) (M0 M1 M2 M3 M4 : MapL) (c : Int) : ((Int × Bool × Bool × Bool × Bool × Bool × (List Int) × (List Int) × (List Int) × (List Int) × (List Int) × (Unit × Unit) × Unit) × (List (Int × Int)) × (List (Int × Int)) × (List (Int × Int)) × (List (Int × Int)) × (List (Int × Int)) × (Int × Unit) × Unit) := ((n, b0, b1, b2, b3, b4, o0, o1, o2, o3, o4, ((), ()), ()), M0, M1, M2, M3, M4, (c, ()), ())

theorem plC1 {ρ : Type} (k j : Nat) (s : List Int) (a n : Int) (b0 b1 b2 b3 b4 : Bool) (o0 o1 o2 o3 o4 : List Int) (M0 M1 M2 M3 M4 : MapL) (c : Int) (nx) :
    f31_l2 (ρ := ρ) k (j + 1) s a 1 n b0 b1 b2 b3 b4 o0 o1 o2 o3 o4 M0 M1 M2 M3 M4 c nx = plS k s a (mget M1 a) o1 (fun p => f31_l2 (ρ := ρ) k j s a 2 n b0 b1 b2 b3 b4 o0 p o2 o3 o4 M0 M1 M2 M3 M4 c nx) (nx.2.1 ((false, ()), stC n b0 b1 b2 b3 b4 o0 o1 o2 o3 o4 M0 M1 M2 M3 M4 c)) := by kernel_rfl

theorem plC2 {ρ : Type} (k j : Nat) (s : List Int) (a n : Int) (b0 b1 b2 b3 b4 : Bool) (o0 o1 o2 o3 o4 : List Int) (M0 M1 M2 M3 M4 : MapL) (c : Int) (nx) :
    f31_l2 (ρ := ρ) k (j + 1) s a 2 n b0 b1 b2 b3 b4 o0 o1 o2 o3 o4 M0 M1 M2 M3 M4 c nx = plS k s a (mget M2 a) o2 (fun p => f31_l2 (ρ := ρ) k j s a 3 n b0 b1 b2 b3 b4 o0 o1 p o3 o4 M0 M1 M2 M3 M4 c nx) (nx.2.1 ((false, ()), stC n b0 b1 b2 b3 b4 o0 o1 o2 o3 o4 M0 M1 M2 M3 M4 c)) := by kernel_rfl

theorem plC3 {ρ : Type} (k j : Nat) (s : List Int) (a n : Int) (b0 b1 b2 b3 b4 : Bool) (o0 o1 o2 o3 o4 : List Int) (M0 M1 M2 M3 M4 : MapL) (c : Int) (nx) :
    f31_l2 (ρ := ρ) k (j + 1) s a 3 n b0 b1 b2 b3 b4 o0 o1 o2 o3 o4 M0 M1 M2 M3 M4 c nx = plS k s a (mget M3 a) o3 (fun p => f31_l2 (ρ := ρ) k j s a 4 n b0 b1 b2 b3 b4 o0 o1 o2 p o4 M0 M1 M2 M3 M4 c nx) (nx.2.1 ((false, ()), stC n b0 b1 b2 b3 b4 o0 o1 o2 o3 o4 M0 M1 M2 M3 M4 c)) := by kernel_rfl

theorem plC4 {ρ : Type} (k j : Nat) (s : List Int) (a n : Int) (b0 b1 b2 b3 b4 : Bool) (o0 o1 o2 o3 o4 : List Int) (M0 M1 M2 M3 M4 : MapL) (c : Int) (nx) :
    f31_l2 (ρ := ρ) k (j + 1) s a 4 n b0 b1 b2 b3 b4 o0 o1 o2 o3 o4 M0 M1 M2 M3 M4 c nx = plS k s a (mget M4 a) o4 (fun p => f31_l2 (ρ := ρ) k j s a 5 n b0 b1 b2 b3 b4 o0 o1 o2 o3 p M0 M1 M2 M3 M4 c nx) (nx.2.1 ((false, ()), stC n b0 b1 b2 b3 b4 o0 o1 o2 o3 o4 M0 M1 M2 M3 M4 c)) := by kernel_rfl

theorem plC5 {ρ : Type} (k j : Nat) (s : List Int) (a n : Int) (b0 b1 b2 b3 b4 : Bool) (o0 o1 o2 o3 o4 : List Int) (M0 M1 M2 M3 M4 : MapL) (c : Int) (nx) :
    f31_l2 (ρ := ρ) k (j + 1) s a 5 n b0 b1 b2 b3 b4 o0 o1 o2 o3 o4 M0 M1 M2 M3 M4 c nx = nx.1 ((), stC n b0 b1 b2 b3 b4 o0 o1 o2 o3 o4 M0 M1 M2 M3 M4 c) := by kernel_rfl

theorem placeC {M : Mt} (S : Syms M) {M0 M1 M2 M3 M4 : MapL} (e1 : mget M1 = M.m1) (e2 : mget M2 = M.m2) (e3 : mget M3 = M.m3) (e4 : mget M4 = M.m4) {k : Nat} {s : List Int} {o : O4} {a : Int} (h : Inv M s o) (ha : a ∉ s) (hk : 10 ≤ k) (hsk : s.length < k) (hs : s.length ≤ 100) (n : Int) (b0 b1 b2 b3 b4 : Bool) (o0 : List Int) (c : Int) :
    match opn4 M s a o with
    | some o' => f31 k s a n b0 b1 b2 b3 b4 o0 o.o1 o.o2 o.o3 o.o4 M0 M1 M2 M3 M4 c = some ((true, ()), stC n b0 b1 b2 b3 b4 o0 o'.o1 o'.o2 o'.o3 o'.o4 M0 M1 M2 M3 M4 c)
    | none => ∃ q1 q2 q3 q4, f31 k s a n b0 b1 b2 b3 b4 o0 o.o1 o.o2 o.o3 o.o4 M0 M1 M2 M3 M4 c = some ((false, ()), stC n b0 b1 b2 b3 b4 o0 q1 q2 q3 q4 M0 M1 M2 M3 M4 c) := by
  obtain ⟨k, rfl⟩ : ∃ q, k = q + 5 := ⟨k - 5, by omega⟩
  unfold f31 opn4
  rw [plC1, plS_ev hsk hs (by have := h.h1.2; omega) (fun y hy => open_ne S.h1 h.h1 ha (by rw [← e1]; exact hy)), e1]
  cases q1 : opn1 (M.m1 a) s a o.o1 with
  | none => exact ⟨o.o1, o.o2, o.o3, o.o4, rfl⟩
  | some p1 =>
    simp only [Option.bind_some]
    rw [plC2, plS_ev hsk hs (by have := h.h2.2; omega) (fun y hy => open_ne S.h2 h.h2 ha (by rw [← e2]; exact hy)), e2]
    cases q2 : opn1 (M.m2 a) s a o.o2 with
    | none => exact ⟨p1, o.o2, o.o3, o.o4, rfl⟩
    | some p2 =>
      simp only [Option.bind_some]
      rw [plC3, plS_ev hsk hs (by have := h.h3.2; omega) (fun y hy => open_ne S.h3 h.h3 ha (by rw [← e3]; exact hy)), e3]
      cases q3 : opn1 (M.m3 a) s a o.o3 with
      | none => exact ⟨p1, p2, o.o3, o.o4, rfl⟩
      | some p3 =>
        simp only [Option.bind_some]
        rw [plC4, plS_ev hsk hs (by have := h.h4.2; omega) (fun y hy => open_ne S.h4 h.h4 ha (by rw [← e4]; exact hy)), e4]
        cases q4 : opn1 (M.m4 a) s a o.o4 with
        | none => exact ⟨p1, p2, p3, o.o4, rfl⟩
        | some p4 =>
          simp only [Option.bind_some]
          rw [plC5]

def TS : Type := ((Int × Bool × Bool × Bool × Bool × Bool × (List Int) × (List Int) × (List Int) × (List Int) × (List Int) × ((Unit × Unit) × Int) × Unit) × (List (Int × Int)) × (List (Int × Int)) × (List (Int × Int)) × (List (Int × Int)) × (List (Int × Int)) × (Unit × Unit) × (List (List Int)) × Unit)
@[reducible] def stS (n : Int) (b0 b1 b2 b3 b4 : Bool) (o0 o1 o2 o3 o4 : List Int) (most : Int) (M0 M1 M2 M3 M4 : MapL) (c : (List (List Int))) : ((Int × Bool × Bool × Bool × Bool × Bool × (List Int) × (List Int) × (List Int) × (List Int) × (List Int) × ((Unit × Unit) × Int) × Unit) × (List (Int × Int)) × (List (Int × Int)) × (List (Int × Int)) × (List (Int × Int)) × (List (Int × Int)) × (Unit × Unit) × (List (List Int)) × Unit) := ((n, b0, b1, b2, b3, b4, o0, o1, o2, o3, o4, (((), ()), most), ()), M0, M1, M2, M3, M4, ((), ()), c, ())

theorem plS1 {ρ : Type} (k j : Nat) (s : List Int) (a n : Int) (b0 b1 b2 b3 b4 : Bool) (o0 o1 o2 o3 o4 : List Int) (most : Int) (M0 M1 M2 M3 M4 : MapL) (c : (List (List Int))) (nx) :
    f31a_l2 (ρ := ρ) k (j + 1) s a 1 n b0 b1 b2 b3 b4 o0 o1 o2 o3 o4 most M0 M1 M2 M3 M4 c nx = plS k s a (mget M1 a) o1 (fun p => f31a_l2 (ρ := ρ) k j s a 2 n b0 b1 b2 b3 b4 o0 p o2 o3 o4 most M0 M1 M2 M3 M4 c nx) (nx.2.1 ((false, ()), stS n b0 b1 b2 b3 b4 o0 o1 o2 o3 o4 most M0 M1 M2 M3 M4 c)) := by kernel_rfl

theorem plS2 {ρ : Type} (k j : Nat) (s : List Int) (a n : Int) (b0 b1 b2 b3 b4 : Bool) (o0 o1 o2 o3 o4 : List Int) (most : Int) (M0 M1 M2 M3 M4 : MapL) (c : (List (List Int))) (nx) :
    f31a_l2 (ρ := ρ) k (j + 1) s a 2 n b0 b1 b2 b3 b4 o0 o1 o2 o3 o4 most M0 M1 M2 M3 M4 c nx = plS k s a (mget M2 a) o2 (fun p => f31a_l2 (ρ := ρ) k j s a 3 n b0 b1 b2 b3 b4 o0 o1 p o3 o4 most M0 M1 M2 M3 M4 c nx) (nx.2.1 ((false, ()), stS n b0 b1 b2 b3 b4 o0 o1 o2 o3 o4 most M0 M1 M2 M3 M4 c)) := by kernel_rfl

theorem plS3 {ρ : Type} (k j : Nat) (s : List Int) (a n : Int) (b0 b1 b2 b3 b4 : Bool) (o0 o1 o2 o3 o4 : List Int) (most : Int) (M0 M1 M2 M3 M4 : MapL) (c : (List (List Int))) (nx) :
    f31a_l2 (ρ := ρ) k (j + 1) s a 3 n b0 b1 b2 b3 b4 o0 o1 o2 o3 o4 most M0 M1 M2 M3 M4 c nx = plS k s a (mget M3 a) o3 (fun p => f31a_l2 (ρ := ρ) k j s a 4 n b0 b1 b2 b3 b4 o0 o1 o2 p o4 most M0 M1 M2 M3 M4 c nx) (nx.2.1 ((false, ()), stS n b0 b1 b2 b3 b4 o0 o1 o2 o3 o4 most M0 M1 M2 M3 M4 c)) := by kernel_rfl

theorem plS4 {ρ : Type} (k j : Nat) (s : List Int) (a n : Int) (b0 b1 b2 b3 b4 : Bool) (o0 o1 o2 o3 o4 : List Int) (most : Int) (M0 M1 M2 M3 M4 : MapL) (c : (List (List Int))) (nx) :
    f31a_l2 (ρ := ρ) k (j + 1) s a 4 n b0 b1 b2 b3 b4 o0 o1 o2 o3 o4 most M0 M1 M2 M3 M4 c nx = plS k s a (mget M4 a) o4 (fun p => f31a_l2 (ρ := ρ) k j s a 5 n b0 b1 b2 b3 b4 o0 o1 o2 o3 p most M0 M1 M2 M3 M4 c nx) (nx.2.1 ((false, ()), stS n b0 b1 b2 b3 b4 o0 o1 o2 o3 o4 most M0 M1 M2 M3 M4 c)) := by kernel_rfl

theorem plS5 {ρ : Type} (k j : Nat) (s : List Int) (a n : Int) (b0 b1 b2 b3 b4 : Bool) (o0 o1 o2 o3 o4 : List Int) (most : Int) (M0 M1 M2 M3 M4 : MapL) (c : (List (List Int))) (nx) :
    f31a_l2 (ρ := ρ) k (j + 1) s a 5 n b0 b1 b2 b3 b4 o0 o1 o2 o3 o4 most M0 M1 M2 M3 M4 c nx = nx.1 ((), stS n b0 b1 b2 b3 b4 o0 o1 o2 o3 o4 most M0 M1 M2 M3 M4 c) := by kernel_rfl

theorem placeS {M : Mt} (S : Syms M) {M0 M1 M2 M3 M4 : MapL} (e1 : mget M1 = M.m1) (e2 : mget M2 = M.m2) (e3 : mget M3 = M.m3) (e4 : mget M4 = M.m4) {k : Nat} {s : List Int} {o : O4} {a : Int} (h : Inv M s o) (ha : a ∉ s) (hk : 10 ≤ k) (hsk : s.length < k) (hs : s.length ≤ 100) (n : Int) (b0 b1 b2 b3 b4 : Bool) (o0 : List Int) (most : Int) (c : (List (List Int))) :
    match opn4 M s a o with
    | some o' => f31a k s a n b0 b1 b2 b3 b4 o0 o.o1 o.o2 o.o3 o.o4 most M0 M1 M2 M3 M4 c = some ((true, ()), stS n b0 b1 b2 b3 b4 o0 o'.o1 o'.o2 o'.o3 o'.o4 most M0 M1 M2 M3 M4 c)
    | none => ∃ q1 q2 q3 q4, f31a k s a n b0 b1 b2 b3 b4 o0 o.o1 o.o2 o.o3 o.o4 most M0 M1 M2 M3 M4 c = some ((false, ()), stS n b0 b1 b2 b3 b4 o0 q1 q2 q3 q4 most M0 M1 M2 M3 M4 c) := by
  obtain ⟨k, rfl⟩ : ∃ q, k = q + 5 := ⟨k - 5, by omega⟩
  unfold f31a opn4
  rw [plS1, plS_ev hsk hs (by have := h.h1.2; omega) (fun y hy => open_ne S.h1 h.h1 ha (by rw [← e1]; exact hy)), e1]
  cases q1 : opn1 (M.m1 a) s a o.o1 with
  | none => exact ⟨o.o1, o.o2, o.o3, o.o4, rfl⟩
  | some p1 =>
    simp only [Option.bind_some]
    rw [plS2, plS_ev hsk hs (by have := h.h2.2; omega) (fun y hy => open_ne S.h2 h.h2 ha (by rw [← e2]; exact hy)), e2]
    cases q2 : opn1 (M.m2 a) s a o.o2 with
    | none => exact ⟨p1, o.o2, o.o3, o.o4, rfl⟩
    | some p2 =>
      simp only [Option.bind_some]
      rw [plS3, plS_ev hsk hs (by have := h.h3.2; omega) (fun y hy => open_ne S.h3 h.h3 ha (by rw [← e3]; exact hy)), e3]
      cases q3 : opn1 (M.m3 a) s a o.o3 with
      | none => exact ⟨p1, p2, o.o3, o.o4, rfl⟩
      | some p3 =>
        simp only [Option.bind_some]
        rw [plS4, plS_ev hsk hs (by have := h.h4.2; omega) (fun y hy => open_ne S.h4 h.h4 ha (by rw [← e4]; exact hy)), e4]
        cases q4 : opn1 (M.m4 a) s a o.o4 with
        | none => exact ⟨p1, p2, p3, o.o4, rfl⟩
        | some p4 =>
          simp only [Option.bind_some]
          rw [plS5]
end Go.Proofs.Ytplcjfnobdlkeaa.R
