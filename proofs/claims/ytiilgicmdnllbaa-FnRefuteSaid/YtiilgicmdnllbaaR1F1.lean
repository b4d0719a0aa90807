/- Plain twins of functions, with their contracts. Printed by a program of this session. -/
import Derived.Test.YtiilgicmdnllbaaR1F0
set_option linter.unusedVariables false
namespace Go.Proofs.Ytiilgicmdnllbaa.R
open Go.Proofs.Ytiilgicmdnllbaa.R1
/-! impl.solver).search -/
def f92a_l13 {ρ : Type} (self : (List (Int × ((List Int) × (List Int)))) → Int → Int → Bool → (List (Int × (Int × (Int × Int)))) → (List Int) → Option ((Bool × Unit) × (((List (Int × ((List Int) × (List Int)))) × Int × Int × (Unit × Unit) × (Unit × Unit) × Unit) × (Bool × Unit) × (Unit × Unit) × (List Int) × (List (Int × (Int × (Int × Int)))) × Unit))) (k : Nat) : Nat → Int → Int → Int → (List (Int × ((List Int) × (List Int)))) → Int → Int → Bool → (List Int) → (List Int) → (List (Int × (Int × (Int × Int)))) → (((Unit × (((List (Int × ((List Int) × (List Int)))) × Int × Int × (Unit × Unit) × (Unit × Unit) × Unit) × (Bool × Unit) × (Unit × Unit) × (List Int) × (List (Int × (Int × (Int × Int)))) × Unit)) → Option ρ) × (((Bool × Unit) × (((List (Int × ((List Int) × (List Int)))) × Int × Int × (Unit × Unit) × (Unit × Unit) × Unit) × (Bool × Unit) × (Unit × Unit) × (List Int) × (List (Int × (Int × (Int × Int)))) × Unit)) → Option ρ) × Unit) → Option ρ
  | 0, _, _, _, _, _, _, _, _, _, _, _ => none
  | j + 1, v33, v34, v35, v36, v37, v38, v39, v40, v41, v42, nx =>
    bif (decide (v35 < v34)) then
      bif decide (0 ≤ v35) && decide (v35 < (v41.length : Int)) then
        (v41[v35.toNat]?).bind fun x43 =>
        (f98 k v40).bind fun x44 =>
        bif decide (0 ≤ v33) && decide (v33 < (x44.2.1.length : Int)) then
          (x44.2.1[v33.toNat]?).bind fun _ =>
          (self v36 v37 v38 v39 v42 (x44.2.1.set v33.toNat x43)).bind fun x46 =>
          bif (!x46.1.1) then
            nx.2.1 ((false, ()), ((x46.2.1.1, x46.2.1.2.1, x46.2.1.2.2.1, ((), ()), ((), ()), ()), (x46.2.2.1.1, ()), ((), ()), v40, x46.2.2.2.2.2.1, ()))
          else
            f92a_l13 self k j v33 v34 (wr .i64 (v35 + 1)) x46.2.1.1 x46.2.1.2.1 x46.2.1.2.2.1 x46.2.2.1.1 v40 v41 x46.2.2.2.2.2.1 nx
        else
          none
      else
        none
    else
      nx.1 ((), ((v36, v37, v38, ((), ()), ((), ()), ()), (v39, ()), ((), ()), v40, v42, ()))
def cf92a_l13 (self : (List (Int × ((List Int) × (List Int)))) → Int → Int → Bool → (List (Int × (Int × (Int × Int)))) → (List Int) → Option ((Bool × Unit) × (((List (Int × ((List Int) × (List Int)))) × Int × Int × (Unit × Unit) × (Unit × Unit) × Unit) × (Bool × Unit) × (Unit × Unit) × (List Int) × (List (Int × (Int × (Int × Int)))) × Unit))) (k : Nat) : Cut := { sp := { temps := [(1, .c (.lit (.row 3000004))), (2, .c (.box 5000000)), (6, .c (.int .i64)), (59, .c (.row 5000001)), (60, .c (.int .i64)), (61, .c (.int .i64))], blocks := [(3000000, .box 73 [(.sl (.pair (.int .i64) (.pair (.sl (.int .i64)) (.sl (.int .i64))))), (.int .i64), (.int .i64), (.cap (.lit (.fn 87)) (.lit (.ptr 3000001 0 0 0))), (.cap (.lit (.fn 86)) (.lit (.ptr 3000002 0 0 0)))]), (3000001, .box 4 [.bool]), (3000002, .box 45 [(.row 5000002)]), (3000004, .row 2 (.int .i64)), (5000000, .box 66 [(.lit (.ptr 3000000 0 0 0))]), (5000001, .row 2 (.int .i64)), (5000002, .row 95 (.pair (.int .i64) (.pair (.int .i64) (.pair (.int .i64) (.int .i64)))))], ren := [(3000000, some 3000000), (3000001, some 3000001), (3000002, some 3000002), (3000004, some 3000004)] }, outs := [(.exit 0, { temps := [], blocks := [(3000000, .box 73 [(.sl (.pair (.int .i64) (.pair (.sl (.int .i64)) (.sl (.int .i64))))), (.int .i64), (.int .i64), (.cap (.lit (.fn 87)) (.lit (.ptr 3000001 0 0 0))), (.cap (.lit (.fn 86)) (.lit (.ptr 3000002 0 0 0)))]), (3000001, .box 4 [.bool]), (3000002, .box 45 [(.row 5000000)]), (3000004, .row 2 (.int .i64)), (5000000, .row 95 (.pair (.int .i64) (.pair (.int .i64) (.pair (.int .i64) (.int .i64)))))], ren := [(3000000, some 3000000), (3000001, some 3000001), (3000002, some 3000002), (3000004, some 3000004)] }), (.ret, { temps := [(4, .c .bool)], blocks := [(3000000, .box 73 [(.sl (.pair (.int .i64) (.pair (.sl (.int .i64)) (.sl (.int .i64))))), (.int .i64), (.int .i64), (.cap (.lit (.fn 87)) (.lit (.ptr 3000001 0 0 0))), (.cap (.lit (.fn 86)) (.lit (.ptr 3000002 0 0 0)))]), (3000001, .box 4 [.bool]), (3000002, .box 45 [(.row 5000000)]), (3000004, .row 2 (.int .i64)), (5000000, .row 95 (.pair (.int .i64) (.pair (.int .i64) (.pair (.int .i64) (.int .i64)))))], ren := [(3000000, some 3000000), (3000001, some 3000001), (3000002, some 3000002), (3000004, some 3000004)] })], F := fun ρ j v nx => f92a_l13 self k j v.1.2.2.1 v.1.2.2.2.2.1 v.1.2.2.2.2.2.1 v.2.1.1 v.2.1.2.1 v.2.1.2.2.1 v.2.2.1.1 v.2.2.2.2.1 v.2.2.2.2.2.2.1 v.2.2.2.2.2.2.2.1 nx }
def f92a : Nat → (List (Int × ((List Int) × (List Int)))) → Int → Int → Bool → (List (Int × (Int × (Int × Int)))) → (List Int) → Option ((Bool × Unit) × (((List (Int × ((List Int) × (List Int)))) × Int × Int × (Unit × Unit) × (Unit × Unit) × Unit) × (Bool × Unit) × (Unit × Unit) × (List Int) × (List (Int × (Int × (Int × Int)))) × Unit))
  | 0, _, _, _, _, _, _ => none
  | k + 1, a1, a2, a3, a4, a5, a6 =>
    bif (decide ((wr .i64 (a3 + 1)) > a2)) then
      some ((false, ()), ((a1, a2, (wr .i64 (a3 + 1)), ((), ()), ((), ()), ()), (a4, ()), ((), ()), a6, a5, ()))
    else
      (f100a k a1 a6 a1 a2 (wr .i64 (a3 + 1)) a4 a5).bind fun x24 =>
      bif (decide (x24.1.1 ≥ 0)) then
        (f86 k 3 0 0 x24.1.1 x24.2.2.2.2.2.2.1).bind fun x26 =>
        some ((true, ()), ((x24.2.2.2.1.1, x24.2.2.2.1.2.1, x24.2.2.2.1.2.2.1, ((), ()), ((), ()), ()), (x24.2.2.2.2.1.1, ()), ((), ()), x24.2.1, x26.2.2.1, ()))
      else
        (f102 k x24.2.1 0).bind fun x27 =>
        bif (decide (x27.1.1 < 0)) then
          (f87 k x24.2.1 x24.2.2.2.2.1.1).bind fun x29 =>
          some ((x29.1.1, ()), ((x24.2.2.2.1.1, x24.2.2.2.1.2.1, x24.2.2.2.1.2.2.1, ((), ()), ((), ()), ()), (x29.2.1.1, ()), ((), ()), x24.2.1, x24.2.2.2.2.2.2.1, ()))
        else
          (f86 k 1 x27.1.1 0 0 x24.2.2.2.2.2.2.1).bind fun x30 =>
          f92a_l13 (f92a k) k k x27.1.1 ([1, (-1)].length : Int) 0 x24.2.2.2.1.1 x24.2.2.2.1.2.1 x24.2.2.2.1.2.2.1 x24.2.2.2.2.1.1 x24.2.1 ([1, (-1)]) x30.2.2.1
            (fun x31 : (Unit × (((List (Int × ((List Int) × (List Int)))) × Int × Int × (Unit × Unit) × (Unit × Unit) × Unit) × (Bool × Unit) × (Unit × Unit) × (List Int) × (List (Int × (Int × (Int × Int)))) × Unit)) =>
              some ((true, ()), ((x31.2.1.1, x31.2.1.2.1, x31.2.1.2.2.1, ((), ()), ((), ()), ()), (x31.2.2.1.1, ()), ((), ()), x31.2.2.2.2.1, x31.2.2.2.2.2.1, ())),
            fun x32 : ((Bool × Unit) × (((List (Int × ((List Int) × (List Int)))) × Int × Int × (Unit × Unit) × (Unit × Unit) × Unit) × (Bool × Unit) × (Unit × Unit) × (List Int) × (List (Int × (Int × (Int × Int)))) × Unit)) =>
              some ((x32.1.1, ()), ((x32.2.1.1, x32.2.1.2.1, x32.2.1.2.2.1, ((), ()), ((), ()), ()), (x32.2.2.1.1, ()), ((), ()), x32.2.2.2.2.1, x32.2.2.2.2.2.1, ())),
            ())
def ef92a : Entry := { id := 92, ar := { temps := [(0, .c (.box 3000000)), (1, .c (.row 3000004))], blocks := [(3000000, .box 73 [(.sl (.pair (.int .i64) (.pair (.sl (.int .i64)) (.sl (.int .i64))))), (.int .i64), (.int .i64), (.cap (.lit (.fn 87)) (.box 3000001)), (.cap (.lit (.fn 86)) (.box 3000002))]), (3000001, .box 4 [.bool]), (3000002, .box 45 [(.row 3000003)]), (3000003, .row 95 (.pair (.int .i64) (.pair (.int .i64) (.pair (.int .i64) (.int .i64))))), (3000004, .row 2 (.int .i64))], ren := [] }, res := { temps := [(0, .c .bool)], blocks := [(3000000, .box 73 [(.sl (.pair (.int .i64) (.pair (.sl (.int .i64)) (.sl (.int .i64))))), (.int .i64), (.int .i64), (.cap (.lit (.fn 87)) (.lit (.ptr 3000001 0 0 0))), (.cap (.lit (.fn 86)) (.lit (.ptr 3000002 0 0 0)))]), (3000001, .box 4 [.bool]), (3000002, .box 45 [(.row 4000000)]), (3000004, .row 2 (.int .i64)), (4000000, .row 95 (.pair (.int .i64) (.pair (.int .i64) (.pair (.int .i64) (.int .i64)))))], ren := [(3000000, some 3000000), (3000001, some 3000001), (3000002, some 3000002), (3000004, some 3000004)] }, f := fun k v => f92a k v.2.1.1 v.2.1.2.1 v.2.1.2.2.1 v.2.2.1.1 v.2.2.2.2.1 v.2.2.2.2.2.1 }
def gf92a (k : Nat) : Full := { tt := tt, n := 76, fns := [ef100a, ef86, ef102, ef87, ef98b, ef92a], trunc := [], tails := [], touch := [], opens := [], shapes := [], closes := [], k := k, glob := glob, cuts := [(13, (cf92a_l13 (f92a k) k))], joins := [] }
theorem of92a_l13 (k : Nat) : CutOk (gf92a k) (cf92a_l13 (f92a k) k) (theLoop Try.f92 13) := fun ρ v nx => ⟨by kernel_rfl, fun j => by kernel_rfl⟩
theorem qf92a (k : Nat) : AllP (bodyL (gf92a k) Try.f92) := by
  have h : (CutOk (gf92a k) (cf92a_l13 (f92a k) k) (theLoop Try.f92 13) ∧ True) = AllP (bodyL (gf92a k) Try.f92) := by kernel_rfl
  exact Eq.mp h (And.intro (of92a_l13 k) (trivial))
theorem sf92a : Sound Try.prog glob ef92a := sound_rec base (fn := Try.f92) Try.func92 (by kernel_rfl) gf92a (fun _ => ⟨rfl, rfl, rfl⟩) (fun k j h => ⟨sf100a.at j, sf86.at j, sf102.at j, sf87.at j, sf98b.at j, h, trivial⟩) qf92a (fun v => by kernel_rfl) (fun k v => by kernel_rfl)

/-! impl.solver).run -/
def f74a (k : Nat) (a1 : Int) (a2 : (List (Int × ((List Int) × (List Int))))) (a3 : Int) (a4 : Int) (a5 : Bool) (a6 : (List (Int × (Int × (Int × Int))))) : Option ((Bool × Unit) × (((List (Int × ((List Int) × (List Int)))) × Int × Int × (Unit × Unit) × (Unit × Unit) × Unit) × (Bool × Unit) × (Unit × Unit) × (List (Int × (Int × (Int × Int)))) × Unit)) :=
  bif decide (a1 = a1) && decide (0 ≤ a1) && decide (a1 * 8 ≤ roomy) then
    (f92a k a2 a3 a4 a5 a6 (List.replicate a1.toNat 0)).bind fun x2 =>
    some ((x2.1.1, ()), ((x2.2.1.1, x2.2.1.2.1, x2.2.1.2.2.1, ((), ()), ((), ()), ()), (x2.2.2.1.1, ()), ((), ()), x2.2.2.2.2.2.1, ()))
  else
    none
def ef74a : Entry := { id := 74, ar := { temps := [(0, .c (.box 3000000)), (1, .c (.int .i64))], blocks := [(3000000, .box 73 [(.sl (.pair (.int .i64) (.pair (.sl (.int .i64)) (.sl (.int .i64))))), (.int .i64), (.int .i64), (.cap (.lit (.fn 87)) (.box 3000001)), (.cap (.lit (.fn 86)) (.box 3000002))]), (3000001, .box 4 [.bool]), (3000002, .box 45 [(.row 3000003)]), (3000003, .row 95 (.pair (.int .i64) (.pair (.int .i64) (.pair (.int .i64) (.int .i64)))))], ren := [] }, res := { temps := [(0, .c .bool)], blocks := [(3000000, .box 73 [(.sl (.pair (.int .i64) (.pair (.sl (.int .i64)) (.sl (.int .i64))))), (.int .i64), (.int .i64), (.cap (.lit (.fn 87)) (.lit (.ptr 3000001 0 0 0))), (.cap (.lit (.fn 86)) (.lit (.ptr 3000002 0 0 0)))]), (3000001, .box 4 [.bool]), (3000002, .box 45 [(.row 4000000)]), (4000000, .row 95 (.pair (.int .i64) (.pair (.int .i64) (.pair (.int .i64) (.int .i64)))))], ren := [(3000000, some 3000000), (3000001, some 3000001), (3000002, some 3000002)] }, f := fun k v => f74a k v.1.2.1 v.2.1.1 v.2.1.2.1 v.2.1.2.2.1 v.2.2.1.1 v.2.2.2.2.1 }
def gf74a (k : Nat) : Full := { tt := tt, n := 9, fns := [ef92a], trunc := [], tails := [], touch := [], opens := [], shapes := [], closes := [], k := k, glob := glob, cuts := [], joins := [] }
theorem qf74a (k : Nat) : AllP (bodyL (gf74a k) Try.f74) := by
  have h : True = AllP (bodyL (gf74a k) Try.f74) := by kernel_rfl
  exact Eq.mp h trivial
theorem sf74a : Sound Try.prog glob ef74a := sound_of base (fn := Try.f74) Try.func74 (by kernel_rfl) gf74a (fun _ => ⟨rfl, rfl⟩) (fun k j => ⟨sf92a.at j, trivial⟩) qf74a (fun k v => by kernel_rfl)

/-! impl.solver).isSpent -/
def f43a (k : Nat) (a1 : (List (Int × ((List Int) × (List Int))))) (a2 : Int) (a3 : Int) (a4 : Bool) (a5 : (List (Int × (Int × (Int × Int))))) : Option ((Bool × Unit) × (((List (Int × ((List Int) × (List Int)))) × Int × Int × (Unit × Unit) × (Unit × Unit) × Unit) × (Bool × Unit) × (Unit × Unit) × (List (Int × (Int × (Int × Int)))) × Unit)) :=
  some (((decide (a3 > a2)), ()), ((a1, a2, a3, ((), ()), ((), ()), ()), (a4, ()), ((), ()), a5, ()))
def ef43a : Entry := { id := 43, ar := { temps := [(0, .c (.box 3000000))], blocks := [(3000000, .box 73 [(.sl (.pair (.int .i64) (.pair (.sl (.int .i64)) (.sl (.int .i64))))), (.int .i64), (.int .i64), (.cap (.lit (.fn 87)) (.box 3000001)), (.cap (.lit (.fn 86)) (.box 3000002))]), (3000001, .box 4 [.bool]), (3000002, .box 45 [(.row 3000003)]), (3000003, .row 95 (.pair (.int .i64) (.pair (.int .i64) (.pair (.int .i64) (.int .i64)))))], ren := [] }, res := { temps := [(0, .c .bool)], blocks := [(3000000, .box 73 [(.sl (.pair (.int .i64) (.pair (.sl (.int .i64)) (.sl (.int .i64))))), (.int .i64), (.int .i64), (.cap (.lit (.fn 87)) (.lit (.ptr 3000001 0 0 0))), (.cap (.lit (.fn 86)) (.lit (.ptr 3000002 0 0 0)))]), (3000001, .box 4 [.bool]), (3000002, .box 45 [(.lit (.row 3000003))]), (3000003, .row 95 (.pair (.int .i64) (.pair (.int .i64) (.pair (.int .i64) (.int .i64)))))], ren := [(3000000, some 3000000), (3000001, some 3000001), (3000002, some 3000002), (3000003, some 3000003)] }, f := fun k v => f43a k v.2.1.1 v.2.1.2.1 v.2.1.2.2.1 v.2.2.1.1 v.2.2.2.2.1 }
def gf43a (k : Nat) : Full := { tt := tt, n := 12, fns := [], trunc := [], tails := [], touch := [], opens := [], shapes := [], closes := [], k := k, glob := glob, cuts := [], joins := [] }
theorem qf43a (k : Nat) : AllP (bodyL (gf43a k) Try.f43) := by
  have h : True = AllP (bodyL (gf43a k) Try.f43) := by kernel_rfl
  exact Eq.mp h trivial
theorem sf43a : Sound Try.prog glob ef43a := sound_of base (fn := Try.f43) Try.func43 (by kernel_rfl) gf43a (fun _ => ⟨rfl, rfl⟩) (fun k j => trivial) qf43a (fun k v => by kernel_rfl)

/-! impl.refute -/
def f61 (k : Nat) (a1 : (List (Int × ((List Int) × (List Int))))) (a2 : Int) (a3 : Int) : Option ((Unit × Int × Unit) × ((List (Int × (Int × (Int × Int)))) × Unit)) :=
  (f74a k a2 a1 a3 0 false ([] : List (Int × (Int × (Int × Int))))).bind fun x4 =>
  bif x4.2.2.1.1 then
    some (((), 6, ()), (([] : List (Int × (Int × (Int × Int)))), ()))
  else
    (f43a k x4.2.1.1 x4.2.1.2.1 x4.2.1.2.2.1 x4.2.2.1.1 x4.2.2.2.2.1).bind fun x5 =>
    bif x5.1.1 then
      some (((), 10, ()), (([] : List (Int × (Int × (Int × Int)))), ()))
    else
      let x6 : Bool := (decide ((x5.2.2.2.2.1.length : Int) > 4000))
      bif x6 then
        some (((), 5, ()), (([] : List (Int × (Int × (Int × Int)))), ()))
      else
        some (((), 0, ()), (x5.2.2.2.2.1, ()))
def ef61 : Entry := { id := 61, ar := { temps := [(0, .c (.sl (.pair (.int .i64) (.pair (.sl (.int .i64)) (.sl (.int .i64)))))), (1, .c (.int .i64)), (2, .c (.int .i64))], blocks := [], ren := [] }, res := { temps := [(0, .c (.row 4000000)), (1, .c (.int .i64))], blocks := [(4000000, .row 95 (.pair (.int .i64) (.pair (.int .i64) (.pair (.int .i64) (.int .i64)))))], ren := [] }, f := fun k v => f61 k v.1.1 v.1.2.1 v.1.2.2.1 }
def gf61 (k : Nat) : Full := { tt := tt, n := 36, fns := [ef74a, ef43a], trunc := [], tails := [], touch := [], opens := [], shapes := [], closes := [], k := k, glob := glob, cuts := [], joins := [] }
theorem qf61 (k : Nat) : AllP (bodyL (gf61 k) Try.f61) := by
  have h : True = AllP (bodyL (gf61 k) Try.f61) := by kernel_rfl
  exact Eq.mp h trivial
theorem sf61 : Sound Try.prog glob ef61 := sound_of base (fn := Try.f61) Try.func61 (by kernel_rfl) gf61 (fun _ => ⟨rfl, rfl⟩) (fun k j => ⟨sf74a.at j, sf43a.at j, trivial⟩) qf61 (fun k v => by kernel_rfl)

/-! impl.Refute -/
def f28 (k : Nat) (a1 : (List (Int × ((List Int) × (List Int))))) (a2 : Int) (a3 : Int) : Option ((Unit × Int × Unit) × ((List (Int × (Int × (Int × Int)))) × Unit)) :=
  (f39 k a1 a2).bind fun x8 =>
  bif (!x8.1.1) then
    some (((), 1, ()), (([] : List (Int × (Int × (Int × Int)))), ()))
  else
    (f40 k a3).bind fun x9 =>
    bif (!x9.1.1) then
      some (((), 1, ()), (([] : List (Int × (Int × (Int × Int)))), ()))
    else
      (f61 k a1 a2 a3).bind fun x10 =>
      some (((), x10.1.2.1, ()), (x10.2.1, ()))
def ef28 : Entry := { id := 28, ar := { temps := [(0, .c (.sl (.pair (.int .i64) (.pair (.sl (.int .i64)) (.sl (.int .i64)))))), (1, .c (.int .i64)), (2, .c (.int .i64))], blocks := [], ren := [] }, res := { temps := [(0, .c (.row 4000000)), (1, .c (.int .i64))], blocks := [(4000000, .row 95 (.pair (.int .i64) (.pair (.int .i64) (.pair (.int .i64) (.int .i64)))))], ren := [] }, f := fun k v => f28 k v.1.1 v.1.2.1 v.1.2.2.1 }
def gf28 (k : Nat) : Full := { tt := tt, n := 23, fns := [ef39, ef40, ef61], trunc := [], tails := [], touch := [], opens := [], shapes := [], closes := [], k := k, glob := glob, cuts := [], joins := [] }
theorem qf28 (k : Nat) : AllP (bodyL (gf28 k) Try.f28) := by
  have h : True = AllP (bodyL (gf28 k) Try.f28) := by kernel_rfl
  exact Eq.mp h trivial
theorem sf28 : Sound Try.prog glob ef28 := sound_of base (fn := Try.f28) Try.func28 (by kernel_rfl) gf28 (fun _ => ⟨rfl, rfl⟩) (fun k j => ⟨sf39.at j, sf40.at j, sf61.at j, trivial⟩) qf28 (fun k v => by kernel_rfl)

/-! laws.eqRefNode -/
def f62 (k : Nat) (a1 : Int) (a2 : Int) (a3 : Int) (a4 : Int) (a5 : Int) (a6 : Int) (a7 : Int) (a8 : Int) : Option ((Bool × Unit) × Unit) :=
  bif (a1 != a5) then
    some ((false, ()), ())
  else
    bif (a2 != a6) then
      some ((false, ()), ())
    else
      bif (a3 != a7) then
        some ((false, ()), ())
      else
        bif (a4 != a8) then
          some ((false, ()), ())
        else
          some ((true, ()), ())
def ef62 : Entry := { id := 62, ar := { temps := [(0, .agg [(.int .i64), (.int .i64), (.int .i64), (.int .i64)]), (1, .agg [(.int .i64), (.int .i64), (.int .i64), (.int .i64)])], blocks := [], ren := [] }, res := { temps := [(0, .c .bool)], blocks := [], ren := [] }, f := fun k v => f62 k v.1.1.1 v.1.1.2.1 v.1.1.2.2.1 v.1.1.2.2.2.1 v.1.2.1.1 v.1.2.1.2.1 v.1.2.1.2.2.1 v.1.2.1.2.2.2.1 }
def gf62 (k : Nat) : Full := { tt := tt, n := 25, fns := [], trunc := [], tails := [], touch := [], opens := [], shapes := [], closes := [], k := k, glob := glob, cuts := [], joins := [] }
theorem qf62 (k : Nat) : AllP (bodyL (gf62 k) Try.f62) := by
  have h : True = AllP (bodyL (gf62 k) Try.f62) := by kernel_rfl
  exact Eq.mp h trivial
theorem sf62 : Sound Try.prog glob ef62 := sound_of base (fn := Try.f62) Try.func62 (by kernel_rfl) gf62 (fun _ => ⟨rfl, rfl⟩) (fun k j => trivial) qf62 (fun k v => by kernel_rfl)

/-! laws.eqRefNodeS -/
def f29_l4 {ρ : Type} (k : Nat) : Nat → (List (Int × (Int × (Int × Int)))) → (List (Int × (Int × (Int × Int)))) → Int → (((Unit × Unit) → Option ρ) × (((Bool × Unit) × Unit) → Option ρ) × Unit) → Option ρ
  | 0, _, _, _, _ => none
  | j + 1, v11, v12, v13, nx =>
    bif (decide (v13 < (v11.length : Int))) then
      (getI v11 v13).bind fun x14 =>
      (getI v12 v13).bind fun x15 =>
      (f62 k x14.1 x14.2.1 x14.2.2.1 x14.2.2.2 x15.1 x15.2.1 x15.2.2.1 x15.2.2.2).bind fun x16 =>
      bif (!x16.1.1) then
        nx.2.1 ((false, ()), ())
      else
        f29_l4 k j v11 v12 (wr .i64 (v13 + 1)) nx
    else
      nx.1 ((), ())
def cf29_l4 (k : Nat) : Cut := { sp := { temps := [(0, .c (.sl (.pair (.int .i64) (.pair (.int .i64) (.pair (.int .i64) (.int .i64)))))), (1, .c (.sl (.pair (.int .i64) (.pair (.int .i64) (.pair (.int .i64) (.int .i64)))))), (5, .c (.int .i64))], blocks := [], ren := [] }, outs := [(.exit 0, { temps := [], blocks := [], ren := [] }), (.ret, { temps := [(4, .c .bool)], blocks := [], ren := [] })], F := fun ρ j v nx => f29_l4 k j v.1.1 v.1.2.1 v.1.2.2.1 nx }
def f29 (k : Nat) (a1 : (List (Int × (Int × (Int × Int))))) (a2 : (List (Int × (Int × (Int × Int))))) : Option ((Bool × Unit) × Unit) :=
  bif ((a1.length : Int) != (a2.length : Int)) then
    some ((false, ()), ())
  else
    f29_l4 k k a1 a2 0
      (fun x9 : (Unit × Unit) =>
        some ((true, ()), ()),
      fun x10 : ((Bool × Unit) × Unit) =>
        some ((x10.1.1, ()), ()),
      ())
def ef29 : Entry := { id := 29, ar := { temps := [(0, .c (.sl (.pair (.int .i64) (.pair (.int .i64) (.pair (.int .i64) (.int .i64)))))), (1, .c (.sl (.pair (.int .i64) (.pair (.int .i64) (.pair (.int .i64) (.int .i64))))))], blocks := [], ren := [] }, res := { temps := [(0, .c .bool)], blocks := [], ren := [] }, f := fun k v => f29 k v.1.1 v.1.2.1 }
def gf29 (k : Nat) : Full := { tt := tt, n := 27, fns := [ef62], trunc := [], tails := [], touch := [], opens := [], shapes := [], closes := [], k := k, glob := glob, cuts := [(4, (cf29_l4 k))], joins := [] }
theorem of29_l4 (k : Nat) : CutOk (gf29 k) (cf29_l4 k) (theLoop Try.f29 4) := fun ρ v nx => ⟨by kernel_rfl, fun j => by kernel_rfl⟩
theorem qf29 (k : Nat) : AllP (bodyL (gf29 k) Try.f29) := by
  have h : (CutOk (gf29 k) (cf29_l4 k) (theLoop Try.f29 4) ∧ True) = AllP (bodyL (gf29 k) Try.f29) := by kernel_rfl
  exact Eq.mp h (And.intro (of29_l4 k) (trivial))
theorem sf29 : Sound Try.prog glob ef29 := sound_of base (fn := Try.f29) Try.func29 (by kernel_rfl) gf29 (fun _ => ⟨rfl, rfl⟩) (fun k j => ⟨sf62.at j, trivial⟩) qf29 (fun k v => by kernel_rfl)

/-! laws.markRefNodeS -/
def f30_l2 {ρ : Type} (k : Nat) : Nat → Int → Int → (List (Int × (Int × (Int × Int)))) → ((((Int × Unit) × ((List (Int × (Int × (Int × Int)))) × Unit)) → Option ρ) × Unit) → Option ρ
  | 0, _, _, _, _ => none
  | j + 1, v14, v15, v16, nx =>
    bif (decide (v15 < (v16.length : Int))) then
      bif decide (0 ≤ v15) && decide (v15 < (v16.length : Int)) then
        (v16[v15.toNat]?).bind fun x17 =>
        bif decide (0 ≤ v15) && decide (v15 < ((v16.set v15.toNat (v14, x17.2)).length : Int)) then
          ((v16.set v15.toNat (v14, x17.2))[v15.toNat]?).bind fun x18 =>
          let x19 : (List (Int × (Int × (Int × Int)))) := ((v16.set v15.toNat (v14, x17.2)).set v15.toNat (x18.1, ((wr .i64 (v14 + 1)), x18.2.2)))
          bif decide (0 ≤ v15) && decide (v15 < (x19.length : Int)) then
            (x19[v15.toNat]?).bind fun x20 =>
            let x21 : (List (Int × (Int × (Int × Int)))) := (x19.set v15.toNat (x20.1, (x20.2.1, ((wr .i64 ((wr .i64 (v14 + 1)) + 1)), x20.2.2.2))))
            let x22 : Int := (wr .i64 ((wr .i64 ((wr .i64 (v14 + 1)) + 1)) + 1))
            bif decide (0 ≤ v15) && decide (v15 < (x21.length : Int)) then
              (x21[v15.toNat]?).bind fun x23 =>
              let x24 : (List (Int × (Int × (Int × Int)))) := (x21.set v15.toNat (x23.1, (x23.2.1, (x23.2.2.1, x22))))
              f30_l2 k j (wr .i64 (x22 + 1)) (wr .i64 (v15 + 1)) x24 nx
            else
              none
          else
            none
        else
          none
      else
        none
    else
      nx.1 ((v14, ()), (v16, ()))
def cf30_l2 (k : Nat) : Cut := { sp := { temps := [(0, .c (.lit (.row 3000000))), (1, .c (.int .i64)), (5, .c (.int .i64))], blocks := [(3000000, .row 95 (.pair (.int .i64) (.pair (.int .i64) (.pair (.int .i64) (.int .i64)))))], ren := [(3000000, some 3000000)] }, outs := [(.exit 0, { temps := [(1, .c (.int .i64))], blocks := [(3000000, .row 95 (.pair (.int .i64) (.pair (.int .i64) (.pair (.int .i64) (.int .i64)))))], ren := [(3000000, some 3000000)] })], F := fun ρ j v nx => f30_l2 k j v.1.2.1 v.1.2.2.1 v.2.1 nx }
def f30 (k : Nat) (a1 : Int) (a2 : (List (Int × (Int × (Int × Int))))) : Option ((Int × Unit) × ((List (Int × (Int × (Int × Int)))) × Unit)) :=
  f30_l2 k k a1 0 a2
    (fun x13 : ((Int × Unit) × ((List (Int × (Int × (Int × Int)))) × Unit)) =>
      some ((x13.1.1, ()), (x13.2.1, ())),
    ())
def ef30 : Entry := { id := 30, ar := { temps := [(0, .c (.row 3000000)), (1, .c (.int .i64))], blocks := [(3000000, .row 95 (.pair (.int .i64) (.pair (.int .i64) (.pair (.int .i64) (.int .i64)))))], ren := [] }, res := { temps := [(0, .c (.int .i64))], blocks := [(3000000, .row 95 (.pair (.int .i64) (.pair (.int .i64) (.pair (.int .i64) (.int .i64)))))], ren := [(3000000, some 3000000)] }, f := fun k v => f30 k v.1.2.1 v.2.1 }
def gf30 (k : Nat) : Full := { tt := tt, n := 41, fns := [], trunc := [], tails := [], touch := [], opens := [], shapes := [], closes := [], k := k, glob := glob, cuts := [(2, (cf30_l2 k))], joins := [] }
theorem of30_l2 (k : Nat) : CutOk (gf30 k) (cf30_l2 k) (theLoop Try.f30 2) := fun ρ v nx => ⟨by kernel_rfl, fun j => by kernel_rfl⟩
theorem qf30 (k : Nat) : AllP (bodyL (gf30 k) Try.f30) := by
  have h : (CutOk (gf30 k) (cf30_l2 k) (theLoop Try.f30 2) ∧ True) = AllP (bodyL (gf30 k) Try.f30) := by kernel_rfl
  exact Eq.mp h (And.intro (of30_l2 k) (trivial))
theorem sf30 : Sound Try.prog glob ef30 := sound_of base (fn := Try.f30) Try.func30 (by kernel_rfl) gf30 (fun _ => ⟨rfl, rfl⟩) (fun k j => trivial) qf30 (fun k v => by kernel_rfl)

/-! laws.heldRefNodeS -/
def f31_l2 {ρ : Type} (k : Nat) : Nat → (List (Int × (Int × (Int × Int)))) → Int → Int → ((((Int × Unit) × Unit) → Option ρ) × (((Int × Unit) × Unit) → Option ρ) × Unit) → Option ρ
  | 0, _, _, _, _ => none
  | j + 1, v18, v19, v20, nx =>
    bif (decide (v20 < (v18.length : Int))) then
      (getI v18 v20).bind fun x22 =>
      bif (x22.1 != v19) then
        nx.2.1 (((-1), ()), ())
      else
        (getI v18 v20).bind fun x24 =>
        bif (x24.2.1 != (wr .i64 (v19 + 1))) then
          nx.2.1 (((-1), ()), ())
        else
          (getI v18 v20).bind fun x27 =>
          let x28 : Bool := (x27.2.2.1 != (wr .i64 ((wr .i64 (v19 + 1)) + 1)))
          bif x28 then
            nx.2.1 (((-1), ()), ())
          else
            let x29 : Int := (wr .i64 ((wr .i64 ((wr .i64 (v19 + 1)) + 1)) + 1))
            (getI v18 v20).bind fun x30 =>
            bif (x30.2.2.2 != x29) then
              nx.2.1 (((-1), ()), ())
            else
              f31_l2 k j v18 (wr .i64 (x29 + 1)) (wr .i64 (v20 + 1)) nx
    else
      nx.1 ((v19, ()), ())
def cf31_l2 (k : Nat) : Cut := { sp := { temps := [(0, .c (.sl (.pair (.int .i64) (.pair (.int .i64) (.pair (.int .i64) (.int .i64)))))), (1, .c (.int .i64)), (5, .c (.int .i64))], blocks := [], ren := [] }, outs := [(.exit 0, { temps := [(1, .c (.int .i64))], blocks := [], ren := [] }), (.ret, { temps := [(4, .c (.int .i64))], blocks := [], ren := [] })], F := fun ρ j v nx => f31_l2 k j v.1.1 v.1.2.1 v.1.2.2.1 nx }
def f31 (k : Nat) (a1 : (List (Int × (Int × (Int × Int))))) (a2 : Int) : Option ((Int × Unit) × Unit) :=
  f31_l2 k k a1 a2 0
    (fun x16 : ((Int × Unit) × Unit) =>
      some ((x16.1.1, ()), ()),
    fun x17 : ((Int × Unit) × Unit) =>
      some ((x17.1.1, ()), ()),
    ())
def ef31 : Entry := { id := 31, ar := { temps := [(0, .c (.sl (.pair (.int .i64) (.pair (.int .i64) (.pair (.int .i64) (.int .i64)))))), (1, .c (.int .i64))], blocks := [], ren := [] }, res := { temps := [(0, .c (.int .i64))], blocks := [], ren := [] }, f := fun k v => f31 k v.1.1 v.1.2.1 }
def gf31 (k : Nat) : Full := { tt := tt, n := 49, fns := [], trunc := [], tails := [], touch := [], opens := [], shapes := [], closes := [], k := k, glob := glob, cuts := [(2, (cf31_l2 k))], joins := [] }
theorem of31_l2 (k : Nat) : CutOk (gf31 k) (cf31_l2 k) (theLoop Try.f31 2) := fun ρ v nx => ⟨by kernel_rfl, fun j => by kernel_rfl⟩
theorem qf31 (k : Nat) : AllP (bodyL (gf31 k) Try.f31) := by
  have h : (CutOk (gf31 k) (cf31_l2 k) (theLoop Try.f31 2) ∧ True) = AllP (bodyL (gf31 k) Try.f31) := by kernel_rfl
  exact Eq.mp h (And.intro (of31_l2 k) (trivial))
theorem sf31 : Sound Try.prog glob ef31 := sound_of base (fn := Try.f31) Try.func31 (by kernel_rfl) gf31 (fun _ => ⟨rfl, rfl⟩) (fun k j => trivial) qf31 (fun k v => by kernel_rfl)

/-! laws.FnExactRefute -/
def f6 (k : Nat) (a1 : (List (Int × ((List Int) × (List Int))))) (a2 : Int) (a3 : Int) : Option ((Bool × Unit) × Unit) :=
  (f15 k a1 1048576).bind fun x22 =>
  bif (decide (x22.1.1 < 0)) then
    some ((true, ()), ())
  else
    (f17 k a1).bind fun x23 =>
    (f27 k x23.2.1 a2 a3).bind fun x24 =>
    (f17 k a1).bind fun x25 =>
    (f28 k x25.2.1 a2 a3).bind fun x26 =>
    (f29 k x26.2.1 x24.2.1).bind fun x28 =>
    bif (!x28.1.1) then
      some ((false, ()), ())
    else
      bif (x26.1.2.1 != x24.1.2.1) then
        some ((false, ()), ())
      else
        (f17 k a1).bind fun x31 =>
        (f19 k x25.2.1 x31.2.1).bind fun x32 =>
        bif (!x32.1.1) then
          some ((false, ()), ())
        else
          (f20 k 1 x25.2.1).bind fun x33 =>
          bif (decide (x33.1.1 < 0)) then
            some ((false, ()), ())
          else
            (f29 k x26.2.1 x24.2.1).bind fun x35 =>
            bif (!x35.1.1) then
              some ((false, ()), ())
            else
              bif (x26.1.2.1 != x24.1.2.1) then
                some ((false, ()), ())
              else
                (f30 k 1 x26.2.1).bind fun x36 =>
                (f31 k x36.2.1 1).bind fun x37 =>
                bif (decide (x37.1.1 < 0)) then
                  some ((false, ()), ())
                else
                  bif (x37.1.1 != x36.1.1) then
                    some ((false, ()), ())
                  else
                    (f17 k a1).bind fun x38 =>
                    (f28 k x38.2.1 a2 a3).bind fun x39 =>
                    (f29 k x39.2.1 x24.2.1).bind fun x41 =>
                    bif (!x41.1.1) then
                      some ((false, ()), ())
                    else
                      bif (x39.1.2.1 != x24.1.2.1) then
                        some ((false, ()), ())
                      else
                        (f31 k x36.2.1 1).bind fun x42 =>
                        bif (decide (x42.1.1 < 0)) then
                          some ((false, ()), ())
                        else
                          bif (x42.1.1 != x36.1.1) then
                            some ((false, ()), ())
                          else
                            some ((true, ()), ())
def ef6 : Entry := { id := 6, ar := { temps := [(0, .c (.sl (.pair (.int .i64) (.pair (.sl (.int .i64)) (.sl (.int .i64)))))), (1, .c (.int .i64)), (2, .c (.int .i64))], blocks := [], ren := [] }, res := { temps := [(0, .c .bool)], blocks := [], ren := [] }, f := fun k v => f6 k v.1.1 v.1.2.1 v.1.2.2.1 }
def gf6 (k : Nat) : Full := { tt := tt, n := 106, fns := [ef15, ef17, ef27, ef28, ef29, ef19, ef20, ef30, ef31], trunc := [], tails := [], touch := [], opens := [], shapes := [], closes := [], k := k, glob := glob, cuts := [], joins := [] }
theorem qf6 (k : Nat) : AllP (bodyL (gf6 k) Try.f6) := by
  have h : True = AllP (bodyL (gf6 k) Try.f6) := by kernel_rfl
  exact Eq.mp h trivial
theorem sf6 : Sound Try.prog glob ef6 := sound_of base (fn := Try.f6) Try.func6 (by kernel_rfl) gf6 (fun _ => ⟨rfl, rfl⟩) (fun k j => ⟨sf15.at j, sf17.at j, sf27.at j, sf28.at j, sf29.at j, sf19.at j, sf20.at j, sf30.at j, sf31.at j, trivial⟩) qf6 (fun k v => by kernel_rfl)

/-! spec.l00From -/
def f35 (k : Nat) (a1 : (List Int)) : Option ((Unit × Unit) × (((List Int) × Int × Int × Unit) × Unit)) :=
  some (((), ()), ((a1, 0, 0, ()), ()))
def ef35 : Entry := { id := 35, ar := { temps := [(0, .c (.sl (.int .u8)))], blocks := [], ren := [] }, res := { temps := [(0, .c (.box 4000000))], blocks := [(4000000, .box 100 [(.sl (.int .u8)), (.int .i64), (.int .u64)])], ren := [] }, f := fun k v => f35 k v.1.1 }
def gf35 (k : Nat) : Full := { tt := tt, n := 6, fns := [], trunc := [], tails := [], touch := [], opens := [], shapes := [], closes := [], k := k, glob := glob, cuts := [], joins := [] }
theorem qf35 (k : Nat) : AllP (bodyL (gf35 k) Try.f35) := by
  have h : True = AllP (bodyL (gf35 k) Try.f35) := by kernel_rfl
  exact Eq.mp h trivial
theorem sf35 : Sound Try.prog glob ef35 := sound_of base (fn := Try.f35) Try.func35 (by kernel_rfl) gf35 (fun _ => ⟨rfl, rfl⟩) (fun k j => trivial) qf35 (fun k v => by kernel_rfl)

/-! spec.l00Src).next -/
def f66_j4 {ρ : Type} (k : Nat) (v16 : Int) (v17 : (List Int)) (v18 : Int) (v19 : Int) (nx : ((((Int × Unit) × (((List Int) × Int × Int × Unit) × Unit)) → Option ρ) × Unit)) : Option ρ :=
  let x20 : Int := (wr .u64 ((wr .u64 (v19 * 6364136223846793005)) + (wr .u64 v16)))
  let x22 : Bool := (decide ((wr .i64 (v18 + 1)) ≤ (v17.length : Int)))
  bif x22 then
    nx.1 ((v16, ()), ((v17, (wr .i64 (v18 + 1)), (wr .u64 (x20 + 1442695040888963407)), ()), ()))
  else
    let x23 : Int := (ishr .u64 (wr .u64 (x20 + 1442695040888963407)) 40)
    nx.1 (((wr .i64 (iand .u64 x23 255)), ()), ((v17, (wr .i64 (v18 + 1)), (wr .u64 (x20 + 1442695040888963407)), ()), ()))
def cf66_j4 : Cut := { sp := { temps := [(0, .c (.lit (.ptr 3000000 0 0 0))), (3, .c (.int .i64))], blocks := [(3000000, .box 100 [(.sl (.int .u8)), (.int .i64), (.int .u64)])], ren := [(3000000, some 3000000)] }, outs := [(.ret, { temps := [(2, .c (.int .i64))], blocks := [(3000000, .box 100 [(.sl (.int .u8)), (.int .i64), (.int .u64)])], ren := [(3000000, some 3000000)] })], F := fun ρ k v nx => f66_j4 k v.1.2.1 v.2.1.1 v.2.1.2.1 v.2.1.2.2.1 nx }
def f66 (k : Nat) (a1 : (List Int)) (a2 : Int) (a3 : Int) : Option ((Int × Unit) × (((List Int) × Int × Int × Unit) × Unit)) :=
  bif (decide (a2 < (a1.length : Int))) then
    (getI a1 a2).bind fun x13 =>
    f66_j4 k (wr .i64 x13) a1 a2 a3
      (fun x14 : ((Int × Unit) × (((List Int) × Int × Int × Unit) × Unit)) =>
        some ((x14.1.1, ()), ((x14.2.1.1, x14.2.1.2.1, x14.2.1.2.2.1, ()), ())),
      ())
  else
    f66_j4 k 0 a1 a2 a3
      (fun x15 : ((Int × Unit) × (((List Int) × Int × Int × Unit) × Unit)) =>
        some ((x15.1.1, ()), ((x15.2.1.1, x15.2.1.2.1, x15.2.1.2.2.1, ()), ())),
      ())
def ef66 : Entry := { id := 66, ar := { temps := [(0, .c (.box 3000000))], blocks := [(3000000, .box 100 [(.sl (.int .u8)), (.int .i64), (.int .u64)])], ren := [] }, res := { temps := [(0, .c (.int .i64))], blocks := [(3000000, .box 100 [(.sl (.int .u8)), (.int .i64), (.int .u64)])], ren := [(3000000, some 3000000)] }, f := fun k v => f66 k v.2.1.1 v.2.1.2.1 v.2.1.2.2.1 }
def gf66 (k : Nat) : Full := { tt := tt, n := 62, fns := [], trunc := [], tails := [], touch := [], opens := [], shapes := [], closes := [], k := k, glob := glob, cuts := [], joins := [(4, cf66_j4)] }
theorem of66_j4 (k : Nat) : JoinOk (gf66 k) cf66_j4 (theJoin Try.f66 4) := fun ρ v nx => by kernel_rfl
theorem qf66 (k : Nat) : AllP (bodyL (gf66 k) Try.f66) := by
  have h : (JoinOk (gf66 k) cf66_j4 (theJoin Try.f66 4) ∧ True) = AllP (bodyL (gf66 k) Try.f66) := by kernel_rfl
  exact Eq.mp h (And.intro (of66_j4 k) (trivial))
theorem sf66 : Sound Try.prog glob ef66 := sound_of base (fn := Try.f66) Try.func66 (by kernel_rfl) gf66 (fun _ => ⟨rfl, rfl⟩) (fun k j => trivial) qf66 (fun k v => by kernel_rfl)

/-! spec.l00Src).pick -/
def f37 (k : Nat) (a1 : Int) (a2 : (List Int)) (a3 : Int) (a4 : Int) : Option ((Int × Unit) × (((List Int) × Int × Int × Unit) × Unit)) :=
  bif (decide (a1 ≤ 1)) then
    some ((0, ()), ((a2, a3, a4, ()), ()))
  else
    (f66 k a2 a3 a4).bind fun x4 =>
    bif (decide (a1 > 200)) then
      (f66 k x4.2.1.1 x4.2.1.2.1 x4.2.1.2.2.1).bind fun x5 =>
      let x6 : Int := (wr .i64 ((wr .i64 (x4.1.1 * 256)) + x5.1.1))
      bif decide (a1 = 0) then
        none
      else
        some (((x6.tmod a1), ()), ((x5.2.1.1, x5.2.1.2.1, x5.2.1.2.2.1, ()), ()))
    else
      bif decide (a1 = 0) then
        none
      else
        some (((x4.1.1.tmod a1), ()), ((x4.2.1.1, x4.2.1.2.1, x4.2.1.2.2.1, ()), ()))
def ef37 : Entry := { id := 37, ar := { temps := [(0, .c (.box 3000000)), (1, .c (.int .i64))], blocks := [(3000000, .box 100 [(.sl (.int .u8)), (.int .i64), (.int .u64)])], ren := [] }, res := { temps := [(0, .c (.int .i64))], blocks := [(3000000, .box 100 [(.sl (.int .u8)), (.int .i64), (.int .u64)])], ren := [(3000000, some 3000000)] }, f := fun k v => f37 k v.1.2.1 v.2.1.1 v.2.1.2.1 v.2.1.2.2.1 }
def gf37 (k : Nat) : Full := { tt := tt, n := 20, fns := [ef66], trunc := [], tails := [], touch := [], opens := [], shapes := [], closes := [], k := k, glob := glob, cuts := [], joins := [] }
theorem qf37 (k : Nat) : AllP (bodyL (gf37 k) Try.f37) := by
  have h : True = AllP (bodyL (gf37 k) Try.f37) := by kernel_rfl
  exact Eq.mp h trivial
theorem sf37 : Sound Try.prog glob ef37 := sound_of base (fn := Try.f37) Try.func37 (by kernel_rfl) gf37 (fun _ => ⟨rfl, rfl⟩) (fun k j => ⟨sf66.at j, trivial⟩) qf37 (fun k v => by kernel_rfl)

/-! spec.l00Min -/
def f67 (k : Nat) (a1 : Int) (a2 : Int) : Option ((Int × Unit) × Unit) :=
  bif (decide (a1 < a2)) then
    some ((a1, ()), ())
  else
    some ((a2, ()), ())
def ef67 : Entry := { id := 67, ar := { temps := [(0, .c (.int .i64)), (1, .c (.int .i64))], blocks := [], ren := [] }, res := { temps := [(0, .c (.int .i64))], blocks := [], ren := [] }, f := fun k v => f67 k v.1.1 v.1.2.1 }
def gf67 (k : Nat) : Full := { tt := tt, n := 10, fns := [], trunc := [], tails := [], touch := [], opens := [], shapes := [], closes := [], k := k, glob := glob, cuts := [], joins := [] }
theorem qf67 (k : Nat) : AllP (bodyL (gf67 k) Try.f67) := by
  have h : True = AllP (bodyL (gf67 k) Try.f67) := by kernel_rfl
  exact Eq.mp h trivial
theorem sf67 : Sound Try.prog glob ef67 := sound_of base (fn := Try.f67) Try.func67 (by kernel_rfl) gf67 (fun _ => ⟨rfl, rfl⟩) (fun k j => trivial) qf67 (fun k v => by kernel_rfl)

/-! spec.l00Put -/
def f68_j10 {ρ : Type} (k : Nat) (v35 : (List Int)) (v36 : Int) (v37 : Bool) (v38 : Int) (v39 : (List Int)) (nx : (((((List Int) × Int × Unit × Bool × Int × Unit) × ((List Int) × Unit)) → Option ρ) × Unit)) : Option ρ :=
  (getI v35 v38).bind fun x40 =>
  bif decide ((v39.length + [x40].length) * 8 ≤ roomy) then
    nx.1 ((v35, v36, (), v37, v38, ()), ((v39 ++ [x40]), ()))
  else
    none
def cf68_j10 : Cut := { sp := { temps := [(0, .c (.sl (.int .i64))), (1, .c (.int .i64)), (5, .c (.row 5000000)), (6, .c .bool), (7, .c (.int .i64))], blocks := [(5000000, .row 2 (.int .i64))], ren := [] }, outs := [(.normal, { temps := [(0, .c (.sl (.int .i64))), (1, .c (.int .i64)), (5, .c (.row 5000000)), (6, .c .bool), (7, .c (.int .i64))], blocks := [(5000000, .row 2 (.int .i64))], ren := [] })], F := fun ρ k v nx => f68_j10 k v.1.1 v.1.2.1 v.1.2.2.2.1 v.1.2.2.2.2.1 v.2.1 nx }
def f68_l4 {ρ : Type} (k : Nat) : Nat → (List Int) → Int → Bool → Int → (List Int) → ((((Int × Unit × Bool × Unit) × ((List Int) × Unit)) → Option ρ) × Unit) → Option ρ
  | 0, _, _, _, _, _, _ => none
  | j + 1, v24, v25, v26, v27, v28, nx =>
    bif (decide (v27 < (v24.length : Int))) then
      bif (!v26) then
        (getI v24 v27).bind fun x29 =>
        bif (decide (x29 ≥ v25)) then
          (getI v24 v27).bind fun x30 =>
          bif (decide (x30 > v25)) then
            bif decide ((v28.length + [v25].length) * 8 ≤ roomy) then
              f68_j10 k v24 v25 true v27 (v28 ++ [v25])
                (fun x31 : (((List Int) × Int × Unit × Bool × Int × Unit) × ((List Int) × Unit)) =>
                  f68_l4 k j x31.1.1 x31.1.2.1 x31.1.2.2.2.1 (wr .i64 (x31.1.2.2.2.2.1 + 1)) x31.2.1 nx,
                ())
            else
              none
          else
            f68_j10 k v24 v25 true v27 v28
              (fun x32 : (((List Int) × Int × Unit × Bool × Int × Unit) × ((List Int) × Unit)) =>
                f68_l4 k j x32.1.1 x32.1.2.1 x32.1.2.2.2.1 (wr .i64 (x32.1.2.2.2.2.1 + 1)) x32.2.1 nx,
              ())
        else
          f68_j10 k v24 v25 v26 v27 v28
            (fun x33 : (((List Int) × Int × Unit × Bool × Int × Unit) × ((List Int) × Unit)) =>
              f68_l4 k j x33.1.1 x33.1.2.1 x33.1.2.2.2.1 (wr .i64 (x33.1.2.2.2.2.1 + 1)) x33.2.1 nx,
            ())
      else
        f68_j10 k v24 v25 v26 v27 v28
          (fun x34 : (((List Int) × Int × Unit × Bool × Int × Unit) × ((List Int) × Unit)) =>
            f68_l4 k j x34.1.1 x34.1.2.1 x34.1.2.2.2.1 (wr .i64 (x34.1.2.2.2.2.1 + 1)) x34.2.1 nx,
          ())
    else
      nx.1 ((v25, (), v26, ()), (v28, ()))
def cf68_l4 (k : Nat) : Cut := { sp := { temps := [(0, .c (.sl (.int .i64))), (1, .c (.int .i64)), (5, .c (.row 5000000)), (6, .c .bool), (7, .c (.int .i64))], blocks := [(5000000, .row 2 (.int .i64))], ren := [] }, outs := [(.exit 0, { temps := [(1, .c (.int .i64)), (5, .c (.row 5000000)), (6, .c .bool)], blocks := [(5000000, .row 2 (.int .i64))], ren := [] })], F := fun ρ j v nx => f68_l4 k j v.1.1 v.1.2.1 v.1.2.2.2.1 v.1.2.2.2.2.1 v.2.1 nx }
def f68 (k : Nat) (a1 : (List Int)) (a2 : Int) : Option ((Unit × Unit) × ((List Int) × Unit)) :=
  f68_l4 k k a1 a2 false 0 ([] : List Int)
    (fun x23 : ((Int × Unit × Bool × Unit) × ((List Int) × Unit)) =>
      bif (!x23.1.2.2.1) then
        bif decide ((x23.2.1.length + [x23.1.1].length) * 8 ≤ roomy) then
          some (((), ()), ((x23.2.1 ++ [x23.1.1]), ()))
        else
          none
      else
        some (((), ()), (x23.2.1, ())),
    ())
def ef68 : Entry := { id := 68, ar := { temps := [(0, .c (.sl (.int .i64))), (1, .c (.int .i64))], blocks := [], ren := [] }, res := { temps := [(0, .c (.row 4000000))], blocks := [(4000000, .row 2 (.int .i64))], ren := [] }, f := fun k v => f68 k v.1.1 v.1.2.1 }
def gf68 (k : Nat) : Full := { tt := tt, n := 49, fns := [], trunc := [], tails := [], touch := [], opens := [], shapes := [], closes := [], k := k, glob := glob, cuts := [(4, (cf68_l4 k))], joins := [(10, cf68_j10)] }
theorem of68_j10 (k : Nat) : JoinOk (gf68 k) cf68_j10 (theJoin Try.f68 10) := fun ρ v nx => by kernel_rfl
theorem of68_l4 (k : Nat) : CutOk (gf68 k) (cf68_l4 k) (theLoop Try.f68 4) := fun ρ v nx => ⟨by kernel_rfl, fun j => by kernel_rfl⟩
theorem qf68 (k : Nat) : AllP (bodyL (gf68 k) Try.f68) := by
  have h : (JoinOk (gf68 k) cf68_j10 (theJoin Try.f68 10) ∧ CutOk (gf68 k) (cf68_l4 k) (theLoop Try.f68 4) ∧ True) = AllP (bodyL (gf68 k) Try.f68) := by kernel_rfl
  exact Eq.mp h (And.intro (of68_j10 k) (And.intro (of68_l4 k) (trivial)))
theorem sf68 : Sound Try.prog glob ef68 := sound_of base (fn := Try.f68) Try.func68 (by kernel_rfl) gf68 (fun _ => ⟨rfl, rfl⟩) (fun k j => trivial) qf68 (fun k v => by kernel_rfl)

/-! spec.l15DrawRule -/
def f38_l2 {ρ : Type} (k : Nat) : Nat → Int → (List Int) → Int → Int → Int → Int → (List Int) → ((((Unit × Unit × Unit × Unit) × (((List Int) × Int × Int × Unit) × (Int × Unit × Unit × Unit) × (Int × Unit × Unit × Unit) × (List Int) × Unit)) → Option ρ) × Unit) → Option ρ
  | 0, _, _, _, _, _, _, _, _ => none
  | j + 1, v46, v47, v48, v49, v50, v51, v52, nx =>
    bif (decide ((v52.length : Int) < v51)) then
      (f37 k v46 v47 v48 v49).bind fun x53 =>
      (f68 k v52 x53.1.1).bind fun x54 =>
      f38_l2 k j v46 x53.2.1.1 x53.2.1.2.1 x53.2.1.2.2.1 v50 v51 x54.2.1 nx
    else
      nx.1 (((), (), (), ()), ((v47, v48, v49, ()), (v50, (), (), ()), (v51, (), (), ()), v52, ()))
def cf38_l2 (k : Nat) : Cut := { sp := { temps := [(0, .c (.lit (.ptr 3000000 0 0 0))), (1, .c (.int .i64)), (4, .c (.box 5000000)), (5, .c (.box 5000001))], blocks := [(3000000, .box 100 [(.sl (.int .u8)), (.int .i64), (.int .u64)]), (5000000, .box 61 [(.int .i64), (.lit .nils), (.lit .nils)]), (5000001, .box 61 [(.int .i64), (.row 5000002), (.lit .nils)]), (5000002, .row 2 (.int .i64))], ren := [(3000000, some 3000000)] }, outs := [(.exit 0, { temps := [(0, .c (.lit (.ptr 3000000 0 0 0))), (4, .c (.box 5000000)), (5, .c (.box 5000001))], blocks := [(3000000, .box 100 [(.sl (.int .u8)), (.int .i64), (.int .u64)]), (5000000, .box 61 [(.int .i64), (.lit .nils), (.lit .nils)]), (5000001, .box 61 [(.int .i64), (.row 5000002), (.lit .nils)]), (5000002, .row 2 (.int .i64))], ren := [(3000000, some 3000000)] })], F := fun ρ j v nx => f38_l2 k j v.1.2.1 v.2.1.1 v.2.1.2.1 v.2.1.2.2.1 v.2.2.1.1 v.2.2.2.1.1 v.2.2.2.2.1 nx }
def f38_l5 {ρ : Type} (k : Nat) : Nat → Int → (List Int) → Int → Int → Int → Int → (List Int) → (List Int) → ((((Unit × Unit × Unit) × (((List Int) × Int × Int × Unit) × (Int × Unit × Unit × Unit) × (Int × Unit × Unit × Unit) × (List Int) × (List Int) × Unit)) → Option ρ) × Unit) → Option ρ
  | 0, _, _, _, _, _, _, _, _, _ => none
  | j + 1, v55, v56, v57, v58, v59, v60, v61, v62, nx =>
    bif (decide (v55 < (v61.length : Int))) then
      (f37 k 2 v56 v57 v58).bind fun x63 =>
      bif decide ((v62.length + [(wr .i64 (1 - (wr .i64 (2 * x63.1.1))))].length) * 8 ≤ roomy) then
        let x64 : (List Int) := (v62 ++ [(wr .i64 (1 - (wr .i64 (2 * x63.1.1))))])
        f38_l5 k j (wr .i64 (v55 + 1)) x63.2.1.1 x63.2.1.2.1 x63.2.1.2.2.1 v59 v60 v61 x64 nx
      else
        none
    else
      nx.1 (((), (), ()), ((v56, v57, v58, ()), (v59, (), (), ()), (v60, (), (), ()), v61, v62, ()))
def cf38_l5 (k : Nat) : Cut := { sp := { temps := [(0, .c (.lit (.ptr 3000000 0 0 0))), (4, .c (.box 5000000)), (5, .c (.box 5000001)), (6, .c (.int .i64))], blocks := [(3000000, .box 100 [(.sl (.int .u8)), (.int .i64), (.int .u64)]), (5000000, .box 61 [(.int .i64), (.lit .nils), (.lit .nils)]), (5000001, .box 61 [(.int .i64), (.row 5000002), (.row 5000003)]), (5000002, .row 2 (.int .i64)), (5000003, .row 2 (.int .i64))], ren := [(3000000, some 3000000)] }, outs := [(.exit 2, { temps := [(4, .c (.box 5000000)), (5, .c (.box 5000001))], blocks := [(3000000, .box 100 [(.sl (.int .u8)), (.int .i64), (.int .u64)]), (5000000, .box 61 [(.int .i64), (.lit .nils), (.lit .nils)]), (5000001, .box 61 [(.int .i64), (.row 5000002), (.row 5000003)]), (5000002, .row 2 (.int .i64)), (5000003, .row 2 (.int .i64))], ren := [(3000000, some 3000000)] })], F := fun ρ j v nx => f38_l5 k j v.1.2.2.2.1 v.2.1.1 v.2.1.2.1 v.2.1.2.2.1 v.2.2.1.1 v.2.2.2.1.1 v.2.2.2.2.1 v.2.2.2.2.2.1 nx }
def f38 (k : Nat) (a1 : Int) (a2 : (List Int)) (a3 : Int) (a4 : Int) : Option (((Int × Unit × Unit × Unit) × Unit) × (((List Int) × Int × Int × Unit) × (List Int) × (List Int) × Unit)) :=
  (f67 k 4 a1).bind fun x41 =>
  (f37 k x41.1.1 a2 a3 a4).bind fun x42 =>
  f38_l2 k k a1 x42.2.1.1 x42.2.1.2.1 x42.2.1.2.2.1 0 (wr .i64 (1 + x42.1.1)) ([] : List Int)
    (fun x44 : ((Unit × Unit × Unit × Unit) × (((List Int) × Int × Int × Unit) × (Int × Unit × Unit × Unit) × (Int × Unit × Unit × Unit) × (List Int) × Unit)) =>
      f38_l5 k k 0 x44.2.1.1 x44.2.1.2.1 x44.2.1.2.2.1 x44.2.2.1.1 x44.2.2.2.1.1 x44.2.2.2.2.1 ([] : List Int)
        (fun x45 : ((Unit × Unit × Unit) × (((List Int) × Int × Int × Unit) × (Int × Unit × Unit × Unit) × (Int × Unit × Unit × Unit) × (List Int) × (List Int) × Unit)) =>
          some (((x45.2.2.2.1.1, (), (), ()), ()), ((x45.2.1.1, x45.2.1.2.1, x45.2.1.2.2.1, ()), x45.2.2.2.2.1, x45.2.2.2.2.2.1, ())),
        ()),
    ())
def ef38 : Entry := { id := 38, ar := { temps := [(0, .c (.box 3000000)), (1, .c (.int .i64))], blocks := [(3000000, .box 100 [(.sl (.int .u8)), (.int .i64), (.int .u64)])], ren := [] }, res := { temps := [(0, .agg [(.int .i64), (.row 4000000), (.row 4000001)])], blocks := [(3000000, .box 100 [(.sl (.int .u8)), (.int .i64), (.int .u64)]), (4000000, .row 2 (.int .i64)), (4000001, .row 2 (.int .i64))], ren := [(3000000, some 3000000)] }, f := fun k v => f38 k v.1.2.1 v.2.1.1 v.2.1.2.1 v.2.1.2.2.1 }
def gf38 (k : Nat) : Full := { tt := tt, n := 43, fns := [ef67, ef37, ef68], trunc := [], tails := [], touch := [(3, [(4, [3000000]), (7, [5000001])]), (7, [(3, [3000000]), (7, [5000003]), (9, [5000001])])], opens := [], shapes := [], closes := [], k := k, glob := glob, cuts := [(2, (cf38_l2 k)), (5, (cf38_l5 k))], joins := [] }
theorem of38_l2 (k : Nat) : CutOk (gf38 k) (cf38_l2 k) (theLoop Try.f38 2) := fun ρ v nx => ⟨by kernel_rfl, fun j => by kernel_rfl⟩
theorem of38_l5 (k : Nat) : CutOk (gf38 k) (cf38_l5 k) (theLoop Try.f38 5) := fun ρ v nx => ⟨by kernel_rfl, fun j => by kernel_rfl⟩
theorem qf38 (k : Nat) : AllP (bodyL (gf38 k) Try.f38) := by
  have h : (CutOk (gf38 k) (cf38_l2 k) (theLoop Try.f38 2) ∧ CutOk (gf38 k) (cf38_l5 k) (theLoop Try.f38 5) ∧ True) = AllP (bodyL (gf38 k) Try.f38) := by kernel_rfl
  exact Eq.mp h (And.intro (of38_l2 k) (And.intro (of38_l5 k) (trivial)))
theorem sf38 : Sound Try.prog glob ef38 := sound_of base (fn := Try.f38) Try.func38 (by kernel_rfl) gf38 (fun _ => ⟨rfl, rfl⟩) (fun k j => ⟨sf67.at j, sf37.at j, sf68.at j, trivial⟩) qf38 (fun k v => by kernel_rfl)

/-! spec.l15DrawRules -/
def f36_l4 {ρ : Type} (k : Nat) : Nat → Int → Int → (List Int) → Int → Int → (List (Int × ((List Int) × (List Int)))) → ((((Int × Unit × Unit) × (((List Int) × Int × Int × Unit) × (List (Int × ((List Int) × (List Int)))) × Unit)) → Option ρ) × Unit) → Option ρ
  | 0, _, _, _, _, _, _, _ => none
  | j + 1, v14, v15, v16, v17, v18, v19, nx =>
    bif (decide (v15 > 0)) then
      (f38 k v14 v16 v17 v18).bind fun x20 =>
      bif decide ((v19.length + [(x20.1.1.1, (x20.2.2.1, x20.2.2.2.1))].length) * 56 ≤ roomy) then
        let x21 : (List (Int × ((List Int) × (List Int)))) := (v19 ++ [(x20.1.1.1, (x20.2.2.1, x20.2.2.2.1))])
        f36_l4 k j v14 (wr .i64 (v15 - 1)) x20.2.1.1 x20.2.1.2.1 x20.2.1.2.2.1 x21 nx
      else
        none
    else
      nx.1 ((v14, (), ()), ((v16, v17, v18, ()), v19, ()))
def cf36_l4 (k : Nat) : Cut := { sp := { temps := [(0, .c (.lit (.ptr 3000000 0 0 0))), (4, .c (.int .i64)), (5, .c (.row 5000000)), (6, .c (.int .i64))], blocks := [(3000000, .box 100 [(.sl (.int .u8)), (.int .i64), (.int .u64)]), (5000000, .own 61 (.p (.d (.int .i64)) (.p (.s 2 (.d (.int .i64))) (.s 2 (.d (.int .i64))))))], ren := [(3000000, some 3000000)] }, outs := [(.exit 0, { temps := [(4, .c (.int .i64)), (5, .c (.row 5000000))], blocks := [(3000000, .box 100 [(.sl (.int .u8)), (.int .i64), (.int .u64)]), (5000000, .own 61 (.p (.d (.int .i64)) (.p (.s 2 (.d (.int .i64))) (.s 2 (.d (.int .i64))))))], ren := [(3000000, some 3000000)] })], F := fun ρ j v nx => f36_l4 k j v.1.2.1 v.1.2.2.2.1 v.2.1.1 v.2.1.2.1 v.2.1.2.2.1 v.2.2.1 nx }
def f36 (k : Nat) (a1 : (List Int)) (a2 : Int) (a3 : Int) : Option ((Unit × Int × Unit) × (((List Int) × Int × Int × Unit) × (List (Int × ((List Int) × (List Int)))) × Unit)) :=
  (f37 k 9 a1 a2 a3).bind fun x11 =>
  (f37 k 14 x11.2.1.1 x11.2.1.2.1 x11.2.1.2.2.1).bind fun x12 =>
  f36_l4 k k (wr .i64 (1 + x11.1.1)) x12.1.1 x12.2.1.1 x12.2.1.2.1 x12.2.1.2.2.1 ([] : List (Int × ((List Int) × (List Int))))
    (fun x13 : ((Int × Unit × Unit) × (((List Int) × Int × Int × Unit) × (List (Int × ((List Int) × (List Int)))) × Unit)) =>
      some (((), x13.1.1, ()), ((x13.2.1.1, x13.2.1.2.1, x13.2.1.2.2.1, ()), x13.2.2.1, ())),
    ())
def ef36 : Entry := { id := 36, ar := { temps := [(0, .c (.box 3000000))], blocks := [(3000000, .box 100 [(.sl (.int .u8)), (.int .i64), (.int .u64)])], ren := [] }, res := { temps := [(0, .c (.row 4000000)), (1, .c (.int .i64))], blocks := [(3000000, .box 100 [(.sl (.int .u8)), (.int .i64), (.int .u64)]), (4000000, .own 61 (.p (.d (.int .i64)) (.p (.s 2 (.d (.int .i64))) (.s 2 (.d (.int .i64))))))], ren := [(3000000, some 3000000)] }, f := fun k v => f36 k v.2.1.1 v.2.1.2.1 v.2.1.2.2.1 }
def gf36 (k : Nat) : Full := { tt := tt, n := 25, fns := [ef37, ef38], trunc := [], tails := [], touch := [], opens := [], shapes := [(10, (.p (.d (.int .i64)) (.p (.s 2 (.d (.int .i64))) (.s 2 (.d (.int .i64)))))), (21, (.p (.d (.int .i64)) (.p (.s 2 (.d (.int .i64))) (.s 2 (.d (.int .i64)))))), (22, (.p (.d (.int .i64)) (.p (.s 2 (.d (.int .i64))) (.s 2 (.d (.int .i64))))))], closes := [], k := k, glob := glob, cuts := [(4, (cf36_l4 k))], joins := [] }
theorem of36_l4 (k : Nat) : CutOk (gf36 k) (cf36_l4 k) (theLoop Try.f36 4) := fun ρ v nx => ⟨by kernel_rfl, fun j => by kernel_rfl⟩
theorem qf36 (k : Nat) : AllP (bodyL (gf36 k) Try.f36) := by
  have h : (CutOk (gf36 k) (cf36_l4 k) (theLoop Try.f36 4) ∧ True) = AllP (bodyL (gf36 k) Try.f36) := by kernel_rfl
  exact Eq.mp h (And.intro (of36_l4 k) (trivial))
theorem sf36 : Sound Try.prog glob ef36 := sound_of base (fn := Try.f36) Try.func36 (by kernel_rfl) gf36 (fun _ => ⟨rfl, rfl⟩) (fun k j => ⟨sf37.at j, sf38.at j, trivial⟩) qf36 (fun k v => by kernel_rfl)

/-! spec.E8Rules -/
def f8_l4 {ρ : Type} (k : Nat) : Nat → Int → Int → (List Int) → Int → Int → (List (Int × ((List Int) × (List Int)))) → ((((Unit × Unit × Int × Unit) × (((List Int) × Int × Int × Unit) × (List (Int × ((List Int) × (List Int)))) × Unit)) → Option ρ) × Unit) → Option ρ
  | 0, _, _, _, _, _, _, _ => none
  | j + 1, v32, v33, v34, v35, v36, v37, nx =>
    bif (decide (v33 > 0)) then
      (f38 k v32 v34 v35 v36).bind fun x38 =>
      bif decide ((v37.length + [(x38.1.1.1, (x38.2.2.1, x38.2.2.2.1))].length) * 56 ≤ roomy) then
        let x39 : (List (Int × ((List Int) × (List Int)))) := (v37 ++ [(x38.1.1.1, (x38.2.2.1, x38.2.2.2.1))])
        f8_l4 k j v32 (wr .i64 (v33 - 1)) x38.2.1.1 x38.2.1.2.1 x38.2.1.2.2.1 x39 nx
      else
        none
    else
      nx.1 (((), (), v32, ()), ((v34, v35, v36, ()), v37, ()))
def cf8_l4 (k : Nat) : Cut := { sp := { temps := [(5, .c (.box 5000000)), (6, .c (.row 5000001)), (7, .c (.int .i64)), (8, .c (.int .i64))], blocks := [(5000000, .box 100 [(.sl (.int .u8)), (.int .i64), (.int .u64)]), (5000001, .own 61 (.p (.d (.int .i64)) (.p (.s 2 (.d (.int .i64))) (.s 2 (.d (.int .i64))))))], ren := [] }, outs := [(.exit 0, { temps := [(5, .c (.box 5000000)), (6, .c (.row 5000001)), (7, .c (.int .i64))], blocks := [(5000000, .box 100 [(.sl (.int .u8)), (.int .i64), (.int .u64)]), (5000001, .own 61 (.p (.d (.int .i64)) (.p (.s 2 (.d (.int .i64))) (.s 2 (.d (.int .i64))))))], ren := [] })], F := fun ρ j v nx => f8_l4 k j v.1.2.2.1 v.1.2.2.2.1 v.2.1.1 v.2.1.2.1 v.2.1.2.2.1 v.2.2.1 nx }
def f8_l9 {ρ : Type} (k : Nat) : Nat → Int → Int → (List Int) → Int → Int → (List (Int × ((List Int) × (List Int)))) → (List Int) → ((((Unit × Int × Unit × Unit) × ((List (Int × ((List Int) × (List Int)))) × (List Int) × Unit)) → Option ρ) × Unit) → Option ρ
  | 0, _, _, _, _, _, _, _, _ => none
  | j + 1, v40, v41, v42, v43, v44, v45, v46, nx =>
    bif (decide (v41 < v40)) then
      (f37 k 2 v42 v43 v44).bind fun x47 =>
      bif decide ((v46.length + [(wr .i64 (1 - (wr .i64 (2 * x47.1.1))))].length) * 8 ≤ roomy) then
        let x48 : (List Int) := (v46 ++ [(wr .i64 (1 - (wr .i64 (2 * x47.1.1))))])
        f8_l9 k j v40 (wr .i64 (v41 + 1)) x47.2.1.1 x47.2.1.2.1 x47.2.1.2.2.1 v45 x48 nx
      else
        none
    else
      nx.1 (((), v40, (), ()), (v45, v46, ()))
def cf8_l9 (k : Nat) : Cut := { sp := { temps := [(5, .c (.box 5000000)), (6, .c (.row 5000001)), (7, .c (.int .i64)), (9, .c (.row 5000002)), (10, .c (.int .i64))], blocks := [(5000000, .box 100 [(.sl (.int .u8)), (.int .i64), (.int .u64)]), (5000001, .own 61 (.p (.d (.int .i64)) (.p (.s 2 (.d (.int .i64))) (.s 2 (.d (.int .i64)))))), (5000002, .row 2 (.int .i64))], ren := [] }, outs := [(.exit 2, { temps := [(6, .c (.row 5000000)), (7, .c (.int .i64)), (9, .c (.row 5000001))], blocks := [(5000000, .own 61 (.p (.d (.int .i64)) (.p (.s 2 (.d (.int .i64))) (.s 2 (.d (.int .i64)))))), (5000001, .row 2 (.int .i64))], ren := [] })], F := fun ρ j v nx => f8_l9 k j v.1.2.2.1 v.1.2.2.2.2.1 v.2.1.1 v.2.1.2.1 v.2.1.2.2.1 v.2.2.1 v.2.2.2.1 nx }
def f8 (k : Nat) (a1 : (List Int)) : Option ((Unit × Int × Unit × Unit) × ((List (Int × ((List Int) × (List Int)))) × (List Int) × Unit)) :=
  (f35 k a1).bind fun x25 =>
  (f36 k x25.2.1.1 x25.2.1.2.1 x25.2.1.2.2.1).bind fun x26 =>
  (f37 k 10 x26.2.1.1 x26.2.1.2.1 x26.2.1.2.2.1).bind fun x29 =>
  f8_l4 k k x26.1.2.1 x29.1.1 x29.2.1.1 x29.2.1.2.1 x29.2.1.2.2.1 x26.2.2.1
    (fun x30 : ((Unit × Unit × Int × Unit) × (((List Int) × Int × Int × Unit) × (List (Int × ((List Int) × (List Int)))) × Unit)) =>
      f8_l9 k k x30.1.2.2.1 0 x30.2.1.1 x30.2.1.2.1 x30.2.1.2.2.1 x30.2.2.1 ([] : List Int)
        (fun x31 : ((Unit × Int × Unit × Unit) × ((List (Int × ((List Int) × (List Int)))) × (List Int) × Unit)) =>
          some (((), x31.1.2.1, (), ()), (x31.2.1, x31.2.2.1, ())),
        ()),
    ())
def ef8 : Entry := { id := 8, ar := { temps := [(0, .c (.sl (.int .u8)))], blocks := [], ren := [] }, res := { temps := [(0, .c (.row 4000000)), (1, .c (.int .i64)), (2, .c (.row 4000001))], blocks := [(4000000, .own 61 (.p (.d (.int .i64)) (.p (.s 2 (.d (.int .i64))) (.s 2 (.d (.int .i64)))))), (4000001, .row 2 (.int .i64))], ren := [] }, f := fun k v => f8 k v.1.1 }
def gf8 (k : Nat) : Full := { tt := tt, n := 46, fns := [ef35, ef36, ef37, ef38], trunc := [], tails := [], touch := [], opens := [], shapes := [(28, (.p (.d (.int .i64)) (.p (.s 2 (.d (.int .i64))) (.s 2 (.d (.int .i64)))))), (29, (.p (.d (.int .i64)) (.p (.s 2 (.d (.int .i64))) (.s 2 (.d (.int .i64))))))], closes := [], k := k, glob := glob, cuts := [(4, (cf8_l4 k)), (9, (cf8_l9 k))], joins := [] }
theorem of8_l4 (k : Nat) : CutOk (gf8 k) (cf8_l4 k) (theLoop Try.f8 4) := fun ρ v nx => ⟨by kernel_rfl, fun j => by kernel_rfl⟩
theorem of8_l9 (k : Nat) : CutOk (gf8 k) (cf8_l9 k) (theLoop Try.f8 9) := fun ρ v nx => ⟨by kernel_rfl, fun j => by kernel_rfl⟩
theorem qf8 (k : Nat) : AllP (bodyL (gf8 k) Try.f8) := by
  have h : (CutOk (gf8 k) (cf8_l4 k) (theLoop Try.f8 4) ∧ CutOk (gf8 k) (cf8_l9 k) (theLoop Try.f8 9) ∧ True) = AllP (bodyL (gf8 k) Try.f8) := by kernel_rfl
  exact Eq.mp h (And.intro (of8_l4 k) (And.intro (of8_l9 k) (trivial)))
theorem sf8 : Sound Try.prog glob ef8 := sound_of base (fn := Try.f8) Try.func8 (by kernel_rfl) gf8 (fun _ => ⟨rfl, rfl⟩) (fun k j => ⟨sf35.at j, sf36.at j, sf37.at j, sf38.at j, trivial⟩) qf8 (fun k v => by kernel_rfl)

/-! spec.l15DrawRules -/
def f36a_l4 {ρ : Type} (k : Nat) : Nat → Int → Int → (List Int) → Int → Int → (List (Int × ((List Int) × (List Int)))) → ((((Int × Unit × Unit) × (((List Int) × Int × Int × Unit) × (List (Int × ((List Int) × (List Int)))) × Unit)) → Option ρ) × Unit) → Option ρ
  | 0, _, _, _, _, _, _, _ => none
  | j + 1, v14, v15, v16, v17, v18, v19, nx =>
    bif (decide (v15 > 0)) then
      (f38 k v14 v16 v17 v18).bind fun x20 =>
      bif decide ((v19.length + [(x20.1.1.1, (x20.2.2.1, x20.2.2.2.1))].length) * 56 ≤ roomy) then
        let x21 : (List (Int × ((List Int) × (List Int)))) := (v19 ++ [(x20.1.1.1, (x20.2.2.1, x20.2.2.2.1))])
        f36a_l4 k j v14 (wr .i64 (v15 - 1)) x20.2.1.1 x20.2.1.2.1 x20.2.1.2.2.1 x21 nx
      else
        none
    else
      nx.1 ((v14, (), ()), ((v16, v17, v18, ()), v19, ()))
def cf36a_l4 (k : Nat) : Cut := { sp := { temps := [(0, .c (.lit (.ptr 3000000 0 0 0))), (4, .c (.int .i64)), (5, .c (.row 5000000)), (6, .c (.int .i64))], blocks := [(3000000, .box 100 [(.sl (.int .u8)), (.int .i64), (.int .u64)]), (5000000, .row 61 (.pair (.int .i64) (.pair (.sl (.int .i64)) (.sl (.int .i64)))))], ren := [(3000000, some 3000000)] }, outs := [(.exit 0, { temps := [(4, .c (.int .i64)), (5, .c (.row 5000000))], blocks := [(3000000, .box 100 [(.sl (.int .u8)), (.int .i64), (.int .u64)]), (5000000, .row 61 (.pair (.int .i64) (.pair (.sl (.int .i64)) (.sl (.int .i64)))))], ren := [(3000000, some 3000000)] })], F := fun ρ j v nx => f36a_l4 k j v.1.2.1 v.1.2.2.2.1 v.2.1.1 v.2.1.2.1 v.2.1.2.2.1 v.2.2.1 nx }
def f36a (k : Nat) (a1 : (List Int)) (a2 : Int) (a3 : Int) : Option ((Unit × Int × Unit) × (((List Int) × Int × Int × Unit) × (List (Int × ((List Int) × (List Int)))) × Unit)) :=
  (f37 k 9 a1 a2 a3).bind fun x11 =>
  (f37 k 14 x11.2.1.1 x11.2.1.2.1 x11.2.1.2.2.1).bind fun x12 =>
  f36a_l4 k k (wr .i64 (1 + x11.1.1)) x12.1.1 x12.2.1.1 x12.2.1.2.1 x12.2.1.2.2.1 ([] : List (Int × ((List Int) × (List Int))))
    (fun x13 : ((Int × Unit × Unit) × (((List Int) × Int × Int × Unit) × (List (Int × ((List Int) × (List Int)))) × Unit)) =>
      some (((), x13.1.1, ()), ((x13.2.1.1, x13.2.1.2.1, x13.2.1.2.2.1, ()), x13.2.2.1, ())),
    ())
def ef36a : Entry := { id := 36, ar := { temps := [(0, .c (.box 3000000))], blocks := [(3000000, .box 100 [(.sl (.int .u8)), (.int .i64), (.int .u64)])], ren := [] }, res := { temps := [(0, .c (.row 4000000)), (1, .c (.int .i64))], blocks := [(3000000, .box 100 [(.sl (.int .u8)), (.int .i64), (.int .u64)]), (4000000, .row 61 (.pair (.int .i64) (.pair (.sl (.int .i64)) (.sl (.int .i64)))))], ren := [(3000000, some 3000000)] }, f := fun k v => f36a k v.2.1.1 v.2.1.2.1 v.2.1.2.2.1 }
def gf36a (k : Nat) : Full := { tt := tt, n := 25, fns := [ef37, ef38], trunc := [], tails := [], touch := [], opens := [], shapes := [], closes := [], k := k, glob := glob, cuts := [(4, (cf36a_l4 k))], joins := [] }
theorem of36a_l4 (k : Nat) : CutOk (gf36a k) (cf36a_l4 k) (theLoop Try.f36 4) := fun ρ v nx => ⟨by kernel_rfl, fun j => by kernel_rfl⟩
theorem qf36a (k : Nat) : AllP (bodyL (gf36a k) Try.f36) := by
  have h : (CutOk (gf36a k) (cf36a_l4 k) (theLoop Try.f36 4) ∧ True) = AllP (bodyL (gf36a k) Try.f36) := by kernel_rfl
  exact Eq.mp h (And.intro (of36a_l4 k) (trivial))
theorem sf36a : Sound Try.prog glob ef36a := sound_of base (fn := Try.f36) Try.func36 (by kernel_rfl) gf36a (fun _ => ⟨rfl, rfl⟩) (fun k j => ⟨sf37.at j, sf38.at j, trivial⟩) qf36a (fun k v => by kernel_rfl)

/-! spec.E8Rules -/
def f8a_l4 {ρ : Type} (k : Nat) : Nat → Int → Int → (List Int) → Int → Int → (List (Int × ((List Int) × (List Int)))) → ((((Unit × Unit × Int × Unit) × (((List Int) × Int × Int × Unit) × (List (Int × ((List Int) × (List Int)))) × Unit)) → Option ρ) × Unit) → Option ρ
  | 0, _, _, _, _, _, _, _ => none
  | j + 1, v32, v33, v34, v35, v36, v37, nx =>
    bif (decide (v33 > 0)) then
      (f38 k v32 v34 v35 v36).bind fun x38 =>
      bif decide ((v37.length + [(x38.1.1.1, (x38.2.2.1, x38.2.2.2.1))].length) * 56 ≤ roomy) then
        let x39 : (List (Int × ((List Int) × (List Int)))) := (v37 ++ [(x38.1.1.1, (x38.2.2.1, x38.2.2.2.1))])
        f8a_l4 k j v32 (wr .i64 (v33 - 1)) x38.2.1.1 x38.2.1.2.1 x38.2.1.2.2.1 x39 nx
      else
        none
    else
      nx.1 (((), (), v32, ()), ((v34, v35, v36, ()), v37, ()))
def cf8a_l4 (k : Nat) : Cut := { sp := { temps := [(5, .c (.box 5000000)), (6, .c (.row 5000001)), (7, .c (.int .i64)), (8, .c (.int .i64))], blocks := [(5000000, .box 100 [(.sl (.int .u8)), (.int .i64), (.int .u64)]), (5000001, .row 61 (.pair (.int .i64) (.pair (.sl (.int .i64)) (.sl (.int .i64)))))], ren := [] }, outs := [(.exit 0, { temps := [(5, .c (.box 5000000)), (6, .c (.row 5000001)), (7, .c (.int .i64))], blocks := [(5000000, .box 100 [(.sl (.int .u8)), (.int .i64), (.int .u64)]), (5000001, .row 61 (.pair (.int .i64) (.pair (.sl (.int .i64)) (.sl (.int .i64)))))], ren := [] })], F := fun ρ j v nx => f8a_l4 k j v.1.2.2.1 v.1.2.2.2.1 v.2.1.1 v.2.1.2.1 v.2.1.2.2.1 v.2.2.1 nx }
def f8a_l9 {ρ : Type} (k : Nat) : Nat → Int → Int → (List Int) → Int → Int → (List (Int × ((List Int) × (List Int)))) → (List Int) → ((((Unit × Int × Unit × Unit) × ((List (Int × ((List Int) × (List Int)))) × (List Int) × Unit)) → Option ρ) × Unit) → Option ρ
  | 0, _, _, _, _, _, _, _, _ => none
  | j + 1, v40, v41, v42, v43, v44, v45, v46, nx =>
    bif (decide (v41 < v40)) then
      (f37 k 2 v42 v43 v44).bind fun x47 =>
      bif decide ((v46.length + [(wr .i64 (1 - (wr .i64 (2 * x47.1.1))))].length) * 8 ≤ roomy) then
        let x48 : (List Int) := (v46 ++ [(wr .i64 (1 - (wr .i64 (2 * x47.1.1))))])
        f8a_l9 k j v40 (wr .i64 (v41 + 1)) x47.2.1.1 x47.2.1.2.1 x47.2.1.2.2.1 v45 x48 nx
      else
        none
    else
      nx.1 (((), v40, (), ()), (v45, v46, ()))
def cf8a_l9 (k : Nat) : Cut := { sp := { temps := [(5, .c (.box 5000000)), (6, .c (.row 5000001)), (7, .c (.int .i64)), (9, .c (.row 5000002)), (10, .c (.int .i64))], blocks := [(5000000, .box 100 [(.sl (.int .u8)), (.int .i64), (.int .u64)]), (5000001, .row 61 (.pair (.int .i64) (.pair (.sl (.int .i64)) (.sl (.int .i64))))), (5000002, .row 2 (.int .i64))], ren := [] }, outs := [(.exit 2, { temps := [(6, .c (.row 5000000)), (7, .c (.int .i64)), (9, .c (.row 5000001))], blocks := [(5000000, .row 61 (.pair (.int .i64) (.pair (.sl (.int .i64)) (.sl (.int .i64))))), (5000001, .row 2 (.int .i64))], ren := [] })], F := fun ρ j v nx => f8a_l9 k j v.1.2.2.1 v.1.2.2.2.2.1 v.2.1.1 v.2.1.2.1 v.2.1.2.2.1 v.2.2.1 v.2.2.2.1 nx }
def f8a (k : Nat) (a1 : (List Int)) : Option ((Unit × Int × Unit × Unit) × ((List (Int × ((List Int) × (List Int)))) × (List Int) × Unit)) :=
  (f35 k a1).bind fun x25 =>
  (f36a k x25.2.1.1 x25.2.1.2.1 x25.2.1.2.2.1).bind fun x26 =>
  (f37 k 10 x26.2.1.1 x26.2.1.2.1 x26.2.1.2.2.1).bind fun x29 =>
  f8a_l4 k k x26.1.2.1 x29.1.1 x29.2.1.1 x29.2.1.2.1 x29.2.1.2.2.1 x26.2.2.1
    (fun x30 : ((Unit × Unit × Int × Unit) × (((List Int) × Int × Int × Unit) × (List (Int × ((List Int) × (List Int)))) × Unit)) =>
      f8a_l9 k k x30.1.2.2.1 0 x30.2.1.1 x30.2.1.2.1 x30.2.1.2.2.1 x30.2.2.1 ([] : List Int)
        (fun x31 : ((Unit × Int × Unit × Unit) × ((List (Int × ((List Int) × (List Int)))) × (List Int) × Unit)) =>
          some (((), x31.1.2.1, (), ()), (x31.2.1, x31.2.2.1, ())),
        ()),
    ())
def ef8a : Entry := { id := 8, ar := { temps := [(0, .c (.sl (.int .u8)))], blocks := [], ren := [] }, res := { temps := [(0, .c (.row 4000000)), (1, .c (.int .i64)), (2, .c (.row 4000001))], blocks := [(4000000, .row 61 (.pair (.int .i64) (.pair (.sl (.int .i64)) (.sl (.int .i64))))), (4000001, .row 2 (.int .i64))], ren := [] }, f := fun k v => f8a k v.1.1 }
def gf8a (k : Nat) : Full := { tt := tt, n := 46, fns := [ef35, ef36a, ef37, ef38], trunc := [], tails := [], touch := [], opens := [], shapes := [], closes := [], k := k, glob := glob, cuts := [(4, (cf8a_l4 k)), (9, (cf8a_l9 k))], joins := [] }
theorem of8a_l4 (k : Nat) : CutOk (gf8a k) (cf8a_l4 k) (theLoop Try.f8 4) := fun ρ v nx => ⟨by kernel_rfl, fun j => by kernel_rfl⟩
theorem of8a_l9 (k : Nat) : CutOk (gf8a k) (cf8a_l9 k) (theLoop Try.f8 9) := fun ρ v nx => ⟨by kernel_rfl, fun j => by kernel_rfl⟩
theorem qf8a (k : Nat) : AllP (bodyL (gf8a k) Try.f8) := by
  have h : (CutOk (gf8a k) (cf8a_l4 k) (theLoop Try.f8 4) ∧ CutOk (gf8a k) (cf8a_l9 k) (theLoop Try.f8 9) ∧ True) = AllP (bodyL (gf8a k) Try.f8) := by kernel_rfl
  exact Eq.mp h (And.intro (of8a_l4 k) (And.intro (of8a_l9 k) (trivial)))
theorem sf8a : Sound Try.prog glob ef8a := sound_of base (fn := Try.f8) Try.func8 (by kernel_rfl) gf8a (fun _ => ⟨rfl, rfl⟩) (fun k j => ⟨sf35.at j, sf36a.at j, sf37.at j, sf38.at j, trivial⟩) qf8a (fun k v => by kernel_rfl)

/-! impl.solver).search$1 -/
def f101b (k : Nat) (a1 : Int) (a2 : Int) (a3 : Int) (a4 : (List (Int × ((List Int) × (List Int))))) (a5 : Int) (a6 : Int) (a7 : Int) (a8 : (List (List Int))) : Option (Unit × ((Unit × Unit) × ((List (Int × ((List Int) × (List Int)))) × Int × Int × ((Unit × Unit) × Int) × Unit × Unit) × (Unit × Unit) × (List (List Int)) × Unit)) :=
  (f71 k 2 a1 a2 a3).bind fun x2 =>
  some ((), (((), ()), (a4, a5, a6, (((), ()), a7), (), ()), ((), ()), a8, ()))
def ef101b : Entry := { id := 101, ar := { temps := [(0, .c (.int .i64)), (1, .c (.int .i64)), (2, .c (.int .i64)), (3, .c (.box 3000000))], blocks := [(3000000, .box 66 [(.box 3000001)]), (3000001, .box 73 [(.sl (.pair (.int .i64) (.pair (.sl (.int .i64)) (.sl (.int .i64))))), (.int .i64), (.int .i64), (.cap (.cap (.lit (.fn 72)) (.box 3000002)) (.dp (.int .i64))), (.lit (.fn 71))]), (3000002, .box 27 [(.row 3000003)]), (3000003, .row 24 (.sl (.int .i64)))], ren := [] }, res := { temps := [], blocks := [(3000000, .box 66 [(.lit (.ptr 3000001 0 0 0))]), (3000001, .box 73 [(.sl (.pair (.int .i64) (.pair (.sl (.int .i64)) (.sl (.int .i64))))), (.int .i64), (.int .i64), (.cap (.cap (.lit (.fn 72)) (.lit (.ptr 3000002 0 0 0))) (.dp (.int .i64))), (.lit (.fn 71))]), (3000002, .box 27 [(.lit (.row 3000003))]), (3000003, .row 24 (.sl (.int .i64)))], ren := [(3000000, some 3000000), (3000001, some 3000001), (3000002, some 3000002), (3000003, some 3000003)] }, f := fun k v => f101b k v.1.1 v.1.2.1 v.1.2.2.1 v.2.2.1.1 v.2.2.1.2.1 v.2.2.1.2.2.1 v.2.2.1.2.2.2.1.2 v.2.2.2.2.1 }
def gf101b (k : Nat) : Full := { tt := tt, n := 16, fns := [ef71], trunc := [], tails := [], touch := [], opens := [], shapes := [], closes := [], k := k, glob := glob, cuts := [], joins := [] }
theorem qf101b (k : Nat) : AllP (bodyL (gf101b k) Try.f101) := by
  have h : True = AllP (bodyL (gf101b k) Try.f101) := by kernel_rfl
  exact Eq.mp h trivial
theorem sf101b : Sound Try.prog glob ef101b := sound_of base (fn := Try.f101) Try.func101 (by kernel_rfl) gf101b (fun _ => ⟨rfl, rfl⟩) (fun k j => ⟨sf71.at j, trivial⟩) qf101b (fun k v => by kernel_rfl)

/-! impl.propagate -/
def f100b_l5 {ρ : Type} (k : Nat) : Nat → (List (Int × ((List Int) × (List Int)))) → Bool → (List (Int × ((List Int) × (List Int)))) → Int → Int → (List Int) → (List (Int × ((List Int) × (List Int)))) → Int → Int → Int → (List (List Int)) → (((((List (Int × ((List Int) × (List Int)))) × Unit × (Unit × Unit) × Bool × Unit) × ((List Int) × (Unit × Unit) × ((List (Int × ((List Int) × (List Int)))) × Int × Int × ((Unit × Unit) × Int) × Unit × Unit) × (Unit × Unit) × (List (List Int)) × Unit)) → Option ρ) × (((Int × Unit) × ((List Int) × (Unit × Unit) × ((List (Int × ((List Int) × (List Int)))) × Int × Int × ((Unit × Unit) × Int) × Unit × Unit) × (Unit × Unit) × (List (List Int)) × Unit)) → Option ρ) × Unit) → Option ρ
  | 0, _, _, _, _, _, _, _, _, _, _, _, _ => none
  | j + 1, v32, v33, v34, v35, v36, v37, v38, v39, v40, v41, v42, nx =>
    bif (decide (v36 < v35)) then
      (getI v34 v36).bind fun x43 =>
      (f52 k x43.1 x43.2.1 x43.2.2 v37).bind fun x45 =>
      bif (decide (x45.1.1 < 0)) then
        nx.2.1 ((v36, ()), (v37, ((), ()), (v38, v39, v40, (((), ()), v41), (), ()), ((), ()), v42, ()))
      else
        (f103 k x43.1 x43.2.1 x43.2.2 v37).bind fun x46 =>
        bif x46.1.2.2.1 then
          bif decide (0 ≤ x46.1.1) && decide (x46.1.1 < (x46.2.1.length : Int)) then
            (x46.2.1[x46.1.1.toNat]?).bind fun _ =>
            (f101b k x46.1.1 x46.1.2.1 v36 v38 v39 v40 v41 v42).bind fun x48 =>
            f100b_l5 k j v32 true v34 v35 (wr .i64 (v36 + 1)) (x46.2.1.set x46.1.1.toNat x46.1.2.1) x48.2.2.1.1 x48.2.2.1.2.1 x48.2.2.1.2.2.1 x48.2.2.1.2.2.2.1.2 x48.2.2.2.2.1 nx
          else
            none
        else
          f100b_l5 k j v32 v33 v34 v35 (wr .i64 (v36 + 1)) x46.2.1 v38 v39 v40 v41 v42 nx
    else
      nx.1 ((v32, (), ((), ()), v33, ()), (v37, ((), ()), (v38, v39, v40, (((), ()), v41), (), ()), ((), ()), v42, ()))
def cf100b_l5 (k : Nat) : Cut := { sp := { temps := [(0, .c (.sl (.pair (.int .i64) (.pair (.sl (.int .i64)) (.sl (.int .i64)))))), (1, .c (.lit (.row 3000000))), (2, .c (.cap (.lit (.fn 101)) (.lit (.ptr 3000001 0 0 0)))), (7, .c .bool), (14, .c (.sl (.pair (.int .i64) (.pair (.sl (.int .i64)) (.sl (.int .i64)))))), (15, .c (.int .i64)), (16, .c (.int .i64))], blocks := [(3000000, .row 2 (.int .i64)), (3000001, .box 66 [(.lit (.ptr 3000002 0 0 0))]), (3000002, .box 73 [(.sl (.pair (.int .i64) (.pair (.sl (.int .i64)) (.sl (.int .i64))))), (.int .i64), (.int .i64), (.cap (.cap (.lit (.fn 72)) (.lit (.ptr 3000003 0 0 0))) (.dp (.int .i64))), (.lit (.fn 71))]), (3000003, .box 27 [(.lit (.row 3000004))]), (3000004, .row 24 (.sl (.int .i64)))], ren := [(3000000, some 3000000), (3000001, some 3000001), (3000002, some 3000002), (3000003, some 3000003), (3000004, some 3000004)] }, outs := [(.exit 2, { temps := [(0, .c (.sl (.pair (.int .i64) (.pair (.sl (.int .i64)) (.sl (.int .i64)))))), (1, .c (.lit (.row 3000000))), (2, .c (.cap (.lit (.fn 101)) (.lit (.ptr 3000001 0 0 0)))), (7, .c .bool)], blocks := [(3000000, .row 2 (.int .i64)), (3000001, .box 66 [(.lit (.ptr 3000002 0 0 0))]), (3000002, .box 73 [(.sl (.pair (.int .i64) (.pair (.sl (.int .i64)) (.sl (.int .i64))))), (.int .i64), (.int .i64), (.cap (.cap (.lit (.fn 72)) (.lit (.ptr 3000003 0 0 0))) (.dp (.int .i64))), (.lit (.fn 71))]), (3000003, .box 27 [(.lit (.row 3000004))]), (3000004, .row 24 (.sl (.int .i64)))], ren := [(3000000, some 3000000), (3000001, some 3000001), (3000002, some 3000002), (3000003, some 3000003), (3000004, some 3000004)] }), (.ret, { temps := [(6, .c (.int .i64))], blocks := [(3000000, .row 2 (.int .i64)), (3000001, .box 66 [(.lit (.ptr 3000002 0 0 0))]), (3000002, .box 73 [(.sl (.pair (.int .i64) (.pair (.sl (.int .i64)) (.sl (.int .i64))))), (.int .i64), (.int .i64), (.cap (.cap (.lit (.fn 72)) (.lit (.ptr 3000003 0 0 0))) (.dp (.int .i64))), (.lit (.fn 71))]), (3000003, .box 27 [(.lit (.row 3000004))]), (3000004, .row 24 (.sl (.int .i64)))], ren := [(3000000, some 3000000), (3000001, some 3000001), (3000002, some 3000002), (3000003, some 3000003), (3000004, some 3000004)] })], F := fun ρ j v nx => f100b_l5 k j v.1.1 v.1.2.2.2.1 v.1.2.2.2.2.1 v.1.2.2.2.2.2.1 v.1.2.2.2.2.2.2.1 v.2.1 v.2.2.2.1.1 v.2.2.2.1.2.1 v.2.2.2.1.2.2.1 v.2.2.2.1.2.2.2.1.2 v.2.2.2.2.2.1 nx }
def f100b_l2 {ρ : Type} (k : Nat) : Nat → (List (Int × ((List Int) × (List Int)))) → Bool → (List Int) → (List (Int × ((List Int) × (List Int)))) → Int → Int → Int → (List (List Int)) → (((Unit × ((List Int) × (Unit × Unit) × ((List (Int × ((List Int) × (List Int)))) × Int × Int × ((Unit × Unit) × Int) × Unit × Unit) × (Unit × Unit) × (List (List Int)) × Unit)) → Option ρ) × (((Int × Unit) × ((List Int) × (Unit × Unit) × ((List (Int × ((List Int) × (List Int)))) × Int × Int × ((Unit × Unit) × Int) × Unit × Unit) × (Unit × Unit) × (List (List Int)) × Unit)) → Option ρ) × Unit) → Option ρ
  | 0, _, _, _, _, _, _, _, _, _ => none
  | j + 1, v49, v50, v51, v52, v53, v54, v55, v56, nx =>
    bif v50 then
      f100b_l5 k k v49 false v49 (v49.length : Int) 0 v51 v52 v53 v54 v55 v56
        (fun x57 : (((List (Int × ((List Int) × (List Int)))) × Unit × (Unit × Unit) × Bool × Unit) × ((List Int) × (Unit × Unit) × ((List (Int × ((List Int) × (List Int)))) × Int × Int × ((Unit × Unit) × Int) × Unit × Unit) × (Unit × Unit) × (List (List Int)) × Unit)) =>
          f100b_l2 k j x57.1.1 x57.1.2.2.2.1 x57.2.1 x57.2.2.2.1.1 x57.2.2.2.1.2.1 x57.2.2.2.1.2.2.1 x57.2.2.2.1.2.2.2.1.2 x57.2.2.2.2.2.1 nx,
        fun x58 : ((Int × Unit) × ((List Int) × (Unit × Unit) × ((List (Int × ((List Int) × (List Int)))) × Int × Int × ((Unit × Unit) × Int) × Unit × Unit) × (Unit × Unit) × (List (List Int)) × Unit)) =>
          nx.2.1 ((x58.1.1, ()), (x58.2.1, ((), ()), (x58.2.2.2.1.1, x58.2.2.2.1.2.1, x58.2.2.2.1.2.2.1, (((), ()), x58.2.2.2.1.2.2.2.1.2), (), ()), ((), ()), x58.2.2.2.2.2.1, ())),
        ())
    else
      nx.1 ((), (v51, ((), ()), (v52, v53, v54, (((), ()), v55), (), ()), ((), ()), v56, ()))
def cf100b_l2 (k : Nat) : Cut := { sp := { temps := [(0, .c (.sl (.pair (.int .i64) (.pair (.sl (.int .i64)) (.sl (.int .i64)))))), (1, .c (.lit (.row 3000000))), (2, .c (.cap (.lit (.fn 101)) (.lit (.ptr 3000001 0 0 0)))), (7, .c .bool)], blocks := [(3000000, .row 2 (.int .i64)), (3000001, .box 66 [(.lit (.ptr 3000002 0 0 0))]), (3000002, .box 73 [(.sl (.pair (.int .i64) (.pair (.sl (.int .i64)) (.sl (.int .i64))))), (.int .i64), (.int .i64), (.cap (.cap (.lit (.fn 72)) (.lit (.ptr 3000003 0 0 0))) (.dp (.int .i64))), (.lit (.fn 71))]), (3000003, .box 27 [(.lit (.row 3000004))]), (3000004, .row 24 (.sl (.int .i64)))], ren := [(3000000, some 3000000), (3000001, some 3000001), (3000002, some 3000002), (3000003, some 3000003), (3000004, some 3000004)] }, outs := [(.exit 0, { temps := [], blocks := [(3000000, .row 2 (.int .i64)), (3000001, .box 66 [(.lit (.ptr 3000002 0 0 0))]), (3000002, .box 73 [(.sl (.pair (.int .i64) (.pair (.sl (.int .i64)) (.sl (.int .i64))))), (.int .i64), (.int .i64), (.cap (.cap (.lit (.fn 72)) (.lit (.ptr 3000003 0 0 0))) (.dp (.int .i64))), (.lit (.fn 71))]), (3000003, .box 27 [(.lit (.row 3000004))]), (3000004, .row 24 (.sl (.int .i64)))], ren := [(3000000, some 3000000), (3000001, some 3000001), (3000002, some 3000002), (3000003, some 3000003), (3000004, some 3000004)] }), (.ret, { temps := [(6, .c (.int .i64))], blocks := [(3000000, .row 2 (.int .i64)), (3000001, .box 66 [(.lit (.ptr 3000002 0 0 0))]), (3000002, .box 73 [(.sl (.pair (.int .i64) (.pair (.sl (.int .i64)) (.sl (.int .i64))))), (.int .i64), (.int .i64), (.cap (.cap (.lit (.fn 72)) (.lit (.ptr 3000003 0 0 0))) (.dp (.int .i64))), (.lit (.fn 71))]), (3000003, .box 27 [(.lit (.row 3000004))]), (3000004, .row 24 (.sl (.int .i64)))], ren := [(3000000, some 3000000), (3000001, some 3000001), (3000002, some 3000002), (3000003, some 3000003), (3000004, some 3000004)] })], F := fun ρ j v nx => f100b_l2 k j v.1.1 v.1.2.2.2.1 v.2.1 v.2.2.2.1.1 v.2.2.2.1.2.1 v.2.2.2.1.2.2.1 v.2.2.2.1.2.2.2.1.2 v.2.2.2.2.2.1 nx }
def f100b (k : Nat) (a1 : (List (Int × ((List Int) × (List Int))))) (a2 : (List Int)) (a3 : (List (Int × ((List Int) × (List Int))))) (a4 : Int) (a5 : Int) (a6 : Int) (a7 : (List (List Int))) : Option ((Int × Unit) × ((List Int) × (Unit × Unit) × ((List (Int × ((List Int) × (List Int)))) × Int × Int × ((Unit × Unit) × Int) × Unit × Unit) × (Unit × Unit) × (List (List Int)) × Unit)) :=
  f100b_l2 k k a1 true a2 a3 a4 a5 a6 a7
    (fun x30 : (Unit × ((List Int) × (Unit × Unit) × ((List (Int × ((List Int) × (List Int)))) × Int × Int × ((Unit × Unit) × Int) × Unit × Unit) × (Unit × Unit) × (List (List Int)) × Unit)) =>
      some (((-1), ()), (x30.2.1, ((), ()), (x30.2.2.2.1.1, x30.2.2.2.1.2.1, x30.2.2.2.1.2.2.1, (((), ()), x30.2.2.2.1.2.2.2.1.2), (), ()), ((), ()), x30.2.2.2.2.2.1, ())),
    fun x31 : ((Int × Unit) × ((List Int) × (Unit × Unit) × ((List (Int × ((List Int) × (List Int)))) × Int × Int × ((Unit × Unit) × Int) × Unit × Unit) × (Unit × Unit) × (List (List Int)) × Unit)) =>
      some ((x31.1.1, ()), (x31.2.1, ((), ()), (x31.2.2.2.1.1, x31.2.2.2.1.2.1, x31.2.2.2.1.2.2.1, (((), ()), x31.2.2.2.1.2.2.2.1.2), (), ()), ((), ()), x31.2.2.2.2.2.1, ())),
    ())
def ef100b : Entry := { id := 100, ar := { temps := [(0, .c (.sl (.pair (.int .i64) (.pair (.sl (.int .i64)) (.sl (.int .i64)))))), (1, .c (.row 3000000)), (2, .c (.cap (.lit (.fn 101)) (.box 3000001)))], blocks := [(3000000, .row 2 (.int .i64)), (3000001, .box 66 [(.box 3000002)]), (3000002, .box 73 [(.sl (.pair (.int .i64) (.pair (.sl (.int .i64)) (.sl (.int .i64))))), (.int .i64), (.int .i64), (.cap (.cap (.lit (.fn 72)) (.box 3000003)) (.dp (.int .i64))), (.lit (.fn 71))]), (3000003, .box 27 [(.row 3000004)]), (3000004, .row 24 (.sl (.int .i64)))], ren := [] }, res := { temps := [(0, .c (.int .i64))], blocks := [(3000000, .row 2 (.int .i64)), (3000001, .box 66 [(.lit (.ptr 3000002 0 0 0))]), (3000002, .box 73 [(.sl (.pair (.int .i64) (.pair (.sl (.int .i64)) (.sl (.int .i64))))), (.int .i64), (.int .i64), (.cap (.cap (.lit (.fn 72)) (.lit (.ptr 3000003 0 0 0))) (.dp (.int .i64))), (.lit (.fn 71))]), (3000003, .box 27 [(.lit (.row 3000004))]), (3000004, .row 24 (.sl (.int .i64)))], ren := [(3000000, some 3000000), (3000001, some 3000001), (3000002, some 3000002), (3000003, some 3000003), (3000004, some 3000004)] }, f := fun k v => f100b k v.1.1 v.2.1 v.2.2.2.1.1 v.2.2.2.1.2.1 v.2.2.2.1.2.2.1 v.2.2.2.1.2.2.2.1.2 v.2.2.2.2.2.1 }
def gf100b (k : Nat) : Full := { tt := tt, n := 44, fns := [ef52, ef103, ef101b], trunc := [], tails := [], touch := [], opens := [], shapes := [], closes := [], k := k, glob := glob, cuts := [(5, (cf100b_l5 k)), (2, (cf100b_l2 k))], joins := [] }
theorem of100b_l5 (k : Nat) : CutOk (gf100b k) (cf100b_l5 k) (theLoop Try.f100 5) := fun ρ v nx => ⟨by kernel_rfl, fun j => by kernel_rfl⟩
theorem of100b_l2 (k : Nat) : CutOk (gf100b k) (cf100b_l2 k) (theLoop Try.f100 2) := fun ρ v nx => ⟨by kernel_rfl, fun j => by kernel_rfl⟩
theorem qf100b (k : Nat) : AllP (bodyL (gf100b k) Try.f100) := by
  have h : (CutOk (gf100b k) (cf100b_l5 k) (theLoop Try.f100 5) ∧ CutOk (gf100b k) (cf100b_l2 k) (theLoop Try.f100 2) ∧ True) = AllP (bodyL (gf100b k) Try.f100) := by kernel_rfl
  exact Eq.mp h (And.intro (of100b_l5 k) (And.intro (of100b_l2 k) (trivial)))
theorem sf100b : Sound Try.prog glob ef100b := sound_of base (fn := Try.f100) Try.func100 (by kernel_rfl) gf100b (fun _ => ⟨rfl, rfl⟩) (fun k j => ⟨sf52.at j, sf103.at j, sf101b.at j, trivial⟩) qf100b (fun k v => by kernel_rfl)

/-! impl.solve$2 -/
def f72a (k : Nat) (a1 : Int) (a2 : (List Int)) (a3 : (List (List Int))) : Option ((Bool × Unit) × ((Unit × Unit) × (List (List Int)) × Unit)) :=
  bif decide ((a3.length + [a2].length) * 24 ≤ roomy) then
    (f73 k (a3 ++ [a2])).bind fun x2 =>
    some (((decide (x2.1.1 < a1)), ()), (((), ()), (a3 ++ [a2]), ()))
  else
    none
def ef72a : Entry := { id := 72, ar := { temps := [(0, .c (.row 3000000)), (1, .c (.box 3000001)), (2, .c (.dp (.int .i64)))], blocks := [(3000000, .row 2 (.int .i64)), (3000001, .box 27 [(.row 3000002)]), (3000002, .row 24 (.sl (.int .i64)))], ren := [] }, res := { temps := [(0, .c .bool)], blocks := [(3000001, .box 27 [(.row 4000000)]), (4000000, .row 24 (.sl (.int .i64)))], ren := [(3000001, some 3000001)] }, f := fun k v => f72a k v.1.2.2.1 v.2.1 v.2.2.2.1 }
def gf72a (k : Nat) : Full := { tt := tt, n := 13, fns := [ef73], trunc := [], tails := [], touch := [], opens := [], shapes := [], closes := [], k := k, glob := glob, cuts := [], joins := [] }
theorem qf72a (k : Nat) : AllP (bodyL (gf72a k) Try.f72) := by
  have h : True = AllP (bodyL (gf72a k) Try.f72) := by kernel_rfl
  exact Eq.mp h trivial
theorem sf72a : Sound Try.prog glob ef72a := sound_of base (fn := Try.f72) Try.func72 (by kernel_rfl) gf72a (fun _ => ⟨rfl, rfl⟩) (fun k j => ⟨sf73.at j, trivial⟩) qf72a (fun k v => by kernel_rfl)

/-! impl.solver).search -/
def f92b_l13 {ρ : Type} (self : (List (Int × ((List Int) × (List Int)))) → Int → Int → Int → (List (List Int)) → (List Int) → Option ((Bool × Unit) × (((List (Int × ((List Int) × (List Int)))) × Int × Int × ((Unit × Unit) × Int) × Unit × Unit) × (Unit × Unit) × (List (List Int)) × Unit))) (k : Nat) : Nat → Int → Int → Int → (List (Int × ((List Int) × (List Int)))) → Int → Int → Int → (List Int) → (List Int) → (List (List Int)) → (((Unit × (((List (Int × ((List Int) × (List Int)))) × Int × Int × ((Unit × Unit) × Int) × Unit × Unit) × (Unit × Unit) × (List Int) × (List (List Int)) × Unit)) → Option ρ) × (((Bool × Unit) × (((List (Int × ((List Int) × (List Int)))) × Int × Int × ((Unit × Unit) × Int) × Unit × Unit) × (Unit × Unit) × (List Int) × (List (List Int)) × Unit)) → Option ρ) × Unit) → Option ρ
  | 0, _, _, _, _, _, _, _, _, _, _, _ => none
  | j + 1, v47, v48, v49, v50, v51, v52, v53, v54, v55, v56, nx =>
    bif (decide (v49 < v48)) then
      bif decide (0 ≤ v49) && decide (v49 < (v55.length : Int)) then
        (v55[v49.toNat]?).bind fun x57 =>
        (f98 k v54).bind fun x58 =>
        bif decide (0 ≤ v47) && decide (v47 < (x58.2.1.length : Int)) then
          (x58.2.1[v47.toNat]?).bind fun _ =>
          (self v50 v51 v52 v53 v56 (x58.2.1.set v47.toNat x57)).bind fun x60 =>
          bif (!x60.1.1) then
            nx.2.1 ((false, ()), ((x60.2.1.1, x60.2.1.2.1, x60.2.1.2.2.1, (((), ()), x60.2.1.2.2.2.1.2), (), ()), ((), ()), v54, x60.2.2.2.1, ()))
          else
            f92b_l13 self k j v47 v48 (wr .i64 (v49 + 1)) x60.2.1.1 x60.2.1.2.1 x60.2.1.2.2.1 x60.2.1.2.2.2.1.2 v54 v55 x60.2.2.2.1 nx
        else
          none
      else
        none
    else
      nx.1 ((), ((v50, v51, v52, (((), ()), v53), (), ()), ((), ()), v54, v56, ()))
def cf92b_l13 (self : (List (Int × ((List Int) × (List Int)))) → Int → Int → Int → (List (List Int)) → (List Int) → Option ((Bool × Unit) × (((List (Int × ((List Int) × (List Int)))) × Int × Int × ((Unit × Unit) × Int) × Unit × Unit) × (Unit × Unit) × (List (List Int)) × Unit))) (k : Nat) : Cut := { sp := { temps := [(1, .c (.lit (.row 3000003))), (2, .c (.box 5000000)), (6, .c (.int .i64)), (59, .c (.row 5000001)), (60, .c (.int .i64)), (61, .c (.int .i64))], blocks := [(3000000, .box 73 [(.sl (.pair (.int .i64) (.pair (.sl (.int .i64)) (.sl (.int .i64))))), (.int .i64), (.int .i64), (.cap (.cap (.lit (.fn 72)) (.lit (.ptr 3000001 0 0 0))) (.dp (.int .i64))), (.lit (.fn 71))]), (3000001, .box 27 [(.row 5000002)]), (3000003, .row 2 (.int .i64)), (5000000, .box 66 [(.lit (.ptr 3000000 0 0 0))]), (5000001, .row 2 (.int .i64)), (5000002, .row 24 (.sl (.int .i64)))], ren := [(3000000, some 3000000), (3000001, some 3000001), (3000003, some 3000003)] }, outs := [(.exit 0, { temps := [], blocks := [(3000000, .box 73 [(.sl (.pair (.int .i64) (.pair (.sl (.int .i64)) (.sl (.int .i64))))), (.int .i64), (.int .i64), (.cap (.cap (.lit (.fn 72)) (.lit (.ptr 3000001 0 0 0))) (.dp (.int .i64))), (.lit (.fn 71))]), (3000001, .box 27 [(.row 5000000)]), (3000003, .row 2 (.int .i64)), (5000000, .row 24 (.sl (.int .i64)))], ren := [(3000000, some 3000000), (3000001, some 3000001), (3000003, some 3000003)] }), (.ret, { temps := [(4, .c .bool)], blocks := [(3000000, .box 73 [(.sl (.pair (.int .i64) (.pair (.sl (.int .i64)) (.sl (.int .i64))))), (.int .i64), (.int .i64), (.cap (.cap (.lit (.fn 72)) (.lit (.ptr 3000001 0 0 0))) (.dp (.int .i64))), (.lit (.fn 71))]), (3000001, .box 27 [(.row 5000000)]), (3000003, .row 2 (.int .i64)), (5000000, .row 24 (.sl (.int .i64)))], ren := [(3000000, some 3000000), (3000001, some 3000001), (3000003, some 3000003)] })], F := fun ρ j v nx => f92b_l13 self k j v.1.2.2.1 v.1.2.2.2.2.1 v.1.2.2.2.2.2.1 v.2.1.1 v.2.1.2.1 v.2.1.2.2.1 v.2.1.2.2.2.1.2 v.2.2.2.1 v.2.2.2.2.2.1 v.2.2.2.2.2.2.1 nx }
def f92b : Nat → (List (Int × ((List Int) × (List Int)))) → Int → Int → Int → (List (List Int)) → (List Int) → Option ((Bool × Unit) × (((List (Int × ((List Int) × (List Int)))) × Int × Int × ((Unit × Unit) × Int) × Unit × Unit) × (Unit × Unit) × (List (List Int)) × Unit))
  | 0, _, _, _, _, _, _ => none
  | k + 1, a1, a2, a3, a4, a5, a6 =>
    bif (decide ((wr .i64 (a3 + 1)) > a2)) then
      some ((false, ()), ((a1, a2, (wr .i64 (a3 + 1)), (((), ()), a4), (), ()), ((), ()), a5, ()))
    else
      (f100b k a1 a6 a1 a2 (wr .i64 (a3 + 1)) a4 a5).bind fun x38 =>
      bif (decide (x38.1.1 ≥ 0)) then
        (f71 k 3 0 0 x38.1.1).bind fun x40 =>
        some ((true, ()), ((x38.2.2.2.1.1, x38.2.2.2.1.2.1, x38.2.2.2.1.2.2.1, (((), ()), x38.2.2.2.1.2.2.2.1.2), (), ()), ((), ()), x38.2.2.2.2.2.1, ()))
      else
        (f102 k x38.2.1 0).bind fun x41 =>
        bif (decide (x41.1.1 < 0)) then
          (f72a k x38.2.2.2.1.2.2.2.1.2 x38.2.1 x38.2.2.2.2.2.1).bind fun x43 =>
          some ((x43.1.1, ()), ((x38.2.2.2.1.1, x38.2.2.2.1.2.1, x38.2.2.2.1.2.2.1, (((), ()), x38.2.2.2.1.2.2.2.1.2), (), ()), ((), ()), x43.2.2.1, ()))
        else
          (f71 k 1 x41.1.1 0 0).bind fun x44 =>
          f92b_l13 (f92b k) k k x41.1.1 ([1, (-1)].length : Int) 0 x38.2.2.2.1.1 x38.2.2.2.1.2.1 x38.2.2.2.1.2.2.1 x38.2.2.2.1.2.2.2.1.2 x38.2.1 ([1, (-1)]) x38.2.2.2.2.2.1
            (fun x45 : (Unit × (((List (Int × ((List Int) × (List Int)))) × Int × Int × ((Unit × Unit) × Int) × Unit × Unit) × (Unit × Unit) × (List Int) × (List (List Int)) × Unit)) =>
              some ((true, ()), ((x45.2.1.1, x45.2.1.2.1, x45.2.1.2.2.1, (((), ()), x45.2.1.2.2.2.1.2), (), ()), ((), ()), x45.2.2.2.2.1, ())),
            fun x46 : ((Bool × Unit) × (((List (Int × ((List Int) × (List Int)))) × Int × Int × ((Unit × Unit) × Int) × Unit × Unit) × (Unit × Unit) × (List Int) × (List (List Int)) × Unit)) =>
              some ((x46.1.1, ()), ((x46.2.1.1, x46.2.1.2.1, x46.2.1.2.2.1, (((), ()), x46.2.1.2.2.2.1.2), (), ()), ((), ()), x46.2.2.2.2.1, ())),
            ())
def ef92b : Entry := { id := 92, ar := { temps := [(0, .c (.box 3000000)), (1, .c (.row 3000003))], blocks := [(3000000, .box 73 [(.sl (.pair (.int .i64) (.pair (.sl (.int .i64)) (.sl (.int .i64))))), (.int .i64), (.int .i64), (.cap (.cap (.lit (.fn 72)) (.box 3000001)) (.dp (.int .i64))), (.lit (.fn 71))]), (3000001, .box 27 [(.row 3000002)]), (3000002, .row 24 (.sl (.int .i64))), (3000003, .row 2 (.int .i64))], ren := [] }, res := { temps := [(0, .c .bool)], blocks := [(3000000, .box 73 [(.sl (.pair (.int .i64) (.pair (.sl (.int .i64)) (.sl (.int .i64))))), (.int .i64), (.int .i64), (.cap (.cap (.lit (.fn 72)) (.lit (.ptr 3000001 0 0 0))) (.dp (.int .i64))), (.lit (.fn 71))]), (3000001, .box 27 [(.row 4000000)]), (4000000, .row 24 (.sl (.int .i64)))], ren := [(3000000, some 3000000), (3000001, some 3000001)] }, f := fun k v => f92b k v.2.1.1 v.2.1.2.1 v.2.1.2.2.1 v.2.1.2.2.2.1.2 v.2.2.2.1 v.2.2.2.2.1 }
def gf92b (k : Nat) : Full := { tt := tt, n := 76, fns := [ef100b, ef71, ef102, ef72a, ef98b, ef92b], trunc := [], tails := [], touch := [], opens := [], shapes := [], closes := [], k := k, glob := glob, cuts := [(13, (cf92b_l13 (f92b k) k))], joins := [] }
theorem of92b_l13 (k : Nat) : CutOk (gf92b k) (cf92b_l13 (f92b k) k) (theLoop Try.f92 13) := fun ρ v nx => ⟨by kernel_rfl, fun j => by kernel_rfl⟩
theorem qf92b (k : Nat) : AllP (bodyL (gf92b k) Try.f92) := by
  have h : (CutOk (gf92b k) (cf92b_l13 (f92b k) k) (theLoop Try.f92 13) ∧ True) = AllP (bodyL (gf92b k) Try.f92) := by kernel_rfl
  exact Eq.mp h (And.intro (of92b_l13 k) (trivial))
theorem sf92b : Sound Try.prog glob ef92b := sound_rec base (fn := Try.f92) Try.func92 (by kernel_rfl) gf92b (fun _ => ⟨rfl, rfl, rfl⟩) (fun k j h => ⟨sf100b.at j, sf71.at j, sf102.at j, sf72a.at j, sf98b.at j, h, trivial⟩) qf92b (fun v => by kernel_rfl) (fun k v => by kernel_rfl)

/-! impl.solver).run -/
def f74b (k : Nat) (a1 : Int) (a2 : (List (Int × ((List Int) × (List Int))))) (a3 : Int) (a4 : Int) (a5 : Int) (a6 : (List (List Int))) : Option ((Bool × Unit) × (((List (Int × ((List Int) × (List Int)))) × Int × Int × ((Unit × Unit) × Int) × Unit × Unit) × (Unit × Unit) × (List (List Int)) × Unit)) :=
  bif decide (a1 = a1) && decide (0 ≤ a1) && decide (a1 * 8 ≤ roomy) then
    (f92b k a2 a3 a4 a5 a6 (List.replicate a1.toNat 0)).bind fun x2 =>
    some ((x2.1.1, ()), ((x2.2.1.1, x2.2.1.2.1, x2.2.1.2.2.1, (((), ()), x2.2.1.2.2.2.1.2), (), ()), ((), ()), x2.2.2.2.1, ()))
  else
    none
def ef74b : Entry := { id := 74, ar := { temps := [(0, .c (.box 3000000)), (1, .c (.int .i64))], blocks := [(3000000, .box 73 [(.sl (.pair (.int .i64) (.pair (.sl (.int .i64)) (.sl (.int .i64))))), (.int .i64), (.int .i64), (.cap (.cap (.lit (.fn 72)) (.box 3000001)) (.dp (.int .i64))), (.lit (.fn 71))]), (3000001, .box 27 [(.row 3000002)]), (3000002, .row 24 (.sl (.int .i64)))], ren := [] }, res := { temps := [(0, .c .bool)], blocks := [(3000000, .box 73 [(.sl (.pair (.int .i64) (.pair (.sl (.int .i64)) (.sl (.int .i64))))), (.int .i64), (.int .i64), (.cap (.cap (.lit (.fn 72)) (.lit (.ptr 3000001 0 0 0))) (.dp (.int .i64))), (.lit (.fn 71))]), (3000001, .box 27 [(.row 4000000)]), (4000000, .row 24 (.sl (.int .i64)))], ren := [(3000000, some 3000000), (3000001, some 3000001)] }, f := fun k v => f74b k v.1.2.1 v.2.1.1 v.2.1.2.1 v.2.1.2.2.1 v.2.1.2.2.2.1.2 v.2.2.2.1 }
def gf74b (k : Nat) : Full := { tt := tt, n := 9, fns := [ef92b], trunc := [], tails := [], touch := [], opens := [], shapes := [], closes := [], k := k, glob := glob, cuts := [], joins := [] }
theorem qf74b (k : Nat) : AllP (bodyL (gf74b k) Try.f74) := by
  have h : True = AllP (bodyL (gf74b k) Try.f74) := by kernel_rfl
  exact Eq.mp h trivial
theorem sf74b : Sound Try.prog glob ef74b := sound_of base (fn := Try.f74) Try.func74 (by kernel_rfl) gf74b (fun _ => ⟨rfl, rfl⟩) (fun k j => ⟨sf92b.at j, trivial⟩) qf74b (fun k v => by kernel_rfl)

/-! impl.solve -/
def f42a (k : Nat) (a1 : (List (Int × ((List Int) × (List Int))))) (a2 : Int) (a3 : Int) (a4 : Int) : Option ((Unit × Unit × Unit) × ((List (List Int)) × ((List (Int × ((List Int) × (List Int)))) × Int × Int × ((Unit × Unit) × Int) × Unit × Unit) × (Unit × Unit) × Unit)) :=
  (f74b k a2 a1 a3 0 a4 ([] : List (List Int))).bind fun x2 =>
  some (((), (), ()), (x2.2.2.2.1, (x2.2.1.1, x2.2.1.2.1, x2.2.1.2.2.1, (((), ()), x2.2.1.2.2.2.1.2), (), ()), ((), ()), ()))
def ef42a : Entry := { id := 42, ar := { temps := [(0, .c (.sl (.pair (.int .i64) (.pair (.sl (.int .i64)) (.sl (.int .i64)))))), (1, .c (.int .i64)), (2, .c (.int .i64)), (3, .c (.int .i64))], blocks := [], ren := [] }, res := { temps := [(0, .c (.row 4000000)), (1, .c (.box 4000001))], blocks := [(4000000, .row 24 (.sl (.int .i64))), (4000001, .box 73 [(.sl (.pair (.int .i64) (.pair (.sl (.int .i64)) (.sl (.int .i64))))), (.int .i64), (.int .i64), (.cap (.cap (.lit (.fn 72)) (.box 4000002)) (.dp (.int .i64))), (.lit (.fn 71))]), (4000002, .box 27 [(.lit (.row 4000000))])], ren := [] }, f := fun k v => f42a k v.1.1 v.1.2.1 v.1.2.2.1 v.1.2.2.2.1 }
def gf42a (k : Nat) : Full := { tt := tt, n := 25, fns := [ef74b], trunc := [], tails := [], touch := [], opens := [], shapes := [], closes := [], k := k, glob := glob, cuts := [], joins := [] }
theorem qf42a (k : Nat) : AllP (bodyL (gf42a k) Try.f42) := by
  have h : True = AllP (bodyL (gf42a k) Try.f42) := by kernel_rfl
  exact Eq.mp h trivial
theorem sf42a : Sound Try.prog glob ef42a := sound_of base (fn := Try.f42) Try.func42 (by kernel_rfl) gf42a (fun _ => ⟨rfl, rfl⟩) (fun k j => ⟨sf74b.at j, trivial⟩) qf42a (fun k v => by kernel_rfl)

/-! impl.solver).isSpent -/
def f43b (k : Nat) (a1 : (List (Int × ((List Int) × (List Int))))) (a2 : Int) (a3 : Int) (a4 : Int) (a5 : (List (List Int))) : Option ((Bool × Unit) × (((List (Int × ((List Int) × (List Int)))) × Int × Int × ((Unit × Unit) × Int) × Unit × Unit) × (Unit × Unit) × (List (List Int)) × Unit)) :=
  some (((decide (a3 > a2)), ()), ((a1, a2, a3, (((), ()), a4), (), ()), ((), ()), a5, ()))
def ef43b : Entry := { id := 43, ar := { temps := [(0, .c (.box 3000000))], blocks := [(3000000, .box 73 [(.sl (.pair (.int .i64) (.pair (.sl (.int .i64)) (.sl (.int .i64))))), (.int .i64), (.int .i64), (.cap (.cap (.lit (.fn 72)) (.box 3000001)) (.dp (.int .i64))), (.lit (.fn 71))]), (3000001, .box 27 [(.row 3000002)]), (3000002, .row 24 (.sl (.int .i64)))], ren := [] }, res := { temps := [(0, .c .bool)], blocks := [(3000000, .box 73 [(.sl (.pair (.int .i64) (.pair (.sl (.int .i64)) (.sl (.int .i64))))), (.int .i64), (.int .i64), (.cap (.cap (.lit (.fn 72)) (.lit (.ptr 3000001 0 0 0))) (.dp (.int .i64))), (.lit (.fn 71))]), (3000001, .box 27 [(.lit (.row 3000002))]), (3000002, .row 24 (.sl (.int .i64)))], ren := [(3000000, some 3000000), (3000001, some 3000001), (3000002, some 3000002)] }, f := fun k v => f43b k v.2.1.1 v.2.1.2.1 v.2.1.2.2.1 v.2.1.2.2.2.1.2 v.2.2.2.1 }
def gf43b (k : Nat) : Full := { tt := tt, n := 12, fns := [], trunc := [], tails := [], touch := [], opens := [], shapes := [], closes := [], k := k, glob := glob, cuts := [], joins := [] }
theorem qf43b (k : Nat) : AllP (bodyL (gf43b k) Try.f43) := by
  have h : True = AllP (bodyL (gf43b k) Try.f43) := by kernel_rfl
  exact Eq.mp h trivial
theorem sf43b : Sound Try.prog glob ef43b := sound_of base (fn := Try.f43) Try.func43 (by kernel_rfl) gf43b (fun _ => ⟨rfl, rfl⟩) (fun k j => trivial) qf43b (fun k v => by kernel_rfl)

/-! impl.SolveRules -/
def f9a (k : Nat) (a1 : (List (Int × ((List Int) × (List Int))))) (a2 : Int) (a3 : Int) (a4 : Int) : Option ((Unit × Int × Int × Unit) × ((List (List Int)) × Unit)) :=
  (f39 k a1 a2).bind fun x13 =>
  bif (!x13.1.1) then
    some (((), 0, 1, ()), (([] : List (List Int)), ()))
  else
    (f40 k a3).bind fun x14 =>
    bif (!x14.1.1) then
      some (((), 0, 1, ()), (([] : List (List Int)), ()))
    else
      (f41 k a4 1 100).bind fun x15 =>
      bif (!x15.1.1) then
        some (((), 0, 1, ()), (([] : List (List Int)), ()))
      else
        (f42a k a1 a2 a3 a4).bind fun x16 =>
        (f43b k x16.2.2.1.1 x16.2.2.1.2.1 x16.2.2.1.2.2.1 x16.2.2.1.2.2.2.1.2 x16.2.1).bind fun x18 =>
        bif x18.1.1 then
          some (((), 0, 10, ()), (([] : List (List Int)), ()))
        else
          some (((), x18.2.1.2.2.1, 0, ()), (x18.2.2.2.1, ()))
def ef9a : Entry := { id := 9, ar := { temps := [(0, .c (.sl (.pair (.int .i64) (.pair (.sl (.int .i64)) (.sl (.int .i64)))))), (1, .c (.int .i64)), (2, .c (.int .i64)), (3, .c (.int .i64))], blocks := [], ren := [] }, res := { temps := [(0, .c (.row 4000000)), (1, .c (.int .i64)), (2, .c (.int .i64))], blocks := [(4000000, .row 24 (.sl (.int .i64)))], ren := [] }, f := fun k v => f9a k v.1.1 v.1.2.1 v.1.2.2.1 v.1.2.2.2.1 }
def gf9a (k : Nat) : Full := { tt := tt, n := 42, fns := [ef39, ef40, ef41, ef42a, ef43b], trunc := [], tails := [], touch := [], opens := [], shapes := [], closes := [], k := k, glob := glob, cuts := [], joins := [] }
theorem qf9a (k : Nat) : AllP (bodyL (gf9a k) Try.f9) := by
  have h : True = AllP (bodyL (gf9a k) Try.f9) := by kernel_rfl
  exact Eq.mp h trivial
theorem sf9a : Sound Try.prog glob ef9a := sound_of base (fn := Try.f9) Try.func9 (by kernel_rfl) gf9a (fun _ => ⟨rfl, rfl⟩) (fun k j => ⟨sf39.at j, sf40.at j, sf41.at j, sf42a.at j, sf43b.at j, trivial⟩) qf9a (fun k v => by kernel_rfl)

/-! spec.l15Values -/
def f45_l2 {ρ : Type} (k : Nat) : Nat → (List Int) → Int → (((Unit × Unit) → Option ρ) × (((Bool × Unit) × Unit) → Option ρ) × Unit) → Option ρ
  | 0, _, _, _ => none
  | j + 1, v9, v10, nx =>
    bif (decide (v10 < (v9.length : Int))) then
      (getI v9 v10).bind fun x11 =>
      (f59 k x11 (-1) 1).bind fun x12 =>
      bif (!x12.1.1) then
        nx.2.1 ((false, ()), ())
      else
        f45_l2 k j v9 (wr .i64 (v10 + 1)) nx
    else
      nx.1 ((), ())
def cf45_l2 (k : Nat) : Cut := { sp := { temps := [(0, .c (.sl (.int .i64))), (3, .c (.int .i64))], blocks := [], ren := [] }, outs := [(.exit 0, { temps := [], blocks := [], ren := [] }), (.ret, { temps := [(2, .c .bool)], blocks := [], ren := [] })], F := fun ρ j v nx => f45_l2 k j v.1.1 v.1.2.1 nx }
def f45 (k : Nat) (a1 : (List Int)) : Option ((Bool × Unit) × Unit) :=
  f45_l2 k k a1 0
    (fun x7 : (Unit × Unit) =>
      some ((true, ()), ()),
    fun x8 : ((Bool × Unit) × Unit) =>
      some ((x8.1.1, ()), ()),
    ())
def ef45 : Entry := { id := 45, ar := { temps := [(0, .c (.sl (.int .i64)))], blocks := [], ren := [] }, res := { temps := [(0, .c .bool)], blocks := [], ren := [] }, f := fun k v => f45 k v.1.1 }
def gf45 (k : Nat) : Full := { tt := tt, n := 16, fns := [ef59], trunc := [], tails := [], touch := [], opens := [], shapes := [], closes := [], k := k, glob := glob, cuts := [(2, (cf45_l2 k))], joins := [] }
theorem of45_l2 (k : Nat) : CutOk (gf45 k) (cf45_l2 k) (theLoop Try.f45 2) := fun ρ v nx => ⟨by kernel_rfl, fun j => by kernel_rfl⟩
theorem qf45 (k : Nat) : AllP (bodyL (gf45 k) Try.f45) := by
  have h : (CutOk (gf45 k) (cf45_l2 k) (theLoop Try.f45 2) ∧ True) = AllP (bodyL (gf45 k) Try.f45) := by kernel_rfl
  exact Eq.mp h (And.intro (of45_l2 k) (trivial))
theorem sf45 : Sound Try.prog glob ef45 := sound_of base (fn := Try.f45) Try.func45 (by kernel_rfl) gf45 (fun _ => ⟨rfl, rfl⟩) (fun k j => ⟨sf59.at j, trivial⟩) qf45 (fun k v => by kernel_rfl)

/-! spec.l00Has -/
def f46_l2 {ρ : Type} (k : Nat) : Nat → (List Int) → Int → Int → (((Unit × Unit) → Option ρ) × (((Bool × Unit) × Unit) → Option ρ) × Unit) → Option ρ
  | 0, _, _, _, _ => none
  | j + 1, v9, v10, v11, nx =>
    bif (decide (v11 < (v9.length : Int))) then
      (getI v9 v11).bind fun x12 =>
      bif (x12 == v10) then
        nx.2.1 ((true, ()), ())
      else
        f46_l2 k j v9 v10 (wr .i64 (v11 + 1)) nx
    else
      nx.1 ((), ())
def cf46_l2 (k : Nat) : Cut := { sp := { temps := [(0, .c (.sl (.int .i64))), (1, .c (.int .i64)), (5, .c (.int .i64))], blocks := [], ren := [] }, outs := [(.exit 0, { temps := [], blocks := [], ren := [] }), (.ret, { temps := [(4, .c .bool)], blocks := [], ren := [] })], F := fun ρ j v nx => f46_l2 k j v.1.1 v.1.2.1 v.1.2.2.1 nx }
def f46 (k : Nat) (a1 : (List Int)) (a2 : Int) : Option ((Bool × Unit) × Unit) :=
  f46_l2 k k a1 a2 0
    (fun x7 : (Unit × Unit) =>
      some ((false, ()), ()),
    fun x8 : ((Bool × Unit) × Unit) =>
      some ((x8.1.1, ()), ()),
    ())
def ef46 : Entry := { id := 46, ar := { temps := [(0, .c (.sl (.int .i64))), (1, .c (.int .i64))], blocks := [], ren := [] }, res := { temps := [(0, .c .bool)], blocks := [], ren := [] }, f := fun k v => f46 k v.1.1 v.1.2.1 }
def gf46 (k : Nat) : Full := { tt := tt, n := 18, fns := [], trunc := [], tails := [], touch := [], opens := [], shapes := [], closes := [], k := k, glob := glob, cuts := [(2, (cf46_l2 k))], joins := [] }
theorem of46_l2 (k : Nat) : CutOk (gf46 k) (cf46_l2 k) (theLoop Try.f46 2) := fun ρ v nx => ⟨by kernel_rfl, fun j => by kernel_rfl⟩
theorem qf46 (k : Nat) : AllP (bodyL (gf46 k) Try.f46) := by
  have h : (CutOk (gf46 k) (cf46_l2 k) (theLoop Try.f46 2) ∧ True) = AllP (bodyL (gf46 k) Try.f46) := by kernel_rfl
  exact Eq.mp h (And.intro (of46_l2 k) (trivial))
theorem sf46 : Sound Try.prog glob ef46 := sound_of base (fn := Try.f46) Try.func46 (by kernel_rfl) gf46 (fun _ => ⟨rfl, rfl⟩) (fun k j => trivial) qf46 (fun k v => by kernel_rfl)

/-! spec.IsSolution -/
def f10_l4 {ρ : Type} (k : Nat) : Nat → (List (Int × ((List Int) × (List Int)))) → (List Int) → Int → (((Unit × Unit) → Option ρ) × (((Bool × Unit) × Unit) → Option ρ) × Unit) → Option ρ
  | 0, _, _, _, _ => none
  | j + 1, v22, v23, v24, nx =>
    bif (decide (v24 < (v22.length : Int))) then
      (getI v22 v24).bind fun x25 =>
      (f47 k x25 v23).bind fun x26 =>
      bif (decide (x26.1.1 < 0)) then
        nx.2.1 ((false, ()), ())
      else
        f10_l4 k j v22 v23 (wr .i64 (v24 + 1)) nx
    else
      nx.1 ((), ())
def cf10_l4 (k : Nat) : Cut := { sp := { temps := [(0, .c (.sl (.pair (.int .i64) (.pair (.sl (.int .i64)) (.sl (.int .i64)))))), (2, .c (.sl (.int .i64))), (7, .c (.int .i64))], blocks := [], ren := [] }, outs := [(.exit 0, { temps := [], blocks := [], ren := [] }), (.ret, { temps := [(6, .c .bool)], blocks := [], ren := [] })], F := fun ρ j v nx => f10_l4 k j v.1.1 v.1.2.1 v.1.2.2.1 nx }
def f10 (k : Nat) (a1 : (List (Int × ((List Int) × (List Int))))) (a2 : Int) (a3 : (List Int)) : Option ((Bool × Unit) × Unit) :=
  (f44 k a1 a2).bind fun x17 =>
  bif (!x17.1.1) then
    some ((false, ()), ())
  else
    bif ((a3.length : Int) != a2) then
      some ((false, ()), ())
    else
      (f45 k a3).bind fun x18 =>
      bif (!x18.1.1) then
        some ((false, ()), ())
      else
        (f46 k a3 0).bind fun x19 =>
        bif x19.1.1 then
          some ((false, ()), ())
        else
          f10_l4 k k a1 a3 0
            (fun x20 : (Unit × Unit) =>
              some ((true, ()), ()),
            fun x21 : ((Bool × Unit) × Unit) =>
              some ((x21.1.1, ()), ()),
            ())
def ef10 : Entry := { id := 10, ar := { temps := [(0, .c (.sl (.pair (.int .i64) (.pair (.sl (.int .i64)) (.sl (.int .i64)))))), (1, .c (.int .i64)), (2, .c (.sl (.int .i64)))], blocks := [], ren := [] }, res := { temps := [(0, .c .bool)], blocks := [], ren := [] }, f := fun k v => f10 k v.1.1 v.1.2.1 v.1.2.2.1 }
def gf10 (k : Nat) : Full := { tt := tt, n := 39, fns := [ef44, ef45, ef46, ef47], trunc := [], tails := [], touch := [], opens := [], shapes := [], closes := [], k := k, glob := glob, cuts := [(4, (cf10_l4 k))], joins := [] }
theorem of10_l4 (k : Nat) : CutOk (gf10 k) (cf10_l4 k) (theLoop Try.f10 4) := fun ρ v nx => ⟨by kernel_rfl, fun j => by kernel_rfl⟩
theorem qf10 (k : Nat) : AllP (bodyL (gf10 k) Try.f10) := by
  have h : (CutOk (gf10 k) (cf10_l4 k) (theLoop Try.f10 4) ∧ True) = AllP (bodyL (gf10 k) Try.f10) := by kernel_rfl
  exact Eq.mp h (And.intro (of10_l4 k) (trivial))
theorem sf10 : Sound Try.prog glob ef10 := sound_of base (fn := Try.f10) Try.func10 (by kernel_rfl) gf10 (fun _ => ⟨rfl, rfl⟩) (fun k j => ⟨sf44.at j, sf45.at j, sf46.at j, sf47.at j, trivial⟩) qf10 (fun k v => by kernel_rfl)

/-! laws.d8Before -/
def f11_l2 {ρ : Type} (k : Nat) : Nat → (List Int) → (List Int) → Int → (((Unit × Unit) → Option ρ) × (((Bool × Unit) × Unit) → Option ρ) × Unit) → Option ρ
  | 0, _, _, _, _ => none
  | j + 1, v12, v13, v14, nx =>
    bif (decide (v14 < (v12.length : Int))) then
      bif (decide (v14 < (v13.length : Int))) then
        (getI v12 v14).bind fun x15 =>
        (getI v13 v14).bind fun x16 =>
        bif (x15 != x16) then
          (getI v12 v14).bind fun x17 =>
          (getI v13 v14).bind fun x18 =>
          nx.2.1 (((decide (x17 > x18)), ()), ())
        else
          f11_l2 k j v12 v13 (wr .i64 (v14 + 1)) nx
      else
        nx.1 ((), ())
    else
      nx.1 ((), ())
def cf11_l2 (k : Nat) : Cut := { sp := { temps := [(0, .c (.sl (.int .i64))), (1, .c (.sl (.int .i64))), (5, .c (.int .i64))], blocks := [], ren := [] }, outs := [(.exit 0, { temps := [], blocks := [], ren := [] }), (.ret, { temps := [(4, .c .bool)], blocks := [], ren := [] })], F := fun ρ j v nx => f11_l2 k j v.1.1 v.1.2.1 v.1.2.2.1 nx }
def f11 (k : Nat) (a1 : (List Int)) (a2 : (List Int)) : Option ((Bool × Unit) × Unit) :=
  f11_l2 k k a1 a2 0
    (fun x10 : (Unit × Unit) =>
      some ((false, ()), ()),
    fun x11 : ((Bool × Unit) × Unit) =>
      some ((x11.1.1, ()), ()),
    ())
def ef11 : Entry := { id := 11, ar := { temps := [(0, .c (.sl (.int .i64))), (1, .c (.sl (.int .i64)))], blocks := [], ren := [] }, res := { temps := [(0, .c .bool)], blocks := [], ren := [] }, f := fun k v => f11 k v.1.1 v.1.2.1 }
def gf11 (k : Nat) : Full := { tt := tt, n := 36, fns := [], trunc := [], tails := [], touch := [], opens := [], shapes := [], closes := [], k := k, glob := glob, cuts := [(2, (cf11_l2 k))], joins := [] }
theorem of11_l2 (k : Nat) : CutOk (gf11 k) (cf11_l2 k) (theLoop Try.f11 2) := fun ρ v nx => ⟨by kernel_rfl, fun j => by kernel_rfl⟩
theorem qf11 (k : Nat) : AllP (bodyL (gf11 k) Try.f11) := by
  have h : (CutOk (gf11 k) (cf11_l2 k) (theLoop Try.f11 2) ∧ True) = AllP (bodyL (gf11 k) Try.f11) := by kernel_rfl
  exact Eq.mp h (And.intro (of11_l2 k) (trivial))
theorem sf11 : Sound Try.prog glob ef11 := sound_of base (fn := Try.f11) Try.func11 (by kernel_rfl) gf11 (fun _ => ⟨rfl, rfl⟩) (fun k j => trivial) qf11 (fun k v => by kernel_rfl)

/-! laws.d8Same -/
def f12_l4 {ρ : Type} (k : Nat) : Nat → (List Int) → (List Int) → Int → (((Unit × Unit) → Option ρ) × (((Bool × Unit) × Unit) → Option ρ) × Unit) → Option ρ
  | 0, _, _, _, _ => none
  | j + 1, v10, v11, v12, nx =>
    bif (decide (v12 < (v10.length : Int))) then
      (getI v10 v12).bind fun x13 =>
      (getI v11 v12).bind fun x14 =>
      bif (x13 != x14) then
        nx.2.1 ((false, ()), ())
      else
        f12_l4 k j v10 v11 (wr .i64 (v12 + 1)) nx
    else
      nx.1 ((), ())
def cf12_l4 (k : Nat) : Cut := { sp := { temps := [(0, .c (.sl (.int .i64))), (1, .c (.sl (.int .i64))), (5, .c (.int .i64))], blocks := [], ren := [] }, outs := [(.exit 0, { temps := [], blocks := [], ren := [] }), (.ret, { temps := [(4, .c .bool)], blocks := [], ren := [] })], F := fun ρ j v nx => f12_l4 k j v.1.1 v.1.2.1 v.1.2.2.1 nx }
def f12 (k : Nat) (a1 : (List Int)) (a2 : (List Int)) : Option ((Bool × Unit) × Unit) :=
  bif ((a1.length : Int) != (a2.length : Int)) then
    some ((false, ()), ())
  else
    f12_l4 k k a1 a2 0
      (fun x8 : (Unit × Unit) =>
        some ((true, ()), ()),
      fun x9 : ((Bool × Unit) × Unit) =>
        some ((x9.1.1, ()), ()),
      ())
def ef12 : Entry := { id := 12, ar := { temps := [(0, .c (.sl (.int .i64))), (1, .c (.sl (.int .i64)))], blocks := [], ren := [] }, res := { temps := [(0, .c .bool)], blocks := [], ren := [] }, f := fun k v => f12 k v.1.1 v.1.2.1 }
def gf12 (k : Nat) : Full := { tt := tt, n := 26, fns := [], trunc := [], tails := [], touch := [], opens := [], shapes := [], closes := [], k := k, glob := glob, cuts := [(4, (cf12_l4 k))], joins := [] }
theorem of12_l4 (k : Nat) : CutOk (gf12 k) (cf12_l4 k) (theLoop Try.f12 4) := fun ρ v nx => ⟨by kernel_rfl, fun j => by kernel_rfl⟩
theorem qf12 (k : Nat) : AllP (bodyL (gf12 k) Try.f12) := by
  have h : (CutOk (gf12 k) (cf12_l4 k) (theLoop Try.f12 4) ∧ True) = AllP (bodyL (gf12 k) Try.f12) := by kernel_rfl
  exact Eq.mp h (And.intro (of12_l4 k) (trivial))
theorem sf12 : Sound Try.prog glob ef12 := sound_of base (fn := Try.f12) Try.func12 (by kernel_rfl) gf12 (fun _ => ⟨rfl, rfl⟩) (fun k j => trivial) qf12 (fun k v => by kernel_rfl)

/-! impl.IsSolution$1 -/
def f51 (k : Nat) (a1 : Int) (a2 : (List Int)) (a3 : (List Int)) (a4 : (List Int)) : Option ((Bool × Unit) × Unit) :=
  (f52 k a1 a2 a3 a4).bind fun x2 =>
  some (((decide (x2.1.1 < 0)), ()), ())
def ef51 : Entry := { id := 51, ar := { temps := [(0, .agg [(.int .i64), (.sl (.int .i64)), (.sl (.int .i64))]), (1, .c (.dp (.sl (.int .i64))))], blocks := [], ren := [] }, res := { temps := [(0, .c .bool)], blocks := [], ren := [] }, f := fun k v => f51 k v.1.1.1 v.1.1.2.1 v.1.1.2.2.1 v.1.2.1 }
def gf51 (k : Nat) : Full := { tt := tt, n := 8, fns := [ef52], trunc := [], tails := [], touch := [], opens := [], shapes := [], closes := [], k := k, glob := glob, cuts := [], joins := [] }
theorem qf51 (k : Nat) : AllP (bodyL (gf51 k) Try.f51) := by
  have h : True = AllP (bodyL (gf51 k) Try.f51) := by kernel_rfl
  exact Eq.mp h trivial
theorem sf51 : Sound Try.prog glob ef51 := sound_of base (fn := Try.f51) Try.func51 (by kernel_rfl) gf51 (fun _ => ⟨rfl, rfl⟩) (fun k j => ⟨sf52.at j, trivial⟩) qf51 (fun k v => by kernel_rfl)

/-! impl.Rule] -/
def f79a_l2 {ρ : Type} (k : Nat) : Nat → (List (Int × ((List Int) × (List Int)))) → (List Int) → Int → Int → (((Unit × Unit) → Option ρ) × (((Int × Unit) × Unit) → Option ρ) × Unit) → Option ρ
  | 0, _, _, _, _, _ => none
  | j + 1, v11, v12, v13, v14, nx =>
    bif (decide (v14 < v13)) then
      (getI v11 v14).bind fun x15 =>
      (f51 k x15.1 x15.2.1 x15.2.2 v12).bind fun x16 =>
      bif x16.1.1 then
        nx.2.1 ((v14, ()), ())
      else
        f79a_l2 k j v11 v12 v13 (wr .i64 (v14 + 1)) nx
    else
      nx.1 ((), ())
def cf79a_l2 (k : Nat) : Cut := { sp := { temps := [(0, .c (.sl (.pair (.int .i64) (.pair (.sl (.int .i64)) (.sl (.int .i64)))))), (1, .c (.cap (.lit (.fn 51)) (.dp (.sl (.int .i64))))), (7, .c (.int .i64)), (8, .c (.int .i64))], blocks := [], ren := [] }, outs := [(.exit 0, { temps := [], blocks := [], ren := [] }), (.ret, { temps := [(4, .c (.int .i64))], blocks := [], ren := [] })], F := fun ρ j v nx => f79a_l2 k j v.1.1 v.1.2.1.2 v.1.2.2.1 v.1.2.2.2.1 nx }
def f79a (k : Nat) (a1 : (List (Int × ((List Int) × (List Int))))) (a2 : (List Int)) : Option ((Int × Unit) × Unit) :=
  f79a_l2 k k a1 a2 (a1.length : Int) 0
    (fun x9 : (Unit × Unit) =>
      some (((-1), ()), ()),
    fun x10 : ((Int × Unit) × Unit) =>
      some ((x10.1.1, ()), ()),
    ())
def ef79a : Entry := { id := 79, ar := { temps := [(0, .c (.sl (.pair (.int .i64) (.pair (.sl (.int .i64)) (.sl (.int .i64)))))), (1, .c (.cap (.lit (.fn 51)) (.dp (.sl (.int .i64)))))], blocks := [], ren := [] }, res := { temps := [(0, .c (.int .i64))], blocks := [], ren := [] }, f := fun k v => f79a k v.1.1 v.1.2.1.2 }
def gf79a (k : Nat) : Full := { tt := tt, n := 19, fns := [ef51], trunc := [], tails := [], touch := [], opens := [], shapes := [], closes := [], k := k, glob := glob, cuts := [(2, (cf79a_l2 k))], joins := [] }
theorem of79a_l2 (k : Nat) : CutOk (gf79a k) (cf79a_l2 k) (theLoop Try.f79 2) := fun ρ v nx => ⟨by kernel_rfl, fun j => by kernel_rfl⟩
theorem qf79a (k : Nat) : AllP (bodyL (gf79a k) Try.f79) := by
  have h : (CutOk (gf79a k) (cf79a_l2 k) (theLoop Try.f79 2) ∧ True) = AllP (bodyL (gf79a k) Try.f79) := by kernel_rfl
  exact Eq.mp h (And.intro (of79a_l2 k) (trivial))
theorem sf79a : Sound Try.prog glob ef79a := sound_of base (fn := Try.f79) Try.func79 (by kernel_rfl) gf79a (fun _ => ⟨rfl, rfl⟩) (fun k j => ⟨sf51.at j, trivial⟩) qf79a (fun k v => by kernel_rfl)

/-! impl.Rule] -/
def f50a (k : Nat) (a1 : (List (Int × ((List Int) × (List Int))))) (a2 : (List Int)) : Option ((Bool × Unit) × Unit) :=
  (f79a k a1 a2).bind fun x2 =>
  some (((decide (x2.1.1 ≥ 0)), ()), ())
def ef50a : Entry := { id := 50, ar := { temps := [(0, .c (.sl (.pair (.int .i64) (.pair (.sl (.int .i64)) (.sl (.int .i64)))))), (1, .c (.cap (.lit (.fn 51)) (.dp (.sl (.int .i64)))))], blocks := [], ren := [] }, res := { temps := [(0, .c .bool)], blocks := [], ren := [] }, f := fun k v => f50a k v.1.1 v.1.2.1.2 }
def gf50a (k : Nat) : Full := { tt := tt, n := 9, fns := [ef79a], trunc := [], tails := [], touch := [], opens := [], shapes := [], closes := [], k := k, glob := glob, cuts := [], joins := [] }
theorem qf50a (k : Nat) : AllP (bodyL (gf50a k) Try.f50) := by
  have h : True = AllP (bodyL (gf50a k) Try.f50) := by kernel_rfl
  exact Eq.mp h trivial
theorem sf50a : Sound Try.prog glob ef50a := sound_of base (fn := Try.f50) Try.func50 (by kernel_rfl) gf50a (fun _ => ⟨rfl, rfl⟩) (fun k j => ⟨sf79a.at j, trivial⟩) qf50a (fun k v => by kernel_rfl)

/-! impl.IsSolution -/
def f13 (k : Nat) (a1 : (List (Int × ((List Int) × (List Int))))) (a2 : Int) (a3 : (List Int)) : Option ((Bool × Unit) × Unit) :=
  (f39 k a1 a2).bind fun x5 =>
  bif x5.1.1 then
    (f48 k a3).bind fun x6 =>
    bif (x6.1.1 == a2) then
      (f49 k a3).bind fun x7 =>
      bif x7.1.1 then
        (f50a k a1 a3).bind fun x8 =>
        some (((!x8.1.1), ()), ())
      else
        some ((false, ()), ())
    else
      some ((false, ()), ())
  else
    some ((false, ()), ())
def ef13 : Entry := { id := 13, ar := { temps := [(0, .c (.sl (.pair (.int .i64) (.pair (.sl (.int .i64)) (.sl (.int .i64)))))), (1, .c (.int .i64)), (2, .c (.sl (.int .i64)))], blocks := [], ren := [] }, res := { temps := [(0, .c .bool)], blocks := [], ren := [] }, f := fun k v => f13 k v.1.1 v.1.2.1 v.1.2.2.1 }
def gf13 (k : Nat) : Full := { tt := tt, n := 26, fns := [ef39, ef48, ef49, ef50a], trunc := [], tails := [], touch := [], opens := [], shapes := [], closes := [], k := k, glob := glob, cuts := [], joins := [] }
theorem qf13 (k : Nat) : AllP (bodyL (gf13 k) Try.f13) := by
  have h : True = AllP (bodyL (gf13 k) Try.f13) := by kernel_rfl
  exact Eq.mp h trivial
theorem sf13 : Sound Try.prog glob ef13 := sound_of base (fn := Try.f13) Try.func13 (by kernel_rfl) gf13 (fun _ => ⟨rfl, rfl⟩) (fun k j => ⟨sf39.at j, sf48.at j, sf49.at j, sf50a.at j, trivial⟩) qf13 (fun k v => by kernel_rfl)

/-! laws.FnSolveAll -/
def f3_j13 {ρ : Type} (k : Nat) (v69 : (List (Int × ((List Int) × (List Int))))) (v70 : Int) (v71 : Int) (v72 : Bool) (v73 : Int) (v74 : (List Int)) (v75 : (List (List Int))) (nx : (((((List (Int × ((List Int) × (List Int)))) × Int × Unit × Unit × Int × Bool × Int × Unit) × ((List Int) × (List (List Int)) × Unit)) → Option ρ) × Unit)) : Option ρ :=
  bif v72 then
    nx.1 ((v69, v70, (), (), v71, true, v73, ()), (v74, v75, ()))
  else
    bif decide (0 ≤ v73) && decide (v73 < (v75.length : Int)) then
      (v75[v73.toNat]?).bind fun x76 =>
      (f12 k x76 v74).bind fun x77 =>
      nx.1 ((v69, v70, (), (), v71, x77.1.1, v73, ()), (v74, v75, ()))
    else
      none
def cf3_j13 : Cut := { sp := { temps := [(3, .c (.sl (.pair (.int .i64) (.pair (.sl (.int .i64)) (.sl (.int .i64)))))), (4, .c (.int .i64)), (5, .c (.row 5000000)), (6, .c (.row 5000001)), (7, .c (.int .i64)), (9, .c .bool), (10, .c (.int .i64))], blocks := [(5000000, .row 2 (.int .i64)), (5000001, .row 24 (.sl (.int .i64)))], ren := [] }, outs := [(.normal, { temps := [(3, .c (.sl (.pair (.int .i64) (.pair (.sl (.int .i64)) (.sl (.int .i64)))))), (4, .c (.int .i64)), (5, .c (.row 5000000)), (6, .c (.row 5000001)), (7, .c (.int .i64)), (9, .c .bool), (10, .c (.int .i64))], blocks := [(5000000, .row 2 (.int .i64)), (5000001, .row 24 (.sl (.int .i64)))], ren := [] })], F := fun ρ k v nx => f3_j13 k v.1.1 v.1.2.1 v.1.2.2.2.2.1 v.1.2.2.2.2.2.1 v.1.2.2.2.2.2.2.1 v.2.1 v.2.2.1 nx }
def f3_l9 {ρ : Type} (k : Nat) : Nat → (List (Int × ((List Int) × (List Int)))) → Int → Int → Bool → Int → (List Int) → (List (List Int)) → (((((List (Int × ((List Int) × (List Int)))) × Int × Unit × Unit × Int × Bool × Unit) × ((List Int) × (List (List Int)) × Unit)) → Option ρ) × (((Bool × Unit) × Unit) → Option ρ) × Unit) → Option ρ
  | 0, _, _, _, _, _, _, _, _ => none
  | j + 1, v55, v56, v57, v58, v59, v60, v61, nx =>
    bif (decide (v59 < (v61.length : Int))) then
      bif decide (0 ≤ v59) && decide (v59 < (v61.length : Int)) then
        (v61[v59.toNat]?).bind fun x62 =>
        (f10 k v55 v56 x62).bind fun x63 =>
        bif (!x63.1.1) then
          nx.2.1 ((false, ()), ())
        else
          bif (decide (v59 > 0)) then
            bif decide (0 ≤ (wr .i64 (v59 - 1))) && decide ((wr .i64 (v59 - 1)) < (v61.length : Int)) then
              (v61[(wr .i64 (v59 - 1)).toNat]?).bind fun x64 =>
              bif decide (0 ≤ v59) && decide (v59 < (v61.length : Int)) then
                (v61[v59.toNat]?).bind fun x65 =>
                (f11 k x64 x65).bind fun x66 =>
                bif (!x66.1.1) then
                  nx.2.1 ((false, ()), ())
                else
                  f3_j13 k v55 v56 v57 v58 v59 v60 v61
                    (fun x67 : (((List (Int × ((List Int) × (List Int)))) × Int × Unit × Unit × Int × Bool × Int × Unit) × ((List Int) × (List (List Int)) × Unit)) =>
                      f3_l9 k j x67.1.1 x67.1.2.1 x67.1.2.2.2.2.1 x67.1.2.2.2.2.2.1 (wr .i64 (x67.1.2.2.2.2.2.2.1 + 1)) x67.2.1 x67.2.2.1 nx,
                    ())
              else
                none
            else
              none
          else
            f3_j13 k v55 v56 v57 v58 v59 v60 v61
              (fun x68 : (((List (Int × ((List Int) × (List Int)))) × Int × Unit × Unit × Int × Bool × Int × Unit) × ((List Int) × (List (List Int)) × Unit)) =>
                f3_l9 k j x68.1.1 x68.1.2.1 x68.1.2.2.2.2.1 x68.1.2.2.2.2.2.1 (wr .i64 (x68.1.2.2.2.2.2.2.1 + 1)) x68.2.1 x68.2.2.1 nx,
              ())
      else
        none
    else
      nx.1 ((v55, v56, (), (), v57, v58, ()), (v60, v61, ()))
def cf3_l9 (k : Nat) : Cut := { sp := { temps := [(3, .c (.sl (.pair (.int .i64) (.pair (.sl (.int .i64)) (.sl (.int .i64)))))), (4, .c (.int .i64)), (5, .c (.row 5000000)), (6, .c (.row 5000001)), (7, .c (.int .i64)), (9, .c .bool), (10, .c (.int .i64))], blocks := [(5000000, .row 2 (.int .i64)), (5000001, .row 24 (.sl (.int .i64)))], ren := [] }, outs := [(.exit 0, { temps := [(3, .c (.sl (.pair (.int .i64) (.pair (.sl (.int .i64)) (.sl (.int .i64)))))), (4, .c (.int .i64)), (5, .c (.row 5000000)), (6, .c (.row 5000001)), (7, .c (.int .i64)), (9, .c .bool)], blocks := [(5000000, .row 2 (.int .i64)), (5000001, .row 24 (.sl (.int .i64)))], ren := [] }), (.ret, { temps := [(2, .c .bool)], blocks := [], ren := [] })], F := fun ρ j v nx => f3_l9 k j v.1.1 v.1.2.1 v.1.2.2.2.2.1 v.1.2.2.2.2.2.1 v.1.2.2.2.2.2.2.1 v.2.1 v.2.2.1 nx }
def f3_j16 {ρ : Type} (k : Nat) (v78 : (List (Int × ((List Int) × (List Int))))) (v79 : Int) (v80 : Int) (v81 : (List (List Int))) (nx : ((((Bool × Unit) × Unit) → Option ρ) × Unit)) : Option ρ :=
  (f14 k v78 v79 5000).bind fun x82 =>
  bif ((v81.length : Int) == 0) then
    bif (x82.1.2.1 == 8) then
      nx.1 (((decide (v80 > 0)), ()), ())
    else
      nx.1 ((false, ()), ())
  else
    bif (x82.1.2.1 == 0) then
      bif decide (0 ≤ 0) && decide (0 < (v81.length : Int)) then
        (v81[0]?).bind fun x83 =>
        (f12 k x82.2.1 x83).bind fun x84 =>
        bif x84.1.1 then
          nx.1 (((decide (v80 > 0)), ()), ())
        else
          nx.1 ((false, ()), ())
      else
        none
    else
      nx.1 ((false, ()), ())
def cf3_j16 : Cut := { sp := { temps := [(3, .c (.sl (.pair (.int .i64) (.pair (.sl (.int .i64)) (.sl (.int .i64)))))), (4, .c (.int .i64)), (6, .c (.row 5000000)), (7, .c (.int .i64))], blocks := [(5000000, .row 24 (.sl (.int .i64)))], ren := [] }, outs := [(.ret, { temps := [(2, .c .bool)], blocks := [], ren := [] })], F := fun ρ k v nx => f3_j16 k v.1.1 v.1.2.1 v.1.2.2.2.1 v.2.1 nx }
def f3 (k : Nat) (a1 : (List Int)) : Option ((Bool × Unit) × Unit) :=
  bif (decide ((a1.length : Int) > 1048576)) then
    some ((true, ()), ())
  else
    (f8a k a1).bind fun x46 =>
    (f9a k x46.2.1 x46.1.2.1 5000 100).bind fun x47 =>
    bif (x47.1.2.2.1 != 0) then
      some (((x47.1.2.2.1 == 10), ()), ())
    else
      f3_l9 k k x46.2.1 x46.1.2.1 x47.1.2.1 false 0 x46.2.2.1 x47.2.1
        (fun x50 : (((List (Int × ((List Int) × (List Int)))) × Int × Unit × Unit × Int × Bool × Unit) × ((List Int) × (List (List Int)) × Unit)) =>
          bif (decide ((x50.2.2.1.length : Int) < 100)) then
            (f13 k x50.1.1 x50.1.2.1 x50.2.1).bind fun x51 =>
            bif (!(x50.1.2.2.2.2.2.1 == x51.1.1)) then
              some ((false, ()), ())
            else
              f3_j16 k x50.1.1 x50.1.2.1 x50.1.2.2.2.2.1 x50.2.2.1
                (fun x52 : ((Bool × Unit) × Unit) =>
                  some ((x52.1.1, ()), ()),
                ())
          else
            f3_j16 k x50.1.1 x50.1.2.1 x50.1.2.2.2.2.1 x50.2.2.1
              (fun x53 : ((Bool × Unit) × Unit) =>
                some ((x53.1.1, ()), ()),
              ()),
        fun x54 : ((Bool × Unit) × Unit) =>
          some ((x54.1.1, ()), ()),
        ())
def ef3 : Entry := { id := 3, ar := { temps := [(0, .c (.sl (.int .u8)))], blocks := [], ren := [] }, res := { temps := [(0, .c .bool)], blocks := [], ren := [] }, f := fun k v => f3 k v.1.1 }
def gf3 (k : Nat) : Full := { tt := tt, n := 112, fns := [ef8a, ef9a, ef10, ef11, ef12, ef13, ef14], trunc := [], tails := [], touch := [], opens := [], shapes := [], closes := [], k := k, glob := glob, cuts := [(9, (cf3_l9 k))], joins := [(13, cf3_j13), (16, cf3_j16)] }
theorem of3_j13 (k : Nat) : JoinOk (gf3 k) cf3_j13 (theJoin Try.f3 13) := fun ρ v nx => by kernel_rfl
theorem of3_l9 (k : Nat) : CutOk (gf3 k) (cf3_l9 k) (theLoop Try.f3 9) := fun ρ v nx => ⟨by kernel_rfl, fun j => by kernel_rfl⟩
theorem of3_j16 (k : Nat) : JoinOk (gf3 k) cf3_j16 (theJoin Try.f3 16) := fun ρ v nx => by kernel_rfl
theorem qf3 (k : Nat) : AllP (bodyL (gf3 k) Try.f3) := by
  have h : (JoinOk (gf3 k) cf3_j13 (theJoin Try.f3 13) ∧ CutOk (gf3 k) (cf3_l9 k) (theLoop Try.f3 9) ∧ JoinOk (gf3 k) cf3_j16 (theJoin Try.f3 16) ∧ True) = AllP (bodyL (gf3 k) Try.f3) := by kernel_rfl
  exact Eq.mp h (And.intro (of3_j13 k) (And.intro (of3_l9 k) (And.intro (of3_j16 k) (trivial))))
theorem sf3 : Sound Try.prog glob ef3 := sound_of base (fn := Try.f3) Try.func3 (by kernel_rfl) gf3 (fun _ => ⟨rfl, rfl⟩) (fun k j => ⟨sf8a.at j, sf9a.at j, sf10.at j, sf11.at j, sf12.at j, sf13.at j, sf14.at j, trivial⟩) qf3 (fun k v => by kernel_rfl)

/-! impl.Rule] -/
def f96 (k : Nat) (a1 : (List (Int × ((List Int) × (List Int))))) : Option ((Int × Unit) × Unit) :=
  some (((a1.length : Int), ()), ())
def ef96 : Entry := { id := 96, ar := { temps := [(0, .c (.sl (.pair (.int .i64) (.pair (.sl (.int .i64)) (.sl (.int .i64))))))], blocks := [], ren := [] }, res := { temps := [(0, .c (.int .i64))], blocks := [], ren := [] }, f := fun k v => f96 k v.1.1 }
def gf96 (k : Nat) : Full := { tt := tt, n := 5, fns := [], trunc := [], tails := [], touch := [], opens := [], shapes := [], closes := [], k := k, glob := glob, cuts := [], joins := [] }
theorem qf96 (k : Nat) : AllP (bodyL (gf96 k) Try.f96) := by
  have h : True = AllP (bodyL (gf96 k) Try.f96) := by kernel_rfl
  exact Eq.mp h trivial
theorem sf96 : Sound Try.prog glob ef96 := sound_of base (fn := Try.f96) Try.func96 (by kernel_rfl) gf96 (fun _ => ⟨rfl, rfl⟩) (fun k j => trivial) qf96 (fun k v => by kernel_rfl)

/-! impl.refuted -/
def f88_l18 {ρ : Type} (self : (List (Int × ((List Int) × (List Int)))) → (List (Int × (Int × (Int × Int)))) → (List Int) → Option (((List (Int × (Int × (Int × Int)))) × Bool × Unit) × ((List Int) × Unit))) (k : Nat) : Nat → (List (Int × ((List Int) × (List Int)))) → (List (Int × (Int × (Int × Int)))) → Int → Int → (List Int) → Int → Int → Int → Int → (List Int) → (((((List (Int × (Int × (Int × Int)))) × Unit) × ((List Int) × Unit)) → Option ρ) × (((Unit × Bool × Unit) × ((List Int) × Unit)) → Option ρ) × Unit) → Option ρ
  | 0, _, _, _, _, _, _, _, _, _, _, _ => none
  | j + 1, v69, v70, v71, v72, v73, v74, v75, v76, v77, v78, nx =>
    bif (decide (v72 < v71)) then
      bif decide (0 ≤ v72) && decide (v72 < (v78.length : Int)) then
        (v78[v72.toNat]?).bind fun x79 =>
        (f98 k v73).bind fun x80 =>
        bif decide (0 ≤ v75) && decide (v75 < (x80.2.1.length : Int)) then
          (x80.2.1[v75.toNat]?).bind fun _ =>
          (self v69 v70 (x80.2.1.set v75.toNat x79)).bind fun x82 =>
          bif (!x82.1.2.1) then
            nx.2.1 (((), false, ()), (v73, ()))
          else
            f88_l18 self k j v69 x82.1.1 v71 (wr .i64 (v72 + 1)) v73 v74 v75 v76 v77 v78 nx
        else
          none
      else
        none
    else
      nx.1 ((v70, ()), (v73, ()))
def cf88_l18 (self : (List (Int × ((List Int) × (List Int)))) → (List (Int × (Int × (Int × Int)))) → (List Int) → Option (((List (Int × (Int × (Int × Int)))) × Bool × Unit) × ((List Int) × Unit))) (k : Nat) : Cut := { sp := { temps := [(0, .c (.sl (.pair (.int .i64) (.pair (.sl (.int .i64)) (.sl (.int .i64)))))), (1, .c (.lit (.row 3000000))), (8, .c (.box 5000000)), (9, .c (.sl (.pair (.int .i64) (.pair (.int .i64) (.pair (.int .i64) (.int .i64)))))), (116, .c (.row 5000001)), (117, .c (.int .i64)), (118, .c (.int .i64))], blocks := [(3000000, .row 2 (.int .i64)), (5000000, .box 95 [(.int .i64), (.int .i64), (.int .i64), (.int .i64)]), (5000001, .row 2 (.int .i64))], ren := [(3000000, some 3000000)] }, outs := [(.exit 1, { temps := [(9, .c (.sl (.pair (.int .i64) (.pair (.int .i64) (.pair (.int .i64) (.int .i64))))))], blocks := [(3000000, .row 2 (.int .i64))], ren := [(3000000, some 3000000)] }), (.ret, { temps := [(6, .c (.lit .nils)), (7, .c .bool)], blocks := [(3000000, .row 2 (.int .i64))], ren := [(3000000, some 3000000)] })], F := fun ρ j v nx => f88_l18 self k j v.1.1 v.1.2.2.2.1 v.1.2.2.2.2.2.1 v.1.2.2.2.2.2.2.1 v.2.1 v.2.2.1.1 v.2.2.1.2.1 v.2.2.1.2.2.1 v.2.2.1.2.2.2.1 v.2.2.2.1 nx }
def f88_j6 {ρ : Type} (self : (List (Int × ((List Int) × (List Int)))) → (List (Int × (Int × (Int × Int)))) → (List Int) → Option (((List (Int × (Int × (Int × Int)))) × Bool × Unit) × ((List Int) × Unit))) (k : Nat) (v83 : (List (Int × ((List Int) × (List Int))))) (v84 : (List (Int × (Int × (Int × Int))))) (v85 : Bool) (v86 : Bool) (v87 : (List Int)) (v88 : Int) (v89 : Int) (v90 : Int) (v91 : Int) (nx : (((((List (Int × (Int × (Int × Int)))) × Bool × Unit) × ((List Int) × Unit)) → Option ρ) × Unit)) : Option ρ :=
  bif (v88 == 3) then
    let x104 : Bool := ((v88 == 3) && ((v89 == 0) && ((v90 == 0) && ((v91 == v91) && true))))
    bif x104 then
      bif v85 then
        (getI v83 v91).bind fun x105 =>
        (f52 k x105.1 x105.2.1 x105.2.2 v87).bind fun x106 =>
        nx.1 ((v84, (decide (x106.1.1 < 0)), ()), (v87, ()))
      else
        nx.1 ((v84, false, ()), (v87, ()))
    else
      nx.1 ((v84, false, ()), (v87, ()))
  else
    bif (!v86) then
      nx.1 ((([] : List (Int × (Int × (Int × Int)))), false, ()), (v87, ()))
    else
      bif (v88 == 2) then
        bif (!v85) then
          nx.1 ((([] : List (Int × (Int × (Int × Int)))), false, ()), (v87, ()))
        else
          (f78 k v90).bind fun x110 =>
          bif (!x110.1.1) then
            nx.1 ((([] : List (Int × (Int × (Int × Int)))), false, ()), (v87, ()))
          else
            (getI v83 v91).bind fun x111 =>
            (f97 k x111.1 x111.2.1 x111.2.2 v89 (wr .i64 (0 - v90)) v87).bind fun x112 =>
            bif (decide (x112.1.1 ≥ 0)) then
              nx.1 ((([] : List (Int × (Int × (Int × Int)))), false, ()), (x112.2.1, ()))
            else
              bif decide (0 ≤ v89) && decide (v89 < (x112.2.1.length : Int)) then
                (x112.2.1[v89.toNat]?).bind fun _ =>
                (self v83 v84 (x112.2.1.set v89.toNat v90)).bind fun x114 =>
                nx.1 ((x114.1.1, x114.1.2.1, ()), (x114.2.1, ()))
              else
                none
      else
        let x115 : Bool := (!((v88 == 1) && ((v89 == v89) && ((v90 == 0) && ((v91 == 0) && true)))))
        bif x115 then
          nx.1 ((([] : List (Int × (Int × (Int × Int)))), false, ()), (v87, ()))
        else
          f88_l18 self k k v83 v84 ([1, (-1)].length : Int) 0 v87 v88 v89 v90 v91 ([1, (-1)])
            (fun x116 : (((List (Int × (Int × (Int × Int)))) × Unit) × ((List Int) × Unit)) =>
              nx.1 ((x116.1.1, true, ()), (x116.2.1, ())),
            fun x117 : ((Unit × Bool × Unit) × ((List Int) × Unit)) =>
              nx.1 ((([] : List (Int × (Int × (Int × Int)))), x117.1.2.1, ()), (x117.2.1, ())),
            ())
def cf88_j6 (self : (List (Int × ((List Int) × (List Int)))) → (List (Int × (Int × (Int × Int)))) → (List Int) → Option (((List (Int × (Int × (Int × Int)))) × Bool × Unit) × ((List Int) × Unit))) : Cut := { sp := { temps := [(0, .c (.sl (.pair (.int .i64) (.pair (.sl (.int .i64)) (.sl (.int .i64)))))), (1, .c (.lit (.row 3000000))), (8, .c (.box 5000000)), (9, .c (.sl (.pair (.int .i64) (.pair (.int .i64) (.pair (.int .i64) (.int .i64)))))), (10, .c .bool), (11, .c .bool)], blocks := [(3000000, .row 2 (.int .i64)), (5000000, .box 95 [(.int .i64), (.int .i64), (.int .i64), (.int .i64)])], ren := [(3000000, some 3000000)] }, outs := [(.ret, { temps := [(6, .c (.sl (.pair (.int .i64) (.pair (.int .i64) (.pair (.int .i64) (.int .i64)))))), (7, .c .bool)], blocks := [(3000000, .row 2 (.int .i64))], ren := [(3000000, some 3000000)] })], F := fun ρ k v nx => f88_j6 self k v.1.1 v.1.2.2.2.1 v.1.2.2.2.2.1 v.1.2.2.2.2.2.1 v.2.1 v.2.2.1.1 v.2.2.1.2.1 v.2.2.1.2.2.1 v.2.2.1.2.2.2.1 nx }
def f88 : Nat → (List (Int × ((List Int) × (List Int)))) → (List (Int × (Int × (Int × Int)))) → (List Int) → Option (((List (Int × (Int × (Int × Int)))) × Bool × Unit) × ((List Int) × Unit))
  | 0, _, _, _ => none
  | k + 1, a1, a2, a3 =>
    bif ((a2.length : Int) == 0) then
      some ((([] : List (Int × (Int × (Int × Int)))), false, ()), (a3, ()))
    else
      (getI a2 0).bind fun x61 =>
      bif decide (0 ≤ 1) && decide (1 ≤ (a2.length : Int)) && decide ((a2.length : Int) ≤ (a2.length : Int)) then
        (f96 k a1).bind fun x62 =>
        (f41 k x61.2.2.2 0 (wr .i64 (x62.1.1 - 1))).bind fun x63 =>
        (f48 k a3).bind fun x64 =>
        (f41 k x61.2.1 0 (wr .i64 (x64.1.1 - 1))).bind fun x65 =>
        bif x65.1.1 then
          bif decide (0 ≤ x61.2.1) && decide (x61.2.1 < (a3.length : Int)) then
            (a3[x61.2.1.toNat]?).bind fun x66 =>
            f88_j6 (f88 k) k a1 (sub a2 1 (a2.length : Int)) x63.1.1 (x66 == 0) a3 x61.1 x61.2.1 x61.2.2.1 x61.2.2.2
              (fun x67 : (((List (Int × (Int × (Int × Int)))) × Bool × Unit) × ((List Int) × Unit)) =>
                some ((x67.1.1, x67.1.2.1, ()), (x67.2.1, ())),
              ())
          else
            none
        else
          f88_j6 (f88 k) k a1 (sub a2 1 (a2.length : Int)) x63.1.1 false a3 x61.1 x61.2.1 x61.2.2.1 x61.2.2.2
            (fun x68 : (((List (Int × (Int × (Int × Int)))) × Bool × Unit) × ((List Int) × Unit)) =>
              some ((x68.1.1, x68.1.2.1, ()), (x68.2.1, ())),
            ())
      else
        none
def ef88 : Entry := { id := 88, ar := { temps := [(0, .c (.sl (.pair (.int .i64) (.pair (.sl (.int .i64)) (.sl (.int .i64)))))), (1, .c (.row 3000000)), (2, .c (.sl (.pair (.int .i64) (.pair (.int .i64) (.pair (.int .i64) (.int .i64))))))], blocks := [(3000000, .row 2 (.int .i64))], ren := [] }, res := { temps := [(0, .c (.sl (.pair (.int .i64) (.pair (.int .i64) (.pair (.int .i64) (.int .i64)))))), (1, .c .bool)], blocks := [(3000000, .row 2 (.int .i64))], ren := [(3000000, some 3000000)] }, f := fun k v => f88 k v.1.1 v.1.2.2.1 v.2.1 }
def gf88 (k : Nat) : Full := { tt := tt, n := 141, fns := [ef96, ef41, ef48, ef52, ef78, ef97, ef88, ef98b], trunc := [], tails := [], touch := [(3, [(6, [8])]), (11, [(20, [3000000])])], opens := [], shapes := [], closes := [], k := k, glob := glob, cuts := [(18, (cf88_l18 (f88 k) k))], joins := [(6, (cf88_j6 (f88 k)))] }
theorem of88_l18 (k : Nat) : CutOk (gf88 k) (cf88_l18 (f88 k) k) (theLoop Try.f88 18) := fun ρ v nx => ⟨by kernel_rfl, fun j => by kernel_rfl⟩
theorem of88_j6 (k : Nat) : JoinOk (gf88 k) (cf88_j6 (f88 k)) (theJoin Try.f88 6) := fun ρ v nx => by kernel_rfl
theorem qf88 (k : Nat) : AllP (bodyL (gf88 k) Try.f88) := by
  have h : (CutOk (gf88 k) (cf88_l18 (f88 k) k) (theLoop Try.f88 18) ∧ JoinOk (gf88 k) (cf88_j6 (f88 k)) (theJoin Try.f88 6) ∧ True) = AllP (bodyL (gf88 k) Try.f88) := by kernel_rfl
  exact Eq.mp h (And.intro (of88_l18 k) (And.intro (of88_j6 k) (trivial)))
theorem sf88 : Sound Try.prog glob ef88 := sound_rec base (fn := Try.f88) Try.func88 (by kernel_rfl) gf88 (fun _ => ⟨rfl, rfl, rfl⟩) (fun k j h => ⟨sf96.at j, sf41.at j, sf48.at j, sf52.at j, sf78.at j, sf97.at j, h, sf98b.at j, trivial⟩) qf88 (fun v => by kernel_rfl) (fun k v => by kernel_rfl)

/-! impl.checkRefutation -/
def f63 (k : Nat) (a1 : (List (Int × ((List Int) × (List Int))))) (a2 : Int) (a3 : (List (Int × (Int × (Int × Int))))) : Option ((Bool × Unit) × Unit) :=
  bif decide (a2 = a2) && decide (0 ≤ a2) && decide (a2 * 8 ≤ roomy) then
    (f88 k a1 a3 (List.replicate a2.toNat 0)).bind fun x2 =>
    bif x2.1.2.1 then
      some ((((x2.1.1.length : Int) == 0), ()), ())
    else
      some ((false, ()), ())
  else
    none
def ef63 : Entry := { id := 63, ar := { temps := [(0, .c (.sl (.pair (.int .i64) (.pair (.sl (.int .i64)) (.sl (.int .i64)))))), (1, .c (.int .i64)), (2, .c (.sl (.pair (.int .i64) (.pair (.int .i64) (.pair (.int .i64) (.int .i64))))))], blocks := [], ren := [] }, res := { temps := [(0, .c .bool)], blocks := [], ren := [] }, f := fun k v => f63 k v.1.1 v.1.2.1 v.1.2.2.1 }
def gf63 (k : Nat) : Full := { tt := tt, n := 23, fns := [ef88], trunc := [], tails := [], touch := [], opens := [], shapes := [], closes := [], k := k, glob := glob, cuts := [], joins := [] }
theorem qf63 (k : Nat) : AllP (bodyL (gf63 k) Try.f63) := by
  have h : True = AllP (bodyL (gf63 k) Try.f63) := by kernel_rfl
  exact Eq.mp h trivial
theorem sf63 : Sound Try.prog glob ef63 := sound_of base (fn := Try.f63) Try.func63 (by kernel_rfl) gf63 (fun _ => ⟨rfl, rfl⟩) (fun k j => ⟨sf88.at j, trivial⟩) qf63 (fun k v => by kernel_rfl)

/-! impl.CheckRefutation -/
def f32 (k : Nat) (a1 : (List (Int × ((List Int) × (List Int))))) (a2 : Int) (a3 : (List (Int × (Int × (Int × Int))))) : Option ((Bool × Unit) × Unit) :=
  (f39 k a1 a2).bind fun x3 =>
  bif x3.1.1 then
    bif (decide ((a3.length : Int) ≤ 4000)) then
      (f63 k a1 a2 a3).bind fun x4 =>
      some ((x4.1.1, ()), ())
    else
      some ((false, ()), ())
  else
    some ((false, ()), ())
def ef32 : Entry := { id := 32, ar := { temps := [(0, .c (.sl (.pair (.int .i64) (.pair (.sl (.int .i64)) (.sl (.int .i64)))))), (1, .c (.int .i64)), (2, .c (.sl (.pair (.int .i64) (.pair (.int .i64) (.pair (.int .i64) (.int .i64))))))], blocks := [], ren := [] }, res := { temps := [(0, .c .bool)], blocks := [], ren := [] }, f := fun k v => f32 k v.1.1 v.1.2.1 v.1.2.2.1 }
def gf32 (k : Nat) : Full := { tt := tt, n := 21, fns := [ef39, ef63], trunc := [], tails := [], touch := [], opens := [], shapes := [], closes := [], k := k, glob := glob, cuts := [], joins := [] }
theorem qf32 (k : Nat) : AllP (bodyL (gf32 k) Try.f32) := by
  have h : True = AllP (bodyL (gf32 k) Try.f32) := by kernel_rfl
  exact Eq.mp h trivial
theorem sf32 : Sound Try.prog glob ef32 := sound_of base (fn := Try.f32) Try.func32 (by kernel_rfl) gf32 (fun _ => ⟨rfl, rfl⟩) (fun k j => ⟨sf39.at j, sf63.at j, trivial⟩) qf32 (fun k v => by kernel_rfl)

/-! impl.depth -/
def f64 : Nat → (List (Int × (Int × (Int × Int)))) → Option ((Int × (List (Int × (Int × (Int × Int)))) × Unit) × Unit)
  | 0, _ => none
  | k + 1, a1 =>
    bif ((a1.length : Int) == 0) then
      some (((-1), ([] : List (Int × (Int × (Int × Int)))), ()), ())
    else
      bif decide (0 ≤ 1) && decide (1 ≤ (a1.length : Int)) && decide ((a1.length : Int) ≤ (a1.length : Int)) then
        (getI a1 0).bind fun x6 =>
        bif (x6.1 == 3) then
          some ((0, (sub a1 1 (a1.length : Int)), ()), ())
        else
          bif (x6.1 == 2) then
            (f64 k (sub a1 1 (a1.length : Int))).bind fun x7 =>
            bif (decide (x7.1.1 < 0)) then
              some (((-1), ([] : List (Int × (Int × (Int × Int)))), ()), ())
            else
              some (((wr .i64 (x7.1.1 + 1)), x7.1.2.1, ()), ())
          else
            bif (x6.1 == 1) then
              (f64 k (sub a1 1 (a1.length : Int))).bind fun x8 =>
              bif (decide (x8.1.1 < 0)) then
                some (((-1), ([] : List (Int × (Int × (Int × Int)))), ()), ())
              else
                (f64 k x8.1.2.1).bind fun x9 =>
                bif (decide (x9.1.1 < 0)) then
                  some (((-1), ([] : List (Int × (Int × (Int × Int)))), ()), ())
                else
                  let x10 : Int := (bif decide (x9.1.1 > x8.1.1) then x9.1.1 else x8.1.1)
                  some (((wr .i64 (x10 + 1)), x9.1.2.1, ()), ())
            else
              some (((-1), ([] : List (Int × (Int × (Int × Int)))), ()), ())
      else
        none
def ef64 : Entry := { id := 64, ar := { temps := [(0, .c (.sl (.pair (.int .i64) (.pair (.int .i64) (.pair (.int .i64) (.int .i64))))))], blocks := [], ren := [] }, res := { temps := [(0, .c (.int .i64)), (1, .c (.sl (.pair (.int .i64) (.pair (.int .i64) (.pair (.int .i64) (.int .i64))))))], blocks := [], ren := [] }, f := fun k v => f64 k v.1.1 }
def gf64 (k : Nat) : Full := { tt := tt, n := 56, fns := [ef64], trunc := [], tails := [], touch := [], opens := [], shapes := [], closes := [], k := k, glob := glob, cuts := [], joins := [] }
theorem qf64 (k : Nat) : AllP (bodyL (gf64 k) Try.f64) := by
  have h : True = AllP (bodyL (gf64 k) Try.f64) := by kernel_rfl
  exact Eq.mp h trivial
theorem sf64 : Sound Try.prog glob ef64 := sound_rec base (fn := Try.f64) Try.func64 (by kernel_rfl) gf64 (fun _ => ⟨rfl, rfl, rfl⟩) (fun k j h => ⟨h, trivial⟩) qf64 (fun v => by kernel_rfl) (fun k v => by kernel_rfl)

/-! impl.RefutationDepth -/
def f33 (k : Nat) (a1 : (List (Int × (Int × (Int × Int))))) : Option ((Int × Unit) × Unit) :=
  bif (decide ((a1.length : Int) > 4000)) then
    some (((-1), ()), ())
  else
    (f64 k a1).bind fun x2 =>
    bif (decide ((x2.1.2.1.length : Int) > 0)) then
      some (((-1), ()), ())
    else
      some ((x2.1.1, ()), ())
def ef33 : Entry := { id := 33, ar := { temps := [(0, .c (.sl (.pair (.int .i64) (.pair (.int .i64) (.pair (.int .i64) (.int .i64))))))], blocks := [], ren := [] }, res := { temps := [(0, .c (.int .i64))], blocks := [], ren := [] }, f := fun k v => f33 k v.1.1 }
def gf33 (k : Nat) : Full := { tt := tt, n := 17, fns := [ef64], trunc := [], tails := [], touch := [], opens := [], shapes := [], closes := [], k := k, glob := glob, cuts := [], joins := [] }
theorem qf33 (k : Nat) : AllP (bodyL (gf33 k) Try.f33) := by
  have h : True = AllP (bodyL (gf33 k) Try.f33) := by kernel_rfl
  exact Eq.mp h trivial
theorem sf33 : Sound Try.prog glob ef33 := sound_of base (fn := Try.f33) Try.func33 (by kernel_rfl) gf33 (fun _ => ⟨rfl, rfl⟩) (fun k j => ⟨sf64.at j, trivial⟩) qf33 (fun k v => by kernel_rfl)

/-! spec.l00Src).one -/
def f89 (k : Nat) (a1 : Int) (a2 : (List Int)) (a3 : Int) (a4 : Int) : Option ((Bool × Unit) × (((List Int) × Int × Int × Unit) × Unit)) :=
  (f37 k a1 a2 a3 a4).bind fun x2 =>
  some (((x2.1.1 == 0), ()), ((x2.2.1.1, x2.2.1.2.1, x2.2.1.2.2.1, ()), ()))
def ef89 : Entry := { id := 89, ar := { temps := [(0, .c (.box 3000000)), (1, .c (.int .i64))], blocks := [(3000000, .box 100 [(.sl (.int .u8)), (.int .i64), (.int .u64)])], ren := [] }, res := { temps := [(0, .c .bool)], blocks := [(3000000, .box 100 [(.sl (.int .u8)), (.int .i64), (.int .u64)])], ren := [(3000000, some 3000000)] }, f := fun k v => f89 k v.1.2.1 v.2.1.1 v.2.1.2.1 v.2.1.2.2.1 }
def gf89 (k : Nat) : Full := { tt := tt, n := 9, fns := [ef37], trunc := [], tails := [], touch := [], opens := [], shapes := [], closes := [], k := k, glob := glob, cuts := [], joins := [] }
theorem qf89 (k : Nat) : AllP (bodyL (gf89 k) Try.f89) := by
  have h : True = AllP (bodyL (gf89 k) Try.f89) := by kernel_rfl
  exact Eq.mp h trivial
theorem sf89 : Sound Try.prog glob ef89 := sound_of base (fn := Try.f89) Try.func89 (by kernel_rfl) gf89 (fun _ => ⟨rfl, rfl⟩) (fun k j => ⟨sf37.at j, trivial⟩) qf89 (fun k v => by kernel_rfl)

/-! spec.l00Src).among -/
def f99 (k : Nat) (a1 : (List Int)) (a2 : (List Int)) (a3 : Int) (a4 : Int) : Option ((Int × Unit) × (((List Int) × Int × Int × Unit) × Unit)) :=
  (f37 k (a1.length : Int) a2 a3 a4).bind fun x3 =>
  (getI a1 x3.1.1).bind fun x4 =>
  some ((x4, ()), ((x3.2.1.1, x3.2.1.2.1, x3.2.1.2.2.1, ()), ()))
def ef99 : Entry := { id := 99, ar := { temps := [(0, .c (.box 3000000)), (1, .c (.sl (.int .i64)))], blocks := [(3000000, .box 100 [(.sl (.int .u8)), (.int .i64), (.int .u64)])], ren := [] }, res := { temps := [(0, .c (.int .i64))], blocks := [(3000000, .box 100 [(.sl (.int .u8)), (.int .i64), (.int .u64)])], ren := [(3000000, some 3000000)] }, f := fun k v => f99 k v.1.2.1 v.2.1.1 v.2.1.2.1 v.2.1.2.2.1 }
def gf99 (k : Nat) : Full := { tt := tt, n := 12, fns := [ef37], trunc := [], tails := [], touch := [], opens := [], shapes := [], closes := [], k := k, glob := glob, cuts := [], joins := [] }
theorem qf99 (k : Nat) : AllP (bodyL (gf99 k) Try.f99) := by
  have h : True = AllP (bodyL (gf99 k) Try.f99) := by kernel_rfl
  exact Eq.mp h trivial
theorem sf99 : Sound Try.prog glob ef99 := sound_of base (fn := Try.f99) Try.func99 (by kernel_rfl) gf99 (fun _ => ⟨rfl, rfl⟩) (fun k j => ⟨sf37.at j, trivial⟩) qf99 (fun k v => by kernel_rfl)

/-! spec.l15BentRules -/
def f90 (k : Nat) (a1 : (List Int)) (a2 : Int) (a3 : Int) : Option ((Unit × Int × Unit) × (((List Int) × Int × Int × Unit) × (List (Int × ((List Int) × (List Int)))) × Unit)) :=
  (f36 k a1 a2 a3).bind fun x14 =>
  (f37 k 12 x14.2.1.1 x14.2.1.2.1 x14.2.1.2.2.1).bind fun x15 =>
  bif (x15.1.1 == 0) then
    (f37 k 6 x15.2.1.1 x15.2.1.2.1 x15.2.1.2.2.1).bind fun x16 =>
    bif decide ((x14.2.2.1.length + [(x16.1.1, (([] : List Int), ([] : List Int)))].length) * 56 ≤ roomy) then
      let x17 : (List (Int × ((List Int) × (List Int)))) := (x14.2.2.1 ++ [(x16.1.1, (([] : List Int), ([] : List Int)))])
      some (((), x14.1.2.1, ()), ((x16.2.1.1, x16.2.1.2.1, x16.2.1.2.2.1, ()), x17, ()))
    else
      none
  else
    bif (x15.1.1 == 1) then
      (f38 k x14.1.2.1 x15.2.1.1 x15.2.1.2.1 x15.2.1.2.2.1).bind fun x18 =>
      (f99 k ([(-1), x14.1.2.1, 200]) x18.2.1.1 x18.2.1.2.1 x18.2.1.2.2.1).bind fun x19 =>
      bif decide (0 ≤ 0) && decide (0 < (x18.2.2.1.length : Int)) then
        (x18.2.2.1[0]?).bind fun _ =>
        bif decide ((x14.2.2.1.length + [(x18.1.1.1, ((x18.2.2.1.set 0 x19.1.1), x18.2.2.2.1))].length) * 56 ≤ roomy) then
          let x21 : (List (Int × ((List Int) × (List Int)))) := (x14.2.2.1 ++ [(x18.1.1.1, ((x18.2.2.1.set 0 x19.1.1), x18.2.2.2.1))])
          some (((), x14.1.2.1, ()), ((x19.2.1.1, x19.2.1.2.1, x19.2.1.2.2.1, ()), x21, ()))
        else
          none
      else
        none
    else
      bif (x15.1.1 == 2) then
        (f38 k x14.1.2.1 x15.2.1.1 x15.2.1.2.1 x15.2.1.2.2.1).bind fun x22 =>
        (f99 k ([0, 2, 1]) x22.2.1.1 x22.2.1.2.1 x22.2.1.2.2.1).bind fun x23 =>
        bif decide (0 ≤ 0) && decide (0 < (x22.2.2.2.1.length : Int)) then
          (x22.2.2.2.1[0]?).bind fun _ =>
          bif decide ((x14.2.2.1.length + [(x22.1.1.1, (x22.2.2.1, (x22.2.2.2.1.set 0 x23.1.1)))].length) * 56 ≤ roomy) then
            let x25 : (List (Int × ((List Int) × (List Int)))) := (x14.2.2.1 ++ [(x22.1.1.1, (x22.2.2.1, (x22.2.2.2.1.set 0 x23.1.1)))])
            some (((), x14.1.2.1, ()), ((x23.2.1.1, x23.2.1.2.1, x23.2.1.2.2.1, ()), x25, ()))
          else
            none
        else
          none
      else
        bif (x15.1.1 == 3) then
          (f99 k ([(-1), 0, 1, 200, 201]) x15.2.1.1 x15.2.1.2.1 x15.2.1.2.2.1).bind fun x26 =>
          some (((), x26.1.1, ()), ((x26.2.1.1, x26.2.1.2.1, x26.2.1.2.2.1, ()), x14.2.2.1, ()))
        else
          some (((), x14.1.2.1, ()), ((x15.2.1.1, x15.2.1.2.1, x15.2.1.2.2.1, ()), x14.2.2.1, ()))
def ef90 : Entry := { id := 90, ar := { temps := [(0, .c (.box 3000000))], blocks := [(3000000, .box 100 [(.sl (.int .u8)), (.int .i64), (.int .u64)])], ren := [] }, res := { temps := [(0, .c (.row 4000000)), (1, .c (.int .i64))], blocks := [(3000000, .box 100 [(.sl (.int .u8)), (.int .i64), (.int .u64)]), (4000000, .own 61 (.p (.d (.int .i64)) (.p (.s 2 (.d (.int .i64))) (.s 2 (.d (.int .i64))))))], ren := [(3000000, some 3000000)] }, f := fun k v => f90 k v.2.1.1 v.2.1.2.1 v.2.1.2.2.1 }
def gf90 (k : Nat) : Full := { tt := tt, n := 61, fns := [ef36, ef37, ef38, ef99], trunc := [], tails := [], touch := [(7, [(5, [32, 3000000]), (7, [2002700])]), (11, [(4, [47, 3000000]), (6, [2004301])])], opens := [], shapes := [(21, (.p (.d (.int .i64)) (.p (.s 2 (.d (.int .i64))) (.s 2 (.d (.int .i64)))))), (22, (.p (.d (.int .i64)) (.p (.s 2 (.d (.int .i64))) (.s 2 (.d (.int .i64)))))), (37, (.p (.d (.int .i64)) (.p (.s 2 (.d (.int .i64))) (.s 2 (.d (.int .i64)))))), (38, (.p (.d (.int .i64)) (.p (.s 2 (.d (.int .i64))) (.s 2 (.d (.int .i64)))))), (52, (.p (.d (.int .i64)) (.p (.s 2 (.d (.int .i64))) (.s 2 (.d (.int .i64)))))), (53, (.p (.d (.int .i64)) (.p (.s 2 (.d (.int .i64))) (.s 2 (.d (.int .i64))))))], closes := [], k := k, glob := glob, cuts := [], joins := [] }
theorem qf90 (k : Nat) : AllP (bodyL (gf90 k) Try.f90) := by
  have h : True = AllP (bodyL (gf90 k) Try.f90) := by kernel_rfl
  exact Eq.mp h trivial
theorem sf90 : Sound Try.prog glob ef90 := sound_of base (fn := Try.f90) Try.func90 (by kernel_rfl) gf90 (fun _ => ⟨rfl, rfl⟩) (fun k j => ⟨sf36.at j, sf37.at j, sf38.at j, sf99.at j, trivial⟩) qf90 (fun k v => by kernel_rfl)

/-! spec.l16DrawHard -/
def f65_l5 {ρ : Type} (k : Nat) : Nat → Int → Int → (List Int) → Int → Int → (List (Int × ((List Int) × (List Int)))) → ((((Unit × Int × Unit) × (((List Int) × Int × Int × Unit) × (List (Int × ((List Int) × (List Int)))) × Unit)) → Option ρ) × Unit) → Option ρ
  | 0, _, _, _, _, _, _, _ => none
  | j + 1, v23, v24, v25, v26, v27, v28, nx =>
    bif (decide (v24 > 0)) then
      (f38 k v23 v25 v26 v27).bind fun x29 =>
      bif decide ((v28.length + [(x29.1.1.1, (x29.2.2.1, x29.2.2.2.1))].length) * 56 ≤ roomy) then
        let x30 : (List (Int × ((List Int) × (List Int)))) := (v28 ++ [(x29.1.1.1, (x29.2.2.1, x29.2.2.2.1))])
        f65_l5 k j v23 (wr .i64 (v24 - 1)) x29.2.1.1 x29.2.1.2.1 x29.2.1.2.2.1 x30 nx
      else
        none
    else
      nx.1 (((), v23, ()), ((v25, v26, v27, ()), v28, ()))
def cf65_l5 (k : Nat) : Cut := { sp := { temps := [(0, .c (.lit (.ptr 3000000 0 0 0))), (4, .c (.row 5000000)), (5, .c (.int .i64)), (6, .c (.int .i64))], blocks := [(3000000, .box 100 [(.sl (.int .u8)), (.int .i64), (.int .u64)]), (5000000, .own 61 (.p (.d (.int .i64)) (.p (.s 2 (.d (.int .i64))) (.s 2 (.d (.int .i64))))))], ren := [(3000000, some 3000000)] }, outs := [(.exit 0, { temps := [(4, .c (.row 5000000)), (5, .c (.int .i64))], blocks := [(3000000, .box 100 [(.sl (.int .u8)), (.int .i64), (.int .u64)]), (5000000, .own 61 (.p (.d (.int .i64)) (.p (.s 2 (.d (.int .i64))) (.s 2 (.d (.int .i64))))))], ren := [(3000000, some 3000000)] })], F := fun ρ j v nx => f65_l5 k j v.1.2.2.1 v.1.2.2.2.1 v.2.1.1 v.2.1.2.1 v.2.1.2.2.1 v.2.2.1 nx }
def f65 (k : Nat) (a1 : (List Int)) (a2 : Int) (a3 : Int) : Option ((Unit × Int × Unit) × (((List Int) × Int × Int × Unit) × (List (Int × ((List Int) × (List Int)))) × Unit)) :=
  (f89 k 8 a1 a2 a3).bind fun x18 =>
  bif x18.1.1 then
    (f90 k x18.2.1.1 x18.2.1.2.1 x18.2.1.2.2.1).bind fun x19 =>
    some (((), x19.1.2.1, ()), ((x19.2.1.1, x19.2.1.2.1, x19.2.1.2.2.1, ()), x19.2.2.1, ()))
  else
    (f36 k x18.2.1.1 x18.2.1.2.1 x18.2.1.2.2.1).bind fun x20 =>
    (f37 k 12 x20.2.1.1 x20.2.1.2.1 x20.2.1.2.2.1).bind fun x21 =>
    f65_l5 k k x20.1.2.1 x21.1.1 x21.2.1.1 x21.2.1.2.1 x21.2.1.2.2.1 x20.2.2.1
      (fun x22 : ((Unit × Int × Unit) × (((List Int) × Int × Int × Unit) × (List (Int × ((List Int) × (List Int)))) × Unit)) =>
        some (((), x22.1.2.1, ()), ((x22.2.1.1, x22.2.1.2.1, x22.2.1.2.2.1, ()), x22.2.2.1, ())),
      ())
def ef65 : Entry := { id := 65, ar := { temps := [(0, .c (.box 3000000))], blocks := [(3000000, .box 100 [(.sl (.int .u8)), (.int .i64), (.int .u64)])], ren := [] }, res := { temps := [(0, .c (.row 4000000)), (1, .c (.int .i64))], blocks := [(3000000, .box 100 [(.sl (.int .u8)), (.int .i64), (.int .u64)]), (4000000, .own 61 (.p (.d (.int .i64)) (.p (.s 2 (.d (.int .i64))) (.s 2 (.d (.int .i64))))))], ren := [(3000000, some 3000000)] }, f := fun k v => f65 k v.2.1.1 v.2.1.2.1 v.2.1.2.2.1 }
def gf65 (k : Nat) : Full := { tt := tt, n := 32, fns := [ef89, ef90, ef36, ef37, ef38], trunc := [], tails := [], touch := [], opens := [], shapes := [(28, (.p (.d (.int .i64)) (.p (.s 2 (.d (.int .i64))) (.s 2 (.d (.int .i64)))))), (29, (.p (.d (.int .i64)) (.p (.s 2 (.d (.int .i64))) (.s 2 (.d (.int .i64))))))], closes := [], k := k, glob := glob, cuts := [(5, (cf65_l5 k))], joins := [] }
theorem of65_l5 (k : Nat) : CutOk (gf65 k) (cf65_l5 k) (theLoop Try.f65 5) := fun ρ v nx => ⟨by kernel_rfl, fun j => by kernel_rfl⟩
theorem qf65 (k : Nat) : AllP (bodyL (gf65 k) Try.f65) := by
  have h : (CutOk (gf65 k) (cf65_l5 k) (theLoop Try.f65 5) ∧ True) = AllP (bodyL (gf65 k) Try.f65) := by kernel_rfl
  exact Eq.mp h (And.intro (of65_l5 k) (trivial))
theorem sf65 : Sound Try.prog glob ef65 := sound_of base (fn := Try.f65) Try.func65 (by kernel_rfl) gf65 (fun _ => ⟨rfl, rfl⟩) (fun k j => ⟨sf89.at j, sf90.at j, sf36.at j, sf37.at j, sf38.at j, trivial⟩) qf65 (fun k v => by kernel_rfl)

/-! spec.DrawCheckRefutation -/
def f34_j8 {ρ : Type} (k : Nat) (v40 : (List (Int × ((List Int) × (List Int))))) (v41 : Int) (v42 : (List Int)) (v43 : Int) (v44 : Int) (v45 : (List (Int × (Int × (Int × Int))))) (nx : (((((List (Int × ((List Int) × (List Int)))) × Int × Unit × Unit) × ((List (Int × (Int × (Int × Int)))) × Unit)) → Option ρ) × Unit)) : Option ρ :=
  (f37 k 6 v42 v43 v44).bind fun x46 =>
  bif (x46.1.1 == 0) then
    bif (decide ((v45.length : Int) > 0)) then
      bif decide (0 ≤ (wr .i64 ((v45.length : Int) - 1))) && decide ((wr .i64 ((v45.length : Int) - 1)) ≤ (v45.length : Int)) then
        let x47 : (List (Int × (Int × (Int × Int)))) := (v45.take (wr .i64 ((v45.length : Int) - 1)).toNat)
        nx.1 ((v40, v41, (), ()), (x47, ()))
      else
        none
    else
      nx.1 ((v40, v41, (), ()), (v45, ()))
  else
    bif (x46.1.1 == 1) then
      (f37 k 4 x46.2.1.1 x46.2.1.2.1 x46.2.1.2.2.1).bind fun x48 =>
      bif decide ((v45.length + [((wr .i64 (1 + x48.1.1)), (0, (0, 0)))].length) * 32 ≤ roomy) then
        let x49 : (List (Int × (Int × (Int × Int)))) := (v45 ++ [((wr .i64 (1 + x48.1.1)), (0, (0, 0)))])
        nx.1 ((v40, v41, (), ()), (x49, ()))
      else
        none
    else
      bif (x46.1.1 == 2) then
        bif (decide ((v45.length : Int) > 0)) then
          (f37 k (v45.length : Int) x46.2.1.1 x46.2.1.2.1 x46.2.1.2.2.1).bind fun x50 =>
          (f37 k 4 x50.2.1.1 x50.2.1.2.1 x50.2.1.2.2.1).bind fun x51 =>
          bif (x51.1.1 == 0) then
            bif decide (0 ≤ x50.1.1) && decide (x50.1.1 < (v45.length : Int)) then
              (v45[x50.1.1.toNat]?).bind fun x52 =>
              (f37 k 3 x51.2.1.1 x51.2.1.2.1 x51.2.1.2.2.1).bind fun x53 =>
              let x54 : Int := (wr .i64 (x52.2.2.2 + (wr .i64 (x53.1.1 - 1))))
              bif decide (0 ≤ x50.1.1) && decide (x50.1.1 < (v45.length : Int)) then
                (v45[x50.1.1.toNat]?).bind fun x55 =>
                let x56 : (List (Int × (Int × (Int × Int)))) := (v45.set x50.1.1.toNat (x55.1, (x55.2.1, (x55.2.2.1, x54))))
                nx.1 ((v40, v41, (), ()), (x56, ()))
              else
                none
            else
              none
          else
            bif (x51.1.1 == 1) then
              bif decide (0 ≤ x50.1.1) && decide (x50.1.1 < (v45.length : Int)) then
                (v45[x50.1.1.toNat]?).bind fun x57 =>
                bif decide (0 ≤ x50.1.1) && decide (x50.1.1 < (v45.length : Int)) then
                  (v45[x50.1.1.toNat]?).bind fun x58 =>
                  let x59 : (List (Int × (Int × (Int × Int)))) := (v45.set x50.1.1.toNat (x58.1, ((wr .i64 (x57.2.1 + 1)), x58.2.2)))
                  nx.1 ((v40, v41, (), ()), (x59, ()))
                else
                  none
              else
                none
            else
              bif (x51.1.1 == 2) then
                bif decide (0 ≤ x50.1.1) && decide (x50.1.1 < (v45.length : Int)) then
                  (v45[x50.1.1.toNat]?).bind fun x60 =>
                  bif decide (0 ≤ x50.1.1) && decide (x50.1.1 < (v45.length : Int)) then
                    (v45[x50.1.1.toNat]?).bind fun x61 =>
                    let x62 : (List (Int × (Int × (Int × Int)))) := (v45.set x50.1.1.toNat (x61.1, (x61.2.1, ((wr .i64 (0 - x60.2.2.1)), x61.2.2.2))))
                    nx.1 ((v40, v41, (), ()), (x62, ()))
                  else
                    none
                else
                  none
              else
                (f37 k 5 x51.2.1.1 x51.2.1.2.1 x51.2.1.2.2.1).bind fun x63 =>
                bif decide (0 ≤ x50.1.1) && decide (x50.1.1 < (v45.length : Int)) then
                  (v45[x50.1.1.toNat]?).bind fun x64 =>
                  nx.1 ((v40, v41, (), ()), ((v45.set x50.1.1.toNat (x63.1.1, x64.2)), ()))
                else
                  none
        else
          nx.1 ((v40, v41, (), ()), (v45, ()))
      else
        nx.1 ((v40, v41, (), ()), (v45, ()))
def cf34_j8 : Cut := { sp := { temps := [(5, .c (.box 5000000)), (6, .c (.sl (.pair (.int .i64) (.pair (.sl (.int .i64)) (.sl (.int .i64)))))), (7, .c (.int .i64)), (8, .c (.row 5000001))], blocks := [(5000000, .box 100 [(.sl (.int .u8)), (.int .i64), (.int .u64)]), (5000001, .row 95 (.pair (.int .i64) (.pair (.int .i64) (.pair (.int .i64) (.int .i64)))))], ren := [] }, outs := [(.ret, { temps := [(2, .c (.sl (.pair (.int .i64) (.pair (.sl (.int .i64)) (.sl (.int .i64)))))), (3, .c (.int .i64)), (4, .c (.row 5000000))], blocks := [(5000000, .row 95 (.pair (.int .i64) (.pair (.int .i64) (.pair (.int .i64) (.int .i64)))))], ren := [] })], F := fun ρ k v nx => f34_j8 k v.1.2.1 v.1.2.2.1 v.2.1.1 v.2.1.2.1 v.2.1.2.2.1 v.2.2.1 nx }
def f34 (k : Nat) (a1 : (List Int)) : Option (((List (Int × ((List Int) × (List Int)))) × Int × Unit × Unit) × ((List (Int × (Int × (Int × Int)))) × Unit)) :=
  (f35 k a1).bind fun x34 =>
  (f65 k x34.2.1.1 x34.2.1.2.1 x34.2.1.2.2.1).bind fun x35 =>
  (f44 k x35.2.2.1 x35.1.2.1).bind fun x36 =>
  bif x36.1.1 then
    bif decide (x35.1.2.1 = x35.1.2.1) && decide (0 ≤ x35.1.2.1) && decide (x35.1.2.1 * 8 ≤ roomy) then
      (f60 k x35.2.2.1 500 0 0 ([] : List (Int × (Int × (Int × Int)))) (List.replicate x35.1.2.1.toNat 0)).bind fun x37 =>
      f34_j8 k x35.2.2.1 x35.1.2.1 x35.2.1.1 x35.2.1.2.1 x35.2.1.2.2.1 x37.2.2.2.1
        (fun x38 : (((List (Int × ((List Int) × (List Int)))) × Int × Unit × Unit) × ((List (Int × (Int × (Int × Int)))) × Unit)) =>
          some ((x38.1.1, x38.1.2.1, (), ()), (x38.2.1, ())),
        ())
    else
      none
  else
    f34_j8 k x35.2.2.1 x35.1.2.1 x35.2.1.1 x35.2.1.2.1 x35.2.1.2.2.1 ([] : List (Int × (Int × (Int × Int))))
      (fun x39 : (((List (Int × ((List Int) × (List Int)))) × Int × Unit × Unit) × ((List (Int × (Int × (Int × Int)))) × Unit)) =>
        some ((x39.1.1, x39.1.2.1, (), ()), (x39.2.1, ())),
      ())
def ef34 : Entry := { id := 34, ar := { temps := [(0, .c (.sl (.int .u8)))], blocks := [], ren := [] }, res := { temps := [(0, .c (.sl (.pair (.int .i64) (.pair (.sl (.int .i64)) (.sl (.int .i64)))))), (1, .c (.int .i64)), (2, .c (.row 4000000))], blocks := [(4000000, .row 95 (.pair (.int .i64) (.pair (.int .i64) (.pair (.int .i64) (.int .i64)))))], ren := [] }, f := fun k v => f34 k v.1.1 }
def gf34 (k : Nat) : Full := { tt := tt, n := 109, fns := [ef35, ef65, ef44, ef60, ef37], trunc := [44], tails := [], touch := [(20, [(6, [5000000]), (11, [5000001])])], opens := [], shapes := [], closes := [], k := k, glob := glob, cuts := [], joins := [(8, cf34_j8)] }
theorem of34_j8 (k : Nat) : JoinOk (gf34 k) cf34_j8 (theJoin Try.f34 8) := fun ρ v nx => by kernel_rfl
theorem qf34 (k : Nat) : AllP (bodyL (gf34 k) Try.f34) := by
  have h : (JoinOk (gf34 k) cf34_j8 (theJoin Try.f34 8) ∧ True) = AllP (bodyL (gf34 k) Try.f34) := by kernel_rfl
  exact Eq.mp h (And.intro (of34_j8 k) (trivial))
theorem sf34 : Sound Try.prog glob ef34 := sound_of base (fn := Try.f34) Try.func34 (by kernel_rfl) gf34 (fun _ => ⟨rfl, rfl⟩) (fun k j => ⟨sf35.at j, sf65.at j, sf44.at j, sf60.at j, sf37.at j, trivial⟩) qf34 (fun k v => by kernel_rfl)

/-! laws.FnRefute -/
def f7_j14 {ρ : Type} (k : Nat) (v28 : (List Int)) (nx : ((((Bool × Unit) × Unit) → Option ρ) × Unit)) : Option ρ :=
  (f34 k v28).bind fun x29 =>
  (f32 k x29.1.1 x29.1.2.1 x29.2.1).bind fun x31 =>
  bif (!x31.1.1) then
    nx.1 ((true, ()), ())
  else
    (f16 k x29.1.1 x29.1.2.1 5000).bind fun x32 =>
    bif (x32.1.2.1 == 8) then
      nx.1 ((true, ()), ())
    else
      nx.1 (((x32.1.2.1 == 10), ()), ())
def cf7_j14 : Cut := { sp := { temps := [(1, .c (.sl (.int .u8)))], blocks := [], ren := [] }, outs := [(.ret, { temps := [(4, .c .bool)], blocks := [], ren := [] })], F := fun ρ k v nx => f7_j14 k v.1.1 nx }
def f7 (k : Nat) (a1 : (List Int)) (a2 : (List Int)) : Option ((Bool × Unit) × Unit) :=
  bif (decide ((a1.length : Int) > 1048576)) then
    some ((true, ()), ())
  else
    bif (decide ((a2.length : Int) > 1048576)) then
      some ((true, ()), ())
    else
      (f8 k a1).bind fun x19 =>
      (f28 k x19.2.1 x19.1.2.1 5000).bind fun x20 =>
      (f14 k x19.2.1 x19.1.2.1 5000).bind fun x21 =>
      bif (x20.1.2.1 == 0) then
        bif (x21.1.2.1 != 8) then
          some ((false, ()), ())
        else
          (f10 k x19.2.1 x19.1.2.1 x19.2.2.1).bind fun x22 =>
          bif x22.1.1 then
            some ((false, ()), ())
          else
            (f32 k x19.2.1 x19.1.2.1 x20.2.1).bind fun x23 =>
            bif (!x23.1.1) then
              some ((false, ()), ())
            else
              (f33 k x20.2.1).bind fun x24 =>
              bif (decide (x24.1.1 < 0)) then
                some ((false, ()), ())
              else
                (f33 k x20.2.1).bind fun x25 =>
                bif (decide (x25.1.1 > x19.1.2.1)) then
                  some ((false, ()), ())
                else
                  f7_j14 k a2
                    (fun x26 : ((Bool × Unit) × Unit) =>
                      some ((x26.1.1, ()), ()),
                    ())
      else
        bif (x20.1.2.1 == 6) then
          bif (x21.1.2.1 != 0) then
            some ((false, ()), ())
          else
            f7_j14 k a2
              (fun x27 : ((Bool × Unit) × Unit) =>
                some ((x27.1.1, ()), ()),
              ())
        else
          bif (x20.1.2.1 == 10) then
            some ((true, ()), ())
          else
            some (((x20.1.2.1 == 5), ()), ())
def ef7 : Entry := { id := 7, ar := { temps := [(0, .c (.sl (.int .u8))), (1, .c (.sl (.int .u8)))], blocks := [], ren := [] }, res := { temps := [(0, .c .bool)], blocks := [], ren := [] }, f := fun k v => f7 k v.1.1 v.1.2.1 }
def gf7 (k : Nat) : Full := { tt := tt, n := 105, fns := [ef8, ef28, ef14, ef10, ef32, ef33, ef34, ef16], trunc := [], tails := [], touch := [], opens := [], shapes := [], closes := [], k := k, glob := glob, cuts := [], joins := [(14, cf7_j14)] }
theorem of7_j14 (k : Nat) : JoinOk (gf7 k) cf7_j14 (theJoin Try.f7 14) := fun ρ v nx => by kernel_rfl
theorem qf7 (k : Nat) : AllP (bodyL (gf7 k) Try.f7) := by
  have h : (JoinOk (gf7 k) cf7_j14 (theJoin Try.f7 14) ∧ True) = AllP (bodyL (gf7 k) Try.f7) := by kernel_rfl
  exact Eq.mp h (And.intro (of7_j14 k) (trivial))
theorem sf7 : Sound Try.prog glob ef7 := sound_of base (fn := Try.f7) Try.func7 (by kernel_rfl) gf7 (fun _ => ⟨rfl, rfl⟩) (fun k j => ⟨sf8.at j, sf28.at j, sf14.at j, sf10.at j, sf32.at j, sf33.at j, sf34.at j, sf16.at j, trivial⟩) qf7 (fun k v => by kernel_rfl)

end Go.Proofs.Ytiilgicmdnllbaa.R
