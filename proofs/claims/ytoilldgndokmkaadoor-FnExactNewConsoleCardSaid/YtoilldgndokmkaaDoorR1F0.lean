/- Plain twins of functions, with their contracts. Printed by a program of this session. -/
import Derived.Test.YtoilldgndokmkaaDoorProg
import Derived.Test.YtoilldgndokmkaaDoorR1Tools
set_option linter.unusedVariables false
namespace Go.Proofs.YtoilldgndokmkaaDoor.R
open Go.Proofs.YtoilldgndokmkaaDoor.R1
def tt : TT := [
  (2, { k := (.int .i64), size := 1, bytes := 8, zero := [.int .i64 0], u := (.int .i64) }),
  (3, { k := (.int .i64), size := 1, bytes := 8, zero := [.int .i64 0], u := (.int .i64) }),
  (4, { k := .bool, size := 1, bytes := 1, zero := [.bool false], u := .bool }),
  (5, { k := (.int .u8), size := 1, bytes := 1, zero := [.int .u8 0], u := (.int .u8) }),
  (9, { k := .str, size := 1, bytes := 16, zero := [.str ByteArray.empty], u := .str }),
  (22, { k := (.sl 43), size := 1, bytes := 24, zero := [.nils], u := (.sl (.pair (.sl (.pair (.pair (.int .i64) (.pair (.int .i64) (.int .i64))) (.pair (.int .i64) (.pair (.int .i64) (.int .i64))))) (.pair (.sl (.pair (.sl (.pair (.pair (.int .i64) (.pair (.int .i64) (.int .i64))) (.pair (.int .i64) (.pair (.int .i64) (.int .i64))))) (.pair (.int .i64) (.pair .bool (.pair (.pair (.int .i64) (.pair (.int .i64) (.int .i64))) (.pair (.int .i64) (.pair (.int .i64) (.int .i64)))))))) (.sl (.int .i64))))) }),
  (23, { k := (.sl 57), size := 1, bytes := 24, zero := [.nils], u := (.sl (.pair .str (.pair (.int .i64) (.pair (.int .i64) (.pair (.int .i64) (.int .i64)))))) }),
  (25, { k := (.struct [(0, 22), (1, 23)]), size := 2, bytes := 48, zero := [.nils, .nils], u := (.pair (.sl (.pair (.sl (.pair (.pair (.int .i64) (.pair (.int .i64) (.int .i64))) (.pair (.int .i64) (.pair (.int .i64) (.int .i64))))) (.pair (.sl (.pair (.sl (.pair (.pair (.int .i64) (.pair (.int .i64) (.int .i64))) (.pair (.int .i64) (.pair (.int .i64) (.int .i64))))) (.pair (.int .i64) (.pair .bool (.pair (.pair (.int .i64) (.pair (.int .i64) (.int .i64))) (.pair (.int .i64) (.pair (.int .i64) (.int .i64)))))))) (.sl (.int .i64))))) (.sl (.pair .str (.pair (.int .i64) (.pair (.int .i64) (.pair (.int .i64) (.int .i64))))))) }),
  (32, { k := (.sl 49), size := 1, bytes := 24, zero := [.nils], u := (.sl (.pair (.pair (.int .i64) (.pair (.int .i64) (.int .i64))) (.pair (.int .i64) (.pair (.int .i64) (.int .i64))))) }),
  (40, { k := (.sl 66), size := 1, bytes := 24, zero := [.nils], u := (.sl (.pair (.sl (.pair (.pair (.int .i64) (.pair (.int .i64) (.int .i64))) (.pair (.int .i64) (.pair (.int .i64) (.int .i64))))) (.pair (.int .i64) (.pair .bool (.pair (.pair (.int .i64) (.pair (.int .i64) (.int .i64))) (.pair (.int .i64) (.pair (.int .i64) (.int .i64)))))))) }),
  (41, { k := (.sl 2), size := 1, bytes := 24, zero := [.nils], u := (.sl (.int .i64)) }),
  (43, { k := (.struct [(0, 32), (1, 40), (2, 41)]), size := 3, bytes := 72, zero := [.nils, .nils, .nils], u := (.pair (.sl (.pair (.pair (.int .i64) (.pair (.int .i64) (.int .i64))) (.pair (.int .i64) (.pair (.int .i64) (.int .i64))))) (.pair (.sl (.pair (.sl (.pair (.pair (.int .i64) (.pair (.int .i64) (.int .i64))) (.pair (.int .i64) (.pair (.int .i64) (.int .i64))))) (.pair (.int .i64) (.pair .bool (.pair (.pair (.int .i64) (.pair (.int .i64) (.int .i64))) (.pair (.int .i64) (.pair (.int .i64) (.int .i64)))))))) (.sl (.int .i64)))) }),
  (47, { k := (.struct [(0, 2), (1, 2), (2, 2)]), size := 3, bytes := 24, zero := [.int .i64 0, .int .i64 0, .int .i64 0], u := (.pair (.int .i64) (.pair (.int .i64) (.int .i64))), eq := true }),
  (49, { k := (.struct [(0, 47), (3, 47)]), size := 6, bytes := 48, zero := [.int .i64 0, .int .i64 0, .int .i64 0, .int .i64 0, .int .i64 0, .int .i64 0], u := (.pair (.pair (.int .i64) (.pair (.int .i64) (.int .i64))) (.pair (.int .i64) (.pair (.int .i64) (.int .i64)))) }),
  (55, { k := (.struct [(0, 2), (1, 47)]), size := 4, bytes := 32, zero := [.int .i64 0, .int .i64 0, .int .i64 0, .int .i64 0], u := (.pair (.int .i64) (.pair (.int .i64) (.pair (.int .i64) (.int .i64)))) }),
  (57, { k := (.struct [(0, 9), (1, 55)]), size := 5, bytes := 48, zero := [.str ByteArray.empty, .int .i64 0, .int .i64 0, .int .i64 0, .int .i64 0], u := (.pair .str (.pair (.int .i64) (.pair (.int .i64) (.pair (.int .i64) (.int .i64))))) }),
  (64, { k := (.struct [(0, 2), (1, 4), (2, 47), (5, 47)]), size := 8, bytes := 64, zero := [.int .i64 0, .bool false, .int .i64 0, .int .i64 0, .int .i64 0, .int .i64 0, .int .i64 0, .int .i64 0], u := (.pair (.int .i64) (.pair .bool (.pair (.pair (.int .i64) (.pair (.int .i64) (.int .i64))) (.pair (.int .i64) (.pair (.int .i64) (.int .i64)))))) }),
  (66, { k := (.struct [(0, 32), (1, 64)]), size := 9, bytes := 88, zero := [.nils, .int .i64 0, .bool false, .int .i64 0, .int .i64 0, .int .i64 0, .int .i64 0, .int .i64 0, .int .i64 0], u := (.pair (.sl (.pair (.pair (.int .i64) (.pair (.int .i64) (.int .i64))) (.pair (.int .i64) (.pair (.int .i64) (.int .i64))))) (.pair (.int .i64) (.pair .bool (.pair (.pair (.int .i64) (.pair (.int .i64) (.int .i64))) (.pair (.int .i64) (.pair (.int .i64) (.int .i64))))))) }),
  (73, { k := (.sl 5), size := 1, bytes := 24, zero := [.nils], u := (.sl (.int .u8)) }),
  (78, { k := (.sl 92), size := 1, bytes := 24, zero := [.nils], u := (.sl (.pair (.pair (.int .i64) (.pair (.int .i64) (.int .i64))) (.pair (.int .i64) (.pair (.int .i64) (.int .i64))))) }),
  (90, { k := (.struct [(0, 2), (1, 2), (2, 2)]), size := 3, bytes := 24, zero := [.int .i64 0, .int .i64 0, .int .i64 0], u := (.pair (.int .i64) (.pair (.int .i64) (.int .i64))) }),
  (92, { k := (.struct [(0, 90), (3, 90)]), size := 6, bytes := 48, zero := [.int .i64 0, .int .i64 0, .int .i64 0, .int .i64 0, .int .i64 0, .int .i64 0], u := (.pair (.pair (.int .i64) (.pair (.int .i64) (.int .i64))) (.pair (.int .i64) (.pair (.int .i64) (.int .i64)))) }),
  (112, { k := (.arr 8 49), size := 48, bytes := 384, zero := [.int .i64 0, .int .i64 0, .int .i64 0, .int .i64 0, .int .i64 0, .int .i64 0, .int .i64 0, .int .i64 0, .int .i64 0, .int .i64 0, .int .i64 0, .int .i64 0, .int .i64 0, .int .i64 0, .int .i64 0, .int .i64 0, .int .i64 0, .int .i64 0, .int .i64 0, .int .i64 0, .int .i64 0, .int .i64 0, .int .i64 0, .int .i64 0, .int .i64 0, .int .i64 0, .int .i64 0, .int .i64 0, .int .i64 0, .int .i64 0, .int .i64 0, .int .i64 0, .int .i64 0, .int .i64 0, .int .i64 0, .int .i64 0, .int .i64 0, .int .i64 0, .int .i64 0, .int .i64 0, .int .i64 0, .int .i64 0, .int .i64 0, .int .i64 0, .int .i64 0, .int .i64 0, .int .i64 0, .int .i64 0], u := (.pair (.pair (.pair (.int .i64) (.pair (.int .i64) (.int .i64))) (.pair (.int .i64) (.pair (.int .i64) (.int .i64)))) (.pair (.pair (.pair (.int .i64) (.pair (.int .i64) (.int .i64))) (.pair (.int .i64) (.pair (.int .i64) (.int .i64)))) (.pair (.pair (.pair (.int .i64) (.pair (.int .i64) (.int .i64))) (.pair (.int .i64) (.pair (.int .i64) (.int .i64)))) (.pair (.pair (.pair (.int .i64) (.pair (.int .i64) (.int .i64))) (.pair (.int .i64) (.pair (.int .i64) (.int .i64)))) (.pair (.pair (.pair (.int .i64) (.pair (.int .i64) (.int .i64))) (.pair (.int .i64) (.pair (.int .i64) (.int .i64)))) (.pair (.pair (.pair (.int .i64) (.pair (.int .i64) (.int .i64))) (.pair (.int .i64) (.pair (.int .i64) (.int .i64)))) (.pair (.pair (.pair (.int .i64) (.pair (.int .i64) (.int .i64))) (.pair (.int .i64) (.pair (.int .i64) (.int .i64)))) (.pair (.pair (.int .i64) (.pair (.int .i64) (.int .i64))) (.pair (.int .i64) (.pair (.int .i64) (.int .i64))))))))))) }),
  (114, { k := (.int .u64), size := 1, bytes := 8, zero := [.int .u64 0], u := (.int .u64) })]
def tab0 : List (((Int × (Int × Int)) × (Int × (Int × Int)))) := [((1, (0, 0)), (0, (0, 0))), ((1, (0, 0)), ((-1), (1, 0))), ((1, (0, 0)), (1, (0, 0))), (((-1), (1, 0)), (1, (0, 0))), ((0, (0, 0)), (1, (0, 0))), ((1, ((-1), 0)), (1, (0, 0))), (((-1), (0, 0)), (1, (0, 0))), (((-1), (0, 0)), ((-1), (1, 0)))]
def gl : List (Nat × B) := [(1000000, .ro 112 (.pair (.pair (.int .i64) (.pair (.int .i64) (.int .i64))) (.pair (.int .i64) (.pair (.int .i64) (.int .i64)))) tab0)]
def glob : Nat → B := globOf gl
theorem ttok : TTok Tryd.prog tt := ttok_of_chk (by kernel_rfl)
theorem base : Base Tryd.prog tt glob := ⟨drawOk (by kernel_rfl), ttok, globOf_free (by kernel_rfl)⟩

/-! spec.l03Square -/
def f10 (k : Nat) (a1 : Int) : Option ((Unit × Unit) × ((List ((Int × (Int × Int)) × (Int × (Int × Int)))) × Unit)) :=
  some (((), ()), ([((0, (0, 0)), (0, (0, 0))), ((a1, (0, 0)), (0, (0, 0))), ((a1, (0, 0)), (a1, (0, 0))), ((0, (0, 0)), (a1, (0, 0)))], ()))
def ef10 : Entry := { id := 10, ar := { temps := [(0, .c (.int .i64))], blocks := [], ren := [] }, res := { temps := [(0, .c (.row 4000000))], blocks := [(4000000, .row 49 (.pair (.pair (.int .i64) (.pair (.int .i64) (.int .i64))) (.pair (.int .i64) (.pair (.int .i64) (.int .i64)))))], ren := [] }, f := fun k v => f10 k v.1.1 }
def gf10 (k : Nat) : Full := { tt := tt, n := 15, fns := [], trunc := [], tails := [], touch := [], opens := [], shapes := [], closes := [], k := k, glob := glob, cuts := [], joins := [] }
theorem qf10 (k : Nat) : AllP (bodyL (gf10 k) Tryd.f10) := by
  have h : True = AllP (bodyL (gf10 k) Tryd.f10) := by kernel_rfl
  exact Eq.mp h trivial
theorem sf10 : Sound Tryd.prog glob ef10 := sound_of base (fn := Tryd.f10) Tryd.func10 (by kernel_rfl) gf10 (fun _ => ⟨rfl, rfl⟩) (fun k j => trivial) qf10 (fun k v => by kernel_rfl)

/-! spec.l00In -/
def f45 (k : Nat) (a1 : Int) (a2 : Int) (a3 : Int) : Option ((Bool × Unit) × Unit) :=
  bif (decide (a1 ≥ a2)) then
    some (((decide (a1 ≤ a3)), ()), ())
  else
    some ((false, ()), ())
def ef45 : Entry := { id := 45, ar := { temps := [(0, .c (.int .i64)), (1, .c (.int .i64)), (2, .c (.int .i64))], blocks := [], ren := [] }, res := { temps := [(0, .c .bool)], blocks := [], ren := [] }, f := fun k v => f45 k v.1.1 v.1.2.1 v.1.2.2.1 }
def gf45 (k : Nat) : Full := { tt := tt, n := 15, fns := [], trunc := [], tails := [], touch := [], opens := [], shapes := [], closes := [], k := k, glob := glob, cuts := [], joins := [] }
theorem qf45 (k : Nat) : AllP (bodyL (gf45 k) Tryd.f45) := by
  have h : True = AllP (bodyL (gf45 k) Tryd.f45) := by kernel_rfl
  exact Eq.mp h trivial
theorem sf45 : Sound Tryd.prog glob ef45 := sound_of base (fn := Tryd.f45) Tryd.func45 (by kernel_rfl) gf45 (fun _ => ⟨rfl, rfl⟩) (fun k j => trivial) qf45 (fun k v => by kernel_rfl)

/-! spec.l01Ok -/
def f53 (k : Nat) (a1 : Int) (a2 : Int) (a3 : Int) : Option ((Bool × Unit) × Unit) :=
  (f45 k a1 (-131072) 131072).bind fun x10 =>
  bif (!x10.1.1) then
    some ((false, ()), ())
  else
    (f45 k a2 (-131072) 131072).bind fun x11 =>
    bif (!x11.1.1) then
      some ((false, ()), ())
    else
      (f45 k a3 0 10).bind fun x12 =>
      bif (!x12.1.1) then
        some ((false, ()), ())
      else
        bif (a3 == 0) then
          some ((true, ()), ())
        else
          bif ((a1.tmod 2) != 0) then
            some ((true, ()), ())
          else
            some ((((a2.tmod 2) != 0), ()), ())
def ef53 : Entry := { id := 53, ar := { temps := [(0, .agg [(.int .i64), (.int .i64), (.int .i64)])], blocks := [], ren := [] }, res := { temps := [(0, .c .bool)], blocks := [], ren := [] }, f := fun k v => f53 k v.1.1.1 v.1.1.2.1 v.1.1.2.2.1 }
def gf53 (k : Nat) : Full := { tt := tt, n := 34, fns := [ef45], trunc := [], tails := [], touch := [], opens := [], shapes := [], closes := [], k := k, glob := glob, cuts := [], joins := [] }
theorem qf53 (k : Nat) : AllP (bodyL (gf53 k) Tryd.f53) := by
  have h : True = AllP (bodyL (gf53 k) Tryd.f53) := by kernel_rfl
  exact Eq.mp h trivial
theorem sf53 : Sound Tryd.prog glob ef53 := sound_of base (fn := Tryd.f53) Tryd.func53 (by kernel_rfl) gf53 (fun _ => ⟨rfl, rfl⟩) (fun k j => ⟨sf45.at j, trivial⟩) qf53 (fun k v => by kernel_rfl)

/-! spec.l02Point -/
def f40 (k : Nat) (a1 : Int) (a2 : Int) (a3 : Int) (a4 : Int) (a5 : Int) (a6 : Int) : Option ((Bool × Unit) × Unit) :=
  (f53 k a1 a2 a3).bind fun x3 =>
  bif x3.1.1 then
    (f53 k a4 a5 a6).bind fun x4 =>
    some ((x4.1.1, ()), ())
  else
    some ((false, ()), ())
def ef40 : Entry := { id := 40, ar := { temps := [(0, .agg [(.int .i64), (.int .i64), (.int .i64), (.int .i64), (.int .i64), (.int .i64)])], blocks := [], ren := [] }, res := { temps := [(0, .c .bool)], blocks := [], ren := [] }, f := fun k v => f40 k v.1.1.1 v.1.1.2.1 v.1.1.2.2.1 v.1.1.2.2.2.1 v.1.1.2.2.2.2.1 v.1.1.2.2.2.2.2.1 }
def gf40 (k : Nat) : Full := { tt := tt, n := 11, fns := [ef53], trunc := [], tails := [], touch := [], opens := [], shapes := [], closes := [], k := k, glob := glob, cuts := [], joins := [] }
theorem qf40 (k : Nat) : AllP (bodyL (gf40 k) Tryd.f40) := by
  have h : True = AllP (bodyL (gf40 k) Tryd.f40) := by kernel_rfl
  exact Eq.mp h trivial
theorem sf40 : Sound Tryd.prog glob ef40 := sound_of base (fn := Tryd.f40) Tryd.func40 (by kernel_rfl) gf40 (fun _ => ⟨rfl, rfl⟩) (fun k j => ⟨sf53.at j, trivial⟩) qf40 (fun k v => by kernel_rfl)

/-! spec.l01Of -/
def f67 (k : Nat) (a1 : Int) (a2 : Int) (a3 : Int) : Option (((Int × Int × Int × Unit) × Unit) × Unit) :=
  some (((a1, a2, a3, ()), ()), ())
def ef67 : Entry := { id := 67, ar := { temps := [(0, .agg [(.int .i64), (.int .i64), (.int .i64)])], blocks := [], ren := [] }, res := { temps := [(0, .agg [(.int .i64), (.int .i64), (.int .i64)])], blocks := [], ren := [] }, f := fun k v => f67 k v.1.1.1 v.1.1.2.1 v.1.1.2.2.1 }
def gf67 (k : Nat) : Full := { tt := tt, n := 10, fns := [], trunc := [], tails := [], touch := [], opens := [], shapes := [], closes := [], k := k, glob := glob, cuts := [], joins := [] }
theorem qf67 (k : Nat) : AllP (bodyL (gf67 k) Tryd.f67) := by
  have h : True = AllP (bodyL (gf67 k) Tryd.f67) := by kernel_rfl
  exact Eq.mp h trivial
theorem sf67 : Sound Tryd.prog glob ef67 := sound_of base (fn := Tryd.f67) Tryd.func67 (by kernel_rfl) gf67 (fun _ => ⟨rfl, rfl⟩) (fun k j => trivial) qf67 (fun k v => by kernel_rfl)

/-! spec.l01Neg -/
def f80 (k : Nat) (a1 : Int) (a2 : Int) (a3 : Int) : Option (((Int × Int × Int × Unit) × Unit) × Unit) :=
  some ((((wr .i64 (0 - a1)), (wr .i64 (0 - a2)), a3, ()), ()), ())
def ef80 : Entry := { id := 80, ar := { temps := [(0, .agg [(.int .i64), (.int .i64), (.int .i64)])], blocks := [], ren := [] }, res := { temps := [(0, .agg [(.int .i64), (.int .i64), (.int .i64)])], blocks := [], ren := [] }, f := fun k v => f80 k v.1.1.1 v.1.1.2.1 v.1.1.2.2.1 }
def gf80 (k : Nat) : Full := { tt := tt, n := 12, fns := [], trunc := [], tails := [], touch := [], opens := [], shapes := [], closes := [], k := k, glob := glob, cuts := [], joins := [] }
theorem qf80 (k : Nat) : AllP (bodyL (gf80 k) Tryd.f80) := by
  have h : True = AllP (bodyL (gf80 k) Tryd.f80) := by kernel_rfl
  exact Eq.mp h trivial
theorem sf80 : Sound Tryd.prog glob ef80 := sound_of base (fn := Tryd.f80) Tryd.func80 (by kernel_rfl) gf80 (fun _ => ⟨rfl, rfl⟩) (fun k j => trivial) qf80 (fun k v => by kernel_rfl)

/-! spec.l01Low -/
def f90_l3 {ρ : Type} (k : Nat) : Nat → Int → Int → Int → Int → Int → Int → ((((Unit × Unit × Unit) × ((Int × Int × Int × Unit) × (Int × Int × Int × Unit) × Unit)) → Option ρ) × Unit) → Option ρ
  | 0, _, _, _, _, _, _, _ => none
  | j + 1, v18, v19, v20, v21, v22, v23, nx =>
    bif (decide (v20 > 0)) then
      bif ((v18.tmod 2) == 0) then
        bif ((v19.tmod 2) == 0) then
          f90_l3 k j (wr .i64 (v18.tdiv 2)) (wr .i64 (v19.tdiv 2)) (wr .i64 (v20 - 1)) v21 v22 v23 nx
        else
          nx.1 (((), (), ()), ((v18, v19, v20, ()), (v21, v22, v23, ()), ()))
      else
        nx.1 (((), (), ()), ((v18, v19, v20, ()), (v21, v22, v23, ()), ()))
    else
      nx.1 (((), (), ()), ((v18, v19, v20, ()), (v21, v22, v23, ()), ()))
def cf90_l3 (k : Nat) : Cut := { sp := { temps := [(1, .c (.box 5000000)), (2, .c (.box 5000001))], blocks := [(5000000, .box 90 [(.int .i64), (.int .i64), (.int .i64)]), (5000001, .box 90 [(.int .i64), (.int .i64), (.int .i64)])], ren := [] }, outs := [(.exit 0, { temps := [(1, .c (.box 5000000)), (2, .c (.box 5000001))], blocks := [(5000000, .box 90 [(.int .i64), (.int .i64), (.int .i64)]), (5000001, .box 90 [(.int .i64), (.int .i64), (.int .i64)])], ren := [] })], F := fun ρ j v nx => f90_l3 k j v.2.1.1 v.2.1.2.1 v.2.1.2.2.1 v.2.2.1.1 v.2.2.1.2.1 v.2.2.1.2.2.1 nx }
def f90_j3 {ρ : Type} (k : Nat) (v24 : Int) (v25 : Int) (v26 : Int) (v27 : Int) (v28 : Int) (v29 : Int) (nx : ((((Unit × Unit) × ((Int × Int × Int × Unit) × Unit)) → Option ρ) × Unit)) : Option ρ :=
  f90_l3 k k v24 v25 v26 v27 v28 v29
    (fun x30 : ((Unit × Unit × Unit) × ((Int × Int × Int × Unit) × (Int × Int × Int × Unit) × Unit)) =>
      nx.1 (((), ()), ((x30.2.1.1, x30.2.1.2.1, x30.2.1.2.2.1, ()), ())),
    ())
def cf90_j3 : Cut := { sp := { temps := [(1, .c (.box 5000000)), (2, .c (.box 5000001))], blocks := [(5000000, .box 90 [(.int .i64), (.int .i64), (.int .i64)]), (5000001, .box 90 [(.int .i64), (.int .i64), (.int .i64)])], ren := [] }, outs := [(.ret, { temps := [(2, .c (.box 5000000))], blocks := [(5000000, .box 90 [(.int .i64), (.int .i64), (.int .i64)])], ren := [] })], F := fun ρ k v nx => f90_j3 k v.2.1.1 v.2.1.2.1 v.2.1.2.2.1 v.2.2.1.1 v.2.2.1.2.1 v.2.2.1.2.2.1 nx }
def f90 (k : Nat) (a1 : Int) (a2 : Int) (a3 : Int) : Option (((Int × Int × Int × Unit) × Unit) × Unit) :=
  bif (a1 == 0) then
    bif (a2 == 0) then
      some (((0, 0, 0, ()), ()), ())
    else
      f90_j3 k a1 a2 a3 0 0 0
        (fun x16 : ((Unit × Unit) × ((Int × Int × Int × Unit) × Unit)) =>
          some (((x16.2.1.1, x16.2.1.2.1, x16.2.1.2.2.1, ()), ()), ()),
        ())
  else
    f90_j3 k a1 a2 a3 0 0 0
      (fun x17 : ((Unit × Unit) × ((Int × Int × Int × Unit) × Unit)) =>
        some (((x17.2.1.1, x17.2.1.2.1, x17.2.1.2.2.1, ()), ()), ()),
      ())
def ef90 : Entry := { id := 90, ar := { temps := [(0, .agg [(.int .i64), (.int .i64), (.int .i64)])], blocks := [], ren := [] }, res := { temps := [(0, .agg [(.int .i64), (.int .i64), (.int .i64)])], blocks := [], ren := [] }, f := fun k v => f90 k v.1.1.1 v.1.1.2.1 v.1.1.2.2.1 }
def gf90 (k : Nat) : Full := { tt := tt, n := 40, fns := [], trunc := [], tails := [], touch := [], opens := [], shapes := [], closes := [], k := k, glob := glob, cuts := [(3, (cf90_l3 k))], joins := [(3, cf90_j3)] }
theorem of90_l3 (k : Nat) : CutOk (gf90 k) (cf90_l3 k) (theLoop Tryd.f90 3) := fun ρ v nx => ⟨by kernel_rfl, fun j => by kernel_rfl⟩
theorem of90_j3 (k : Nat) : JoinOk (gf90 k) cf90_j3 (theJoin Tryd.f90 3) := fun ρ v nx => by kernel_rfl
theorem qf90 (k : Nat) : AllP (bodyL (gf90 k) Tryd.f90) := by
  have h : (CutOk (gf90 k) (cf90_l3 k) (theLoop Tryd.f90 3) ∧ JoinOk (gf90 k) cf90_j3 (theJoin Tryd.f90 3) ∧ True) = AllP (bodyL (gf90 k) Tryd.f90) := by kernel_rfl
  exact Eq.mp h (And.intro (of90_l3 k) (And.intro (of90_j3 k) (trivial)))
theorem sf90 : Sound Tryd.prog glob ef90 := sound_of base (fn := Tryd.f90) Tryd.func90 (by kernel_rfl) gf90 (fun _ => ⟨rfl, rfl⟩) (fun k j => trivial) qf90 (fun k v => by kernel_rfl)

/-! spec.l01Add -/
def f79_l1 {ρ : Type} (k : Nat) : Nat → Int → Int → Int → Int → Int → Int → Int → Int → Int → ((((Unit × Unit × Unit × Unit) × ((Int × Int × Int × Unit) × (Int × Int × Int × Unit) × (Int × Int × Int × Unit) × Unit)) → Option ρ) × Unit) → Option ρ
  | 0, _, _, _, _, _, _, _, _, _, _ => none
  | j + 1, v29, v30, v31, v32, v33, v34, v35, v36, v37, nx =>
    bif (decide (v31 < v34)) then
      f79_l1 k j (wr .i64 (v29 * 2)) (wr .i64 (v30 * 2)) (wr .i64 (v31 + 1)) v32 v33 v34 v35 v36 v37 nx
    else
      nx.1 (((), (), (), ()), ((v29, v30, v31, ()), (v32, v33, v34, ()), (v35, v36, v37, ()), ()))
def cf79_l1 (k : Nat) : Cut := { sp := { temps := [(2, .c (.box 5000000)), (3, .c (.box 5000001)), (4, .c (.box 5000002))], blocks := [(5000000, .box 90 [(.int .i64), (.int .i64), (.int .i64)]), (5000001, .box 90 [(.int .i64), (.int .i64), (.int .i64)]), (5000002, .box 90 [(.int .i64), (.int .i64), (.int .i64)])], ren := [] }, outs := [(.exit 0, { temps := [(2, .c (.box 5000000)), (3, .c (.box 5000001)), (4, .c (.box 5000002))], blocks := [(5000000, .box 90 [(.int .i64), (.int .i64), (.int .i64)]), (5000001, .box 90 [(.int .i64), (.int .i64), (.int .i64)]), (5000002, .box 90 [(.int .i64), (.int .i64), (.int .i64)])], ren := [] })], F := fun ρ j v nx => f79_l1 k j v.2.1.1 v.2.1.2.1 v.2.1.2.2.1 v.2.2.1.1 v.2.2.1.2.1 v.2.2.1.2.2.1 v.2.2.2.1.1 v.2.2.2.1.2.1 v.2.2.2.1.2.2.1 nx }
def f79_l5 {ρ : Type} (k : Nat) : Nat → Int → Int → Int → Int → Int → Int → Int → Int → Int → ((((Unit × Unit × Unit × Unit) × ((Int × Int × Int × Unit) × (Int × Int × Int × Unit) × (Int × Int × Int × Unit) × Unit)) → Option ρ) × Unit) → Option ρ
  | 0, _, _, _, _, _, _, _, _, _, _ => none
  | j + 1, v38, v39, v40, v41, v42, v43, v44, v45, v46, nx =>
    bif (decide (v43 < v40)) then
      f79_l5 k j v38 v39 v40 (wr .i64 (v41 * 2)) (wr .i64 (v42 * 2)) (wr .i64 (v43 + 1)) v44 v45 v46 nx
    else
      nx.1 (((), (), (), ()), ((v38, v39, v40, ()), (v41, v42, v43, ()), (v44, v45, v46, ()), ()))
def cf79_l5 (k : Nat) : Cut := { sp := { temps := [(2, .c (.box 5000000)), (3, .c (.box 5000001)), (4, .c (.box 5000002))], blocks := [(5000000, .box 90 [(.int .i64), (.int .i64), (.int .i64)]), (5000001, .box 90 [(.int .i64), (.int .i64), (.int .i64)]), (5000002, .box 90 [(.int .i64), (.int .i64), (.int .i64)])], ren := [] }, outs := [(.exit 2, { temps := [(2, .c (.box 5000000)), (3, .c (.box 5000001)), (4, .c (.box 5000002))], blocks := [(5000000, .box 90 [(.int .i64), (.int .i64), (.int .i64)]), (5000001, .box 90 [(.int .i64), (.int .i64), (.int .i64)]), (5000002, .box 90 [(.int .i64), (.int .i64), (.int .i64)])], ren := [] })], F := fun ρ j v nx => f79_l5 k j v.2.1.1 v.2.1.2.1 v.2.1.2.2.1 v.2.2.1.1 v.2.2.1.2.1 v.2.2.1.2.2.1 v.2.2.2.1.1 v.2.2.2.1.2.1 v.2.2.2.1.2.2.1 nx }
def f79 (k : Nat) (a1 : Int) (a2 : Int) (a3 : Int) (a4 : Int) (a5 : Int) (a6 : Int) : Option (((Int × Int × Int × Unit) × Unit) × Unit) :=
  f79_l1 k k a1 a2 a3 a4 a5 a6 0 0 0
    (fun x25 : ((Unit × Unit × Unit × Unit) × ((Int × Int × Int × Unit) × (Int × Int × Int × Unit) × (Int × Int × Int × Unit) × Unit)) =>
      f79_l5 k k x25.2.1.1 x25.2.1.2.1 x25.2.1.2.2.1 x25.2.2.1.1 x25.2.2.1.2.1 x25.2.2.1.2.2.1 x25.2.2.2.1.1 x25.2.2.2.1.2.1 x25.2.2.2.1.2.2.1
        (fun x27 : ((Unit × Unit × Unit × Unit) × ((Int × Int × Int × Unit) × (Int × Int × Int × Unit) × (Int × Int × Int × Unit) × Unit)) =>
          (f90 k (wr .i64 (x27.2.1.1 + x27.2.2.1.1)) (wr .i64 (x27.2.1.2.1 + x27.2.2.1.2.1)) x27.2.1.2.2.1).bind fun x28 =>
          some (((x28.1.1.1, x28.1.1.2.1, x28.1.1.2.2.1, ()), ()), ()),
        ()),
    ())
def ef79 : Entry := { id := 79, ar := { temps := [(0, .agg [(.int .i64), (.int .i64), (.int .i64)]), (1, .agg [(.int .i64), (.int .i64), (.int .i64)])], blocks := [], ren := [] }, res := { temps := [(0, .agg [(.int .i64), (.int .i64), (.int .i64)])], blocks := [], ren := [] }, f := fun k v => f79 k v.1.1.1 v.1.1.2.1 v.1.1.2.2.1 v.1.2.1.1 v.1.2.1.2.1 v.1.2.1.2.2.1 }
def gf79 (k : Nat) : Full := { tt := tt, n := 53, fns := [ef90], trunc := [], tails := [], touch := [], opens := [], shapes := [], closes := [], k := k, glob := glob, cuts := [(1, (cf79_l1 k)), (5, (cf79_l5 k))], joins := [] }
theorem of79_l1 (k : Nat) : CutOk (gf79 k) (cf79_l1 k) (theLoop Tryd.f79 1) := fun ρ v nx => ⟨by kernel_rfl, fun j => by kernel_rfl⟩
theorem of79_l5 (k : Nat) : CutOk (gf79 k) (cf79_l5 k) (theLoop Tryd.f79 5) := fun ρ v nx => ⟨by kernel_rfl, fun j => by kernel_rfl⟩
theorem qf79 (k : Nat) : AllP (bodyL (gf79 k) Tryd.f79) := by
  have h : (CutOk (gf79 k) (cf79_l1 k) (theLoop Tryd.f79 1) ∧ CutOk (gf79 k) (cf79_l5 k) (theLoop Tryd.f79 5) ∧ True) = AllP (bodyL (gf79 k) Tryd.f79) := by kernel_rfl
  exact Eq.mp h (And.intro (of79_l1 k) (And.intro (of79_l5 k) (trivial)))
theorem sf79 : Sound Tryd.prog glob ef79 := sound_of base (fn := Tryd.f79) Tryd.func79 (by kernel_rfl) gf79 (fun _ => ⟨rfl, rfl⟩) (fun k j => ⟨sf90.at j, trivial⟩) qf79 (fun k v => by kernel_rfl)

/-! spec.l01Sub -/
def f66 (k : Nat) (a1 : Int) (a2 : Int) (a3 : Int) (a4 : Int) (a5 : Int) (a6 : Int) : Option (((Int × Int × Int × Unit) × Unit) × Unit) :=
  (f80 k a4 a5 a6).bind fun x3 =>
  (f79 k a1 a2 a3 x3.1.1.1 x3.1.1.2.1 x3.1.1.2.2.1).bind fun x4 =>
  some (((x4.1.1.1, x4.1.1.2.1, x4.1.1.2.2.1, ()), ()), ())
def ef66 : Entry := { id := 66, ar := { temps := [(0, .agg [(.int .i64), (.int .i64), (.int .i64)]), (1, .agg [(.int .i64), (.int .i64), (.int .i64)])], blocks := [], ren := [] }, res := { temps := [(0, .agg [(.int .i64), (.int .i64), (.int .i64)])], blocks := [], ren := [] }, f := fun k v => f66 k v.1.1.1 v.1.1.2.1 v.1.1.2.2.1 v.1.2.1.1 v.1.2.1.2.1 v.1.2.1.2.2.1 }
def gf66 (k : Nat) : Full := { tt := tt, n := 9, fns := [ef80, ef79], trunc := [], tails := [], touch := [(1, [(4, [4])])], opens := [], shapes := [], closes := [], k := k, glob := glob, cuts := [], joins := [] }
theorem qf66 (k : Nat) : AllP (bodyL (gf66 k) Tryd.f66) := by
  have h : True = AllP (bodyL (gf66 k) Tryd.f66) := by kernel_rfl
  exact Eq.mp h trivial
theorem sf66 : Sound Tryd.prog glob ef66 := sound_of base (fn := Tryd.f66) Tryd.func66 (by kernel_rfl) gf66 (fun _ => ⟨rfl, rfl⟩) (fun k j => ⟨sf80.at j, sf79.at j, trivial⟩) qf66 (fun k v => by kernel_rfl)

/-! spec.l01Square -/
def f89_j11 {ρ : Type} (k : Nat) (v24 : Int) (v25 : Int) (v26 : Int) (nx : ((((Int × Int × Unit) × Unit) → Option ρ) × Unit)) : Option ρ :=
  nx.1 (((wr .u64 ((wr .u64 (v24 * v24)) + v26)), v25, ()), ())
def cf89_j11 : Cut := { sp := { temps := [(6, .c (.int .u64)), (8, .c (.int .u64)), (9, .c (.int .u64))], blocks := [], ren := [] }, outs := [(.ret, { temps := [(2, .c (.int .u64)), (3, .c (.int .u64))], blocks := [], ren := [] })], F := fun ρ k v nx => f89_j11 k v.1.1 v.1.2.1 v.1.2.2.1 nx }
def f89_j4 {ρ : Type} (k : Nat) (v17 : Int) (nx : ((((Int × Int × Unit) × Unit) → Option ρ) × Unit)) : Option ρ :=
  let x18 : Int := (wr .u64 ((wr .u64 (2 * (iand .u64 v17 4294967295))) * (ishr .u64 v17 32)))
  let x19 : Int := (wr .u64 ((iand .u64 v17 4294967295) * (iand .u64 v17 4294967295)))
  let x20 : Int := (wr .u64 ((iand .u64 v17 4294967295) * (iand .u64 v17 4294967295)))
  let x21 : Bool := (decide ((wr .u64 (x19 + (ishl .u64 x18 32))) < x20))
  bif x21 then
    f89_j11 k (ishr .u64 v17 32) (wr .u64 (x19 + (ishl .u64 x18 32))) (wr .u64 ((ishr .u64 x18 32) + 1))
      (fun x22 : ((Int × Int × Unit) × Unit) =>
        nx.1 ((x22.1.1, x22.1.2.1, ()), ()),
      ())
  else
    f89_j11 k (ishr .u64 v17 32) (wr .u64 (x19 + (ishl .u64 x18 32))) (ishr .u64 x18 32)
      (fun x23 : ((Int × Int × Unit) × Unit) =>
        nx.1 ((x23.1.1, x23.1.2.1, ()), ()),
      ())
def cf89_j4 : Cut := { sp := { temps := [(4, .c (.int .u64))], blocks := [], ren := [] }, outs := [(.ret, { temps := [(2, .c (.int .u64)), (3, .c (.int .u64))], blocks := [], ren := [] })], F := fun ρ k v nx => f89_j4 k v.1.1 nx }
def f89 (k : Nat) (a1 : Int) : Option ((Int × Int × Unit) × Unit) :=
  bif (decide (a1 < 0)) then
    f89_j4 k (wr .u64 (wr .i64 (0 - a1)))
      (fun x15 : ((Int × Int × Unit) × Unit) =>
        some ((x15.1.1, x15.1.2.1, ()), ()),
      ())
  else
    f89_j4 k (wr .u64 a1)
      (fun x16 : ((Int × Int × Unit) × Unit) =>
        some ((x16.1.1, x16.1.2.1, ()), ()),
      ())
def ef89 : Entry := { id := 89, ar := { temps := [(0, .c (.int .i64))], blocks := [], ren := [] }, res := { temps := [(0, .c (.int .u64)), (1, .c (.int .u64))], blocks := [], ren := [] }, f := fun k v => f89 k v.1.1 }
def gf89 (k : Nat) : Full := { tt := tt, n := 46, fns := [], trunc := [], tails := [], touch := [], opens := [], shapes := [], closes := [], k := k, glob := glob, cuts := [], joins := [(11, cf89_j11), (4, cf89_j4)] }
theorem of89_j11 (k : Nat) : JoinOk (gf89 k) cf89_j11 (theJoin Tryd.f89 11) := fun ρ v nx => by kernel_rfl
theorem of89_j4 (k : Nat) : JoinOk (gf89 k) cf89_j4 (theJoin Tryd.f89 4) := fun ρ v nx => by kernel_rfl
theorem qf89 (k : Nat) : AllP (bodyL (gf89 k) Tryd.f89) := by
  have h : (JoinOk (gf89 k) cf89_j11 (theJoin Tryd.f89 11) ∧ JoinOk (gf89 k) cf89_j4 (theJoin Tryd.f89 4) ∧ True) = AllP (bodyL (gf89 k) Tryd.f89) := by kernel_rfl
  exact Eq.mp h (And.intro (of89_j11 k) (And.intro (of89_j4 k) (trivial)))
theorem sf89 : Sound Tryd.prog glob ef89 := sound_of base (fn := Tryd.f89) Tryd.func89 (by kernel_rfl) gf89 (fun _ => ⟨rfl, rfl⟩) (fun k j => trivial) qf89 (fun k v => by kernel_rfl)

/-! spec.l01Less -/
def f78 (k : Nat) (a1 : Int) (a2 : Int) : Option ((Bool × Unit) × Unit) :=
  (f89 k a1).bind fun x5 =>
  (f89 k a2).bind fun x6 =>
  let x7 : Int := (wr .u64 ((wr .u64 (x6.1.1 * 2)) + (ishr .u64 x6.1.2.1 63)))
  bif (decide (x5.1.1 < x7)) then
    some ((true, ()), ())
  else
    bif (x5.1.1 == x7) then
      let x8 : Bool := (decide (x5.1.2.1 < (wr .u64 (x6.1.2.1 * 2))))
      some ((x8, ()), ())
    else
      some ((false, ()), ())
def ef78 : Entry := { id := 78, ar := { temps := [(0, .c (.int .i64)), (1, .c (.int .i64))], blocks := [], ren := [] }, res := { temps := [(0, .c .bool)], blocks := [], ren := [] }, f := fun k v => f78 k v.1.1 v.1.2.1 }
def gf78 (k : Nat) : Full := { tt := tt, n := 39, fns := [ef89], trunc := [], tails := [], touch := [], opens := [], shapes := [], closes := [], k := k, glob := glob, cuts := [], joins := [] }
theorem qf78 (k : Nat) : AllP (bodyL (gf78 k) Tryd.f78) := by
  have h : True = AllP (bodyL (gf78 k) Tryd.f78) := by kernel_rfl
  exact Eq.mp h trivial
theorem sf78 : Sound Tryd.prog glob ef78 := sound_of base (fn := Tryd.f78) Tryd.func78 (by kernel_rfl) gf78 (fun _ => ⟨rfl, rfl⟩) (fun k j => ⟨sf89.at j, trivial⟩) qf78 (fun k v => by kernel_rfl)

/-! spec.l01Sign -/
def f65 (k : Nat) (a1 : Int) (a2 : Int) (a3 : Int) : Option ((Int × Unit) × Unit) :=
  bif (a1 == 0) then
    bif (a2 == 0) then
      some ((0, ()), ())
    else
      bif (decide (a1 ≥ 0)) then
        bif (decide (a2 ≥ 0)) then
          some ((1, ()), ())
        else
          bif (decide (a1 ≤ 0)) then
            bif (decide (a2 ≤ 0)) then
              some (((-1), ()), ())
            else
              (f78 k a1 a2).bind fun x9 =>
              bif (x9.1.1 == (decide (a2 > 0))) then
                some ((1, ()), ())
              else
                some (((-1), ()), ())
          else
            (f78 k a1 a2).bind fun x10 =>
            bif (x10.1.1 == (decide (a2 > 0))) then
              some ((1, ()), ())
            else
              some (((-1), ()), ())
      else
        bif (decide (a1 ≤ 0)) then
          bif (decide (a2 ≤ 0)) then
            some (((-1), ()), ())
          else
            (f78 k a1 a2).bind fun x11 =>
            bif (x11.1.1 == (decide (a2 > 0))) then
              some ((1, ()), ())
            else
              some (((-1), ()), ())
        else
          (f78 k a1 a2).bind fun x12 =>
          bif (x12.1.1 == (decide (a2 > 0))) then
            some ((1, ()), ())
          else
            some (((-1), ()), ())
  else
    bif (decide (a1 ≥ 0)) then
      bif (decide (a2 ≥ 0)) then
        some ((1, ()), ())
      else
        bif (decide (a1 ≤ 0)) then
          bif (decide (a2 ≤ 0)) then
            some (((-1), ()), ())
          else
            (f78 k a1 a2).bind fun x13 =>
            bif (x13.1.1 == (decide (a2 > 0))) then
              some ((1, ()), ())
            else
              some (((-1), ()), ())
        else
          (f78 k a1 a2).bind fun x14 =>
          bif (x14.1.1 == (decide (a2 > 0))) then
            some ((1, ()), ())
          else
            some (((-1), ()), ())
    else
      bif (decide (a1 ≤ 0)) then
        bif (decide (a2 ≤ 0)) then
          some (((-1), ()), ())
        else
          (f78 k a1 a2).bind fun x15 =>
          bif (x15.1.1 == (decide (a2 > 0))) then
            some ((1, ()), ())
          else
            some (((-1), ()), ())
      else
        (f78 k a1 a2).bind fun x16 =>
        bif (x16.1.1 == (decide (a2 > 0))) then
          some ((1, ()), ())
        else
          some (((-1), ()), ())
def ef65 : Entry := { id := 65, ar := { temps := [(0, .agg [(.int .i64), (.int .i64), (.int .i64)])], blocks := [], ren := [] }, res := { temps := [(0, .c (.int .i64))], blocks := [], ren := [] }, f := fun k v => f65 k v.1.1.1 v.1.1.2.1 v.1.1.2.2.1 }
def gf65 (k : Nat) : Full := { tt := tt, n := 40, fns := [ef78], trunc := [], tails := [], touch := [], opens := [], shapes := [], closes := [], k := k, glob := glob, cuts := [], joins := [] }
theorem qf65 (k : Nat) : AllP (bodyL (gf65 k) Tryd.f65) := by
  have h : True = AllP (bodyL (gf65 k) Tryd.f65) := by kernel_rfl
  exact Eq.mp h trivial
theorem sf65 : Sound Tryd.prog glob ef65 := sound_of base (fn := Tryd.f65) Tryd.func65 (by kernel_rfl) gf65 (fun _ => ⟨rfl, rfl⟩) (fun k j => ⟨sf78.at j, trivial⟩) qf65 (fun k v => by kernel_rfl)

/-! spec.l01Compare -/
def f54 (k : Nat) (a1 : Int) (a2 : Int) (a3 : Int) (a4 : Int) (a5 : Int) (a6 : Int) : Option ((Int × Unit) × Unit) :=
  (f67 k a1 a2 a3).bind fun x5 =>
  (f67 k a4 a5 a6).bind fun x6 =>
  (f66 k x5.1.1.1 x5.1.1.2.1 x5.1.1.2.2.1 x6.1.1.1 x6.1.1.2.1 x6.1.1.2.2.1).bind fun x7 =>
  (f65 k x7.1.1.1 x7.1.1.2.1 x7.1.1.2.2.1).bind fun x8 =>
  some ((x8.1.1, ()), ())
def ef54 : Entry := { id := 54, ar := { temps := [(0, .agg [(.int .i64), (.int .i64), (.int .i64)]), (1, .agg [(.int .i64), (.int .i64), (.int .i64)])], blocks := [], ren := [] }, res := { temps := [(0, .c (.int .i64))], blocks := [], ren := [] }, f := fun k v => f54 k v.1.1.1 v.1.1.2.1 v.1.1.2.2.1 v.1.2.1.1 v.1.2.1.2.1 v.1.2.1.2.2.1 }
def gf54 (k : Nat) : Full := { tt := tt, n := 11, fns := [ef67, ef66, ef65], trunc := [], tails := [], touch := [], opens := [], shapes := [], closes := [], k := k, glob := glob, cuts := [], joins := [] }
theorem qf54 (k : Nat) : AllP (bodyL (gf54 k) Tryd.f54) := by
  have h : True = AllP (bodyL (gf54 k) Tryd.f54) := by kernel_rfl
  exact Eq.mp h trivial
theorem sf54 : Sound Tryd.prog glob ef54 := sound_of base (fn := Tryd.f54) Tryd.func54 (by kernel_rfl) gf54 (fun _ => ⟨rfl, rfl⟩) (fun k j => ⟨sf67.at j, sf66.at j, sf65.at j, trivial⟩) qf54 (fun k v => by kernel_rfl)

/-! spec.l02Before -/
def f41 (k : Nat) (a1 : Int) (a2 : Int) (a3 : Int) (a4 : Int) (a5 : Int) (a6 : Int) (a7 : Int) (a8 : Int) (a9 : Int) (a10 : Int) (a11 : Int) (a12 : Int) : Option ((Int × Unit) × Unit) :=
  (f54 k a1 a2 a3 a7 a8 a9).bind fun x3 =>
  bif (x3.1.1 != 0) then
    some ((x3.1.1, ()), ())
  else
    (f54 k a4 a5 a6 a10 a11 a12).bind fun x4 =>
    some ((x4.1.1, ()), ())
def ef41 : Entry := { id := 41, ar := { temps := [(0, .agg [(.int .i64), (.int .i64), (.int .i64), (.int .i64), (.int .i64), (.int .i64)]), (1, .agg [(.int .i64), (.int .i64), (.int .i64), (.int .i64), (.int .i64), (.int .i64)])], blocks := [], ren := [] }, res := { temps := [(0, .c (.int .i64))], blocks := [], ren := [] }, f := fun k v => f41 k v.1.1.1 v.1.1.2.1 v.1.1.2.2.1 v.1.1.2.2.2.1 v.1.1.2.2.2.2.1 v.1.1.2.2.2.2.2.1 v.1.2.1.1 v.1.2.1.2.1 v.1.2.1.2.2.1 v.1.2.1.2.2.2.1 v.1.2.1.2.2.2.2.1 v.1.2.1.2.2.2.2.2.1 }
def gf41 (k : Nat) : Full := { tt := tt, n := 19, fns := [ef54], trunc := [], tails := [], touch := [], opens := [], shapes := [], closes := [], k := k, glob := glob, cuts := [], joins := [] }
theorem qf41 (k : Nat) : AllP (bodyL (gf41 k) Tryd.f41) := by
  have h : True = AllP (bodyL (gf41 k) Tryd.f41) := by kernel_rfl
  exact Eq.mp h trivial
theorem sf41 : Sound Tryd.prog glob ef41 := sound_of base (fn := Tryd.f41) Tryd.func41 (by kernel_rfl) gf41 (fun _ => ⟨rfl, rfl⟩) (fun k j => ⟨sf54.at j, trivial⟩) qf41 (fun k v => by kernel_rfl)

/-! spec.l02Of -/
def f57 (k : Nat) (a1 : Int) (a2 : Int) (a3 : Int) (a4 : Int) (a5 : Int) (a6 : Int) : Option (((Int × Int × Int × Int × Int × Int × Unit) × Unit) × Unit) :=
  (f67 k a1 a2 a3).bind fun x3 =>
  (f67 k a4 a5 a6).bind fun x4 =>
  some (((x3.1.1.1, x3.1.1.2.1, x3.1.1.2.2.1, x4.1.1.1, x4.1.1.2.1, x4.1.1.2.2.1, ()), ()), ())
def ef57 : Entry := { id := 57, ar := { temps := [(0, .agg [(.int .i64), (.int .i64), (.int .i64), (.int .i64), (.int .i64), (.int .i64)])], blocks := [], ren := [] }, res := { temps := [(0, .agg [(.int .i64), (.int .i64), (.int .i64), (.int .i64), (.int .i64), (.int .i64)])], blocks := [], ren := [] }, f := fun k v => f57 k v.1.1.1 v.1.1.2.1 v.1.1.2.2.1 v.1.1.2.2.2.1 v.1.1.2.2.2.2.1 v.1.1.2.2.2.2.2.1 }
def gf57 (k : Nat) : Full := { tt := tt, n := 10, fns := [ef67], trunc := [], tails := [], touch := [(1, [(7, [2])])], opens := [], shapes := [], closes := [], k := k, glob := glob, cuts := [], joins := [] }
theorem qf57 (k : Nat) : AllP (bodyL (gf57 k) Tryd.f57) := by
  have h : True = AllP (bodyL (gf57 k) Tryd.f57) := by kernel_rfl
  exact Eq.mp h trivial
theorem sf57 : Sound Tryd.prog glob ef57 := sound_of base (fn := Tryd.f57) Tryd.func57 (by kernel_rfl) gf57 (fun _ => ⟨rfl, rfl⟩) (fun k j => ⟨sf67.at j, trivial⟩) qf57 (fun k v => by kernel_rfl)

/-! spec.l03Wide -/
def f43_l3 {ρ : Type} (k : Nat) : Nat → (List ((Int × (Int × Int)) × (Int × (Int × Int)))) → Int → (List ((Int × (Int × Int)) × (Int × (Int × Int)))) → ((((Unit × Unit) × ((List ((Int × (Int × Int)) × (Int × (Int × Int)))) × Unit)) → Option ρ) × Unit) → Option ρ
  | 0, _, _, _, _ => none
  | j + 1, v9, v10, v11, nx =>
    bif (decide (v10 < (v9.length : Int))) then
      (getI v9 v10).bind fun x12 =>
      (f57 k x12.1.1 x12.1.2.1 x12.1.2.2 x12.2.1 x12.2.2.1 x12.2.2.2).bind fun x13 =>
      bif decide ((v11.length + [((x13.1.1.1, (x13.1.1.2.1, x13.1.1.2.2.1)), (x13.1.1.2.2.2.1, (x13.1.1.2.2.2.2.1, x13.1.1.2.2.2.2.2.1)))].length) * 48 ≤ roomy) then
        let x14 : (List ((Int × (Int × Int)) × (Int × (Int × Int)))) := (v11 ++ [((x13.1.1.1, (x13.1.1.2.1, x13.1.1.2.2.1)), (x13.1.1.2.2.2.1, (x13.1.1.2.2.2.2.1, x13.1.1.2.2.2.2.2.1)))])
        f43_l3 k j v9 (wr .i64 (v10 + 1)) x14 nx
      else
        none
    else
      nx.1 (((), ()), (v11, ()))
def cf43_l3 (k : Nat) : Cut := { sp := { temps := [(0, .c (.sl (.pair (.pair (.int .i64) (.pair (.int .i64) (.int .i64))) (.pair (.int .i64) (.pair (.int .i64) (.int .i64)))))), (3, .c (.row 5000000)), (4, .c (.int .i64))], blocks := [(5000000, .row 92 (.pair (.pair (.int .i64) (.pair (.int .i64) (.int .i64))) (.pair (.int .i64) (.pair (.int .i64) (.int .i64)))))], ren := [] }, outs := [(.exit 0, { temps := [(3, .c (.row 5000000))], blocks := [(5000000, .row 92 (.pair (.pair (.int .i64) (.pair (.int .i64) (.int .i64))) (.pair (.int .i64) (.pair (.int .i64) (.int .i64)))))], ren := [] })], F := fun ρ j v nx => f43_l3 k j v.1.1 v.1.2.2.1 v.2.1 nx }
def f43 (k : Nat) (a1 : (List ((Int × (Int × Int)) × (Int × (Int × Int))))) : Option ((Unit × Unit) × ((List ((Int × (Int × Int)) × (Int × (Int × Int)))) × Unit)) :=
  f43_l3 k k a1 0 ([] : List ((Int × (Int × Int)) × (Int × (Int × Int))))
    (fun x8 : ((Unit × Unit) × ((List ((Int × (Int × Int)) × (Int × (Int × Int)))) × Unit)) =>
      some (((), ()), (x8.2.1, ())),
    ())
def ef43 : Entry := { id := 43, ar := { temps := [(0, .c (.sl (.pair (.pair (.int .i64) (.pair (.int .i64) (.int .i64))) (.pair (.int .i64) (.pair (.int .i64) (.int .i64))))))], blocks := [], ren := [] }, res := { temps := [(0, .c (.row 4000000))], blocks := [(4000000, .row 92 (.pair (.pair (.int .i64) (.pair (.int .i64) (.int .i64))) (.pair (.int .i64) (.pair (.int .i64) (.int .i64)))))], ren := [] }, f := fun k v => f43 k v.1.1 }
def gf43 (k : Nat) : Full := { tt := tt, n := 21, fns := [ef57], trunc := [], tails := [], touch := [], opens := [], shapes := [], closes := [], k := k, glob := glob, cuts := [(3, (cf43_l3 k))], joins := [] }
theorem of43_l3 (k : Nat) : CutOk (gf43 k) (cf43_l3 k) (theLoop Tryd.f43 3) := fun ρ v nx => ⟨by kernel_rfl, fun j => by kernel_rfl⟩
theorem qf43 (k : Nat) : AllP (bodyL (gf43 k) Tryd.f43) := by
  have h : (CutOk (gf43 k) (cf43_l3 k) (theLoop Tryd.f43 3) ∧ True) = AllP (bodyL (gf43 k) Tryd.f43) := by kernel_rfl
  exact Eq.mp h (And.intro (of43_l3 k) (trivial))
theorem sf43 : Sound Tryd.prog glob ef43 := sound_of base (fn := Tryd.f43) Tryd.func43 (by kernel_rfl) gf43 (fun _ => ⟨rfl, rfl⟩) (fun k j => ⟨sf57.at j, trivial⟩) qf43 (fun k v => by kernel_rfl)

/-! spec.l02Minus -/
def f56 (k : Nat) (a1 : Int) (a2 : Int) (a3 : Int) (a4 : Int) (a5 : Int) (a6 : Int) (a7 : Int) (a8 : Int) (a9 : Int) (a10 : Int) (a11 : Int) (a12 : Int) : Option (((Int × Int × Int × Int × Int × Int × Unit) × Unit) × Unit) :=
  (f66 k a1 a2 a3 a7 a8 a9).bind fun x3 =>
  (f66 k a4 a5 a6 a10 a11 a12).bind fun x4 =>
  some (((x3.1.1.1, x3.1.1.2.1, x3.1.1.2.2.1, x4.1.1.1, x4.1.1.2.1, x4.1.1.2.2.1, ()), ()), ())
def ef56 : Entry := { id := 56, ar := { temps := [(0, .agg [(.int .i64), (.int .i64), (.int .i64), (.int .i64), (.int .i64), (.int .i64)]), (1, .agg [(.int .i64), (.int .i64), (.int .i64), (.int .i64), (.int .i64), (.int .i64)])], blocks := [], ren := [] }, res := { temps := [(0, .agg [(.int .i64), (.int .i64), (.int .i64), (.int .i64), (.int .i64), (.int .i64)])], blocks := [], ren := [] }, f := fun k v => f56 k v.1.1.1 v.1.1.2.1 v.1.1.2.2.1 v.1.1.2.2.2.1 v.1.1.2.2.2.2.1 v.1.1.2.2.2.2.2.1 v.1.2.1.1 v.1.2.1.2.1 v.1.2.1.2.2.1 v.1.2.1.2.2.2.1 v.1.2.1.2.2.2.2.1 v.1.2.1.2.2.2.2.2.1 }
def gf56 (k : Nat) : Full := { tt := tt, n := 16, fns := [ef66], trunc := [], tails := [], touch := [(1, [(11, [4])])], opens := [], shapes := [], closes := [], k := k, glob := glob, cuts := [], joins := [] }
theorem qf56 (k : Nat) : AllP (bodyL (gf56 k) Tryd.f56) := by
  have h : True = AllP (bodyL (gf56 k) Tryd.f56) := by kernel_rfl
  exact Eq.mp h trivial
theorem sf56 : Sound Tryd.prog glob ef56 := sound_of base (fn := Tryd.f56) Tryd.func56 (by kernel_rfl) gf56 (fun _ => ⟨rfl, rfl⟩) (fun k j => ⟨sf66.at j, trivial⟩) qf56 (fun k v => by kernel_rfl)

/-! spec.l02Mod -/
def f44 (k : Nat) (a1 : Int) : Option ((Int × Unit) × Unit) :=
  some ((((wr .i64 ((a1.tmod 16) + 16)).tmod 16), ()), ())
def ef44 : Entry := { id := 44, ar := { temps := [(0, .c (.int .i64))], blocks := [], ren := [] }, res := { temps := [(0, .c (.int .i64))], blocks := [], ren := [] }, f := fun k v => f44 k v.1.1 }
def gf44 (k : Nat) : Full := { tt := tt, n := 7, fns := [], trunc := [], tails := [], touch := [], opens := [], shapes := [], closes := [], k := k, glob := glob, cuts := [], joins := [] }
theorem qf44 (k : Nat) : AllP (bodyL (gf44 k) Tryd.f44) := by
  have h : True = AllP (bodyL (gf44 k) Tryd.f44) := by kernel_rfl
  exact Eq.mp h trivial
theorem sf44 : Sound Tryd.prog glob ef44 := sound_of base (fn := Tryd.f44) Tryd.func44 (by kernel_rfl) gf44 (fun _ => ⟨rfl, rfl⟩) (fun k j => trivial) qf44 (fun k v => by kernel_rfl)

/-! spec.l02Vec -/
def f81 (k : Nat) (a1 : Int) : Option (((Int × Int × Int × Int × Int × Int × Unit) × Unit) × Unit) :=
  (f44 k a1).bind fun x3 =>
  bif decide (0 ≤ (x3.1.1.tmod 8)) && decide ((x3.1.1.tmod 8) < ([((1, (0, 0)), (0, (0, 0))), ((1, (0, 0)), ((-1), (1, 0))), ((1, (0, 0)), (1, (0, 0))), (((-1), (1, 0)), (1, (0, 0))), ((0, (0, 0)), (1, (0, 0))), ((1, ((-1), 0)), (1, (0, 0))), (((-1), (0, 0)), (1, (0, 0))), (((-1), (0, 0)), ((-1), (1, 0)))].length : Int)) then
    ([((1, (0, 0)), (0, (0, 0))), ((1, (0, 0)), ((-1), (1, 0))), ((1, (0, 0)), (1, (0, 0))), (((-1), (1, 0)), (1, (0, 0))), ((0, (0, 0)), (1, (0, 0))), ((1, ((-1), 0)), (1, (0, 0))), (((-1), (0, 0)), (1, (0, 0))), (((-1), (0, 0)), ((-1), (1, 0)))][(x3.1.1.tmod 8).toNat]?).bind fun x4 =>
    bif (decide (x3.1.1 ≥ 8)) then
      some ((((wr .i64 (0 - x4.1.1)), (wr .i64 (0 - x4.1.2.1)), 0, (wr .i64 (0 - x4.2.1)), (wr .i64 (0 - x4.2.2.1)), 0, ()), ()), ())
    else
      some (((x4.1.1, x4.1.2.1, x4.1.2.2, x4.2.1, x4.2.2.1, x4.2.2.2, ()), ()), ())
  else
    none
def ef81 : Entry := { id := 81, ar := { temps := [(0, .c (.int .i64))], blocks := [], ren := [] }, res := { temps := [(0, .agg [(.int .i64), (.int .i64), (.int .i64), (.int .i64), (.int .i64), (.int .i64)])], blocks := [], ren := [] }, f := fun k v => f81 k v.1.1 }
def gf81 (k : Nat) : Full := { tt := tt, n := 57, fns := [ef44], trunc := [], tails := [], touch := [], opens := [], shapes := [], closes := [], k := k, glob := glob, cuts := [], joins := [] }
theorem qf81 (k : Nat) : AllP (bodyL (gf81 k) Tryd.f81) := by
  have h : True = AllP (bodyL (gf81 k) Tryd.f81) := by kernel_rfl
  exact Eq.mp h trivial
theorem sf81 : Sound Tryd.prog glob ef81 := sound_of base (fn := Tryd.f81) Tryd.func81 (by kernel_rfl) gf81 (fun _ => ⟨rfl, rfl⟩) (fun k j => ⟨sf44.at j, trivial⟩) qf81 (fun k v => by kernel_rfl)

/-! spec.l01Mul -/
def f82 (k : Nat) (a1 : Int) (a2 : Int) (a3 : Int) (a4 : Int) (a5 : Int) (a6 : Int) : Option (((Int × Int × Int × Unit) × Unit) × Unit) :=
  let x4 : Int := (wr .i64 ((wr .i64 (a1 * a4)) + (wr .i64 ((wr .i64 (2 * a2)) * a5))))
  let x5 : Int := (wr .i64 ((wr .i64 (a1 * a5)) + (wr .i64 (a2 * a4))))
  (f90 k x4 x5 (wr .i64 (a3 + a6))).bind fun x6 =>
  some (((x6.1.1.1, x6.1.1.2.1, x6.1.1.2.2.1, ()), ()), ())
def ef82 : Entry := { id := 82, ar := { temps := [(0, .agg [(.int .i64), (.int .i64), (.int .i64)]), (1, .agg [(.int .i64), (.int .i64), (.int .i64)])], blocks := [], ren := [] }, res := { temps := [(0, .agg [(.int .i64), (.int .i64), (.int .i64)])], blocks := [], ren := [] }, f := fun k v => f82 k v.1.1.1 v.1.1.2.1 v.1.1.2.2.1 v.1.2.1.1 v.1.2.1.2.1 v.1.2.1.2.2.1 }
def gf82 (k : Nat) : Full := { tt := tt, n := 35, fns := [ef90], trunc := [], tails := [], touch := [], opens := [], shapes := [], closes := [], k := k, glob := glob, cuts := [], joins := [] }
theorem qf82 (k : Nat) : AllP (bodyL (gf82 k) Tryd.f82) := by
  have h : True = AllP (bodyL (gf82 k) Tryd.f82) := by kernel_rfl
  exact Eq.mp h trivial
theorem sf82 : Sound Tryd.prog glob ef82 := sound_of base (fn := Tryd.f82) Tryd.func82 (by kernel_rfl) gf82 (fun _ => ⟨rfl, rfl⟩) (fun k j => ⟨sf90.at j, trivial⟩) qf82 (fun k v => by kernel_rfl)

/-! spec.l02Dot -/
def f69 (k : Nat) (a1 : Int) (a2 : Int) (a3 : Int) (a4 : Int) (a5 : Int) (a6 : Int) (a7 : Int) : Option (((Int × Int × Int × Unit) × Unit) × Unit) :=
  (f81 k a1).bind fun x6 =>
  (f57 k x6.1.1.1 x6.1.1.2.1 x6.1.1.2.2.1 x6.1.1.2.2.2.1 x6.1.1.2.2.2.2.1 x6.1.1.2.2.2.2.2.1).bind fun x7 =>
  (f82 k x7.1.1.1 x7.1.1.2.1 x7.1.1.2.2.1 a2 a3 a4).bind fun x8 =>
  (f82 k x7.1.1.2.2.2.1 x7.1.1.2.2.2.2.1 x7.1.1.2.2.2.2.2.1 a5 a6 a7).bind fun x9 =>
  (f79 k x8.1.1.1 x8.1.1.2.1 x8.1.1.2.2.1 x9.1.1.1 x9.1.1.2.1 x9.1.1.2.2.1).bind fun x10 =>
  some (((x10.1.1.1, x10.1.1.2.1, x10.1.1.2.2.1, ()), ()), ())
def ef69 : Entry := { id := 69, ar := { temps := [(0, .c (.int .i64)), (1, .agg [(.int .i64), (.int .i64), (.int .i64), (.int .i64), (.int .i64), (.int .i64)])], blocks := [], ren := [] }, res := { temps := [(0, .agg [(.int .i64), (.int .i64), (.int .i64)])], blocks := [], ren := [] }, f := fun k v => f69 k v.1.1 v.1.2.1.1 v.1.2.1.2.1 v.1.2.1.2.2.1 v.1.2.1.2.2.2.1 v.1.2.1.2.2.2.2.1 v.1.2.1.2.2.2.2.2.1 }
def gf69 (k : Nat) : Full := { tt := tt, n := 20, fns := [ef81, ef57, ef82, ef79], trunc := [], tails := [], touch := [(2, [(11, [4])])], opens := [], shapes := [], closes := [], k := k, glob := glob, cuts := [], joins := [] }
theorem qf69 (k : Nat) : AllP (bodyL (gf69 k) Tryd.f69) := by
  have h : True = AllP (bodyL (gf69 k) Tryd.f69) := by kernel_rfl
  exact Eq.mp h trivial
theorem sf69 : Sound Tryd.prog glob ef69 := sound_of base (fn := Tryd.f69) Tryd.func69 (by kernel_rfl) gf69 (fun _ => ⟨rfl, rfl⟩) (fun k j => ⟨sf81.at j, sf57.at j, sf82.at j, sf79.at j, trivial⟩) qf69 (fun k v => by kernel_rfl)

/-! spec.l02Zero -/
def f68 (k : Nat) (a1 : Int) (a2 : Int) (a3 : Int) : Option ((Bool × Unit) × Unit) :=
  bif (a1 == 0) then
    some (((a2 == 0), ()), ())
  else
    some ((false, ()), ())
def ef68 : Entry := { id := 68, ar := { temps := [(0, .agg [(.int .i64), (.int .i64), (.int .i64)])], blocks := [], ren := [] }, res := { temps := [(0, .c .bool)], blocks := [], ren := [] }, f := fun k v => f68 k v.1.1.1 v.1.1.2.1 v.1.1.2.2.1 }
def gf68 (k : Nat) : Full := { tt := tt, n := 11, fns := [], trunc := [], tails := [], touch := [], opens := [], shapes := [], closes := [], k := k, glob := glob, cuts := [], joins := [] }
theorem qf68 (k : Nat) : AllP (bodyL (gf68 k) Tryd.f68) := by
  have h : True = AllP (bodyL (gf68 k) Tryd.f68) := by kernel_rfl
  exact Eq.mp h trivial
theorem sf68 : Sound Tryd.prog glob ef68 := sound_of base (fn := Tryd.f68) Tryd.func68 (by kernel_rfl) gf68 (fun _ => ⟨rfl, rfl⟩) (fun k j => trivial) qf68 (fun k v => by kernel_rfl)

/-! spec.l02Direction -/
def f55_l2 {ρ : Type} (k : Nat) : Nat → Int → Int → Int → Int → Int → Int → Int → (((Unit × Unit) → Option ρ) × (((Int × Unit) × Unit) → Option ρ) × Unit) → Option ρ
  | 0, _, _, _, _, _, _, _, _ => none
  | j + 1, v16, v17, v18, v19, v20, v21, v22, nx =>
    bif (decide (v16 < 16)) then
      (f69 k (wr .i64 (v16 + 4)) v17 v18 v19 v20 v21 v22).bind fun x23 =>
      (f68 k x23.1.1.1 x23.1.1.2.1 x23.1.1.2.2.1).bind fun x24 =>
      bif x24.1.1 then
        (f69 k v16 v17 v18 v19 v20 v21 v22).bind fun x25 =>
        (f65 k x25.1.1.1 x25.1.1.2.1 x25.1.1.2.2.1).bind fun x26 =>
        bif (decide (x26.1.1 > 0)) then
          nx.2.1 ((v16, ()), ())
        else
          f55_l2 k j (wr .i64 (v16 + 1)) v17 v18 v19 v20 v21 v22 nx
      else
        f55_l2 k j (wr .i64 (v16 + 1)) v17 v18 v19 v20 v21 v22 nx
    else
      nx.1 ((), ())
def cf55_l2 (k : Nat) : Cut := { sp := { temps := [(1, .c (.box 5000000)), (3, .c (.int .i64))], blocks := [(5000000, .box 92 [(.int .i64), (.int .i64), (.int .i64), (.int .i64), (.int .i64), (.int .i64)])], ren := [] }, outs := [(.exit 0, { temps := [], blocks := [], ren := [] }), (.ret, { temps := [(2, .c (.int .i64))], blocks := [], ren := [] })], F := fun ρ j v nx => f55_l2 k j v.1.2.1 v.2.1.1 v.2.1.2.1 v.2.1.2.2.1 v.2.1.2.2.2.1 v.2.1.2.2.2.2.1 v.2.1.2.2.2.2.2.1 nx }
def f55 (k : Nat) (a1 : Int) (a2 : Int) (a3 : Int) (a4 : Int) (a5 : Int) (a6 : Int) : Option ((Int × Unit) × Unit) :=
  f55_l2 k k 0 a1 a2 a3 a4 a5 a6
    (fun x14 : (Unit × Unit) =>
      some (((-1), ()), ()),
    fun x15 : ((Int × Unit) × Unit) =>
      some ((x15.1.1, ()), ()),
    ())
def ef55 : Entry := { id := 55, ar := { temps := [(0, .agg [(.int .i64), (.int .i64), (.int .i64), (.int .i64), (.int .i64), (.int .i64)])], blocks := [], ren := [] }, res := { temps := [(0, .c (.int .i64))], blocks := [], ren := [] }, f := fun k v => f55 k v.1.1.1 v.1.1.2.1 v.1.1.2.2.1 v.1.1.2.2.2.1 v.1.1.2.2.2.2.1 v.1.1.2.2.2.2.2.1 }
def gf55 (k : Nat) : Full := { tt := tt, n := 21, fns := [ef69, ef68, ef65], trunc := [], tails := [], touch := [], opens := [], shapes := [], closes := [], k := k, glob := glob, cuts := [(2, (cf55_l2 k))], joins := [] }
theorem of55_l2 (k : Nat) : CutOk (gf55 k) (cf55_l2 k) (theLoop Tryd.f55 2) := fun ρ v nx => ⟨by kernel_rfl, fun j => by kernel_rfl⟩
theorem qf55 (k : Nat) : AllP (bodyL (gf55 k) Tryd.f55) := by
  have h : (CutOk (gf55 k) (cf55_l2 k) (theLoop Tryd.f55 2) ∧ True) = AllP (bodyL (gf55 k) Tryd.f55) := by kernel_rfl
  exact Eq.mp h (And.intro (of55_l2 k) (trivial))
theorem sf55 : Sound Tryd.prog glob ef55 := sound_of base (fn := Tryd.f55) Tryd.func55 (by kernel_rfl) gf55 (fun _ => ⟨rfl, rfl⟩) (fun k j => ⟨sf69.at j, sf68.at j, sf65.at j, trivial⟩) qf55 (fun k v => by kernel_rfl)

/-! spec.l03Sides -/
def f42_l3 {ρ : Type} (k : Nat) : Nat → (List ((Int × (Int × Int)) × (Int × (Int × Int)))) → Int → (List Int) → ((((Unit × Unit) × ((List Int) × Unit)) → Option ρ) × (((Unit × Bool × Unit) × Unit) → Option ρ) × Unit) → Option ρ
  | 0, _, _, _, _ => none
  | j + 1, v12, v13, v14, nx =>
    bif (decide (v13 < (v12.length : Int))) then
      bif decide ((v12.length : Int) = 0) then
        none
      else
        let x15 : Int := ((wr .i64 (v13 + 1)).tmod (v12.length : Int))
        (getI v12 x15).bind fun x16 =>
        (getI v12 v13).bind fun x17 =>
        (f56 k x16.1.1 x16.1.2.1 x16.1.2.2 x16.2.1 x16.2.2.1 x16.2.2.2 x17.1.1 x17.1.2.1 x17.1.2.2 x17.2.1 x17.2.2.1 x17.2.2.2).bind fun x18 =>
        (f55 k x18.1.1.1 x18.1.1.2.1 x18.1.1.2.2.1 x18.1.1.2.2.2.1 x18.1.1.2.2.2.2.1 x18.1.1.2.2.2.2.2.1).bind fun x19 =>
        bif (decide (x19.1.1 < 0)) then
          nx.2.1 (((), false, ()), ())
        else
          bif decide ((v14.length + [x19.1.1].length) * 8 ≤ roomy) then
            f42_l3 k j v12 (wr .i64 (v13 + 1)) (v14 ++ [x19.1.1]) nx
          else
            none
    else
      nx.1 (((), ()), (v14, ()))
def cf42_l3 (k : Nat) : Cut := { sp := { temps := [(0, .c (.sl (.pair (.pair (.int .i64) (.pair (.int .i64) (.int .i64))) (.pair (.int .i64) (.pair (.int .i64) (.int .i64)))))), (4, .c (.row 5000000)), (5, .c (.int .i64))], blocks := [(5000000, .row 2 (.int .i64))], ren := [] }, outs := [(.exit 0, { temps := [(4, .c (.row 5000000))], blocks := [(5000000, .row 2 (.int .i64))], ren := [] }), (.ret, { temps := [(2, .c (.lit .nils)), (3, .c .bool)], blocks := [], ren := [] })], F := fun ρ j v nx => f42_l3 k j v.1.1 v.1.2.2.1 v.2.1 nx }
def f42 (k : Nat) (a1 : (List ((Int × (Int × Int)) × (Int × (Int × Int))))) : Option ((Unit × Bool × Unit) × ((List Int) × Unit)) :=
  f42_l3 k k a1 0 ([] : List Int)
    (fun x10 : ((Unit × Unit) × ((List Int) × Unit)) =>
      some (((), true, ()), (x10.2.1, ())),
    fun x11 : ((Unit × Bool × Unit) × Unit) =>
      some (((), x11.1.2.1, ()), (([] : List Int), ())),
    ())
def ef42 : Entry := { id := 42, ar := { temps := [(0, .c (.sl (.pair (.pair (.int .i64) (.pair (.int .i64) (.int .i64))) (.pair (.int .i64) (.pair (.int .i64) (.int .i64))))))], blocks := [], ren := [] }, res := { temps := [(0, .c (.row 4000000)), (1, .c .bool)], blocks := [(4000000, .row 2 (.int .i64))], ren := [] }, f := fun k v => f42 k v.1.1 }
def gf42 (k : Nat) : Full := { tt := tt, n := 35, fns := [ef56, ef55], trunc := [], tails := [], touch := [], opens := [], shapes := [], closes := [], k := k, glob := glob, cuts := [(3, (cf42_l3 k))], joins := [] }
theorem of42_l3 (k : Nat) : CutOk (gf42 k) (cf42_l3 k) (theLoop Tryd.f42 3) := fun ρ v nx => ⟨by kernel_rfl, fun j => by kernel_rfl⟩
theorem qf42 (k : Nat) : AllP (bodyL (gf42 k) Tryd.f42) := by
  have h : (CutOk (gf42 k) (cf42_l3 k) (theLoop Tryd.f42 3) ∧ True) = AllP (bodyL (gf42 k) Tryd.f42) := by kernel_rfl
  exact Eq.mp h (And.intro (of42_l3 k) (trivial))
theorem sf42 : Sound Tryd.prog glob ef42 := sound_of base (fn := Tryd.f42) Tryd.func42 (by kernel_rfl) gf42 (fun _ => ⟨rfl, rfl⟩) (fun k j => ⟨sf56.at j, sf55.at j, trivial⟩) qf42 (fun k v => by kernel_rfl)

/-! spec.l03Ok -/
def f32_l5 {ρ : Type} (k : Nat) : Nat → (List ((Int × (Int × Int)) × (Int × (Int × Int)))) → Int → Int → (((((List ((Int × (Int × Int)) × (Int × (Int × Int)))) × Int × Unit) × Unit) → Option ρ) × (((Bool × Unit) × Unit) → Option ρ) × Unit) → Option ρ
  | 0, _, _, _, _ => none
  | j + 1, v33, v34, v35, nx =>
    bif (decide (v35 < v34)) then
      (getI v33 v35).bind fun x36 =>
      (f40 k x36.1.1 x36.1.2.1 x36.1.2.2 x36.2.1 x36.2.2.1 x36.2.2.2).bind fun x37 =>
      bif (!x37.1.1) then
        nx.2.1 ((false, ()), ())
      else
        bif (decide (v35 > 0)) then
          (getI v33 0).bind fun x38 =>
          (getI v33 v35).bind fun x39 =>
          (f41 k x38.1.1 x38.1.2.1 x38.1.2.2 x38.2.1 x38.2.2.1 x38.2.2.2 x39.1.1 x39.1.2.1 x39.1.2.2 x39.2.1 x39.2.2.1 x39.2.2.2).bind fun x40 =>
          bif (decide (x40.1.1 ≥ 0)) then
            nx.2.1 ((false, ()), ())
          else
            f32_l5 k j v33 v34 (wr .i64 (v35 + 1)) nx
        else
          f32_l5 k j v33 v34 (wr .i64 (v35 + 1)) nx
    else
      nx.1 ((v33, v34, ()), ())
def cf32_l5 (k : Nat) : Cut := { sp := { temps := [(0, .c (.sl (.pair (.pair (.int .i64) (.pair (.int .i64) (.int .i64))) (.pair (.int .i64) (.pair (.int .i64) (.int .i64)))))), (3, .c (.int .i64)), (4, .c (.int .i64))], blocks := [], ren := [] }, outs := [(.exit 0, { temps := [(0, .c (.sl (.pair (.pair (.int .i64) (.pair (.int .i64) (.int .i64))) (.pair (.int .i64) (.pair (.int .i64) (.int .i64)))))), (3, .c (.int .i64))], blocks := [], ren := [] }), (.ret, { temps := [(2, .c .bool)], blocks := [], ren := [] })], F := fun ρ j v nx => f32_l5 k j v.1.1 v.1.2.1 v.1.2.2.1 nx }
def f32_l14 {ρ : Type} (k : Nat) : Nat → Int → Int → Int → (List Int) → ((((Int × Unit) × Unit) → Option ρ) × (((Bool × Unit) × Unit) → Option ρ) × Unit) → Option ρ
  | 0, _, _, _, _, _ => none
  | j + 1, v41, v42, v43, v44, nx =>
    bif (decide (v43 < v41)) then
      bif decide (v41 = 0) then
        none
      else
        bif decide (0 ≤ ((wr .i64 (v43 + 1)).tmod v41)) && decide (((wr .i64 (v43 + 1)).tmod v41) < (v44.length : Int)) then
          (v44[((wr .i64 (v43 + 1)).tmod v41).toNat]?).bind fun x45 =>
          bif decide (0 ≤ v43) && decide (v43 < (v44.length : Int)) then
            (v44[v43.toNat]?).bind fun x46 =>
            (f44 k (wr .i64 (x45 - x46))).bind fun x47 =>
            (f45 k x47.1.1 1 7).bind fun x48 =>
            bif (!x48.1.1) then
              nx.2.1 ((false, ()), ())
            else
              f32_l14 k j v41 (wr .i64 (v42 + x47.1.1)) (wr .i64 (v43 + 1)) v44 nx
          else
            none
        else
          none
    else
      nx.1 ((v42, ()), ())
def cf32_l14 (k : Nat) : Cut := { sp := { temps := [(3, .c (.int .i64)), (5, .c (.row 5000000)), (7, .c (.int .i64)), (8, .c (.int .i64))], blocks := [(5000000, .row 2 (.int .i64))], ren := [] }, outs := [(.exit 2, { temps := [(7, .c (.int .i64))], blocks := [], ren := [] }), (.ret, { temps := [(2, .c .bool)], blocks := [], ren := [] })], F := fun ρ j v nx => f32_l14 k j v.1.1 v.1.2.2.1 v.1.2.2.2.1 v.2.1 nx }
def f32 (k : Nat) (a1 : (List ((Int × (Int × Int)) × (Int × (Int × Int))))) : Option ((Bool × Unit) × Unit) :=
  bif (decide ((a1.length : Int) < 3)) then
    some ((false, ()), ())
  else
    bif (decide ((a1.length : Int) > 16)) then
      some ((false, ()), ())
    else
      f32_l5 k k a1 (a1.length : Int) 0
        (fun x27 : (((List ((Int × (Int × Int)) × (Int × (Int × Int)))) × Int × Unit) × Unit) =>
          (f43 k x27.1.1).bind fun x28 =>
          (f42 k x28.2.1).bind fun x29 =>
          bif (!x29.1.2.1) then
            some ((false, ()), ())
          else
            f32_l14 k k x27.1.2.1 0 0 x29.2.1
              (fun x30 : ((Int × Unit) × Unit) =>
                some (((x30.1.1 == 16), ()), ()),
              fun x31 : ((Bool × Unit) × Unit) =>
                some ((x31.1.1, ()), ()),
              ()),
        fun x32 : ((Bool × Unit) × Unit) =>
          some ((x32.1.1, ()), ()),
        ())
def ef32 : Entry := { id := 32, ar := { temps := [(0, .c (.sl (.pair (.pair (.int .i64) (.pair (.int .i64) (.int .i64))) (.pair (.int .i64) (.pair (.int .i64) (.int .i64))))))], blocks := [], ren := [] }, res := { temps := [(0, .c .bool)], blocks := [], ren := [] }, f := fun k v => f32 k v.1.1 }
def gf32 (k : Nat) : Full := { tt := tt, n := 78, fns := [ef40, ef41, ef43, ef42, ef44, ef45], trunc := [], tails := [], touch := [], opens := [], shapes := [], closes := [], k := k, glob := glob, cuts := [(5, (cf32_l5 k)), (14, (cf32_l14 k))], joins := [] }
theorem of32_l5 (k : Nat) : CutOk (gf32 k) (cf32_l5 k) (theLoop Tryd.f32 5) := fun ρ v nx => ⟨by kernel_rfl, fun j => by kernel_rfl⟩
theorem of32_l14 (k : Nat) : CutOk (gf32 k) (cf32_l14 k) (theLoop Tryd.f32 14) := fun ρ v nx => ⟨by kernel_rfl, fun j => by kernel_rfl⟩
theorem qf32 (k : Nat) : AllP (bodyL (gf32 k) Tryd.f32) := by
  have h : (CutOk (gf32 k) (cf32_l5 k) (theLoop Tryd.f32 5) ∧ CutOk (gf32 k) (cf32_l14 k) (theLoop Tryd.f32 14) ∧ True) = AllP (bodyL (gf32 k) Tryd.f32) := by kernel_rfl
  exact Eq.mp h (And.intro (of32_l5 k) (And.intro (of32_l14 k) (trivial)))
theorem sf32 : Sound Tryd.prog glob ef32 := sound_of base (fn := Tryd.f32) Tryd.func32 (by kernel_rfl) gf32 (fun _ => ⟨rfl, rfl⟩) (fun k j => ⟨sf40.at j, sf41.at j, sf43.at j, sf42.at j, sf44.at j, sf45.at j, trivial⟩) qf32 (fun k v => by kernel_rfl)

/-! spec.StartState -/
def f19 (k : Nat) (a1 : (List ((Int × (Int × Int)) × (Int × (Int × Int))))) : Option (((Unit × Unit × Unit × Unit) × Int × Unit) × ((List ((Int × (Int × Int)) × (Int × (Int × Int)))) × (List ((List ((Int × (Int × Int)) × (Int × (Int × Int)))) × (Int × (Bool × ((Int × (Int × Int)) × (Int × (Int × Int))))))) × (List Int) × Unit)) :=
  (f32 k a1).bind fun x6 =>
  bif (!x6.1.1) then
    some ((((), (), (), ()), 1, ()), (([] : List ((Int × (Int × Int)) × (Int × (Int × Int)))), ([] : List ((List ((Int × (Int × Int)) × (Int × (Int × Int)))) × (Int × (Bool × ((Int × (Int × Int)) × (Int × (Int × Int))))))), ([] : List Int), ()))
  else
    bif decide ((([] : List ((Int × (Int × Int)) × (Int × (Int × Int)))).length + a1.length) * 48 ≤ roomy) then
      let x7 : (List ((Int × (Int × Int)) × (Int × (Int × Int)))) := (([] : List ((Int × (Int × Int)) × (Int × (Int × Int)))) ++ a1)
      bif decide ((([] : List ((Int × (Int × Int)) × (Int × (Int × Int)))).length + a1.length) * 48 ≤ roomy) then
        let x8 : (List ((Int × (Int × Int)) × (Int × (Int × Int)))) := (([] : List ((Int × (Int × Int)) × (Int × (Int × Int)))) ++ a1)
        bif decide ([(x8, (0, (false, ((0, (0, 0)), (0, (0, 0))))))].length * 88 ≤ roomy) then
          some ((((), (), (), ()), 0, ()), (x7, [(x8, (0, (false, ((0, (0, 0)), (0, (0, 0))))))], [0], ()))
        else
          none
      else
        none
    else
      none
def ef19 : Entry := { id := 19, ar := { temps := [(0, .c (.sl (.pair (.pair (.int .i64) (.pair (.int .i64) (.int .i64))) (.pair (.int .i64) (.pair (.int .i64) (.int .i64))))))], blocks := [], ren := [] }, res := { temps := [(0, .agg [(.row 4000000), (.row 4000001), (.row 4000002)]), (1, .c (.int .i64))], blocks := [(4000000, .row 49 (.pair (.pair (.int .i64) (.pair (.int .i64) (.int .i64))) (.pair (.int .i64) (.pair (.int .i64) (.int .i64))))), (4000001, .row 66 (.pair (.sl (.pair (.pair (.int .i64) (.pair (.int .i64) (.int .i64))) (.pair (.int .i64) (.pair (.int .i64) (.int .i64))))) (.pair (.int .i64) (.pair .bool (.pair (.pair (.int .i64) (.pair (.int .i64) (.int .i64))) (.pair (.int .i64) (.pair (.int .i64) (.int .i64)))))))), (4000002, .row 2 (.int .i64))], ren := [] }, f := fun k v => f19 k v.1.1 }
def gf19 (k : Nat) : Full := { tt := tt, n := 24, fns := [ef32], trunc := [], tails := [], touch := [(4, [(4, [16]), (6, [18]), (9, [4])])], opens := [], shapes := [], closes := [], k := k, glob := glob, cuts := [], joins := [] }
theorem qf19 (k : Nat) : AllP (bodyL (gf19 k) Tryd.f19) := by
  have h : True = AllP (bodyL (gf19 k) Tryd.f19) := by kernel_rfl
  exact Eq.mp h trivial
theorem sf19 : Sound Tryd.prog glob ef19 := sound_of base (fn := Tryd.f19) Tryd.func19 (by kernel_rfl) gf19 (fun _ => ⟨rfl, rfl⟩) (fun k j => ⟨sf32.at j, trivial⟩) qf19 (fun k v => by kernel_rfl)

/-! spec.StartRun -/
def f9 (k : Nat) (a1 : (List ((Int × (Int × Int)) × (Int × (Int × Int))))) : Option (((Unit × Unit × Unit) × Int × Unit) × ((List ((List ((Int × (Int × Int)) × (Int × (Int × Int)))) × ((List ((List ((Int × (Int × Int)) × (Int × (Int × Int)))) × (Int × (Bool × ((Int × (Int × Int)) × (Int × (Int × Int))))))) × (List Int)))) × Unit)) :=
  (f19 k a1).bind fun x2 =>
  bif (x2.1.2.1 != 0) then
    some ((((), (), ()), x2.1.2.1, ()), (([] : List ((List ((Int × (Int × Int)) × (Int × (Int × Int)))) × ((List ((List ((Int × (Int × Int)) × (Int × (Int × Int)))) × (Int × (Bool × ((Int × (Int × Int)) × (Int × (Int × Int))))))) × (List Int)))), ()))
  else
    some ((((), (), ()), 0, ()), ([(x2.2.1, (x2.2.2.1, x2.2.2.2.1))], ()))
def ef9 : Entry := { id := 9, ar := { temps := [(0, .c (.sl (.pair (.pair (.int .i64) (.pair (.int .i64) (.int .i64))) (.pair (.int .i64) (.pair (.int .i64) (.int .i64))))))], blocks := [], ren := [] }, res := { temps := [(0, .agg [(.row 4000000), (.lit .nils)]), (1, .c (.int .i64))], blocks := [(4000000, .row 43 (.pair (.sl (.pair (.pair (.int .i64) (.pair (.int .i64) (.int .i64))) (.pair (.int .i64) (.pair (.int .i64) (.int .i64))))) (.pair (.sl (.pair (.sl (.pair (.pair (.int .i64) (.pair (.int .i64) (.int .i64))) (.pair (.int .i64) (.pair (.int .i64) (.int .i64))))) (.pair (.int .i64) (.pair .bool (.pair (.pair (.int .i64) (.pair (.int .i64) (.int .i64))) (.pair (.int .i64) (.pair (.int .i64) (.int .i64)))))))) (.sl (.int .i64)))))], ren := [] }, f := fun k v => f9 k v.1.1 }
def gf9 (k : Nat) : Full := { tt := tt, n := 18, fns := [ef19], trunc := [], tails := [], touch := [], opens := [], shapes := [], closes := [], k := k, glob := glob, cuts := [], joins := [] }
theorem qf9 (k : Nat) : AllP (bodyL (gf9 k) Tryd.f9) := by
  have h : True = AllP (bodyL (gf9 k) Tryd.f9) := by kernel_rfl
  exact Eq.mp h trivial
theorem sf9 : Sound Tryd.prog glob ef9 := sound_of base (fn := Tryd.f9) Tryd.func9 (by kernel_rfl) gf9 (fun _ => ⟨rfl, rfl⟩) (fun k j => ⟨sf19.at j, trivial⟩) qf9 (fun k v => by kernel_rfl)

/-! spec.NewConsole -/
def f4 (k : Nat) : Option (((Unit × Unit × Unit) × Unit) × ((List ((List ((Int × (Int × Int)) × (Int × (Int × Int)))) × ((List ((List ((Int × (Int × Int)) × (Int × (Int × Int)))) × (Int × (Bool × ((Int × (Int × Int)) × (Int × (Int × Int))))))) × (List Int)))) × Unit)) :=
  (f10 k 8).bind fun x3 =>
  (f9 k x3.2.1).bind fun x4 =>
  some ((((), (), ()), ()), (x4.2.1, ()))
def ef4 : Entry := { id := 4, ar := { temps := [], blocks := [], ren := [] }, res := { temps := [(0, .agg [(.row 4000000), (.lit .nils)])], blocks := [(4000000, .row 43 (.pair (.sl (.pair (.pair (.int .i64) (.pair (.int .i64) (.int .i64))) (.pair (.int .i64) (.pair (.int .i64) (.int .i64))))) (.pair (.sl (.pair (.sl (.pair (.pair (.int .i64) (.pair (.int .i64) (.int .i64))) (.pair (.int .i64) (.pair (.int .i64) (.int .i64))))) (.pair (.int .i64) (.pair .bool (.pair (.pair (.int .i64) (.pair (.int .i64) (.int .i64))) (.pair (.int .i64) (.pair (.int .i64) (.int .i64)))))))) (.sl (.int .i64)))))], ren := [] }, f := fun k v => f4 k }
def gf4 (k : Nat) : Full := { tt := tt, n := 9, fns := [ef10, ef9], trunc := [], tails := [], touch := [], opens := [], shapes := [], closes := [], k := k, glob := glob, cuts := [], joins := [] }
theorem qf4 (k : Nat) : AllP (bodyL (gf4 k) Tryd.f4) := by
  have h : True = AllP (bodyL (gf4 k) Tryd.f4) := by kernel_rfl
  exact Eq.mp h trivial
theorem sf4 : Sound Tryd.prog glob ef4 := sound_of base (fn := Tryd.f4) Tryd.func4 (by kernel_rfl) gf4 (fun _ => ⟨rfl, rfl⟩) (fun k j => ⟨sf10.at j, sf9.at j, trivial⟩) qf4 (fun k v => by kernel_rfl)

/-! impl.within -/
def f20 (k : Nat) (a1 : Int) (a2 : Int) (a3 : Int) : Option ((Bool × Unit) × Unit) :=
  bif (decide (a1 ≥ a2)) then
    some (((decide (a1 ≤ a3)), ()), ())
  else
    some ((false, ()), ())
def ef20 : Entry := { id := 20, ar := { temps := [(0, .c (.int .i64)), (1, .c (.int .i64)), (2, .c (.int .i64))], blocks := [], ren := [] }, res := { temps := [(0, .c .bool)], blocks := [], ren := [] }, f := fun k v => f20 k v.1.1 v.1.2.1 v.1.2.2.1 }
def gf20 (k : Nat) : Full := { tt := tt, n := 15, fns := [], trunc := [], tails := [], touch := [], opens := [], shapes := [], closes := [], k := k, glob := glob, cuts := [], joins := [] }
theorem qf20 (k : Nat) : AllP (bodyL (gf20 k) Tryd.f20) := by
  have h : True = AllP (bodyL (gf20 k) Tryd.f20) := by kernel_rfl
  exact Eq.mp h trivial
theorem sf20 : Sound Tryd.prog glob ef20 := sound_of base (fn := Tryd.f20) Tryd.func20 (by kernel_rfl) gf20 (fun _ => ⟨rfl, rfl⟩) (fun k j => trivial) qf20 (fun k v => by kernel_rfl)

/-! impl.whole -/
def f21 (k : Nat) (a1 : Int) : Option (((Int × Int × Int × Unit) × Unit) × Unit) :=
  some (((a1, 0, 0, ()), ()), ())
def ef21 : Entry := { id := 21, ar := { temps := [(0, .c (.int .i64))], blocks := [], ren := [] }, res := { temps := [(0, .agg [(.int .i64), (.int .i64), (.int .i64)])], blocks := [], ren := [] }, f := fun k v => f21 k v.1.1 }
def gf21 (k : Nat) : Full := { tt := tt, n := 5, fns := [], trunc := [], tails := [], touch := [], opens := [], shapes := [], closes := [], k := k, glob := glob, cuts := [], joins := [] }
theorem qf21 (k : Nat) : AllP (bodyL (gf21 k) Tryd.f21) := by
  have h : True = AllP (bodyL (gf21 k) Tryd.f21) := by kernel_rfl
  exact Eq.mp h trivial
theorem sf21 : Sound Tryd.prog glob ef21 := sound_of base (fn := Tryd.f21) Tryd.func21 (by kernel_rfl) gf21 (fun _ => ⟨rfl, rfl⟩) (fun k j => trivial) qf21 (fun k v => by kernel_rfl)

/-! impl.SquarePaper -/
def f11 (k : Nat) (a1 : Int) : Option ((Unit × Bool × Unit) × ((List ((Int × (Int × Int)) × (Int × (Int × Int)))) × Unit)) :=
  (f20 k a1 1 1000).bind fun x6 =>
  bif (!x6.1.1) then
    some (((), false, ()), (([] : List ((Int × (Int × Int)) × (Int × (Int × Int)))), ()))
  else
    (f21 k a1).bind fun x7 =>
    (f21 k 0).bind fun x8 =>
    some (((), true, ()), ([((x8.1.1.1, (x8.1.1.2.1, x8.1.1.2.2.1)), (x8.1.1.1, (x8.1.1.2.1, x8.1.1.2.2.1))), ((x7.1.1.1, (x7.1.1.2.1, x7.1.1.2.2.1)), (x8.1.1.1, (x8.1.1.2.1, x8.1.1.2.2.1))), ((x7.1.1.1, (x7.1.1.2.1, x7.1.1.2.2.1)), (x7.1.1.1, (x7.1.1.2.1, x7.1.1.2.2.1))), ((x8.1.1.1, (x8.1.1.2.1, x8.1.1.2.2.1)), (x7.1.1.1, (x7.1.1.2.1, x7.1.1.2.2.1)))], ()))
def ef11 : Entry := { id := 11, ar := { temps := [(0, .c (.int .i64))], blocks := [], ren := [] }, res := { temps := [(0, .c (.row 4000000)), (1, .c .bool)], blocks := [(4000000, .row 49 (.pair (.pair (.int .i64) (.pair (.int .i64) (.int .i64))) (.pair (.int .i64) (.pair (.int .i64) (.int .i64)))))], ren := [] }, f := fun k v => f11 k v.1.1 }
def gf11 (k : Nat) : Full := { tt := tt, n := 25, fns := [ef20, ef21], trunc := [], tails := [], touch := [], opens := [], shapes := [], closes := [], k := k, glob := glob, cuts := [], joins := [] }
theorem qf11 (k : Nat) : AllP (bodyL (gf11 k) Tryd.f11) := by
  have h : True = AllP (bodyL (gf11 k) Tryd.f11) := by kernel_rfl
  exact Eq.mp h trivial
theorem sf11 : Sound Tryd.prog glob ef11 := sound_of base (fn := Tryd.f11) Tryd.func11 (by kernel_rfl) gf11 (fun _ => ⟨rfl, rfl⟩) (fun k j => ⟨sf20.at j, sf21.at j, trivial⟩) qf11 (fun k v => by kernel_rfl)

/-! impl.Point] -/
def f46 (k : Nat) (a1 : (List ((Int × (Int × Int)) × (Int × (Int × Int))))) : Option ((Int × Unit) × Unit) :=
  some (((a1.length : Int), ()), ())
def ef46 : Entry := { id := 46, ar := { temps := [(0, .c (.sl (.pair (.pair (.int .i64) (.pair (.int .i64) (.int .i64))) (.pair (.int .i64) (.pair (.int .i64) (.int .i64))))))], blocks := [], ren := [] }, res := { temps := [(0, .c (.int .i64))], blocks := [], ren := [] }, f := fun k v => f46 k v.1.1 }
def gf46 (k : Nat) : Full := { tt := tt, n := 5, fns := [], trunc := [], tails := [], touch := [], opens := [], shapes := [], closes := [], k := k, glob := glob, cuts := [], joins := [] }
theorem qf46 (k : Nat) : AllP (bodyL (gf46 k) Tryd.f46) := by
  have h : True = AllP (bodyL (gf46 k) Tryd.f46) := by kernel_rfl
  exact Eq.mp h trivial
theorem sf46 : Sound Tryd.prog glob ef46 := sound_of base (fn := Tryd.f46) Tryd.func46 (by kernel_rfl) gf46 (fun _ => ⟨rfl, rfl⟩) (fun k j => trivial) qf46 (fun k v => by kernel_rfl)

/-! impl.ValidNum -/
def f71 (k : Nat) (a1 : Int) (a2 : Int) (a3 : Int) : Option ((Bool × Unit) × Unit) :=
  (f20 k a1 (-131072) 131072).bind fun x4 =>
  bif x4.1.1 then
    (f20 k a2 (-131072) 131072).bind fun x5 =>
    bif x5.1.1 then
      (f20 k a3 0 10).bind fun x6 =>
      bif x6.1.1 then
        bif (a3 == 0) then
          some ((true, ()), ())
        else
          bif ((iand .i64 a1 1) == 1) then
            some ((true, ()), ())
          else
            some ((((iand .i64 a2 1) == 1), ()), ())
      else
        some ((false, ()), ())
    else
      some ((false, ()), ())
  else
    some ((false, ()), ())
def ef71 : Entry := { id := 71, ar := { temps := [(0, .agg [(.int .i64), (.int .i64), (.int .i64)])], blocks := [], ren := [] }, res := { temps := [(0, .c .bool)], blocks := [], ren := [] }, f := fun k v => f71 k v.1.1.1 v.1.1.2.1 v.1.1.2.2.1 }
def gf71 (k : Nat) : Full := { tt := tt, n := 33, fns := [ef20], trunc := [], tails := [], touch := [], opens := [], shapes := [], closes := [], k := k, glob := glob, cuts := [], joins := [] }
theorem qf71 (k : Nat) : AllP (bodyL (gf71 k) Tryd.f71) := by
  have h : True = AllP (bodyL (gf71 k) Tryd.f71) := by kernel_rfl
  exact Eq.mp h trivial
theorem sf71 : Sound Tryd.prog glob ef71 := sound_of base (fn := Tryd.f71) Tryd.func71 (by kernel_rfl) gf71 (fun _ => ⟨rfl, rfl⟩) (fun k j => ⟨sf20.at j, trivial⟩) qf71 (fun k v => by kernel_rfl)

/-! impl.ValidPoint -/
def f60 (k : Nat) (a1 : Int) (a2 : Int) (a3 : Int) (a4 : Int) (a5 : Int) (a6 : Int) : Option ((Bool × Unit) × Unit) :=
  (f71 k a1 a2 a3).bind fun x3 =>
  bif x3.1.1 then
    (f71 k a4 a5 a6).bind fun x4 =>
    some ((x4.1.1, ()), ())
  else
    some ((false, ()), ())
def ef60 : Entry := { id := 60, ar := { temps := [(0, .agg [(.int .i64), (.int .i64), (.int .i64), (.int .i64), (.int .i64), (.int .i64)])], blocks := [], ren := [] }, res := { temps := [(0, .c .bool)], blocks := [], ren := [] }, f := fun k v => f60 k v.1.1.1 v.1.1.2.1 v.1.1.2.2.1 v.1.1.2.2.2.1 v.1.1.2.2.2.2.1 v.1.1.2.2.2.2.2.1 }
def gf60 (k : Nat) : Full := { tt := tt, n := 11, fns := [ef71], trunc := [], tails := [], touch := [], opens := [], shapes := [], closes := [], k := k, glob := glob, cuts := [], joins := [] }
theorem qf60 (k : Nat) : AllP (bodyL (gf60 k) Tryd.f60) := by
  have h : True = AllP (bodyL (gf60 k) Tryd.f60) := by kernel_rfl
  exact Eq.mp h trivial
theorem sf60 : Sound Tryd.prog glob ef60 := sound_of base (fn := Tryd.f60) Tryd.func60 (by kernel_rfl) gf60 (fun _ => ⟨rfl, rfl⟩) (fun k j => ⟨sf71.at j, trivial⟩) qf60 (fun k v => by kernel_rfl)

/-! impl.areValid$1 -/
def f59 (k : Nat) (a1 : Int) (a2 : Int) (a3 : Int) (a4 : Int) (a5 : Int) (a6 : Int) : Option ((Bool × Unit) × Unit) :=
  (f60 k a1 a2 a3 a4 a5 a6).bind fun x2 =>
  some (((!x2.1.1), ()), ())
def ef59 : Entry := { id := 59, ar := { temps := [(0, .agg [(.int .i64), (.int .i64), (.int .i64), (.int .i64), (.int .i64), (.int .i64)])], blocks := [], ren := [] }, res := { temps := [(0, .c .bool)], blocks := [], ren := [] }, f := fun k v => f59 k v.1.1.1 v.1.1.2.1 v.1.1.2.2.1 v.1.1.2.2.2.1 v.1.1.2.2.2.2.1 v.1.1.2.2.2.2.2.1 }
def gf59 (k : Nat) : Full := { tt := tt, n := 6, fns := [ef60], trunc := [], tails := [], touch := [], opens := [], shapes := [], closes := [], k := k, glob := glob, cuts := [], joins := [] }
theorem qf59 (k : Nat) : AllP (bodyL (gf59 k) Tryd.f59) := by
  have h : True = AllP (bodyL (gf59 k) Tryd.f59) := by kernel_rfl
  exact Eq.mp h trivial
theorem sf59 : Sound Tryd.prog glob ef59 := sound_of base (fn := Tryd.f59) Tryd.func59 (by kernel_rfl) gf59 (fun _ => ⟨rfl, rfl⟩) (fun k j => ⟨sf60.at j, trivial⟩) qf59 (fun k v => by kernel_rfl)

/-! impl.Point] -/
def f70_l2 {ρ : Type} (k : Nat) : Nat → (List ((Int × (Int × Int)) × (Int × (Int × Int)))) → Int → Int → (((Unit × Unit) → Option ρ) × (((Int × Unit) × Unit) → Option ρ) × Unit) → Option ρ
  | 0, _, _, _, _ => none
  | j + 1, v10, v11, v12, nx =>
    bif (decide (v12 < v11)) then
      (getI v10 v12).bind fun x13 =>
      (f59 k x13.1.1 x13.1.2.1 x13.1.2.2 x13.2.1 x13.2.2.1 x13.2.2.2).bind fun x14 =>
      bif x14.1.1 then
        nx.2.1 ((v12, ()), ())
      else
        f70_l2 k j v10 v11 (wr .i64 (v12 + 1)) nx
    else
      nx.1 ((), ())
def cf70_l2 (k : Nat) : Cut := { sp := { temps := [(0, .c (.sl (.pair (.pair (.int .i64) (.pair (.int .i64) (.int .i64))) (.pair (.int .i64) (.pair (.int .i64) (.int .i64)))))), (1, .c (.lit (.fn 59))), (7, .c (.int .i64)), (8, .c (.int .i64))], blocks := [], ren := [] }, outs := [(.exit 0, { temps := [], blocks := [], ren := [] }), (.ret, { temps := [(4, .c (.int .i64))], blocks := [], ren := [] })], F := fun ρ j v nx => f70_l2 k j v.1.1 v.1.2.2.1 v.1.2.2.2.1 nx }
def f70 (k : Nat) (a1 : (List ((Int × (Int × Int)) × (Int × (Int × Int))))) : Option ((Int × Unit) × Unit) :=
  f70_l2 k k a1 (a1.length : Int) 0
    (fun x8 : (Unit × Unit) =>
      some (((-1), ()), ()),
    fun x9 : ((Int × Unit) × Unit) =>
      some ((x9.1.1, ()), ()),
    ())
def ef70 : Entry := { id := 70, ar := { temps := [(0, .c (.sl (.pair (.pair (.int .i64) (.pair (.int .i64) (.int .i64))) (.pair (.int .i64) (.pair (.int .i64) (.int .i64)))))), (1, .c (.lit (.fn 59)))], blocks := [], ren := [] }, res := { temps := [(0, .c (.int .i64))], blocks := [], ren := [] }, f := fun k v => f70 k v.1.1 }
def gf70 (k : Nat) : Full := { tt := tt, n := 19, fns := [ef59], trunc := [], tails := [], touch := [], opens := [], shapes := [], closes := [], k := k, glob := glob, cuts := [(2, (cf70_l2 k))], joins := [] }
theorem of70_l2 (k : Nat) : CutOk (gf70 k) (cf70_l2 k) (theLoop Tryd.f70 2) := fun ρ v nx => ⟨by kernel_rfl, fun j => by kernel_rfl⟩
theorem qf70 (k : Nat) : AllP (bodyL (gf70 k) Tryd.f70) := by
  have h : (CutOk (gf70 k) (cf70_l2 k) (theLoop Tryd.f70 2) ∧ True) = AllP (bodyL (gf70 k) Tryd.f70) := by kernel_rfl
  exact Eq.mp h (And.intro (of70_l2 k) (trivial))
theorem sf70 : Sound Tryd.prog glob ef70 := sound_of base (fn := Tryd.f70) Tryd.func70 (by kernel_rfl) gf70 (fun _ => ⟨rfl, rfl⟩) (fun k j => ⟨sf59.at j, trivial⟩) qf70 (fun k v => by kernel_rfl)

/-! impl.Point] -/
def f58 (k : Nat) (a1 : (List ((Int × (Int × Int)) × (Int × (Int × Int))))) : Option ((Bool × Unit) × Unit) :=
  (f70 k a1).bind fun x2 =>
  some (((decide (x2.1.1 ≥ 0)), ()), ())
def ef58 : Entry := { id := 58, ar := { temps := [(0, .c (.sl (.pair (.pair (.int .i64) (.pair (.int .i64) (.int .i64))) (.pair (.int .i64) (.pair (.int .i64) (.int .i64)))))), (1, .c (.lit (.fn 59)))], blocks := [], ren := [] }, res := { temps := [(0, .c .bool)], blocks := [], ren := [] }, f := fun k v => f58 k v.1.1 }
def gf58 (k : Nat) : Full := { tt := tt, n := 9, fns := [ef70], trunc := [], tails := [], touch := [], opens := [], shapes := [], closes := [], k := k, glob := glob, cuts := [], joins := [] }
theorem qf58 (k : Nat) : AllP (bodyL (gf58 k) Tryd.f58) := by
  have h : True = AllP (bodyL (gf58 k) Tryd.f58) := by kernel_rfl
  exact Eq.mp h trivial
theorem sf58 : Sound Tryd.prog glob ef58 := sound_of base (fn := Tryd.f58) Tryd.func58 (by kernel_rfl) gf58 (fun _ => ⟨rfl, rfl⟩) (fun k j => ⟨sf70.at j, trivial⟩) qf58 (fun k v => by kernel_rfl)

/-! impl.areValid -/
def f47 (k : Nat) (a1 : (List ((Int × (Int × Int)) × (Int × (Int × Int))))) : Option ((Bool × Unit) × Unit) :=
  (f58 k a1).bind fun x2 =>
  some (((!x2.1.1), ()), ())
def ef47 : Entry := { id := 47, ar := { temps := [(0, .c (.sl (.pair (.pair (.int .i64) (.pair (.int .i64) (.int .i64))) (.pair (.int .i64) (.pair (.int .i64) (.int .i64))))))], blocks := [], ren := [] }, res := { temps := [(0, .c .bool)], blocks := [], ren := [] }, f := fun k v => f47 k v.1.1 }
def gf47 (k : Nat) : Full := { tt := tt, n := 6, fns := [ef58], trunc := [], tails := [], touch := [], opens := [], shapes := [], closes := [], k := k, glob := glob, cuts := [], joins := [] }
theorem qf47 (k : Nat) : AllP (bodyL (gf47 k) Tryd.f47) := by
  have h : True = AllP (bodyL (gf47 k) Tryd.f47) := by kernel_rfl
  exact Eq.mp h trivial
theorem sf47 : Sound Tryd.prog glob ef47 := sound_of base (fn := Tryd.f47) Tryd.func47 (by kernel_rfl) gf47 (fun _ => ⟨rfl, rfl⟩) (fun k j => ⟨sf58.at j, trivial⟩) qf47 (fun k v => by kernel_rfl)

/-! impl.Num).neg -/
def f84 (k : Nat) (a1 : Int) (a2 : Int) (a3 : Int) : Option (((Int × Int × Int × Unit) × Unit) × Unit) :=
  some ((((wr .i64 (0 - a1)), (wr .i64 (0 - a2)), a3, ()), ()), ())
def ef84 : Entry := { id := 84, ar := { temps := [(0, .agg [(.int .i64), (.int .i64), (.int .i64)])], blocks := [], ren := [] }, res := { temps := [(0, .agg [(.int .i64), (.int .i64), (.int .i64)])], blocks := [], ren := [] }, f := fun k v => f84 k v.1.1.1 v.1.1.2.1 v.1.1.2.2.1 }
def gf84 (k : Nat) : Full := { tt := tt, n := 12, fns := [], trunc := [], tails := [], touch := [], opens := [], shapes := [], closes := [], k := k, glob := glob, cuts := [], joins := [] }
theorem qf84 (k : Nat) : AllP (bodyL (gf84 k) Tryd.f84) := by
  have h : True = AllP (bodyL (gf84 k) Tryd.f84) := by kernel_rfl
  exact Eq.mp h trivial
theorem sf84 : Sound Tryd.prog glob ef84 := sound_of base (fn := Tryd.f84) Tryd.func84 (by kernel_rfl) gf84 (fun _ => ⟨rfl, rfl⟩) (fun k j => trivial) qf84 (fun k v => by kernel_rfl)

/-! impl.Num).reduced -/
def f91_l1 {ρ : Type} (k : Nat) : Nat → Int → Int → Int → Int → Int → Int → ((((Unit × Unit × Unit) × ((Int × Int × Int × Unit) × (Int × Int × Int × Unit) × Unit)) → Option ρ) × Unit) → Option ρ
  | 0, _, _, _, _, _, _, _ => none
  | j + 1, v9, v10, v11, v12, v13, v14, nx =>
    bif (decide (v11 > 0)) then
      bif ((iand .i64 v9 1) == 0) then
        bif ((iand .i64 v10 1) == 0) then
          bif ((wr .i64 (v9.tdiv 2)) == 0) then
            bif ((wr .i64 (v10.tdiv 2)) == 0) then
              f91_l1 k j (wr .i64 (v9.tdiv 2)) (wr .i64 (v10.tdiv 2)) 0 v12 v13 v14 nx
            else
              f91_l1 k j (wr .i64 (v9.tdiv 2)) (wr .i64 (v10.tdiv 2)) (wr .i64 (v11 - 1)) v12 v13 v14 nx
          else
            f91_l1 k j (wr .i64 (v9.tdiv 2)) (wr .i64 (v10.tdiv 2)) (wr .i64 (v11 - 1)) v12 v13 v14 nx
        else
          nx.1 (((), (), ()), ((v9, v10, v11, ()), (v12, v13, v14, ()), ()))
      else
        nx.1 (((), (), ()), ((v9, v10, v11, ()), (v12, v13, v14, ()), ()))
    else
      nx.1 (((), (), ()), ((v9, v10, v11, ()), (v12, v13, v14, ()), ()))
def cf91_l1 (k : Nat) : Cut := { sp := { temps := [(1, .c (.box 5000000)), (2, .c (.box 5000001))], blocks := [(5000000, .box 47 [(.int .i64), (.int .i64), (.int .i64)]), (5000001, .box 47 [(.int .i64), (.int .i64), (.int .i64)])], ren := [] }, outs := [(.exit 0, { temps := [(1, .c (.box 5000000)), (2, .c (.box 5000001))], blocks := [(5000000, .box 47 [(.int .i64), (.int .i64), (.int .i64)]), (5000001, .box 47 [(.int .i64), (.int .i64), (.int .i64)])], ren := [] })], F := fun ρ j v nx => f91_l1 k j v.2.1.1 v.2.1.2.1 v.2.1.2.2.1 v.2.2.1.1 v.2.2.1.2.1 v.2.2.1.2.2.1 nx }
def f91 (k : Nat) (a1 : Int) (a2 : Int) (a3 : Int) : Option (((Int × Int × Int × Unit) × Unit) × Unit) :=
  f91_l1 k k a1 a2 a3 0 0 0
    (fun x8 : ((Unit × Unit × Unit) × ((Int × Int × Int × Unit) × (Int × Int × Int × Unit) × Unit)) =>
      some (((x8.2.1.1, x8.2.1.2.1, x8.2.1.2.2.1, ()), ()), ()),
    ())
def ef91 : Entry := { id := 91, ar := { temps := [(0, .agg [(.int .i64), (.int .i64), (.int .i64)])], blocks := [], ren := [] }, res := { temps := [(0, .agg [(.int .i64), (.int .i64), (.int .i64)])], blocks := [], ren := [] }, f := fun k v => f91 k v.1.1.1 v.1.1.2.1 v.1.1.2.2.1 }
def gf91 (k : Nat) : Full := { tt := tt, n := 40, fns := [], trunc := [], tails := [], touch := [], opens := [], shapes := [], closes := [], k := k, glob := glob, cuts := [(1, (cf91_l1 k))], joins := [] }
theorem of91_l1 (k : Nat) : CutOk (gf91 k) (cf91_l1 k) (theLoop Tryd.f91 1) := fun ρ v nx => ⟨by kernel_rfl, fun j => by kernel_rfl⟩
theorem qf91 (k : Nat) : AllP (bodyL (gf91 k) Tryd.f91) := by
  have h : (CutOk (gf91 k) (cf91_l1 k) (theLoop Tryd.f91 1) ∧ True) = AllP (bodyL (gf91 k) Tryd.f91) := by kernel_rfl
  exact Eq.mp h (And.intro (of91_l1 k) (trivial))
theorem sf91 : Sound Tryd.prog glob ef91 := sound_of base (fn := Tryd.f91) Tryd.func91 (by kernel_rfl) gf91 (fun _ => ⟨rfl, rfl⟩) (fun k j => trivial) qf91 (fun k v => by kernel_rfl)

/-! impl.Num).plus -/
def f86 (k : Nat) (a1 : Int) (a2 : Int) (a3 : Int) (a4 : Int) (a5 : Int) (a6 : Int) : Option (((Int × Int × Int × Unit) × Unit) × Unit) :=
  let x8 : Int := (wr .i64 ((bif decide (a6 > a3) then a6 else a3) - a3))
  bif decide (x8 < 0) then
    none
  else
    let x9 : Int := (wr .i64 ((bif decide (a6 > a3) then a6 else a3) - a6))
    bif decide (x9 < 0) then
      none
    else
      let x10 : Int := (wr .i64 ((ishl .i64 a1 x8) + (ishl .i64 a4 x9)))
      let x11 : Int := (wr .i64 ((bif decide (a6 > a3) then a6 else a3) - a3))
      bif decide (x11 < 0) then
        none
      else
        let x12 : Int := (wr .i64 ((bif decide (a6 > a3) then a6 else a3) - a6))
        bif decide (x12 < 0) then
          none
        else
          let x13 : Int := (wr .i64 ((ishl .i64 a2 x11) + (ishl .i64 a5 x12)))
          (f91 k x10 x13 (bif decide (a6 > a3) then a6 else a3)).bind fun x14 =>
          some (((x14.1.1.1, x14.1.1.2.1, x14.1.1.2.2.1, ()), ()), ())
def ef86 : Entry := { id := 86, ar := { temps := [(0, .agg [(.int .i64), (.int .i64), (.int .i64)]), (1, .agg [(.int .i64), (.int .i64), (.int .i64)])], blocks := [], ren := [] }, res := { temps := [(0, .agg [(.int .i64), (.int .i64), (.int .i64)])], blocks := [], ren := [] }, f := fun k v => f86 k v.1.1.1 v.1.1.2.1 v.1.1.2.2.1 v.1.2.1.1 v.1.2.1.2.1 v.1.2.1.2.2.1 }
def gf86 (k : Nat) : Full := { tt := tt, n := 44, fns := [ef91], trunc := [], tails := [], touch := [(2, [(33, [4])])], opens := [], shapes := [], closes := [], k := k, glob := glob, cuts := [], joins := [] }
theorem qf86 (k : Nat) : AllP (bodyL (gf86 k) Tryd.f86) := by
  have h : True = AllP (bodyL (gf86 k) Tryd.f86) := by kernel_rfl
  exact Eq.mp h trivial
theorem sf86 : Sound Tryd.prog glob ef86 := sound_of base (fn := Tryd.f86) Tryd.func86 (by kernel_rfl) gf86 (fun _ => ⟨rfl, rfl⟩) (fun k j => ⟨sf91.at j, trivial⟩) qf86 (fun k v => by kernel_rfl)

/-! impl.Num).minus -/
def f83 (k : Nat) (a1 : Int) (a2 : Int) (a3 : Int) (a4 : Int) (a5 : Int) (a6 : Int) : Option (((Int × Int × Int × Unit) × Unit) × Unit) :=
  (f84 k a4 a5 a6).bind fun x3 =>
  (f86 k a1 a2 a3 x3.1.1.1 x3.1.1.2.1 x3.1.1.2.2.1).bind fun x4 =>
  some (((x4.1.1.1, x4.1.1.2.1, x4.1.1.2.2.1, ()), ()), ())
def ef83 : Entry := { id := 83, ar := { temps := [(0, .agg [(.int .i64), (.int .i64), (.int .i64)]), (1, .agg [(.int .i64), (.int .i64), (.int .i64)])], blocks := [], ren := [] }, res := { temps := [(0, .agg [(.int .i64), (.int .i64), (.int .i64)])], blocks := [], ren := [] }, f := fun k v => f83 k v.1.1.1 v.1.1.2.1 v.1.1.2.2.1 v.1.2.1.1 v.1.2.1.2.1 v.1.2.1.2.2.1 }
def gf83 (k : Nat) : Full := { tt := tt, n := 9, fns := [ef84, ef86], trunc := [], tails := [], touch := [(1, [(4, [4])])], opens := [], shapes := [], closes := [], k := k, glob := glob, cuts := [], joins := [] }
theorem qf83 (k : Nat) : AllP (bodyL (gf83 k) Tryd.f83) := by
  have h : True = AllP (bodyL (gf83 k) Tryd.f83) := by kernel_rfl
  exact Eq.mp h trivial
theorem sf83 : Sound Tryd.prog glob ef83 := sound_of base (fn := Tryd.f83) Tryd.func83 (by kernel_rfl) gf83 (fun _ => ⟨rfl, rfl⟩) (fun k j => ⟨sf84.at j, sf86.at j, trivial⟩) qf83 (fun k v => by kernel_rfl)

/-! impl.Point).minus -/
def f72 (k : Nat) (a1 : Int) (a2 : Int) (a3 : Int) (a4 : Int) (a5 : Int) (a6 : Int) (a7 : Int) (a8 : Int) (a9 : Int) (a10 : Int) (a11 : Int) (a12 : Int) : Option (((Int × Int × Int × Int × Int × Int × Unit) × Unit) × Unit) :=
  (f83 k a1 a2 a3 a7 a8 a9).bind fun x3 =>
  (f83 k a4 a5 a6 a10 a11 a12).bind fun x4 =>
  some (((x3.1.1.1, x3.1.1.2.1, x3.1.1.2.2.1, x4.1.1.1, x4.1.1.2.1, x4.1.1.2.2.1, ()), ()), ())
def ef72 : Entry := { id := 72, ar := { temps := [(0, .agg [(.int .i64), (.int .i64), (.int .i64), (.int .i64), (.int .i64), (.int .i64)]), (1, .agg [(.int .i64), (.int .i64), (.int .i64), (.int .i64), (.int .i64), (.int .i64)])], blocks := [], ren := [] }, res := { temps := [(0, .agg [(.int .i64), (.int .i64), (.int .i64), (.int .i64), (.int .i64), (.int .i64)])], blocks := [], ren := [] }, f := fun k v => f72 k v.1.1.1 v.1.1.2.1 v.1.1.2.2.1 v.1.1.2.2.2.1 v.1.1.2.2.2.2.1 v.1.1.2.2.2.2.2.1 v.1.2.1.1 v.1.2.1.2.1 v.1.2.1.2.2.1 v.1.2.1.2.2.2.1 v.1.2.1.2.2.2.2.1 v.1.2.1.2.2.2.2.2.1 }
def gf72 (k : Nat) : Full := { tt := tt, n := 16, fns := [ef83], trunc := [], tails := [], touch := [(1, [(11, [4])])], opens := [], shapes := [], closes := [], k := k, glob := glob, cuts := [], joins := [] }
theorem qf72 (k : Nat) : AllP (bodyL (gf72 k) Tryd.f72) := by
  have h : True = AllP (bodyL (gf72 k) Tryd.f72) := by kernel_rfl
  exact Eq.mp h trivial
theorem sf72 : Sound Tryd.prog glob ef72 := sound_of base (fn := Tryd.f72) Tryd.func72 (by kernel_rfl) gf72 (fun _ => ⟨rfl, rfl⟩) (fun k j => ⟨sf83.at j, trivial⟩) qf72 (fun k v => by kernel_rfl)

/-! impl.vector -/
def f73 (k : Nat) (a1 : Int) : Option (((Int × Int × Int × Int × Int × Int × Unit) × Unit) × Unit) :=
  bif (decide (a1 ≥ 8)) then
    bif decide (0 ≤ (wr .i64 (a1 - 8))) && decide ((wr .i64 (a1 - 8)) < (8 : Int)) then
      (tab0[(wr .i64 (a1 - 8)).toNat]?).bind fun x5 =>
      (f84 k x5.1.1 x5.1.2.1 x5.1.2.2).bind fun x6 =>
      (f84 k x5.2.1 x5.2.2.1 x5.2.2.2).bind fun x7 =>
      some (((x6.1.1.1, x6.1.1.2.1, x6.1.1.2.2.1, x7.1.1.1, x7.1.1.2.1, x7.1.1.2.2.1, ()), ()), ())
    else
      none
  else
    bif decide (0 ≤ a1) && decide (a1 < (8 : Int)) then
      (tab0[a1.toNat]?).bind fun x8 =>
      some (((x8.1.1, x8.1.2.1, x8.1.2.2, x8.2.1, x8.2.2.1, x8.2.2.2, ()), ()), ())
    else
      none
def ef73 : Entry := { id := 73, ar := { temps := [(0, .c (.int .i64))], blocks := [], ren := [] }, res := { temps := [(0, .agg [(.int .i64), (.int .i64), (.int .i64), (.int .i64), (.int .i64), (.int .i64)])], blocks := [], ren := [] }, f := fun k v => f73 k v.1.1 }
def gf73 (k : Nat) : Full := { tt := tt, n := 20, fns := [ef84], trunc := [], tails := [], touch := [(3, [(7, [2])])], opens := [], shapes := [], closes := [], k := k, glob := glob, cuts := [], joins := [] }
theorem qf73 (k : Nat) : AllP (bodyL (gf73 k) Tryd.f73) := by
  have h : True = AllP (bodyL (gf73 k) Tryd.f73) := by kernel_rfl
  exact Eq.mp h trivial
theorem sf73 : Sound Tryd.prog glob ef73 := sound_of base (fn := Tryd.f73) Tryd.func73 (by kernel_rfl) gf73 (fun _ => ⟨rfl, rfl⟩) (fun k j => ⟨sf84.at j, trivial⟩) qf73 (fun k v => by kernel_rfl)

/-! impl.Num).times -/
def f85 (k : Nat) (a1 : Int) (a2 : Int) (a3 : Int) (a4 : Int) (a5 : Int) (a6 : Int) : Option (((Int × Int × Int × Unit) × Unit) × Unit) :=
  let x4 : Int := (wr .i64 ((wr .i64 (a1 * a4)) + (wr .i64 ((wr .i64 (2 * a2)) * a5))))
  let x5 : Int := (wr .i64 ((wr .i64 (a1 * a5)) + (wr .i64 (a2 * a4))))
  (f91 k x4 x5 (wr .i64 (a3 + a6))).bind fun x6 =>
  some (((x6.1.1.1, x6.1.1.2.1, x6.1.1.2.2.1, ()), ()), ())
def ef85 : Entry := { id := 85, ar := { temps := [(0, .agg [(.int .i64), (.int .i64), (.int .i64)]), (1, .agg [(.int .i64), (.int .i64), (.int .i64)])], blocks := [], ren := [] }, res := { temps := [(0, .agg [(.int .i64), (.int .i64), (.int .i64)])], blocks := [], ren := [] }, f := fun k v => f85 k v.1.1.1 v.1.1.2.1 v.1.1.2.2.1 v.1.2.1.1 v.1.2.1.2.1 v.1.2.1.2.2.1 }
def gf85 (k : Nat) : Full := { tt := tt, n := 35, fns := [ef91], trunc := [], tails := [], touch := [], opens := [], shapes := [], closes := [], k := k, glob := glob, cuts := [], joins := [] }
theorem qf85 (k : Nat) : AllP (bodyL (gf85 k) Tryd.f85) := by
  have h : True = AllP (bodyL (gf85 k) Tryd.f85) := by kernel_rfl
  exact Eq.mp h trivial
theorem sf85 : Sound Tryd.prog glob ef85 := sound_of base (fn := Tryd.f85) Tryd.func85 (by kernel_rfl) gf85 (fun _ => ⟨rfl, rfl⟩) (fun k j => ⟨sf91.at j, trivial⟩) qf85 (fun k v => by kernel_rfl)

/-! impl.Point).cross -/
def f74 (k : Nat) (a1 : Int) (a2 : Int) (a3 : Int) (a4 : Int) (a5 : Int) (a6 : Int) (a7 : Int) (a8 : Int) (a9 : Int) (a10 : Int) (a11 : Int) (a12 : Int) : Option (((Int × Int × Int × Unit) × Unit) × Unit) :=
  (f85 k a1 a2 a3 a10 a11 a12).bind fun x4 =>
  (f85 k a4 a5 a6 a7 a8 a9).bind fun x5 =>
  (f83 k x4.1.1.1 x4.1.1.2.1 x4.1.1.2.2.1 x5.1.1.1 x5.1.1.2.1 x5.1.1.2.2.1).bind fun x6 =>
  some (((x6.1.1.1, x6.1.1.2.1, x6.1.1.2.2.1, ()), ()), ())
def ef74 : Entry := { id := 74, ar := { temps := [(0, .agg [(.int .i64), (.int .i64), (.int .i64), (.int .i64), (.int .i64), (.int .i64)]), (1, .agg [(.int .i64), (.int .i64), (.int .i64), (.int .i64), (.int .i64), (.int .i64)])], blocks := [], ren := [] }, res := { temps := [(0, .agg [(.int .i64), (.int .i64), (.int .i64)])], blocks := [], ren := [] }, f := fun k v => f74 k v.1.1.1 v.1.1.2.1 v.1.1.2.2.1 v.1.1.2.2.2.1 v.1.1.2.2.2.2.1 v.1.1.2.2.2.2.2.1 v.1.2.1.1 v.1.2.1.2.1 v.1.2.1.2.2.1 v.1.2.1.2.2.2.1 v.1.2.1.2.2.2.2.1 v.1.2.1.2.2.2.2.2.1 }
def gf74 (k : Nat) : Full := { tt := tt, n := 16, fns := [ef85, ef83], trunc := [], tails := [], touch := [(1, [(11, [4])])], opens := [], shapes := [], closes := [], k := k, glob := glob, cuts := [], joins := [] }
theorem qf74 (k : Nat) : AllP (bodyL (gf74 k) Tryd.f74) := by
  have h : True = AllP (bodyL (gf74 k) Tryd.f74) := by kernel_rfl
  exact Eq.mp h trivial
theorem sf74 : Sound Tryd.prog glob ef74 := sound_of base (fn := Tryd.f74) Tryd.func74 (by kernel_rfl) gf74 (fun _ => ⟨rfl, rfl⟩) (fun k j => ⟨sf85.at j, sf83.at j, trivial⟩) qf74 (fun k v => by kernel_rfl)

/-! impl.Point).dot -/
def f75 (k : Nat) (a1 : Int) (a2 : Int) (a3 : Int) (a4 : Int) (a5 : Int) (a6 : Int) (a7 : Int) (a8 : Int) (a9 : Int) (a10 : Int) (a11 : Int) (a12 : Int) : Option (((Int × Int × Int × Unit) × Unit) × Unit) :=
  (f85 k a1 a2 a3 a7 a8 a9).bind fun x4 =>
  (f85 k a4 a5 a6 a10 a11 a12).bind fun x5 =>
  (f86 k x4.1.1.1 x4.1.1.2.1 x4.1.1.2.2.1 x5.1.1.1 x5.1.1.2.1 x5.1.1.2.2.1).bind fun x6 =>
  some (((x6.1.1.1, x6.1.1.2.1, x6.1.1.2.2.1, ()), ()), ())
def ef75 : Entry := { id := 75, ar := { temps := [(0, .agg [(.int .i64), (.int .i64), (.int .i64), (.int .i64), (.int .i64), (.int .i64)]), (1, .agg [(.int .i64), (.int .i64), (.int .i64), (.int .i64), (.int .i64), (.int .i64)])], blocks := [], ren := [] }, res := { temps := [(0, .agg [(.int .i64), (.int .i64), (.int .i64)])], blocks := [], ren := [] }, f := fun k v => f75 k v.1.1.1 v.1.1.2.1 v.1.1.2.2.1 v.1.1.2.2.2.1 v.1.1.2.2.2.2.1 v.1.1.2.2.2.2.2.1 v.1.2.1.1 v.1.2.1.2.1 v.1.2.1.2.2.1 v.1.2.1.2.2.2.1 v.1.2.1.2.2.2.2.1 v.1.2.1.2.2.2.2.2.1 }
def gf75 (k : Nat) : Full := { tt := tt, n := 16, fns := [ef85, ef86], trunc := [], tails := [], touch := [(1, [(11, [4])])], opens := [], shapes := [], closes := [], k := k, glob := glob, cuts := [], joins := [] }
theorem qf75 (k : Nat) : AllP (bodyL (gf75 k) Tryd.f75) := by
  have h : True = AllP (bodyL (gf75 k) Tryd.f75) := by kernel_rfl
  exact Eq.mp h trivial
theorem sf75 : Sound Tryd.prog glob ef75 := sound_of base (fn := Tryd.f75) Tryd.func75 (by kernel_rfl) gf75 (fun _ => ⟨rfl, rfl⟩) (fun k j => ⟨sf85.at j, sf86.at j, trivial⟩) qf75 (fun k v => by kernel_rfl)

/-! impl.signOf -/
def f87 (k : Nat) (a1 : Int) : Option ((Int × Unit) × Unit) :=
  let x2 : Int := (bif decide ((bif decide (a1 < 1) then a1 else 1) > (-1)) then (bif decide (a1 < 1) then a1 else 1) else (-1))
  some ((x2, ()), ())
def ef87 : Entry := { id := 87, ar := { temps := [(0, .c (.int .i64))], blocks := [], ren := [] }, res := { temps := [(0, .c (.int .i64))], blocks := [], ren := [] }, f := fun k v => f87 k v.1.1 }
def gf87 (k : Nat) : Full := { tt := tt, n := 6, fns := [], trunc := [], tails := [], touch := [], opens := [], shapes := [], closes := [], k := k, glob := glob, cuts := [], joins := [] }
theorem qf87 (k : Nat) : AllP (bodyL (gf87 k) Tryd.f87) := by
  have h : True = AllP (bodyL (gf87 k) Tryd.f87) := by kernel_rfl
  exact Eq.mp h trivial
theorem sf87 : Sound Tryd.prog glob ef87 := sound_of base (fn := Tryd.f87) Tryd.func87 (by kernel_rfl) gf87 (fun _ => ⟨rfl, rfl⟩) (fun k j => trivial) qf87 (fun k v => by kernel_rfl)

/-! impl.abs -/
def f93 (k : Nat) (a1 : Int) : Option ((Int × Unit) × Unit) :=
  let x2 : Int := (bif decide ((wr .i64 (0 - a1)) > a1) then (wr .i64 (0 - a1)) else a1)
  some ((x2, ()), ())
def ef93 : Entry := { id := 93, ar := { temps := [(0, .c (.int .i64))], blocks := [], ren := [] }, res := { temps := [(0, .c (.int .i64))], blocks := [], ren := [] }, f := fun k v => f93 k v.1.1 }
def gf93 (k : Nat) : Full := { tt := tt, n := 7, fns := [], trunc := [], tails := [], touch := [], opens := [], shapes := [], closes := [], k := k, glob := glob, cuts := [], joins := [] }
theorem qf93 (k : Nat) : AllP (bodyL (gf93 k) Tryd.f93) := by
  have h : True = AllP (bodyL (gf93 k) Tryd.f93) := by kernel_rfl
  exact Eq.mp h trivial
theorem sf93 : Sound Tryd.prog glob ef93 := sound_of base (fn := Tryd.f93) Tryd.func93 (by kernel_rfl) gf93 (fun _ => ⟨rfl, rfl⟩) (fun k j => trivial) qf93 (fun k v => by kernel_rfl)

/-! bits.Mul64 -/
def f92 (k : Nat) (a1 : Int) (a2 : Int) : Option ((Int × Int × Unit) × Unit) :=
  let x8 : Int := (wr .u64 ((iand .u64 a1 4294967295) * (iand .u64 a2 4294967295)))
  let x9 : Int := (wr .u64 ((ishr .u64 a1 32) * (iand .u64 a2 4294967295)))
  let x10 : Int := (iand .u64 (wr .u64 (x9 + (ishr .u64 x8 32))) 4294967295)
  let x11 : Int := (ishr .u64 (wr .u64 (x9 + (ishr .u64 x8 32))) 32)
  let x12 : Int := (wr .u64 ((iand .u64 a1 4294967295) * (ishr .u64 a2 32)))
  let x13 : Int := (wr .u64 ((ishr .u64 a1 32) * (ishr .u64 a2 32)))
  let x14 : Int := (wr .u64 ((wr .u64 (x13 + x11)) + (ishr .u64 (wr .u64 (x10 + x12)) 32)))
  some ((x14, (wr .u64 (a1 * a2)), ()), ())
def ef92 : Entry := { id := 92, ar := { temps := [(0, .c (.int .u64)), (1, .c (.int .u64))], blocks := [], ren := [] }, res := { temps := [(0, .c (.int .u64)), (1, .c (.int .u64))], blocks := [], ren := [] }, f := fun k v => f92 k v.1.1 v.1.2.1 }
def gf92 (k : Nat) : Full := { tt := tt, n := 51, fns := [], trunc := [], tails := [], touch := [], opens := [], shapes := [], closes := [], k := k, glob := glob, cuts := [], joins := [] }
theorem qf92 (k : Nat) : AllP (bodyL (gf92 k) Tryd.f92) := by
  have h : True = AllP (bodyL (gf92 k) Tryd.f92) := by kernel_rfl
  exact Eq.mp h trivial
theorem sf92 : Sound Tryd.prog glob ef92 := sound_of base (fn := Tryd.f92) Tryd.func92 (by kernel_rfl) gf92 (fun _ => ⟨rfl, rfl⟩) (fun k j => trivial) qf92 (fun k v => by kernel_rfl)

/-! impl.isGreater -/
def f88 (k : Nat) (a1 : Int) (a2 : Int) : Option ((Bool × Unit) × Unit) :=
  (f93 k a1).bind fun x8 =>
  (f93 k a1).bind fun x9 =>
  (f92 k (wr .u64 x8.1.1) (wr .u64 x9.1.1)).bind fun x10 =>
  (f93 k a2).bind fun x11 =>
  (f93 k a2).bind fun x12 =>
  (f92 k (wr .u64 x11.1.1) (wr .u64 x12.1.1)).bind fun x13 =>
  let x14 : Int := (ior .u64 (ishl .u64 x13.1.1 1) (ishr .u64 x13.1.2.1 63))
  bif (decide (x10.1.1 > x14)) then
    some ((true, ()), ())
  else
    bif (x10.1.1 == x14) then
      let x15 : Bool := (decide (x10.1.2.1 > (ishl .u64 x13.1.2.1 1)))
      some ((x15, ()), ())
    else
      some ((false, ()), ())
def ef88 : Entry := { id := 88, ar := { temps := [(0, .c (.int .i64)), (1, .c (.int .i64))], blocks := [], ren := [] }, res := { temps := [(0, .c .bool)], blocks := [], ren := [] }, f := fun k v => f88 k v.1.1 v.1.2.1 }
def gf88 (k : Nat) : Full := { tt := tt, n := 49, fns := [ef93, ef92], trunc := [], tails := [], touch := [], opens := [], shapes := [], closes := [], k := k, glob := glob, cuts := [], joins := [] }
theorem qf88 (k : Nat) : AllP (bodyL (gf88 k) Tryd.f88) := by
  have h : True = AllP (bodyL (gf88 k) Tryd.f88) := by kernel_rfl
  exact Eq.mp h trivial
theorem sf88 : Sound Tryd.prog glob ef88 := sound_of base (fn := Tryd.f88) Tryd.func88 (by kernel_rfl) gf88 (fun _ => ⟨rfl, rfl⟩) (fun k j => ⟨sf93.at j, sf92.at j, trivial⟩) qf88 (fun k v => by kernel_rfl)

/-! impl.Num).sign -/
def f76 (k : Nat) (a1 : Int) (a2 : Int) (a3 : Int) : Option ((Int × Unit) × Unit) :=
  (f87 k a1).bind fun x4 =>
  (f87 k a2).bind fun x5 =>
  bif (x4.1.1 == x5.1.1) then
    some ((x4.1.1, ()), ())
  else
    bif (x5.1.1 == 0) then
      some ((x4.1.1, ()), ())
    else
      bif (x4.1.1 == 0) then
        some ((x5.1.1, ()), ())
      else
        (f88 k a1 a2).bind fun x6 =>
        bif (!x6.1.1) then
          some ((x5.1.1, ()), ())
        else
          some ((x4.1.1, ()), ())
def ef76 : Entry := { id := 76, ar := { temps := [(0, .agg [(.int .i64), (.int .i64), (.int .i64)])], blocks := [], ren := [] }, res := { temps := [(0, .c (.int .i64))], blocks := [], ren := [] }, f := fun k v => f76 k v.1.1.1 v.1.1.2.1 v.1.1.2.2.1 }
def gf76 (k : Nat) : Full := { tt := tt, n := 33, fns := [ef87, ef88], trunc := [], tails := [], touch := [], opens := [], shapes := [], closes := [], k := k, glob := glob, cuts := [], joins := [] }
theorem qf76 (k : Nat) : AllP (bodyL (gf76 k) Tryd.f76) := by
  have h : True = AllP (bodyL (gf76 k) Tryd.f76) := by kernel_rfl
  exact Eq.mp h trivial
theorem sf76 : Sound Tryd.prog glob ef76 := sound_of base (fn := Tryd.f76) Tryd.func76 (by kernel_rfl) gf76 (fun _ => ⟨rfl, rfl⟩) (fun k j => ⟨sf87.at j, sf88.at j, trivial⟩) qf76 (fun k v => by kernel_rfl)

/-! impl.direction -/
def f61_l3 {ρ : Type} (k : Nat) : Nat → Int → Int → Int → Int → Int → Int → Int → (((Unit × Unit) → Option ρ) × (((Int × Unit) × Unit) → Option ρ) × Unit) → Option ρ
  | 0, _, _, _, _, _, _, _, _ => none
  | j + 1, v19, v20, v21, v22, v23, v24, v25, nx =>
    bif (decide (v19 < 16)) then
      (f73 k v19).bind fun x26 =>
      (f74 k x26.1.1.1 x26.1.1.2.1 x26.1.1.2.2.1 x26.1.1.2.2.2.1 x26.1.1.2.2.2.2.1 x26.1.1.2.2.2.2.2.1 v20 v21 v22 v23 v24 v25).bind fun x27 =>
      let x28 : Bool := ((x27.1.1.1 == 0) && ((x27.1.1.2.1 == 0) && ((x27.1.1.2.2.1 == 0) && true)))
      bif x28 then
        (f75 k x26.1.1.1 x26.1.1.2.1 x26.1.1.2.2.1 x26.1.1.2.2.2.1 x26.1.1.2.2.2.2.1 x26.1.1.2.2.2.2.2.1 v20 v21 v22 v23 v24 v25).bind fun x29 =>
        (f76 k x29.1.1.1 x29.1.1.2.1 x29.1.1.2.2.1).bind fun x30 =>
        bif (decide (x30.1.1 > 0)) then
          nx.2.1 ((v19, ()), ())
        else
          f61_l3 k j (wr .i64 (v19 + 1)) v20 v21 v22 v23 v24 v25 nx
      else
        f61_l3 k j (wr .i64 (v19 + 1)) v20 v21 v22 v23 v24 v25 nx
    else
      nx.1 ((), ())
def cf61_l3 (k : Nat) : Cut := { sp := { temps := [(5, .c (.box 5000000)), (11, .c (.int .i64))], blocks := [(5000000, .box 49 [(.int .i64), (.int .i64), (.int .i64), (.int .i64), (.int .i64), (.int .i64)])], ren := [] }, outs := [(.exit 0, { temps := [], blocks := [], ren := [] }), (.ret, { temps := [(4, .c (.int .i64))], blocks := [], ren := [] })], F := fun ρ j v nx => f61_l3 k j v.1.2.1 v.2.1.1 v.2.1.2.1 v.2.1.2.2.1 v.2.1.2.2.2.1 v.2.1.2.2.2.2.1 v.2.1.2.2.2.2.2.1 nx }
def f61 (k : Nat) (a1 : Int) (a2 : Int) (a3 : Int) (a4 : Int) (a5 : Int) (a6 : Int) (a7 : Int) (a8 : Int) (a9 : Int) (a10 : Int) (a11 : Int) (a12 : Int) : Option ((Int × Unit) × Unit) :=
  (f72 k a7 a8 a9 a10 a11 a12 a1 a2 a3 a4 a5 a6).bind fun x16 =>
  f61_l3 k k 0 x16.1.1.1 x16.1.1.2.1 x16.1.1.2.2.1 x16.1.1.2.2.2.1 x16.1.1.2.2.2.2.1 x16.1.1.2.2.2.2.2.1
    (fun x17 : (Unit × Unit) =>
      some (((-1), ()), ()),
    fun x18 : ((Int × Unit) × Unit) =>
      some ((x18.1.1, ()), ()),
    ())
def ef61 : Entry := { id := 61, ar := { temps := [(0, .agg [(.int .i64), (.int .i64), (.int .i64), (.int .i64), (.int .i64), (.int .i64)]), (1, .agg [(.int .i64), (.int .i64), (.int .i64), (.int .i64), (.int .i64), (.int .i64)])], blocks := [], ren := [] }, res := { temps := [(0, .c (.int .i64))], blocks := [], ren := [] }, f := fun k v => f61 k v.1.1.1 v.1.1.2.1 v.1.1.2.2.1 v.1.1.2.2.2.1 v.1.1.2.2.2.2.1 v.1.1.2.2.2.2.2.1 v.1.2.1.1 v.1.2.1.2.1 v.1.2.1.2.2.1 v.1.2.1.2.2.2.1 v.1.2.1.2.2.2.2.1 v.1.2.1.2.2.2.2.2.1 }
def gf61 (k : Nat) : Full := { tt := tt, n := 30, fns := [ef72, ef73, ef74, ef75, ef76], trunc := [], tails := [], touch := [], opens := [], shapes := [], closes := [], k := k, glob := glob, cuts := [(3, (cf61_l3 k))], joins := [] }
theorem of61_l3 (k : Nat) : CutOk (gf61 k) (cf61_l3 k) (theLoop Tryd.f61 3) := fun ρ v nx => ⟨by kernel_rfl, fun j => by kernel_rfl⟩
theorem qf61 (k : Nat) : AllP (bodyL (gf61 k) Tryd.f61) := by
  have h : (CutOk (gf61 k) (cf61_l3 k) (theLoop Tryd.f61 3) ∧ True) = AllP (bodyL (gf61 k) Tryd.f61) := by kernel_rfl
  exact Eq.mp h (And.intro (of61_l3 k) (trivial))
theorem sf61 : Sound Tryd.prog glob ef61 := sound_of base (fn := Tryd.f61) Tryd.func61 (by kernel_rfl) gf61 (fun _ => ⟨rfl, rfl⟩) (fun k j => ⟨sf72.at j, sf73.at j, sf74.at j, sf75.at j, sf76.at j, trivial⟩) qf61 (fun k v => by kernel_rfl)

/-! impl.turned -/
def f62 (k : Nat) (a1 : Int) : Option ((Int × Unit) × Unit) :=
  some (((iand .i64 a1 15), ()), ())
def ef62 : Entry := { id := 62, ar := { temps := [(0, .c (.int .i64))], blocks := [], ren := [] }, res := { temps := [(0, .c (.int .i64))], blocks := [], ren := [] }, f := fun k v => f62 k v.1.1 }
def gf62 (k : Nat) : Full := { tt := tt, n := 5, fns := [], trunc := [], tails := [], touch := [], opens := [], shapes := [], closes := [], k := k, glob := glob, cuts := [], joins := [] }
theorem qf62 (k : Nat) : AllP (bodyL (gf62 k) Tryd.f62) := by
  have h : True = AllP (bodyL (gf62 k) Tryd.f62) := by kernel_rfl
  exact Eq.mp h trivial
theorem sf62 : Sound Tryd.prog glob ef62 := sound_of base (fn := Tryd.f62) Tryd.func62 (by kernel_rfl) gf62 (fun _ => ⟨rfl, rfl⟩) (fun k j => trivial) qf62 (fun k v => by kernel_rfl)

/-! impl.isConvex -/
def f48_l7 {ρ : Type} (k : Nat) : Nat → (List ((Int × (Int × Int)) × (Int × (Int × Int)))) → Int → Int → Int → (List ((Int × (Int × Int)) × (Int × (Int × Int)))) → Int → Int → ((((Int × Unit) × Unit) → Option ρ) × (((Bool × Unit) × Unit) → Option ρ) × Unit) → Option ρ
  | 0, _, _, _, _, _, _, _, _ => none
  | j + 1, v23, v24, v25, v26, v27, v28, v29, nx =>
    bif (decide (v29 < v28)) then
      (getI v27 v29).bind fun x30 =>
      bif decide (v24 = 0) then
        none
      else
        (getI v23 ((wr .i64 (v29 + 1)).tmod v24)).bind fun x31 =>
        (f61 k x30.1.1 x30.1.2.1 x30.1.2.2 x30.2.1 x30.2.2.1 x30.2.2.2 x31.1.1 x31.1.2.1 x31.1.2.2 x31.2.1 x31.2.2.1 x31.2.2.2).bind fun x32 =>
        (f62 k (wr .i64 (x32.1.1 - v26))).bind fun x33 =>
        bif (decide (x32.1.1 < 0)) then
          nx.2.1 ((false, ()), ())
        else
          bif (decide (v26 < 0)) then
            nx.2.1 ((false, ()), ())
          else
            (f20 k x33.1.1 1 7).bind fun x34 =>
            bif (!x34.1.1) then
              nx.2.1 ((false, ()), ())
            else
              f48_l7 k j v23 v24 (wr .i64 (v25 + x33.1.1)) x32.1.1 v27 v28 (wr .i64 (v29 + 1)) nx
    else
      nx.1 ((v25, ()), ())
def cf48_l7 (k : Nat) : Cut := { sp := { temps := [(0, .c (.sl (.pair (.pair (.int .i64) (.pair (.int .i64) (.int .i64))) (.pair (.int .i64) (.pair (.int .i64) (.int .i64)))))), (3, .c (.int .i64)), (4, .c (.int .i64)), (5, .c (.int .i64)), (23, .c (.sl (.pair (.pair (.int .i64) (.pair (.int .i64) (.int .i64))) (.pair (.int .i64) (.pair (.int .i64) (.int .i64)))))), (24, .c (.int .i64)), (25, .c (.int .i64))], blocks := [], ren := [] }, outs := [(.exit 0, { temps := [(4, .c (.int .i64))], blocks := [], ren := [] }), (.ret, { temps := [(2, .c .bool)], blocks := [], ren := [] })], F := fun ρ j v nx => f48_l7 k j v.1.1 v.1.2.1 v.1.2.2.1 v.1.2.2.2.1 v.1.2.2.2.2.1 v.1.2.2.2.2.2.1 v.1.2.2.2.2.2.2.1 nx }
def f48 (k : Nat) (a1 : (List ((Int × (Int × Int)) × (Int × (Int × Int))))) : Option ((Bool × Unit) × Unit) :=
  bif (decide ((a1.length : Int) < 3)) then
    some ((false, ()), ())
  else
    (getI a1 (wr .i64 ((a1.length : Int) - 1))).bind fun x18 =>
    (getI a1 0).bind fun x19 =>
    (f61 k x18.1.1 x18.1.2.1 x18.1.2.2 x18.2.1 x18.2.2.1 x18.2.2.2 x19.1.1 x19.1.2.1 x19.1.2.2 x19.2.1 x19.2.2.1 x19.2.2.2).bind fun x20 =>
    f48_l7 k k a1 (a1.length : Int) 0 x20.1.1 a1 (a1.length : Int) 0
      (fun x21 : ((Int × Unit) × Unit) =>
        some (((x21.1.1 == 16), ()), ()),
      fun x22 : ((Bool × Unit) × Unit) =>
        some ((x22.1.1, ()), ()),
      ())
def ef48 : Entry := { id := 48, ar := { temps := [(0, .c (.sl (.pair (.pair (.int .i64) (.pair (.int .i64) (.int .i64))) (.pair (.int .i64) (.pair (.int .i64) (.int .i64))))))], blocks := [], ren := [] }, res := { temps := [(0, .c .bool)], blocks := [], ren := [] }, f := fun k v => f48 k v.1.1 }
def gf48 (k : Nat) : Full := { tt := tt, n := 61, fns := [ef61, ef62, ef20], trunc := [], tails := [], touch := [], opens := [], shapes := [], closes := [], k := k, glob := glob, cuts := [(7, (cf48_l7 k))], joins := [] }
theorem of48_l7 (k : Nat) : CutOk (gf48 k) (cf48_l7 k) (theLoop Tryd.f48 7) := fun ρ v nx => ⟨by kernel_rfl, fun j => by kernel_rfl⟩
theorem qf48 (k : Nat) : AllP (bodyL (gf48 k) Tryd.f48) := by
  have h : (CutOk (gf48 k) (cf48_l7 k) (theLoop Tryd.f48 7) ∧ True) = AllP (bodyL (gf48 k) Tryd.f48) := by kernel_rfl
  exact Eq.mp h (And.intro (of48_l7 k) (trivial))
theorem sf48 : Sound Tryd.prog glob ef48 := sound_of base (fn := Tryd.f48) Tryd.func48 (by kernel_rfl) gf48 (fun _ => ⟨rfl, rfl⟩) (fun k j => ⟨sf61.at j, sf62.at j, sf20.at j, trivial⟩) qf48 (fun k v => by kernel_rfl)

/-! impl.Num).compare -/
def f77 (k : Nat) (a1 : Int) (a2 : Int) (a3 : Int) (a4 : Int) (a5 : Int) (a6 : Int) : Option ((Int × Unit) × Unit) :=
  (f83 k a1 a2 a3 a4 a5 a6).bind fun x3 =>
  (f76 k x3.1.1.1 x3.1.1.2.1 x3.1.1.2.2.1).bind fun x4 =>
  some ((x4.1.1, ()), ())
def ef77 : Entry := { id := 77, ar := { temps := [(0, .agg [(.int .i64), (.int .i64), (.int .i64)]), (1, .agg [(.int .i64), (.int .i64), (.int .i64)])], blocks := [], ren := [] }, res := { temps := [(0, .c (.int .i64))], blocks := [], ren := [] }, f := fun k v => f77 k v.1.1.1 v.1.1.2.1 v.1.1.2.2.1 v.1.2.1.1 v.1.2.1.2.1 v.1.2.1.2.2.1 }
def gf77 (k : Nat) : Full := { tt := tt, n := 9, fns := [ef83, ef76], trunc := [], tails := [], touch := [], opens := [], shapes := [], closes := [], k := k, glob := glob, cuts := [], joins := [] }
theorem qf77 (k : Nat) : AllP (bodyL (gf77 k) Tryd.f77) := by
  have h : True = AllP (bodyL (gf77 k) Tryd.f77) := by kernel_rfl
  exact Eq.mp h trivial
theorem sf77 : Sound Tryd.prog glob ef77 := sound_of base (fn := Tryd.f77) Tryd.func77 (by kernel_rfl) gf77 (fun _ => ⟨rfl, rfl⟩) (fun k j => ⟨sf83.at j, sf76.at j, trivial⟩) qf77 (fun k v => by kernel_rfl)

/-! impl.Point).compare -/
def f63 (k : Nat) (a1 : Int) (a2 : Int) (a3 : Int) (a4 : Int) (a5 : Int) (a6 : Int) (a7 : Int) (a8 : Int) (a9 : Int) (a10 : Int) (a11 : Int) (a12 : Int) : Option ((Int × Unit) × Unit) :=
  (f77 k a1 a2 a3 a7 a8 a9).bind fun x3 =>
  bif (x3.1.1 != 0) then
    some ((x3.1.1, ()), ())
  else
    (f77 k a4 a5 a6 a10 a11 a12).bind fun x4 =>
    some ((x4.1.1, ()), ())
def ef63 : Entry := { id := 63, ar := { temps := [(0, .agg [(.int .i64), (.int .i64), (.int .i64), (.int .i64), (.int .i64), (.int .i64)]), (1, .agg [(.int .i64), (.int .i64), (.int .i64), (.int .i64), (.int .i64), (.int .i64)])], blocks := [], ren := [] }, res := { temps := [(0, .c (.int .i64))], blocks := [], ren := [] }, f := fun k v => f63 k v.1.1.1 v.1.1.2.1 v.1.1.2.2.1 v.1.1.2.2.2.1 v.1.1.2.2.2.2.1 v.1.1.2.2.2.2.2.1 v.1.2.1.1 v.1.2.1.2.1 v.1.2.1.2.2.1 v.1.2.1.2.2.2.1 v.1.2.1.2.2.2.2.1 v.1.2.1.2.2.2.2.2.1 }
def gf63 (k : Nat) : Full := { tt := tt, n := 19, fns := [ef77], trunc := [], tails := [], touch := [], opens := [], shapes := [], closes := [], k := k, glob := glob, cuts := [], joins := [] }
theorem qf63 (k : Nat) : AllP (bodyL (gf63 k) Tryd.f63) := by
  have h : True = AllP (bodyL (gf63 k) Tryd.f63) := by kernel_rfl
  exact Eq.mp h trivial
theorem sf63 : Sound Tryd.prog glob ef63 := sound_of base (fn := Tryd.f63) Tryd.func63 (by kernel_rfl) gf63 (fun _ => ⟨rfl, rfl⟩) (fun k j => ⟨sf77.at j, trivial⟩) qf63 (fun k v => by kernel_rfl)

/-! impl.leastCorner -/
def f49_l3 {ρ : Type} (k : Nat) : Nat → (List ((Int × (Int × Int)) × (Int × (Int × Int)))) → Int → (List ((Int × (Int × Int)) × (Int × (Int × Int)))) → Int → Int → ((((Int × Unit) × Unit) → Option ρ) × Unit) → Option ρ
  | 0, _, _, _, _, _, _ => none
  | j + 1, v11, v12, v13, v14, v15, nx =>
    bif (decide (v15 < v14)) then
      (getI v13 v15).bind fun x16 =>
      (getI v11 v12).bind fun x17 =>
      (f63 k x16.1.1 x16.1.2.1 x16.1.2.2 x16.2.1 x16.2.2.1 x16.2.2.2 x17.1.1 x17.1.2.1 x17.1.2.2 x17.2.1 x17.2.2.1 x17.2.2.2).bind fun x18 =>
      bif (decide (x18.1.1 < 0)) then
        f49_l3 k j v11 v15 v13 v14 (wr .i64 (v15 + 1)) nx
      else
        f49_l3 k j v11 v12 v13 v14 (wr .i64 (v15 + 1)) nx
    else
      nx.1 ((v12, ()), ())
def cf49_l3 (k : Nat) : Cut := { sp := { temps := [(0, .c (.sl (.pair (.pair (.int .i64) (.pair (.int .i64) (.int .i64))) (.pair (.int .i64) (.pair (.int .i64) (.int .i64)))))), (3, .c (.int .i64)), (6, .c (.sl (.pair (.pair (.int .i64) (.pair (.int .i64) (.int .i64))) (.pair (.int .i64) (.pair (.int .i64) (.int .i64)))))), (7, .c (.int .i64)), (8, .c (.int .i64))], blocks := [], ren := [] }, outs := [(.exit 0, { temps := [(3, .c (.int .i64))], blocks := [], ren := [] })], F := fun ρ j v nx => f49_l3 k j v.1.1 v.1.2.1 v.1.2.2.1 v.1.2.2.2.1 v.1.2.2.2.2.1 nx }
def f49 (k : Nat) (a1 : (List ((Int × (Int × Int)) × (Int × (Int × Int))))) : Option ((Int × Unit) × Unit) :=
  f49_l3 k k a1 0 a1 (a1.length : Int) 0
    (fun x10 : ((Int × Unit) × Unit) =>
      some ((x10.1.1, ()), ()),
    ())
def ef49 : Entry := { id := 49, ar := { temps := [(0, .c (.sl (.pair (.pair (.int .i64) (.pair (.int .i64) (.int .i64))) (.pair (.int .i64) (.pair (.int .i64) (.int .i64))))))], blocks := [], ren := [] }, res := { temps := [(0, .c (.int .i64))], blocks := [], ren := [] }, f := fun k v => f49 k v.1.1 }
def gf49 (k : Nat) : Full := { tt := tt, n := 23, fns := [ef63], trunc := [], tails := [], touch := [], opens := [], shapes := [], closes := [], k := k, glob := glob, cuts := [(3, (cf49_l3 k))], joins := [] }
theorem of49_l3 (k : Nat) : CutOk (gf49 k) (cf49_l3 k) (theLoop Tryd.f49 3) := fun ρ v nx => ⟨by kernel_rfl, fun j => by kernel_rfl⟩
theorem qf49 (k : Nat) : AllP (bodyL (gf49 k) Tryd.f49) := by
  have h : (CutOk (gf49 k) (cf49_l3 k) (theLoop Tryd.f49 3) ∧ True) = AllP (bodyL (gf49 k) Tryd.f49) := by kernel_rfl
  exact Eq.mp h (And.intro (of49_l3 k) (trivial))
theorem sf49 : Sound Tryd.prog glob ef49 := sound_of base (fn := Tryd.f49) Tryd.func49 (by kernel_rfl) gf49 (fun _ => ⟨rfl, rfl⟩) (fun k j => ⟨sf63.at j, trivial⟩) qf49 (fun k v => by kernel_rfl)

/-! impl.ValidPolygon -/
def f33 (k : Nat) (a1 : (List ((Int × (Int × Int)) × (Int × (Int × Int))))) : Option ((Bool × Unit) × Unit) :=
  (f46 k a1).bind fun x6 =>
  (f20 k x6.1.1 3 16).bind fun x7 =>
  bif x7.1.1 then
    (f47 k a1).bind fun x8 =>
    bif x8.1.1 then
      (f48 k a1).bind fun x9 =>
      bif x9.1.1 then
        (f49 k a1).bind fun x10 =>
        some (((x10.1.1 == 0), ()), ())
      else
        some ((false, ()), ())
    else
      some ((false, ()), ())
  else
    some ((false, ()), ())
def ef33 : Entry := { id := 33, ar := { temps := [(0, .c (.sl (.pair (.pair (.int .i64) (.pair (.int .i64) (.int .i64))) (.pair (.int .i64) (.pair (.int .i64) (.int .i64))))))], blocks := [], ren := [] }, res := { temps := [(0, .c .bool)], blocks := [], ren := [] }, f := fun k v => f33 k v.1.1 }
def gf33 (k : Nat) : Full := { tt := tt, n := 19, fns := [ef46, ef20, ef47, ef48, ef49], trunc := [], tails := [], touch := [], opens := [], shapes := [], closes := [], k := k, glob := glob, cuts := [], joins := [] }
theorem qf33 (k : Nat) : AllP (bodyL (gf33 k) Tryd.f33) := by
  have h : True = AllP (bodyL (gf33 k) Tryd.f33) := by kernel_rfl
  exact Eq.mp h trivial
theorem sf33 : Sound Tryd.prog glob ef33 := sound_of base (fn := Tryd.f33) Tryd.func33 (by kernel_rfl) gf33 (fun _ => ⟨rfl, rfl⟩) (fun k j => ⟨sf46.at j, sf20.at j, sf47.at j, sf48.at j, sf49.at j, trivial⟩) qf33 (fun k v => by kernel_rfl)

/-! impl.Point] -/
def f34 (k : Nat) (a1 : (List ((Int × (Int × Int)) × (Int × (Int × Int))))) : Option ((Unit × Unit) × ((List ((Int × (Int × Int)) × (Int × (Int × Int)))) × Unit)) :=
  bif decide ((([] : List ((Int × (Int × Int)) × (Int × (Int × Int)))).length + a1.length) * 48 ≤ roomy) then
    let x2 : (List ((Int × (Int × Int)) × (Int × (Int × Int)))) := (([] : List ((Int × (Int × Int)) × (Int × (Int × Int)))) ++ a1)
    some (((), ()), (x2, ()))
  else
    none
def ef34 : Entry := { id := 34, ar := { temps := [(0, .c (.slx (.pair (.pair (.int .i64) (.pair (.int .i64) (.int .i64))) (.pair (.int .i64) (.pair (.int .i64) (.int .i64))))))], blocks := [], ren := [] }, res := { temps := [(0, .c (.row 4000000))], blocks := [(4000000, .row 49 (.pair (.pair (.int .i64) (.pair (.int .i64) (.int .i64))) (.pair (.int .i64) (.pair (.int .i64) (.int .i64)))))], ren := [] }, f := fun k v => f34 k v.1.1 }
def gf34 (k : Nat) : Full := { tt := tt, n := 8, fns := [], trunc := [], tails := [], touch := [], opens := [], shapes := [], closes := [], k := k, glob := glob, cuts := [], joins := [] }
theorem qf34 (k : Nat) : AllP (bodyL (gf34 k) Tryd.f34) := by
  have h : True = AllP (bodyL (gf34 k) Tryd.f34) := by kernel_rfl
  exact Eq.mp h trivial
theorem sf34 : Sound Tryd.prog glob ef34 := sound_of base (fn := Tryd.f34) Tryd.func34 (by kernel_rfl) gf34 (fun _ => ⟨rfl, rfl⟩) (fun k j => trivial) qf34 (fun k v => by kernel_rfl)

/-! impl.Point] -/
def f34a (k : Nat) : Option ((Unit × Unit) × ((List ((Int × (Int × Int)) × (Int × (Int × Int)))) × Unit)) :=
  some (((), ()), (([] : List ((Int × (Int × Int)) × (Int × (Int × Int)))), ()))
def ef34a : Entry := { id := 34, ar := { temps := [(0, .c (.lit .nils))], blocks := [], ren := [] }, res := { temps := [(0, .c (.row 4000000))], blocks := [(4000000, .row 49 (.pair (.pair (.int .i64) (.pair (.int .i64) (.int .i64))) (.pair (.int .i64) (.pair (.int .i64) (.int .i64)))))], ren := [] }, f := fun k v => f34a k }
def gf34a (k : Nat) : Full := { tt := tt, n := 8, fns := [], trunc := [], tails := [], touch := [], opens := [], shapes := [], closes := [], k := k, glob := glob, cuts := [], joins := [] }
theorem qf34a (k : Nat) : AllP (bodyL (gf34a k) Tryd.f34) := by
  have h : True = AllP (bodyL (gf34a k) Tryd.f34) := by kernel_rfl
  exact Eq.mp h trivial
theorem sf34a : Sound Tryd.prog glob ef34a := sound_of base (fn := Tryd.f34) Tryd.func34 (by kernel_rfl) gf34a (fun _ => ⟨rfl, rfl⟩) (fun k j => trivial) qf34a (fun k v => by kernel_rfl)

/-! impl.Point] -/
def ef34b : Entry := { id := 34, ar := { temps := [(0, .c (.sl (.pair (.pair (.int .i64) (.pair (.int .i64) (.int .i64))) (.pair (.int .i64) (.pair (.int .i64) (.int .i64))))))], blocks := [], ren := [] }, res := { temps := [(0, .c (.row 4000000))], blocks := [(4000000, .row 49 (.pair (.pair (.int .i64) (.pair (.int .i64) (.int .i64))) (.pair (.int .i64) (.pair (.int .i64) (.int .i64)))))], ren := [] }, f := fun k v => f34 k v.1.1 }
theorem nf34b (k : Nat) : f34a k = f34 k [] := by kernel_rfl
theorem sf34b : Sound Tryd.prog glob ef34b := sound_nil (glob := glob) (id := 34) (u := (.pair (.pair (.int .i64) (.pair (.int .i64) (.int .i64))) (.pair (.int .i64) (.pair (.int .i64) (.int .i64))))) (res := { temps := [(0, .c (.row 4000000))], blocks := [(4000000, .row 49 (.pair (.pair (.int .i64) (.pair (.int .i64) (.int .i64))) (.pair (.int .i64) (.pair (.int .i64) (.int .i64)))))], ren := [] }) (fN := fun k v => f34a k) (fX := fun k v => f34 k v.1.1) (fS := fun k v => f34 k v.1.1) sf34a sf34 fun k l o (h : f34 k l = some o) => ⟨h, fun e => (nf34b k).trans ((congrArg (f34 k) e).symm.trans h)⟩

/-! impl.Identity -/
def f35 (k : Nat) : Option (((Int × Bool × Int × Int × Int × Int × Int × Int × Unit) × Unit) × Unit) :=
  some (((0, false, 0, 0, 0, 0, 0, 0, ()), ()), ())
def ef35 : Entry := { id := 35, ar := { temps := [], blocks := [], ren := [] }, res := { temps := [(0, .agg [(.int .i64), .bool, (.int .i64), (.int .i64), (.int .i64), (.int .i64), (.int .i64), (.int .i64)])], blocks := [], ren := [] }, f := fun k v => f35 k }
def gf35 (k : Nat) : Full := { tt := tt, n := 2, fns := [], trunc := [], tails := [], touch := [], opens := [], shapes := [], closes := [], k := k, glob := glob, cuts := [], joins := [] }
theorem qf35 (k : Nat) : AllP (bodyL (gf35 k) Tryd.f35) := by
  have h : True = AllP (bodyL (gf35 k) Tryd.f35) := by kernel_rfl
  exact Eq.mp h trivial
theorem sf35 : Sound Tryd.prog glob ef35 := sound_of base (fn := Tryd.f35) Tryd.func35 (by kernel_rfl) gf35 (fun _ => ⟨rfl, rfl⟩) (fun k j => trivial) qf35 (fun k v => by kernel_rfl)

/-! impl.StartState -/
def f22 (k : Nat) (a1 : (List ((Int × (Int × Int)) × (Int × (Int × Int))))) : Option (((Unit × Unit × Unit × Unit) × Int × Unit) × ((List ((Int × (Int × Int)) × (Int × (Int × Int)))) × (List ((List ((Int × (Int × Int)) × (Int × (Int × Int)))) × (Int × (Bool × ((Int × (Int × Int)) × (Int × (Int × Int))))))) × (List Int) × Unit)) :=
  (f33 k a1).bind fun x7 =>
  bif (!x7.1.1) then
    some ((((), (), (), ()), 1, ()), (([] : List ((Int × (Int × Int)) × (Int × (Int × Int)))), ([] : List ((List ((Int × (Int × Int)) × (Int × (Int × Int)))) × (Int × (Bool × ((Int × (Int × Int)) × (Int × (Int × Int))))))), ([] : List Int), ()))
  else
    (f34 k a1).bind fun x8 =>
    (f34 k a1).bind fun x9 =>
    (f35 k).bind fun x10 =>
    some ((((), (), (), ()), 0, ()), (x8.2.1, [(x9.2.1, (x10.1.1.1, (x10.1.1.2.1, ((x10.1.1.2.2.1, (x10.1.1.2.2.2.1, x10.1.1.2.2.2.2.1)), (x10.1.1.2.2.2.2.2.1, (x10.1.1.2.2.2.2.2.2.1, x10.1.1.2.2.2.2.2.2.2.1))))))], [0], ()))
def ef22 : Entry := { id := 22, ar := { temps := [(0, .c (.sl (.pair (.pair (.int .i64) (.pair (.int .i64) (.int .i64))) (.pair (.int .i64) (.pair (.int .i64) (.int .i64))))))], blocks := [], ren := [] }, res := { temps := [(0, .agg [(.row 4000000), (.row 4000001), (.row 4000002)]), (1, .c (.int .i64))], blocks := [(4000000, .row 49 (.pair (.pair (.int .i64) (.pair (.int .i64) (.int .i64))) (.pair (.int .i64) (.pair (.int .i64) (.int .i64))))), (4000001, .own 66 (.p (.s 49 (.d (.pair (.pair (.int .i64) (.pair (.int .i64) (.int .i64))) (.pair (.int .i64) (.pair (.int .i64) (.int .i64)))))) (.d (.pair (.int .i64) (.pair .bool (.pair (.pair (.int .i64) (.pair (.int .i64) (.int .i64))) (.pair (.int .i64) (.pair (.int .i64) (.int .i64))))))))), (4000002, .row 2 (.int .i64))], ren := [] }, f := fun k v => f22 k v.1.1 }
def gf22 (k : Nat) : Full := { tt := tt, n := 17, fns := [ef33, ef34b, ef35], trunc := [], tails := [], touch := [], opens := [], shapes := [(14, (.p (.s 49 (.d (.pair (.pair (.int .i64) (.pair (.int .i64) (.int .i64))) (.pair (.int .i64) (.pair (.int .i64) (.int .i64)))))) (.d (.pair (.int .i64) (.pair .bool (.pair (.pair (.int .i64) (.pair (.int .i64) (.int .i64))) (.pair (.int .i64) (.pair (.int .i64) (.int .i64)))))))))], closes := [], k := k, glob := glob, cuts := [], joins := [] }
theorem qf22 (k : Nat) : AllP (bodyL (gf22 k) Tryd.f22) := by
  have h : True = AllP (bodyL (gf22 k) Tryd.f22) := by kernel_rfl
  exact Eq.mp h trivial
theorem sf22 : Sound Tryd.prog glob ef22 := sound_of base (fn := Tryd.f22) Tryd.func22 (by kernel_rfl) gf22 (fun _ => ⟨rfl, rfl⟩) (fun k j => ⟨sf33.at j, sf34b.at j, sf35.at j, trivial⟩) qf22 (fun k v => by kernel_rfl)

/-! impl.StartRun -/
def f12 (k : Nat) (a1 : (List ((Int × (Int × Int)) × (Int × (Int × Int))))) : Option (((Unit × Unit × Unit) × Int × Unit) × ((List ((List ((Int × (Int × Int)) × (Int × (Int × Int)))) × ((List ((List ((Int × (Int × Int)) × (Int × (Int × Int)))) × (Int × (Bool × ((Int × (Int × Int)) × (Int × (Int × Int))))))) × (List Int)))) × Unit)) :=
  (f22 k a1).bind fun x2 =>
  bif (x2.1.2.1 != 0) then
    some ((((), (), ()), x2.1.2.1, ()), (([] : List ((List ((Int × (Int × Int)) × (Int × (Int × Int)))) × ((List ((List ((Int × (Int × Int)) × (Int × (Int × Int)))) × (Int × (Bool × ((Int × (Int × Int)) × (Int × (Int × Int))))))) × (List Int)))), ()))
  else
    some ((((), (), ()), 0, ()), ([(x2.2.1, (x2.2.2.1, x2.2.2.2.1))], ()))
def ef12 : Entry := { id := 12, ar := { temps := [(0, .c (.sl (.pair (.pair (.int .i64) (.pair (.int .i64) (.int .i64))) (.pair (.int .i64) (.pair (.int .i64) (.int .i64))))))], blocks := [], ren := [] }, res := { temps := [(0, .agg [(.row 4000000), (.lit .nils)]), (1, .c (.int .i64))], blocks := [(4000000, .own 43 (.p (.s 49 (.d (.pair (.pair (.int .i64) (.pair (.int .i64) (.int .i64))) (.pair (.int .i64) (.pair (.int .i64) (.int .i64)))))) (.p (.s 66 (.p (.s 49 (.d (.pair (.pair (.int .i64) (.pair (.int .i64) (.int .i64))) (.pair (.int .i64) (.pair (.int .i64) (.int .i64)))))) (.d (.pair (.int .i64) (.pair .bool (.pair (.pair (.int .i64) (.pair (.int .i64) (.int .i64))) (.pair (.int .i64) (.pair (.int .i64) (.int .i64))))))))) (.s 2 (.d (.int .i64))))))], ren := [] }, f := fun k v => f12 k v.1.1 }
def gf12 (k : Nat) : Full := { tt := tt, n := 18, fns := [ef22], trunc := [], tails := [], touch := [], opens := [], shapes := [(16, (.p (.s 49 (.d (.pair (.pair (.int .i64) (.pair (.int .i64) (.int .i64))) (.pair (.int .i64) (.pair (.int .i64) (.int .i64)))))) (.p (.s 66 (.p (.s 49 (.d (.pair (.pair (.int .i64) (.pair (.int .i64) (.int .i64))) (.pair (.int .i64) (.pair (.int .i64) (.int .i64)))))) (.d (.pair (.int .i64) (.pair .bool (.pair (.pair (.int .i64) (.pair (.int .i64) (.int .i64))) (.pair (.int .i64) (.pair (.int .i64) (.int .i64))))))))) (.s 2 (.d (.int .i64))))))], closes := [], k := k, glob := glob, cuts := [], joins := [] }
theorem qf12 (k : Nat) : AllP (bodyL (gf12 k) Tryd.f12) := by
  have h : True = AllP (bodyL (gf12 k) Tryd.f12) := by kernel_rfl
  exact Eq.mp h trivial
theorem sf12 : Sound Tryd.prog glob ef12 := sound_of base (fn := Tryd.f12) Tryd.func12 (by kernel_rfl) gf12 (fun _ => ⟨rfl, rfl⟩) (fun k j => ⟨sf22.at j, trivial⟩) qf12 (fun k v => by kernel_rfl)

/-! impl.NewConsole -/
def f5 (k : Nat) : Option (((Unit × Unit × Unit) × Unit) × ((List ((List ((Int × (Int × Int)) × (Int × (Int × Int)))) × ((List ((List ((Int × (Int × Int)) × (Int × (Int × Int)))) × (Int × (Bool × ((Int × (Int × Int)) × (Int × (Int × Int))))))) × (List Int)))) × Unit)) :=
  (f11 k 8).bind fun x3 =>
  (f12 k x3.2.1).bind fun x4 =>
  some ((((), (), ()), ()), (x4.2.1, ()))
def ef5 : Entry := { id := 5, ar := { temps := [], blocks := [], ren := [] }, res := { temps := [(0, .agg [(.row 4000000), (.lit .nils)])], blocks := [(4000000, .own 43 (.p (.s 49 (.d (.pair (.pair (.int .i64) (.pair (.int .i64) (.int .i64))) (.pair (.int .i64) (.pair (.int .i64) (.int .i64)))))) (.p (.s 66 (.p (.s 49 (.d (.pair (.pair (.int .i64) (.pair (.int .i64) (.int .i64))) (.pair (.int .i64) (.pair (.int .i64) (.int .i64)))))) (.d (.pair (.int .i64) (.pair .bool (.pair (.pair (.int .i64) (.pair (.int .i64) (.int .i64))) (.pair (.int .i64) (.pair (.int .i64) (.int .i64))))))))) (.s 2 (.d (.int .i64))))))], ren := [] }, f := fun k v => f5 k }
def gf5 (k : Nat) : Full := { tt := tt, n := 15, fns := [ef11, ef12], trunc := [], tails := [], touch := [], opens := [], shapes := [], closes := [], k := k, glob := glob, cuts := [], joins := [] }
theorem qf5 (k : Nat) : AllP (bodyL (gf5 k) Tryd.f5) := by
  have h : True = AllP (bodyL (gf5 k) Tryd.f5) := by kernel_rfl
  exact Eq.mp h trivial
theorem sf5 : Sound Tryd.prog glob ef5 := sound_of base (fn := Tryd.f5) Tryd.func5 (by kernel_rfl) gf5 (fun _ => ⟨rfl, rfl⟩) (fun k j => ⟨sf11.at j, sf12.at j, trivial⟩) qf5 (fun k v => by kernel_rfl)

/-! laws.eqNum -/
def f52 (k : Nat) (a1 : Int) (a2 : Int) (a3 : Int) (a4 : Int) (a5 : Int) (a6 : Int) : Option ((Bool × Unit) × Unit) :=
  bif (a1 != a4) then
    some ((false, ()), ())
  else
    bif (a2 != a5) then
      some ((false, ()), ())
    else
      bif (a3 != a6) then
        some ((false, ()), ())
      else
        some ((true, ()), ())
def ef52 : Entry := { id := 52, ar := { temps := [(0, .agg [(.int .i64), (.int .i64), (.int .i64)]), (1, .agg [(.int .i64), (.int .i64), (.int .i64)])], blocks := [], ren := [] }, res := { temps := [(0, .c .bool)], blocks := [], ren := [] }, f := fun k v => f52 k v.1.1.1 v.1.1.2.1 v.1.1.2.2.1 v.1.2.1.1 v.1.2.1.2.1 v.1.2.1.2.2.1 }
def gf52 (k : Nat) : Full := { tt := tt, n := 20, fns := [], trunc := [], tails := [], touch := [], opens := [], shapes := [], closes := [], k := k, glob := glob, cuts := [], joins := [] }
theorem qf52 (k : Nat) : AllP (bodyL (gf52 k) Tryd.f52) := by
  have h : True = AllP (bodyL (gf52 k) Tryd.f52) := by kernel_rfl
  exact Eq.mp h trivial
theorem sf52 : Sound Tryd.prog glob ef52 := sound_of base (fn := Tryd.f52) Tryd.func52 (by kernel_rfl) gf52 (fun _ => ⟨rfl, rfl⟩) (fun k j => trivial) qf52 (fun k v => by kernel_rfl)

/-! laws.eqPoint -/
def f50 (k : Nat) (a1 : Int) (a2 : Int) (a3 : Int) (a4 : Int) (a5 : Int) (a6 : Int) (a7 : Int) (a8 : Int) (a9 : Int) (a10 : Int) (a11 : Int) (a12 : Int) : Option ((Bool × Unit) × Unit) :=
  (f52 k a1 a2 a3 a7 a8 a9).bind fun x5 =>
  bif (!x5.1.1) then
    some ((false, ()), ())
  else
    (f52 k a4 a5 a6 a10 a11 a12).bind fun x6 =>
    bif (!x6.1.1) then
      some ((false, ()), ())
    else
      some ((true, ()), ())
def ef50 : Entry := { id := 50, ar := { temps := [(0, .agg [(.int .i64), (.int .i64), (.int .i64), (.int .i64), (.int .i64), (.int .i64)]), (1, .agg [(.int .i64), (.int .i64), (.int .i64), (.int .i64), (.int .i64), (.int .i64)])], blocks := [], ren := [] }, res := { temps := [(0, .c .bool)], blocks := [], ren := [] }, f := fun k v => f50 k v.1.1.1 v.1.1.2.1 v.1.1.2.2.1 v.1.1.2.2.2.1 v.1.1.2.2.2.2.1 v.1.1.2.2.2.2.2.1 v.1.2.1.1 v.1.2.1.2.1 v.1.2.1.2.2.1 v.1.2.1.2.2.2.1 v.1.2.1.2.2.2.2.1 v.1.2.1.2.2.2.2.2.1 }
def gf50 (k : Nat) : Full := { tt := tt, n := 17, fns := [ef52], trunc := [], tails := [], touch := [], opens := [], shapes := [], closes := [], k := k, glob := glob, cuts := [], joins := [] }
theorem qf50 (k : Nat) : AllP (bodyL (gf50 k) Tryd.f50) := by
  have h : True = AllP (bodyL (gf50 k) Tryd.f50) := by kernel_rfl
  exact Eq.mp h trivial
theorem sf50 : Sound Tryd.prog glob ef50 := sound_of base (fn := Tryd.f50) Tryd.func50 (by kernel_rfl) gf50 (fun _ => ⟨rfl, rfl⟩) (fun k j => ⟨sf52.at j, trivial⟩) qf50 (fun k v => by kernel_rfl)

/-! laws.eqPointS -/
def f36_l4 {ρ : Type} (k : Nat) : Nat → (List ((Int × (Int × Int)) × (Int × (Int × Int)))) → (List ((Int × (Int × Int)) × (Int × (Int × Int)))) → Int → (((Unit × Unit) → Option ρ) × (((Bool × Unit) × Unit) → Option ρ) × Unit) → Option ρ
  | 0, _, _, _, _ => none
  | j + 1, v11, v12, v13, nx =>
    bif (decide (v13 < (v11.length : Int))) then
      (getI v11 v13).bind fun x14 =>
      (getI v12 v13).bind fun x15 =>
      (f50 k x14.1.1 x14.1.2.1 x14.1.2.2 x14.2.1 x14.2.2.1 x14.2.2.2 x15.1.1 x15.1.2.1 x15.1.2.2 x15.2.1 x15.2.2.1 x15.2.2.2).bind fun x16 =>
      bif (!x16.1.1) then
        nx.2.1 ((false, ()), ())
      else
        f36_l4 k j v11 v12 (wr .i64 (v13 + 1)) nx
    else
      nx.1 ((), ())
def cf36_l4 (k : Nat) : Cut := { sp := { temps := [(0, .c (.sl (.pair (.pair (.int .i64) (.pair (.int .i64) (.int .i64))) (.pair (.int .i64) (.pair (.int .i64) (.int .i64)))))), (1, .c (.sl (.pair (.pair (.int .i64) (.pair (.int .i64) (.int .i64))) (.pair (.int .i64) (.pair (.int .i64) (.int .i64)))))), (5, .c (.int .i64))], blocks := [], ren := [] }, outs := [(.exit 0, { temps := [], blocks := [], ren := [] }), (.ret, { temps := [(4, .c .bool)], blocks := [], ren := [] })], F := fun ρ j v nx => f36_l4 k j v.1.1 v.1.2.1 v.1.2.2.1 nx }
def f36 (k : Nat) (a1 : (List ((Int × (Int × Int)) × (Int × (Int × Int))))) (a2 : (List ((Int × (Int × Int)) × (Int × (Int × Int))))) : Option ((Bool × Unit) × Unit) :=
  bif ((a1.length : Int) != (a2.length : Int)) then
    some ((false, ()), ())
  else
    f36_l4 k k a1 a2 0
      (fun x9 : (Unit × Unit) =>
        some ((true, ()), ()),
      fun x10 : ((Bool × Unit) × Unit) =>
        some ((x10.1.1, ()), ()),
      ())
def ef36 : Entry := { id := 36, ar := { temps := [(0, .c (.sl (.pair (.pair (.int .i64) (.pair (.int .i64) (.int .i64))) (.pair (.int .i64) (.pair (.int .i64) (.int .i64)))))), (1, .c (.sl (.pair (.pair (.int .i64) (.pair (.int .i64) (.int .i64))) (.pair (.int .i64) (.pair (.int .i64) (.int .i64))))))], blocks := [], ren := [] }, res := { temps := [(0, .c .bool)], blocks := [], ren := [] }, f := fun k v => f36 k v.1.1 v.1.2.1 }
def gf36 (k : Nat) : Full := { tt := tt, n := 27, fns := [ef50], trunc := [], tails := [], touch := [], opens := [], shapes := [], closes := [], k := k, glob := glob, cuts := [(4, (cf36_l4 k))], joins := [] }
theorem of36_l4 (k : Nat) : CutOk (gf36 k) (cf36_l4 k) (theLoop Tryd.f36 4) := fun ρ v nx => ⟨by kernel_rfl, fun j => by kernel_rfl⟩
theorem qf36 (k : Nat) : AllP (bodyL (gf36 k) Tryd.f36) := by
  have h : (CutOk (gf36 k) (cf36_l4 k) (theLoop Tryd.f36 4) ∧ True) = AllP (bodyL (gf36 k) Tryd.f36) := by kernel_rfl
  exact Eq.mp h (And.intro (of36_l4 k) (trivial))
theorem sf36 : Sound Tryd.prog glob ef36 := sound_of base (fn := Tryd.f36) Tryd.func36 (by kernel_rfl) gf36 (fun _ => ⟨rfl, rfl⟩) (fun k j => ⟨sf50.at j, trivial⟩) qf36 (fun k v => by kernel_rfl)

/-! laws.eqMotion -/
def f64 (k : Nat) (a1 : Int) (a2 : Bool) (a3 : Int) (a4 : Int) (a5 : Int) (a6 : Int) (a7 : Int) (a8 : Int) (a9 : Int) (a10 : Bool) (a11 : Int) (a12 : Int) (a13 : Int) (a14 : Int) (a15 : Int) (a16 : Int) : Option ((Bool × Unit) × Unit) :=
  bif (a1 != a9) then
    some ((false, ()), ())
  else
    bif (!(a2 == a10)) then
      some ((false, ()), ())
    else
      (f52 k a3 a4 a5 a11 a12 a13).bind fun x5 =>
      bif (!x5.1.1) then
        some ((false, ()), ())
      else
        (f52 k a6 a7 a8 a14 a15 a16).bind fun x6 =>
        bif (!x6.1.1) then
          some ((false, ()), ())
        else
          some ((true, ()), ())
def ef64 : Entry := { id := 64, ar := { temps := [(0, .agg [(.int .i64), .bool, (.int .i64), (.int .i64), (.int .i64), (.int .i64), (.int .i64), (.int .i64)]), (1, .agg [(.int .i64), .bool, (.int .i64), (.int .i64), (.int .i64), (.int .i64), (.int .i64), (.int .i64)])], blocks := [], ren := [] }, res := { temps := [(0, .c .bool)], blocks := [], ren := [] }, f := fun k v => f64 k v.1.1.1 v.1.1.2.1 v.1.1.2.2.1 v.1.1.2.2.2.1 v.1.1.2.2.2.2.1 v.1.1.2.2.2.2.2.1 v.1.1.2.2.2.2.2.2.1 v.1.1.2.2.2.2.2.2.2.1 v.1.2.1.1 v.1.2.1.2.1 v.1.2.1.2.2.1 v.1.2.1.2.2.2.1 v.1.2.1.2.2.2.2.1 v.1.2.1.2.2.2.2.2.1 v.1.2.1.2.2.2.2.2.2.1 v.1.2.1.2.2.2.2.2.2.2.1 }
def gf64 (k : Nat) : Full := { tt := tt, n := 27, fns := [ef52], trunc := [], tails := [], touch := [], opens := [], shapes := [], closes := [], k := k, glob := glob, cuts := [], joins := [] }
theorem qf64 (k : Nat) : AllP (bodyL (gf64 k) Tryd.f64) := by
  have h : True = AllP (bodyL (gf64 k) Tryd.f64) := by kernel_rfl
  exact Eq.mp h trivial
theorem sf64 : Sound Tryd.prog glob ef64 := sound_of base (fn := Tryd.f64) Tryd.func64 (by kernel_rfl) gf64 (fun _ => ⟨rfl, rfl⟩) (fun k j => ⟨sf52.at j, trivial⟩) qf64 (fun k v => by kernel_rfl)

/-! laws.eqFace -/
def f51 (k : Nat) (a1 : (List ((Int × (Int × Int)) × (Int × (Int × Int))))) (a2 : Int) (a3 : Bool) (a4 : Int) (a5 : Int) (a6 : Int) (a7 : Int) (a8 : Int) (a9 : Int) (a10 : (List ((Int × (Int × Int)) × (Int × (Int × Int))))) (a11 : Int) (a12 : Bool) (a13 : Int) (a14 : Int) (a15 : Int) (a16 : Int) (a17 : Int) (a18 : Int) : Option ((Bool × Unit) × Unit) :=
  (f36 k a1 a10).bind fun x5 =>
  bif (!x5.1.1) then
    some ((false, ()), ())
  else
    (f64 k a2 a3 a4 a5 a6 a7 a8 a9 a11 a12 a13 a14 a15 a16 a17 a18).bind fun x6 =>
    bif (!x6.1.1) then
      some ((false, ()), ())
    else
      some ((true, ()), ())
def ef51 : Entry := { id := 51, ar := { temps := [(0, .agg [(.sl (.pair (.pair (.int .i64) (.pair (.int .i64) (.int .i64))) (.pair (.int .i64) (.pair (.int .i64) (.int .i64))))), (.int .i64), .bool, (.int .i64), (.int .i64), (.int .i64), (.int .i64), (.int .i64), (.int .i64)]), (1, .agg [(.sl (.pair (.pair (.int .i64) (.pair (.int .i64) (.int .i64))) (.pair (.int .i64) (.pair (.int .i64) (.int .i64))))), (.int .i64), .bool, (.int .i64), (.int .i64), (.int .i64), (.int .i64), (.int .i64), (.int .i64)])], blocks := [], ren := [] }, res := { temps := [(0, .c .bool)], blocks := [], ren := [] }, f := fun k v => f51 k v.1.1.1 v.1.1.2.1 v.1.1.2.2.1 v.1.1.2.2.2.1 v.1.1.2.2.2.2.1 v.1.1.2.2.2.2.2.1 v.1.1.2.2.2.2.2.2.1 v.1.1.2.2.2.2.2.2.2.1 v.1.1.2.2.2.2.2.2.2.2.1 v.1.2.1.1 v.1.2.1.2.1 v.1.2.1.2.2.1 v.1.2.1.2.2.2.1 v.1.2.1.2.2.2.2.1 v.1.2.1.2.2.2.2.2.1 v.1.2.1.2.2.2.2.2.2.1 v.1.2.1.2.2.2.2.2.2.2.1 v.1.2.1.2.2.2.2.2.2.2.2.1 }
def gf51 (k : Nat) : Full := { tt := tt, n := 17, fns := [ef36, ef64], trunc := [], tails := [], touch := [], opens := [], shapes := [], closes := [], k := k, glob := glob, cuts := [], joins := [] }
theorem qf51 (k : Nat) : AllP (bodyL (gf51 k) Tryd.f51) := by
  have h : True = AllP (bodyL (gf51 k) Tryd.f51) := by kernel_rfl
  exact Eq.mp h trivial
theorem sf51 : Sound Tryd.prog glob ef51 := sound_of base (fn := Tryd.f51) Tryd.func51 (by kernel_rfl) gf51 (fun _ => ⟨rfl, rfl⟩) (fun k j => ⟨sf36.at j, sf64.at j, trivial⟩) qf51 (fun k v => by kernel_rfl)

/-! laws.eqFaceS -/
def f37_l4 {ρ : Type} (k : Nat) : Nat → (List ((List ((Int × (Int × Int)) × (Int × (Int × Int)))) × (Int × (Bool × ((Int × (Int × Int)) × (Int × (Int × Int))))))) → (List ((List ((Int × (Int × Int)) × (Int × (Int × Int)))) × (Int × (Bool × ((Int × (Int × Int)) × (Int × (Int × Int))))))) → Int → (((Unit × Unit) → Option ρ) × (((Bool × Unit) × Unit) → Option ρ) × Unit) → Option ρ
  | 0, _, _, _, _ => none
  | j + 1, v11, v12, v13, nx =>
    bif (decide (v13 < (v11.length : Int))) then
      (getI v11 v13).bind fun x14 =>
      (getI v12 v13).bind fun x15 =>
      (f51 k x14.1 x14.2.1 x14.2.2.1 x14.2.2.2.1.1 x14.2.2.2.1.2.1 x14.2.2.2.1.2.2 x14.2.2.2.2.1 x14.2.2.2.2.2.1 x14.2.2.2.2.2.2 x15.1 x15.2.1 x15.2.2.1 x15.2.2.2.1.1 x15.2.2.2.1.2.1 x15.2.2.2.1.2.2 x15.2.2.2.2.1 x15.2.2.2.2.2.1 x15.2.2.2.2.2.2).bind fun x16 =>
      bif (!x16.1.1) then
        nx.2.1 ((false, ()), ())
      else
        f37_l4 k j v11 v12 (wr .i64 (v13 + 1)) nx
    else
      nx.1 ((), ())
def cf37_l4 (k : Nat) : Cut := { sp := { temps := [(0, .c (.sl (.pair (.sl (.pair (.pair (.int .i64) (.pair (.int .i64) (.int .i64))) (.pair (.int .i64) (.pair (.int .i64) (.int .i64))))) (.pair (.int .i64) (.pair .bool (.pair (.pair (.int .i64) (.pair (.int .i64) (.int .i64))) (.pair (.int .i64) (.pair (.int .i64) (.int .i64))))))))), (1, .c (.sl (.pair (.sl (.pair (.pair (.int .i64) (.pair (.int .i64) (.int .i64))) (.pair (.int .i64) (.pair (.int .i64) (.int .i64))))) (.pair (.int .i64) (.pair .bool (.pair (.pair (.int .i64) (.pair (.int .i64) (.int .i64))) (.pair (.int .i64) (.pair (.int .i64) (.int .i64))))))))), (5, .c (.int .i64))], blocks := [], ren := [] }, outs := [(.exit 0, { temps := [], blocks := [], ren := [] }), (.ret, { temps := [(4, .c .bool)], blocks := [], ren := [] })], F := fun ρ j v nx => f37_l4 k j v.1.1 v.1.2.1 v.1.2.2.1 nx }
def f37 (k : Nat) (a1 : (List ((List ((Int × (Int × Int)) × (Int × (Int × Int)))) × (Int × (Bool × ((Int × (Int × Int)) × (Int × (Int × Int)))))))) (a2 : (List ((List ((Int × (Int × Int)) × (Int × (Int × Int)))) × (Int × (Bool × ((Int × (Int × Int)) × (Int × (Int × Int)))))))) : Option ((Bool × Unit) × Unit) :=
  bif ((a1.length : Int) != (a2.length : Int)) then
    some ((false, ()), ())
  else
    f37_l4 k k a1 a2 0
      (fun x9 : (Unit × Unit) =>
        some ((true, ()), ()),
      fun x10 : ((Bool × Unit) × Unit) =>
        some ((x10.1.1, ()), ()),
      ())
def ef37 : Entry := { id := 37, ar := { temps := [(0, .c (.sl (.pair (.sl (.pair (.pair (.int .i64) (.pair (.int .i64) (.int .i64))) (.pair (.int .i64) (.pair (.int .i64) (.int .i64))))) (.pair (.int .i64) (.pair .bool (.pair (.pair (.int .i64) (.pair (.int .i64) (.int .i64))) (.pair (.int .i64) (.pair (.int .i64) (.int .i64))))))))), (1, .c (.sl (.pair (.sl (.pair (.pair (.int .i64) (.pair (.int .i64) (.int .i64))) (.pair (.int .i64) (.pair (.int .i64) (.int .i64))))) (.pair (.int .i64) (.pair .bool (.pair (.pair (.int .i64) (.pair (.int .i64) (.int .i64))) (.pair (.int .i64) (.pair (.int .i64) (.int .i64)))))))))], blocks := [], ren := [] }, res := { temps := [(0, .c .bool)], blocks := [], ren := [] }, f := fun k v => f37 k v.1.1 v.1.2.1 }
def gf37 (k : Nat) : Full := { tt := tt, n := 27, fns := [ef51], trunc := [], tails := [], touch := [], opens := [], shapes := [], closes := [], k := k, glob := glob, cuts := [(4, (cf37_l4 k))], joins := [] }
theorem of37_l4 (k : Nat) : CutOk (gf37 k) (cf37_l4 k) (theLoop Tryd.f37 4) := fun ρ v nx => ⟨by kernel_rfl, fun j => by kernel_rfl⟩
theorem qf37 (k : Nat) : AllP (bodyL (gf37 k) Tryd.f37) := by
  have h : (CutOk (gf37 k) (cf37_l4 k) (theLoop Tryd.f37 4) ∧ True) = AllP (bodyL (gf37 k) Tryd.f37) := by kernel_rfl
  exact Eq.mp h (And.intro (of37_l4 k) (trivial))
theorem sf37 : Sound Tryd.prog glob ef37 := sound_of base (fn := Tryd.f37) Tryd.func37 (by kernel_rfl) gf37 (fun _ => ⟨rfl, rfl⟩) (fun k j => ⟨sf51.at j, trivial⟩) qf37 (fun k v => by kernel_rfl)

/-! laws.eqInt64S -/
def f38_l4 {ρ : Type} (k : Nat) : Nat → (List Int) → (List Int) → Int → (((Unit × Unit) → Option ρ) × (((Bool × Unit) × Unit) → Option ρ) × Unit) → Option ρ
  | 0, _, _, _, _ => none
  | j + 1, v10, v11, v12, nx =>
    bif (decide (v12 < (v10.length : Int))) then
      (getI v10 v12).bind fun x13 =>
      (getI v11 v12).bind fun x14 =>
      bif (x13 != x14) then
        nx.2.1 ((false, ()), ())
      else
        f38_l4 k j v10 v11 (wr .i64 (v12 + 1)) nx
    else
      nx.1 ((), ())
def cf38_l4 (k : Nat) : Cut := { sp := { temps := [(0, .c (.sl (.int .i64))), (1, .c (.sl (.int .i64))), (5, .c (.int .i64))], blocks := [], ren := [] }, outs := [(.exit 0, { temps := [], blocks := [], ren := [] }), (.ret, { temps := [(4, .c .bool)], blocks := [], ren := [] })], F := fun ρ j v nx => f38_l4 k j v.1.1 v.1.2.1 v.1.2.2.1 nx }
def f38 (k : Nat) (a1 : (List Int)) (a2 : (List Int)) : Option ((Bool × Unit) × Unit) :=
  bif ((a1.length : Int) != (a2.length : Int)) then
    some ((false, ()), ())
  else
    f38_l4 k k a1 a2 0
      (fun x8 : (Unit × Unit) =>
        some ((true, ()), ()),
      fun x9 : ((Bool × Unit) × Unit) =>
        some ((x9.1.1, ()), ()),
      ())
def ef38 : Entry := { id := 38, ar := { temps := [(0, .c (.sl (.int .i64))), (1, .c (.sl (.int .i64)))], blocks := [], ren := [] }, res := { temps := [(0, .c .bool)], blocks := [], ren := [] }, f := fun k v => f38 k v.1.1 v.1.2.1 }
def gf38 (k : Nat) : Full := { tt := tt, n := 26, fns := [], trunc := [], tails := [], touch := [], opens := [], shapes := [], closes := [], k := k, glob := glob, cuts := [(4, (cf38_l4 k))], joins := [] }
theorem of38_l4 (k : Nat) : CutOk (gf38 k) (cf38_l4 k) (theLoop Tryd.f38 4) := fun ρ v nx => ⟨by kernel_rfl, fun j => by kernel_rfl⟩
theorem qf38 (k : Nat) : AllP (bodyL (gf38 k) Tryd.f38) := by
  have h : (CutOk (gf38 k) (cf38_l4 k) (theLoop Tryd.f38 4) ∧ True) = AllP (bodyL (gf38 k) Tryd.f38) := by kernel_rfl
  exact Eq.mp h (And.intro (of38_l4 k) (trivial))
theorem sf38 : Sound Tryd.prog glob ef38 := sound_of base (fn := Tryd.f38) Tryd.func38 (by kernel_rfl) gf38 (fun _ => ⟨rfl, rfl⟩) (fun k j => trivial) qf38 (fun k v => by kernel_rfl)

/-! laws.eqState -/
def f23 (k : Nat) (a1 : (List ((Int × (Int × Int)) × (Int × (Int × Int))))) (a2 : (List ((List ((Int × (Int × Int)) × (Int × (Int × Int)))) × (Int × (Bool × ((Int × (Int × Int)) × (Int × (Int × Int)))))))) (a3 : (List Int)) (a4 : (List ((Int × (Int × Int)) × (Int × (Int × Int))))) (a5 : (List ((List ((Int × (Int × Int)) × (Int × (Int × Int)))) × (Int × (Bool × ((Int × (Int × Int)) × (Int × (Int × Int)))))))) (a6 : (List Int)) : Option ((Bool × Unit) × Unit) :=
  (f36 k a1 a4).bind fun x7 =>
  bif (!x7.1.1) then
    some ((false, ()), ())
  else
    (f37 k a2 a5).bind fun x9 =>
    bif (!x9.1.1) then
      some ((false, ()), ())
    else
      (f38 k a3 a6).bind fun x10 =>
      bif (!x10.1.1) then
        some ((false, ()), ())
      else
        some ((true, ()), ())
def ef23 : Entry := { id := 23, ar := { temps := [(0, .agg [(.sl (.pair (.pair (.int .i64) (.pair (.int .i64) (.int .i64))) (.pair (.int .i64) (.pair (.int .i64) (.int .i64))))), (.sl (.pair (.sl (.pair (.pair (.int .i64) (.pair (.int .i64) (.int .i64))) (.pair (.int .i64) (.pair (.int .i64) (.int .i64))))) (.pair (.int .i64) (.pair .bool (.pair (.pair (.int .i64) (.pair (.int .i64) (.int .i64))) (.pair (.int .i64) (.pair (.int .i64) (.int .i64)))))))), (.sl (.int .i64))]), (1, .agg [(.sl (.pair (.pair (.int .i64) (.pair (.int .i64) (.int .i64))) (.pair (.int .i64) (.pair (.int .i64) (.int .i64))))), (.sl (.pair (.sl (.pair (.pair (.int .i64) (.pair (.int .i64) (.int .i64))) (.pair (.int .i64) (.pair (.int .i64) (.int .i64))))) (.pair (.int .i64) (.pair .bool (.pair (.pair (.int .i64) (.pair (.int .i64) (.int .i64))) (.pair (.int .i64) (.pair (.int .i64) (.int .i64)))))))), (.sl (.int .i64))])], blocks := [], ren := [] }, res := { temps := [(0, .c .bool)], blocks := [], ren := [] }, f := fun k v => f23 k v.1.1.1 v.1.1.2.1 v.1.1.2.2.1 v.1.2.1.1 v.1.2.1.2.1 v.1.2.1.2.2.1 }
def gf23 (k : Nat) : Full := { tt := tt, n := 23, fns := [ef36, ef37, ef38], trunc := [], tails := [], touch := [], opens := [], shapes := [], closes := [], k := k, glob := glob, cuts := [], joins := [] }
theorem qf23 (k : Nat) : AllP (bodyL (gf23 k) Tryd.f23) := by
  have h : True = AllP (bodyL (gf23 k) Tryd.f23) := by kernel_rfl
  exact Eq.mp h trivial
theorem sf23 : Sound Tryd.prog glob ef23 := sound_of base (fn := Tryd.f23) Tryd.func23 (by kernel_rfl) gf23 (fun _ => ⟨rfl, rfl⟩) (fun k j => ⟨sf36.at j, sf37.at j, sf38.at j, trivial⟩) qf23 (fun k v => by kernel_rfl)

/-! laws.eqStateS -/
def f13_l4 {ρ : Type} (k : Nat) : Nat → (List ((List ((Int × (Int × Int)) × (Int × (Int × Int)))) × ((List ((List ((Int × (Int × Int)) × (Int × (Int × Int)))) × (Int × (Bool × ((Int × (Int × Int)) × (Int × (Int × Int))))))) × (List Int)))) → (List ((List ((Int × (Int × Int)) × (Int × (Int × Int)))) × ((List ((List ((Int × (Int × Int)) × (Int × (Int × Int)))) × (Int × (Bool × ((Int × (Int × Int)) × (Int × (Int × Int))))))) × (List Int)))) → Int → (((Unit × Unit) → Option ρ) × (((Bool × Unit) × Unit) → Option ρ) × Unit) → Option ρ
  | 0, _, _, _, _ => none
  | j + 1, v11, v12, v13, nx =>
    bif (decide (v13 < (v11.length : Int))) then
      (getI v11 v13).bind fun x14 =>
      (getI v12 v13).bind fun x15 =>
      (f23 k x14.1 x14.2.1 x14.2.2 x15.1 x15.2.1 x15.2.2).bind fun x16 =>
      bif (!x16.1.1) then
        nx.2.1 ((false, ()), ())
      else
        f13_l4 k j v11 v12 (wr .i64 (v13 + 1)) nx
    else
      nx.1 ((), ())
def cf13_l4 (k : Nat) : Cut := { sp := { temps := [(0, .c (.sl (.pair (.sl (.pair (.pair (.int .i64) (.pair (.int .i64) (.int .i64))) (.pair (.int .i64) (.pair (.int .i64) (.int .i64))))) (.pair (.sl (.pair (.sl (.pair (.pair (.int .i64) (.pair (.int .i64) (.int .i64))) (.pair (.int .i64) (.pair (.int .i64) (.int .i64))))) (.pair (.int .i64) (.pair .bool (.pair (.pair (.int .i64) (.pair (.int .i64) (.int .i64))) (.pair (.int .i64) (.pair (.int .i64) (.int .i64)))))))) (.sl (.int .i64)))))), (1, .c (.sl (.pair (.sl (.pair (.pair (.int .i64) (.pair (.int .i64) (.int .i64))) (.pair (.int .i64) (.pair (.int .i64) (.int .i64))))) (.pair (.sl (.pair (.sl (.pair (.pair (.int .i64) (.pair (.int .i64) (.int .i64))) (.pair (.int .i64) (.pair (.int .i64) (.int .i64))))) (.pair (.int .i64) (.pair .bool (.pair (.pair (.int .i64) (.pair (.int .i64) (.int .i64))) (.pair (.int .i64) (.pair (.int .i64) (.int .i64)))))))) (.sl (.int .i64)))))), (5, .c (.int .i64))], blocks := [], ren := [] }, outs := [(.exit 0, { temps := [], blocks := [], ren := [] }), (.ret, { temps := [(4, .c .bool)], blocks := [], ren := [] })], F := fun ρ j v nx => f13_l4 k j v.1.1 v.1.2.1 v.1.2.2.1 nx }
def f13 (k : Nat) (a1 : (List ((List ((Int × (Int × Int)) × (Int × (Int × Int)))) × ((List ((List ((Int × (Int × Int)) × (Int × (Int × Int)))) × (Int × (Bool × ((Int × (Int × Int)) × (Int × (Int × Int))))))) × (List Int))))) (a2 : (List ((List ((Int × (Int × Int)) × (Int × (Int × Int)))) × ((List ((List ((Int × (Int × Int)) × (Int × (Int × Int)))) × (Int × (Bool × ((Int × (Int × Int)) × (Int × (Int × Int))))))) × (List Int))))) : Option ((Bool × Unit) × Unit) :=
  bif ((a1.length : Int) != (a2.length : Int)) then
    some ((false, ()), ())
  else
    f13_l4 k k a1 a2 0
      (fun x9 : (Unit × Unit) =>
        some ((true, ()), ()),
      fun x10 : ((Bool × Unit) × Unit) =>
        some ((x10.1.1, ()), ()),
      ())
def ef13 : Entry := { id := 13, ar := { temps := [(0, .c (.sl (.pair (.sl (.pair (.pair (.int .i64) (.pair (.int .i64) (.int .i64))) (.pair (.int .i64) (.pair (.int .i64) (.int .i64))))) (.pair (.sl (.pair (.sl (.pair (.pair (.int .i64) (.pair (.int .i64) (.int .i64))) (.pair (.int .i64) (.pair (.int .i64) (.int .i64))))) (.pair (.int .i64) (.pair .bool (.pair (.pair (.int .i64) (.pair (.int .i64) (.int .i64))) (.pair (.int .i64) (.pair (.int .i64) (.int .i64)))))))) (.sl (.int .i64)))))), (1, .c (.sl (.pair (.sl (.pair (.pair (.int .i64) (.pair (.int .i64) (.int .i64))) (.pair (.int .i64) (.pair (.int .i64) (.int .i64))))) (.pair (.sl (.pair (.sl (.pair (.pair (.int .i64) (.pair (.int .i64) (.int .i64))) (.pair (.int .i64) (.pair (.int .i64) (.int .i64))))) (.pair (.int .i64) (.pair .bool (.pair (.pair (.int .i64) (.pair (.int .i64) (.int .i64))) (.pair (.int .i64) (.pair (.int .i64) (.int .i64)))))))) (.sl (.int .i64))))))], blocks := [], ren := [] }, res := { temps := [(0, .c .bool)], blocks := [], ren := [] }, f := fun k v => f13 k v.1.1 v.1.2.1 }
def gf13 (k : Nat) : Full := { tt := tt, n := 27, fns := [ef23], trunc := [], tails := [], touch := [], opens := [], shapes := [], closes := [], k := k, glob := glob, cuts := [(4, (cf13_l4 k))], joins := [] }
theorem of13_l4 (k : Nat) : CutOk (gf13 k) (cf13_l4 k) (theLoop Tryd.f13 4) := fun ρ v nx => ⟨by kernel_rfl, fun j => by kernel_rfl⟩
theorem qf13 (k : Nat) : AllP (bodyL (gf13 k) Tryd.f13) := by
  have h : (CutOk (gf13 k) (cf13_l4 k) (theLoop Tryd.f13 4) ∧ True) = AllP (bodyL (gf13 k) Tryd.f13) := by kernel_rfl
  exact Eq.mp h (And.intro (of13_l4 k) (trivial))
theorem sf13 : Sound Tryd.prog glob ef13 := sound_of base (fn := Tryd.f13) Tryd.func13 (by kernel_rfl) gf13 (fun _ => ⟨rfl, rfl⟩) (fun k j => ⟨sf23.at j, trivial⟩) qf13 (fun k v => by kernel_rfl)

/-! laws.eqLine -/
def f39 (k : Nat) (a1 : Int) (a2 : Int) (a3 : Int) (a4 : Int) (a5 : Int) (a6 : Int) (a7 : Int) (a8 : Int) : Option ((Bool × Unit) × Unit) :=
  bif (a1 != a5) then
    some ((false, ()), ())
  else
    (f52 k a2 a3 a4 a6 a7 a8).bind fun x2 =>
    bif (!x2.1.1) then
      some ((false, ()), ())
    else
      some ((true, ()), ())
def ef39 : Entry := { id := 39, ar := { temps := [(0, .agg [(.int .i64), (.int .i64), (.int .i64), (.int .i64)]), (1, .agg [(.int .i64), (.int .i64), (.int .i64), (.int .i64)])], blocks := [], ren := [] }, res := { temps := [(0, .c .bool)], blocks := [], ren := [] }, f := fun k v => f39 k v.1.1.1 v.1.1.2.1 v.1.1.2.2.1 v.1.1.2.2.2.1 v.1.2.1.1 v.1.2.1.2.1 v.1.2.1.2.2.1 v.1.2.1.2.2.2.1 }
def gf39 (k : Nat) : Full := { tt := tt, n := 16, fns := [ef52], trunc := [], tails := [], touch := [], opens := [], shapes := [], closes := [], k := k, glob := glob, cuts := [], joins := [] }
theorem qf39 (k : Nat) : AllP (bodyL (gf39 k) Tryd.f39) := by
  have h : True = AllP (bodyL (gf39 k) Tryd.f39) := by kernel_rfl
  exact Eq.mp h trivial
theorem sf39 : Sound Tryd.prog glob ef39 := sound_of base (fn := Tryd.f39) Tryd.func39 (by kernel_rfl) gf39 (fun _ => ⟨rfl, rfl⟩) (fun k j => ⟨sf52.at j, trivial⟩) qf39 (fun k v => by kernel_rfl)

/-! laws.eqMark -/
def f24 (k : Nat) (a1 : ByteArray) (a2 : Int) (a3 : Int) (a4 : Int) (a5 : Int) (a6 : ByteArray) (a7 : Int) (a8 : Int) (a9 : Int) (a10 : Int) : Option ((Bool × Unit) × Unit) :=
  bif (!(a1.toList == a6.toList)) then
    some ((false, ()), ())
  else
    (f39 k a2 a3 a4 a5 a7 a8 a9 a10).bind fun x2 =>
    bif (!x2.1.1) then
      some ((false, ()), ())
    else
      some ((true, ()), ())
def ef24 : Entry := { id := 24, ar := { temps := [(0, .agg [.str, (.int .i64), (.int .i64), (.int .i64), (.int .i64)]), (1, .agg [.str, (.int .i64), (.int .i64), (.int .i64), (.int .i64)])], blocks := [], ren := [] }, res := { temps := [(0, .c .bool)], blocks := [], ren := [] }, f := fun k v => f24 k v.1.1.1 v.1.1.2.1 v.1.1.2.2.1 v.1.1.2.2.2.1 v.1.1.2.2.2.2.1 v.1.2.1.1 v.1.2.1.2.1 v.1.2.1.2.2.1 v.1.2.1.2.2.2.1 v.1.2.1.2.2.2.2.1 }
def gf24 (k : Nat) : Full := { tt := tt, n := 16, fns := [ef39], trunc := [], tails := [], touch := [], opens := [], shapes := [], closes := [], k := k, glob := glob, cuts := [], joins := [] }
theorem qf24 (k : Nat) : AllP (bodyL (gf24 k) Tryd.f24) := by
  have h : True = AllP (bodyL (gf24 k) Tryd.f24) := by kernel_rfl
  exact Eq.mp h trivial
theorem sf24 : Sound Tryd.prog glob ef24 := sound_of base (fn := Tryd.f24) Tryd.func24 (by kernel_rfl) gf24 (fun _ => ⟨rfl, rfl⟩) (fun k j => ⟨sf39.at j, trivial⟩) qf24 (fun k v => by kernel_rfl)

/-! laws.eqMarkS -/
def f14_l4 {ρ : Type} (k : Nat) : Nat → (List (ByteArray × (Int × (Int × (Int × Int))))) → (List (ByteArray × (Int × (Int × (Int × Int))))) → Int → (((Unit × Unit) → Option ρ) × (((Bool × Unit) × Unit) → Option ρ) × Unit) → Option ρ
  | 0, _, _, _, _ => none
  | j + 1, v11, v12, v13, nx =>
    bif (decide (v13 < (v11.length : Int))) then
      (getI v11 v13).bind fun x14 =>
      (getI v12 v13).bind fun x15 =>
      (f24 k x14.1 x14.2.1 x14.2.2.1 x14.2.2.2.1 x14.2.2.2.2 x15.1 x15.2.1 x15.2.2.1 x15.2.2.2.1 x15.2.2.2.2).bind fun x16 =>
      bif (!x16.1.1) then
        nx.2.1 ((false, ()), ())
      else
        f14_l4 k j v11 v12 (wr .i64 (v13 + 1)) nx
    else
      nx.1 ((), ())
def cf14_l4 (k : Nat) : Cut := { sp := { temps := [(0, .c (.sl (.pair .str (.pair (.int .i64) (.pair (.int .i64) (.pair (.int .i64) (.int .i64))))))), (1, .c (.sl (.pair .str (.pair (.int .i64) (.pair (.int .i64) (.pair (.int .i64) (.int .i64))))))), (5, .c (.int .i64))], blocks := [], ren := [] }, outs := [(.exit 0, { temps := [], blocks := [], ren := [] }), (.ret, { temps := [(4, .c .bool)], blocks := [], ren := [] })], F := fun ρ j v nx => f14_l4 k j v.1.1 v.1.2.1 v.1.2.2.1 nx }
def f14 (k : Nat) (a1 : (List (ByteArray × (Int × (Int × (Int × Int)))))) (a2 : (List (ByteArray × (Int × (Int × (Int × Int)))))) : Option ((Bool × Unit) × Unit) :=
  bif ((a1.length : Int) != (a2.length : Int)) then
    some ((false, ()), ())
  else
    f14_l4 k k a1 a2 0
      (fun x9 : (Unit × Unit) =>
        some ((true, ()), ()),
      fun x10 : ((Bool × Unit) × Unit) =>
        some ((x10.1.1, ()), ()),
      ())
def ef14 : Entry := { id := 14, ar := { temps := [(0, .c (.sl (.pair .str (.pair (.int .i64) (.pair (.int .i64) (.pair (.int .i64) (.int .i64))))))), (1, .c (.sl (.pair .str (.pair (.int .i64) (.pair (.int .i64) (.pair (.int .i64) (.int .i64)))))))], blocks := [], ren := [] }, res := { temps := [(0, .c .bool)], blocks := [], ren := [] }, f := fun k v => f14 k v.1.1 v.1.2.1 }
def gf14 (k : Nat) : Full := { tt := tt, n := 27, fns := [ef24], trunc := [], tails := [], touch := [], opens := [], shapes := [], closes := [], k := k, glob := glob, cuts := [(4, (cf14_l4 k))], joins := [] }
theorem of14_l4 (k : Nat) : CutOk (gf14 k) (cf14_l4 k) (theLoop Tryd.f14 4) := fun ρ v nx => ⟨by kernel_rfl, fun j => by kernel_rfl⟩
theorem qf14 (k : Nat) : AllP (bodyL (gf14 k) Tryd.f14) := by
  have h : (CutOk (gf14 k) (cf14_l4 k) (theLoop Tryd.f14 4) ∧ True) = AllP (bodyL (gf14 k) Tryd.f14) := by kernel_rfl
  exact Eq.mp h (And.intro (of14_l4 k) (trivial))
theorem sf14 : Sound Tryd.prog glob ef14 := sound_of base (fn := Tryd.f14) Tryd.func14 (by kernel_rfl) gf14 (fun _ => ⟨rfl, rfl⟩) (fun k j => ⟨sf24.at j, trivial⟩) qf14 (fun k v => by kernel_rfl)

/-! laws.eqRun -/
def f6 (k : Nat) (a1 : (List ((List ((Int × (Int × Int)) × (Int × (Int × Int)))) × ((List ((List ((Int × (Int × Int)) × (Int × (Int × Int)))) × (Int × (Bool × ((Int × (Int × Int)) × (Int × (Int × Int))))))) × (List Int))))) (a2 : (List (ByteArray × (Int × (Int × (Int × Int)))))) (a3 : (List ((List ((Int × (Int × Int)) × (Int × (Int × Int)))) × ((List ((List ((Int × (Int × Int)) × (Int × (Int × Int)))) × (Int × (Bool × ((Int × (Int × Int)) × (Int × (Int × Int))))))) × (List Int))))) (a4 : (List (ByteArray × (Int × (Int × (Int × Int)))))) : Option ((Bool × Unit) × Unit) :=
  (f13 k a1 a3).bind fun x5 =>
  bif (!x5.1.1) then
    some ((false, ()), ())
  else
    (f14 k a2 a4).bind fun x6 =>
    bif (!x6.1.1) then
      some ((false, ()), ())
    else
      some ((true, ()), ())
def ef6 : Entry := { id := 6, ar := { temps := [(0, .agg [(.sl (.pair (.sl (.pair (.pair (.int .i64) (.pair (.int .i64) (.int .i64))) (.pair (.int .i64) (.pair (.int .i64) (.int .i64))))) (.pair (.sl (.pair (.sl (.pair (.pair (.int .i64) (.pair (.int .i64) (.int .i64))) (.pair (.int .i64) (.pair (.int .i64) (.int .i64))))) (.pair (.int .i64) (.pair .bool (.pair (.pair (.int .i64) (.pair (.int .i64) (.int .i64))) (.pair (.int .i64) (.pair (.int .i64) (.int .i64)))))))) (.sl (.int .i64))))), (.sl (.pair .str (.pair (.int .i64) (.pair (.int .i64) (.pair (.int .i64) (.int .i64))))))]), (1, .agg [(.sl (.pair (.sl (.pair (.pair (.int .i64) (.pair (.int .i64) (.int .i64))) (.pair (.int .i64) (.pair (.int .i64) (.int .i64))))) (.pair (.sl (.pair (.sl (.pair (.pair (.int .i64) (.pair (.int .i64) (.int .i64))) (.pair (.int .i64) (.pair (.int .i64) (.int .i64))))) (.pair (.int .i64) (.pair .bool (.pair (.pair (.int .i64) (.pair (.int .i64) (.int .i64))) (.pair (.int .i64) (.pair (.int .i64) (.int .i64)))))))) (.sl (.int .i64))))), (.sl (.pair .str (.pair (.int .i64) (.pair (.int .i64) (.pair (.int .i64) (.int .i64))))))])], blocks := [], ren := [] }, res := { temps := [(0, .c .bool)], blocks := [], ren := [] }, f := fun k v => f6 k v.1.1.1 v.1.1.2.1 v.1.2.1.1 v.1.2.1.2.1 }
def gf6 (k : Nat) : Full := { tt := tt, n := 17, fns := [ef13, ef14], trunc := [], tails := [], touch := [], opens := [], shapes := [], closes := [], k := k, glob := glob, cuts := [], joins := [] }
theorem qf6 (k : Nat) : AllP (bodyL (gf6 k) Tryd.f6) := by
  have h : True = AllP (bodyL (gf6 k) Tryd.f6) := by kernel_rfl
  exact Eq.mp h trivial
theorem sf6 : Sound Tryd.prog glob ef6 := sound_of base (fn := Tryd.f6) Tryd.func6 (by kernel_rfl) gf6 (fun _ => ⟨rfl, rfl⟩) (fun k j => ⟨sf13.at j, sf14.at j, trivial⟩) qf6 (fun k v => by kernel_rfl)

/-! laws.markPointS -/
def f25_l2 {ρ : Type} (k : Nat) : Nat → Int → Int → (List ((Int × (Int × Int)) × (Int × (Int × Int)))) → ((((Int × Unit) × ((List ((Int × (Int × Int)) × (Int × (Int × Int)))) × Unit)) → Option ρ) × Unit) → Option ρ
  | 0, _, _, _, _ => none
  | j + 1, v18, v19, v20, nx =>
    bif (decide (v19 < (v20.length : Int))) then
      bif decide (0 ≤ v19) && decide (v19 < (v20.length : Int)) then
        (v20[v19.toNat]?).bind fun x21 =>
        bif decide (0 ≤ v19) && decide (v19 < ((v20.set v19.toNat ((v18, x21.1.2), x21.2)).length : Int)) then
          ((v20.set v19.toNat ((v18, x21.1.2), x21.2))[v19.toNat]?).bind fun x22 =>
          let x23 : (List ((Int × (Int × Int)) × (Int × (Int × Int)))) := ((v20.set v19.toNat ((v18, x21.1.2), x21.2)).set v19.toNat ((x22.1.1, ((wr .i64 (v18 + 1)), x22.1.2.2)), x22.2))
          bif decide (0 ≤ v19) && decide (v19 < (x23.length : Int)) then
            (x23[v19.toNat]?).bind fun x24 =>
            let x25 : (List ((Int × (Int × Int)) × (Int × (Int × Int)))) := (x23.set v19.toNat ((x24.1.1, (x24.1.2.1, (wr .i64 ((wr .i64 (v18 + 1)) + 1)))), x24.2))
            let x26 : Int := (wr .i64 ((wr .i64 ((wr .i64 (v18 + 1)) + 1)) + 1))
            bif decide (0 ≤ v19) && decide (v19 < (x25.length : Int)) then
              (x25[v19.toNat]?).bind fun x27 =>
              bif decide (0 ≤ v19) && decide (v19 < ((x25.set v19.toNat (x27.1, (x26, x27.2.2))).length : Int)) then
                ((x25.set v19.toNat (x27.1, (x26, x27.2.2)))[v19.toNat]?).bind fun x28 =>
                let x29 : (List ((Int × (Int × Int)) × (Int × (Int × Int)))) := ((x25.set v19.toNat (x27.1, (x26, x27.2.2))).set v19.toNat (x28.1, (x28.2.1, ((wr .i64 (x26 + 1)), x28.2.2.2))))
                bif decide (0 ≤ v19) && decide (v19 < (x29.length : Int)) then
                  (x29[v19.toNat]?).bind fun x30 =>
                  let x31 : (List ((Int × (Int × Int)) × (Int × (Int × Int)))) := (x29.set v19.toNat (x30.1, (x30.2.1, (x30.2.2.1, (wr .i64 ((wr .i64 (x26 + 1)) + 1))))))
                  let x32 : Int := (wr .i64 ((wr .i64 ((wr .i64 (x26 + 1)) + 1)) + 1))
                  f25_l2 k j x32 (wr .i64 (v19 + 1)) x31 nx
                else
                  none
              else
                none
            else
              none
          else
            none
        else
          none
      else
        none
    else
      nx.1 ((v18, ()), (v20, ()))
def cf25_l2 (k : Nat) : Cut := { sp := { temps := [(0, .c (.lit (.row 3000000))), (1, .c (.int .i64)), (5, .c (.int .i64))], blocks := [(3000000, .row 49 (.pair (.pair (.int .i64) (.pair (.int .i64) (.int .i64))) (.pair (.int .i64) (.pair (.int .i64) (.int .i64)))))], ren := [(3000000, some 3000000)] }, outs := [(.exit 0, { temps := [(1, .c (.int .i64))], blocks := [(3000000, .row 49 (.pair (.pair (.int .i64) (.pair (.int .i64) (.int .i64))) (.pair (.int .i64) (.pair (.int .i64) (.int .i64)))))], ren := [(3000000, some 3000000)] })], F := fun ρ j v nx => f25_l2 k j v.1.2.1 v.1.2.2.1 v.2.1 nx }
def f25 (k : Nat) (a1 : Int) (a2 : (List ((Int × (Int × Int)) × (Int × (Int × Int))))) : Option ((Int × Unit) × ((List ((Int × (Int × Int)) × (Int × (Int × Int)))) × Unit)) :=
  f25_l2 k k a1 0 a2
    (fun x17 : ((Int × Unit) × ((List ((Int × (Int × Int)) × (Int × (Int × Int)))) × Unit)) =>
      some ((x17.1.1, ()), (x17.2.1, ())),
    ())
def ef25 : Entry := { id := 25, ar := { temps := [(0, .c (.row 3000000)), (1, .c (.int .i64))], blocks := [(3000000, .row 49 (.pair (.pair (.int .i64) (.pair (.int .i64) (.int .i64))) (.pair (.int .i64) (.pair (.int .i64) (.int .i64)))))], ren := [] }, res := { temps := [(0, .c (.int .i64))], blocks := [(3000000, .row 49 (.pair (.pair (.int .i64) (.pair (.int .i64) (.int .i64))) (.pair (.int .i64) (.pair (.int .i64) (.int .i64)))))], ren := [(3000000, some 3000000)] }, f := fun k v => f25 k v.1.2.1 v.2.1 }
def gf25 (k : Nat) : Full := { tt := tt, n := 61, fns := [], trunc := [], tails := [], touch := [], opens := [], shapes := [], closes := [], k := k, glob := glob, cuts := [(2, (cf25_l2 k))], joins := [] }
theorem of25_l2 (k : Nat) : CutOk (gf25 k) (cf25_l2 k) (theLoop Tryd.f25 2) := fun ρ v nx => ⟨by kernel_rfl, fun j => by kernel_rfl⟩
theorem qf25 (k : Nat) : AllP (bodyL (gf25 k) Tryd.f25) := by
  have h : (CutOk (gf25 k) (cf25_l2 k) (theLoop Tryd.f25 2) ∧ True) = AllP (bodyL (gf25 k) Tryd.f25) := by kernel_rfl
  exact Eq.mp h (And.intro (of25_l2 k) (trivial))
theorem sf25 : Sound Tryd.prog glob ef25 := sound_of base (fn := Tryd.f25) Tryd.func25 (by kernel_rfl) gf25 (fun _ => ⟨rfl, rfl⟩) (fun k j => trivial) qf25 (fun k v => by kernel_rfl)

/-! laws.markFaceS -/
def f26_l2 {ρ : Type} (k : Nat) : Nat → Int → Int → (List ((List ((Int × (Int × Int)) × (Int × (Int × Int)))) × (Int × (Bool × ((Int × (Int × Int)) × (Int × (Int × Int))))))) → ((((Int × Unit) × ((List ((List ((Int × (Int × Int)) × (Int × (Int × Int)))) × (Int × (Bool × ((Int × (Int × Int)) × (Int × (Int × Int))))))) × Unit)) → Option ρ) × Unit) → Option ρ
  | 0, _, _, _, _ => none
  | j + 1, v26, v27, v28, nx =>
    bif (decide (v27 < (v28.length : Int))) then
      bif decide (0 ≤ v27) && decide (v27 < (v28.length : Int)) then
        (v28[v27.toNat]?).bind fun x29 =>
        (f25 k v26 x29.1).bind fun x30 =>
        bif decide (0 ≤ v27) && decide (v27 < ((v28.set v27.toNat (x30.2.1, x29.2)).length : Int)) then
          ((v28.set v27.toNat (x30.2.1, x29.2))[v27.toNat]?).bind fun x31 =>
          let x32 : (List ((List ((Int × (Int × Int)) × (Int × (Int × Int)))) × (Int × (Bool × ((Int × (Int × Int)) × (Int × (Int × Int))))))) := ((v28.set v27.toNat (x30.2.1, x29.2)).set v27.toNat (x31.1, (x30.1.1, x31.2.2)))
          bif decide (0 ≤ v27) && decide (v27 < (x32.length : Int)) then
            (x32[v27.toNat]?).bind fun x33 =>
            let x34 : (List ((List ((Int × (Int × Int)) × (Int × (Int × Int)))) × (Int × (Bool × ((Int × (Int × Int)) × (Int × (Int × Int))))))) := (x32.set v27.toNat (x33.1, (x33.2.1, ((((wr .i64 (x30.1.1 + 1)).tmod 3) == 0), x33.2.2.2))))
            bif decide (0 ≤ v27) && decide (v27 < (x34.length : Int)) then
              (x34[v27.toNat]?).bind fun x35 =>
              let x36 : (List ((List ((Int × (Int × Int)) × (Int × (Int × Int)))) × (Int × (Bool × ((Int × (Int × Int)) × (Int × (Int × Int))))))) := (x34.set v27.toNat (x35.1, (x35.2.1, (x35.2.2.1, (((wr .i64 ((wr .i64 (x30.1.1 + 1)) + 1)), x35.2.2.2.1.2), x35.2.2.2.2)))))
              let x37 : Int := (wr .i64 ((wr .i64 ((wr .i64 (x30.1.1 + 1)) + 1)) + 1))
              bif decide (0 ≤ v27) && decide (v27 < (x36.length : Int)) then
                (x36[v27.toNat]?).bind fun x38 =>
                let x39 : (List ((List ((Int × (Int × Int)) × (Int × (Int × Int)))) × (Int × (Bool × ((Int × (Int × Int)) × (Int × (Int × Int))))))) := (x36.set v27.toNat (x38.1, (x38.2.1, (x38.2.2.1, ((x38.2.2.2.1.1, (x37, x38.2.2.2.1.2.2)), x38.2.2.2.2)))))
                bif decide (0 ≤ v27) && decide (v27 < (x39.length : Int)) then
                  (x39[v27.toNat]?).bind fun x40 =>
                  let x41 : (List ((List ((Int × (Int × Int)) × (Int × (Int × Int)))) × (Int × (Bool × ((Int × (Int × Int)) × (Int × (Int × Int))))))) := (x39.set v27.toNat (x40.1, (x40.2.1, (x40.2.2.1, ((x40.2.2.2.1.1, (x40.2.2.2.1.2.1, (wr .i64 (x37 + 1)))), x40.2.2.2.2)))))
                  bif decide (0 ≤ v27) && decide (v27 < (x41.length : Int)) then
                    (x41[v27.toNat]?).bind fun x42 =>
                    let x43 : (List ((List ((Int × (Int × Int)) × (Int × (Int × Int)))) × (Int × (Bool × ((Int × (Int × Int)) × (Int × (Int × Int))))))) := (x41.set v27.toNat (x42.1, (x42.2.1, (x42.2.2.1, (x42.2.2.2.1, ((wr .i64 ((wr .i64 (x37 + 1)) + 1)), x42.2.2.2.2.2))))))
                    let x44 : Int := (wr .i64 ((wr .i64 ((wr .i64 (x37 + 1)) + 1)) + 1))
                    bif decide (0 ≤ v27) && decide (v27 < (x43.length : Int)) then
                      (x43[v27.toNat]?).bind fun x45 =>
                      let x46 : (List ((List ((Int × (Int × Int)) × (Int × (Int × Int)))) × (Int × (Bool × ((Int × (Int × Int)) × (Int × (Int × Int))))))) := (x43.set v27.toNat (x45.1, (x45.2.1, (x45.2.2.1, (x45.2.2.2.1, (x45.2.2.2.2.1, (x44, x45.2.2.2.2.2.2)))))))
                      bif decide (0 ≤ v27) && decide (v27 < (x46.length : Int)) then
                        (x46[v27.toNat]?).bind fun x47 =>
                        let x48 : (List ((List ((Int × (Int × Int)) × (Int × (Int × Int)))) × (Int × (Bool × ((Int × (Int × Int)) × (Int × (Int × Int))))))) := (x46.set v27.toNat (x47.1, (x47.2.1, (x47.2.2.1, (x47.2.2.2.1, (x47.2.2.2.2.1, (x47.2.2.2.2.2.1, (wr .i64 (x44 + 1)))))))))
                        f26_l2 k j (wr .i64 ((wr .i64 (x44 + 1)) + 1)) (wr .i64 (v27 + 1)) x48 nx
                      else
                        none
                    else
                      none
                  else
                    none
                else
                  none
              else
                none
            else
              none
          else
            none
        else
          none
      else
        none
    else
      nx.1 ((v26, ()), (v28, ()))
def cf26_l2 (k : Nat) : Cut := { sp := { temps := [(0, .c (.lit (.row 3000000))), (1, .c (.int .i64)), (5, .c (.int .i64))], blocks := [(3000000, .own 66 (.p (.s 49 (.d (.pair (.pair (.int .i64) (.pair (.int .i64) (.int .i64))) (.pair (.int .i64) (.pair (.int .i64) (.int .i64)))))) (.d (.pair (.int .i64) (.pair .bool (.pair (.pair (.int .i64) (.pair (.int .i64) (.int .i64))) (.pair (.int .i64) (.pair (.int .i64) (.int .i64)))))))))], ren := [(3000000, some 3000000)] }, outs := [(.exit 0, { temps := [(1, .c (.int .i64))], blocks := [(3000000, .own 66 (.p (.s 49 (.d (.pair (.pair (.int .i64) (.pair (.int .i64) (.int .i64))) (.pair (.int .i64) (.pair (.int .i64) (.int .i64)))))) (.d (.pair (.int .i64) (.pair .bool (.pair (.pair (.int .i64) (.pair (.int .i64) (.int .i64))) (.pair (.int .i64) (.pair (.int .i64) (.int .i64)))))))))], ren := [(3000000, some 3000000)] })], F := fun ρ j v nx => f26_l2 k j v.1.2.1 v.1.2.2.1 v.2.1 nx }
def f26 (k : Nat) (a1 : Int) (a2 : (List ((List ((Int × (Int × Int)) × (Int × (Int × Int)))) × (Int × (Bool × ((Int × (Int × Int)) × (Int × (Int × Int)))))))) : Option ((Int × Unit) × ((List ((List ((Int × (Int × Int)) × (Int × (Int × Int)))) × (Int × (Bool × ((Int × (Int × Int)) × (Int × (Int × Int))))))) × Unit)) :=
  f26_l2 k k a1 0 a2
    (fun x25 : ((Int × Unit) × ((List ((List ((Int × (Int × Int)) × (Int × (Int × Int)))) × (Int × (Bool × ((Int × (Int × Int)) × (Int × (Int × Int))))))) × Unit)) =>
      some ((x25.1.1, ()), (x25.2.1, ())),
    ())
def ef26 : Entry := { id := 26, ar := { temps := [(0, .c (.row 3000000)), (1, .c (.int .i64))], blocks := [(3000000, .own 66 (.p (.s 49 (.d (.pair (.pair (.int .i64) (.pair (.int .i64) (.int .i64))) (.pair (.int .i64) (.pair (.int .i64) (.int .i64)))))) (.d (.pair (.int .i64) (.pair .bool (.pair (.pair (.int .i64) (.pair (.int .i64) (.int .i64))) (.pair (.int .i64) (.pair (.int .i64) (.int .i64)))))))))], ren := [] }, res := { temps := [(0, .c (.int .i64))], blocks := [(3000000, .own 66 (.p (.s 49 (.d (.pair (.pair (.int .i64) (.pair (.int .i64) (.int .i64))) (.pair (.int .i64) (.pair (.int .i64) (.int .i64)))))) (.d (.pair (.int .i64) (.pair .bool (.pair (.pair (.int .i64) (.pair (.int .i64) (.int .i64))) (.pair (.int .i64) (.pair (.int .i64) (.int .i64)))))))))], ren := [(3000000, some 3000000)] }, f := fun k v => f26 k v.1.2.1 v.2.1 }
def gf26 (k : Nat) : Full := { tt := tt, n := 92, fns := [ef25], trunc := [], tails := [], touch := [], opens := [16], shapes := [], closes := [(4, [3000000])], k := k, glob := glob, cuts := [(2, (cf26_l2 k))], joins := [] }
theorem of26_l2 (k : Nat) : CutOk (gf26 k) (cf26_l2 k) (theLoop Tryd.f26 2) := fun ρ v nx => ⟨by kernel_rfl, fun j => by kernel_rfl⟩
theorem qf26 (k : Nat) : AllP (bodyL (gf26 k) Tryd.f26) := by
  have h : (CutOk (gf26 k) (cf26_l2 k) (theLoop Tryd.f26 2) ∧ True) = AllP (bodyL (gf26 k) Tryd.f26) := by kernel_rfl
  exact Eq.mp h (And.intro (of26_l2 k) (trivial))
theorem sf26 : Sound Tryd.prog glob ef26 := sound_of base (fn := Tryd.f26) Tryd.func26 (by kernel_rfl) gf26 (fun _ => ⟨rfl, rfl⟩) (fun k j => ⟨sf25.at j, trivial⟩) qf26 (fun k v => by kernel_rfl)

/-! laws.markInt64S -/
def f27_l2 {ρ : Type} (k : Nat) : Nat → Int → Int → (List Int) → ((((Int × Unit) × ((List Int) × Unit)) → Option ρ) × Unit) → Option ρ
  | 0, _, _, _, _ => none
  | j + 1, v7, v8, v9, nx =>
    bif (decide (v8 < (v9.length : Int))) then
      bif decide (0 ≤ v8) && decide (v8 < (v9.length : Int)) then
        (v9[v8.toNat]?).bind fun _ =>
        f27_l2 k j (wr .i64 (v7 + 1)) (wr .i64 (v8 + 1)) (v9.set v8.toNat v7) nx
      else
        none
    else
      nx.1 ((v7, ()), (v9, ()))
def cf27_l2 (k : Nat) : Cut := { sp := { temps := [(0, .c (.lit (.row 3000000))), (1, .c (.int .i64)), (5, .c (.int .i64))], blocks := [(3000000, .row 2 (.int .i64))], ren := [(3000000, some 3000000)] }, outs := [(.exit 0, { temps := [(1, .c (.int .i64))], blocks := [(3000000, .row 2 (.int .i64))], ren := [(3000000, some 3000000)] })], F := fun ρ j v nx => f27_l2 k j v.1.2.1 v.1.2.2.1 v.2.1 nx }
def f27 (k : Nat) (a1 : Int) (a2 : (List Int)) : Option ((Int × Unit) × ((List Int) × Unit)) :=
  f27_l2 k k a1 0 a2
    (fun x6 : ((Int × Unit) × ((List Int) × Unit)) =>
      some ((x6.1.1, ()), (x6.2.1, ())),
    ())
def ef27 : Entry := { id := 27, ar := { temps := [(0, .c (.row 3000000)), (1, .c (.int .i64))], blocks := [(3000000, .row 2 (.int .i64))], ren := [] }, res := { temps := [(0, .c (.int .i64))], blocks := [(3000000, .row 2 (.int .i64))], ren := [(3000000, some 3000000)] }, f := fun k v => f27 k v.1.2.1 v.2.1 }
def gf27 (k : Nat) : Full := { tt := tt, n := 19, fns := [], trunc := [], tails := [], touch := [], opens := [], shapes := [], closes := [], k := k, glob := glob, cuts := [(2, (cf27_l2 k))], joins := [] }
theorem of27_l2 (k : Nat) : CutOk (gf27 k) (cf27_l2 k) (theLoop Tryd.f27 2) := fun ρ v nx => ⟨by kernel_rfl, fun j => by kernel_rfl⟩
theorem qf27 (k : Nat) : AllP (bodyL (gf27 k) Tryd.f27) := by
  have h : (CutOk (gf27 k) (cf27_l2 k) (theLoop Tryd.f27 2) ∧ True) = AllP (bodyL (gf27 k) Tryd.f27) := by kernel_rfl
  exact Eq.mp h (And.intro (of27_l2 k) (trivial))
theorem sf27 : Sound Tryd.prog glob ef27 := sound_of base (fn := Tryd.f27) Tryd.func27 (by kernel_rfl) gf27 (fun _ => ⟨rfl, rfl⟩) (fun k j => trivial) qf27 (fun k v => by kernel_rfl)

/-! laws.markStateS -/
def f15_l2 {ρ : Type} (k : Nat) : Nat → Int → Int → (List ((List ((Int × (Int × Int)) × (Int × (Int × Int)))) × ((List ((List ((Int × (Int × Int)) × (Int × (Int × Int)))) × (Int × (Bool × ((Int × (Int × Int)) × (Int × (Int × Int))))))) × (List Int)))) → ((((Int × Unit) × ((List ((List ((Int × (Int × Int)) × (Int × (Int × Int)))) × ((List ((List ((Int × (Int × Int)) × (Int × (Int × Int)))) × (Int × (Bool × ((Int × (Int × Int)) × (Int × (Int × Int))))))) × (List Int)))) × Unit)) → Option ρ) × Unit) → Option ρ
  | 0, _, _, _, _ => none
  | j + 1, v12, v13, v14, nx =>
    bif (decide (v13 < (v14.length : Int))) then
      bif decide (0 ≤ v13) && decide (v13 < (v14.length : Int)) then
        (v14[v13.toNat]?).bind fun x15 =>
        (f25 k v12 x15.1).bind fun x16 =>
        bif decide (0 ≤ v13) && decide (v13 < ((v14.set v13.toNat (x16.2.1, x15.2)).length : Int)) then
          ((v14.set v13.toNat (x16.2.1, x15.2))[v13.toNat]?).bind fun x17 =>
          (f26 k x16.1.1 x17.2.1).bind fun x18 =>
          bif decide (0 ≤ v13) && decide (v13 < (((v14.set v13.toNat (x16.2.1, x15.2)).set v13.toNat (x17.1, (x18.2.1, x17.2.2))).length : Int)) then
            (((v14.set v13.toNat (x16.2.1, x15.2)).set v13.toNat (x17.1, (x18.2.1, x17.2.2)))[v13.toNat]?).bind fun x19 =>
            (f27 k x18.1.1 x19.2.2).bind fun x20 =>
            f15_l2 k j x20.1.1 (wr .i64 (v13 + 1)) (((v14.set v13.toNat (x16.2.1, x15.2)).set v13.toNat (x17.1, (x18.2.1, x17.2.2))).set v13.toNat (x19.1, (x19.2.1, x20.2.1))) nx
          else
            none
        else
          none
      else
        none
    else
      nx.1 ((v12, ()), (v14, ()))
def cf15_l2 (k : Nat) : Cut := { sp := { temps := [(0, .c (.lit (.row 3000000))), (1, .c (.int .i64)), (5, .c (.int .i64))], blocks := [(3000000, .own 43 (.p (.s 49 (.d (.pair (.pair (.int .i64) (.pair (.int .i64) (.int .i64))) (.pair (.int .i64) (.pair (.int .i64) (.int .i64)))))) (.p (.s 66 (.p (.s 49 (.d (.pair (.pair (.int .i64) (.pair (.int .i64) (.int .i64))) (.pair (.int .i64) (.pair (.int .i64) (.int .i64)))))) (.d (.pair (.int .i64) (.pair .bool (.pair (.pair (.int .i64) (.pair (.int .i64) (.int .i64))) (.pair (.int .i64) (.pair (.int .i64) (.int .i64))))))))) (.s 2 (.d (.int .i64))))))], ren := [(3000000, some 3000000)] }, outs := [(.exit 0, { temps := [(1, .c (.int .i64))], blocks := [(3000000, .own 43 (.p (.s 49 (.d (.pair (.pair (.int .i64) (.pair (.int .i64) (.int .i64))) (.pair (.int .i64) (.pair (.int .i64) (.int .i64)))))) (.p (.s 66 (.p (.s 49 (.d (.pair (.pair (.int .i64) (.pair (.int .i64) (.int .i64))) (.pair (.int .i64) (.pair (.int .i64) (.int .i64)))))) (.d (.pair (.int .i64) (.pair .bool (.pair (.pair (.int .i64) (.pair (.int .i64) (.int .i64))) (.pair (.int .i64) (.pair (.int .i64) (.int .i64))))))))) (.s 2 (.d (.int .i64))))))], ren := [(3000000, some 3000000)] })], F := fun ρ j v nx => f15_l2 k j v.1.2.1 v.1.2.2.1 v.2.1 nx }
def f15 (k : Nat) (a1 : Int) (a2 : (List ((List ((Int × (Int × Int)) × (Int × (Int × Int)))) × ((List ((List ((Int × (Int × Int)) × (Int × (Int × Int)))) × (Int × (Bool × ((Int × (Int × Int)) × (Int × (Int × Int))))))) × (List Int))))) : Option ((Int × Unit) × ((List ((List ((Int × (Int × Int)) × (Int × (Int × Int)))) × ((List ((List ((Int × (Int × Int)) × (Int × (Int × Int)))) × (Int × (Bool × ((Int × (Int × Int)) × (Int × (Int × Int))))))) × (List Int)))) × Unit)) :=
  f15_l2 k k a1 0 a2
    (fun x11 : ((Int × Unit) × ((List ((List ((Int × (Int × Int)) × (Int × (Int × Int)))) × ((List ((List ((Int × (Int × Int)) × (Int × (Int × Int)))) × (Int × (Bool × ((Int × (Int × Int)) × (Int × (Int × Int))))))) × (List Int)))) × Unit)) =>
      some ((x11.1.1, ()), (x11.2.1, ())),
    ())
def ef15 : Entry := { id := 15, ar := { temps := [(0, .c (.row 3000000)), (1, .c (.int .i64))], blocks := [(3000000, .own 43 (.p (.s 49 (.d (.pair (.pair (.int .i64) (.pair (.int .i64) (.int .i64))) (.pair (.int .i64) (.pair (.int .i64) (.int .i64)))))) (.p (.s 66 (.p (.s 49 (.d (.pair (.pair (.int .i64) (.pair (.int .i64) (.int .i64))) (.pair (.int .i64) (.pair (.int .i64) (.int .i64)))))) (.d (.pair (.int .i64) (.pair .bool (.pair (.pair (.int .i64) (.pair (.int .i64) (.int .i64))) (.pair (.int .i64) (.pair (.int .i64) (.int .i64))))))))) (.s 2 (.d (.int .i64))))))], ren := [] }, res := { temps := [(0, .c (.int .i64))], blocks := [(3000000, .own 43 (.p (.s 49 (.d (.pair (.pair (.int .i64) (.pair (.int .i64) (.int .i64))) (.pair (.int .i64) (.pair (.int .i64) (.int .i64)))))) (.p (.s 66 (.p (.s 49 (.d (.pair (.pair (.int .i64) (.pair (.int .i64) (.int .i64))) (.pair (.int .i64) (.pair (.int .i64) (.int .i64)))))) (.d (.pair (.int .i64) (.pair .bool (.pair (.pair (.int .i64) (.pair (.int .i64) (.int .i64))) (.pair (.int .i64) (.pair (.int .i64) (.int .i64))))))))) (.s 2 (.d (.int .i64))))))], ren := [(3000000, some 3000000)] }, f := fun k v => f15 k v.1.2.1 v.2.1 }
def gf15 (k : Nat) : Full := { tt := tt, n := 34, fns := [ef25, ef26, ef27], trunc := [], tails := [], touch := [], opens := [16, 23, 30], shapes := [], closes := [(4, [3000000]), (5, [3000000]), (6, [3000000])], k := k, glob := glob, cuts := [(2, (cf15_l2 k))], joins := [] }
theorem of15_l2 (k : Nat) : CutOk (gf15 k) (cf15_l2 k) (theLoop Tryd.f15 2) := fun ρ v nx => ⟨by kernel_rfl, fun j => by kernel_rfl⟩
theorem qf15 (k : Nat) : AllP (bodyL (gf15 k) Tryd.f15) := by
  have h : (CutOk (gf15 k) (cf15_l2 k) (theLoop Tryd.f15 2) ∧ True) = AllP (bodyL (gf15 k) Tryd.f15) := by kernel_rfl
  exact Eq.mp h (And.intro (of15_l2 k) (trivial))
theorem sf15 : Sound Tryd.prog glob ef15 := sound_of base (fn := Tryd.f15) Tryd.func15 (by kernel_rfl) gf15 (fun _ => ⟨rfl, rfl⟩) (fun k j => ⟨sf25.at j, sf26.at j, sf27.at j, trivial⟩) qf15 (fun k v => by kernel_rfl)

/-! laws.markText -/
def f28_l4 {ρ : Type} (k : Nat) : Nat → Int → ByteArray → ((((ByteArray × Unit) × Unit) → Option ρ) × Unit) → Option ρ
  | 0, _, _, _ => none
  | j + 1, v6, v7, nx =>
    bif (decide (v6 > 0)) then
      let x8 : ByteArray := (bytesStr ([(wr .u8 (wr .i64 (48 + (v6.tmod 10))))]))
      bif decide (((x8.size + v7.size : Nat) : Int) > 9223372036854775807) then
        none
      else
        f28_l4 k j (wr .i64 (v6.tdiv 10)) (x8 ++ v7) nx
    else
      nx.1 ((v7, ()), ())
def cf28_l4 (k : Nat) : Cut := { sp := { temps := [(0, .c (.int .i64)), (3, .c .str)], blocks := [], ren := [] }, outs := [(.exit 0, { temps := [(3, .c .str)], blocks := [], ren := [] })], F := fun ρ j v nx => f28_l4 k j v.1.1 v.1.2.1 nx }
def f28 (k : Nat) (a1 : Int) : Option ((ByteArray × Unit) × Unit) :=
  bif (decide (a1 ≤ 0)) then
    some (((ByteArray.mk #[109, 48]), ()), ())
  else
    f28_l4 k k a1 ByteArray.empty
      (fun x5 : ((ByteArray × Unit) × Unit) =>
        bif decide ((((ByteArray.mk #[109]).size + x5.1.1.size : Nat) : Int) > 9223372036854775807) then
          none
        else
          some ((((ByteArray.mk #[109]) ++ x5.1.1), ()), ()),
      ())
def ef28 : Entry := { id := 28, ar := { temps := [(0, .c (.int .i64))], blocks := [], ren := [] }, res := { temps := [(0, .c .str)], blocks := [], ren := [] }, f := fun k v => f28 k v.1.1 }
def gf28 (k : Nat) : Full := { tt := tt, n := 20, fns := [], trunc := [], tails := [], touch := [], opens := [], shapes := [], closes := [], k := k, glob := glob, cuts := [(4, (cf28_l4 k))], joins := [] }
theorem of28_l4 (k : Nat) : CutOk (gf28 k) (cf28_l4 k) (theLoop Tryd.f28 4) := fun ρ v nx => ⟨by kernel_rfl, fun j => by kernel_rfl⟩
theorem qf28 (k : Nat) : AllP (bodyL (gf28 k) Tryd.f28) := by
  have h : (CutOk (gf28 k) (cf28_l4 k) (theLoop Tryd.f28 4) ∧ True) = AllP (bodyL (gf28 k) Tryd.f28) := by kernel_rfl
  exact Eq.mp h (And.intro (of28_l4 k) (trivial))
theorem sf28 : Sound Tryd.prog glob ef28 := sound_of base (fn := Tryd.f28) Tryd.func28 (by kernel_rfl) gf28 (fun _ => ⟨rfl, rfl⟩) (fun k j => trivial) qf28 (fun k v => by kernel_rfl)

/-! laws.markMarkS -/
def f16_l2 {ρ : Type} (k : Nat) : Nat → Int → Int → (List (ByteArray × (Int × (Int × (Int × Int))))) → ((((Int × Unit) × ((List (ByteArray × (Int × (Int × (Int × Int))))) × Unit)) → Option ρ) × Unit) → Option ρ
  | 0, _, _, _, _ => none
  | j + 1, v17, v18, v19, nx =>
    bif (decide (v18 < (v19.length : Int))) then
      (f28 k v17).bind fun x20 =>
      bif decide (0 ≤ v18) && decide (v18 < (v19.length : Int)) then
        (v19[v18.toNat]?).bind fun x21 =>
        bif decide (0 ≤ v18) && decide (v18 < ((v19.set v18.toNat (x20.1.1, x21.2)).length : Int)) then
          ((v19.set v18.toNat (x20.1.1, x21.2))[v18.toNat]?).bind fun x22 =>
          let x23 : (List (ByteArray × (Int × (Int × (Int × Int))))) := ((v19.set v18.toNat (x20.1.1, x21.2)).set v18.toNat (x22.1, ((wr .i64 (v17 + 1)), x22.2.2)))
          bif decide (0 ≤ v18) && decide (v18 < (x23.length : Int)) then
            (x23[v18.toNat]?).bind fun x24 =>
            let x25 : (List (ByteArray × (Int × (Int × (Int × Int))))) := (x23.set v18.toNat (x24.1, (x24.2.1, ((wr .i64 ((wr .i64 (v17 + 1)) + 1)), x24.2.2.2))))
            let x26 : Int := (wr .i64 ((wr .i64 ((wr .i64 (v17 + 1)) + 1)) + 1))
            bif decide (0 ≤ v18) && decide (v18 < (x25.length : Int)) then
              (x25[v18.toNat]?).bind fun x27 =>
              let x28 : (List (ByteArray × (Int × (Int × (Int × Int))))) := (x25.set v18.toNat (x27.1, (x27.2.1, (x27.2.2.1, (x26, x27.2.2.2.2)))))
              bif decide (0 ≤ v18) && decide (v18 < (x28.length : Int)) then
                (x28[v18.toNat]?).bind fun x29 =>
                let x30 : (List (ByteArray × (Int × (Int × (Int × Int))))) := (x28.set v18.toNat (x29.1, (x29.2.1, (x29.2.2.1, (x29.2.2.2.1, (wr .i64 (x26 + 1)))))))
                f16_l2 k j (wr .i64 ((wr .i64 (x26 + 1)) + 1)) (wr .i64 (v18 + 1)) x30 nx
              else
                none
            else
              none
          else
            none
        else
          none
      else
        none
    else
      nx.1 ((v17, ()), (v19, ()))
def cf16_l2 (k : Nat) : Cut := { sp := { temps := [(0, .c (.lit (.row 3000000))), (1, .c (.int .i64)), (5, .c (.int .i64))], blocks := [(3000000, .row 57 (.pair .str (.pair (.int .i64) (.pair (.int .i64) (.pair (.int .i64) (.int .i64))))))], ren := [(3000000, some 3000000)] }, outs := [(.exit 0, { temps := [(1, .c (.int .i64))], blocks := [(3000000, .row 57 (.pair .str (.pair (.int .i64) (.pair (.int .i64) (.pair (.int .i64) (.int .i64))))))], ren := [(3000000, some 3000000)] })], F := fun ρ j v nx => f16_l2 k j v.1.2.1 v.1.2.2.1 v.2.1 nx }
def f16 (k : Nat) (a1 : Int) (a2 : (List (ByteArray × (Int × (Int × (Int × Int)))))) : Option ((Int × Unit) × ((List (ByteArray × (Int × (Int × (Int × Int))))) × Unit)) :=
  f16_l2 k k a1 0 a2
    (fun x16 : ((Int × Unit) × ((List (ByteArray × (Int × (Int × (Int × Int))))) × Unit)) =>
      some ((x16.1.1, ()), (x16.2.1, ())),
    ())
def ef16 : Entry := { id := 16, ar := { temps := [(0, .c (.row 3000000)), (1, .c (.int .i64))], blocks := [(3000000, .row 57 (.pair .str (.pair (.int .i64) (.pair (.int .i64) (.pair (.int .i64) (.int .i64))))))], ren := [] }, res := { temps := [(0, .c (.int .i64))], blocks := [(3000000, .row 57 (.pair .str (.pair (.int .i64) (.pair (.int .i64) (.pair (.int .i64) (.int .i64))))))], ren := [(3000000, some 3000000)] }, f := fun k v => f16 k v.1.2.1 v.2.1 }
def gf16 (k : Nat) : Full := { tt := tt, n := 56, fns := [ef28], trunc := [], tails := [], touch := [], opens := [], shapes := [], closes := [], k := k, glob := glob, cuts := [(2, (cf16_l2 k))], joins := [] }
theorem of16_l2 (k : Nat) : CutOk (gf16 k) (cf16_l2 k) (theLoop Tryd.f16 2) := fun ρ v nx => ⟨by kernel_rfl, fun j => by kernel_rfl⟩
theorem qf16 (k : Nat) : AllP (bodyL (gf16 k) Tryd.f16) := by
  have h : (CutOk (gf16 k) (cf16_l2 k) (theLoop Tryd.f16 2) ∧ True) = AllP (bodyL (gf16 k) Tryd.f16) := by kernel_rfl
  exact Eq.mp h (And.intro (of16_l2 k) (trivial))
theorem sf16 : Sound Tryd.prog glob ef16 := sound_of base (fn := Tryd.f16) Tryd.func16 (by kernel_rfl) gf16 (fun _ => ⟨rfl, rfl⟩) (fun k j => ⟨sf28.at j, trivial⟩) qf16 (fun k v => by kernel_rfl)

/-! laws.markRun -/
def f7 (k : Nat) (a1 : Int) (a2 : (List ((List ((Int × (Int × Int)) × (Int × (Int × Int)))) × ((List ((List ((Int × (Int × Int)) × (Int × (Int × Int)))) × (Int × (Bool × ((Int × (Int × Int)) × (Int × (Int × Int))))))) × (List Int))))) (a3 : (List (ByteArray × (Int × (Int × (Int × Int)))))) : Option ((Int × Unit) × ((List ((List ((Int × (Int × Int)) × (Int × (Int × Int)))) × ((List ((List ((Int × (Int × Int)) × (Int × (Int × Int)))) × (Int × (Bool × ((Int × (Int × Int)) × (Int × (Int × Int))))))) × (List Int)))) × (List (ByteArray × (Int × (Int × (Int × Int))))) × Unit)) :=
  (f15 k a1 a2).bind fun x3 =>
  (f16 k x3.1.1 a3).bind fun x4 =>
  some ((x4.1.1, ()), (x3.2.1, x4.2.1, ()))
def ef7 : Entry := { id := 7, ar := { temps := [(0, .agg [(.row 3000000), (.row 3000001)]), (1, .c (.int .i64))], blocks := [(3000000, .own 43 (.p (.s 49 (.d (.pair (.pair (.int .i64) (.pair (.int .i64) (.int .i64))) (.pair (.int .i64) (.pair (.int .i64) (.int .i64)))))) (.p (.s 66 (.p (.s 49 (.d (.pair (.pair (.int .i64) (.pair (.int .i64) (.int .i64))) (.pair (.int .i64) (.pair (.int .i64) (.int .i64)))))) (.d (.pair (.int .i64) (.pair .bool (.pair (.pair (.int .i64) (.pair (.int .i64) (.int .i64))) (.pair (.int .i64) (.pair (.int .i64) (.int .i64))))))))) (.s 2 (.d (.int .i64)))))), (3000001, .row 57 (.pair .str (.pair (.int .i64) (.pair (.int .i64) (.pair (.int .i64) (.int .i64))))))], ren := [] }, res := { temps := [(0, .c (.int .i64))], blocks := [(3000000, .own 43 (.p (.s 49 (.d (.pair (.pair (.int .i64) (.pair (.int .i64) (.int .i64))) (.pair (.int .i64) (.pair (.int .i64) (.int .i64)))))) (.p (.s 66 (.p (.s 49 (.d (.pair (.pair (.int .i64) (.pair (.int .i64) (.int .i64))) (.pair (.int .i64) (.pair (.int .i64) (.int .i64)))))) (.d (.pair (.int .i64) (.pair .bool (.pair (.pair (.int .i64) (.pair (.int .i64) (.int .i64))) (.pair (.int .i64) (.pair (.int .i64) (.int .i64))))))))) (.s 2 (.d (.int .i64)))))), (3000001, .row 57 (.pair .str (.pair (.int .i64) (.pair (.int .i64) (.pair (.int .i64) (.int .i64))))))], ren := [(3000000, some 3000000), (3000001, some 3000001)] }, f := fun k v => f7 k v.1.2.1 v.2.1 v.2.2.1 }
def gf7 (k : Nat) : Full := { tt := tt, n := 14, fns := [ef15, ef16], trunc := [], tails := [], touch := [], opens := [], shapes := [], closes := [], k := k, glob := glob, cuts := [], joins := [] }
theorem qf7 (k : Nat) : AllP (bodyL (gf7 k) Tryd.f7) := by
  have h : True = AllP (bodyL (gf7 k) Tryd.f7) := by kernel_rfl
  exact Eq.mp h trivial
theorem sf7 : Sound Tryd.prog glob ef7 := sound_of base (fn := Tryd.f7) Tryd.func7 (by kernel_rfl) gf7 (fun _ => ⟨rfl, rfl⟩) (fun k j => ⟨sf15.at j, sf16.at j, trivial⟩) qf7 (fun k v => by kernel_rfl)

/-! laws.heldPointS -/
def f29_l2 {ρ : Type} (k : Nat) : Nat → (List ((Int × (Int × Int)) × (Int × (Int × Int)))) → Int → Int → ((((Int × Unit) × Unit) → Option ρ) × (((Int × Unit) × Unit) → Option ρ) × Unit) → Option ρ
  | 0, _, _, _, _ => none
  | j + 1, v24, v25, v26, nx =>
    bif (decide (v26 < (v24.length : Int))) then
      (getI v24 v26).bind fun x28 =>
      bif (x28.1.1 != v25) then
        nx.2.1 (((-1), ()), ())
      else
        (getI v24 v26).bind fun x30 =>
        bif (x30.1.2.1 != (wr .i64 (v25 + 1))) then
          nx.2.1 (((-1), ()), ())
        else
          (getI v24 v26).bind fun x33 =>
          let x34 : Bool := (x33.1.2.2 != (wr .i64 ((wr .i64 (v25 + 1)) + 1)))
          bif x34 then
            nx.2.1 (((-1), ()), ())
          else
            let x35 : Int := (wr .i64 ((wr .i64 ((wr .i64 (v25 + 1)) + 1)) + 1))
            (getI v24 v26).bind fun x37 =>
            bif (x37.2.1 != x35) then
              nx.2.1 (((-1), ()), ())
            else
              (getI v24 v26).bind fun x39 =>
              bif (x39.2.2.1 != (wr .i64 (x35 + 1))) then
                nx.2.1 (((-1), ()), ())
              else
                (getI v24 v26).bind fun x40 =>
                let x41 : Bool := (x40.2.2.2 != (wr .i64 ((wr .i64 (x35 + 1)) + 1)))
                bif x41 then
                  nx.2.1 (((-1), ()), ())
                else
                  let x42 : Int := (wr .i64 ((wr .i64 ((wr .i64 (x35 + 1)) + 1)) + 1))
                  f29_l2 k j v24 x42 (wr .i64 (v26 + 1)) nx
    else
      nx.1 ((v25, ()), ())
def cf29_l2 (k : Nat) : Cut := { sp := { temps := [(0, .c (.sl (.pair (.pair (.int .i64) (.pair (.int .i64) (.int .i64))) (.pair (.int .i64) (.pair (.int .i64) (.int .i64)))))), (1, .c (.int .i64)), (5, .c (.int .i64))], blocks := [], ren := [] }, outs := [(.exit 0, { temps := [(1, .c (.int .i64))], blocks := [], ren := [] }), (.ret, { temps := [(4, .c (.int .i64))], blocks := [], ren := [] })], F := fun ρ j v nx => f29_l2 k j v.1.1 v.1.2.1 v.1.2.2.1 nx }
def f29 (k : Nat) (a1 : (List ((Int × (Int × Int)) × (Int × (Int × Int))))) (a2 : Int) : Option ((Int × Unit) × Unit) :=
  f29_l2 k k a1 a2 0
    (fun x22 : ((Int × Unit) × Unit) =>
      some ((x22.1.1, ()), ()),
    fun x23 : ((Int × Unit) × Unit) =>
      some ((x23.1.1, ()), ()),
    ())
def ef29 : Entry := { id := 29, ar := { temps := [(0, .c (.sl (.pair (.pair (.int .i64) (.pair (.int .i64) (.int .i64))) (.pair (.int .i64) (.pair (.int .i64) (.int .i64)))))), (1, .c (.int .i64))], blocks := [], ren := [] }, res := { temps := [(0, .c (.int .i64))], blocks := [], ren := [] }, f := fun k v => f29 k v.1.1 v.1.2.1 }
def gf29 (k : Nat) : Full := { tt := tt, n := 73, fns := [], trunc := [], tails := [], touch := [], opens := [], shapes := [], closes := [], k := k, glob := glob, cuts := [(2, (cf29_l2 k))], joins := [] }
theorem of29_l2 (k : Nat) : CutOk (gf29 k) (cf29_l2 k) (theLoop Tryd.f29 2) := fun ρ v nx => ⟨by kernel_rfl, fun j => by kernel_rfl⟩
theorem qf29 (k : Nat) : AllP (bodyL (gf29 k) Tryd.f29) := by
  have h : (CutOk (gf29 k) (cf29_l2 k) (theLoop Tryd.f29 2) ∧ True) = AllP (bodyL (gf29 k) Tryd.f29) := by kernel_rfl
  exact Eq.mp h (And.intro (of29_l2 k) (trivial))
theorem sf29 : Sound Tryd.prog glob ef29 := sound_of base (fn := Tryd.f29) Tryd.func29 (by kernel_rfl) gf29 (fun _ => ⟨rfl, rfl⟩) (fun k j => trivial) qf29 (fun k v => by kernel_rfl)

/-! laws.heldFaceS -/
def f30_l2 {ρ : Type} (k : Nat) : Nat → (List ((List ((Int × (Int × Int)) × (Int × (Int × Int)))) × (Int × (Bool × ((Int × (Int × Int)) × (Int × (Int × Int))))))) → Int → Int → ((((Int × Unit) × Unit) → Option ρ) × (((Int × Unit) × Unit) → Option ρ) × Unit) → Option ρ
  | 0, _, _, _, _ => none
  | j + 1, v33, v34, v35, nx =>
    bif (decide (v35 < (v33.length : Int))) then
      (getI v33 v35).bind fun x36 =>
      (f29 k x36.1 v34).bind fun x37 =>
      bif (decide (x37.1.1 < 0)) then
        nx.2.1 (((-1), ()), ())
      else
        (getI v33 v35).bind fun x39 =>
        bif (x39.2.1 != x37.1.1) then
          nx.2.1 (((-1), ()), ())
        else
          (getI v33 v35).bind fun x42 =>
          let x43 : Bool := (!(x42.2.2.1 == (((wr .i64 (x37.1.1 + 1)).tmod 3) == 0)))
          bif x43 then
            nx.2.1 (((-1), ()), ())
          else
            (getI v33 v35).bind fun x46 =>
            let x47 : Bool := (x46.2.2.2.1.1 != (wr .i64 ((wr .i64 (x37.1.1 + 1)) + 1)))
            bif x47 then
              nx.2.1 (((-1), ()), ())
            else
              let x48 : Int := (wr .i64 ((wr .i64 ((wr .i64 (x37.1.1 + 1)) + 1)) + 1))
              (getI v33 v35).bind fun x50 =>
              bif (x50.2.2.2.1.2.1 != x48) then
                nx.2.1 (((-1), ()), ())
              else
                (getI v33 v35).bind fun x52 =>
                bif (x52.2.2.2.1.2.2 != (wr .i64 (x48 + 1))) then
                  nx.2.1 (((-1), ()), ())
                else
                  (getI v33 v35).bind fun x55 =>
                  let x56 : Bool := (x55.2.2.2.2.1 != (wr .i64 ((wr .i64 (x48 + 1)) + 1)))
                  bif x56 then
                    nx.2.1 (((-1), ()), ())
                  else
                    let x57 : Int := (wr .i64 ((wr .i64 ((wr .i64 (x48 + 1)) + 1)) + 1))
                    (getI v33 v35).bind fun x59 =>
                    bif (x59.2.2.2.2.2.1 != x57) then
                      nx.2.1 (((-1), ()), ())
                    else
                      (getI v33 v35).bind fun x60 =>
                      bif (x60.2.2.2.2.2.2 != (wr .i64 (x57 + 1))) then
                        nx.2.1 (((-1), ()), ())
                      else
                        f30_l2 k j v33 (wr .i64 ((wr .i64 (x57 + 1)) + 1)) (wr .i64 (v35 + 1)) nx
    else
      nx.1 ((v34, ()), ())
def cf30_l2 (k : Nat) : Cut := { sp := { temps := [(0, .c (.sl (.pair (.sl (.pair (.pair (.int .i64) (.pair (.int .i64) (.int .i64))) (.pair (.int .i64) (.pair (.int .i64) (.int .i64))))) (.pair (.int .i64) (.pair .bool (.pair (.pair (.int .i64) (.pair (.int .i64) (.int .i64))) (.pair (.int .i64) (.pair (.int .i64) (.int .i64))))))))), (1, .c (.int .i64)), (5, .c (.int .i64))], blocks := [], ren := [] }, outs := [(.exit 0, { temps := [(1, .c (.int .i64))], blocks := [], ren := [] }), (.ret, { temps := [(4, .c (.int .i64))], blocks := [], ren := [] })], F := fun ρ j v nx => f30_l2 k j v.1.1 v.1.2.1 v.1.2.2.1 nx }
def f30 (k : Nat) (a1 : (List ((List ((Int × (Int × Int)) × (Int × (Int × Int)))) × (Int × (Bool × ((Int × (Int × Int)) × (Int × (Int × Int)))))))) (a2 : Int) : Option ((Int × Unit) × Unit) :=
  f30_l2 k k a1 a2 0
    (fun x31 : ((Int × Unit) × Unit) =>
      some ((x31.1.1, ()), ()),
    fun x32 : ((Int × Unit) × Unit) =>
      some ((x32.1.1, ()), ()),
    ())
def ef30 : Entry := { id := 30, ar := { temps := [(0, .c (.sl (.pair (.sl (.pair (.pair (.int .i64) (.pair (.int .i64) (.int .i64))) (.pair (.int .i64) (.pair (.int .i64) (.int .i64))))) (.pair (.int .i64) (.pair .bool (.pair (.pair (.int .i64) (.pair (.int .i64) (.int .i64))) (.pair (.int .i64) (.pair (.int .i64) (.int .i64))))))))), (1, .c (.int .i64))], blocks := [], ren := [] }, res := { temps := [(0, .c (.int .i64))], blocks := [], ren := [] }, f := fun k v => f30 k v.1.1 v.1.2.1 }
def gf30 (k : Nat) : Full := { tt := tt, n := 110, fns := [ef29], trunc := [], tails := [], touch := [], opens := [], shapes := [], closes := [], k := k, glob := glob, cuts := [(2, (cf30_l2 k))], joins := [] }
theorem of30_l2 (k : Nat) : CutOk (gf30 k) (cf30_l2 k) (theLoop Tryd.f30 2) := fun ρ v nx => ⟨by kernel_rfl, fun j => by kernel_rfl⟩
theorem qf30 (k : Nat) : AllP (bodyL (gf30 k) Tryd.f30) := by
  have h : (CutOk (gf30 k) (cf30_l2 k) (theLoop Tryd.f30 2) ∧ True) = AllP (bodyL (gf30 k) Tryd.f30) := by kernel_rfl
  exact Eq.mp h (And.intro (of30_l2 k) (trivial))
theorem sf30 : Sound Tryd.prog glob ef30 := sound_of base (fn := Tryd.f30) Tryd.func30 (by kernel_rfl) gf30 (fun _ => ⟨rfl, rfl⟩) (fun k j => ⟨sf29.at j, trivial⟩) qf30 (fun k v => by kernel_rfl)

/-! laws.heldInt64S -/
def f31_l2 {ρ : Type} (k : Nat) : Nat → (List Int) → Int → Int → ((((Int × Unit) × Unit) → Option ρ) × (((Int × Unit) × Unit) → Option ρ) × Unit) → Option ρ
  | 0, _, _, _, _ => none
  | j + 1, v9, v10, v11, nx =>
    bif (decide (v11 < (v9.length : Int))) then
      (getI v9 v11).bind fun x12 =>
      bif (x12 != v10) then
        nx.2.1 (((-1), ()), ())
      else
        f31_l2 k j v9 (wr .i64 (v10 + 1)) (wr .i64 (v11 + 1)) nx
    else
      nx.1 ((v10, ()), ())
def cf31_l2 (k : Nat) : Cut := { sp := { temps := [(0, .c (.sl (.int .i64))), (1, .c (.int .i64)), (5, .c (.int .i64))], blocks := [], ren := [] }, outs := [(.exit 0, { temps := [(1, .c (.int .i64))], blocks := [], ren := [] }), (.ret, { temps := [(4, .c (.int .i64))], blocks := [], ren := [] })], F := fun ρ j v nx => f31_l2 k j v.1.1 v.1.2.1 v.1.2.2.1 nx }
def f31 (k : Nat) (a1 : (List Int)) (a2 : Int) : Option ((Int × Unit) × Unit) :=
  f31_l2 k k a1 a2 0
    (fun x7 : ((Int × Unit) × Unit) =>
      some ((x7.1.1, ()), ()),
    fun x8 : ((Int × Unit) × Unit) =>
      some ((x8.1.1, ()), ()),
    ())
def ef31 : Entry := { id := 31, ar := { temps := [(0, .c (.sl (.int .i64))), (1, .c (.int .i64))], blocks := [], ren := [] }, res := { temps := [(0, .c (.int .i64))], blocks := [], ren := [] }, f := fun k v => f31 k v.1.1 v.1.2.1 }
def gf31 (k : Nat) : Full := { tt := tt, n := 21, fns := [], trunc := [], tails := [], touch := [], opens := [], shapes := [], closes := [], k := k, glob := glob, cuts := [(2, (cf31_l2 k))], joins := [] }
theorem of31_l2 (k : Nat) : CutOk (gf31 k) (cf31_l2 k) (theLoop Tryd.f31 2) := fun ρ v nx => ⟨by kernel_rfl, fun j => by kernel_rfl⟩
theorem qf31 (k : Nat) : AllP (bodyL (gf31 k) Tryd.f31) := by
  have h : (CutOk (gf31 k) (cf31_l2 k) (theLoop Tryd.f31 2) ∧ True) = AllP (bodyL (gf31 k) Tryd.f31) := by kernel_rfl
  exact Eq.mp h (And.intro (of31_l2 k) (trivial))
theorem sf31 : Sound Tryd.prog glob ef31 := sound_of base (fn := Tryd.f31) Tryd.func31 (by kernel_rfl) gf31 (fun _ => ⟨rfl, rfl⟩) (fun k j => trivial) qf31 (fun k v => by kernel_rfl)

end Go.Proofs.YtoilldgndokmkaaDoor.R
