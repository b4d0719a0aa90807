/- Plain twins of functions, with their contracts. Printed by a program of this session. -/
import Derived.Test.YtcijmfodhdigpaaProg
import Derived.Test.YtcijmfodhdigpaaR1Tools
set_option linter.unusedVariables false
namespace Go.Proofs.Ytcijmfodhdigpaa.R
open Go.Proofs.Ytcijmfodhdigpaa.R1
def tt : TT := [
  (2, { k := (.int .i64), size := 1, bytes := 8, zero := [.int .i64 0], u := (.int .i64) }),
  (3, { k := (.int .i64), size := 1, bytes := 8, zero := [.int .i64 0], u := (.int .i64) }),
  (4, { k := .bool, size := 1, bytes := 1, zero := [.bool false], u := .bool }),
  (5, { k := (.int .u8), size := 1, bytes := 1, zero := [.int .u8 0], u := (.int .u8) }),
  (9, { k := .str, size := 1, bytes := 16, zero := [.str ByteArray.empty], u := .str }),
  (22, { k := (.sl 44), size := 1, bytes := 24, zero := [.nils], u := (.sl (.pair (.pair (.int .i64) (.pair (.int .i64) (.int .i64))) (.pair (.int .i64) (.pair (.int .i64) (.int .i64))))) }),
  (23, { k := (.sl 59), size := 1, bytes := 24, zero := [.nils], u := (.sl (.pair (.int .i64) (.pair (.int .i64) (.int .i64)))) }),
  (25, { k := (.struct [(0, 22), (1, 23)]), size := 2, bytes := 48, zero := [.nils, .nils], u := (.pair (.sl (.pair (.pair (.int .i64) (.pair (.int .i64) (.int .i64))) (.pair (.int .i64) (.pair (.int .i64) (.int .i64))))) (.sl (.pair (.int .i64) (.pair (.int .i64) (.int .i64))))) }),
  (40, { k := (.sl 48), size := 1, bytes := 24, zero := [.nils], u := (.sl (.pair (.pair (.pair (.int .i64) (.pair (.int .i64) (.int .i64))) (.pair (.int .i64) (.pair (.int .i64) (.int .i64)))) (.pair (.pair (.pair (.int .i64) (.pair (.int .i64) (.int .i64))) (.pair (.int .i64) (.pair (.int .i64) (.int .i64)))) (.int .i64)))) }),
  (42, { k := (.struct [(0, 2), (1, 2), (2, 2)]), size := 3, bytes := 24, zero := [.int .i64 0, .int .i64 0, .int .i64 0], u := (.pair (.int .i64) (.pair (.int .i64) (.int .i64))), eq := true }),
  (44, { k := (.struct [(0, 42), (3, 42)]), size := 6, bytes := 48, zero := [.int .i64 0, .int .i64 0, .int .i64 0, .int .i64 0, .int .i64 0, .int .i64 0], u := (.pair (.pair (.int .i64) (.pair (.int .i64) (.int .i64))) (.pair (.int .i64) (.pair (.int .i64) (.int .i64)))), eq := true }),
  (48, { k := (.struct [(0, 44), (6, 44), (12, 2)]), size := 13, bytes := 104, zero := [.int .i64 0, .int .i64 0, .int .i64 0, .int .i64 0, .int .i64 0, .int .i64 0, .int .i64 0, .int .i64 0, .int .i64 0, .int .i64 0, .int .i64 0, .int .i64 0, .int .i64 0], u := (.pair (.pair (.pair (.int .i64) (.pair (.int .i64) (.int .i64))) (.pair (.int .i64) (.pair (.int .i64) (.int .i64)))) (.pair (.pair (.pair (.int .i64) (.pair (.int .i64) (.int .i64))) (.pair (.int .i64) (.pair (.int .i64) (.int .i64)))) (.int .i64))) }),
  (51, { k := (.sl 53), size := 1, bytes := 24, zero := [.nils], u := (.sl (.pair (.pair (.pair (.int .i64) (.pair (.int .i64) (.int .i64))) (.pair (.int .i64) (.pair (.int .i64) (.int .i64)))) (.pair (.pair (.pair (.int .i64) (.pair (.int .i64) (.int .i64))) (.pair (.int .i64) (.pair (.int .i64) (.int .i64)))) (.int .i64)))) }),
  (53, { k := (.struct [(0, 44), (6, 44), (12, 2)]), size := 13, bytes := 104, zero := [.int .i64 0, .int .i64 0, .int .i64 0, .int .i64 0, .int .i64 0, .int .i64 0, .int .i64 0, .int .i64 0, .int .i64 0, .int .i64 0, .int .i64 0, .int .i64 0, .int .i64 0], u := (.pair (.pair (.pair (.int .i64) (.pair (.int .i64) (.int .i64))) (.pair (.int .i64) (.pair (.int .i64) (.int .i64)))) (.pair (.pair (.pair (.int .i64) (.pair (.int .i64) (.int .i64))) (.pair (.int .i64) (.pair (.int .i64) (.int .i64)))) (.int .i64))) }),
  (59, { k := (.struct [(0, 2), (1, 2), (2, 2)]), size := 3, bytes := 24, zero := [.int .i64 0, .int .i64 0, .int .i64 0], u := (.pair (.int .i64) (.pair (.int .i64) (.int .i64))) }),
  (76, { k := (.struct [(0, 2), (1, 2), (2, 2)]), size := 3, bytes := 24, zero := [.int .i64 0, .int .i64 0, .int .i64 0], u := (.pair (.int .i64) (.pair (.int .i64) (.int .i64))) }),
  (82, { k := (.int .u64), size := 1, bytes := 8, zero := [.int .u64 0], u := (.int .u64) }),
  (84, { k := (.sl 3), size := 1, bytes := 24, zero := [.nils], u := (.sl (.int .i64)) }),
  (100, { k := (.int .u64), size := 1, bytes := 8, zero := [.int .u64 0], u := (.int .u64) }),
  (110, { k := (.int .u64), size := 1, bytes := 8, zero := [.int .u64 0], u := (.int .u64) })]
def glob : Nat → B := fun _ => .free
theorem ttok : TTok Try.prog tt := ttok_of_chk (by kernel_rfl)
theorem base : Base Try.prog tt glob := ⟨drawOk (by kernel_rfl), ttok, fun _ _ => rfl⟩

/-! spec.l00In -/
def f19 (k : Nat) (a1 : Int) (a2 : Int) (a3 : Int) : Option ((Bool × Unit) × Unit) :=
  bif (decide (a1 ≥ a2)) then
    some (((decide (a1 ≤ a3)), ()), ())
  else
    some ((false, ()), ())
def ef19 : Entry := { id := 19, ar := { temps := [(0, .c (.int .i64)), (1, .c (.int .i64)), (2, .c (.int .i64))], blocks := [], ren := [] }, res := { temps := [(0, .c .bool)], blocks := [], ren := [] }, f := fun k v => f19 k v.1.1 v.1.2.1 v.1.2.2.1 }
def gf19 (k : Nat) : Full := { tt := tt, n := 15, fns := [], trunc := [], tails := [], k := k, glob := glob, cuts := [], joins := [] }
theorem qf19 (k : Nat) : AllP (bodyL (gf19 k) Try.f19) := by
  have h : True = AllP (bodyL (gf19 k) Try.f19) := by kernel_rfl
  exact Eq.mp h trivial
theorem sf19 : Sound Try.prog glob ef19 := sound_of base (fn := Try.f19) Try.func19 (by kernel_rfl) gf19 (fun _ => ⟨rfl, rfl⟩) (fun k j => trivial) qf19 (fun k v => by kernel_rfl)

/-! spec.l03Square -/
def f20 (k : Nat) (a1 : Int) : Option ((Unit × Unit) × ((List ((Int × (Int × Int)) × (Int × (Int × Int)))) × Unit)) :=
  some (((), ()), ([((0, (0, 0)), (0, (0, 0))), ((a1, (0, 0)), (0, (0, 0))), ((a1, (0, 0)), (a1, (0, 0))), ((0, (0, 0)), (a1, (0, 0)))], ()))
def ef20 : Entry := { id := 20, ar := { temps := [(0, .c (.int .i64))], blocks := [], ren := [] }, res := { temps := [(0, .c (.row 4000000))], blocks := [(4000000, .row 44 (.pair (.pair (.int .i64) (.pair (.int .i64) (.int .i64))) (.pair (.int .i64) (.pair (.int .i64) (.int .i64)))))], ren := [] }, f := fun k v => f20 k v.1.1 }
def gf20 (k : Nat) : Full := { tt := tt, n := 15, fns := [], trunc := [], tails := [], k := k, glob := glob, cuts := [], joins := [] }
theorem qf20 (k : Nat) : AllP (bodyL (gf20 k) Try.f20) := by
  have h : True = AllP (bodyL (gf20 k) Try.f20) := by kernel_rfl
  exact Eq.mp h trivial
theorem sf20 : Sound Try.prog glob ef20 := sound_of base (fn := Try.f20) Try.func20 (by kernel_rfl) gf20 (fun _ => ⟨rfl, rfl⟩) (fun k j => trivial) qf20 (fun k v => by kernel_rfl)

/-! spec.SquarePaper -/
def f9 (k : Nat) (a1 : Int) : Option ((Unit × Bool × Unit) × ((List ((Int × (Int × Int)) × (Int × (Int × Int)))) × Unit)) :=
  (f19 k a1 1 1000).bind fun x3 =>
  bif (!x3.1.1) then
    some (((), false, ()), (([] : List ((Int × (Int × Int)) × (Int × (Int × Int)))), ()))
  else
    (f20 k a1).bind fun x4 =>
    some (((), true, ()), (x4.2.1, ()))
def ef9 : Entry := { id := 9, ar := { temps := [(0, .c (.int .i64))], blocks := [], ren := [] }, res := { temps := [(0, .c (.row 4000000)), (1, .c .bool)], blocks := [(4000000, .row 44 (.pair (.pair (.int .i64) (.pair (.int .i64) (.int .i64))) (.pair (.int .i64) (.pair (.int .i64) (.int .i64)))))], ren := [] }, f := fun k v => f9 k v.1.1 }
def gf9 (k : Nat) : Full := { tt := tt, n := 9, fns := [ef19, ef20], trunc := [], tails := [], k := k, glob := glob, cuts := [], joins := [] }
theorem qf9 (k : Nat) : AllP (bodyL (gf9 k) Try.f9) := by
  have h : True = AllP (bodyL (gf9 k) Try.f9) := by kernel_rfl
  exact Eq.mp h trivial
theorem sf9 : Sound Try.prog glob ef9 := sound_of base (fn := Try.f9) Try.func9 (by kernel_rfl) gf9 (fun _ => ⟨rfl, rfl⟩) (fun k j => ⟨sf19.at j, sf20.at j, trivial⟩) qf9 (fun k v => by kernel_rfl)

/-! spec.l01Of -/
def f46 (k : Nat) (a1 : Int) (a2 : Int) (a3 : Int) : Option (((Int × Int × Int × Unit) × Unit) × Unit) :=
  some (((a1, a2, a3, ()), ()), ())
def ef46 : Entry := { id := 46, ar := { temps := [(0, .agg [(.int .i64), (.int .i64), (.int .i64)])], blocks := [], ren := [] }, res := { temps := [(0, .agg [(.int .i64), (.int .i64), (.int .i64)])], blocks := [], ren := [] }, f := fun k v => f46 k v.1.1.1 v.1.1.2.1 v.1.1.2.2.1 }
def gf46 (k : Nat) : Full := { tt := tt, n := 10, fns := [], trunc := [], tails := [], k := k, glob := glob, cuts := [], joins := [] }
theorem qf46 (k : Nat) : AllP (bodyL (gf46 k) Try.f46) := by
  have h : True = AllP (bodyL (gf46 k) Try.f46) := by kernel_rfl
  exact Eq.mp h trivial
theorem sf46 : Sound Try.prog glob ef46 := sound_of base (fn := Try.f46) Try.func46 (by kernel_rfl) gf46 (fun _ => ⟨rfl, rfl⟩) (fun k j => trivial) qf46 (fun k v => by kernel_rfl)

/-! spec.l01Neg -/
def f54 (k : Nat) (a1 : Int) (a2 : Int) (a3 : Int) : Option (((Int × Int × Int × Unit) × Unit) × Unit) :=
  some ((((wr .i64 (0 - a1)), (wr .i64 (0 - a2)), a3, ()), ()), ())
def ef54 : Entry := { id := 54, ar := { temps := [(0, .agg [(.int .i64), (.int .i64), (.int .i64)])], blocks := [], ren := [] }, res := { temps := [(0, .agg [(.int .i64), (.int .i64), (.int .i64)])], blocks := [], ren := [] }, f := fun k v => f54 k v.1.1.1 v.1.1.2.1 v.1.1.2.2.1 }
def gf54 (k : Nat) : Full := { tt := tt, n := 12, fns := [], trunc := [], tails := [], k := k, glob := glob, cuts := [], joins := [] }
theorem qf54 (k : Nat) : AllP (bodyL (gf54 k) Try.f54) := by
  have h : True = AllP (bodyL (gf54 k) Try.f54) := by kernel_rfl
  exact Eq.mp h trivial
theorem sf54 : Sound Try.prog glob ef54 := sound_of base (fn := Try.f54) Try.func54 (by kernel_rfl) gf54 (fun _ => ⟨rfl, rfl⟩) (fun k j => trivial) qf54 (fun k v => by kernel_rfl)

/-! spec.l01Low -/
def f76_l3 {ρ : Type} (k : Nat) : Nat → Int → Int → Int → Int → Int → Int → ((((Unit × Unit × Unit) × ((Int × Int × Int × Unit) × (Int × Int × Int × Unit) × Unit)) → Option ρ) × Unit) → Option ρ
  | 0, _, _, _, _, _, _, _ => none
  | j + 1, v18, v19, v20, v21, v22, v23, nx =>
    bif (decide (v20 > 0)) then
      bif ((v18.tmod 2) == 0) then
        bif ((v19.tmod 2) == 0) then
          f76_l3 k j (wr .i64 (v18.tdiv 2)) (wr .i64 (v19.tdiv 2)) (wr .i64 (v20 - 1)) v21 v22 v23 nx
        else
          nx.1 (((), (), ()), ((v18, v19, v20, ()), (v21, v22, v23, ()), ()))
      else
        nx.1 (((), (), ()), ((v18, v19, v20, ()), (v21, v22, v23, ()), ()))
    else
      nx.1 (((), (), ()), ((v18, v19, v20, ()), (v21, v22, v23, ()), ()))
def cf76_l3 (k : Nat) : Cut := { sp := { temps := [(1, .c (.box 5000000)), (2, .c (.box 5000001))], blocks := [(5000000, .box 76 [(.int .i64), (.int .i64), (.int .i64)]), (5000001, .box 76 [(.int .i64), (.int .i64), (.int .i64)])], ren := [] }, outs := [(.exit 0, { temps := [(1, .c (.box 5000000)), (2, .c (.box 5000001))], blocks := [(5000000, .box 76 [(.int .i64), (.int .i64), (.int .i64)]), (5000001, .box 76 [(.int .i64), (.int .i64), (.int .i64)])], ren := [] })], F := fun ρ j v nx => f76_l3 k j v.2.1.1 v.2.1.2.1 v.2.1.2.2.1 v.2.2.1.1 v.2.2.1.2.1 v.2.2.1.2.2.1 nx }
def f76_j3 {ρ : Type} (k : Nat) (v24 : Int) (v25 : Int) (v26 : Int) (v27 : Int) (v28 : Int) (v29 : Int) (nx : ((((Unit × Unit) × ((Int × Int × Int × Unit) × Unit)) → Option ρ) × Unit)) : Option ρ :=
  f76_l3 k k v24 v25 v26 v27 v28 v29
    (fun x30 : ((Unit × Unit × Unit) × ((Int × Int × Int × Unit) × (Int × Int × Int × Unit) × Unit)) =>
      nx.1 (((), ()), ((x30.2.1.1, x30.2.1.2.1, x30.2.1.2.2.1, ()), ())),
    ())
def cf76_j3 : Cut := { sp := { temps := [(1, .c (.box 5000000)), (2, .c (.box 5000001))], blocks := [(5000000, .box 76 [(.int .i64), (.int .i64), (.int .i64)]), (5000001, .box 76 [(.int .i64), (.int .i64), (.int .i64)])], ren := [] }, outs := [(.ret, { temps := [(2, .c (.box 5000000))], blocks := [(5000000, .box 76 [(.int .i64), (.int .i64), (.int .i64)])], ren := [] })], F := fun ρ k v nx => f76_j3 k v.2.1.1 v.2.1.2.1 v.2.1.2.2.1 v.2.2.1.1 v.2.2.1.2.1 v.2.2.1.2.2.1 nx }
def f76 (k : Nat) (a1 : Int) (a2 : Int) (a3 : Int) : Option (((Int × Int × Int × Unit) × Unit) × Unit) :=
  bif (a1 == 0) then
    bif (a2 == 0) then
      some (((0, 0, 0, ()), ()), ())
    else
      f76_j3 k a1 a2 a3 0 0 0
        (fun x16 : ((Unit × Unit) × ((Int × Int × Int × Unit) × Unit)) =>
          some (((x16.2.1.1, x16.2.1.2.1, x16.2.1.2.2.1, ()), ()), ()),
        ())
  else
    f76_j3 k a1 a2 a3 0 0 0
      (fun x17 : ((Unit × Unit) × ((Int × Int × Int × Unit) × Unit)) =>
        some (((x17.2.1.1, x17.2.1.2.1, x17.2.1.2.2.1, ()), ()), ()),
      ())
def ef76 : Entry := { id := 76, ar := { temps := [(0, .agg [(.int .i64), (.int .i64), (.int .i64)])], blocks := [], ren := [] }, res := { temps := [(0, .agg [(.int .i64), (.int .i64), (.int .i64)])], blocks := [], ren := [] }, f := fun k v => f76 k v.1.1.1 v.1.1.2.1 v.1.1.2.2.1 }
def gf76 (k : Nat) : Full := { tt := tt, n := 40, fns := [], trunc := [], tails := [], k := k, glob := glob, cuts := [(3, (cf76_l3 k))], joins := [(3, cf76_j3)] }
theorem of76_l3 (k : Nat) : CutOk (gf76 k) (cf76_l3 k) (theLoop Try.f76 3) := fun ρ v nx => ⟨by kernel_rfl, fun j => by kernel_rfl⟩
theorem of76_j3 (k : Nat) : JoinOk (gf76 k) cf76_j3 (theJoin Try.f76 3) := fun ρ v nx => by kernel_rfl
theorem qf76 (k : Nat) : AllP (bodyL (gf76 k) Try.f76) := by
  have h : (CutOk (gf76 k) (cf76_l3 k) (theLoop Try.f76 3) ∧ JoinOk (gf76 k) cf76_j3 (theJoin Try.f76 3) ∧ True) = AllP (bodyL (gf76 k) Try.f76) := by kernel_rfl
  exact Eq.mp h (And.intro (of76_l3 k) (And.intro (of76_j3 k) (trivial)))
theorem sf76 : Sound Try.prog glob ef76 := sound_of base (fn := Try.f76) Try.func76 (by kernel_rfl) gf76 (fun _ => ⟨rfl, rfl⟩) (fun k j => trivial) qf76 (fun k v => by kernel_rfl)

/-! spec.l01Add -/
def f53_l1 {ρ : Type} (k : Nat) : Nat → Int → Int → Int → Int → Int → Int → Int → Int → Int → ((((Unit × Unit × Unit × Unit) × ((Int × Int × Int × Unit) × (Int × Int × Int × Unit) × (Int × Int × Int × Unit) × Unit)) → Option ρ) × Unit) → Option ρ
  | 0, _, _, _, _, _, _, _, _, _, _ => none
  | j + 1, v29, v30, v31, v32, v33, v34, v35, v36, v37, nx =>
    bif (decide (v31 < v34)) then
      f53_l1 k j (wr .i64 (v29 * 2)) (wr .i64 (v30 * 2)) (wr .i64 (v31 + 1)) v32 v33 v34 v35 v36 v37 nx
    else
      nx.1 (((), (), (), ()), ((v29, v30, v31, ()), (v32, v33, v34, ()), (v35, v36, v37, ()), ()))
def cf53_l1 (k : Nat) : Cut := { sp := { temps := [(2, .c (.box 5000000)), (3, .c (.box 5000001)), (4, .c (.box 5000002))], blocks := [(5000000, .box 76 [(.int .i64), (.int .i64), (.int .i64)]), (5000001, .box 76 [(.int .i64), (.int .i64), (.int .i64)]), (5000002, .box 76 [(.int .i64), (.int .i64), (.int .i64)])], ren := [] }, outs := [(.exit 0, { temps := [(2, .c (.box 5000000)), (3, .c (.box 5000001)), (4, .c (.box 5000002))], blocks := [(5000000, .box 76 [(.int .i64), (.int .i64), (.int .i64)]), (5000001, .box 76 [(.int .i64), (.int .i64), (.int .i64)]), (5000002, .box 76 [(.int .i64), (.int .i64), (.int .i64)])], ren := [] })], F := fun ρ j v nx => f53_l1 k j v.2.1.1 v.2.1.2.1 v.2.1.2.2.1 v.2.2.1.1 v.2.2.1.2.1 v.2.2.1.2.2.1 v.2.2.2.1.1 v.2.2.2.1.2.1 v.2.2.2.1.2.2.1 nx }
def f53_l5 {ρ : Type} (k : Nat) : Nat → Int → Int → Int → Int → Int → Int → Int → Int → Int → ((((Unit × Unit × Unit × Unit) × ((Int × Int × Int × Unit) × (Int × Int × Int × Unit) × (Int × Int × Int × Unit) × Unit)) → Option ρ) × Unit) → Option ρ
  | 0, _, _, _, _, _, _, _, _, _, _ => none
  | j + 1, v38, v39, v40, v41, v42, v43, v44, v45, v46, nx =>
    bif (decide (v43 < v40)) then
      f53_l5 k j v38 v39 v40 (wr .i64 (v41 * 2)) (wr .i64 (v42 * 2)) (wr .i64 (v43 + 1)) v44 v45 v46 nx
    else
      nx.1 (((), (), (), ()), ((v38, v39, v40, ()), (v41, v42, v43, ()), (v44, v45, v46, ()), ()))
def cf53_l5 (k : Nat) : Cut := { sp := { temps := [(2, .c (.box 5000000)), (3, .c (.box 5000001)), (4, .c (.box 5000002))], blocks := [(5000000, .box 76 [(.int .i64), (.int .i64), (.int .i64)]), (5000001, .box 76 [(.int .i64), (.int .i64), (.int .i64)]), (5000002, .box 76 [(.int .i64), (.int .i64), (.int .i64)])], ren := [] }, outs := [(.exit 2, { temps := [(2, .c (.box 5000000)), (3, .c (.box 5000001)), (4, .c (.box 5000002))], blocks := [(5000000, .box 76 [(.int .i64), (.int .i64), (.int .i64)]), (5000001, .box 76 [(.int .i64), (.int .i64), (.int .i64)]), (5000002, .box 76 [(.int .i64), (.int .i64), (.int .i64)])], ren := [] })], F := fun ρ j v nx => f53_l5 k j v.2.1.1 v.2.1.2.1 v.2.1.2.2.1 v.2.2.1.1 v.2.2.1.2.1 v.2.2.1.2.2.1 v.2.2.2.1.1 v.2.2.2.1.2.1 v.2.2.2.1.2.2.1 nx }
def f53 (k : Nat) (a1 : Int) (a2 : Int) (a3 : Int) (a4 : Int) (a5 : Int) (a6 : Int) : Option (((Int × Int × Int × Unit) × Unit) × Unit) :=
  f53_l1 k k a1 a2 a3 a4 a5 a6 0 0 0
    (fun x25 : ((Unit × Unit × Unit × Unit) × ((Int × Int × Int × Unit) × (Int × Int × Int × Unit) × (Int × Int × Int × Unit) × Unit)) =>
      f53_l5 k k x25.2.1.1 x25.2.1.2.1 x25.2.1.2.2.1 x25.2.2.1.1 x25.2.2.1.2.1 x25.2.2.1.2.2.1 x25.2.2.2.1.1 x25.2.2.2.1.2.1 x25.2.2.2.1.2.2.1
        (fun x27 : ((Unit × Unit × Unit × Unit) × ((Int × Int × Int × Unit) × (Int × Int × Int × Unit) × (Int × Int × Int × Unit) × Unit)) =>
          (f76 k (wr .i64 (x27.2.1.1 + x27.2.2.1.1)) (wr .i64 (x27.2.1.2.1 + x27.2.2.1.2.1)) x27.2.1.2.2.1).bind fun x28 =>
          some (((x28.1.1.1, x28.1.1.2.1, x28.1.1.2.2.1, ()), ()), ()),
        ()),
    ())
def ef53 : Entry := { id := 53, ar := { temps := [(0, .agg [(.int .i64), (.int .i64), (.int .i64)]), (1, .agg [(.int .i64), (.int .i64), (.int .i64)])], blocks := [], ren := [] }, res := { temps := [(0, .agg [(.int .i64), (.int .i64), (.int .i64)])], blocks := [], ren := [] }, f := fun k v => f53 k v.1.1.1 v.1.1.2.1 v.1.1.2.2.1 v.1.2.1.1 v.1.2.1.2.1 v.1.2.1.2.2.1 }
def gf53 (k : Nat) : Full := { tt := tt, n := 53, fns := [ef76], trunc := [], tails := [], k := k, glob := glob, cuts := [(1, (cf53_l1 k)), (5, (cf53_l5 k))], joins := [] }
theorem of53_l1 (k : Nat) : CutOk (gf53 k) (cf53_l1 k) (theLoop Try.f53 1) := fun ρ v nx => ⟨by kernel_rfl, fun j => by kernel_rfl⟩
theorem of53_l5 (k : Nat) : CutOk (gf53 k) (cf53_l5 k) (theLoop Try.f53 5) := fun ρ v nx => ⟨by kernel_rfl, fun j => by kernel_rfl⟩
theorem qf53 (k : Nat) : AllP (bodyL (gf53 k) Try.f53) := by
  have h : (CutOk (gf53 k) (cf53_l1 k) (theLoop Try.f53 1) ∧ CutOk (gf53 k) (cf53_l5 k) (theLoop Try.f53 5) ∧ True) = AllP (bodyL (gf53 k) Try.f53) := by kernel_rfl
  exact Eq.mp h (And.intro (of53_l1 k) (And.intro (of53_l5 k) (trivial)))
theorem sf53 : Sound Try.prog glob ef53 := sound_of base (fn := Try.f53) Try.func53 (by kernel_rfl) gf53 (fun _ => ⟨rfl, rfl⟩) (fun k j => ⟨sf76.at j, trivial⟩) qf53 (fun k v => by kernel_rfl)

/-! spec.l01Sub -/
def f45 (k : Nat) (a1 : Int) (a2 : Int) (a3 : Int) (a4 : Int) (a5 : Int) (a6 : Int) : Option (((Int × Int × Int × Unit) × Unit) × Unit) :=
  (f54 k a4 a5 a6).bind fun x3 =>
  (f53 k a1 a2 a3 x3.1.1.1 x3.1.1.2.1 x3.1.1.2.2.1).bind fun x4 =>
  some (((x4.1.1.1, x4.1.1.2.1, x4.1.1.2.2.1, ()), ()), ())
def ef45 : Entry := { id := 45, ar := { temps := [(0, .agg [(.int .i64), (.int .i64), (.int .i64)]), (1, .agg [(.int .i64), (.int .i64), (.int .i64)])], blocks := [], ren := [] }, res := { temps := [(0, .agg [(.int .i64), (.int .i64), (.int .i64)])], blocks := [], ren := [] }, f := fun k v => f45 k v.1.1.1 v.1.1.2.1 v.1.1.2.2.1 v.1.2.1.1 v.1.2.1.2.1 v.1.2.1.2.2.1 }
def gf45 (k : Nat) : Full := { tt := tt, n := 9, fns := [ef54, ef53], trunc := [], tails := [], k := k, glob := glob, cuts := [], joins := [] }
theorem qf45 (k : Nat) : AllP (bodyL (gf45 k) Try.f45) := by
  have h : True = AllP (bodyL (gf45 k) Try.f45) := by kernel_rfl
  exact Eq.mp h trivial
theorem sf45 : Sound Try.prog glob ef45 := sound_of base (fn := Try.f45) Try.func45 (by kernel_rfl) gf45 (fun _ => ⟨rfl, rfl⟩) (fun k j => ⟨sf54.at j, sf53.at j, trivial⟩) qf45 (fun k v => by kernel_rfl)

/-! spec.l01Square -/
def f75_j11 {ρ : Type} (k : Nat) (v24 : Int) (v25 : Int) (v26 : Int) (nx : ((((Int × Int × Unit) × Unit) → Option ρ) × Unit)) : Option ρ :=
  nx.1 (((wr .u64 ((wr .u64 (v24 * v24)) + v26)), v25, ()), ())
def cf75_j11 : Cut := { sp := { temps := [(6, .c (.int .u64)), (8, .c (.int .u64)), (9, .c (.int .u64))], blocks := [], ren := [] }, outs := [(.ret, { temps := [(2, .c (.int .u64)), (3, .c (.int .u64))], blocks := [], ren := [] })], F := fun ρ k v nx => f75_j11 k v.1.1 v.1.2.1 v.1.2.2.1 nx }
def f75_j4 {ρ : Type} (k : Nat) (v17 : Int) (nx : ((((Int × Int × Unit) × Unit) → Option ρ) × Unit)) : Option ρ :=
  let x18 : Int := (wr .u64 ((wr .u64 (2 * (iand .u64 v17 4294967295))) * (ishr .u64 v17 32)))
  let x19 : Int := (wr .u64 ((iand .u64 v17 4294967295) * (iand .u64 v17 4294967295)))
  let x20 : Int := (wr .u64 ((iand .u64 v17 4294967295) * (iand .u64 v17 4294967295)))
  let x21 : Bool := (decide ((wr .u64 (x19 + (ishl .u64 x18 32))) < x20))
  bif x21 then
    f75_j11 k (ishr .u64 v17 32) (wr .u64 (x19 + (ishl .u64 x18 32))) (wr .u64 ((ishr .u64 x18 32) + 1))
      (fun x22 : ((Int × Int × Unit) × Unit) =>
        nx.1 ((x22.1.1, x22.1.2.1, ()), ()),
      ())
  else
    f75_j11 k (ishr .u64 v17 32) (wr .u64 (x19 + (ishl .u64 x18 32))) (ishr .u64 x18 32)
      (fun x23 : ((Int × Int × Unit) × Unit) =>
        nx.1 ((x23.1.1, x23.1.2.1, ()), ()),
      ())
def cf75_j4 : Cut := { sp := { temps := [(4, .c (.int .u64))], blocks := [], ren := [] }, outs := [(.ret, { temps := [(2, .c (.int .u64)), (3, .c (.int .u64))], blocks := [], ren := [] })], F := fun ρ k v nx => f75_j4 k v.1.1 nx }
def f75 (k : Nat) (a1 : Int) : Option ((Int × Int × Unit) × Unit) :=
  bif (decide (a1 < 0)) then
    f75_j4 k (wr .u64 (wr .i64 (0 - a1)))
      (fun x15 : ((Int × Int × Unit) × Unit) =>
        some ((x15.1.1, x15.1.2.1, ()), ()),
      ())
  else
    f75_j4 k (wr .u64 a1)
      (fun x16 : ((Int × Int × Unit) × Unit) =>
        some ((x16.1.1, x16.1.2.1, ()), ()),
      ())
def ef75 : Entry := { id := 75, ar := { temps := [(0, .c (.int .i64))], blocks := [], ren := [] }, res := { temps := [(0, .c (.int .u64)), (1, .c (.int .u64))], blocks := [], ren := [] }, f := fun k v => f75 k v.1.1 }
def gf75 (k : Nat) : Full := { tt := tt, n := 46, fns := [], trunc := [], tails := [], k := k, glob := glob, cuts := [], joins := [(11, cf75_j11), (4, cf75_j4)] }
theorem of75_j11 (k : Nat) : JoinOk (gf75 k) cf75_j11 (theJoin Try.f75 11) := fun ρ v nx => by kernel_rfl
theorem of75_j4 (k : Nat) : JoinOk (gf75 k) cf75_j4 (theJoin Try.f75 4) := fun ρ v nx => by kernel_rfl
theorem qf75 (k : Nat) : AllP (bodyL (gf75 k) Try.f75) := by
  have h : (JoinOk (gf75 k) cf75_j11 (theJoin Try.f75 11) ∧ JoinOk (gf75 k) cf75_j4 (theJoin Try.f75 4) ∧ True) = AllP (bodyL (gf75 k) Try.f75) := by kernel_rfl
  exact Eq.mp h (And.intro (of75_j11 k) (And.intro (of75_j4 k) (trivial)))
theorem sf75 : Sound Try.prog glob ef75 := sound_of base (fn := Try.f75) Try.func75 (by kernel_rfl) gf75 (fun _ => ⟨rfl, rfl⟩) (fun k j => trivial) qf75 (fun k v => by kernel_rfl)

/-! spec.l01Less -/
def f52 (k : Nat) (a1 : Int) (a2 : Int) : Option ((Bool × Unit) × Unit) :=
  (f75 k a1).bind fun x5 =>
  (f75 k a2).bind fun x6 =>
  let x7 : Int := (wr .u64 ((wr .u64 (x6.1.1 * 2)) + (ishr .u64 x6.1.2.1 63)))
  bif (decide (x5.1.1 < x7)) then
    some ((true, ()), ())
  else
    bif (x5.1.1 == x7) then
      let x8 : Bool := (decide (x5.1.2.1 < (wr .u64 (x6.1.2.1 * 2))))
      some ((x8, ()), ())
    else
      some ((false, ()), ())
def ef52 : Entry := { id := 52, ar := { temps := [(0, .c (.int .i64)), (1, .c (.int .i64))], blocks := [], ren := [] }, res := { temps := [(0, .c .bool)], blocks := [], ren := [] }, f := fun k v => f52 k v.1.1 v.1.2.1 }
def gf52 (k : Nat) : Full := { tt := tt, n := 39, fns := [ef75], trunc := [], tails := [], k := k, glob := glob, cuts := [], joins := [] }
theorem qf52 (k : Nat) : AllP (bodyL (gf52 k) Try.f52) := by
  have h : True = AllP (bodyL (gf52 k) Try.f52) := by kernel_rfl
  exact Eq.mp h trivial
theorem sf52 : Sound Try.prog glob ef52 := sound_of base (fn := Try.f52) Try.func52 (by kernel_rfl) gf52 (fun _ => ⟨rfl, rfl⟩) (fun k j => ⟨sf75.at j, trivial⟩) qf52 (fun k v => by kernel_rfl)

/-! spec.l01Sign -/
def f44 (k : Nat) (a1 : Int) (a2 : Int) (a3 : Int) : Option ((Int × Unit) × Unit) :=
  bif (a1 == 0) then
    bif (a2 == 0) then
      some ((0, ()), ())
    else
      bif (decide (a1 ≥ 0)) then
        bif (decide (a2 ≥ 0)) then
          some ((1, ()), ())
        else
          bif (decide (a1 ≤ 0)) then
            bif (decide (a2 ≤ 0)) then
              some (((-1), ()), ())
            else
              (f52 k a1 a2).bind fun x9 =>
              bif (x9.1.1 == (decide (a2 > 0))) then
                some ((1, ()), ())
              else
                some (((-1), ()), ())
          else
            (f52 k a1 a2).bind fun x10 =>
            bif (x10.1.1 == (decide (a2 > 0))) then
              some ((1, ()), ())
            else
              some (((-1), ()), ())
      else
        bif (decide (a1 ≤ 0)) then
          bif (decide (a2 ≤ 0)) then
            some (((-1), ()), ())
          else
            (f52 k a1 a2).bind fun x11 =>
            bif (x11.1.1 == (decide (a2 > 0))) then
              some ((1, ()), ())
            else
              some (((-1), ()), ())
        else
          (f52 k a1 a2).bind fun x12 =>
          bif (x12.1.1 == (decide (a2 > 0))) then
            some ((1, ()), ())
          else
            some (((-1), ()), ())
  else
    bif (decide (a1 ≥ 0)) then
      bif (decide (a2 ≥ 0)) then
        some ((1, ()), ())
      else
        bif (decide (a1 ≤ 0)) then
          bif (decide (a2 ≤ 0)) then
            some (((-1), ()), ())
          else
            (f52 k a1 a2).bind fun x13 =>
            bif (x13.1.1 == (decide (a2 > 0))) then
              some ((1, ()), ())
            else
              some (((-1), ()), ())
        else
          (f52 k a1 a2).bind fun x14 =>
          bif (x14.1.1 == (decide (a2 > 0))) then
            some ((1, ()), ())
          else
            some (((-1), ()), ())
    else
      bif (decide (a1 ≤ 0)) then
        bif (decide (a2 ≤ 0)) then
          some (((-1), ()), ())
        else
          (f52 k a1 a2).bind fun x15 =>
          bif (x15.1.1 == (decide (a2 > 0))) then
            some ((1, ()), ())
          else
            some (((-1), ()), ())
      else
        (f52 k a1 a2).bind fun x16 =>
        bif (x16.1.1 == (decide (a2 > 0))) then
          some ((1, ()), ())
        else
          some (((-1), ()), ())
def ef44 : Entry := { id := 44, ar := { temps := [(0, .agg [(.int .i64), (.int .i64), (.int .i64)])], blocks := [], ren := [] }, res := { temps := [(0, .c (.int .i64))], blocks := [], ren := [] }, f := fun k v => f44 k v.1.1.1 v.1.1.2.1 v.1.1.2.2.1 }
def gf44 (k : Nat) : Full := { tt := tt, n := 40, fns := [ef52], trunc := [], tails := [], k := k, glob := glob, cuts := [], joins := [] }
theorem qf44 (k : Nat) : AllP (bodyL (gf44 k) Try.f44) := by
  have h : True = AllP (bodyL (gf44 k) Try.f44) := by kernel_rfl
  exact Eq.mp h trivial
theorem sf44 : Sound Try.prog glob ef44 := sound_of base (fn := Try.f44) Try.func44 (by kernel_rfl) gf44 (fun _ => ⟨rfl, rfl⟩) (fun k j => ⟨sf52.at j, trivial⟩) qf44 (fun k v => by kernel_rfl)

/-! spec.l01Compare -/
def f30 (k : Nat) (a1 : Int) (a2 : Int) (a3 : Int) (a4 : Int) (a5 : Int) (a6 : Int) : Option ((Int × Unit) × Unit) :=
  (f46 k a1 a2 a3).bind fun x5 =>
  (f46 k a4 a5 a6).bind fun x6 =>
  (f45 k x5.1.1.1 x5.1.1.2.1 x5.1.1.2.2.1 x6.1.1.1 x6.1.1.2.1 x6.1.1.2.2.1).bind fun x7 =>
  (f44 k x7.1.1.1 x7.1.1.2.1 x7.1.1.2.2.1).bind fun x8 =>
  some ((x8.1.1, ()), ())
def ef30 : Entry := { id := 30, ar := { temps := [(0, .agg [(.int .i64), (.int .i64), (.int .i64)]), (1, .agg [(.int .i64), (.int .i64), (.int .i64)])], blocks := [], ren := [] }, res := { temps := [(0, .c (.int .i64))], blocks := [], ren := [] }, f := fun k v => f30 k v.1.1.1 v.1.1.2.1 v.1.1.2.2.1 v.1.2.1.1 v.1.2.1.2.1 v.1.2.1.2.2.1 }
def gf30 (k : Nat) : Full := { tt := tt, n := 11, fns := [ef46, ef45, ef44], trunc := [], tails := [], k := k, glob := glob, cuts := [], joins := [] }
theorem qf30 (k : Nat) : AllP (bodyL (gf30 k) Try.f30) := by
  have h : True = AllP (bodyL (gf30 k) Try.f30) := by kernel_rfl
  exact Eq.mp h trivial
theorem sf30 : Sound Try.prog glob ef30 := sound_of base (fn := Try.f30) Try.func30 (by kernel_rfl) gf30 (fun _ => ⟨rfl, rfl⟩) (fun k j => ⟨sf46.at j, sf45.at j, sf44.at j, trivial⟩) qf30 (fun k v => by kernel_rfl)

/-! spec.l02Before -/
def f21 (k : Nat) (a1 : Int) (a2 : Int) (a3 : Int) (a4 : Int) (a5 : Int) (a6 : Int) (a7 : Int) (a8 : Int) (a9 : Int) (a10 : Int) (a11 : Int) (a12 : Int) : Option ((Int × Unit) × Unit) :=
  (f30 k a1 a2 a3 a7 a8 a9).bind fun x3 =>
  bif (x3.1.1 != 0) then
    some ((x3.1.1, ()), ())
  else
    (f30 k a4 a5 a6 a10 a11 a12).bind fun x4 =>
    some ((x4.1.1, ()), ())
def ef21 : Entry := { id := 21, ar := { temps := [(0, .agg [(.int .i64), (.int .i64), (.int .i64), (.int .i64), (.int .i64), (.int .i64)]), (1, .agg [(.int .i64), (.int .i64), (.int .i64), (.int .i64), (.int .i64), (.int .i64)])], blocks := [], ren := [] }, res := { temps := [(0, .c (.int .i64))], blocks := [], ren := [] }, f := fun k v => f21 k v.1.1.1 v.1.1.2.1 v.1.1.2.2.1 v.1.1.2.2.2.1 v.1.1.2.2.2.2.1 v.1.1.2.2.2.2.2.1 v.1.2.1.1 v.1.2.1.2.1 v.1.2.1.2.2.1 v.1.2.1.2.2.2.1 v.1.2.1.2.2.2.2.1 v.1.2.1.2.2.2.2.2.1 }
def gf21 (k : Nat) : Full := { tt := tt, n := 19, fns := [ef30], trunc := [], tails := [], k := k, glob := glob, cuts := [], joins := [] }
theorem qf21 (k : Nat) : AllP (bodyL (gf21 k) Try.f21) := by
  have h : True = AllP (bodyL (gf21 k) Try.f21) := by kernel_rfl
  exact Eq.mp h trivial
theorem sf21 : Sound Try.prog glob ef21 := sound_of base (fn := Try.f21) Try.func21 (by kernel_rfl) gf21 (fun _ => ⟨rfl, rfl⟩) (fun k j => ⟨sf30.at j, trivial⟩) qf21 (fun k v => by kernel_rfl)

/-! spec.l08Before -/
def f31 (k : Nat) (a1 : Int) (a2 : Int) (a3 : Int) (a4 : Int) (a5 : Int) (a6 : Int) (a7 : Int) (a8 : Int) (a9 : Int) (a10 : Int) (a11 : Int) (a12 : Int) (a13 : Int) (a14 : Int) (a15 : Int) (a16 : Int) (a17 : Int) (a18 : Int) (a19 : Int) (a20 : Int) (a21 : Int) (a22 : Int) (a23 : Int) (a24 : Int) (a25 : Int) (a26 : Int) : Option ((Int × Unit) × Unit) :=
  (f21 k a1 a2 a3 a4 a5 a6 a14 a15 a16 a17 a18 a19).bind fun x3 =>
  bif (x3.1.1 != 0) then
    some ((x3.1.1, ()), ())
  else
    (f21 k a7 a8 a9 a10 a11 a12 a20 a21 a22 a23 a24 a25).bind fun x4 =>
    some ((x4.1.1, ()), ())
def ef31 : Entry := { id := 31, ar := { temps := [(0, .agg [(.int .i64), (.int .i64), (.int .i64), (.int .i64), (.int .i64), (.int .i64), (.int .i64), (.int .i64), (.int .i64), (.int .i64), (.int .i64), (.int .i64), (.int .i64)]), (1, .agg [(.int .i64), (.int .i64), (.int .i64), (.int .i64), (.int .i64), (.int .i64), (.int .i64), (.int .i64), (.int .i64), (.int .i64), (.int .i64), (.int .i64), (.int .i64)])], blocks := [], ren := [] }, res := { temps := [(0, .c (.int .i64))], blocks := [], ren := [] }, f := fun k v => f31 k v.1.1.1 v.1.1.2.1 v.1.1.2.2.1 v.1.1.2.2.2.1 v.1.1.2.2.2.2.1 v.1.1.2.2.2.2.2.1 v.1.1.2.2.2.2.2.2.1 v.1.1.2.2.2.2.2.2.2.1 v.1.1.2.2.2.2.2.2.2.2.1 v.1.1.2.2.2.2.2.2.2.2.2.1 v.1.1.2.2.2.2.2.2.2.2.2.2.1 v.1.1.2.2.2.2.2.2.2.2.2.2.2.1 v.1.1.2.2.2.2.2.2.2.2.2.2.2.2.1 v.1.2.1.1 v.1.2.1.2.1 v.1.2.1.2.2.1 v.1.2.1.2.2.2.1 v.1.2.1.2.2.2.2.1 v.1.2.1.2.2.2.2.2.1 v.1.2.1.2.2.2.2.2.2.1 v.1.2.1.2.2.2.2.2.2.2.1 v.1.2.1.2.2.2.2.2.2.2.2.1 v.1.2.1.2.2.2.2.2.2.2.2.2.1 v.1.2.1.2.2.2.2.2.2.2.2.2.2.1 v.1.2.1.2.2.2.2.2.2.2.2.2.2.2.1 v.1.2.1.2.2.2.2.2.2.2.2.2.2.2.2.1 }
def gf31 (k : Nat) : Full := { tt := tt, n := 19, fns := [ef21], trunc := [], tails := [], k := k, glob := glob, cuts := [], joins := [] }
theorem qf31 (k : Nat) : AllP (bodyL (gf31 k) Try.f31) := by
  have h : True = AllP (bodyL (gf31 k) Try.f31) := by kernel_rfl
  exact Eq.mp h trivial
theorem sf31 : Sound Try.prog glob ef31 := sound_of base (fn := Try.f31) Try.func31 (by kernel_rfl) gf31 (fun _ => ⟨rfl, rfl⟩) (fun k j => ⟨sf21.at j, trivial⟩) qf31 (fun k v => by kernel_rfl)

/-! spec.l08PutPiece -/
def f22_l2 {ρ : Type} (k : Nat) : Nat → Int → (List (((Int × (Int × Int)) × (Int × (Int × Int))) × (((Int × (Int × Int)) × (Int × (Int × Int))) × Int))) → Int → Int → Int → Int → Int → Int → Int → Int → Int → Int → Int → Int → Int → ((((Unit × Unit × Int × Unit) × ((List (((Int × (Int × Int)) × (Int × (Int × Int))) × (((Int × (Int × Int)) × (Int × (Int × Int))) × Int))) × (Int × Int × Int × Int × Int × Int × Int × Int × Int × Int × Int × Int × Int × Unit) × Unit)) → Option ρ) × Unit) → Option ρ
  | 0, _, _, _, _, _, _, _, _, _, _, _, _, _, _, _, _ => none
  | j + 1, v61, v62, v63, v64, v65, v66, v67, v68, v69, v70, v71, v72, v73, v74, v75, nx =>
    bif (decide (v61 < (v62.length : Int))) then
      bif decide (0 ≤ v61) && decide (v61 < (v62.length : Int)) then
        (v62[v61.toNat]?).bind fun x76 =>
        (f31 k x76.1.1.1 x76.1.1.2.1 x76.1.1.2.2 x76.1.2.1 x76.1.2.2.1 x76.1.2.2.2 x76.2.1.1.1 x76.2.1.1.2.1 x76.2.1.1.2.2 x76.2.1.2.1 x76.2.1.2.2.1 x76.2.1.2.2.2 x76.2.2 v63 v64 v65 v66 v67 v68 v69 v70 v71 v72 v73 v74 v75).bind fun x77 =>
        bif (decide (x77.1.1 < 0)) then
          f22_l2 k j (wr .i64 (v61 + 1)) v62 v63 v64 v65 v66 v67 v68 v69 v70 v71 v72 v73 v74 v75 nx
        else
          nx.1 (((), (), v61, ()), (v62, (v63, v64, v65, v66, v67, v68, v69, v70, v71, v72, v73, v74, v75, ()), ()))
      else
        none
    else
      nx.1 (((), (), v61, ()), (v62, (v63, v64, v65, v66, v67, v68, v69, v70, v71, v72, v73, v74, v75, ()), ()))
def cf22_l2 (k : Nat) : Cut := { sp := { temps := [(0, .c (.lit (.row 3000000))), (3, .c (.box 5000000)), (5, .c (.int .i64))], blocks := [(3000000, .row 48 (.pair (.pair (.pair (.int .i64) (.pair (.int .i64) (.int .i64))) (.pair (.int .i64) (.pair (.int .i64) (.int .i64)))) (.pair (.pair (.pair (.int .i64) (.pair (.int .i64) (.int .i64))) (.pair (.int .i64) (.pair (.int .i64) (.int .i64)))) (.int .i64)))), (5000000, .box 48 [(.int .i64), (.int .i64), (.int .i64), (.int .i64), (.int .i64), (.int .i64), (.int .i64), (.int .i64), (.int .i64), (.int .i64), (.int .i64), (.int .i64), (.int .i64)])], ren := [(3000000, some 3000000)] }, outs := [(.exit 0, { temps := [(0, .c (.lit (.row 3000000))), (3, .c (.box 5000000)), (5, .c (.int .i64))], blocks := [(3000000, .row 48 (.pair (.pair (.pair (.int .i64) (.pair (.int .i64) (.int .i64))) (.pair (.int .i64) (.pair (.int .i64) (.int .i64)))) (.pair (.pair (.pair (.int .i64) (.pair (.int .i64) (.int .i64))) (.pair (.int .i64) (.pair (.int .i64) (.int .i64)))) (.int .i64)))), (5000000, .box 48 [(.int .i64), (.int .i64), (.int .i64), (.int .i64), (.int .i64), (.int .i64), (.int .i64), (.int .i64), (.int .i64), (.int .i64), (.int .i64), (.int .i64), (.int .i64)])], ren := [(3000000, some 3000000)] })], F := fun ρ j v nx => f22_l2 k j v.1.2.2.1 v.2.1 v.2.2.1.1 v.2.2.1.2.1 v.2.2.1.2.2.1 v.2.2.1.2.2.2.1 v.2.2.1.2.2.2.2.1 v.2.2.1.2.2.2.2.2.1 v.2.2.1.2.2.2.2.2.2.1 v.2.2.1.2.2.2.2.2.2.2.1 v.2.2.1.2.2.2.2.2.2.2.2.1 v.2.2.1.2.2.2.2.2.2.2.2.2.1 v.2.2.1.2.2.2.2.2.2.2.2.2.2.1 v.2.2.1.2.2.2.2.2.2.2.2.2.2.2.1 v.2.2.1.2.2.2.2.2.2.2.2.2.2.2.2.1 nx }
def f22_j8 {ρ : Type} (k : Nat) (v78 : Int) (v79 : (List (((Int × (Int × Int)) × (Int × (Int × Int))) × (((Int × (Int × Int)) × (Int × (Int × Int))) × Int)))) (v80 : Int) (v81 : Int) (v82 : Int) (v83 : Int) (v84 : Int) (v85 : Int) (v86 : Int) (v87 : Int) (v88 : Int) (v89 : Int) (v90 : Int) (v91 : Int) (v92 : Int) (nx : ((((Unit × Unit) × ((List (((Int × (Int × Int)) × (Int × (Int × Int))) × (((Int × (Int × Int)) × (Int × (Int × Int))) × Int))) × Unit)) → Option ρ) × Unit)) : Option ρ :=
  bif decide (0 ≤ 0) && decide (0 ≤ v78) && decide (v78 ≤ (v79.length : Int)) then
    bif decide ((([] : List (((Int × (Int × Int)) × (Int × (Int × Int))) × (((Int × (Int × Int)) × (Int × (Int × Int))) × Int))).length + (sub v79 0 v78).length) * 104 ≤ roomy) then
      let x93 : (List (((Int × (Int × Int)) × (Int × (Int × Int))) × (((Int × (Int × Int)) × (Int × (Int × Int))) × Int))) := (([] : List (((Int × (Int × Int)) × (Int × (Int × Int))) × (((Int × (Int × Int)) × (Int × (Int × Int))) × Int))) ++ (sub v79 0 v78))
      bif decide ((x93.length + [(((v80, (v81, v82)), (v83, (v84, v85))), (((v86, (v87, v88)), (v89, (v90, v91))), v92))].length) * 104 ≤ roomy) then
        let x94 : (List (((Int × (Int × Int)) × (Int × (Int × Int))) × (((Int × (Int × Int)) × (Int × (Int × Int))) × Int))) := (x93 ++ [(((v80, (v81, v82)), (v83, (v84, v85))), (((v86, (v87, v88)), (v89, (v90, v91))), v92))])
        bif decide (0 ≤ v78) && decide (v78 ≤ (v79.length : Int)) && decide ((v79.length : Int) ≤ (v79.length : Int)) then
          bif decide ((x94.length + (sub v79 v78 (v79.length : Int)).length) * 104 ≤ roomy) then
            nx.1 (((), ()), ((x94 ++ (sub v79 v78 (v79.length : Int))), ()))
          else
            none
        else
          none
      else
        none
    else
      none
  else
    none
def cf22_j8 : Cut := { sp := { temps := [(0, .c (.lit (.row 3000000))), (3, .c (.box 5000000)), (5, .c (.int .i64))], blocks := [(3000000, .row 48 (.pair (.pair (.pair (.int .i64) (.pair (.int .i64) (.int .i64))) (.pair (.int .i64) (.pair (.int .i64) (.int .i64)))) (.pair (.pair (.pair (.int .i64) (.pair (.int .i64) (.int .i64))) (.pair (.int .i64) (.pair (.int .i64) (.int .i64)))) (.int .i64)))), (5000000, .box 48 [(.int .i64), (.int .i64), (.int .i64), (.int .i64), (.int .i64), (.int .i64), (.int .i64), (.int .i64), (.int .i64), (.int .i64), (.int .i64), (.int .i64), (.int .i64)])], ren := [(3000000, some 3000000)] }, outs := [(.ret, { temps := [(4, .c (.row 5000000))], blocks := [(5000000, .row 48 (.pair (.pair (.pair (.int .i64) (.pair (.int .i64) (.int .i64))) (.pair (.int .i64) (.pair (.int .i64) (.int .i64)))) (.pair (.pair (.pair (.int .i64) (.pair (.int .i64) (.int .i64))) (.pair (.int .i64) (.pair (.int .i64) (.int .i64)))) (.int .i64))))], ren := [] })], F := fun ρ k v nx => f22_j8 k v.1.2.2.1 v.2.1 v.2.2.1.1 v.2.2.1.2.1 v.2.2.1.2.2.1 v.2.2.1.2.2.2.1 v.2.2.1.2.2.2.2.1 v.2.2.1.2.2.2.2.2.1 v.2.2.1.2.2.2.2.2.2.1 v.2.2.1.2.2.2.2.2.2.2.1 v.2.2.1.2.2.2.2.2.2.2.2.1 v.2.2.1.2.2.2.2.2.2.2.2.2.1 v.2.2.1.2.2.2.2.2.2.2.2.2.2.1 v.2.2.1.2.2.2.2.2.2.2.2.2.2.2.1 v.2.2.1.2.2.2.2.2.2.2.2.2.2.2.2.1 nx }
def f22 (k : Nat) (a1 : Int) (a2 : Int) (a3 : Int) (a4 : Int) (a5 : Int) (a6 : Int) (a7 : Int) (a8 : Int) (a9 : Int) (a10 : Int) (a11 : Int) (a12 : Int) (a13 : Int) (a14 : (List (((Int × (Int × Int)) × (Int × (Int × Int))) × (((Int × (Int × Int)) × (Int × (Int × Int))) × Int)))) : Option ((Unit × Unit) × ((List (((Int × (Int × Int)) × (Int × (Int × Int))) × (((Int × (Int × Int)) × (Int × (Int × Int))) × Int))) × Unit)) :=
  f22_l2 k k 0 a14 a1 a2 a3 a4 a5 a6 a7 a8 a9 a10 a11 a12 a13
    (fun x52 : ((Unit × Unit × Int × Unit) × ((List (((Int × (Int × Int)) × (Int × (Int × Int))) × (((Int × (Int × Int)) × (Int × (Int × Int))) × Int))) × (Int × Int × Int × Int × Int × Int × Int × Int × Int × Int × Int × Int × Int × Unit) × Unit)) =>
      let x53 : Bool := (decide (x52.1.2.2.1 < (x52.2.1.length : Int)))
      bif x53 then
        bif decide (0 ≤ x52.1.2.2.1) && decide (x52.1.2.2.1 < (x52.2.1.length : Int)) then
          (x52.2.1[x52.1.2.2.1.toNat]?).bind fun x54 =>
          (f31 k x54.1.1.1 x54.1.1.2.1 x54.1.1.2.2 x54.1.2.1 x54.1.2.2.1 x54.1.2.2.2 x54.2.1.1.1 x54.2.1.1.2.1 x54.2.1.1.2.2 x54.2.1.2.1 x54.2.1.2.2.1 x54.2.1.2.2.2 x54.2.2 x52.2.2.1.1 x52.2.2.1.2.1 x52.2.2.1.2.2.1 x52.2.2.1.2.2.2.1 x52.2.2.1.2.2.2.2.1 x52.2.2.1.2.2.2.2.2.1 x52.2.2.1.2.2.2.2.2.2.1 x52.2.2.1.2.2.2.2.2.2.2.1 x52.2.2.1.2.2.2.2.2.2.2.2.1 x52.2.2.1.2.2.2.2.2.2.2.2.2.1 x52.2.2.1.2.2.2.2.2.2.2.2.2.2.1 x52.2.2.1.2.2.2.2.2.2.2.2.2.2.2.1 x52.2.2.1.2.2.2.2.2.2.2.2.2.2.2.2.1).bind fun x55 =>
          bif (x55.1.1 == 0) then
            bif decide (0 ≤ x52.1.2.2.1) && decide (x52.1.2.2.1 < (x52.2.1.length : Int)) then
              (x52.2.1[x52.1.2.2.1.toNat]?).bind fun x56 =>
              bif (x56.2.2 != 1) then
                bif decide (0 ≤ x52.1.2.2.1) && decide (x52.1.2.2.1 < (x52.2.1.length : Int)) then
                  (x52.2.1[x52.1.2.2.1.toNat]?).bind fun x57 =>
                  let x58 : (List (((Int × (Int × Int)) × (Int × (Int × Int))) × (((Int × (Int × Int)) × (Int × (Int × Int))) × Int))) := (x52.2.1.set x52.1.2.2.1.toNat (x57.1, (x57.2.1, x52.2.2.1.2.2.2.2.2.2.2.2.2.2.2.2.1)))
                  some (((), ()), (x58, ()))
                else
                  none
              else
                some (((), ()), (x52.2.1, ()))
            else
              none
          else
            f22_j8 k x52.1.2.2.1 x52.2.1 x52.2.2.1.1 x52.2.2.1.2.1 x52.2.2.1.2.2.1 x52.2.2.1.2.2.2.1 x52.2.2.1.2.2.2.2.1 x52.2.2.1.2.2.2.2.2.1 x52.2.2.1.2.2.2.2.2.2.1 x52.2.2.1.2.2.2.2.2.2.2.1 x52.2.2.1.2.2.2.2.2.2.2.2.1 x52.2.2.1.2.2.2.2.2.2.2.2.2.1 x52.2.2.1.2.2.2.2.2.2.2.2.2.2.1 x52.2.2.1.2.2.2.2.2.2.2.2.2.2.2.1 x52.2.2.1.2.2.2.2.2.2.2.2.2.2.2.2.1
              (fun x59 : ((Unit × Unit) × ((List (((Int × (Int × Int)) × (Int × (Int × Int))) × (((Int × (Int × Int)) × (Int × (Int × Int))) × Int))) × Unit)) =>
                some (((), ()), (x59.2.1, ())),
              ())
        else
          none
      else
        f22_j8 k x52.1.2.2.1 x52.2.1 x52.2.2.1.1 x52.2.2.1.2.1 x52.2.2.1.2.2.1 x52.2.2.1.2.2.2.1 x52.2.2.1.2.2.2.2.1 x52.2.2.1.2.2.2.2.2.1 x52.2.2.1.2.2.2.2.2.2.1 x52.2.2.1.2.2.2.2.2.2.2.1 x52.2.2.1.2.2.2.2.2.2.2.2.1 x52.2.2.1.2.2.2.2.2.2.2.2.2.1 x52.2.2.1.2.2.2.2.2.2.2.2.2.2.1 x52.2.2.1.2.2.2.2.2.2.2.2.2.2.2.1 x52.2.2.1.2.2.2.2.2.2.2.2.2.2.2.2.1
          (fun x60 : ((Unit × Unit) × ((List (((Int × (Int × Int)) × (Int × (Int × Int))) × (((Int × (Int × Int)) × (Int × (Int × Int))) × Int))) × Unit)) =>
            some (((), ()), (x60.2.1, ())),
          ()),
    ())
def ef22 : Entry := { id := 22, ar := { temps := [(0, .c (.row 3000000)), (1, .agg [(.int .i64), (.int .i64), (.int .i64), (.int .i64), (.int .i64), (.int .i64), (.int .i64), (.int .i64), (.int .i64), (.int .i64), (.int .i64), (.int .i64), (.int .i64)])], blocks := [(3000000, .row 48 (.pair (.pair (.pair (.int .i64) (.pair (.int .i64) (.int .i64))) (.pair (.int .i64) (.pair (.int .i64) (.int .i64)))) (.pair (.pair (.pair (.int .i64) (.pair (.int .i64) (.int .i64))) (.pair (.int .i64) (.pair (.int .i64) (.int .i64)))) (.int .i64))))], ren := [] }, res := { temps := [(0, .c (.row 4000000))], blocks := [(4000000, .row 48 (.pair (.pair (.pair (.int .i64) (.pair (.int .i64) (.int .i64))) (.pair (.int .i64) (.pair (.int .i64) (.int .i64)))) (.pair (.pair (.pair (.int .i64) (.pair (.int .i64) (.int .i64))) (.pair (.int .i64) (.pair (.int .i64) (.int .i64)))) (.int .i64))))], ren := [] }, f := fun k v => f22 k v.1.2.1.1 v.1.2.1.2.1 v.1.2.1.2.2.1 v.1.2.1.2.2.2.1 v.1.2.1.2.2.2.2.1 v.1.2.1.2.2.2.2.2.1 v.1.2.1.2.2.2.2.2.2.1 v.1.2.1.2.2.2.2.2.2.2.1 v.1.2.1.2.2.2.2.2.2.2.2.1 v.1.2.1.2.2.2.2.2.2.2.2.2.1 v.1.2.1.2.2.2.2.2.2.2.2.2.2.1 v.1.2.1.2.2.2.2.2.2.2.2.2.2.2.1 v.1.2.1.2.2.2.2.2.2.2.2.2.2.2.2.1 v.2.1 }
def gf22 (k : Nat) : Full := { tt := tt, n := 62, fns := [ef31], trunc := [], tails := [], k := k, glob := glob, cuts := [(2, (cf22_l2 k))], joins := [(8, cf22_j8)] }
theorem of22_l2 (k : Nat) : CutOk (gf22 k) (cf22_l2 k) (theLoop Try.f22 2) := fun ρ v nx => ⟨by kernel_rfl, fun j => by kernel_rfl⟩
theorem of22_j8 (k : Nat) : JoinOk (gf22 k) cf22_j8 (theJoin Try.f22 8) := fun ρ v nx => by kernel_rfl
theorem qf22 (k : Nat) : AllP (bodyL (gf22 k) Try.f22) := by
  have h : (CutOk (gf22 k) (cf22_l2 k) (theLoop Try.f22 2) ∧ JoinOk (gf22 k) cf22_j8 (theJoin Try.f22 8) ∧ True) = AllP (bodyL (gf22 k) Try.f22) := by kernel_rfl
  exact Eq.mp h (And.intro (of22_l2 k) (And.intro (of22_j8 k) (trivial)))
theorem sf22 : Sound Try.prog glob ef22 := sound_of base (fn := Try.f22) Try.func22 (by kernel_rfl) gf22 (fun _ => ⟨rfl, rfl⟩) (fun k j => ⟨sf31.at j, trivial⟩) qf22 (fun k v => by kernel_rfl)

/-! spec.l08PutPoint -/
def f32_l2 {ρ : Type} (k : Nat) : Nat → (List ((Int × (Int × Int)) × (Int × (Int × Int)))) → Int → Int → Int → Int → Int → Int → Int → (((((List ((Int × (Int × Int)) × (Int × (Int × Int)))) × Unit × Int × Unit) × ((Int × Int × Int × Int × Int × Int × Unit) × Unit)) → Option ρ) × Unit) → Option ρ
  | 0, _, _, _, _, _, _, _, _, _ => none
  | j + 1, v38, v39, v40, v41, v42, v43, v44, v45, nx =>
    bif (decide (v39 < (v38.length : Int))) then
      (getI v38 v39).bind fun x46 =>
      (f21 k x46.1.1 x46.1.2.1 x46.1.2.2 x46.2.1 x46.2.2.1 x46.2.2.2 v40 v41 v42 v43 v44 v45).bind fun x47 =>
      bif (decide (x47.1.1 < 0)) then
        f32_l2 k j v38 (wr .i64 (v39 + 1)) v40 v41 v42 v43 v44 v45 nx
      else
        nx.1 ((v38, (), v39, ()), ((v40, v41, v42, v43, v44, v45, ()), ()))
    else
      nx.1 ((v38, (), v39, ()), ((v40, v41, v42, v43, v44, v45, ()), ()))
def cf32_l2 (k : Nat) : Cut := { sp := { temps := [(0, .c (.sl (.pair (.pair (.int .i64) (.pair (.int .i64) (.int .i64))) (.pair (.int .i64) (.pair (.int .i64) (.int .i64)))))), (3, .c (.box 5000000)), (5, .c (.int .i64))], blocks := [(5000000, .box 44 [(.int .i64), (.int .i64), (.int .i64), (.int .i64), (.int .i64), (.int .i64)])], ren := [] }, outs := [(.exit 0, { temps := [(0, .c (.sl (.pair (.pair (.int .i64) (.pair (.int .i64) (.int .i64))) (.pair (.int .i64) (.pair (.int .i64) (.int .i64)))))), (3, .c (.box 5000000)), (5, .c (.int .i64))], blocks := [(5000000, .box 44 [(.int .i64), (.int .i64), (.int .i64), (.int .i64), (.int .i64), (.int .i64)])], ren := [] })], F := fun ρ j v nx => f32_l2 k j v.1.1 v.1.2.2.1 v.2.1.1 v.2.1.2.1 v.2.1.2.2.1 v.2.1.2.2.2.1 v.2.1.2.2.2.2.1 v.2.1.2.2.2.2.2.1 nx }
def f32_j6 {ρ : Type} (k : Nat) (v48 : (List ((Int × (Int × Int)) × (Int × (Int × Int))))) (v49 : Int) (v50 : Int) (v51 : Int) (v52 : Int) (v53 : Int) (v54 : Int) (v55 : Int) (nx : ((((Unit × Unit) × ((List ((Int × (Int × Int)) × (Int × (Int × Int)))) × Unit)) → Option ρ) × Unit)) : Option ρ :=
  bif decide (0 ≤ 0) && decide (0 ≤ v49) && decide (v49 ≤ (v48.length : Int)) then
    bif decide ((([] : List ((Int × (Int × Int)) × (Int × (Int × Int)))).length + (sub v48 0 v49).length) * 48 ≤ roomy) then
      let x56 : (List ((Int × (Int × Int)) × (Int × (Int × Int)))) := (([] : List ((Int × (Int × Int)) × (Int × (Int × Int)))) ++ (sub v48 0 v49))
      bif decide ((x56.length + [((v50, (v51, v52)), (v53, (v54, v55)))].length) * 48 ≤ roomy) then
        let x57 : (List ((Int × (Int × Int)) × (Int × (Int × Int)))) := (x56 ++ [((v50, (v51, v52)), (v53, (v54, v55)))])
        bif decide (0 ≤ v49) && decide (v49 ≤ (v48.length : Int)) && decide ((v48.length : Int) ≤ (v48.length : Int)) then
          bif decide ((x57.length + (sub v48 v49 (v48.length : Int)).length) * 48 ≤ roomy) then
            nx.1 (((), ()), ((x57 ++ (sub v48 v49 (v48.length : Int))), ()))
          else
            none
        else
          none
      else
        none
    else
      none
  else
    none
def cf32_j6 : Cut := { sp := { temps := [(0, .c (.sl (.pair (.pair (.int .i64) (.pair (.int .i64) (.int .i64))) (.pair (.int .i64) (.pair (.int .i64) (.int .i64)))))), (3, .c (.box 5000000)), (5, .c (.int .i64))], blocks := [(5000000, .box 44 [(.int .i64), (.int .i64), (.int .i64), (.int .i64), (.int .i64), (.int .i64)])], ren := [] }, outs := [(.ret, { temps := [(4, .c (.row 5000000))], blocks := [(5000000, .row 44 (.pair (.pair (.int .i64) (.pair (.int .i64) (.int .i64))) (.pair (.int .i64) (.pair (.int .i64) (.int .i64)))))], ren := [] })], F := fun ρ k v nx => f32_j6 k v.1.1 v.1.2.2.1 v.2.1.1 v.2.1.2.1 v.2.1.2.2.1 v.2.1.2.2.2.1 v.2.1.2.2.2.2.1 v.2.1.2.2.2.2.2.1 nx }
def f32 (k : Nat) (a1 : (List ((Int × (Int × Int)) × (Int × (Int × Int))))) (a2 : Int) (a3 : Int) (a4 : Int) (a5 : Int) (a6 : Int) (a7 : Int) : Option (((List ((Int × (Int × Int)) × (Int × (Int × Int)))) × Unit) × Unit) :=
  f32_l2 k k a1 0 a2 a3 a4 a5 a6 a7
    (fun x32 : (((List ((Int × (Int × Int)) × (Int × (Int × Int)))) × Unit × Int × Unit) × ((Int × Int × Int × Int × Int × Int × Unit) × Unit)) =>
      let x33 : Bool := (decide (x32.1.2.2.1 < (x32.1.1.length : Int)))
      bif x33 then
        (getI x32.1.1 x32.1.2.2.1).bind fun x34 =>
        let x35 : Bool := (((x34.1.1 == x32.2.1.1) && ((x34.1.2.1 == x32.2.1.2.1) && ((x34.1.2.2 == x32.2.1.2.2.1) && true))) && (((x34.2.1 == x32.2.1.2.2.2.1) && ((x34.2.2.1 == x32.2.1.2.2.2.2.1) && ((x34.2.2.2 == x32.2.1.2.2.2.2.2.1) && true))) && true))
        bif x35 then
          some ((x32.1.1, ()), ())
        else
          f32_j6 k x32.1.1 x32.1.2.2.1 x32.2.1.1 x32.2.1.2.1 x32.2.1.2.2.1 x32.2.1.2.2.2.1 x32.2.1.2.2.2.2.1 x32.2.1.2.2.2.2.2.1
            (fun x36 : ((Unit × Unit) × ((List ((Int × (Int × Int)) × (Int × (Int × Int)))) × Unit)) =>
              some ((x36.2.1, ()), ()),
            ())
      else
        f32_j6 k x32.1.1 x32.1.2.2.1 x32.2.1.1 x32.2.1.2.1 x32.2.1.2.2.1 x32.2.1.2.2.2.1 x32.2.1.2.2.2.2.1 x32.2.1.2.2.2.2.2.1
          (fun x37 : ((Unit × Unit) × ((List ((Int × (Int × Int)) × (Int × (Int × Int)))) × Unit)) =>
            some ((x37.2.1, ()), ()),
          ()),
    ())
def ef32 : Entry := { id := 32, ar := { temps := [(0, .c (.sl (.pair (.pair (.int .i64) (.pair (.int .i64) (.int .i64))) (.pair (.int .i64) (.pair (.int .i64) (.int .i64)))))), (1, .agg [(.int .i64), (.int .i64), (.int .i64), (.int .i64), (.int .i64), (.int .i64)])], blocks := [], ren := [] }, res := { temps := [(0, .c (.sl (.pair (.pair (.int .i64) (.pair (.int .i64) (.int .i64))) (.pair (.int .i64) (.pair (.int .i64) (.int .i64))))))], blocks := [], ren := [] }, f := fun k v => f32 k v.1.1 v.1.2.1.1 v.1.2.1.2.1 v.1.2.1.2.2.1 v.1.2.1.2.2.2.1 v.1.2.1.2.2.2.2.1 v.1.2.1.2.2.2.2.2.1 }
def gf32 (k : Nat) : Full := { tt := tt, n := 49, fns := [ef21], trunc := [], tails := [], k := k, glob := glob, cuts := [(2, (cf32_l2 k))], joins := [(6, cf32_j6)] }
theorem of32_l2 (k : Nat) : CutOk (gf32 k) (cf32_l2 k) (theLoop Try.f32 2) := fun ρ v nx => ⟨by kernel_rfl, fun j => by kernel_rfl⟩
theorem of32_j6 (k : Nat) : JoinOk (gf32 k) cf32_j6 (theJoin Try.f32 6) := fun ρ v nx => by kernel_rfl
theorem qf32 (k : Nat) : AllP (bodyL (gf32 k) Try.f32) := by
  have h : (CutOk (gf32 k) (cf32_l2 k) (theLoop Try.f32 2) ∧ JoinOk (gf32 k) cf32_j6 (theJoin Try.f32 6) ∧ True) = AllP (bodyL (gf32 k) Try.f32) := by kernel_rfl
  exact Eq.mp h (And.intro (of32_l2 k) (And.intro (of32_j6 k) (trivial)))
theorem sf32 : Sound Try.prog glob ef32 := sound_of base (fn := Try.f32) Try.func32 (by kernel_rfl) gf32 (fun _ => ⟨rfl, rfl⟩) (fun k j => ⟨sf21.at j, trivial⟩) qf32 (fun k v => by kernel_rfl)

/-! spec.l06Index -/
def f33_l2 {ρ : Type} (k : Nat) : Nat → (List ((Int × (Int × Int)) × (Int × (Int × Int)))) → Int → Int → Int → Int → Int → Int → Int → (((Unit × Unit) → Option ρ) × (((Int × Unit) × Unit) → Option ρ) × Unit) → Option ρ
  | 0, _, _, _, _, _, _, _, _, _ => none
  | j + 1, v15, v16, v17, v18, v19, v20, v21, v22, nx =>
    bif (decide (v16 < (v15.length : Int))) then
      (getI v15 v16).bind fun x23 =>
      let x24 : Bool := (((x23.1.1 == v17) && ((x23.1.2.1 == v18) && ((x23.1.2.2 == v19) && true))) && (((x23.2.1 == v20) && ((x23.2.2.1 == v21) && ((x23.2.2.2 == v22) && true))) && true))
      bif x24 then
        nx.2.1 ((v16, ()), ())
      else
        f33_l2 k j v15 (wr .i64 (v16 + 1)) v17 v18 v19 v20 v21 v22 nx
    else
      nx.1 ((), ())
def cf33_l2 (k : Nat) : Cut := { sp := { temps := [(0, .c (.sl (.pair (.pair (.int .i64) (.pair (.int .i64) (.int .i64))) (.pair (.int .i64) (.pair (.int .i64) (.int .i64)))))), (3, .c (.box 5000000)), (5, .c (.int .i64))], blocks := [(5000000, .box 44 [(.int .i64), (.int .i64), (.int .i64), (.int .i64), (.int .i64), (.int .i64)])], ren := [] }, outs := [(.exit 0, { temps := [], blocks := [], ren := [] }), (.ret, { temps := [(4, .c (.int .i64))], blocks := [], ren := [] })], F := fun ρ j v nx => f33_l2 k j v.1.1 v.1.2.2.1 v.2.1.1 v.2.1.2.1 v.2.1.2.2.1 v.2.1.2.2.2.1 v.2.1.2.2.2.2.1 v.2.1.2.2.2.2.2.1 nx }
def f33 (k : Nat) (a1 : (List ((Int × (Int × Int)) × (Int × (Int × Int))))) (a2 : Int) (a3 : Int) (a4 : Int) (a5 : Int) (a6 : Int) (a7 : Int) : Option ((Int × Unit) × Unit) :=
  f33_l2 k k a1 0 a2 a3 a4 a5 a6 a7
    (fun x13 : (Unit × Unit) =>
      some (((-1), ()), ()),
    fun x14 : ((Int × Unit) × Unit) =>
      some ((x14.1.1, ()), ()),
    ())
def ef33 : Entry := { id := 33, ar := { temps := [(0, .c (.sl (.pair (.pair (.int .i64) (.pair (.int .i64) (.int .i64))) (.pair (.int .i64) (.pair (.int .i64) (.int .i64)))))), (1, .agg [(.int .i64), (.int .i64), (.int .i64), (.int .i64), (.int .i64), (.int .i64)])], blocks := [], ren := [] }, res := { temps := [(0, .c (.int .i64))], blocks := [], ren := [] }, f := fun k v => f33 k v.1.1 v.1.2.1.1 v.1.2.1.2.1 v.1.2.1.2.2.1 v.1.2.1.2.2.2.1 v.1.2.1.2.2.2.2.1 v.1.2.1.2.2.2.2.2.1 }
def gf33 (k : Nat) : Full := { tt := tt, n := 19, fns := [], trunc := [], tails := [], k := k, glob := glob, cuts := [(2, (cf33_l2 k))], joins := [] }
theorem of33_l2 (k : Nat) : CutOk (gf33 k) (cf33_l2 k) (theLoop Try.f33 2) := fun ρ v nx => ⟨by kernel_rfl, fun j => by kernel_rfl⟩
theorem qf33 (k : Nat) : AllP (bodyL (gf33 k) Try.f33) := by
  have h : (CutOk (gf33 k) (cf33_l2 k) (theLoop Try.f33 2) ∧ True) = AllP (bodyL (gf33 k) Try.f33) := by kernel_rfl
  exact Eq.mp h (And.intro (of33_l2 k) (trivial))
theorem sf33 : Sound Try.prog glob ef33 := sound_of base (fn := Try.f33) Try.func33 (by kernel_rfl) gf33 (fun _ => ⟨rfl, rfl⟩) (fun k j => trivial) qf33 (fun k v => by kernel_rfl)

/-! spec.l08Pattern -/
def f23_l3 {ρ : Type} (k : Nat) : Nat → (List (((Int × (Int × Int)) × (Int × (Int × Int))) × (((Int × (Int × Int)) × (Int × (Int × Int))) × Int))) → (List ((Int × (Int × Int)) × (Int × (Int × Int)))) → Int → (((((List (((Int × (Int × Int)) × (Int × (Int × Int))) × (((Int × (Int × Int)) × (Int × (Int × Int))) × Int))) × Unit × (List ((Int × (Int × Int)) × (Int × (Int × Int)))) × Unit) × ((Unit × Unit × Unit) × Unit)) → Option ρ) × Unit) → Option ρ
  | 0, _, _, _, _ => none
  | j + 1, v40, v41, v42, nx =>
    bif (decide (v42 < (v40.length : Int))) then
      (getI v40 v42).bind fun x43 =>
      (f32 k v41 x43.1.1.1 x43.1.1.2.1 x43.1.1.2.2 x43.1.2.1 x43.1.2.2.1 x43.1.2.2.2).bind fun x44 =>
      (getI v40 v42).bind fun x45 =>
      (f32 k x44.1.1 x45.2.1.1.1 x45.2.1.1.2.1 x45.2.1.1.2.2 x45.2.1.2.1 x45.2.1.2.2.1 x45.2.1.2.2.2).bind fun x46 =>
      f23_l3 k j v40 x46.1.1 (wr .i64 (v42 + 1)) nx
    else
      nx.1 ((v40, (), v41, ()), (((), (), ()), ()))
def cf23_l3 (k : Nat) : Cut := { sp := { temps := [(0, .c (.sl (.pair (.pair (.pair (.int .i64) (.pair (.int .i64) (.int .i64))) (.pair (.int .i64) (.pair (.int .i64) (.int .i64)))) (.pair (.pair (.pair (.int .i64) (.pair (.int .i64) (.int .i64))) (.pair (.int .i64) (.pair (.int .i64) (.int .i64)))) (.int .i64))))), (2, .c (.box 5000000)), (3, .c (.sl (.pair (.pair (.int .i64) (.pair (.int .i64) (.int .i64))) (.pair (.int .i64) (.pair (.int .i64) (.int .i64)))))), (4, .c (.int .i64))], blocks := [(5000000, .box 25 [(.lit .nils), (.lit .nils)])], ren := [] }, outs := [(.exit 0, { temps := [(0, .c (.sl (.pair (.pair (.pair (.int .i64) (.pair (.int .i64) (.int .i64))) (.pair (.int .i64) (.pair (.int .i64) (.int .i64)))) (.pair (.pair (.pair (.int .i64) (.pair (.int .i64) (.int .i64))) (.pair (.int .i64) (.pair (.int .i64) (.int .i64)))) (.int .i64))))), (2, .c (.box 5000000)), (3, .c (.sl (.pair (.pair (.int .i64) (.pair (.int .i64) (.int .i64))) (.pair (.int .i64) (.pair (.int .i64) (.int .i64))))))], blocks := [(5000000, .box 25 [(.lit .nils), (.lit .nils)])], ren := [] })], F := fun ρ j v nx => f23_l3 k j v.1.1 v.1.2.2.1 v.1.2.2.2.1 nx }
def f23_l9 {ρ : Type} (k : Nat) : Nat → (List (((Int × (Int × Int)) × (Int × (Int × Int))) × (((Int × (Int × Int)) × (Int × (Int × Int))) × Int))) → (List ((Int × (Int × Int)) × (Int × (Int × Int)))) → Int → (List ((Int × (Int × Int)) × (Int × (Int × Int)))) → (List (Int × (Int × Int))) → ((((Unit × Unit × Unit) × ((Unit × Unit × Unit) × ((List ((Int × (Int × Int)) × (Int × (Int × Int)))) × Unit × Unit) × (List (Int × (Int × Int))) × Unit)) → Option ρ) × Unit) → Option ρ
  | 0, _, _, _, _, _, _ => none
  | j + 1, v47, v48, v49, v50, v51, nx =>
    bif (decide (v49 < (v47.length : Int))) then
      (getI v47 v49).bind fun x52 =>
      (f33 k v48 x52.1.1.1 x52.1.1.2.1 x52.1.1.2.2 x52.1.2.1 x52.1.2.2.1 x52.1.2.2.2).bind fun x53 =>
      (getI v47 v49).bind fun x54 =>
      (f33 k v48 x54.2.1.1.1 x54.2.1.1.2.1 x54.2.1.1.2.2 x54.2.1.2.1 x54.2.1.2.2.1 x54.2.1.2.2.2).bind fun x55 =>
      (getI v47 v49).bind fun x56 =>
      bif decide ((v51.length + [(x53.1.1, (x55.1.1, x56.2.2))].length) * 24 ≤ roomy) then
        f23_l9 k j v47 v48 (wr .i64 (v49 + 1)) v50 (v51 ++ [(x53.1.1, (x55.1.1, x56.2.2))]) nx
      else
        none
    else
      nx.1 (((), (), ()), (((), (), ()), (v50, (), ()), v51, ()))
def cf23_l9 (k : Nat) : Cut := { sp := { temps := [(0, .c (.sl (.pair (.pair (.pair (.int .i64) (.pair (.int .i64) (.int .i64))) (.pair (.int .i64) (.pair (.int .i64) (.int .i64)))) (.pair (.pair (.pair (.int .i64) (.pair (.int .i64) (.int .i64))) (.pair (.int .i64) (.pair (.int .i64) (.int .i64)))) (.int .i64))))), (2, .c (.box 5000000)), (3, .c (.sl (.pair (.pair (.int .i64) (.pair (.int .i64) (.int .i64))) (.pair (.int .i64) (.pair (.int .i64) (.int .i64)))))), (5, .c (.box 5000001)), (6, .c (.int .i64))], blocks := [(5000000, .box 25 [(.lit .nils), (.lit .nils)]), (5000001, .box 25 [(.sl (.pair (.pair (.int .i64) (.pair (.int .i64) (.int .i64))) (.pair (.int .i64) (.pair (.int .i64) (.int .i64))))), (.row 5000002)]), (5000002, .row 59 (.pair (.int .i64) (.pair (.int .i64) (.int .i64))))], ren := [] }, outs := [(.exit 2, { temps := [(2, .c (.box 5000000)), (5, .c (.box 5000001))], blocks := [(5000000, .box 25 [(.lit .nils), (.lit .nils)]), (5000001, .box 25 [(.sl (.pair (.pair (.int .i64) (.pair (.int .i64) (.int .i64))) (.pair (.int .i64) (.pair (.int .i64) (.int .i64))))), (.row 5000002)]), (5000002, .row 59 (.pair (.int .i64) (.pair (.int .i64) (.int .i64))))], ren := [] })], F := fun ρ j v nx => f23_l9 k j v.1.1 v.1.2.2.1 v.1.2.2.2.2.1 v.2.2.1.1 v.2.2.2.1 nx }
def f23 (k : Nat) (a1 : (List (((Int × (Int × Int)) × (Int × (Int × Int))) × (((Int × (Int × Int)) × (Int × (Int × Int))) × Int)))) : Option ((((List ((Int × (Int × Int)) × (Int × (Int × Int)))) × Unit × Unit) × Unit) × ((List (Int × (Int × Int))) × Unit)) :=
  f23_l3 k k a1 ([] : List ((Int × (Int × Int)) × (Int × (Int × Int)))) 0
    (fun x38 : (((List (((Int × (Int × Int)) × (Int × (Int × Int))) × (((Int × (Int × Int)) × (Int × (Int × Int))) × Int))) × Unit × (List ((Int × (Int × Int)) × (Int × (Int × Int)))) × Unit) × ((Unit × Unit × Unit) × Unit)) =>
      f23_l9 k k x38.1.1 x38.1.2.2.1 0 x38.1.2.2.1 ([] : List (Int × (Int × Int)))
        (fun x39 : ((Unit × Unit × Unit) × ((Unit × Unit × Unit) × ((List ((Int × (Int × Int)) × (Int × (Int × Int)))) × Unit × Unit) × (List (Int × (Int × Int))) × Unit)) =>
          some (((x39.2.2.1.1, (), ()), ()), (x39.2.2.2.1, ())),
        ()),
    ())
def ef23 : Entry := { id := 23, ar := { temps := [(0, .c (.sl (.pair (.pair (.pair (.int .i64) (.pair (.int .i64) (.int .i64))) (.pair (.int .i64) (.pair (.int .i64) (.int .i64)))) (.pair (.pair (.pair (.int .i64) (.pair (.int .i64) (.int .i64))) (.pair (.int .i64) (.pair (.int .i64) (.int .i64)))) (.int .i64)))))], blocks := [], ren := [] }, res := { temps := [(0, .agg [(.sl (.pair (.pair (.int .i64) (.pair (.int .i64) (.int .i64))) (.pair (.int .i64) (.pair (.int .i64) (.int .i64))))), (.row 4000000)])], blocks := [(4000000, .row 59 (.pair (.int .i64) (.pair (.int .i64) (.int .i64))))], ren := [] }, f := fun k v => f23 k v.1.1 }
def gf23 (k : Nat) : Full := { tt := tt, n := 62, fns := [ef32, ef33], trunc := [], tails := [], k := k, glob := glob, cuts := [(3, (cf23_l3 k)), (9, (cf23_l9 k))], joins := [] }
theorem of23_l3 (k : Nat) : CutOk (gf23 k) (cf23_l3 k) (theLoop Try.f23 3) := fun ρ v nx => ⟨by kernel_rfl, fun j => by kernel_rfl⟩
theorem of23_l9 (k : Nat) : CutOk (gf23 k) (cf23_l9 k) (theLoop Try.f23 9) := fun ρ v nx => ⟨by kernel_rfl, fun j => by kernel_rfl⟩
theorem qf23 (k : Nat) : AllP (bodyL (gf23 k) Try.f23) := by
  have h : (CutOk (gf23 k) (cf23_l3 k) (theLoop Try.f23 3) ∧ CutOk (gf23 k) (cf23_l9 k) (theLoop Try.f23 9) ∧ True) = AllP (bodyL (gf23 k) Try.f23) := by kernel_rfl
  exact Eq.mp h (And.intro (of23_l3 k) (And.intro (of23_l9 k) (trivial)))
theorem sf23 : Sound Try.prog glob ef23 := sound_of base (fn := Try.f23) Try.func23 (by kernel_rfl) gf23 (fun _ => ⟨rfl, rfl⟩) (fun k j => ⟨sf32.at j, sf33.at j, trivial⟩) qf23 (fun k v => by kernel_rfl)

/-! spec.l08Blank -/
def f10_l3 {ρ : Type} (k : Nat) : Nat → (List ((Int × (Int × Int)) × (Int × (Int × Int)))) → Int → (List (((Int × (Int × Int)) × (Int × (Int × Int))) × (((Int × (Int × Int)) × (Int × (Int × Int))) × Int))) → ((((Unit × Unit × Unit) × ((Unit × Unit × Unit) × (List (((Int × (Int × Int)) × (Int × (Int × Int))) × (((Int × (Int × Int)) × (Int × (Int × Int))) × Int))) × Unit)) → Option ρ) × Unit) → Option ρ
  | 0, _, _, _, _ => none
  | j + 1, v13, v14, v15, nx =>
    bif (decide (v14 < (v13.length : Int))) then
      (getI v13 v14).bind fun x16 =>
      bif decide ((v13.length : Int) = 0) then
        none
      else
        let x17 : Int := ((wr .i64 (v14 + 1)).tmod (v13.length : Int))
        (getI v13 x17).bind fun x18 =>
        (f21 k x16.1.1 x16.1.2.1 x16.1.2.2 x16.2.1 x16.2.2.1 x16.2.2.2 x18.1.1 x18.1.2.1 x18.1.2.2 x18.2.1 x18.2.2.1 x18.2.2.2).bind fun x19 =>
        bif (decide (x19.1.1 > 0)) then
          (f22 k x18.1.1 x18.1.2.1 x18.1.2.2 x18.2.1 x18.2.2.1 x18.2.2.2 x16.1.1 x16.1.2.1 x16.1.2.2 x16.2.1 x16.2.2.1 x16.2.2.2 1 v15).bind fun x20 =>
          f10_l3 k j v13 (wr .i64 (v14 + 1)) x20.2.1 nx
        else
          (f22 k x16.1.1 x16.1.2.1 x16.1.2.2 x16.2.1 x16.2.2.1 x16.2.2.2 x18.1.1 x18.1.2.1 x18.1.2.2 x18.2.1 x18.2.2.1 x18.2.2.2 1 v15).bind fun x21 =>
          f10_l3 k j v13 (wr .i64 (v14 + 1)) x21.2.1 nx
    else
      nx.1 (((), (), ()), (((), (), ()), v15, ()))
def cf10_l3 (k : Nat) : Cut := { sp := { temps := [(0, .c (.sl (.pair (.pair (.int .i64) (.pair (.int .i64) (.int .i64))) (.pair (.int .i64) (.pair (.int .i64) (.int .i64)))))), (2, .c (.box 5000000)), (3, .c (.row 5000001)), (4, .c (.int .i64))], blocks := [(5000000, .box 25 [(.lit .nils), (.lit .nils)]), (5000001, .row 48 (.pair (.pair (.pair (.int .i64) (.pair (.int .i64) (.int .i64))) (.pair (.int .i64) (.pair (.int .i64) (.int .i64)))) (.pair (.pair (.pair (.int .i64) (.pair (.int .i64) (.int .i64))) (.pair (.int .i64) (.pair (.int .i64) (.int .i64)))) (.int .i64))))], ren := [] }, outs := [(.exit 0, { temps := [(2, .c (.box 5000000)), (3, .c (.row 5000001))], blocks := [(5000000, .box 25 [(.lit .nils), (.lit .nils)]), (5000001, .row 48 (.pair (.pair (.pair (.int .i64) (.pair (.int .i64) (.int .i64))) (.pair (.int .i64) (.pair (.int .i64) (.int .i64)))) (.pair (.pair (.pair (.int .i64) (.pair (.int .i64) (.int .i64))) (.pair (.int .i64) (.pair (.int .i64) (.int .i64)))) (.int .i64))))], ren := [] })], F := fun ρ j v nx => f10_l3 k j v.1.1 v.1.2.2.2.1 v.2.2.1 nx }
def f10 (k : Nat) (a1 : (List ((Int × (Int × Int)) × (Int × (Int × Int))))) : Option ((((List ((Int × (Int × Int)) × (Int × (Int × Int)))) × Unit × Unit) × Unit) × ((List (Int × (Int × Int))) × Unit)) :=
  f10_l3 k k a1 0 ([] : List (((Int × (Int × Int)) × (Int × (Int × Int))) × (((Int × (Int × Int)) × (Int × (Int × Int))) × Int)))
    (fun x11 : ((Unit × Unit × Unit) × ((Unit × Unit × Unit) × (List (((Int × (Int × Int)) × (Int × (Int × Int))) × (((Int × (Int × Int)) × (Int × (Int × Int))) × Int))) × Unit)) =>
      (f23 k x11.2.2.1).bind fun x12 =>
      some (((x12.1.1.1, (), ()), ()), (x12.2.1, ())),
    ())
def ef10 : Entry := { id := 10, ar := { temps := [(0, .c (.sl (.pair (.pair (.int .i64) (.pair (.int .i64) (.int .i64))) (.pair (.int .i64) (.pair (.int .i64) (.int .i64))))))], blocks := [], ren := [] }, res := { temps := [(0, .agg [(.sl (.pair (.pair (.int .i64) (.pair (.int .i64) (.int .i64))) (.pair (.int .i64) (.pair (.int .i64) (.int .i64))))), (.row 4000000)])], blocks := [(4000000, .row 59 (.pair (.int .i64) (.pair (.int .i64) (.int .i64))))], ren := [] }, f := fun k v => f10 k v.1.1 }
def gf10 (k : Nat) : Full := { tt := tt, n := 39, fns := [ef21, ef22, ef23], trunc := [], tails := [], k := k, glob := glob, cuts := [(3, (cf10_l3 k))], joins := [] }
theorem of10_l3 (k : Nat) : CutOk (gf10 k) (cf10_l3 k) (theLoop Try.f10 3) := fun ρ v nx => ⟨by kernel_rfl, fun j => by kernel_rfl⟩
theorem qf10 (k : Nat) : AllP (bodyL (gf10 k) Try.f10) := by
  have h : (CutOk (gf10 k) (cf10_l3 k) (theLoop Try.f10 3) ∧ True) = AllP (bodyL (gf10 k) Try.f10) := by kernel_rfl
  exact Eq.mp h (And.intro (of10_l3 k) (trivial))
theorem sf10 : Sound Try.prog glob ef10 := sound_of base (fn := Try.f10) Try.func10 (by kernel_rfl) gf10 (fun _ => ⟨rfl, rfl⟩) (fun k j => ⟨sf21.at j, sf22.at j, sf23.at j, trivial⟩) qf10 (fun k v => by kernel_rfl)

/-! spec.SquarePattern -/
def f4 (k : Nat) (a1 : Int) : Option ((((List ((Int × (Int × Int)) × (Int × (Int × Int)))) × Unit × Unit) × Int × Unit) × ((List (Int × (Int × Int))) × Unit)) :=
  (f9 k a1).bind fun x3 =>
  bif (!x3.1.2.1) then
    some (((([] : List ((Int × (Int × Int)) × (Int × (Int × Int)))), (), ()), 2, ()), (([] : List (Int × (Int × Int))), ()))
  else
    (f10 k x3.2.1).bind fun x4 =>
    some (((x4.1.1.1, (), ()), 0, ()), (x4.2.1, ()))
def ef4 : Entry := { id := 4, ar := { temps := [(0, .c (.int .i64))], blocks := [], ren := [] }, res := { temps := [(0, .agg [(.sl (.pair (.pair (.int .i64) (.pair (.int .i64) (.int .i64))) (.pair (.int .i64) (.pair (.int .i64) (.int .i64))))), (.row 4000000)]), (1, .c (.int .i64))], blocks := [(4000000, .row 59 (.pair (.int .i64) (.pair (.int .i64) (.int .i64))))], ren := [] }, f := fun k v => f4 k v.1.1 }
def gf4 (k : Nat) : Full := { tt := tt, n := 16, fns := [ef9, ef10], trunc := [], tails := [], k := k, glob := glob, cuts := [], joins := [] }
theorem qf4 (k : Nat) : AllP (bodyL (gf4 k) Try.f4) := by
  have h : True = AllP (bodyL (gf4 k) Try.f4) := by kernel_rfl
  exact Eq.mp h trivial
theorem sf4 : Sound Try.prog glob ef4 := sound_of base (fn := Try.f4) Try.func4 (by kernel_rfl) gf4 (fun _ => ⟨rfl, rfl⟩) (fun k j => ⟨sf9.at j, sf10.at j, trivial⟩) qf4 (fun k v => by kernel_rfl)

/-! impl.within -/
def f24 (k : Nat) (a1 : Int) (a2 : Int) (a3 : Int) : Option ((Bool × Unit) × Unit) :=
  bif (decide (a1 ≥ a2)) then
    some (((decide (a1 ≤ a3)), ()), ())
  else
    some ((false, ()), ())
def ef24 : Entry := { id := 24, ar := { temps := [(0, .c (.int .i64)), (1, .c (.int .i64)), (2, .c (.int .i64))], blocks := [], ren := [] }, res := { temps := [(0, .c .bool)], blocks := [], ren := [] }, f := fun k v => f24 k v.1.1 v.1.2.1 v.1.2.2.1 }
def gf24 (k : Nat) : Full := { tt := tt, n := 15, fns := [], trunc := [], tails := [], k := k, glob := glob, cuts := [], joins := [] }
theorem qf24 (k : Nat) : AllP (bodyL (gf24 k) Try.f24) := by
  have h : True = AllP (bodyL (gf24 k) Try.f24) := by kernel_rfl
  exact Eq.mp h trivial
theorem sf24 : Sound Try.prog glob ef24 := sound_of base (fn := Try.f24) Try.func24 (by kernel_rfl) gf24 (fun _ => ⟨rfl, rfl⟩) (fun k j => trivial) qf24 (fun k v => by kernel_rfl)

/-! impl.whole -/
def f25 (k : Nat) (a1 : Int) : Option (((Int × Int × Int × Unit) × Unit) × Unit) :=
  some (((a1, 0, 0, ()), ()), ())
def ef25 : Entry := { id := 25, ar := { temps := [(0, .c (.int .i64))], blocks := [], ren := [] }, res := { temps := [(0, .agg [(.int .i64), (.int .i64), (.int .i64)])], blocks := [], ren := [] }, f := fun k v => f25 k v.1.1 }
def gf25 (k : Nat) : Full := { tt := tt, n := 5, fns := [], trunc := [], tails := [], k := k, glob := glob, cuts := [], joins := [] }
theorem qf25 (k : Nat) : AllP (bodyL (gf25 k) Try.f25) := by
  have h : True = AllP (bodyL (gf25 k) Try.f25) := by kernel_rfl
  exact Eq.mp h trivial
theorem sf25 : Sound Try.prog glob ef25 := sound_of base (fn := Try.f25) Try.func25 (by kernel_rfl) gf25 (fun _ => ⟨rfl, rfl⟩) (fun k j => trivial) qf25 (fun k v => by kernel_rfl)

/-! impl.SquarePaper -/
def f11 (k : Nat) (a1 : Int) : Option ((Unit × Bool × Unit) × ((List ((Int × (Int × Int)) × (Int × (Int × Int)))) × Unit)) :=
  (f24 k a1 1 1000).bind fun x6 =>
  bif (!x6.1.1) then
    some (((), false, ()), (([] : List ((Int × (Int × Int)) × (Int × (Int × Int)))), ()))
  else
    (f25 k a1).bind fun x7 =>
    (f25 k 0).bind fun x8 =>
    some (((), true, ()), ([((x8.1.1.1, (x8.1.1.2.1, x8.1.1.2.2.1)), (x8.1.1.1, (x8.1.1.2.1, x8.1.1.2.2.1))), ((x7.1.1.1, (x7.1.1.2.1, x7.1.1.2.2.1)), (x8.1.1.1, (x8.1.1.2.1, x8.1.1.2.2.1))), ((x7.1.1.1, (x7.1.1.2.1, x7.1.1.2.2.1)), (x7.1.1.1, (x7.1.1.2.1, x7.1.1.2.2.1))), ((x8.1.1.1, (x8.1.1.2.1, x8.1.1.2.2.1)), (x7.1.1.1, (x7.1.1.2.1, x7.1.1.2.2.1)))], ()))
def ef11 : Entry := { id := 11, ar := { temps := [(0, .c (.int .i64))], blocks := [], ren := [] }, res := { temps := [(0, .c (.row 4000000)), (1, .c .bool)], blocks := [(4000000, .row 44 (.pair (.pair (.int .i64) (.pair (.int .i64) (.int .i64))) (.pair (.int .i64) (.pair (.int .i64) (.int .i64)))))], ren := [] }, f := fun k v => f11 k v.1.1 }
def gf11 (k : Nat) : Full := { tt := tt, n := 25, fns := [ef24, ef25], trunc := [], tails := [], k := k, glob := glob, cuts := [], joins := [] }
theorem qf11 (k : Nat) : AllP (bodyL (gf11 k) Try.f11) := by
  have h : True = AllP (bodyL (gf11 k) Try.f11) := by kernel_rfl
  exact Eq.mp h trivial
theorem sf11 : Sound Try.prog glob ef11 := sound_of base (fn := Try.f11) Try.func11 (by kernel_rfl) gf11 (fun _ => ⟨rfl, rfl⟩) (fun k j => ⟨sf24.at j, sf25.at j, trivial⟩) qf11 (fun k v => by kernel_rfl)

/-! impl.Num).neg -/
def f78 (k : Nat) (a1 : Int) (a2 : Int) (a3 : Int) : Option (((Int × Int × Int × Unit) × Unit) × Unit) :=
  some ((((wr .i64 (0 - a1)), (wr .i64 (0 - a2)), a3, ()), ()), ())
def ef78 : Entry := { id := 78, ar := { temps := [(0, .agg [(.int .i64), (.int .i64), (.int .i64)])], blocks := [], ren := [] }, res := { temps := [(0, .agg [(.int .i64), (.int .i64), (.int .i64)])], blocks := [], ren := [] }, f := fun k v => f78 k v.1.1.1 v.1.1.2.1 v.1.1.2.2.1 }
def gf78 (k : Nat) : Full := { tt := tt, n := 12, fns := [], trunc := [], tails := [], k := k, glob := glob, cuts := [], joins := [] }
theorem qf78 (k : Nat) : AllP (bodyL (gf78 k) Try.f78) := by
  have h : True = AllP (bodyL (gf78 k) Try.f78) := by kernel_rfl
  exact Eq.mp h trivial
theorem sf78 : Sound Try.prog glob ef78 := sound_of base (fn := Try.f78) Try.func78 (by kernel_rfl) gf78 (fun _ => ⟨rfl, rfl⟩) (fun k j => trivial) qf78 (fun k v => by kernel_rfl)

/-! impl.Num).reduced -/
def f89_l1 {ρ : Type} (k : Nat) : Nat → Int → Int → Int → Int → Int → Int → ((((Unit × Unit × Unit) × ((Int × Int × Int × Unit) × (Int × Int × Int × Unit) × Unit)) → Option ρ) × Unit) → Option ρ
  | 0, _, _, _, _, _, _, _ => none
  | j + 1, v9, v10, v11, v12, v13, v14, nx =>
    bif (decide (v11 > 0)) then
      bif ((iand .i64 v9 1) == 0) then
        bif ((iand .i64 v10 1) == 0) then
          bif ((wr .i64 (v9.tdiv 2)) == 0) then
            bif ((wr .i64 (v10.tdiv 2)) == 0) then
              f89_l1 k j (wr .i64 (v9.tdiv 2)) (wr .i64 (v10.tdiv 2)) 0 v12 v13 v14 nx
            else
              f89_l1 k j (wr .i64 (v9.tdiv 2)) (wr .i64 (v10.tdiv 2)) (wr .i64 (v11 - 1)) v12 v13 v14 nx
          else
            f89_l1 k j (wr .i64 (v9.tdiv 2)) (wr .i64 (v10.tdiv 2)) (wr .i64 (v11 - 1)) v12 v13 v14 nx
        else
          nx.1 (((), (), ()), ((v9, v10, v11, ()), (v12, v13, v14, ()), ()))
      else
        nx.1 (((), (), ()), ((v9, v10, v11, ()), (v12, v13, v14, ()), ()))
    else
      nx.1 (((), (), ()), ((v9, v10, v11, ()), (v12, v13, v14, ()), ()))
def cf89_l1 (k : Nat) : Cut := { sp := { temps := [(1, .c (.box 5000000)), (2, .c (.box 5000001))], blocks := [(5000000, .box 42 [(.int .i64), (.int .i64), (.int .i64)]), (5000001, .box 42 [(.int .i64), (.int .i64), (.int .i64)])], ren := [] }, outs := [(.exit 0, { temps := [(1, .c (.box 5000000)), (2, .c (.box 5000001))], blocks := [(5000000, .box 42 [(.int .i64), (.int .i64), (.int .i64)]), (5000001, .box 42 [(.int .i64), (.int .i64), (.int .i64)])], ren := [] })], F := fun ρ j v nx => f89_l1 k j v.2.1.1 v.2.1.2.1 v.2.1.2.2.1 v.2.2.1.1 v.2.2.1.2.1 v.2.2.1.2.2.1 nx }
def f89 (k : Nat) (a1 : Int) (a2 : Int) (a3 : Int) : Option (((Int × Int × Int × Unit) × Unit) × Unit) :=
  f89_l1 k k a1 a2 a3 0 0 0
    (fun x8 : ((Unit × Unit × Unit) × ((Int × Int × Int × Unit) × (Int × Int × Int × Unit) × Unit)) =>
      some (((x8.2.1.1, x8.2.1.2.1, x8.2.1.2.2.1, ()), ()), ()),
    ())
def ef89 : Entry := { id := 89, ar := { temps := [(0, .agg [(.int .i64), (.int .i64), (.int .i64)])], blocks := [], ren := [] }, res := { temps := [(0, .agg [(.int .i64), (.int .i64), (.int .i64)])], blocks := [], ren := [] }, f := fun k v => f89 k v.1.1.1 v.1.1.2.1 v.1.1.2.2.1 }
def gf89 (k : Nat) : Full := { tt := tt, n := 40, fns := [], trunc := [], tails := [], k := k, glob := glob, cuts := [(1, (cf89_l1 k))], joins := [] }
theorem of89_l1 (k : Nat) : CutOk (gf89 k) (cf89_l1 k) (theLoop Try.f89 1) := fun ρ v nx => ⟨by kernel_rfl, fun j => by kernel_rfl⟩
theorem qf89 (k : Nat) : AllP (bodyL (gf89 k) Try.f89) := by
  have h : (CutOk (gf89 k) (cf89_l1 k) (theLoop Try.f89 1) ∧ True) = AllP (bodyL (gf89 k) Try.f89) := by kernel_rfl
  exact Eq.mp h (And.intro (of89_l1 k) (trivial))
theorem sf89 : Sound Try.prog glob ef89 := sound_of base (fn := Try.f89) Try.func89 (by kernel_rfl) gf89 (fun _ => ⟨rfl, rfl⟩) (fun k j => trivial) qf89 (fun k v => by kernel_rfl)

/-! impl.Num).plus -/
def f77 (k : Nat) (a1 : Int) (a2 : Int) (a3 : Int) (a4 : Int) (a5 : Int) (a6 : Int) : Option (((Int × Int × Int × Unit) × Unit) × Unit) :=
  let x8 : Int := (wr .i64 ((bif decide (a6 > a3) then a6 else a3) - a3))
  bif decide (x8 < 0) then
    none
  else
    let x9 : Int := (wr .i64 ((bif decide (a6 > a3) then a6 else a3) - a6))
    bif decide (x9 < 0) then
      none
    else
      let x10 : Int := (wr .i64 ((ishl .i64 a1 x8) + (ishl .i64 a4 x9)))
      let x11 : Int := (wr .i64 ((bif decide (a6 > a3) then a6 else a3) - a3))
      bif decide (x11 < 0) then
        none
      else
        let x12 : Int := (wr .i64 ((bif decide (a6 > a3) then a6 else a3) - a6))
        bif decide (x12 < 0) then
          none
        else
          let x13 : Int := (wr .i64 ((ishl .i64 a2 x11) + (ishl .i64 a5 x12)))
          (f89 k x10 x13 (bif decide (a6 > a3) then a6 else a3)).bind fun x14 =>
          some (((x14.1.1.1, x14.1.1.2.1, x14.1.1.2.2.1, ()), ()), ())
def ef77 : Entry := { id := 77, ar := { temps := [(0, .agg [(.int .i64), (.int .i64), (.int .i64)]), (1, .agg [(.int .i64), (.int .i64), (.int .i64)])], blocks := [], ren := [] }, res := { temps := [(0, .agg [(.int .i64), (.int .i64), (.int .i64)])], blocks := [], ren := [] }, f := fun k v => f77 k v.1.1.1 v.1.1.2.1 v.1.1.2.2.1 v.1.2.1.1 v.1.2.1.2.1 v.1.2.1.2.2.1 }
def gf77 (k : Nat) : Full := { tt := tt, n := 44, fns := [ef89], trunc := [], tails := [], k := k, glob := glob, cuts := [], joins := [] }
theorem qf77 (k : Nat) : AllP (bodyL (gf77 k) Try.f77) := by
  have h : True = AllP (bodyL (gf77 k) Try.f77) := by kernel_rfl
  exact Eq.mp h trivial
theorem sf77 : Sound Try.prog glob ef77 := sound_of base (fn := Try.f77) Try.func77 (by kernel_rfl) gf77 (fun _ => ⟨rfl, rfl⟩) (fun k j => ⟨sf89.at j, trivial⟩) qf77 (fun k v => by kernel_rfl)

/-! impl.Num).minus -/
def f55 (k : Nat) (a1 : Int) (a2 : Int) (a3 : Int) (a4 : Int) (a5 : Int) (a6 : Int) : Option (((Int × Int × Int × Unit) × Unit) × Unit) :=
  (f78 k a4 a5 a6).bind fun x3 =>
  (f77 k a1 a2 a3 x3.1.1.1 x3.1.1.2.1 x3.1.1.2.2.1).bind fun x4 =>
  some (((x4.1.1.1, x4.1.1.2.1, x4.1.1.2.2.1, ()), ()), ())
def ef55 : Entry := { id := 55, ar := { temps := [(0, .agg [(.int .i64), (.int .i64), (.int .i64)]), (1, .agg [(.int .i64), (.int .i64), (.int .i64)])], blocks := [], ren := [] }, res := { temps := [(0, .agg [(.int .i64), (.int .i64), (.int .i64)])], blocks := [], ren := [] }, f := fun k v => f55 k v.1.1.1 v.1.1.2.1 v.1.1.2.2.1 v.1.2.1.1 v.1.2.1.2.1 v.1.2.1.2.2.1 }
def gf55 (k : Nat) : Full := { tt := tt, n := 9, fns := [ef78, ef77], trunc := [], tails := [], k := k, glob := glob, cuts := [], joins := [] }
theorem qf55 (k : Nat) : AllP (bodyL (gf55 k) Try.f55) := by
  have h : True = AllP (bodyL (gf55 k) Try.f55) := by kernel_rfl
  exact Eq.mp h trivial
theorem sf55 : Sound Try.prog glob ef55 := sound_of base (fn := Try.f55) Try.func55 (by kernel_rfl) gf55 (fun _ => ⟨rfl, rfl⟩) (fun k j => ⟨sf78.at j, sf77.at j, trivial⟩) qf55 (fun k v => by kernel_rfl)

/-! impl.signOf -/
def f79 (k : Nat) (a1 : Int) : Option ((Int × Unit) × Unit) :=
  let x2 : Int := (bif decide ((bif decide (a1 < 1) then a1 else 1) > (-1)) then (bif decide (a1 < 1) then a1 else 1) else (-1))
  some ((x2, ()), ())
def ef79 : Entry := { id := 79, ar := { temps := [(0, .c (.int .i64))], blocks := [], ren := [] }, res := { temps := [(0, .c (.int .i64))], blocks := [], ren := [] }, f := fun k v => f79 k v.1.1 }
def gf79 (k : Nat) : Full := { tt := tt, n := 6, fns := [], trunc := [], tails := [], k := k, glob := glob, cuts := [], joins := [] }
theorem qf79 (k : Nat) : AllP (bodyL (gf79 k) Try.f79) := by
  have h : True = AllP (bodyL (gf79 k) Try.f79) := by kernel_rfl
  exact Eq.mp h trivial
theorem sf79 : Sound Try.prog glob ef79 := sound_of base (fn := Try.f79) Try.func79 (by kernel_rfl) gf79 (fun _ => ⟨rfl, rfl⟩) (fun k j => trivial) qf79 (fun k v => by kernel_rfl)

/-! impl.abs -/
def f91 (k : Nat) (a1 : Int) : Option ((Int × Unit) × Unit) :=
  let x2 : Int := (bif decide ((wr .i64 (0 - a1)) > a1) then (wr .i64 (0 - a1)) else a1)
  some ((x2, ()), ())
def ef91 : Entry := { id := 91, ar := { temps := [(0, .c (.int .i64))], blocks := [], ren := [] }, res := { temps := [(0, .c (.int .i64))], blocks := [], ren := [] }, f := fun k v => f91 k v.1.1 }
def gf91 (k : Nat) : Full := { tt := tt, n := 7, fns := [], trunc := [], tails := [], k := k, glob := glob, cuts := [], joins := [] }
theorem qf91 (k : Nat) : AllP (bodyL (gf91 k) Try.f91) := by
  have h : True = AllP (bodyL (gf91 k) Try.f91) := by kernel_rfl
  exact Eq.mp h trivial
theorem sf91 : Sound Try.prog glob ef91 := sound_of base (fn := Try.f91) Try.func91 (by kernel_rfl) gf91 (fun _ => ⟨rfl, rfl⟩) (fun k j => trivial) qf91 (fun k v => by kernel_rfl)

/-! bits.Mul64 -/
def f90 (k : Nat) (a1 : Int) (a2 : Int) : Option ((Int × Int × Unit) × Unit) :=
  let x8 : Int := (wr .u64 ((iand .u64 a1 4294967295) * (iand .u64 a2 4294967295)))
  let x9 : Int := (wr .u64 ((ishr .u64 a1 32) * (iand .u64 a2 4294967295)))
  let x10 : Int := (iand .u64 (wr .u64 (x9 + (ishr .u64 x8 32))) 4294967295)
  let x11 : Int := (ishr .u64 (wr .u64 (x9 + (ishr .u64 x8 32))) 32)
  let x12 : Int := (wr .u64 ((iand .u64 a1 4294967295) * (ishr .u64 a2 32)))
  let x13 : Int := (wr .u64 ((ishr .u64 a1 32) * (ishr .u64 a2 32)))
  let x14 : Int := (wr .u64 ((wr .u64 (x13 + x11)) + (ishr .u64 (wr .u64 (x10 + x12)) 32)))
  some ((x14, (wr .u64 (a1 * a2)), ()), ())
def ef90 : Entry := { id := 90, ar := { temps := [(0, .c (.int .u64)), (1, .c (.int .u64))], blocks := [], ren := [] }, res := { temps := [(0, .c (.int .u64)), (1, .c (.int .u64))], blocks := [], ren := [] }, f := fun k v => f90 k v.1.1 v.1.2.1 }
def gf90 (k : Nat) : Full := { tt := tt, n := 51, fns := [], trunc := [], tails := [], k := k, glob := glob, cuts := [], joins := [] }
theorem qf90 (k : Nat) : AllP (bodyL (gf90 k) Try.f90) := by
  have h : True = AllP (bodyL (gf90 k) Try.f90) := by kernel_rfl
  exact Eq.mp h trivial
theorem sf90 : Sound Try.prog glob ef90 := sound_of base (fn := Try.f90) Try.func90 (by kernel_rfl) gf90 (fun _ => ⟨rfl, rfl⟩) (fun k j => trivial) qf90 (fun k v => by kernel_rfl)

/-! impl.isGreater -/
def f80 (k : Nat) (a1 : Int) (a2 : Int) : Option ((Bool × Unit) × Unit) :=
  (f91 k a1).bind fun x8 =>
  (f91 k a1).bind fun x9 =>
  (f90 k (wr .u64 x8.1.1) (wr .u64 x9.1.1)).bind fun x10 =>
  (f91 k a2).bind fun x11 =>
  (f91 k a2).bind fun x12 =>
  (f90 k (wr .u64 x11.1.1) (wr .u64 x12.1.1)).bind fun x13 =>
  let x14 : Int := (ior .u64 (ishl .u64 x13.1.1 1) (ishr .u64 x13.1.2.1 63))
  bif (decide (x10.1.1 > x14)) then
    some ((true, ()), ())
  else
    bif (x10.1.1 == x14) then
      let x15 : Bool := (decide (x10.1.2.1 > (ishl .u64 x13.1.2.1 1)))
      some ((x15, ()), ())
    else
      some ((false, ()), ())
def ef80 : Entry := { id := 80, ar := { temps := [(0, .c (.int .i64)), (1, .c (.int .i64))], blocks := [], ren := [] }, res := { temps := [(0, .c .bool)], blocks := [], ren := [] }, f := fun k v => f80 k v.1.1 v.1.2.1 }
def gf80 (k : Nat) : Full := { tt := tt, n := 49, fns := [ef91, ef90], trunc := [], tails := [], k := k, glob := glob, cuts := [], joins := [] }
theorem qf80 (k : Nat) : AllP (bodyL (gf80 k) Try.f80) := by
  have h : True = AllP (bodyL (gf80 k) Try.f80) := by kernel_rfl
  exact Eq.mp h trivial
theorem sf80 : Sound Try.prog glob ef80 := sound_of base (fn := Try.f80) Try.func80 (by kernel_rfl) gf80 (fun _ => ⟨rfl, rfl⟩) (fun k j => ⟨sf91.at j, sf90.at j, trivial⟩) qf80 (fun k v => by kernel_rfl)

/-! impl.Num).sign -/
def f56 (k : Nat) (a1 : Int) (a2 : Int) (a3 : Int) : Option ((Int × Unit) × Unit) :=
  (f79 k a1).bind fun x4 =>
  (f79 k a2).bind fun x5 =>
  bif (x4.1.1 == x5.1.1) then
    some ((x4.1.1, ()), ())
  else
    bif (x5.1.1 == 0) then
      some ((x4.1.1, ()), ())
    else
      bif (x4.1.1 == 0) then
        some ((x5.1.1, ()), ())
      else
        (f80 k a1 a2).bind fun x6 =>
        bif (!x6.1.1) then
          some ((x5.1.1, ()), ())
        else
          some ((x4.1.1, ()), ())
def ef56 : Entry := { id := 56, ar := { temps := [(0, .agg [(.int .i64), (.int .i64), (.int .i64)])], blocks := [], ren := [] }, res := { temps := [(0, .c (.int .i64))], blocks := [], ren := [] }, f := fun k v => f56 k v.1.1.1 v.1.1.2.1 v.1.1.2.2.1 }
def gf56 (k : Nat) : Full := { tt := tt, n := 33, fns := [ef79, ef80], trunc := [], tails := [], k := k, glob := glob, cuts := [], joins := [] }
theorem qf56 (k : Nat) : AllP (bodyL (gf56 k) Try.f56) := by
  have h : True = AllP (bodyL (gf56 k) Try.f56) := by kernel_rfl
  exact Eq.mp h trivial
theorem sf56 : Sound Try.prog glob ef56 := sound_of base (fn := Try.f56) Try.func56 (by kernel_rfl) gf56 (fun _ => ⟨rfl, rfl⟩) (fun k j => ⟨sf79.at j, sf80.at j, trivial⟩) qf56 (fun k v => by kernel_rfl)

/-! impl.Num).compare -/
def f47 (k : Nat) (a1 : Int) (a2 : Int) (a3 : Int) (a4 : Int) (a5 : Int) (a6 : Int) : Option ((Int × Unit) × Unit) :=
  (f55 k a1 a2 a3 a4 a5 a6).bind fun x3 =>
  (f56 k x3.1.1.1 x3.1.1.2.1 x3.1.1.2.2.1).bind fun x4 =>
  some ((x4.1.1, ()), ())
def ef47 : Entry := { id := 47, ar := { temps := [(0, .agg [(.int .i64), (.int .i64), (.int .i64)]), (1, .agg [(.int .i64), (.int .i64), (.int .i64)])], blocks := [], ren := [] }, res := { temps := [(0, .c (.int .i64))], blocks := [], ren := [] }, f := fun k v => f47 k v.1.1.1 v.1.1.2.1 v.1.1.2.2.1 v.1.2.1.1 v.1.2.1.2.1 v.1.2.1.2.2.1 }
def gf47 (k : Nat) : Full := { tt := tt, n := 9, fns := [ef55, ef56], trunc := [], tails := [], k := k, glob := glob, cuts := [], joins := [] }
theorem qf47 (k : Nat) : AllP (bodyL (gf47 k) Try.f47) := by
  have h : True = AllP (bodyL (gf47 k) Try.f47) := by kernel_rfl
  exact Eq.mp h trivial
theorem sf47 : Sound Try.prog glob ef47 := sound_of base (fn := Try.f47) Try.func47 (by kernel_rfl) gf47 (fun _ => ⟨rfl, rfl⟩) (fun k j => ⟨sf55.at j, sf56.at j, trivial⟩) qf47 (fun k v => by kernel_rfl)

/-! impl.Point).compare -/
def f34 (k : Nat) (a1 : Int) (a2 : Int) (a3 : Int) (a4 : Int) (a5 : Int) (a6 : Int) (a7 : Int) (a8 : Int) (a9 : Int) (a10 : Int) (a11 : Int) (a12 : Int) : Option ((Int × Unit) × Unit) :=
  (f47 k a1 a2 a3 a7 a8 a9).bind fun x3 =>
  bif (x3.1.1 != 0) then
    some ((x3.1.1, ()), ())
  else
    (f47 k a4 a5 a6 a10 a11 a12).bind fun x4 =>
    some ((x4.1.1, ()), ())
def ef34 : Entry := { id := 34, ar := { temps := [(0, .agg [(.int .i64), (.int .i64), (.int .i64), (.int .i64), (.int .i64), (.int .i64)]), (1, .agg [(.int .i64), (.int .i64), (.int .i64), (.int .i64), (.int .i64), (.int .i64)])], blocks := [], ren := [] }, res := { temps := [(0, .c (.int .i64))], blocks := [], ren := [] }, f := fun k v => f34 k v.1.1.1 v.1.1.2.1 v.1.1.2.2.1 v.1.1.2.2.2.1 v.1.1.2.2.2.2.1 v.1.1.2.2.2.2.2.1 v.1.2.1.1 v.1.2.1.2.1 v.1.2.1.2.2.1 v.1.2.1.2.2.2.1 v.1.2.1.2.2.2.2.1 v.1.2.1.2.2.2.2.2.1 }
def gf34 (k : Nat) : Full := { tt := tt, n := 19, fns := [ef47], trunc := [], tails := [], k := k, glob := glob, cuts := [], joins := [] }
theorem qf34 (k : Nat) : AllP (bodyL (gf34 k) Try.f34) := by
  have h : True = AllP (bodyL (gf34 k) Try.f34) := by kernel_rfl
  exact Eq.mp h trivial
theorem sf34 : Sound Try.prog glob ef34 := sound_of base (fn := Try.f34) Try.func34 (by kernel_rfl) gf34 (fun _ => ⟨rfl, rfl⟩) (fun k j => ⟨sf47.at j, trivial⟩) qf34 (fun k v => by kernel_rfl)

/-! impl.newSegment -/
def f26 (k : Nat) (a1 : Int) (a2 : Int) (a3 : Int) (a4 : Int) (a5 : Int) (a6 : Int) (a7 : Int) (a8 : Int) (a9 : Int) (a10 : Int) (a11 : Int) (a12 : Int) (a13 : Int) : Option (((Int × Int × Int × Int × Int × Int × Int × Int × Int × Int × Int × Int × Int × Unit) × Unit) × Unit) :=
  (f34 k a1 a2 a3 a4 a5 a6 a7 a8 a9 a10 a11 a12).bind fun x2 =>
  bif (decide (x2.1.1 > 0)) then
    some (((a7, a8, a9, a10, a11, a12, a1, a2, a3, a4, a5, a6, a13, ()), ()), ())
  else
    some (((a1, a2, a3, a4, a5, a6, a7, a8, a9, a10, a11, a12, a13, ()), ()), ())
def ef26 : Entry := { id := 26, ar := { temps := [(0, .agg [(.int .i64), (.int .i64), (.int .i64), (.int .i64), (.int .i64), (.int .i64)]), (1, .agg [(.int .i64), (.int .i64), (.int .i64), (.int .i64), (.int .i64), (.int .i64)]), (2, .c (.int .i64))], blocks := [], ren := [] }, res := { temps := [(0, .agg [(.int .i64), (.int .i64), (.int .i64), (.int .i64), (.int .i64), (.int .i64), (.int .i64), (.int .i64), (.int .i64), (.int .i64), (.int .i64), (.int .i64), (.int .i64)])], blocks := [], ren := [] }, f := fun k v => f26 k v.1.1.1 v.1.1.2.1 v.1.1.2.2.1 v.1.1.2.2.2.1 v.1.1.2.2.2.2.1 v.1.1.2.2.2.2.2.1 v.1.2.1.1 v.1.2.1.2.1 v.1.2.1.2.2.1 v.1.2.1.2.2.2.1 v.1.2.1.2.2.2.2.1 v.1.2.1.2.2.2.2.2.1 v.1.2.2.1 }
def gf26 (k : Nat) : Full := { tt := tt, n := 17, fns := [ef34], trunc := [], tails := [], k := k, glob := glob, cuts := [], joins := [] }
theorem qf26 (k : Nat) : AllP (bodyL (gf26 k) Try.f26) := by
  have h : True = AllP (bodyL (gf26 k) Try.f26) := by kernel_rfl
  exact Eq.mp h trivial
theorem sf26 : Sound Try.prog glob ef26 := sound_of base (fn := Try.f26) Try.func26 (by kernel_rfl) gf26 (fun _ => ⟨rfl, rfl⟩) (fun k j => ⟨sf34.at j, trivial⟩) qf26 (fun k v => by kernel_rfl)

/-! bits.Len64 -/
def f66_j7 {ρ : Type} (k : Nat) (v18 : Int) (v19 : Int) (nx : ((((Int × Unit) × Unit) → Option ρ) × Unit)) : Option ρ :=
  bif (decide (v18 ≥ 256)) then
    ((if 0 ≤ (wr .u8 (ishr .u64 v18 8)) then (ByteArray.mk #[0, 1, 2, 2, 3, 3, 3, 3, 4, 4, 4, 4, 4, 4, 4, 4, 5, 5, 5, 5, 5, 5, 5, 5, 5, 5, 5, 5, 5, 5, 5, 5, 6, 6, 6, 6, 6, 6, 6, 6, 6, 6, 6, 6, 6, 6, 6, 6, 6, 6, 6, 6, 6, 6, 6, 6, 6, 6, 6, 6, 6, 6, 6, 6, 7, 7, 7, 7, 7, 7, 7, 7, 7, 7, 7, 7, 7, 7, 7, 7, 7, 7, 7, 7, 7, 7, 7, 7, 7, 7, 7, 7, 7, 7, 7, 7, 7, 7, 7, 7, 7, 7, 7, 7, 7, 7, 7, 7, 7, 7, 7, 7, 7, 7, 7, 7, 7, 7, 7, 7, 7, 7, 7, 7, 7, 7, 7, 7, 8, 8, 8, 8, 8, 8, 8, 8, 8, 8, 8, 8, 8, 8, 8, 8, 8, 8, 8, 8, 8, 8, 8, 8, 8, 8, 8, 8, 8, 8, 8, 8, 8, 8, 8, 8, 8, 8, 8, 8, 8, 8, 8, 8, 8, 8, 8, 8, 8, 8, 8, 8, 8, 8, 8, 8, 8, 8, 8, 8, 8, 8, 8, 8, 8, 8, 8, 8, 8, 8, 8, 8, 8, 8, 8, 8, 8, 8, 8, 8, 8, 8, 8, 8, 8, 8, 8, 8, 8, 8, 8, 8, 8, 8, 8, 8, 8, 8, 8, 8, 8, 8, 8, 8, 8, 8, 8, 8, 8, 8, 8, 8, 8, 8, 8, 8, 8, 8, 8, 8, 8, 8, 8, 8, 8, 8, 8, 8])[(wr .u8 (ishr .u64 v18 8)).toNat]? else none)).bind fun x20 =>
    let x21 : Int := (wr .i64 ((wr .i64 (v19 + 8)) + (wr .i64 (x20.toNat : Int))))
    nx.1 ((x21, ()), ())
  else
    ((if 0 ≤ (wr .u8 v18) then (ByteArray.mk #[0, 1, 2, 2, 3, 3, 3, 3, 4, 4, 4, 4, 4, 4, 4, 4, 5, 5, 5, 5, 5, 5, 5, 5, 5, 5, 5, 5, 5, 5, 5, 5, 6, 6, 6, 6, 6, 6, 6, 6, 6, 6, 6, 6, 6, 6, 6, 6, 6, 6, 6, 6, 6, 6, 6, 6, 6, 6, 6, 6, 6, 6, 6, 6, 7, 7, 7, 7, 7, 7, 7, 7, 7, 7, 7, 7, 7, 7, 7, 7, 7, 7, 7, 7, 7, 7, 7, 7, 7, 7, 7, 7, 7, 7, 7, 7, 7, 7, 7, 7, 7, 7, 7, 7, 7, 7, 7, 7, 7, 7, 7, 7, 7, 7, 7, 7, 7, 7, 7, 7, 7, 7, 7, 7, 7, 7, 7, 7, 8, 8, 8, 8, 8, 8, 8, 8, 8, 8, 8, 8, 8, 8, 8, 8, 8, 8, 8, 8, 8, 8, 8, 8, 8, 8, 8, 8, 8, 8, 8, 8, 8, 8, 8, 8, 8, 8, 8, 8, 8, 8, 8, 8, 8, 8, 8, 8, 8, 8, 8, 8, 8, 8, 8, 8, 8, 8, 8, 8, 8, 8, 8, 8, 8, 8, 8, 8, 8, 8, 8, 8, 8, 8, 8, 8, 8, 8, 8, 8, 8, 8, 8, 8, 8, 8, 8, 8, 8, 8, 8, 8, 8, 8, 8, 8, 8, 8, 8, 8, 8, 8, 8, 8, 8, 8, 8, 8, 8, 8, 8, 8, 8, 8, 8, 8, 8, 8, 8, 8, 8, 8, 8, 8, 8, 8, 8, 8])[(wr .u8 v18).toNat]? else none)).bind fun x22 =>
    let x23 : Int := (wr .i64 (v19 + (wr .i64 (x22.toNat : Int))))
    nx.1 ((x23, ()), ())
def cf66_j7 : Cut := { sp := { temps := [(0, .c (.int .u64)), (2, .c (.int .i64))], blocks := [], ren := [] }, outs := [(.ret, { temps := [(2, .c (.int .i64))], blocks := [], ren := [] })], F := fun ρ k v nx => f66_j7 k v.1.1 v.1.2.1 nx }
def f66_j4 {ρ : Type} (k : Nat) (v14 : Int) (v15 : Int) (nx : ((((Int × Unit) × Unit) → Option ρ) × Unit)) : Option ρ :=
  bif (decide (v14 ≥ 65536)) then
    f66_j7 k (ishr .u64 v14 16) (wr .i64 (v15 + 16))
      (fun x16 : ((Int × Unit) × Unit) =>
        nx.1 ((x16.1.1, ()), ()),
      ())
  else
    f66_j7 k v14 v15
      (fun x17 : ((Int × Unit) × Unit) =>
        nx.1 ((x17.1.1, ()), ()),
      ())
def cf66_j4 : Cut := { sp := { temps := [(0, .c (.int .u64)), (2, .c (.int .i64))], blocks := [], ren := [] }, outs := [(.ret, { temps := [(2, .c (.int .i64))], blocks := [], ren := [] })], F := fun ρ k v nx => f66_j4 k v.1.1 v.1.2.1 nx }
def f66 (k : Nat) (a1 : Int) : Option ((Int × Unit) × Unit) :=
  bif (decide (a1 ≥ 4294967296)) then
    f66_j4 k (ishr .u64 a1 32) 32
      (fun x12 : ((Int × Unit) × Unit) =>
        some ((x12.1.1, ()), ()),
      ())
  else
    f66_j4 k a1 0
      (fun x13 : ((Int × Unit) × Unit) =>
        some ((x13.1.1, ()), ()),
      ())
def ef66 : Entry := { id := 66, ar := { temps := [(0, .c (.int .u64))], blocks := [], ren := [] }, res := { temps := [(0, .c (.int .i64))], blocks := [], ren := [] }, f := fun k v => f66 k v.1.1 }
def gf66 (k : Nat) : Full := { tt := tt, n := 25, fns := [], trunc := [], tails := [], k := k, glob := glob, cuts := [], joins := [(7, cf66_j7), (4, cf66_j4)] }
theorem of66_j7 (k : Nat) : JoinOk (gf66 k) cf66_j7 (theJoin Try.f66 7) := fun ρ v nx => by kernel_rfl
theorem of66_j4 (k : Nat) : JoinOk (gf66 k) cf66_j4 (theJoin Try.f66 4) := fun ρ v nx => by kernel_rfl
theorem qf66 (k : Nat) : AllP (bodyL (gf66 k) Try.f66) := by
  have h : (JoinOk (gf66 k) cf66_j7 (theJoin Try.f66 7) ∧ JoinOk (gf66 k) cf66_j4 (theJoin Try.f66 4) ∧ True) = AllP (bodyL (gf66 k) Try.f66) := by kernel_rfl
  exact Eq.mp h (And.intro (of66_j7 k) (And.intro (of66_j4 k) (trivial)))
theorem sf66 : Sound Try.prog glob ef66 := sound_of base (fn := Try.f66) Try.func66 (by kernel_rfl) gf66 (fun _ => ⟨rfl, rfl⟩) (fun k j => trivial) qf66 (fun k v => by kernel_rfl)

/-! bits.Len -/
def f49 (k : Nat) (a1 : Int) : Option ((Int × Unit) × Unit) :=
  (f66 k a1).bind fun x2 =>
  some ((x2.1.1, ()), ())
def ef49 : Entry := { id := 49, ar := { temps := [(0, .c (.int .u64))], blocks := [], ren := [] }, res := { temps := [(0, .c (.int .i64))], blocks := [], ren := [] }, f := fun k v => f49 k v.1.1 }
def gf49 (k : Nat) : Full := { tt := tt, n := 8, fns := [ef66], trunc := [], tails := [], k := k, glob := glob, cuts := [], joins := [] }
theorem qf49 (k : Nat) : AllP (bodyL (gf49 k) Try.f49) := by
  have h : True = AllP (bodyL (gf49 k) Try.f49) := by kernel_rfl
  exact Eq.mp h trivial
theorem sf49 : Sound Try.prog glob ef49 := sound_of base (fn := Try.f49) Try.func49 (by kernel_rfl) gf49 (fun _ => ⟨rfl, rfl⟩) (fun k j => ⟨sf66.at j, trivial⟩) qf49 (fun k v => by kernel_rfl)

/-! impl.patternOf$1 -/
def f36 (k : Nat) (a1 : Int) (a2 : Int) (a3 : Int) (a4 : Int) (a5 : Int) (a6 : Int) (a7 : Int) (a8 : Int) (a9 : Int) (a10 : Int) (a11 : Int) (a12 : Int) : Option ((Int × Unit) × Unit) :=
  (f34 k a1 a2 a3 a4 a5 a6 a7 a8 a9 a10 a11 a12).bind fun x2 =>
  some ((x2.1.1, ()), ())
def ef36 : Entry := { id := 36, ar := { temps := [(0, .agg [(.int .i64), (.int .i64), (.int .i64), (.int .i64), (.int .i64), (.int .i64)]), (1, .agg [(.int .i64), (.int .i64), (.int .i64), (.int .i64), (.int .i64), (.int .i64)])], blocks := [], ren := [] }, res := { temps := [(0, .c (.int .i64))], blocks := [], ren := [] }, f := fun k v => f36 k v.1.1.1 v.1.1.2.1 v.1.1.2.2.1 v.1.1.2.2.2.1 v.1.1.2.2.2.2.1 v.1.1.2.2.2.2.2.1 v.1.2.1.1 v.1.2.1.2.1 v.1.2.1.2.2.1 v.1.2.1.2.2.2.1 v.1.2.1.2.2.2.2.1 v.1.2.1.2.2.2.2.2.1 }
def gf36 (k : Nat) : Full := { tt := tt, n := 8, fns := [ef34], trunc := [], tails := [], k := k, glob := glob, cuts := [], joins := [] }
theorem qf36 (k : Nat) : AllP (bodyL (gf36 k) Try.f36) := by
  have h : True = AllP (bodyL (gf36 k) Try.f36) := by kernel_rfl
  exact Eq.mp h trivial
theorem sf36 : Sound Try.prog glob ef36 := sound_of base (fn := Try.f36) Try.func36 (by kernel_rfl) gf36 (fun _ => ⟨rfl, rfl⟩) (fun k j => ⟨sf34.at j, trivial⟩) qf36 (fun k v => by kernel_rfl)

/-! impl.Point] -/
def f57_l4 {ρ : Type} (k : Nat) : Nat → Int → Int → Int → Int → (List ((Int × (Int × Int)) × (Int × (Int × Int)))) → ((((Unit × Int × Int × Unit × Int × Unit) × ((List ((Int × (Int × Int)) × (Int × (Int × Int)))) × Unit)) → Option ρ) × Unit) → Option ρ
  | 0, _, _, _, _, _, _ => none
  | j + 1, v24, v25, v26, v27, v28, nx =>
    bif (decide (v27 > v24)) then
      bif decide (0 ≤ v27) && decide (v27 < (v28.length : Int)) then
        (v28[v27.toNat]?).bind fun x32 =>
        bif decide (0 ≤ (wr .i64 (v27 - 1))) && decide ((wr .i64 (v27 - 1)) < (v28.length : Int)) then
          (v28[(wr .i64 (v27 - 1)).toNat]?).bind fun x33 =>
          (f36 k x32.1.1 x32.1.2.1 x32.1.2.2 x32.2.1 x32.2.2.1 x32.2.2.2 x33.1.1 x33.1.2.1 x33.1.2.2 x33.2.1 x33.2.2.1 x33.2.2.2).bind fun x34 =>
          bif (decide (x34.1.1 < 0)) then
            bif decide (0 ≤ (wr .i64 (v27 - 1))) && decide ((wr .i64 (v27 - 1)) < (v28.length : Int)) then
              (v28[(wr .i64 (v27 - 1)).toNat]?).bind fun x35 =>
              bif decide (0 ≤ v27) && decide (v27 < (v28.length : Int)) then
                (v28[v27.toNat]?).bind fun x36 =>
                bif decide (0 ≤ v27) && decide (v27 < (v28.length : Int)) then
                  (v28[v27.toNat]?).bind fun _ =>
                  bif decide (0 ≤ (wr .i64 (v27 - 1))) && decide ((wr .i64 (v27 - 1)) < ((v28.set v27.toNat x35).length : Int)) then
                    ((v28.set v27.toNat x35)[(wr .i64 (v27 - 1)).toNat]?).bind fun _ =>
                    let x39 : (List ((Int × (Int × Int)) × (Int × (Int × Int)))) := ((v28.set v27.toNat x35).set (wr .i64 (v27 - 1)).toNat x36)
                    f57_l4 k j v24 v25 v26 (wr .i64 (v27 - 1)) x39 nx
                  else
                    none
                else
                  none
              else
                none
            else
              none
          else
            nx.1 (((), v24, v25, (), v26, ()), (v28, ()))
        else
          none
      else
        none
    else
      nx.1 (((), v24, v25, (), v26, ()), (v28, ()))
def cf57_l4 (k : Nat) : Cut := { sp := { temps := [(0, .c (.lit (.row 3000000))), (1, .c (.int .i64)), (2, .c (.int .i64)), (3, .c (.lit (.fn 36))), (8, .c (.int .i64)), (9, .c (.int .i64))], blocks := [(3000000, .row 44 (.pair (.pair (.int .i64) (.pair (.int .i64) (.int .i64))) (.pair (.int .i64) (.pair (.int .i64) (.int .i64)))))], ren := [(3000000, some 3000000)] }, outs := [(.exit 2, { temps := [(0, .c (.lit (.row 3000000))), (1, .c (.int .i64)), (2, .c (.int .i64)), (3, .c (.lit (.fn 36))), (8, .c (.int .i64))], blocks := [(3000000, .row 44 (.pair (.pair (.int .i64) (.pair (.int .i64) (.int .i64))) (.pair (.int .i64) (.pair (.int .i64) (.int .i64)))))], ren := [(3000000, some 3000000)] })], F := fun ρ j v nx => f57_l4 k j v.1.2.1 v.1.2.2.1 v.1.2.2.2.2.1 v.1.2.2.2.2.2.1 v.2.1 nx }
def f57_l1 {ρ : Type} (k : Nat) : Nat → Int → Int → Int → (List ((Int × (Int × Int)) × (Int × (Int × Int)))) → (((Unit × ((List ((Int × (Int × Int)) × (Int × (Int × Int)))) × Unit)) → Option ρ) × Unit) → Option ρ
  | 0, _, _, _, _, _ => none
  | j + 1, v40, v41, v42, v43, nx =>
    bif (decide (v42 < v41)) then
      f57_l4 k k v40 v41 v42 v42 v43
        (fun x44 : ((Unit × Int × Int × Unit × Int × Unit) × ((List ((Int × (Int × Int)) × (Int × (Int × Int)))) × Unit)) =>
          f57_l1 k j x44.1.2.1 x44.1.2.2.1 (wr .i64 (x44.1.2.2.2.2.1 + 1)) x44.2.1 nx,
        ())
    else
      nx.1 ((), (v43, ()))
def cf57_l1 (k : Nat) : Cut := { sp := { temps := [(0, .c (.lit (.row 3000000))), (1, .c (.int .i64)), (2, .c (.int .i64)), (3, .c (.lit (.fn 36))), (8, .c (.int .i64))], blocks := [(3000000, .row 44 (.pair (.pair (.int .i64) (.pair (.int .i64) (.int .i64))) (.pair (.int .i64) (.pair (.int .i64) (.int .i64)))))], ren := [(3000000, some 3000000)] }, outs := [(.exit 0, { temps := [], blocks := [(3000000, .row 44 (.pair (.pair (.int .i64) (.pair (.int .i64) (.int .i64))) (.pair (.int .i64) (.pair (.int .i64) (.int .i64)))))], ren := [(3000000, some 3000000)] })], F := fun ρ j v nx => f57_l1 k j v.1.2.1 v.1.2.2.1 v.1.2.2.2.2.1 v.2.1 nx }
def f57 (k : Nat) (a1 : Int) (a2 : Int) (a3 : (List ((Int × (Int × Int)) × (Int × (Int × Int))))) : Option (Unit × ((List ((Int × (Int × Int)) × (Int × (Int × Int)))) × Unit)) :=
  f57_l1 k k a1 a2 (wr .i64 (a1 + 1)) a3
    (fun x23 : (Unit × ((List ((Int × (Int × Int)) × (Int × (Int × Int)))) × Unit)) =>
      some ((), (x23.2.1, ())),
    ())
def ef57 : Entry := { id := 57, ar := { temps := [(0, .c (.row 3000000)), (1, .c (.int .i64)), (2, .c (.int .i64)), (3, .c (.lit (.fn 36)))], blocks := [(3000000, .row 44 (.pair (.pair (.int .i64) (.pair (.int .i64) (.int .i64))) (.pair (.int .i64) (.pair (.int .i64) (.int .i64)))))], ren := [] }, res := { temps := [], blocks := [(3000000, .row 44 (.pair (.pair (.int .i64) (.pair (.int .i64) (.int .i64))) (.pair (.int .i64) (.pair (.int .i64) (.int .i64)))))], ren := [(3000000, some 3000000)] }, f := fun k v => f57 k v.1.2.1 v.1.2.2.1 v.2.1 }
def gf57 (k : Nat) : Full := { tt := tt, n := 53, fns := [ef36], trunc := [], tails := [], k := k, glob := glob, cuts := [(4, (cf57_l4 k)), (1, (cf57_l1 k))], joins := [] }
theorem of57_l4 (k : Nat) : CutOk (gf57 k) (cf57_l4 k) (theLoop Try.f57 4) := fun ρ v nx => ⟨by kernel_rfl, fun j => by kernel_rfl⟩
theorem of57_l1 (k : Nat) : CutOk (gf57 k) (cf57_l1 k) (theLoop Try.f57 1) := fun ρ v nx => ⟨by kernel_rfl, fun j => by kernel_rfl⟩
theorem qf57 (k : Nat) : AllP (bodyL (gf57 k) Try.f57) := by
  have h : (CutOk (gf57 k) (cf57_l4 k) (theLoop Try.f57 4) ∧ CutOk (gf57 k) (cf57_l1 k) (theLoop Try.f57 1) ∧ True) = AllP (bodyL (gf57 k) Try.f57) := by kernel_rfl
  exact Eq.mp h (And.intro (of57_l4 k) (And.intro (of57_l1 k) (trivial)))
theorem sf57 : Sound Try.prog glob ef57 := sound_of base (fn := Try.f57) Try.func57 (by kernel_rfl) gf57 (fun _ => ⟨rfl, rfl⟩) (fun k j => ⟨sf36.at j, trivial⟩) qf57 (fun k v => by kernel_rfl)

/-! impl.Point] -/
def f81_j5 {ρ : Type} (k : Nat) (v66 : Int) (v67 : Int) (v68 : Int) (v69 : Int) (v70 : (List ((Int × (Int × Int)) × (Int × (Int × Int))))) (nx : ((((Unit × Int × Int × Unit × Int × Unit) × ((List ((Int × (Int × Int)) × (Int × (Int × Int)))) × Unit)) → Option ρ) × ((Unit × ((List ((Int × (Int × Int)) × (Int × (Int × Int)))) × Unit)) → Option ρ) × Unit)) : Option ρ :=
  bif decide (0 ≤ (wr .i64 (v67 + v68))) && decide ((wr .i64 (v67 + v68)) < (v70.length : Int)) then
    (v70[(wr .i64 (v67 + v68)).toNat]?).bind fun x74 =>
    bif decide (0 ≤ (wr .i64 (v67 + v69))) && decide ((wr .i64 (v67 + v69)) < (v70.length : Int)) then
      (v70[(wr .i64 (v67 + v69)).toNat]?).bind fun x75 =>
      (f36 k x74.1.1 x74.1.2.1 x74.1.2.2 x74.2.1 x74.2.2.1 x74.2.2.2 x75.1.1 x75.1.2.1 x75.1.2.2 x75.2.1 x75.2.2.1 x75.2.2.2).bind fun x76 =>
      bif (!(decide (x76.1.1 < 0))) then
        nx.2.1 ((), (v70, ()))
      else
        bif decide (0 ≤ (wr .i64 (v67 + v69))) && decide ((wr .i64 (v67 + v69)) < (v70.length : Int)) then
          (v70[(wr .i64 (v67 + v69)).toNat]?).bind fun x77 =>
          bif decide (0 ≤ (wr .i64 (v67 + v68))) && decide ((wr .i64 (v67 + v68)) < (v70.length : Int)) then
            (v70[(wr .i64 (v67 + v68)).toNat]?).bind fun x78 =>
            bif decide (0 ≤ (wr .i64 (v67 + v68))) && decide ((wr .i64 (v67 + v68)) < (v70.length : Int)) then
              (v70[(wr .i64 (v67 + v68)).toNat]?).bind fun _ =>
              bif decide (0 ≤ (wr .i64 (v67 + v69))) && decide ((wr .i64 (v67 + v69)) < ((v70.set (wr .i64 (v67 + v68)).toNat x77).length : Int)) then
                ((v70.set (wr .i64 (v67 + v68)).toNat x77)[(wr .i64 (v67 + v69)).toNat]?).bind fun _ =>
                let x81 : (List ((Int × (Int × Int)) × (Int × (Int × Int)))) := ((v70.set (wr .i64 (v67 + v68)).toNat x77).set (wr .i64 (v67 + v69)).toNat x78)
                nx.1 (((), v66, v67, (), v69, ()), (x81, ()))
              else
                none
            else
              none
          else
            none
        else
          none
    else
      none
  else
    none
def cf81_j5 : Cut := { sp := { temps := [(0, .c (.lit (.row 3000000))), (2, .c (.int .i64)), (3, .c (.int .i64)), (4, .c (.lit (.fn 36))), (10, .c (.int .i64)), (11, .c (.int .i64))], blocks := [(3000000, .row 44 (.pair (.pair (.int .i64) (.pair (.int .i64) (.int .i64))) (.pair (.int .i64) (.pair (.int .i64) (.int .i64)))))], ren := [(3000000, some 3000000)] }, outs := [(.normal, { temps := [(0, .c (.lit (.row 3000000))), (2, .c (.int .i64)), (3, .c (.int .i64)), (4, .c (.lit (.fn 36))), (10, .c (.int .i64))], blocks := [(3000000, .row 44 (.pair (.pair (.int .i64) (.pair (.int .i64) (.int .i64))) (.pair (.int .i64) (.pair (.int .i64) (.int .i64)))))], ren := [(3000000, some 3000000)] }), (.ret, { temps := [], blocks := [(3000000, .row 44 (.pair (.pair (.int .i64) (.pair (.int .i64) (.int .i64))) (.pair (.int .i64) (.pair (.int .i64) (.int .i64)))))], ren := [(3000000, some 3000000)] })], F := fun ρ k v nx => f81_j5 k v.1.2.1 v.1.2.2.1 v.1.2.2.2.2.1 v.1.2.2.2.2.2.1 v.2.1 nx }
def f81_l1 {ρ : Type} (k : Nat) : Nat → Int → Int → Int → (List ((Int × (Int × Int)) × (Int × (Int × Int)))) → (((Unit × ((List ((Int × (Int × Int)) × (Int × (Int × Int)))) × Unit)) → Option ρ) × ((Unit × ((List ((Int × (Int × Int)) × (Int × (Int × Int)))) × Unit)) → Option ρ) × Unit) → Option ρ
  | 0, _, _, _, _, _ => none
  | j + 1, v47, v48, v49, v50, nx =>
    let x52 : Bool := (decide ((wr .i64 ((wr .i64 (2 * v49)) + 1)) ≥ v47))
    bif x52 then
      nx.1 ((), (v50, ()))
    else
      let x53 : Int := (wr .i64 ((wr .i64 ((wr .i64 (2 * v49)) + 1)) + 1))
      bif (decide (x53 < v47)) then
        let x54 : Int := (wr .i64 (v48 + (wr .i64 ((wr .i64 (2 * v49)) + 1))))
        bif decide (0 ≤ x54) && decide (x54 < (v50.length : Int)) then
          (v50[x54.toNat]?).bind fun x55 =>
          let x56 : Int := (wr .i64 (v48 + (wr .i64 ((wr .i64 (2 * v49)) + 1))))
          bif decide (0 ≤ (wr .i64 (x56 + 1))) && decide ((wr .i64 (x56 + 1)) < (v50.length : Int)) then
            (v50[(wr .i64 (x56 + 1)).toNat]?).bind fun x57 =>
            (f36 k x55.1.1 x55.1.2.1 x55.1.2.2 x55.2.1 x55.2.2.1 x55.2.2.2 x57.1.1 x57.1.2.1 x57.1.2.2 x57.2.1 x57.2.2.1 x57.2.2.2).bind fun x58 =>
            bif (decide (x58.1.1 < 0)) then
              let x59 : Int := (wr .i64 ((wr .i64 ((wr .i64 (2 * v49)) + 1)) + 1))
              f81_j5 k v47 v48 v49 x59 v50
                (fun x60 : ((Unit × Int × Int × Unit × Int × Unit) × ((List ((Int × (Int × Int)) × (Int × (Int × Int)))) × Unit)) =>
                  f81_l1 k j x60.1.2.1 x60.1.2.2.1 x60.1.2.2.2.2.1 x60.2.1 nx,
                fun x61 : (Unit × ((List ((Int × (Int × Int)) × (Int × (Int × Int)))) × Unit)) =>
                  nx.2.1 ((), (x61.2.1, ())),
                ())
            else
              f81_j5 k v47 v48 v49 (wr .i64 ((wr .i64 (2 * v49)) + 1)) v50
                (fun x62 : ((Unit × Int × Int × Unit × Int × Unit) × ((List ((Int × (Int × Int)) × (Int × (Int × Int)))) × Unit)) =>
                  f81_l1 k j x62.1.2.1 x62.1.2.2.1 x62.1.2.2.2.2.1 x62.2.1 nx,
                fun x63 : (Unit × ((List ((Int × (Int × Int)) × (Int × (Int × Int)))) × Unit)) =>
                  nx.2.1 ((), (x63.2.1, ())),
                ())
          else
            none
        else
          none
      else
        f81_j5 k v47 v48 v49 (wr .i64 ((wr .i64 (2 * v49)) + 1)) v50
          (fun x64 : ((Unit × Int × Int × Unit × Int × Unit) × ((List ((Int × (Int × Int)) × (Int × (Int × Int)))) × Unit)) =>
            f81_l1 k j x64.1.2.1 x64.1.2.2.1 x64.1.2.2.2.2.1 x64.2.1 nx,
          fun x65 : (Unit × ((List ((Int × (Int × Int)) × (Int × (Int × Int)))) × Unit)) =>
            nx.2.1 ((), (x65.2.1, ())),
          ())
def cf81_l1 (k : Nat) : Cut := { sp := { temps := [(0, .c (.lit (.row 3000000))), (2, .c (.int .i64)), (3, .c (.int .i64)), (4, .c (.lit (.fn 36))), (10, .c (.int .i64))], blocks := [(3000000, .row 44 (.pair (.pair (.int .i64) (.pair (.int .i64) (.int .i64))) (.pair (.int .i64) (.pair (.int .i64) (.int .i64)))))], ren := [(3000000, some 3000000)] }, outs := [(.exit 0, { temps := [], blocks := [(3000000, .row 44 (.pair (.pair (.int .i64) (.pair (.int .i64) (.int .i64))) (.pair (.int .i64) (.pair (.int .i64) (.int .i64)))))], ren := [(3000000, some 3000000)] }), (.ret, { temps := [], blocks := [(3000000, .row 44 (.pair (.pair (.int .i64) (.pair (.int .i64) (.int .i64))) (.pair (.int .i64) (.pair (.int .i64) (.int .i64)))))], ren := [(3000000, some 3000000)] })], F := fun ρ j v nx => f81_l1 k j v.1.2.1 v.1.2.2.1 v.1.2.2.2.2.1 v.2.1 nx }
def f81 (k : Nat) (a1 : Int) (a2 : Int) (a3 : Int) (a4 : (List ((Int × (Int × Int)) × (Int × (Int × Int))))) : Option (Unit × ((List ((Int × (Int × Int)) × (Int × (Int × Int)))) × Unit)) :=
  f81_l1 k k a2 a3 a1 a4
    (fun x45 : (Unit × ((List ((Int × (Int × Int)) × (Int × (Int × Int)))) × Unit)) =>
      some ((), (x45.2.1, ())),
    fun x46 : (Unit × ((List ((Int × (Int × Int)) × (Int × (Int × Int)))) × Unit)) =>
      some ((), (x46.2.1, ())),
    ())
def ef81 : Entry := { id := 81, ar := { temps := [(0, .c (.row 3000000)), (1, .c (.int .i64)), (2, .c (.int .i64)), (3, .c (.int .i64)), (4, .c (.lit (.fn 36)))], blocks := [(3000000, .row 44 (.pair (.pair (.int .i64) (.pair (.int .i64) (.int .i64))) (.pair (.int .i64) (.pair (.int .i64) (.int .i64)))))], ren := [] }, res := { temps := [], blocks := [(3000000, .row 44 (.pair (.pair (.int .i64) (.pair (.int .i64) (.int .i64))) (.pair (.int .i64) (.pair (.int .i64) (.int .i64)))))], ren := [(3000000, some 3000000)] }, f := fun k v => f81 k v.1.2.1 v.1.2.2.1 v.1.2.2.2.1 v.2.1 }
def gf81 (k : Nat) : Full := { tt := tt, n := 82, fns := [ef36], trunc := [], tails := [], k := k, glob := glob, cuts := [(1, (cf81_l1 k))], joins := [(5, cf81_j5)] }
theorem of81_j5 (k : Nat) : JoinOk (gf81 k) cf81_j5 (theJoin Try.f81 5) := fun ρ v nx => by kernel_rfl
theorem of81_l1 (k : Nat) : CutOk (gf81 k) (cf81_l1 k) (theLoop Try.f81 1) := fun ρ v nx => ⟨by kernel_rfl, fun j => by kernel_rfl⟩
theorem qf81 (k : Nat) : AllP (bodyL (gf81 k) Try.f81) := by
  have h : (JoinOk (gf81 k) cf81_j5 (theJoin Try.f81 5) ∧ CutOk (gf81 k) (cf81_l1 k) (theLoop Try.f81 1) ∧ True) = AllP (bodyL (gf81 k) Try.f81) := by kernel_rfl
  exact Eq.mp h (And.intro (of81_j5 k) (And.intro (of81_l1 k) (trivial)))
theorem sf81 : Sound Try.prog glob ef81 := sound_of base (fn := Try.f81) Try.func81 (by kernel_rfl) gf81 (fun _ => ⟨rfl, rfl⟩) (fun k j => ⟨sf36.at j, trivial⟩) qf81 (fun k v => by kernel_rfl)

/-! impl.Point] -/
def f58_l4 {ρ : Type} (k : Nat) : Nat → Int → Int → Int → Int → (List ((Int × (Int × Int)) × (Int × (Int × Int)))) → ((((Unit × Unit × Int × Int × Int × Unit) × ((List ((Int × (Int × Int)) × (Int × (Int × Int)))) × Unit)) → Option ρ) × Unit) → Option ρ
  | 0, _, _, _, _, _, _ => none
  | j + 1, v27, v28, v29, v30, v31, nx =>
    bif (decide (v30 ≥ 0)) then
      (f81 k v30 v29 v27 v31).bind fun x32 =>
      f58_l4 k j v27 v28 v29 (wr .i64 (v30 - 1)) x32.2.1 nx
    else
      nx.1 (((), (), v27, v28, v29, ()), (v31, ()))
def cf58_l4 (k : Nat) : Cut := { sp := { temps := [(0, .c (.lit (.row 3000000))), (3, .c (.lit (.fn 36))), (8, .c (.int .i64)), (9, .c (.int .i64)), (10, .c (.int .i64)), (11, .c (.int .i64))], blocks := [(3000000, .row 44 (.pair (.pair (.int .i64) (.pair (.int .i64) (.int .i64))) (.pair (.int .i64) (.pair (.int .i64) (.int .i64)))))], ren := [(3000000, some 3000000)] }, outs := [(.exit 0, { temps := [(0, .c (.lit (.row 3000000))), (3, .c (.lit (.fn 36))), (8, .c (.int .i64)), (9, .c (.int .i64)), (10, .c (.int .i64))], blocks := [(3000000, .row 44 (.pair (.pair (.int .i64) (.pair (.int .i64) (.int .i64))) (.pair (.int .i64) (.pair (.int .i64) (.int .i64)))))], ren := [(3000000, some 3000000)] })], F := fun ρ j v nx => f58_l4 k j v.1.2.2.1 v.1.2.2.2.1 v.1.2.2.2.2.1 v.1.2.2.2.2.2.1 v.2.1 nx }
def f58_l8 {ρ : Type} (k : Nat) : Nat → Int → Int → Int → (List ((Int × (Int × Int)) × (Int × (Int × Int)))) → (((Unit × ((List ((Int × (Int × Int)) × (Int × (Int × Int)))) × Unit)) → Option ρ) × Unit) → Option ρ
  | 0, _, _, _, _, _ => none
  | j + 1, v33, v34, v35, v36, nx =>
    bif (decide (v35 ≥ 0)) then
      bif decide (0 ≤ (wr .i64 (v33 + v35))) && decide ((wr .i64 (v33 + v35)) < (v36.length : Int)) then
        (v36[(wr .i64 (v33 + v35)).toNat]?).bind fun x37 =>
        bif decide (0 ≤ v33) && decide (v33 < (v36.length : Int)) then
          (v36[v33.toNat]?).bind fun x38 =>
          bif decide (0 ≤ v33) && decide (v33 < (v36.length : Int)) then
            (v36[v33.toNat]?).bind fun _ =>
            bif decide (0 ≤ (wr .i64 (v33 + v35))) && decide ((wr .i64 (v33 + v35)) < ((v36.set v33.toNat x37).length : Int)) then
              ((v36.set v33.toNat x37)[(wr .i64 (v33 + v35)).toNat]?).bind fun _ =>
              let x41 : (List ((Int × (Int × Int)) × (Int × (Int × Int)))) := ((v36.set v33.toNat x37).set (wr .i64 (v33 + v35)).toNat x38)
              (f81 k v34 v35 v33 x41).bind fun x42 =>
              f58_l8 k j v33 v34 (wr .i64 (v35 - 1)) x42.2.1 nx
            else
              none
          else
            none
        else
          none
      else
        none
    else
      nx.1 ((), (v36, ()))
def cf58_l8 (k : Nat) : Cut := { sp := { temps := [(0, .c (.lit (.row 3000000))), (3, .c (.lit (.fn 36))), (8, .c (.int .i64)), (9, .c (.int .i64)), (12, .c (.int .i64))], blocks := [(3000000, .row 44 (.pair (.pair (.int .i64) (.pair (.int .i64) (.int .i64))) (.pair (.int .i64) (.pair (.int .i64) (.int .i64)))))], ren := [(3000000, some 3000000)] }, outs := [(.exit 2, { temps := [], blocks := [(3000000, .row 44 (.pair (.pair (.int .i64) (.pair (.int .i64) (.int .i64))) (.pair (.int .i64) (.pair (.int .i64) (.int .i64)))))], ren := [(3000000, some 3000000)] })], F := fun ρ j v nx => f58_l8 k j v.1.2.2.1 v.1.2.2.2.1 v.1.2.2.2.2.1 v.2.1 nx }
def f58 (k : Nat) (a1 : Int) (a2 : Int) (a3 : (List ((Int × (Int × Int)) × (Int × (Int × Int))))) : Option (Unit × ((List ((Int × (Int × Int)) × (Int × (Int × Int)))) × Unit)) :=
  let x24 : Int := (wr .i64 ((wr .i64 ((wr .i64 (a2 - a1)) - 1)).tdiv 2))
  f58_l4 k k a1 0 (wr .i64 (a2 - a1)) x24 a3
    (fun x25 : ((Unit × Unit × Int × Int × Int × Unit) × ((List ((Int × (Int × Int)) × (Int × (Int × Int)))) × Unit)) =>
      f58_l8 k k x25.1.2.2.1 x25.1.2.2.2.1 (wr .i64 (x25.1.2.2.2.2.1 - 1)) x25.2.1
        (fun x26 : (Unit × ((List ((Int × (Int × Int)) × (Int × (Int × Int)))) × Unit)) =>
          some ((), (x26.2.1, ())),
        ()),
    ())
def ef58 : Entry := { id := 58, ar := { temps := [(0, .c (.row 3000000)), (1, .c (.int .i64)), (2, .c (.int .i64)), (3, .c (.lit (.fn 36)))], blocks := [(3000000, .row 44 (.pair (.pair (.int .i64) (.pair (.int .i64) (.int .i64))) (.pair (.int .i64) (.pair (.int .i64) (.int .i64)))))], ren := [] }, res := { temps := [], blocks := [(3000000, .row 44 (.pair (.pair (.int .i64) (.pair (.int .i64) (.int .i64))) (.pair (.int .i64) (.pair (.int .i64) (.int .i64)))))], ren := [(3000000, some 3000000)] }, f := fun k v => f58 k v.1.2.1 v.1.2.2.1 v.2.1 }
def gf58 (k : Nat) : Full := { tt := tt, n := 60, fns := [ef81], trunc := [], tails := [], k := k, glob := glob, cuts := [(4, (cf58_l4 k)), (8, (cf58_l8 k))], joins := [] }
theorem of58_l4 (k : Nat) : CutOk (gf58 k) (cf58_l4 k) (theLoop Try.f58 4) := fun ρ v nx => ⟨by kernel_rfl, fun j => by kernel_rfl⟩
theorem of58_l8 (k : Nat) : CutOk (gf58 k) (cf58_l8 k) (theLoop Try.f58 8) := fun ρ v nx => ⟨by kernel_rfl, fun j => by kernel_rfl⟩
theorem qf58 (k : Nat) : AllP (bodyL (gf58 k) Try.f58) := by
  have h : (CutOk (gf58 k) (cf58_l4 k) (theLoop Try.f58 4) ∧ CutOk (gf58 k) (cf58_l8 k) (theLoop Try.f58 8) ∧ True) = AllP (bodyL (gf58 k) Try.f58) := by kernel_rfl
  exact Eq.mp h (And.intro (of58_l4 k) (And.intro (of58_l8 k) (trivial)))
theorem sf58 : Sound Try.prog glob ef58 := sound_of base (fn := Try.f58) Try.func58 (by kernel_rfl) gf58 (fun _ => ⟨rfl, rfl⟩) (fun k j => ⟨sf81.at j, trivial⟩) qf58 (fun k v => by kernel_rfl)

/-! slices.nextPowerOfTwo -/
def f82 (k : Nat) (a1 : Int) : Option ((Int × Unit) × Unit) :=
  (f49 k (wr .u64 a1)).bind fun x2 =>
  bif decide (x2.1.1 < 0) then
    none
  else
    some (((ishl .u64 1 x2.1.1), ()), ())
def ef82 : Entry := { id := 82, ar := { temps := [(0, .c (.int .i64))], blocks := [], ren := [] }, res := { temps := [(0, .c (.int .u64))], blocks := [], ren := [] }, f := fun k v => f82 k v.1.1 }
def gf82 (k : Nat) : Full := { tt := tt, n := 7, fns := [ef49], trunc := [], tails := [], k := k, glob := glob, cuts := [], joins := [] }
theorem qf82 (k : Nat) : AllP (bodyL (gf82 k) Try.f82) := by
  have h : True = AllP (bodyL (gf82 k) Try.f82) := by kernel_rfl
  exact Eq.mp h trivial
theorem sf82 : Sound Try.prog glob ef82 := sound_of base (fn := Try.f82) Try.func82 (by kernel_rfl) gf82 (fun _ => ⟨rfl, rfl⟩) (fun k j => ⟨sf49.at j, trivial⟩) qf82 (fun k v => by kernel_rfl)

/-! (*slices.xorshift).Next -/
def f83 (k : Nat) (a1 : Int) : Option ((Int × Unit) × ((Int × Unit) × Unit)) :=
  let x3 : Int := (ishr .u64 (ixor .u64 a1 (ishl .u64 a1 13)) 7)
  let x4 : Int := (ixor .u64 (ixor .u64 a1 (ishl .u64 a1 13)) x3)
  some (((ixor .u64 x4 (ishl .u64 x4 17)), ()), (((ixor .u64 x4 (ishl .u64 x4 17)), ()), ()))
def ef83 : Entry := { id := 83, ar := { temps := [(0, .c (.box 3000000))], blocks := [(3000000, .box 110 [(.int .u64)])], ren := [] }, res := { temps := [(0, .c (.int .u64))], blocks := [(3000000, .box 110 [(.int .u64)])], ren := [(3000000, some 3000000)] }, f := fun k v => f83 k v.2.1.1 }
def gf83 (k : Nat) : Full := { tt := tt, n := 33, fns := [], trunc := [], tails := [], k := k, glob := glob, cuts := [], joins := [] }
theorem qf83 (k : Nat) : AllP (bodyL (gf83 k) Try.f83) := by
  have h : True = AllP (bodyL (gf83 k) Try.f83) := by kernel_rfl
  exact Eq.mp h trivial
theorem sf83 : Sound Try.prog glob ef83 := sound_of base (fn := Try.f83) Try.func83 (by kernel_rfl) gf83 (fun _ => ⟨rfl, rfl⟩) (fun k j => trivial) qf83 (fun k v => by kernel_rfl)

/-! impl.Point] -/
def f59_j10 {ρ : Type} (k : Nat) (v43 : Int) (v44 : Int) (v45 : Int) (v46 : Int) (v47 : Int) (v48 : (List ((Int × (Int × Int)) × (Int × (Int × Int))))) (v49 : Int) (nx : ((((Unit × Int × Int × Unit × Int × Int × Unit) × ((List ((Int × (Int × Int)) × (Int × (Int × Int)))) × (Int × Unit) × Unit)) → Option ρ) × Unit)) : Option ρ :=
  bif decide (0 ≤ (wr .i64 (v43 + v47))) && decide ((wr .i64 (v43 + v47)) < (v48.length : Int)) then
    (v48[(wr .i64 (v43 + v47)).toNat]?).bind fun x50 =>
    bif decide (0 ≤ v46) && decide (v46 < (v48.length : Int)) then
      (v48[v46.toNat]?).bind fun x51 =>
      bif decide (0 ≤ v46) && decide (v46 < (v48.length : Int)) then
        (v48[v46.toNat]?).bind fun _ =>
        bif decide (0 ≤ (wr .i64 (v43 + v47))) && decide ((wr .i64 (v43 + v47)) < ((v48.set v46.toNat x50).length : Int)) then
          ((v48.set v46.toNat x50)[(wr .i64 (v43 + v47)).toNat]?).bind fun _ =>
          let x54 : (List ((Int × (Int × Int)) × (Int × (Int × Int)))) := ((v48.set v46.toNat x50).set (wr .i64 (v43 + v47)).toNat x51)
          nx.1 (((), v43, v44, (), v45, v46, ()), (x54, (v49, ()), ()))
        else
          none
      else
        none
    else
      none
  else
    none
def cf59_j10 : Cut := { sp := { temps := [(0, .c (.lit (.row 3000000))), (1, .c (.int .i64)), (8, .c (.int .i64)), (9, .c (.box 5000000)), (10, .c (.int .u64)), (11, .c (.int .i64)), (12, .c (.int .i64))], blocks := [(3000000, .row 44 (.pair (.pair (.int .i64) (.pair (.int .i64) (.int .i64))) (.pair (.int .i64) (.pair (.int .i64) (.int .i64))))), (5000000, .box 110 [(.int .u64)])], ren := [(3000000, some 3000000)] }, outs := [(.normal, { temps := [(0, .c (.lit (.row 3000000))), (1, .c (.int .i64)), (8, .c (.int .i64)), (9, .c (.box 5000000)), (10, .c (.int .u64)), (11, .c (.int .i64))], blocks := [(3000000, .row 44 (.pair (.pair (.int .i64) (.pair (.int .i64) (.int .i64))) (.pair (.int .i64) (.pair (.int .i64) (.int .i64))))), (5000000, .box 110 [(.int .u64)])], ren := [(3000000, some 3000000)] })], F := fun ρ k v nx => f59_j10 k v.1.2.1 v.1.2.2.1 v.1.2.2.2.2.1 v.1.2.2.2.2.2.1 v.1.2.2.2.2.2.2.1 v.2.1 v.2.2.1.1 nx }
def f59_l5 {ρ : Type} (k : Nat) : Nat → Int → Int → Int → Int → (List ((Int × (Int × Int)) × (Int × (Int × Int)))) → Int → (((Unit × ((List ((Int × (Int × Int)) × (Int × (Int × Int)))) × Unit)) → Option ρ) × Unit) → Option ρ
  | 0, _, _, _, _, _, _, _ => none
  | j + 1, v31, v32, v33, v34, v35, v36, nx =>
    let x38 : Int := (wr .i64 (v31 + (wr .i64 ((wr .i64 (v32.tdiv 4)) * 2))))
    bif (decide (v34 ≤ (wr .i64 (x38 + 1)))) then
      (f83 k v36).bind fun x39 =>
      let x40 : Int := (wr .i64 (iand .u64 x39.1.1 (wr .u64 (v33 - 1))))
      bif (decide (x40 ≥ v32)) then
        f59_j10 k v31 v32 v33 v34 (wr .i64 (x40 - v32)) v35 x39.2.1.1
          (fun x41 : ((Unit × Int × Int × Unit × Int × Int × Unit) × ((List ((Int × (Int × Int)) × (Int × (Int × Int)))) × (Int × Unit) × Unit)) =>
            f59_l5 k j x41.1.2.1 x41.1.2.2.1 x41.1.2.2.2.2.1 (wr .i64 (x41.1.2.2.2.2.2.1 + 1)) x41.2.1 x41.2.2.1.1 nx,
          ())
      else
        f59_j10 k v31 v32 v33 v34 x40 v35 x39.2.1.1
          (fun x42 : ((Unit × Int × Int × Unit × Int × Int × Unit) × ((List ((Int × (Int × Int)) × (Int × (Int × Int)))) × (Int × Unit) × Unit)) =>
            f59_l5 k j x42.1.2.1 x42.1.2.2.1 x42.1.2.2.2.2.1 (wr .i64 (x42.1.2.2.2.2.2.1 + 1)) x42.2.1 x42.2.2.1.1 nx,
          ())
    else
      nx.1 ((), (v35, ()))
def cf59_l5 (k : Nat) : Cut := { sp := { temps := [(0, .c (.lit (.row 3000000))), (1, .c (.int .i64)), (8, .c (.int .i64)), (9, .c (.box 5000000)), (10, .c (.int .u64)), (11, .c (.int .i64))], blocks := [(3000000, .row 44 (.pair (.pair (.int .i64) (.pair (.int .i64) (.int .i64))) (.pair (.int .i64) (.pair (.int .i64) (.int .i64))))), (5000000, .box 110 [(.int .u64)])], ren := [(3000000, some 3000000)] }, outs := [(.exit 0, { temps := [], blocks := [(3000000, .row 44 (.pair (.pair (.int .i64) (.pair (.int .i64) (.int .i64))) (.pair (.int .i64) (.pair (.int .i64) (.int .i64)))))], ren := [(3000000, some 3000000)] })], F := fun ρ j v nx => f59_l5 k j v.1.2.1 v.1.2.2.1 v.1.2.2.2.2.1 v.1.2.2.2.2.2.1 v.2.1 v.2.2.1.1 nx }
def f59 (k : Nat) (a1 : Int) (a2 : Int) (a3 : (List ((Int × (Int × Int)) × (Int × (Int × Int))))) : Option (Unit × ((List ((Int × (Int × Int)) × (Int × (Int × Int)))) × Unit)) :=
  bif (decide ((wr .i64 (a2 - a1)) ≥ 8)) then
    (f82 k (wr .i64 (a2 - a1))).bind fun x28 =>
    let x29 : Int := (wr .i64 ((wr .i64 ((wr .i64 (a2 - a1)).tdiv 4)) * 2))
    f59_l5 k k a1 (wr .i64 (a2 - a1)) x28.1.1 (wr .i64 ((wr .i64 (a1 + x29)) - 1)) a3 (wr .u64 (wr .i64 (a2 - a1)))
      (fun x30 : (Unit × ((List ((Int × (Int × Int)) × (Int × (Int × Int)))) × Unit)) =>
        some ((), (x30.2.1, ())),
      ())
  else
    some ((), (a3, ()))
def ef59 : Entry := { id := 59, ar := { temps := [(0, .c (.row 3000000)), (1, .c (.int .i64)), (2, .c (.int .i64)), (3, .c (.lit (.fn 36)))], blocks := [(3000000, .row 44 (.pair (.pair (.int .i64) (.pair (.int .i64) (.int .i64))) (.pair (.int .i64) (.pair (.int .i64) (.int .i64)))))], ren := [] }, res := { temps := [], blocks := [(3000000, .row 44 (.pair (.pair (.int .i64) (.pair (.int .i64) (.int .i64))) (.pair (.int .i64) (.pair (.int .i64) (.int .i64)))))], ren := [(3000000, some 3000000)] }, f := fun k v => f59 k v.1.2.1 v.1.2.2.1 v.2.1 }
def gf59 (k : Nat) : Full := { tt := tt, n := 67, fns := [ef82, ef83], trunc := [], tails := [], k := k, glob := glob, cuts := [(5, (cf59_l5 k))], joins := [(10, cf59_j10)] }
theorem of59_j10 (k : Nat) : JoinOk (gf59 k) cf59_j10 (theJoin Try.f59 10) := fun ρ v nx => by kernel_rfl
theorem of59_l5 (k : Nat) : CutOk (gf59 k) (cf59_l5 k) (theLoop Try.f59 5) := fun ρ v nx => ⟨by kernel_rfl, fun j => by kernel_rfl⟩
theorem qf59 (k : Nat) : AllP (bodyL (gf59 k) Try.f59) := by
  have h : (JoinOk (gf59 k) cf59_j10 (theJoin Try.f59 10) ∧ CutOk (gf59 k) (cf59_l5 k) (theLoop Try.f59 5) ∧ True) = AllP (bodyL (gf59 k) Try.f59) := by kernel_rfl
  exact Eq.mp h (And.intro (of59_j10 k) (And.intro (of59_l5 k) (trivial)))
theorem sf59 : Sound Try.prog glob ef59 := sound_of base (fn := Try.f59) Try.func59 (by kernel_rfl) gf59 (fun _ => ⟨rfl, rfl⟩) (fun k j => ⟨sf82.at j, sf83.at j, trivial⟩) qf59 (fun k v => by kernel_rfl)

/-! impl.Point] -/
def f92 (k : Nat) (a1 : (List ((Int × (Int × Int)) × (Int × (Int × Int))))) (a2 : Int) (a3 : Int) (a4 : Int) : Option ((Int × Int × Unit) × ((Int × Unit) × Unit)) :=
  (getI a1 a3).bind fun x4 =>
  (getI a1 a2).bind fun x5 =>
  (f36 k x4.1.1 x4.1.2.1 x4.1.2.2 x4.2.1 x4.2.2.1 x4.2.2.2 x5.1.1 x5.1.2.1 x5.1.2.2 x5.2.1 x5.2.2.1 x5.2.2.2).bind fun x6 =>
  bif (decide (x6.1.1 < 0)) then
    some ((a3, a2, ()), (((wr .i64 (a4 + 1)), ()), ()))
  else
    some ((a2, a3, ()), ((a4, ()), ()))
def ef92 : Entry := { id := 92, ar := { temps := [(0, .c (.sl (.pair (.pair (.int .i64) (.pair (.int .i64) (.int .i64))) (.pair (.int .i64) (.pair (.int .i64) (.int .i64)))))), (1, .c (.int .i64)), (2, .c (.int .i64)), (3, .c (.box 3000000)), (4, .c (.lit (.fn 36)))], blocks := [(3000000, .box 3 [(.int .i64)])], ren := [] }, res := { temps := [(0, .c (.int .i64)), (1, .c (.int .i64))], blocks := [(3000000, .box 3 [(.int .i64)])], ren := [(3000000, some 3000000)] }, f := fun k v => f92 k v.1.1 v.1.2.1 v.1.2.2.1 v.2.1.1 }
def gf92 (k : Nat) : Full := { tt := tt, n := 32, fns := [ef36], trunc := [], tails := [], k := k, glob := glob, cuts := [], joins := [] }
theorem qf92 (k : Nat) : AllP (bodyL (gf92 k) Try.f92) := by
  have h : True = AllP (bodyL (gf92 k) Try.f92) := by kernel_rfl
  exact Eq.mp h trivial
theorem sf92 : Sound Try.prog glob ef92 := sound_of base (fn := Try.f92) Try.func92 (by kernel_rfl) gf92 (fun _ => ⟨rfl, rfl⟩) (fun k j => ⟨sf36.at j, trivial⟩) qf92 (fun k v => by kernel_rfl)

/-! impl.Point] -/
def f85 (k : Nat) (a1 : (List ((Int × (Int × Int)) × (Int × (Int × Int))))) (a2 : Int) (a3 : Int) (a4 : Int) (a5 : Int) : Option ((Int × Unit) × ((Int × Unit) × Unit)) :=
  (f92 k a1 a2 a3 a5).bind fun x4 =>
  (f92 k a1 x4.1.2.1 a4 x4.2.1.1).bind fun x5 =>
  (f92 k a1 x4.1.1 x5.1.1 x5.2.1.1).bind fun x6 =>
  some ((x6.1.2.1, ()), ((x6.2.1.1, ()), ()))
def ef85 : Entry := { id := 85, ar := { temps := [(0, .c (.sl (.pair (.pair (.int .i64) (.pair (.int .i64) (.int .i64))) (.pair (.int .i64) (.pair (.int .i64) (.int .i64)))))), (1, .c (.int .i64)), (2, .c (.int .i64)), (3, .c (.int .i64)), (4, .c (.box 3000000)), (5, .c (.lit (.fn 36)))], blocks := [(3000000, .box 3 [(.int .i64)])], ren := [] }, res := { temps := [(0, .c (.int .i64))], blocks := [(3000000, .box 3 [(.int .i64)])], ren := [(3000000, some 3000000)] }, f := fun k v => f85 k v.1.1 v.1.2.1 v.1.2.2.1 v.1.2.2.2.1 v.2.1.1 }
def gf85 (k : Nat) : Full := { tt := tt, n := 41, fns := [ef92], trunc := [], tails := [], k := k, glob := glob, cuts := [], joins := [] }
theorem qf85 (k : Nat) : AllP (bodyL (gf85 k) Try.f85) := by
  have h : True = AllP (bodyL (gf85 k) Try.f85) := by kernel_rfl
  exact Eq.mp h trivial
theorem sf85 : Sound Try.prog glob ef85 := sound_of base (fn := Try.f85) Try.func85 (by kernel_rfl) gf85 (fun _ => ⟨rfl, rfl⟩) (fun k j => ⟨sf92.at j, trivial⟩) qf85 (fun k v => by kernel_rfl)

/-! impl.Point] -/
def f84 (k : Nat) (a1 : (List ((Int × (Int × Int)) × (Int × (Int × Int))))) (a2 : Int) (a3 : Int) : Option ((Int × Unit) × ((Int × Unit) × Unit)) :=
  (f85 k a1 (wr .i64 (a2 - 1)) a2 (wr .i64 (a2 + 1)) a3).bind fun x2 =>
  some ((x2.1.1, ()), ((x2.2.1.1, ()), ()))
def ef84 : Entry := { id := 84, ar := { temps := [(0, .c (.sl (.pair (.pair (.int .i64) (.pair (.int .i64) (.int .i64))) (.pair (.int .i64) (.pair (.int .i64) (.int .i64)))))), (1, .c (.int .i64)), (2, .c (.box 3000000)), (3, .c (.lit (.fn 36)))], blocks := [(3000000, .box 3 [(.int .i64)])], ren := [] }, res := { temps := [(0, .c (.int .i64))], blocks := [(3000000, .box 3 [(.int .i64)])], ren := [(3000000, some 3000000)] }, f := fun k v => f84 k v.1.1 v.1.2.1 v.2.1.1 }
def gf84 (k : Nat) : Full := { tt := tt, n := 18, fns := [ef85], trunc := [], tails := [], k := k, glob := glob, cuts := [], joins := [] }
theorem qf84 (k : Nat) : AllP (bodyL (gf84 k) Try.f84) := by
  have h : True = AllP (bodyL (gf84 k) Try.f84) := by kernel_rfl
  exact Eq.mp h trivial
theorem sf84 : Sound Try.prog glob ef84 := sound_of base (fn := Try.f84) Try.func84 (by kernel_rfl) gf84 (fun _ => ⟨rfl, rfl⟩) (fun k j => ⟨sf85.at j, trivial⟩) qf84 (fun k v => by kernel_rfl)

/-! impl.Point] -/
def f60_j12 {ρ : Type} (k : Nat) (v30 : Int) (v31 : Int) (nx : ((((Int × Int × Unit) × Unit) → Option ρ) × Unit)) : Option ρ :=
  bif (v31 == 0) then
    nx.1 ((v30, 1, ()), ())
  else
    bif (v31 == 12) then
      nx.1 ((v30, 2, ()), ())
    else
      nx.1 ((v30, 0, ()), ())
def cf60_j12 : Cut := { sp := { temps := [(11, .c (.box 5000000)), (13, .c (.int .i64))], blocks := [(5000000, .box 3 [(.int .i64)])], ren := [] }, outs := [(.ret, { temps := [(8, .c (.int .i64)), (9, .c (.int .i64))], blocks := [], ren := [] })], F := fun ρ k v nx => f60_j12 k v.1.2.1 v.2.1.1 nx }
def f60 (k : Nat) (a1 : (List ((Int × (Int × Int)) × (Int × (Int × Int))))) (a2 : Int) (a3 : Int) : Option ((Int × Int × Unit) × Unit) :=
  let x19 : Int := (wr .i64 ((wr .i64 ((wr .i64 (a3 - a2)).tdiv 4)) * 1))
  let x20 : Int := (wr .i64 ((wr .i64 ((wr .i64 (a3 - a2)).tdiv 4)) * 2))
  let x21 : Int := (wr .i64 ((wr .i64 ((wr .i64 (a3 - a2)).tdiv 4)) * 3))
  bif (decide ((wr .i64 (a3 - a2)) ≥ 8)) then
    bif (decide ((wr .i64 (a3 - a2)) ≥ 50)) then
      (f84 k a1 (wr .i64 (a2 + x19)) 0).bind fun x22 =>
      (f84 k a1 (wr .i64 (a2 + x20)) x22.2.1.1).bind fun x23 =>
      (f84 k a1 (wr .i64 (a2 + x21)) x23.2.1.1).bind fun x24 =>
      (f85 k a1 x22.1.1 x23.1.1 x24.1.1 x24.2.1.1).bind fun x25 =>
      f60_j12 k x25.1.1 x25.2.1.1
        (fun x26 : ((Int × Int × Unit) × Unit) =>
          some ((x26.1.1, x26.1.2.1, ()), ()),
        ())
    else
      (f85 k a1 (wr .i64 (a2 + x19)) (wr .i64 (a2 + x20)) (wr .i64 (a2 + x21)) 0).bind fun x27 =>
      f60_j12 k x27.1.1 x27.2.1.1
        (fun x28 : ((Int × Int × Unit) × Unit) =>
          some ((x28.1.1, x28.1.2.1, ()), ()),
        ())
  else
    f60_j12 k (wr .i64 (a2 + x20)) 0
      (fun x29 : ((Int × Int × Unit) × Unit) =>
        some ((x29.1.1, x29.1.2.1, ()), ()),
      ())
def ef60 : Entry := { id := 60, ar := { temps := [(0, .c (.sl (.pair (.pair (.int .i64) (.pair (.int .i64) (.int .i64))) (.pair (.int .i64) (.pair (.int .i64) (.int .i64)))))), (1, .c (.int .i64)), (2, .c (.int .i64)), (3, .c (.lit (.fn 36)))], blocks := [], ren := [] }, res := { temps := [(0, .c (.int .i64)), (1, .c (.int .i64))], blocks := [], ren := [] }, f := fun k v => f60 k v.1.1 v.1.2.1 v.1.2.2.1 }
def gf60 (k : Nat) : Full := { tt := tt, n := 63, fns := [ef84, ef85], trunc := [], tails := [], k := k, glob := glob, cuts := [], joins := [(12, cf60_j12)] }
theorem of60_j12 (k : Nat) : JoinOk (gf60 k) cf60_j12 (theJoin Try.f60 12) := fun ρ v nx => by kernel_rfl
theorem qf60 (k : Nat) : AllP (bodyL (gf60 k) Try.f60) := by
  have h : (JoinOk (gf60 k) cf60_j12 (theJoin Try.f60 12) ∧ True) = AllP (bodyL (gf60 k) Try.f60) := by kernel_rfl
  exact Eq.mp h (And.intro (of60_j12 k) (trivial))
theorem sf60 : Sound Try.prog glob ef60 := sound_of base (fn := Try.f60) Try.func60 (by kernel_rfl) gf60 (fun _ => ⟨rfl, rfl⟩) (fun k j => ⟨sf84.at j, sf85.at j, trivial⟩) qf60 (fun k v => by kernel_rfl)

/-! impl.Point] -/
def f61_l2 {ρ : Type} (k : Nat) : Nat → Int → Int → (List ((Int × (Int × Int)) × (Int × (Int × Int)))) → (((Unit × ((List ((Int × (Int × Int)) × (Int × (Int × Int)))) × Unit)) → Option ρ) × Unit) → Option ρ
  | 0, _, _, _, _ => none
  | j + 1, v10, v11, v12, nx =>
    bif (decide (v10 < v11)) then
      bif decide (0 ≤ v11) && decide (v11 < (v12.length : Int)) then
        (v12[v11.toNat]?).bind fun x13 =>
        bif decide (0 ≤ v10) && decide (v10 < (v12.length : Int)) then
          (v12[v10.toNat]?).bind fun x14 =>
          bif decide (0 ≤ v10) && decide (v10 < (v12.length : Int)) then
            (v12[v10.toNat]?).bind fun _ =>
            bif decide (0 ≤ v11) && decide (v11 < ((v12.set v10.toNat x13).length : Int)) then
              ((v12.set v10.toNat x13)[v11.toNat]?).bind fun _ =>
              f61_l2 k j (wr .i64 (v10 + 1)) (wr .i64 (v11 - 1)) ((v12.set v10.toNat x13).set v11.toNat x14) nx
            else
              none
          else
            none
        else
          none
      else
        none
    else
      nx.1 ((), (v12, ()))
def cf61_l2 (k : Nat) : Cut := { sp := { temps := [(0, .c (.lit (.row 3000000))), (8, .c (.int .i64)), (9, .c (.int .i64))], blocks := [(3000000, .row 44 (.pair (.pair (.int .i64) (.pair (.int .i64) (.int .i64))) (.pair (.int .i64) (.pair (.int .i64) (.int .i64)))))], ren := [(3000000, some 3000000)] }, outs := [(.exit 0, { temps := [], blocks := [(3000000, .row 44 (.pair (.pair (.int .i64) (.pair (.int .i64) (.int .i64))) (.pair (.int .i64) (.pair (.int .i64) (.int .i64)))))], ren := [(3000000, some 3000000)] })], F := fun ρ j v nx => f61_l2 k j v.1.2.1 v.1.2.2.1 v.2.1 nx }
def f61 (k : Nat) (a1 : Int) (a2 : Int) (a3 : (List ((Int × (Int × Int)) × (Int × (Int × Int))))) : Option (Unit × ((List ((Int × (Int × Int)) × (Int × (Int × Int)))) × Unit)) :=
  f61_l2 k k a1 (wr .i64 (a2 - 1)) a3
    (fun x9 : (Unit × ((List ((Int × (Int × Int)) × (Int × (Int × Int)))) × Unit)) =>
      some ((), (x9.2.1, ())),
    ())
def ef61 : Entry := { id := 61, ar := { temps := [(0, .c (.row 3000000)), (1, .c (.int .i64)), (2, .c (.int .i64)), (3, .c (.lit (.fn 36)))], blocks := [(3000000, .row 44 (.pair (.pair (.int .i64) (.pair (.int .i64) (.int .i64))) (.pair (.int .i64) (.pair (.int .i64) (.int .i64)))))], ren := [] }, res := { temps := [], blocks := [(3000000, .row 44 (.pair (.pair (.int .i64) (.pair (.int .i64) (.int .i64))) (.pair (.int .i64) (.pair (.int .i64) (.int .i64)))))], ren := [(3000000, some 3000000)] }, f := fun k v => f61 k v.1.2.1 v.1.2.2.1 v.2.1 }
def gf61 (k : Nat) : Full := { tt := tt, n := 34, fns := [], trunc := [], tails := [], k := k, glob := glob, cuts := [(2, (cf61_l2 k))], joins := [] }
theorem of61_l2 (k : Nat) : CutOk (gf61 k) (cf61_l2 k) (theLoop Try.f61 2) := fun ρ v nx => ⟨by kernel_rfl, fun j => by kernel_rfl⟩
theorem qf61 (k : Nat) : AllP (bodyL (gf61 k) Try.f61) := by
  have h : (CutOk (gf61 k) (cf61_l2 k) (theLoop Try.f61 2) ∧ True) = AllP (bodyL (gf61 k) Try.f61) := by kernel_rfl
  exact Eq.mp h (And.intro (of61_l2 k) (trivial))
theorem sf61 : Sound Try.prog glob ef61 := sound_of base (fn := Try.f61) Try.func61 (by kernel_rfl) gf61 (fun _ => ⟨rfl, rfl⟩) (fun k j => trivial) qf61 (fun k v => by kernel_rfl)

/-! impl.Point] -/
def f62_l5 {ρ : Type} (k : Nat) : Nat → Int → Int → Int → Int → (List ((Int × (Int × Int)) × (Int × (Int × Int)))) → ((((Unit × Int × Int × Unit × Int × Int × Unit) × ((List ((Int × (Int × Int)) × (Int × (Int × Int)))) × Unit)) → Option ρ) × Unit) → Option ρ
  | 0, _, _, _, _, _, _ => none
  | j + 1, v73, v74, v75, v76, v77, nx =>
    bif (decide (v75 < v74)) then
      bif decide (0 ≤ v75) && decide (v75 < (v77.length : Int)) then
        (v77[v75.toNat]?).bind fun x78 =>
        bif decide (0 ≤ (wr .i64 (v75 - 1))) && decide ((wr .i64 (v75 - 1)) < (v77.length : Int)) then
          (v77[(wr .i64 (v75 - 1)).toNat]?).bind fun x79 =>
          (f36 k x78.1.1 x78.1.2.1 x78.1.2.2 x78.2.1 x78.2.2.1 x78.2.2.2 x79.1.1 x79.1.2.1 x79.1.2.2 x79.2.1 x79.2.2.1 x79.2.2.2).bind fun x80 =>
          bif (!(decide (x80.1.1 < 0))) then
            f62_l5 k j v73 v74 (wr .i64 (v75 + 1)) v76 v77 nx
          else
            nx.1 (((), v73, v74, (), v75, v76, ()), (v77, ()))
        else
          none
      else
        none
    else
      nx.1 (((), v73, v74, (), v75, v76, ()), (v77, ()))
def cf62_l5 (k : Nat) : Cut := { sp := { temps := [(0, .c (.lit (.row 3000000))), (1, .c (.int .i64)), (2, .c (.int .i64)), (3, .c (.lit (.fn 36))), (9, .c (.int .i64)), (10, .c (.int .i64))], blocks := [(3000000, .row 44 (.pair (.pair (.int .i64) (.pair (.int .i64) (.int .i64))) (.pair (.int .i64) (.pair (.int .i64) (.int .i64)))))], ren := [(3000000, some 3000000)] }, outs := [(.exit 2, { temps := [(0, .c (.lit (.row 3000000))), (1, .c (.int .i64)), (2, .c (.int .i64)), (3, .c (.lit (.fn 36))), (9, .c (.int .i64)), (10, .c (.int .i64))], blocks := [(3000000, .row 44 (.pair (.pair (.int .i64) (.pair (.int .i64) (.int .i64))) (.pair (.int .i64) (.pair (.int .i64) (.int .i64)))))], ren := [(3000000, some 3000000)] })], F := fun ρ j v nx => f62_l5 k j v.1.2.1 v.1.2.2.1 v.1.2.2.2.2.1 v.1.2.2.2.2.2.1 v.2.1 nx }
def f62_l14 {ρ : Type} (k : Nat) : Nat → Int → Int → Int → Int → Int → (List ((Int × (Int × Int)) × (Int × (Int × Int)))) → ((((Unit × Int × Int × Unit × Int × Int × Unit) × ((List ((Int × (Int × Int)) × (Int × (Int × Int)))) × Unit)) → Option ρ) × Unit) → Option ρ
  | 0, _, _, _, _, _, _, _ => none
  | j + 1, v81, v82, v83, v84, v85, v86, nx =>
    bif (decide (v85 ≥ 1)) then
      bif decide (0 ≤ v85) && decide (v85 < (v86.length : Int)) then
        (v86[v85.toNat]?).bind fun x90 =>
        bif decide (0 ≤ (wr .i64 (v85 - 1))) && decide ((wr .i64 (v85 - 1)) < (v86.length : Int)) then
          (v86[(wr .i64 (v85 - 1)).toNat]?).bind fun x91 =>
          (f36 k x90.1.1 x90.1.2.1 x90.1.2.2 x90.2.1 x90.2.2.1 x90.2.2.2 x91.1.1 x91.1.2.1 x91.1.2.2 x91.2.1 x91.2.2.1 x91.2.2.2).bind fun x92 =>
          bif (!(decide (x92.1.1 < 0))) then
            nx.1 (((), v81, v82, (), v83, v84, ()), (v86, ()))
          else
            bif decide (0 ≤ (wr .i64 (v85 - 1))) && decide ((wr .i64 (v85 - 1)) < (v86.length : Int)) then
              (v86[(wr .i64 (v85 - 1)).toNat]?).bind fun x93 =>
              bif decide (0 ≤ v85) && decide (v85 < (v86.length : Int)) then
                (v86[v85.toNat]?).bind fun x94 =>
                bif decide (0 ≤ v85) && decide (v85 < (v86.length : Int)) then
                  (v86[v85.toNat]?).bind fun _ =>
                  bif decide (0 ≤ (wr .i64 (v85 - 1))) && decide ((wr .i64 (v85 - 1)) < ((v86.set v85.toNat x93).length : Int)) then
                    ((v86.set v85.toNat x93)[(wr .i64 (v85 - 1)).toNat]?).bind fun _ =>
                    let x97 : (List ((Int × (Int × Int)) × (Int × (Int × Int)))) := ((v86.set v85.toNat x93).set (wr .i64 (v85 - 1)).toNat x94)
                    f62_l14 k j v81 v82 v83 v84 (wr .i64 (v85 - 1)) x97 nx
                  else
                    none
                else
                  none
              else
                none
            else
              none
        else
          none
      else
        none
    else
      nx.1 (((), v81, v82, (), v83, v84, ()), (v86, ()))
def cf62_l14 (k : Nat) : Cut := { sp := { temps := [(0, .c (.lit (.row 3000000))), (1, .c (.int .i64)), (2, .c (.int .i64)), (3, .c (.lit (.fn 36))), (9, .c (.int .i64)), (10, .c (.int .i64)), (11, .c (.int .i64))], blocks := [(3000000, .row 44 (.pair (.pair (.int .i64) (.pair (.int .i64) (.int .i64))) (.pair (.int .i64) (.pair (.int .i64) (.int .i64)))))], ren := [(3000000, some 3000000)] }, outs := [(.exit 4, { temps := [(0, .c (.lit (.row 3000000))), (1, .c (.int .i64)), (2, .c (.int .i64)), (3, .c (.lit (.fn 36))), (9, .c (.int .i64)), (10, .c (.int .i64))], blocks := [(3000000, .row 44 (.pair (.pair (.int .i64) (.pair (.int .i64) (.int .i64))) (.pair (.int .i64) (.pair (.int .i64) (.int .i64)))))], ren := [(3000000, some 3000000)] })], F := fun ρ j v nx => f62_l14 k j v.1.2.1 v.1.2.2.1 v.1.2.2.2.2.1 v.1.2.2.2.2.2.1 v.1.2.2.2.2.2.2.1 v.2.1 nx }
def f62_l20 {ρ : Type} (k : Nat) : Nat → Int → Int → Int → Int → Int → (List ((Int × (Int × Int)) × (Int × (Int × Int)))) → ((((Unit × Int × Int × Unit × Int × Int × Unit) × ((List ((Int × (Int × Int)) × (Int × (Int × Int)))) × Unit)) → Option ρ) × Unit) → Option ρ
  | 0, _, _, _, _, _, _, _ => none
  | j + 1, v98, v99, v100, v101, v102, v103, nx =>
    bif (decide (v102 < v99)) then
      bif decide (0 ≤ v102) && decide (v102 < (v103.length : Int)) then
        (v103[v102.toNat]?).bind fun x107 =>
        bif decide (0 ≤ (wr .i64 (v102 - 1))) && decide ((wr .i64 (v102 - 1)) < (v103.length : Int)) then
          (v103[(wr .i64 (v102 - 1)).toNat]?).bind fun x108 =>
          (f36 k x107.1.1 x107.1.2.1 x107.1.2.2 x107.2.1 x107.2.2.1 x107.2.2.2 x108.1.1 x108.1.2.1 x108.1.2.2 x108.2.1 x108.2.2.1 x108.2.2.2).bind fun x109 =>
          bif (!(decide (x109.1.1 < 0))) then
            nx.1 (((), v98, v99, (), v100, v101, ()), (v103, ()))
          else
            bif decide (0 ≤ (wr .i64 (v102 - 1))) && decide ((wr .i64 (v102 - 1)) < (v103.length : Int)) then
              (v103[(wr .i64 (v102 - 1)).toNat]?).bind fun x110 =>
              bif decide (0 ≤ v102) && decide (v102 < (v103.length : Int)) then
                (v103[v102.toNat]?).bind fun x111 =>
                bif decide (0 ≤ v102) && decide (v102 < (v103.length : Int)) then
                  (v103[v102.toNat]?).bind fun _ =>
                  bif decide (0 ≤ (wr .i64 (v102 - 1))) && decide ((wr .i64 (v102 - 1)) < ((v103.set v102.toNat x110).length : Int)) then
                    ((v103.set v102.toNat x110)[(wr .i64 (v102 - 1)).toNat]?).bind fun _ =>
                    let x114 : (List ((Int × (Int × Int)) × (Int × (Int × Int)))) := ((v103.set v102.toNat x110).set (wr .i64 (v102 - 1)).toNat x111)
                    f62_l20 k j v98 v99 v100 v101 (wr .i64 (v102 + 1)) x114 nx
                  else
                    none
                else
                  none
              else
                none
            else
              none
        else
          none
      else
        none
    else
      nx.1 (((), v98, v99, (), v100, v101, ()), (v103, ()))
def cf62_l20 (k : Nat) : Cut := { sp := { temps := [(0, .c (.lit (.row 3000000))), (1, .c (.int .i64)), (2, .c (.int .i64)), (3, .c (.lit (.fn 36))), (9, .c (.int .i64)), (10, .c (.int .i64)), (12, .c (.int .i64))], blocks := [(3000000, .row 44 (.pair (.pair (.int .i64) (.pair (.int .i64) (.int .i64))) (.pair (.int .i64) (.pair (.int .i64) (.int .i64)))))], ren := [(3000000, some 3000000)] }, outs := [(.exit 6, { temps := [(0, .c (.lit (.row 3000000))), (1, .c (.int .i64)), (2, .c (.int .i64)), (3, .c (.lit (.fn 36))), (9, .c (.int .i64)), (10, .c (.int .i64))], blocks := [(3000000, .row 44 (.pair (.pair (.int .i64) (.pair (.int .i64) (.int .i64))) (.pair (.int .i64) (.pair (.int .i64) (.int .i64)))))], ren := [(3000000, some 3000000)] })], F := fun ρ j v nx => f62_l20 k j v.1.2.1 v.1.2.2.1 v.1.2.2.2.2.1 v.1.2.2.2.2.2.1 v.1.2.2.2.2.2.2.1 v.2.1 nx }
def f62_j18 {ρ : Type} (k : Nat) (v133 : Int) (v134 : Int) (v135 : Int) (v136 : Int) (v137 : (List ((Int × (Int × Int)) × (Int × (Int × Int))))) (nx : ((((Unit × Int × Int × Unit × Int × Int × Unit) × ((List ((Int × (Int × Int)) × (Int × (Int × Int)))) × Unit)) → Option ρ) × Unit)) : Option ρ :=
  bif (decide ((wr .i64 (v134 - v135)) ≥ 2)) then
    f62_l20 k k v133 v134 v135 v136 (wr .i64 (v135 + 1)) v137
      (fun x138 : ((Unit × Int × Int × Unit × Int × Int × Unit) × ((List ((Int × (Int × Int)) × (Int × (Int × Int)))) × Unit)) =>
        nx.1 (((), x138.1.2.1, x138.1.2.2.1, (), x138.1.2.2.2.2.1, x138.1.2.2.2.2.2.1, ()), (x138.2.1, ())),
      ())
  else
    nx.1 (((), v133, v134, (), v135, v136, ()), (v137, ()))
def cf62_j18 : Cut := { sp := { temps := [(0, .c (.lit (.row 3000000))), (1, .c (.int .i64)), (2, .c (.int .i64)), (3, .c (.lit (.fn 36))), (9, .c (.int .i64)), (10, .c (.int .i64))], blocks := [(3000000, .row 44 (.pair (.pair (.int .i64) (.pair (.int .i64) (.int .i64))) (.pair (.int .i64) (.pair (.int .i64) (.int .i64)))))], ren := [(3000000, some 3000000)] }, outs := [(.normal, { temps := [(0, .c (.lit (.row 3000000))), (1, .c (.int .i64)), (2, .c (.int .i64)), (3, .c (.lit (.fn 36))), (9, .c (.int .i64)), (10, .c (.int .i64))], blocks := [(3000000, .row 44 (.pair (.pair (.int .i64) (.pair (.int .i64) (.int .i64))) (.pair (.int .i64) (.pair (.int .i64) (.int .i64)))))], ren := [(3000000, some 3000000)] })], F := fun ρ k v nx => f62_j18 k v.1.2.1 v.1.2.2.1 v.1.2.2.2.2.1 v.1.2.2.2.2.2.1 v.2.1 nx }
def f62_l3 {ρ : Type} (k : Nat) : Nat → Int → Int → Int → Int → (List ((Int × (Int × Int)) × (Int × (Int × Int)))) → (((Unit × ((List ((Int × (Int × Int)) × (Int × (Int × Int)))) × Unit)) → Option ρ) × (((Bool × Unit) × ((List ((Int × (Int × Int)) × (Int × (Int × Int)))) × Unit)) → Option ρ) × Unit) → Option ρ
  | 0, _, _, _, _, _, _ => none
  | j + 1, v115, v116, v117, v118, v119, nx =>
    bif (decide (v118 < 5)) then
      f62_l5 k k v115 v116 v117 v118 v119
        (fun x121 : ((Unit × Int × Int × Unit × Int × Int × Unit) × ((List ((Int × (Int × Int)) × (Int × (Int × Int)))) × Unit)) =>
          bif (x121.1.2.2.2.2.1 == x121.1.2.2.1) then
            nx.2.1 ((true, ()), (x121.2.1, ()))
          else
            let x123 : Bool := (decide ((wr .i64 (x121.1.2.2.1 - x121.1.2.1)) < 50))
            bif x123 then
              nx.2.1 ((false, ()), (x121.2.1, ()))
            else
              bif decide (0 ≤ (wr .i64 (x121.1.2.2.2.2.1 - 1))) && decide ((wr .i64 (x121.1.2.2.2.2.1 - 1)) < (x121.2.1.length : Int)) then
                (x121.2.1[(wr .i64 (x121.1.2.2.2.2.1 - 1)).toNat]?).bind fun x124 =>
                bif decide (0 ≤ x121.1.2.2.2.2.1) && decide (x121.1.2.2.2.2.1 < (x121.2.1.length : Int)) then
                  (x121.2.1[x121.1.2.2.2.2.1.toNat]?).bind fun x125 =>
                  bif decide (0 ≤ x121.1.2.2.2.2.1) && decide (x121.1.2.2.2.2.1 < (x121.2.1.length : Int)) then
                    (x121.2.1[x121.1.2.2.2.2.1.toNat]?).bind fun _ =>
                    bif decide (0 ≤ (wr .i64 (x121.1.2.2.2.2.1 - 1))) && decide ((wr .i64 (x121.1.2.2.2.2.1 - 1)) < ((x121.2.1.set x121.1.2.2.2.2.1.toNat x124).length : Int)) then
                      ((x121.2.1.set x121.1.2.2.2.2.1.toNat x124)[(wr .i64 (x121.1.2.2.2.2.1 - 1)).toNat]?).bind fun _ =>
                      let x128 : (List ((Int × (Int × Int)) × (Int × (Int × Int)))) := ((x121.2.1.set x121.1.2.2.2.2.1.toNat x124).set (wr .i64 (x121.1.2.2.2.2.1 - 1)).toNat x125)
                      let x129 : Bool := (decide ((wr .i64 (x121.1.2.2.2.2.1 - x121.1.2.1)) ≥ 2))
                      bif x129 then
                        f62_l14 k k x121.1.2.1 x121.1.2.2.1 x121.1.2.2.2.2.1 x121.1.2.2.2.2.2.1 (wr .i64 (x121.1.2.2.2.2.1 - 1)) x128
                          (fun x130 : ((Unit × Int × Int × Unit × Int × Int × Unit) × ((List ((Int × (Int × Int)) × (Int × (Int × Int)))) × Unit)) =>
                            f62_j18 k x130.1.2.1 x130.1.2.2.1 x130.1.2.2.2.2.1 x130.1.2.2.2.2.2.1 x130.2.1
                              (fun x131 : ((Unit × Int × Int × Unit × Int × Int × Unit) × ((List ((Int × (Int × Int)) × (Int × (Int × Int)))) × Unit)) =>
                                f62_l3 k j x131.1.2.1 x131.1.2.2.1 x131.1.2.2.2.2.1 (wr .i64 (x131.1.2.2.2.2.2.1 + 1)) x131.2.1 nx,
                              ()),
                          ())
                      else
                        f62_j18 k x121.1.2.1 x121.1.2.2.1 x121.1.2.2.2.2.1 x121.1.2.2.2.2.2.1 x128
                          (fun x132 : ((Unit × Int × Int × Unit × Int × Int × Unit) × ((List ((Int × (Int × Int)) × (Int × (Int × Int)))) × Unit)) =>
                            f62_l3 k j x132.1.2.1 x132.1.2.2.1 x132.1.2.2.2.2.1 (wr .i64 (x132.1.2.2.2.2.2.1 + 1)) x132.2.1 nx,
                          ())
                    else
                      none
                  else
                    none
                else
                  none
              else
                none,
        ())
    else
      nx.1 ((), (v119, ()))
def cf62_l3 (k : Nat) : Cut := { sp := { temps := [(0, .c (.lit (.row 3000000))), (1, .c (.int .i64)), (2, .c (.int .i64)), (3, .c (.lit (.fn 36))), (9, .c (.int .i64)), (10, .c (.int .i64))], blocks := [(3000000, .row 44 (.pair (.pair (.int .i64) (.pair (.int .i64) (.int .i64))) (.pair (.int .i64) (.pair (.int .i64) (.int .i64)))))], ren := [(3000000, some 3000000)] }, outs := [(.exit 0, { temps := [], blocks := [(3000000, .row 44 (.pair (.pair (.int .i64) (.pair (.int .i64) (.int .i64))) (.pair (.int .i64) (.pair (.int .i64) (.int .i64)))))], ren := [(3000000, some 3000000)] }), (.ret, { temps := [(8, .c .bool)], blocks := [(3000000, .row 44 (.pair (.pair (.int .i64) (.pair (.int .i64) (.int .i64))) (.pair (.int .i64) (.pair (.int .i64) (.int .i64)))))], ren := [(3000000, some 3000000)] })], F := fun ρ j v nx => f62_l3 k j v.1.2.1 v.1.2.2.1 v.1.2.2.2.2.1 v.1.2.2.2.2.2.1 v.2.1 nx }
def f62 (k : Nat) (a1 : Int) (a2 : Int) (a3 : (List ((Int × (Int × Int)) × (Int × (Int × Int))))) : Option ((Bool × Unit) × ((List ((Int × (Int × Int)) × (Int × (Int × Int)))) × Unit)) :=
  f62_l3 k k a1 a2 (wr .i64 (a1 + 1)) 0 a3
    (fun x71 : (Unit × ((List ((Int × (Int × Int)) × (Int × (Int × Int)))) × Unit)) =>
      some ((false, ()), (x71.2.1, ())),
    fun x72 : ((Bool × Unit) × ((List ((Int × (Int × Int)) × (Int × (Int × Int)))) × Unit)) =>
      some ((x72.1.1, ()), (x72.2.1, ())),
    ())
def ef62 : Entry := { id := 62, ar := { temps := [(0, .c (.row 3000000)), (1, .c (.int .i64)), (2, .c (.int .i64)), (3, .c (.lit (.fn 36)))], blocks := [(3000000, .row 44 (.pair (.pair (.int .i64) (.pair (.int .i64) (.int .i64))) (.pair (.int .i64) (.pair (.int .i64) (.int .i64)))))], ren := [] }, res := { temps := [(0, .c .bool)], blocks := [(3000000, .row 44 (.pair (.pair (.int .i64) (.pair (.int .i64) (.int .i64))) (.pair (.int .i64) (.pair (.int .i64) (.int .i64)))))], ren := [(3000000, some 3000000)] }, f := fun k v => f62 k v.1.2.1 v.1.2.2.1 v.2.1 }
def gf62 (k : Nat) : Full := { tt := tt, n := 141, fns := [ef36], trunc := [], tails := [], k := k, glob := glob, cuts := [(5, (cf62_l5 k)), (14, (cf62_l14 k)), (20, (cf62_l20 k)), (3, (cf62_l3 k))], joins := [(18, cf62_j18)] }
theorem of62_l5 (k : Nat) : CutOk (gf62 k) (cf62_l5 k) (theLoop Try.f62 5) := fun ρ v nx => ⟨by kernel_rfl, fun j => by kernel_rfl⟩
theorem of62_l14 (k : Nat) : CutOk (gf62 k) (cf62_l14 k) (theLoop Try.f62 14) := fun ρ v nx => ⟨by kernel_rfl, fun j => by kernel_rfl⟩
theorem of62_l20 (k : Nat) : CutOk (gf62 k) (cf62_l20 k) (theLoop Try.f62 20) := fun ρ v nx => ⟨by kernel_rfl, fun j => by kernel_rfl⟩
theorem of62_j18 (k : Nat) : JoinOk (gf62 k) cf62_j18 (theJoin Try.f62 18) := fun ρ v nx => by kernel_rfl
theorem of62_l3 (k : Nat) : CutOk (gf62 k) (cf62_l3 k) (theLoop Try.f62 3) := fun ρ v nx => ⟨by kernel_rfl, fun j => by kernel_rfl⟩
theorem qf62 (k : Nat) : AllP (bodyL (gf62 k) Try.f62) := by
  have h : (CutOk (gf62 k) (cf62_l5 k) (theLoop Try.f62 5) ∧ CutOk (gf62 k) (cf62_l14 k) (theLoop Try.f62 14) ∧ CutOk (gf62 k) (cf62_l20 k) (theLoop Try.f62 20) ∧ JoinOk (gf62 k) cf62_j18 (theJoin Try.f62 18) ∧ CutOk (gf62 k) (cf62_l3 k) (theLoop Try.f62 3) ∧ True) = AllP (bodyL (gf62 k) Try.f62) := by kernel_rfl
  exact Eq.mp h (And.intro (of62_l5 k) (And.intro (of62_l14 k) (And.intro (of62_l20 k) (And.intro (of62_j18 k) (And.intro (of62_l3 k) (trivial))))))
theorem sf62 : Sound Try.prog glob ef62 := sound_of base (fn := Try.f62) Try.func62 (by kernel_rfl) gf62 (fun _ => ⟨rfl, rfl⟩) (fun k j => ⟨sf36.at j, trivial⟩) qf62 (fun k v => by kernel_rfl)

/-! impl.Point] -/
def f63_l3 {ρ : Type} (k : Nat) : Nat → Int → Int → Int → (List ((Int × (Int × Int)) × (Int × (Int × Int)))) → ((((Unit × Int × Unit × Int × Int × Unit) × ((List ((Int × (Int × Int)) × (Int × (Int × Int)))) × Unit)) → Option ρ) × Unit) → Option ρ
  | 0, _, _, _, _, _ => none
  | j + 1, v38, v39, v40, v41, nx =>
    bif (decide (v39 ≤ v40)) then
      bif decide (0 ≤ v38) && decide (v38 < (v41.length : Int)) then
        (v41[v38.toNat]?).bind fun x42 =>
        bif decide (0 ≤ v39) && decide (v39 < (v41.length : Int)) then
          (v41[v39.toNat]?).bind fun x43 =>
          (f36 k x42.1.1 x42.1.2.1 x42.1.2.2 x42.2.1 x42.2.2.1 x42.2.2.2 x43.1.1 x43.1.2.1 x43.1.2.2 x43.2.1 x43.2.2.1 x43.2.2.2).bind fun x44 =>
          bif (!(decide (x44.1.1 < 0))) then
            f63_l3 k j v38 (wr .i64 (v39 + 1)) v40 v41 nx
          else
            nx.1 (((), v38, (), v39, v40, ()), (v41, ()))
        else
          none
      else
        none
    else
      nx.1 (((), v38, (), v39, v40, ()), (v41, ()))
def cf63_l3 (k : Nat) : Cut := { sp := { temps := [(0, .c (.lit (.row 3000000))), (1, .c (.int .i64)), (4, .c (.lit (.fn 36))), (11, .c (.int .i64)), (12, .c (.int .i64))], blocks := [(3000000, .row 44 (.pair (.pair (.int .i64) (.pair (.int .i64) (.int .i64))) (.pair (.int .i64) (.pair (.int .i64) (.int .i64)))))], ren := [(3000000, some 3000000)] }, outs := [(.exit 2, { temps := [(0, .c (.lit (.row 3000000))), (1, .c (.int .i64)), (4, .c (.lit (.fn 36))), (11, .c (.int .i64)), (12, .c (.int .i64))], blocks := [(3000000, .row 44 (.pair (.pair (.int .i64) (.pair (.int .i64) (.int .i64))) (.pair (.int .i64) (.pair (.int .i64) (.int .i64)))))], ren := [(3000000, some 3000000)] })], F := fun ρ j v nx => f63_l3 k j v.1.2.1 v.1.2.2.2.1 v.1.2.2.2.2.1 v.2.1 nx }
def f63_l5 {ρ : Type} (k : Nat) : Nat → Int → Int → Int → (List ((Int × (Int × Int)) × (Int × (Int × Int)))) → ((((Unit × Int × Unit × Int × Int × Unit) × ((List ((Int × (Int × Int)) × (Int × (Int × Int)))) × Unit)) → Option ρ) × Unit) → Option ρ
  | 0, _, _, _, _, _ => none
  | j + 1, v45, v46, v47, v48, nx =>
    bif (decide (v46 ≤ v47)) then
      bif decide (0 ≤ v45) && decide (v45 < (v48.length : Int)) then
        (v48[v45.toNat]?).bind fun x49 =>
        bif decide (0 ≤ v47) && decide (v47 < (v48.length : Int)) then
          (v48[v47.toNat]?).bind fun x50 =>
          (f36 k x49.1.1 x49.1.2.1 x49.1.2.2 x49.2.1 x49.2.2.1 x49.2.2.2 x50.1.1 x50.1.2.1 x50.1.2.2 x50.2.1 x50.2.2.1 x50.2.2.2).bind fun x51 =>
          bif (decide (x51.1.1 < 0)) then
            f63_l5 k j v45 v46 (wr .i64 (v47 - 1)) v48 nx
          else
            nx.1 (((), v45, (), v46, v47, ()), (v48, ()))
        else
          none
      else
        none
    else
      nx.1 (((), v45, (), v46, v47, ()), (v48, ()))
def cf63_l5 (k : Nat) : Cut := { sp := { temps := [(0, .c (.lit (.row 3000000))), (1, .c (.int .i64)), (4, .c (.lit (.fn 36))), (11, .c (.int .i64)), (12, .c (.int .i64))], blocks := [(3000000, .row 44 (.pair (.pair (.int .i64) (.pair (.int .i64) (.int .i64))) (.pair (.int .i64) (.pair (.int .i64) (.int .i64)))))], ren := [(3000000, some 3000000)] }, outs := [(.exit 4, { temps := [(0, .c (.lit (.row 3000000))), (1, .c (.int .i64)), (4, .c (.lit (.fn 36))), (11, .c (.int .i64)), (12, .c (.int .i64))], blocks := [(3000000, .row 44 (.pair (.pair (.int .i64) (.pair (.int .i64) (.int .i64))) (.pair (.int .i64) (.pair (.int .i64) (.int .i64)))))], ren := [(3000000, some 3000000)] })], F := fun ρ j v nx => f63_l5 k j v.1.2.1 v.1.2.2.2.1 v.1.2.2.2.2.1 v.2.1 nx }
def f63_l100003 {ρ : Type} (k : Nat) : Nat → Int → Int → Int → (List ((Int × (Int × Int)) × (Int × (Int × Int)))) → ((((Int × Unit) × ((List ((Int × (Int × Int)) × (Int × (Int × Int)))) × Unit)) → Option ρ) × Unit) → Option ρ
  | 0, _, _, _, _, _ => none
  | j + 1, v52, v53, v54, v55, nx =>
    f63_l3 k k v52 v53 v54 v55
      (fun x57 : ((Unit × Int × Unit × Int × Int × Unit) × ((List ((Int × (Int × Int)) × (Int × (Int × Int)))) × Unit)) =>
        f63_l5 k k x57.1.2.1 x57.1.2.2.2.1 x57.1.2.2.2.2.1 x57.2.1
          (fun x59 : ((Unit × Int × Unit × Int × Int × Unit) × ((List ((Int × (Int × Int)) × (Int × (Int × Int)))) × Unit)) =>
            bif (decide (x59.1.2.2.2.1 > x59.1.2.2.2.2.1)) then
              nx.1 ((x59.1.2.2.2.1, ()), (x59.2.1, ()))
            else
              bif decide (0 ≤ x59.1.2.2.2.2.1) && decide (x59.1.2.2.2.2.1 < (x59.2.1.length : Int)) then
                (x59.2.1[x59.1.2.2.2.2.1.toNat]?).bind fun x60 =>
                bif decide (0 ≤ x59.1.2.2.2.1) && decide (x59.1.2.2.2.1 < (x59.2.1.length : Int)) then
                  (x59.2.1[x59.1.2.2.2.1.toNat]?).bind fun x61 =>
                  bif decide (0 ≤ x59.1.2.2.2.1) && decide (x59.1.2.2.2.1 < (x59.2.1.length : Int)) then
                    (x59.2.1[x59.1.2.2.2.1.toNat]?).bind fun _ =>
                    bif decide (0 ≤ x59.1.2.2.2.2.1) && decide (x59.1.2.2.2.2.1 < ((x59.2.1.set x59.1.2.2.2.1.toNat x60).length : Int)) then
                      ((x59.2.1.set x59.1.2.2.2.1.toNat x60)[x59.1.2.2.2.2.1.toNat]?).bind fun _ =>
                      let x64 : (List ((Int × (Int × Int)) × (Int × (Int × Int)))) := ((x59.2.1.set x59.1.2.2.2.1.toNat x60).set x59.1.2.2.2.2.1.toNat x61)
                      f63_l100003 k j x59.1.2.1 (wr .i64 (x59.1.2.2.2.1 + 1)) (wr .i64 (x59.1.2.2.2.2.1 - 1)) x64 nx
                    else
                      none
                  else
                    none
                else
                  none
              else
                none,
          ()),
      ())
def cf63_l100003 (k : Nat) : Cut := { sp := { temps := [(0, .c (.lit (.row 3000000))), (1, .c (.int .i64)), (4, .c (.lit (.fn 36))), (11, .c (.int .i64)), (12, .c (.int .i64))], blocks := [(3000000, .row 44 (.pair (.pair (.int .i64) (.pair (.int .i64) (.int .i64))) (.pair (.int .i64) (.pair (.int .i64) (.int .i64)))))], ren := [(3000000, some 3000000)] }, outs := [(.exit 0, { temps := [(11, .c (.int .i64))], blocks := [(3000000, .row 44 (.pair (.pair (.int .i64) (.pair (.int .i64) (.int .i64))) (.pair (.int .i64) (.pair (.int .i64) (.int .i64)))))], ren := [(3000000, some 3000000)] })], F := fun ρ j v nx => f63_l100003 k j v.1.2.1 v.1.2.2.2.1 v.1.2.2.2.2.1 v.2.1 nx }
def f63 (k : Nat) (a1 : Int) (a2 : Int) (a3 : Int) (a4 : (List ((Int × (Int × Int)) × (Int × (Int × Int))))) : Option ((Int × Unit) × ((List ((Int × (Int × Int)) × (Int × (Int × Int)))) × Unit)) :=
  bif decide (0 ≤ a3) && decide (a3 < (a4.length : Int)) then
    (a4[a3.toNat]?).bind fun x33 =>
    bif decide (0 ≤ a1) && decide (a1 < (a4.length : Int)) then
      (a4[a1.toNat]?).bind fun x34 =>
      bif decide (0 ≤ a1) && decide (a1 < (a4.length : Int)) then
        (a4[a1.toNat]?).bind fun _ =>
        bif decide (0 ≤ a3) && decide (a3 < ((a4.set a1.toNat x33).length : Int)) then
          ((a4.set a1.toNat x33)[a3.toNat]?).bind fun _ =>
          f63_l100003 k k a1 (wr .i64 (a1 + 1)) (wr .i64 (a2 - 1)) ((a4.set a1.toNat x33).set a3.toNat x34)
            (fun x37 : ((Int × Unit) × ((List ((Int × (Int × Int)) × (Int × (Int × Int)))) × Unit)) =>
              some ((x37.1.1, ()), (x37.2.1, ())),
            ())
        else
          none
      else
        none
    else
      none
  else
    none
def ef63 : Entry := { id := 63, ar := { temps := [(0, .c (.row 3000000)), (1, .c (.int .i64)), (2, .c (.int .i64)), (3, .c (.int .i64)), (4, .c (.lit (.fn 36)))], blocks := [(3000000, .row 44 (.pair (.pair (.int .i64) (.pair (.int .i64) (.int .i64))) (.pair (.int .i64) (.pair (.int .i64) (.int .i64)))))], ren := [] }, res := { temps := [(0, .c (.int .i64))], blocks := [(3000000, .row 44 (.pair (.pair (.int .i64) (.pair (.int .i64) (.int .i64))) (.pair (.int .i64) (.pair (.int .i64) (.int .i64)))))], ren := [(3000000, some 3000000)] }, f := fun k v => f63 k v.1.2.1 v.1.2.2.1 v.1.2.2.2.1 v.2.1 }
def gf63 (k : Nat) : Full := { tt := tt, n := 90, fns := [ef36], trunc := [], tails := [], k := k, glob := glob, cuts := [(3, (cf63_l3 k)), (5, (cf63_l5 k)), (100003, (cf63_l100003 k))], joins := [] }
theorem of63_l3 (k : Nat) : CutOk (gf63 k) (cf63_l3 k) (theLoop Try.f63 3) := fun ρ v nx => ⟨by kernel_rfl, fun j => by kernel_rfl⟩
theorem of63_l5 (k : Nat) : CutOk (gf63 k) (cf63_l5 k) (theLoop Try.f63 5) := fun ρ v nx => ⟨by kernel_rfl, fun j => by kernel_rfl⟩
theorem of63_l100003 (k : Nat) : CutOk (gf63 k) (cf63_l100003 k) (theLoop Try.f63 100003) := fun ρ v nx => ⟨by kernel_rfl, fun j => by kernel_rfl⟩
theorem qf63 (k : Nat) : AllP (bodyL (gf63 k) Try.f63) := by
  have h : (CutOk (gf63 k) (cf63_l3 k) (theLoop Try.f63 3) ∧ CutOk (gf63 k) (cf63_l5 k) (theLoop Try.f63 5) ∧ CutOk (gf63 k) (cf63_l100003 k) (theLoop Try.f63 100003) ∧ True) = AllP (bodyL (gf63 k) Try.f63) := by kernel_rfl
  exact Eq.mp h (And.intro (of63_l3 k) (And.intro (of63_l5 k) (And.intro (of63_l100003 k) (trivial))))
theorem sf63 : Sound Try.prog glob ef63 := sound_of base (fn := Try.f63) Try.func63 (by kernel_rfl) gf63 (fun _ => ⟨rfl, rfl⟩) (fun k j => ⟨sf36.at j, trivial⟩) qf63 (fun k v => by kernel_rfl)

/-! impl.Point] -/
def f64_l3 {ρ : Type} (k : Nat) : Nat → Int → Int → Int → (List ((Int × (Int × Int)) × (Int × (Int × Int)))) → ((((Unit × Int × Unit × Int × Int × Unit) × ((List ((Int × (Int × Int)) × (Int × (Int × Int)))) × Unit)) → Option ρ) × Unit) → Option ρ
  | 0, _, _, _, _, _ => none
  | j + 1, v102, v103, v104, v105, nx =>
    bif (decide (v103 ≤ v104)) then
      bif decide (0 ≤ v103) && decide (v103 < (v105.length : Int)) then
        (v105[v103.toNat]?).bind fun x106 =>
        bif decide (0 ≤ v102) && decide (v102 < (v105.length : Int)) then
          (v105[v102.toNat]?).bind fun x107 =>
          (f36 k x106.1.1 x106.1.2.1 x106.1.2.2 x106.2.1 x106.2.2.1 x106.2.2.2 x107.1.1 x107.1.2.1 x107.1.2.2 x107.2.1 x107.2.2.1 x107.2.2.2).bind fun x108 =>
          bif (decide (x108.1.1 < 0)) then
            f64_l3 k j v102 (wr .i64 (v103 + 1)) v104 v105 nx
          else
            nx.1 (((), v102, (), v103, v104, ()), (v105, ()))
        else
          none
      else
        none
    else
      nx.1 (((), v102, (), v103, v104, ()), (v105, ()))
def cf64_l3 (k : Nat) : Cut := { sp := { temps := [(0, .c (.lit (.row 3000000))), (1, .c (.int .i64)), (4, .c (.lit (.fn 36))), (12, .c (.int .i64)), (13, .c (.int .i64))], blocks := [(3000000, .row 44 (.pair (.pair (.int .i64) (.pair (.int .i64) (.int .i64))) (.pair (.int .i64) (.pair (.int .i64) (.int .i64)))))], ren := [(3000000, some 3000000)] }, outs := [(.exit 0, { temps := [(0, .c (.lit (.row 3000000))), (1, .c (.int .i64)), (4, .c (.lit (.fn 36))), (12, .c (.int .i64)), (13, .c (.int .i64))], blocks := [(3000000, .row 44 (.pair (.pair (.int .i64) (.pair (.int .i64) (.int .i64))) (.pair (.int .i64) (.pair (.int .i64) (.int .i64)))))], ren := [(3000000, some 3000000)] })], F := fun ρ j v nx => f64_l3 k j v.1.2.1 v.1.2.2.2.1 v.1.2.2.2.2.1 v.2.1 nx }
def f64_l5 {ρ : Type} (k : Nat) : Nat → Int → Int → Int → (List ((Int × (Int × Int)) × (Int × (Int × Int)))) → ((((Unit × Int × Unit × Int × Int × Unit) × ((List ((Int × (Int × Int)) × (Int × (Int × Int)))) × Unit)) → Option ρ) × Unit) → Option ρ
  | 0, _, _, _, _, _ => none
  | j + 1, v109, v110, v111, v112, nx =>
    bif (decide (v110 ≤ v111)) then
      bif decide (0 ≤ v111) && decide (v111 < (v112.length : Int)) then
        (v112[v111.toNat]?).bind fun x113 =>
        bif decide (0 ≤ v109) && decide (v109 < (v112.length : Int)) then
          (v112[v109.toNat]?).bind fun x114 =>
          (f36 k x113.1.1 x113.1.2.1 x113.1.2.2 x113.2.1 x113.2.2.1 x113.2.2.2 x114.1.1 x114.1.2.1 x114.1.2.2 x114.2.1 x114.2.2.1 x114.2.2.2).bind fun x115 =>
          bif (!(decide (x115.1.1 < 0))) then
            f64_l5 k j v109 v110 (wr .i64 (v111 - 1)) v112 nx
          else
            nx.1 (((), v109, (), v110, v111, ()), (v112, ()))
        else
          none
      else
        none
    else
      nx.1 (((), v109, (), v110, v111, ()), (v112, ()))
def cf64_l5 (k : Nat) : Cut := { sp := { temps := [(0, .c (.lit (.row 3000000))), (1, .c (.int .i64)), (4, .c (.lit (.fn 36))), (12, .c (.int .i64)), (13, .c (.int .i64))], blocks := [(3000000, .row 44 (.pair (.pair (.int .i64) (.pair (.int .i64) (.int .i64))) (.pair (.int .i64) (.pair (.int .i64) (.int .i64)))))], ren := [(3000000, some 3000000)] }, outs := [(.exit 2, { temps := [(0, .c (.lit (.row 3000000))), (1, .c (.int .i64)), (4, .c (.lit (.fn 36))), (12, .c (.int .i64)), (13, .c (.int .i64))], blocks := [(3000000, .row 44 (.pair (.pair (.int .i64) (.pair (.int .i64) (.int .i64))) (.pair (.int .i64) (.pair (.int .i64) (.int .i64)))))], ren := [(3000000, some 3000000)] })], F := fun ρ j v nx => f64_l5 k j v.1.2.1 v.1.2.2.2.1 v.1.2.2.2.2.1 v.2.1 nx }
def f64_l13 {ρ : Type} (k : Nat) : Nat → Int → Int → Int → (List ((Int × (Int × Int)) × (Int × (Int × Int)))) → ((((Unit × Int × Unit × Int × Int × Unit) × ((List ((Int × (Int × Int)) × (Int × (Int × Int)))) × Unit)) → Option ρ) × Unit) → Option ρ
  | 0, _, _, _, _, _ => none
  | j + 1, v116, v117, v118, v119, nx =>
    bif (decide (v117 ≤ v118)) then
      bif decide (0 ≤ v117) && decide (v117 < (v119.length : Int)) then
        (v119[v117.toNat]?).bind fun x120 =>
        bif decide (0 ≤ v116) && decide (v116 < (v119.length : Int)) then
          (v119[v116.toNat]?).bind fun x121 =>
          (f36 k x120.1.1 x120.1.2.1 x120.1.2.2 x120.2.1 x120.2.2.1 x120.2.2.2 x121.1.1 x121.1.2.1 x121.1.2.2 x121.2.1 x121.2.2.1 x121.2.2.2).bind fun x122 =>
          bif (decide (x122.1.1 < 0)) then
            f64_l13 k j v116 (wr .i64 (v117 + 1)) v118 v119 nx
          else
            nx.1 (((), v116, (), v117, v118, ()), (v119, ()))
        else
          none
      else
        none
    else
      nx.1 (((), v116, (), v117, v118, ()), (v119, ()))
def cf64_l13 (k : Nat) : Cut := { sp := { temps := [(0, .c (.lit (.row 3000000))), (1, .c (.int .i64)), (4, .c (.lit (.fn 36))), (12, .c (.int .i64)), (13, .c (.int .i64))], blocks := [(3000000, .row 44 (.pair (.pair (.int .i64) (.pair (.int .i64) (.int .i64))) (.pair (.int .i64) (.pair (.int .i64) (.int .i64)))))], ren := [(3000000, some 3000000)] }, outs := [(.exit 6, { temps := [(0, .c (.lit (.row 3000000))), (1, .c (.int .i64)), (4, .c (.lit (.fn 36))), (12, .c (.int .i64)), (13, .c (.int .i64))], blocks := [(3000000, .row 44 (.pair (.pair (.int .i64) (.pair (.int .i64) (.int .i64))) (.pair (.int .i64) (.pair (.int .i64) (.int .i64)))))], ren := [(3000000, some 3000000)] })], F := fun ρ j v nx => f64_l13 k j v.1.2.1 v.1.2.2.2.1 v.1.2.2.2.2.1 v.2.1 nx }
def f64_l15 {ρ : Type} (k : Nat) : Nat → Int → Int → Int → (List ((Int × (Int × Int)) × (Int × (Int × Int)))) → ((((Unit × Int × Unit × Int × Int × Unit) × ((List ((Int × (Int × Int)) × (Int × (Int × Int)))) × Unit)) → Option ρ) × Unit) → Option ρ
  | 0, _, _, _, _, _ => none
  | j + 1, v123, v124, v125, v126, nx =>
    bif (decide (v124 ≤ v125)) then
      bif decide (0 ≤ v125) && decide (v125 < (v126.length : Int)) then
        (v126[v125.toNat]?).bind fun x127 =>
        bif decide (0 ≤ v123) && decide (v123 < (v126.length : Int)) then
          (v126[v123.toNat]?).bind fun x128 =>
          (f36 k x127.1.1 x127.1.2.1 x127.1.2.2 x127.2.1 x127.2.2.1 x127.2.2.2 x128.1.1 x128.1.2.1 x128.1.2.2 x128.2.1 x128.2.2.1 x128.2.2.2).bind fun x129 =>
          bif (!(decide (x129.1.1 < 0))) then
            f64_l15 k j v123 v124 (wr .i64 (v125 - 1)) v126 nx
          else
            nx.1 (((), v123, (), v124, v125, ()), (v126, ()))
        else
          none
      else
        none
    else
      nx.1 (((), v123, (), v124, v125, ()), (v126, ()))
def cf64_l15 (k : Nat) : Cut := { sp := { temps := [(0, .c (.lit (.row 3000000))), (1, .c (.int .i64)), (4, .c (.lit (.fn 36))), (12, .c (.int .i64)), (13, .c (.int .i64))], blocks := [(3000000, .row 44 (.pair (.pair (.int .i64) (.pair (.int .i64) (.int .i64))) (.pair (.int .i64) (.pair (.int .i64) (.int .i64)))))], ren := [(3000000, some 3000000)] }, outs := [(.exit 8, { temps := [(0, .c (.lit (.row 3000000))), (1, .c (.int .i64)), (4, .c (.lit (.fn 36))), (12, .c (.int .i64)), (13, .c (.int .i64))], blocks := [(3000000, .row 44 (.pair (.pair (.int .i64) (.pair (.int .i64) (.int .i64))) (.pair (.int .i64) (.pair (.int .i64) (.int .i64)))))], ren := [(3000000, some 3000000)] })], F := fun ρ j v nx => f64_l15 k j v.1.2.1 v.1.2.2.2.1 v.1.2.2.2.2.1 v.2.1 nx }
def f64_l100013 {ρ : Type} (k : Nat) : Nat → Int → Int → Int → (List ((Int × (Int × Int)) × (Int × (Int × Int)))) → ((((Unit × Int × Int × Unit) × ((List ((Int × (Int × Int)) × (Int × (Int × Int)))) × Unit)) → Option ρ) × Unit) → Option ρ
  | 0, _, _, _, _, _ => none
  | j + 1, v130, v131, v132, v133, nx =>
    f64_l13 k k v130 v131 v132 v133
      (fun x135 : ((Unit × Int × Unit × Int × Int × Unit) × ((List ((Int × (Int × Int)) × (Int × (Int × Int)))) × Unit)) =>
        f64_l15 k k x135.1.2.1 x135.1.2.2.2.1 x135.1.2.2.2.2.1 x135.2.1
          (fun x137 : ((Unit × Int × Unit × Int × Int × Unit) × ((List ((Int × (Int × Int)) × (Int × (Int × Int)))) × Unit)) =>
            bif (decide (x137.1.2.2.2.1 > x137.1.2.2.2.2.1)) then
              nx.1 (((), x137.1.2.1, x137.1.2.2.2.2.1, ()), (x137.2.1, ()))
            else
              bif decide (0 ≤ x137.1.2.2.2.2.1) && decide (x137.1.2.2.2.2.1 < (x137.2.1.length : Int)) then
                (x137.2.1[x137.1.2.2.2.2.1.toNat]?).bind fun x138 =>
                bif decide (0 ≤ x137.1.2.2.2.1) && decide (x137.1.2.2.2.1 < (x137.2.1.length : Int)) then
                  (x137.2.1[x137.1.2.2.2.1.toNat]?).bind fun x139 =>
                  bif decide (0 ≤ x137.1.2.2.2.1) && decide (x137.1.2.2.2.1 < (x137.2.1.length : Int)) then
                    (x137.2.1[x137.1.2.2.2.1.toNat]?).bind fun _ =>
                    bif decide (0 ≤ x137.1.2.2.2.2.1) && decide (x137.1.2.2.2.2.1 < ((x137.2.1.set x137.1.2.2.2.1.toNat x138).length : Int)) then
                      ((x137.2.1.set x137.1.2.2.2.1.toNat x138)[x137.1.2.2.2.2.1.toNat]?).bind fun _ =>
                      let x142 : (List ((Int × (Int × Int)) × (Int × (Int × Int)))) := ((x137.2.1.set x137.1.2.2.2.1.toNat x138).set x137.1.2.2.2.2.1.toNat x139)
                      f64_l100013 k j x137.1.2.1 (wr .i64 (x137.1.2.2.2.1 + 1)) (wr .i64 (x137.1.2.2.2.2.1 - 1)) x142 nx
                    else
                      none
                  else
                    none
                else
                  none
              else
                none,
          ()),
      ())
def cf64_l100013 (k : Nat) : Cut := { sp := { temps := [(0, .c (.lit (.row 3000000))), (1, .c (.int .i64)), (4, .c (.lit (.fn 36))), (12, .c (.int .i64)), (13, .c (.int .i64))], blocks := [(3000000, .row 44 (.pair (.pair (.int .i64) (.pair (.int .i64) (.int .i64))) (.pair (.int .i64) (.pair (.int .i64) (.int .i64)))))], ren := [(3000000, some 3000000)] }, outs := [(.exit 4, { temps := [(0, .c (.lit (.row 3000000))), (1, .c (.int .i64)), (13, .c (.int .i64))], blocks := [(3000000, .row 44 (.pair (.pair (.int .i64) (.pair (.int .i64) (.int .i64))) (.pair (.int .i64) (.pair (.int .i64) (.int .i64)))))], ren := [(3000000, some 3000000)] })], F := fun ρ j v nx => f64_l100013 k j v.1.2.1 v.1.2.2.2.1 v.1.2.2.2.2.1 v.2.1 nx }
def f64 (k : Nat) (a1 : Int) (a2 : Int) (a3 : Int) (a4 : (List ((Int × (Int × Int)) × (Int × (Int × Int))))) : Option ((Int × Bool × Unit) × ((List ((Int × (Int × Int)) × (Int × (Int × Int)))) × Unit)) :=
  bif decide (0 ≤ a3) && decide (a3 < (a4.length : Int)) then
    (a4[a3.toNat]?).bind fun x72 =>
    bif decide (0 ≤ a1) && decide (a1 < (a4.length : Int)) then
      (a4[a1.toNat]?).bind fun x73 =>
      bif decide (0 ≤ a1) && decide (a1 < (a4.length : Int)) then
        (a4[a1.toNat]?).bind fun _ =>
        bif decide (0 ≤ a3) && decide (a3 < ((a4.set a1.toNat x72).length : Int)) then
          ((a4.set a1.toNat x72)[a3.toNat]?).bind fun _ =>
          f64_l3 k k a1 (wr .i64 (a1 + 1)) (wr .i64 (a2 - 1)) ((a4.set a1.toNat x72).set a3.toNat x73)
            (fun x77 : ((Unit × Int × Unit × Int × Int × Unit) × ((List ((Int × (Int × Int)) × (Int × (Int × Int)))) × Unit)) =>
              f64_l5 k k x77.1.2.1 x77.1.2.2.2.1 x77.1.2.2.2.2.1 x77.2.1
                (fun x79 : ((Unit × Int × Unit × Int × Int × Unit) × ((List ((Int × (Int × Int)) × (Int × (Int × Int)))) × Unit)) =>
                  bif (decide (x79.1.2.2.2.1 > x79.1.2.2.2.2.1)) then
                    bif decide (0 ≤ x79.1.2.1) && decide (x79.1.2.1 < (x79.2.1.length : Int)) then
                      (x79.2.1[x79.1.2.1.toNat]?).bind fun x85 =>
                      bif decide (0 ≤ x79.1.2.2.2.2.1) && decide (x79.1.2.2.2.2.1 < (x79.2.1.length : Int)) then
                        (x79.2.1[x79.1.2.2.2.2.1.toNat]?).bind fun x86 =>
                        bif decide (0 ≤ x79.1.2.2.2.2.1) && decide (x79.1.2.2.2.2.1 < (x79.2.1.length : Int)) then
                          (x79.2.1[x79.1.2.2.2.2.1.toNat]?).bind fun _ =>
                          bif decide (0 ≤ x79.1.2.1) && decide (x79.1.2.1 < ((x79.2.1.set x79.1.2.2.2.2.1.toNat x85).length : Int)) then
                            ((x79.2.1.set x79.1.2.2.2.2.1.toNat x85)[x79.1.2.1.toNat]?).bind fun _ =>
                            let x89 : (List ((Int × (Int × Int)) × (Int × (Int × Int)))) := ((x79.2.1.set x79.1.2.2.2.2.1.toNat x85).set x79.1.2.1.toNat x86)
                            some ((x79.1.2.2.2.2.1, true, ()), (x89, ()))
                          else
                            none
                        else
                          none
                      else
                        none
                    else
                      none
                  else
                    bif decide (0 ≤ x79.1.2.2.2.2.1) && decide (x79.1.2.2.2.2.1 < (x79.2.1.length : Int)) then
                      (x79.2.1[x79.1.2.2.2.2.1.toNat]?).bind fun x90 =>
                      bif decide (0 ≤ x79.1.2.2.2.1) && decide (x79.1.2.2.2.1 < (x79.2.1.length : Int)) then
                        (x79.2.1[x79.1.2.2.2.1.toNat]?).bind fun x91 =>
                        bif decide (0 ≤ x79.1.2.2.2.1) && decide (x79.1.2.2.2.1 < (x79.2.1.length : Int)) then
                          (x79.2.1[x79.1.2.2.2.1.toNat]?).bind fun _ =>
                          bif decide (0 ≤ x79.1.2.2.2.2.1) && decide (x79.1.2.2.2.2.1 < ((x79.2.1.set x79.1.2.2.2.1.toNat x90).length : Int)) then
                            ((x79.2.1.set x79.1.2.2.2.1.toNat x90)[x79.1.2.2.2.2.1.toNat]?).bind fun _ =>
                            let x94 : (List ((Int × (Int × Int)) × (Int × (Int × Int)))) := ((x79.2.1.set x79.1.2.2.2.1.toNat x90).set x79.1.2.2.2.2.1.toNat x91)
                            f64_l100013 k k x79.1.2.1 (wr .i64 (x79.1.2.2.2.1 + 1)) (wr .i64 (x79.1.2.2.2.2.1 - 1)) x94
                              (fun x96 : ((Unit × Int × Int × Unit) × ((List ((Int × (Int × Int)) × (Int × (Int × Int)))) × Unit)) =>
                                bif decide (0 ≤ x96.1.2.1) && decide (x96.1.2.1 < (x96.2.1.length : Int)) then
                                  (x96.2.1[x96.1.2.1.toNat]?).bind fun x97 =>
                                  bif decide (0 ≤ x96.1.2.2.1) && decide (x96.1.2.2.1 < (x96.2.1.length : Int)) then
                                    (x96.2.1[x96.1.2.2.1.toNat]?).bind fun x98 =>
                                    bif decide (0 ≤ x96.1.2.2.1) && decide (x96.1.2.2.1 < (x96.2.1.length : Int)) then
                                      (x96.2.1[x96.1.2.2.1.toNat]?).bind fun _ =>
                                      bif decide (0 ≤ x96.1.2.1) && decide (x96.1.2.1 < ((x96.2.1.set x96.1.2.2.1.toNat x97).length : Int)) then
                                        ((x96.2.1.set x96.1.2.2.1.toNat x97)[x96.1.2.1.toNat]?).bind fun _ =>
                                        let x101 : (List ((Int × (Int × Int)) × (Int × (Int × Int)))) := ((x96.2.1.set x96.1.2.2.1.toNat x97).set x96.1.2.1.toNat x98)
                                        some ((x96.1.2.2.1, false, ()), (x101, ()))
                                      else
                                        none
                                    else
                                      none
                                  else
                                    none
                                else
                                  none,
                              ())
                          else
                            none
                        else
                          none
                      else
                        none
                    else
                      none,
                ()),
            ())
        else
          none
      else
        none
    else
      none
  else
    none
def ef64 : Entry := { id := 64, ar := { temps := [(0, .c (.row 3000000)), (1, .c (.int .i64)), (2, .c (.int .i64)), (3, .c (.int .i64)), (4, .c (.lit (.fn 36)))], blocks := [(3000000, .row 44 (.pair (.pair (.int .i64) (.pair (.int .i64) (.int .i64))) (.pair (.int .i64) (.pair (.int .i64) (.int .i64)))))], ren := [] }, res := { temps := [(0, .c (.int .i64)), (1, .c .bool)], blocks := [(3000000, .row 44 (.pair (.pair (.int .i64) (.pair (.int .i64) (.int .i64))) (.pair (.int .i64) (.pair (.int .i64) (.int .i64)))))], ren := [(3000000, some 3000000)] }, f := fun k v => f64 k v.1.2.1 v.1.2.2.1 v.1.2.2.2.1 v.2.1 }
def gf64 (k : Nat) : Full := { tt := tt, n := 178, fns := [ef36], trunc := [], tails := [], k := k, glob := glob, cuts := [(3, (cf64_l3 k)), (5, (cf64_l5 k)), (13, (cf64_l13 k)), (15, (cf64_l15 k)), (100013, (cf64_l100013 k))], joins := [] }
theorem of64_l3 (k : Nat) : CutOk (gf64 k) (cf64_l3 k) (theLoop Try.f64 3) := fun ρ v nx => ⟨by kernel_rfl, fun j => by kernel_rfl⟩
theorem of64_l5 (k : Nat) : CutOk (gf64 k) (cf64_l5 k) (theLoop Try.f64 5) := fun ρ v nx => ⟨by kernel_rfl, fun j => by kernel_rfl⟩
theorem of64_l13 (k : Nat) : CutOk (gf64 k) (cf64_l13 k) (theLoop Try.f64 13) := fun ρ v nx => ⟨by kernel_rfl, fun j => by kernel_rfl⟩
theorem of64_l15 (k : Nat) : CutOk (gf64 k) (cf64_l15 k) (theLoop Try.f64 15) := fun ρ v nx => ⟨by kernel_rfl, fun j => by kernel_rfl⟩
theorem of64_l100013 (k : Nat) : CutOk (gf64 k) (cf64_l100013 k) (theLoop Try.f64 100013) := fun ρ v nx => ⟨by kernel_rfl, fun j => by kernel_rfl⟩
theorem qf64 (k : Nat) : AllP (bodyL (gf64 k) Try.f64) := by
  have h : (CutOk (gf64 k) (cf64_l3 k) (theLoop Try.f64 3) ∧ CutOk (gf64 k) (cf64_l5 k) (theLoop Try.f64 5) ∧ CutOk (gf64 k) (cf64_l13 k) (theLoop Try.f64 13) ∧ CutOk (gf64 k) (cf64_l15 k) (theLoop Try.f64 15) ∧ CutOk (gf64 k) (cf64_l100013 k) (theLoop Try.f64 100013) ∧ True) = AllP (bodyL (gf64 k) Try.f64) := by kernel_rfl
  exact Eq.mp h (And.intro (of64_l3 k) (And.intro (of64_l5 k) (And.intro (of64_l13 k) (And.intro (of64_l15 k) (And.intro (of64_l100013 k) (trivial))))))
theorem sf64 : Sound Try.prog glob ef64 := sound_of base (fn := Try.f64) Try.func64 (by kernel_rfl) gf64 (fun _ => ⟨rfl, rfl⟩) (fun k j => ⟨sf36.at j, trivial⟩) qf64 (fun k v => by kernel_rfl)

/-! impl.Point] -/
def f48_j20 {ρ : Type} (self : Int → Int → Int → (List ((Int × (Int × Int)) × (Int × (Int × Int)))) → Option (Unit × ((List ((Int × (Int × Int)) × (Int × (Int × Int)))) × Unit))) (k : Nat) (v153 : Int) (v154 : Int) (v155 : Int) (v156 : Int) (v157 : Int) (v158 : (List ((Int × (Int × Int)) × (Int × (Int × Int))))) (nx : ((((Unit × Int × Int × Int × Unit × Bool × Bool × Unit) × ((List ((Int × (Int × Int)) × (Int × (Int × Int)))) × Unit)) → Option ρ) × Unit)) : Option ρ :=
  (f64 k v153 v154 v157 v158).bind fun x159 =>
  let x160 : Bool := (decide ((wr .i64 (x159.1.1 - v153)) < (wr .i64 (v154 - x159.1.1))))
  bif x160 then
    let x161 : Bool := (decide ((wr .i64 (x159.1.1 - v153)) ≥ (wr .i64 (v156.tdiv 8))))
    (self v153 x159.1.1 v155 x159.2.1).bind fun x162 =>
    nx.1 (((), (wr .i64 (x159.1.1 + 1)), v154, v155, (), x161, x159.1.2.1, ()), (x162.2.1, ()))
  else
    let x163 : Bool := (decide ((wr .i64 (v154 - x159.1.1)) ≥ (wr .i64 (v156.tdiv 8))))
    (self (wr .i64 (x159.1.1 + 1)) v154 v155 x159.2.1).bind fun x164 =>
    nx.1 (((), v153, x159.1.1, v155, (), x163, x159.1.2.1, ()), (x164.2.1, ()))
def cf48_j20 (self : Int → Int → Int → (List ((Int × (Int × Int)) × (Int × (Int × Int)))) → Option (Unit × ((List ((Int × (Int × Int)) × (Int × (Int × Int)))) × Unit))) : Cut := { sp := { temps := [(0, .c (.lit (.row 3000000))), (1, .c (.int .i64)), (2, .c (.int .i64)), (3, .c (.int .i64)), (4, .c (.lit (.fn 36))), (12, .c (.int .i64)), (13, .c (.int .i64))], blocks := [(3000000, .row 44 (.pair (.pair (.int .i64) (.pair (.int .i64) (.int .i64))) (.pair (.int .i64) (.pair (.int .i64) (.int .i64)))))], ren := [(3000000, some 3000000)] }, outs := [(.normal, { temps := [(0, .c (.lit (.row 3000000))), (1, .c (.int .i64)), (2, .c (.int .i64)), (3, .c (.int .i64)), (4, .c (.lit (.fn 36))), (10, .c .bool), (11, .c .bool)], blocks := [(3000000, .row 44 (.pair (.pair (.int .i64) (.pair (.int .i64) (.int .i64))) (.pair (.int .i64) (.pair (.int .i64) (.int .i64)))))], ren := [(3000000, some 3000000)] })], F := fun ρ k v nx => f48_j20 self k v.1.2.1 v.1.2.2.1 v.1.2.2.2.1 v.1.2.2.2.2.2.1 v.1.2.2.2.2.2.2.1 v.2.1 nx }
def f48_j17 {ρ : Type} (self : Int → Int → Int → (List ((Int × (Int × Int)) × (Int × (Int × Int)))) → Option (Unit × ((List ((Int × (Int × Int)) × (Int × (Int × Int)))) × Unit))) (k : Nat) (v139 : Int) (v140 : Int) (v141 : Int) (v142 : Bool) (v143 : Bool) (v144 : Int) (v145 : Int) (v146 : (List ((Int × (Int × Int)) × (Int × (Int × Int))))) (nx : ((((Unit × Int × Int × Int × Unit × Bool × Bool × Unit) × ((List ((Int × (Int × Int)) × (Int × (Int × Int)))) × Unit)) → Option ρ) × (((Unit × Int × Int × Int × Unit × Bool × Bool × Unit) × ((List ((Int × (Int × Int)) × (Int × (Int × Int)))) × Unit)) → Option ρ) × Unit)) : Option ρ :=
  bif (decide (v139 > 0)) then
    bif decide (0 ≤ (wr .i64 (v139 - 1))) && decide ((wr .i64 (v139 - 1)) < (v146.length : Int)) then
      (v146[(wr .i64 (v139 - 1)).toNat]?).bind fun x147 =>
      bif decide (0 ≤ v145) && decide (v145 < (v146.length : Int)) then
        (v146[v145.toNat]?).bind fun x148 =>
        (f36 k x147.1.1 x147.1.2.1 x147.1.2.2 x147.2.1 x147.2.2.1 x147.2.2.2 x148.1.1 x148.1.2.1 x148.1.2.2 x148.2.1 x148.2.2.1 x148.2.2.2).bind fun x149 =>
        bif (!(decide (x149.1.1 < 0))) then
          (f63 k v139 v140 v145 v146).bind fun x150 =>
          nx.1 (((), x150.1.1, v140, v141, (), v142, v143, ()), (x150.2.1, ()))
        else
          f48_j20 self k v139 v140 v141 v144 v145 v146
            (fun x151 : ((Unit × Int × Int × Int × Unit × Bool × Bool × Unit) × ((List ((Int × (Int × Int)) × (Int × (Int × Int)))) × Unit)) =>
              nx.2.1 (((), x151.1.2.1, x151.1.2.2.1, x151.1.2.2.2.1, (), x151.1.2.2.2.2.2.1, x151.1.2.2.2.2.2.2.1, ()), (x151.2.1, ())),
            ())
      else
        none
    else
      none
  else
    f48_j20 self k v139 v140 v141 v144 v145 v146
      (fun x152 : ((Unit × Int × Int × Int × Unit × Bool × Bool × Unit) × ((List ((Int × (Int × Int)) × (Int × (Int × Int)))) × Unit)) =>
        nx.2.1 (((), x152.1.2.1, x152.1.2.2.1, x152.1.2.2.2.1, (), x152.1.2.2.2.2.2.1, x152.1.2.2.2.2.2.2.1, ()), (x152.2.1, ())),
      ())
def cf48_j17 (self : Int → Int → Int → (List ((Int × (Int × Int)) × (Int × (Int × Int)))) → Option (Unit × ((List ((Int × (Int × Int)) × (Int × (Int × Int)))) × Unit))) : Cut := { sp := { temps := [(0, .c (.lit (.row 3000000))), (1, .c (.int .i64)), (2, .c (.int .i64)), (3, .c (.int .i64)), (4, .c (.lit (.fn 36))), (10, .c .bool), (11, .c .bool), (12, .c (.int .i64)), (13, .c (.int .i64))], blocks := [(3000000, .row 44 (.pair (.pair (.int .i64) (.pair (.int .i64) (.int .i64))) (.pair (.int .i64) (.pair (.int .i64) (.int .i64)))))], ren := [(3000000, some 3000000)] }, outs := [(.exit 1, { temps := [(0, .c (.lit (.row 3000000))), (1, .c (.int .i64)), (2, .c (.int .i64)), (3, .c (.int .i64)), (4, .c (.lit (.fn 36))), (10, .c .bool), (11, .c .bool)], blocks := [(3000000, .row 44 (.pair (.pair (.int .i64) (.pair (.int .i64) (.int .i64))) (.pair (.int .i64) (.pair (.int .i64) (.int .i64)))))], ren := [(3000000, some 3000000)] }), (.normal, { temps := [(0, .c (.lit (.row 3000000))), (1, .c (.int .i64)), (2, .c (.int .i64)), (3, .c (.int .i64)), (4, .c (.lit (.fn 36))), (10, .c .bool), (11, .c .bool)], blocks := [(3000000, .row 44 (.pair (.pair (.int .i64) (.pair (.int .i64) (.int .i64))) (.pair (.int .i64) (.pair (.int .i64) (.int .i64)))))], ren := [(3000000, some 3000000)] })], F := fun ρ k v nx => f48_j17 self k v.1.2.1 v.1.2.2.1 v.1.2.2.2.1 v.1.2.2.2.2.2.1 v.1.2.2.2.2.2.2.1 v.1.2.2.2.2.2.2.2.1 v.1.2.2.2.2.2.2.2.2.1 v.2.1 nx }
def f48_j15 {ρ : Type} (self : Int → Int → Int → (List ((Int × (Int × Int)) × (Int × (Int × Int)))) → Option (Unit × ((List ((Int × (Int × Int)) × (Int × (Int × Int)))) × Unit))) (k : Nat) (v121 : Int) (v122 : Int) (v123 : Int) (v124 : Bool) (v125 : Bool) (v126 : Int) (v127 : Int) (v128 : Int) (v129 : (List ((Int × (Int × Int)) × (Int × (Int × Int))))) (nx : ((((Unit × Int × Int × Int × Unit × Bool × Bool × Unit) × ((List ((Int × (Int × Int)) × (Int × (Int × Int)))) × Unit)) → Option ρ) × (((Unit × Int × Int × Int × Unit × Bool × Bool × Unit) × ((List ((Int × (Int × Int)) × (Int × (Int × Int)))) × Unit)) → Option ρ) × ((Unit × ((List ((Int × (Int × Int)) × (Int × (Int × Int)))) × Unit)) → Option ρ) × Unit)) : Option ρ :=
  bif v124 then
    bif v125 then
      bif (v128 == 1) then
        (f62 k v121 v122 v129).bind fun x130 =>
        bif x130.1.1 then
          nx.2.2.1 ((), (x130.2.1, ()))
        else
          f48_j17 self k v121 v122 v123 v124 v125 v126 v127 x130.2.1
            (fun x131 : ((Unit × Int × Int × Int × Unit × Bool × Bool × Unit) × ((List ((Int × (Int × Int)) × (Int × (Int × Int)))) × Unit)) =>
              nx.1 (((), x131.1.2.1, x131.1.2.2.1, x131.1.2.2.2.1, (), x131.1.2.2.2.2.2.1, x131.1.2.2.2.2.2.2.1, ()), (x131.2.1, ())),
            fun x132 : ((Unit × Int × Int × Int × Unit × Bool × Bool × Unit) × ((List ((Int × (Int × Int)) × (Int × (Int × Int)))) × Unit)) =>
              nx.2.1 (((), x132.1.2.1, x132.1.2.2.1, x132.1.2.2.2.1, (), x132.1.2.2.2.2.2.1, x132.1.2.2.2.2.2.2.1, ()), (x132.2.1, ())),
            ())
      else
        f48_j17 self k v121 v122 v123 v124 v125 v126 v127 v129
          (fun x133 : ((Unit × Int × Int × Int × Unit × Bool × Bool × Unit) × ((List ((Int × (Int × Int)) × (Int × (Int × Int)))) × Unit)) =>
            nx.1 (((), x133.1.2.1, x133.1.2.2.1, x133.1.2.2.2.1, (), x133.1.2.2.2.2.2.1, x133.1.2.2.2.2.2.2.1, ()), (x133.2.1, ())),
          fun x134 : ((Unit × Int × Int × Int × Unit × Bool × Bool × Unit) × ((List ((Int × (Int × Int)) × (Int × (Int × Int)))) × Unit)) =>
            nx.2.1 (((), x134.1.2.1, x134.1.2.2.1, x134.1.2.2.2.1, (), x134.1.2.2.2.2.2.1, x134.1.2.2.2.2.2.2.1, ()), (x134.2.1, ())),
          ())
    else
      f48_j17 self k v121 v122 v123 v124 v125 v126 v127 v129
        (fun x135 : ((Unit × Int × Int × Int × Unit × Bool × Bool × Unit) × ((List ((Int × (Int × Int)) × (Int × (Int × Int)))) × Unit)) =>
          nx.1 (((), x135.1.2.1, x135.1.2.2.1, x135.1.2.2.2.1, (), x135.1.2.2.2.2.2.1, x135.1.2.2.2.2.2.2.1, ()), (x135.2.1, ())),
        fun x136 : ((Unit × Int × Int × Int × Unit × Bool × Bool × Unit) × ((List ((Int × (Int × Int)) × (Int × (Int × Int)))) × Unit)) =>
          nx.2.1 (((), x136.1.2.1, x136.1.2.2.1, x136.1.2.2.2.1, (), x136.1.2.2.2.2.2.1, x136.1.2.2.2.2.2.2.1, ()), (x136.2.1, ())),
        ())
  else
    f48_j17 self k v121 v122 v123 v124 v125 v126 v127 v129
      (fun x137 : ((Unit × Int × Int × Int × Unit × Bool × Bool × Unit) × ((List ((Int × (Int × Int)) × (Int × (Int × Int)))) × Unit)) =>
        nx.1 (((), x137.1.2.1, x137.1.2.2.1, x137.1.2.2.2.1, (), x137.1.2.2.2.2.2.1, x137.1.2.2.2.2.2.2.1, ()), (x137.2.1, ())),
      fun x138 : ((Unit × Int × Int × Int × Unit × Bool × Bool × Unit) × ((List ((Int × (Int × Int)) × (Int × (Int × Int)))) × Unit)) =>
        nx.2.1 (((), x138.1.2.1, x138.1.2.2.1, x138.1.2.2.2.1, (), x138.1.2.2.2.2.2.1, x138.1.2.2.2.2.2.2.1, ()), (x138.2.1, ())),
      ())
def cf48_j15 (self : Int → Int → Int → (List ((Int × (Int × Int)) × (Int × (Int × Int)))) → Option (Unit × ((List ((Int × (Int × Int)) × (Int × (Int × Int)))) × Unit))) : Cut := { sp := { temps := [(0, .c (.lit (.row 3000000))), (1, .c (.int .i64)), (2, .c (.int .i64)), (3, .c (.int .i64)), (4, .c (.lit (.fn 36))), (10, .c .bool), (11, .c .bool), (12, .c (.int .i64)), (13, .c (.int .i64)), (14, .c (.int .i64))], blocks := [(3000000, .row 44 (.pair (.pair (.int .i64) (.pair (.int .i64) (.int .i64))) (.pair (.int .i64) (.pair (.int .i64) (.int .i64)))))], ren := [(3000000, some 3000000)] }, outs := [(.exit 1, { temps := [(0, .c (.lit (.row 3000000))), (1, .c (.int .i64)), (2, .c (.int .i64)), (3, .c (.int .i64)), (4, .c (.lit (.fn 36))), (10, .c .bool), (11, .c .bool)], blocks := [(3000000, .row 44 (.pair (.pair (.int .i64) (.pair (.int .i64) (.int .i64))) (.pair (.int .i64) (.pair (.int .i64) (.int .i64)))))], ren := [(3000000, some 3000000)] }), (.normal, { temps := [(0, .c (.lit (.row 3000000))), (1, .c (.int .i64)), (2, .c (.int .i64)), (3, .c (.int .i64)), (4, .c (.lit (.fn 36))), (10, .c .bool), (11, .c .bool)], blocks := [(3000000, .row 44 (.pair (.pair (.int .i64) (.pair (.int .i64) (.int .i64))) (.pair (.int .i64) (.pair (.int .i64) (.int .i64)))))], ren := [(3000000, some 3000000)] }), (.ret, { temps := [], blocks := [(3000000, .row 44 (.pair (.pair (.int .i64) (.pair (.int .i64) (.int .i64))) (.pair (.int .i64) (.pair (.int .i64) (.int .i64)))))], ren := [(3000000, some 3000000)] })], F := fun ρ k v nx => f48_j15 self k v.1.2.1 v.1.2.2.1 v.1.2.2.2.1 v.1.2.2.2.2.2.1 v.1.2.2.2.2.2.2.1 v.1.2.2.2.2.2.2.2.1 v.1.2.2.2.2.2.2.2.2.1 v.1.2.2.2.2.2.2.2.2.2.1 v.2.1 nx }
def f48_j10 {ρ : Type} (self : Int → Int → Int → (List ((Int × (Int × Int)) × (Int × (Int × Int)))) → Option (Unit × ((List ((Int × (Int × Int)) × (Int × (Int × Int)))) × Unit))) (k : Nat) (v105 : Int) (v106 : Int) (v107 : Int) (v108 : Bool) (v109 : Bool) (v110 : Int) (v111 : (List ((Int × (Int × Int)) × (Int × (Int × Int))))) (nx : ((((Unit × Int × Int × Int × Unit × Bool × Bool × Unit) × ((List ((Int × (Int × Int)) × (Int × (Int × Int)))) × Unit)) → Option ρ) × (((Unit × Int × Int × Int × Unit × Bool × Bool × Unit) × ((List ((Int × (Int × Int)) × (Int × (Int × Int)))) × Unit)) → Option ρ) × ((Unit × ((List ((Int × (Int × Int)) × (Int × (Int × Int)))) × Unit)) → Option ρ) × Unit)) : Option ρ :=
  (f60 k v111 v105 v106).bind fun x112 =>
  bif (x112.1.2.1 == 2) then
    (f61 k v105 v106 v111).bind fun x113 =>
    let x114 : Int := (wr .i64 ((wr .i64 (v106 - 1)) - (wr .i64 (x112.1.1 - v105))))
    f48_j15 self k v105 v106 v107 v108 v109 v110 x114 1 x113.2.1
      (fun x115 : ((Unit × Int × Int × Int × Unit × Bool × Bool × Unit) × ((List ((Int × (Int × Int)) × (Int × (Int × Int)))) × Unit)) =>
        nx.1 (((), x115.1.2.1, x115.1.2.2.1, x115.1.2.2.2.1, (), x115.1.2.2.2.2.2.1, x115.1.2.2.2.2.2.2.1, ()), (x115.2.1, ())),
      fun x116 : ((Unit × Int × Int × Int × Unit × Bool × Bool × Unit) × ((List ((Int × (Int × Int)) × (Int × (Int × Int)))) × Unit)) =>
        nx.2.1 (((), x116.1.2.1, x116.1.2.2.1, x116.1.2.2.2.1, (), x116.1.2.2.2.2.2.1, x116.1.2.2.2.2.2.2.1, ()), (x116.2.1, ())),
      fun x117 : (Unit × ((List ((Int × (Int × Int)) × (Int × (Int × Int)))) × Unit)) =>
        nx.2.2.1 ((), (x117.2.1, ())),
      ())
  else
    f48_j15 self k v105 v106 v107 v108 v109 v110 x112.1.1 x112.1.2.1 v111
      (fun x118 : ((Unit × Int × Int × Int × Unit × Bool × Bool × Unit) × ((List ((Int × (Int × Int)) × (Int × (Int × Int)))) × Unit)) =>
        nx.1 (((), x118.1.2.1, x118.1.2.2.1, x118.1.2.2.2.1, (), x118.1.2.2.2.2.2.1, x118.1.2.2.2.2.2.2.1, ()), (x118.2.1, ())),
      fun x119 : ((Unit × Int × Int × Int × Unit × Bool × Bool × Unit) × ((List ((Int × (Int × Int)) × (Int × (Int × Int)))) × Unit)) =>
        nx.2.1 (((), x119.1.2.1, x119.1.2.2.1, x119.1.2.2.2.1, (), x119.1.2.2.2.2.2.1, x119.1.2.2.2.2.2.2.1, ()), (x119.2.1, ())),
      fun x120 : (Unit × ((List ((Int × (Int × Int)) × (Int × (Int × Int)))) × Unit)) =>
        nx.2.2.1 ((), (x120.2.1, ())),
      ())
def cf48_j10 (self : Int → Int → Int → (List ((Int × (Int × Int)) × (Int × (Int × Int)))) → Option (Unit × ((List ((Int × (Int × Int)) × (Int × (Int × Int)))) × Unit))) : Cut := { sp := { temps := [(0, .c (.lit (.row 3000000))), (1, .c (.int .i64)), (2, .c (.int .i64)), (3, .c (.int .i64)), (4, .c (.lit (.fn 36))), (10, .c .bool), (11, .c .bool), (12, .c (.int .i64))], blocks := [(3000000, .row 44 (.pair (.pair (.int .i64) (.pair (.int .i64) (.int .i64))) (.pair (.int .i64) (.pair (.int .i64) (.int .i64)))))], ren := [(3000000, some 3000000)] }, outs := [(.exit 1, { temps := [(0, .c (.lit (.row 3000000))), (1, .c (.int .i64)), (2, .c (.int .i64)), (3, .c (.int .i64)), (4, .c (.lit (.fn 36))), (10, .c .bool), (11, .c .bool)], blocks := [(3000000, .row 44 (.pair (.pair (.int .i64) (.pair (.int .i64) (.int .i64))) (.pair (.int .i64) (.pair (.int .i64) (.int .i64)))))], ren := [(3000000, some 3000000)] }), (.normal, { temps := [(0, .c (.lit (.row 3000000))), (1, .c (.int .i64)), (2, .c (.int .i64)), (3, .c (.int .i64)), (4, .c (.lit (.fn 36))), (10, .c .bool), (11, .c .bool)], blocks := [(3000000, .row 44 (.pair (.pair (.int .i64) (.pair (.int .i64) (.int .i64))) (.pair (.int .i64) (.pair (.int .i64) (.int .i64)))))], ren := [(3000000, some 3000000)] }), (.ret, { temps := [], blocks := [(3000000, .row 44 (.pair (.pair (.int .i64) (.pair (.int .i64) (.int .i64))) (.pair (.int .i64) (.pair (.int .i64) (.int .i64)))))], ren := [(3000000, some 3000000)] })], F := fun ρ k v nx => f48_j10 self k v.1.2.1 v.1.2.2.1 v.1.2.2.2.1 v.1.2.2.2.2.2.1 v.1.2.2.2.2.2.2.1 v.1.2.2.2.2.2.2.2.1 v.2.1 nx }
def f48_l2 {ρ : Type} (self : Int → Int → Int → (List ((Int × (Int × Int)) × (Int × (Int × Int)))) → Option (Unit × ((List ((Int × (Int × Int)) × (Int × (Int × Int)))) × Unit))) (k : Nat) : Nat → Int → Int → Int → Bool → Bool → (List ((Int × (Int × Int)) × (Int × (Int × Int)))) → (((Unit × ((List ((Int × (Int × Int)) × (Int × (Int × Int)))) × Unit)) → Option ρ) × Unit) → Option ρ
  | 0, _, _, _, _, _, _, _ => none
  | j + 1, v88, v89, v90, v91, v92, v93, nx =>
    bif (decide ((wr .i64 (v89 - v88)) ≤ 12)) then
      (f57 k v88 v89 v93).bind fun x95 =>
      nx.1 ((), (x95.2.1, ()))
    else
      bif (v90 == 0) then
        (f58 k v88 v89 v93).bind fun x97 =>
        nx.1 ((), (x97.2.1, ()))
      else
        bif (!v91) then
          (f59 k v88 v89 v93).bind fun x98 =>
          f48_j10 self k v88 v89 (wr .i64 (v90 - 1)) v91 v92 (wr .i64 (v89 - v88)) x98.2.1
            (fun x99 : ((Unit × Int × Int × Int × Unit × Bool × Bool × Unit) × ((List ((Int × (Int × Int)) × (Int × (Int × Int)))) × Unit)) =>
              f48_l2 self k j x99.1.2.1 x99.1.2.2.1 x99.1.2.2.2.1 x99.1.2.2.2.2.2.1 x99.1.2.2.2.2.2.2.1 x99.2.1 nx,
            fun x100 : ((Unit × Int × Int × Int × Unit × Bool × Bool × Unit) × ((List ((Int × (Int × Int)) × (Int × (Int × Int)))) × Unit)) =>
              f48_l2 self k j x100.1.2.1 x100.1.2.2.1 x100.1.2.2.2.1 x100.1.2.2.2.2.2.1 x100.1.2.2.2.2.2.2.1 x100.2.1 nx,
            fun x101 : (Unit × ((List ((Int × (Int × Int)) × (Int × (Int × Int)))) × Unit)) =>
              nx.1 ((), (x101.2.1, ())),
            ())
        else
          f48_j10 self k v88 v89 v90 v91 v92 (wr .i64 (v89 - v88)) v93
            (fun x102 : ((Unit × Int × Int × Int × Unit × Bool × Bool × Unit) × ((List ((Int × (Int × Int)) × (Int × (Int × Int)))) × Unit)) =>
              f48_l2 self k j x102.1.2.1 x102.1.2.2.1 x102.1.2.2.2.1 x102.1.2.2.2.2.2.1 x102.1.2.2.2.2.2.2.1 x102.2.1 nx,
            fun x103 : ((Unit × Int × Int × Int × Unit × Bool × Bool × Unit) × ((List ((Int × (Int × Int)) × (Int × (Int × Int)))) × Unit)) =>
              f48_l2 self k j x103.1.2.1 x103.1.2.2.1 x103.1.2.2.2.1 x103.1.2.2.2.2.2.1 x103.1.2.2.2.2.2.2.1 x103.2.1 nx,
            fun x104 : (Unit × ((List ((Int × (Int × Int)) × (Int × (Int × Int)))) × Unit)) =>
              nx.1 ((), (x104.2.1, ())),
            ())
def cf48_l2 (self : Int → Int → Int → (List ((Int × (Int × Int)) × (Int × (Int × Int)))) → Option (Unit × ((List ((Int × (Int × Int)) × (Int × (Int × Int)))) × Unit))) (k : Nat) : Cut := { sp := { temps := [(0, .c (.lit (.row 3000000))), (1, .c (.int .i64)), (2, .c (.int .i64)), (3, .c (.int .i64)), (4, .c (.lit (.fn 36))), (10, .c .bool), (11, .c .bool)], blocks := [(3000000, .row 44 (.pair (.pair (.int .i64) (.pair (.int .i64) (.int .i64))) (.pair (.int .i64) (.pair (.int .i64) (.int .i64)))))], ren := [(3000000, some 3000000)] }, outs := [(.ret, { temps := [], blocks := [(3000000, .row 44 (.pair (.pair (.int .i64) (.pair (.int .i64) (.int .i64))) (.pair (.int .i64) (.pair (.int .i64) (.int .i64)))))], ren := [(3000000, some 3000000)] })], F := fun ρ j v nx => f48_l2 self k j v.1.2.1 v.1.2.2.1 v.1.2.2.2.1 v.1.2.2.2.2.2.1 v.1.2.2.2.2.2.2.1 v.2.1 nx }
def f48 : Nat → Int → Int → Int → (List ((Int × (Int × Int)) × (Int × (Int × Int)))) → Option (Unit × ((List ((Int × (Int × Int)) × (Int × (Int × Int)))) × Unit))
  | 0, _, _, _, _ => none
  | k + 1, a1, a2, a3, a4 =>
    f48_l2 (f48 k) k k a1 a2 a3 true true a4
      (fun x87 : (Unit × ((List ((Int × (Int × Int)) × (Int × (Int × Int)))) × Unit)) =>
        some ((), (x87.2.1, ())),
      ())
def ef48 : Entry := { id := 48, ar := { temps := [(0, .c (.row 3000000)), (1, .c (.int .i64)), (2, .c (.int .i64)), (3, .c (.int .i64)), (4, .c (.lit (.fn 36)))], blocks := [(3000000, .row 44 (.pair (.pair (.int .i64) (.pair (.int .i64) (.int .i64))) (.pair (.int .i64) (.pair (.int .i64) (.int .i64)))))], ren := [] }, res := { temps := [], blocks := [(3000000, .row 44 (.pair (.pair (.int .i64) (.pair (.int .i64) (.int .i64))) (.pair (.int .i64) (.pair (.int .i64) (.int .i64)))))], ren := [(3000000, some 3000000)] }, f := fun k v => f48 k v.1.2.1 v.1.2.2.1 v.1.2.2.2.1 v.2.1 }
def gf48 (k : Nat) : Full := { tt := tt, n := 148, fns := [ef57, ef58, ef59, ef60, ef61, ef62, ef36, ef63, ef64, ef48], trunc := [], tails := [], k := k, glob := glob, cuts := [(2, (cf48_l2 (f48 k) k))], joins := [(20, (cf48_j20 (f48 k))), (17, (cf48_j17 (f48 k))), (15, (cf48_j15 (f48 k))), (10, (cf48_j10 (f48 k)))] }
theorem of48_j20 (k : Nat) : JoinOk (gf48 k) (cf48_j20 (f48 k)) (theJoin Try.f48 20) := fun ρ v nx => by kernel_rfl
theorem of48_j17 (k : Nat) : JoinOk (gf48 k) (cf48_j17 (f48 k)) (theJoin Try.f48 17) := fun ρ v nx => by kernel_rfl
theorem of48_j15 (k : Nat) : JoinOk (gf48 k) (cf48_j15 (f48 k)) (theJoin Try.f48 15) := fun ρ v nx => by kernel_rfl
theorem of48_j10 (k : Nat) : JoinOk (gf48 k) (cf48_j10 (f48 k)) (theJoin Try.f48 10) := fun ρ v nx => by kernel_rfl
theorem of48_l2 (k : Nat) : CutOk (gf48 k) (cf48_l2 (f48 k) k) (theLoop Try.f48 2) := fun ρ v nx => ⟨by kernel_rfl, fun j => by kernel_rfl⟩
theorem qf48 (k : Nat) : AllP (bodyL (gf48 k) Try.f48) := by
  have h : (JoinOk (gf48 k) (cf48_j20 (f48 k)) (theJoin Try.f48 20) ∧ JoinOk (gf48 k) (cf48_j17 (f48 k)) (theJoin Try.f48 17) ∧ JoinOk (gf48 k) (cf48_j15 (f48 k)) (theJoin Try.f48 15) ∧ JoinOk (gf48 k) (cf48_j10 (f48 k)) (theJoin Try.f48 10) ∧ CutOk (gf48 k) (cf48_l2 (f48 k) k) (theLoop Try.f48 2) ∧ True) = AllP (bodyL (gf48 k) Try.f48) := by kernel_rfl
  exact Eq.mp h (And.intro (of48_j20 k) (And.intro (of48_j17 k) (And.intro (of48_j15 k) (And.intro (of48_j10 k) (And.intro (of48_l2 k) (trivial))))))
theorem sf48 : Sound Try.prog glob ef48 := sound_rec base (fn := Try.f48) Try.func48 (by kernel_rfl) gf48 (fun _ => ⟨rfl, rfl, rfl⟩) (fun k j h => ⟨sf57.at j, sf58.at j, sf59.at j, sf60.at j, sf61.at j, sf62.at j, sf36.at j, sf63.at j, sf64.at j, h, trivial⟩) qf48 (fun v => by kernel_rfl) (fun k v => by kernel_rfl)

end Go.Proofs.Ytcijmfodhdigpaa.R
