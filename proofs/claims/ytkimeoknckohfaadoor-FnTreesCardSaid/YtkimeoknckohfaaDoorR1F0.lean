/- Plain twins of functions, with their contracts. Printed by a program of this session. -/
import Derived.Test.YtkimeoknckohfaaDoorProg
import Derived.Test.YtkimeoknckohfaaDoorR1Tools
import Derived.Test.YtkimeoknckohfaaDoorR1G
set_option linter.unusedVariables false
namespace Go.Proofs.YtkimeoknckohfaaDoor.R
open Go.Proofs.YtkimeoknckohfaaDoor.R1
def tt : TT := [
  (2, { k := (.int .i64), size := 1, bytes := 8, zero := [.int .i64 0], u := (.int .i64) }),
  (3, { k := (.int .i64), size := 1, bytes := 8, zero := [.int .i64 0], u := (.int .i64) }),
  (5, { k := (.int .u8), size := 1, bytes := 1, zero := [.int .u8 0], u := (.int .u8) }),
  (9, { k := .str, size := 1, bytes := 16, zero := [.str ByteArray.empty], u := .str }),
  (22, { k := (.sl 5), size := 1, bytes := 24, zero := [.nils], u := (.sl (.int .u8)) }),
  (24, { k := (.sl 50), size := 1, bytes := 24, zero := [.nils], u := (.sl (.pair (.int .i64) (.pair (.int .i64) (.int .i64)))) }),
  (26, { k := (.struct [(0, 2), (1, 24)]), size := 2, bytes := 32, zero := [.int .i64 0, .nils], u := (.pair (.int .i64) (.sl (.pair (.int .i64) (.pair (.int .i64) (.int .i64))))) }),
  (32, { k := (.sl 2), size := 1, bytes := 24, zero := [.nils], u := (.sl (.int .i64)) }),
  (34, { k := (.sl 32), size := 1, bytes := 24, zero := [.nils], u := (.sl (.sl (.int .i64))) }),
  (43, { k := (.sl 9), size := 1, bytes := 24, zero := [.nils], u := (.sl .str) }),
  (50, { k := (.struct [(0, 2), (1, 2), (2, 2)]), size := 3, bytes := 24, zero := [.int .i64 0, .int .i64 0, .int .i64 0], u := (.pair (.int .i64) (.pair (.int .i64) (.int .i64))), eq := true }),
  (60, { k := (.int .u64), size := 1, bytes := 8, zero := [.int .u64 0], u := (.int .u64) }),
  (62, { k := (.struct [(0, 22), (1, 3), (2, 60)]), size := 3, bytes := 40, zero := [.nils, .int .i64 0, .int .u64 0], u := (.pair (.sl (.int .u8)) (.pair (.int .i64) (.int .u64))) }),
  (73, { k := (.arr 2 2), size := 2, bytes := 16, zero := [.int .i64 0, .int .i64 0], u := (.pair (.int .i64) (.int .i64)) }),
  (74, { k := (.arr 2 73), size := 4, bytes := 32, zero := [.int .i64 0, .int .i64 0, .int .i64 0, .int .i64 0], u := (.pair (.pair (.int .i64) (.int .i64)) (.pair (.int .i64) (.int .i64))) }),
  (96, { k := (.sl 3), size := 1, bytes := 24, zero := [.nils], u := (.sl (.int .i64)) })]
theorem ttok : TTok Tryd.prog tt := ttok_of_chk (by kernel_rfl)
theorem base : Base Tryd.prog tt glob := ⟨drawOk (by kernel_rfl), ttok, globOf_free (by kernel_rfl)⟩

/-! laws.a2Long -/
def f4 (k : Nat) (a1 : (List Int)) (a2 : (List Int)) : Option ((Bool × Unit) × Unit) :=
  bif (decide ((a1.length : Int) > 3000)) then
    some ((true, ()), ())
  else
    some (((decide ((a2.length : Int) > 3000)), ()), ())
def ef4 : Entry := { id := 4, ar := { temps := [(0, .c (.sl (.int .u8))), (1, .c (.sl (.int .u8)))], blocks := [], ren := [] }, res := { temps := [(0, .c .bool)], blocks := [], ren := [] }, f := fun k v => f4 k v.1.1 v.1.2.1 }
def gf4 (k : Nat) : Full := { tt := tt, n := 13, fns := [], trunc := [], tails := [], touch := [], opens := [], shapes := [], closes := [], k := k, glob := glob, cuts := [], joins := [] }
theorem qf4 (k : Nat) : AllP (bodyL (gf4 k) Tryd.f4) := by
  have h : True = AllP (bodyL (gf4 k) Tryd.f4) := by kernel_rfl
  exact Eq.mp h trivial
theorem sf4 : Sound Tryd.prog glob ef4 := sound_of base (fn := Tryd.f4) Tryd.func4 (by kernel_rfl) gf4 (fun _ => ⟨rfl, rfl⟩) (fun k j => trivial) qf4 (fun k v => by kernel_rfl)

/-! spec.l00From -/
def f15 (k : Nat) (a1 : (List Int)) : Option ((Unit × Unit) × (((List Int) × Int × Int × Unit) × Unit)) :=
  some (((), ()), ((a1, 0, 0, ()), ()))
def ef15 : Entry := { id := 15, ar := { temps := [(0, .c (.sl (.int .u8)))], blocks := [], ren := [] }, res := { temps := [(0, .c (.box 4000000))], blocks := [(4000000, .box 62 [(.sl (.int .u8)), (.int .i64), (.int .u64)])], ren := [] }, f := fun k v => f15 k v.1.1 }
def gf15 (k : Nat) : Full := { tt := tt, n := 6, fns := [], trunc := [], tails := [], touch := [], opens := [], shapes := [], closes := [], k := k, glob := glob, cuts := [], joins := [] }
theorem qf15 (k : Nat) : AllP (bodyL (gf15 k) Tryd.f15) := by
  have h : True = AllP (bodyL (gf15 k) Tryd.f15) := by kernel_rfl
  exact Eq.mp h trivial
theorem sf15 : Sound Tryd.prog glob ef15 := sound_of base (fn := Tryd.f15) Tryd.func15 (by kernel_rfl) gf15 (fun _ => ⟨rfl, rfl⟩) (fun k j => trivial) qf15 (fun k v => by kernel_rfl)

/-! spec.l00Src).next -/
def f36_j4 {ρ : Type} (k : Nat) (v16 : Int) (v17 : (List Int)) (v18 : Int) (v19 : Int) (nx : ((((Int × Unit) × (((List Int) × Int × Int × Unit) × Unit)) → Option ρ) × Unit)) : Option ρ :=
  let x20 : Int := (wr .u64 ((wr .u64 (v19 * 6364136223846793005)) + (wr .u64 v16)))
  let x22 : Bool := (decide ((wr .i64 (v18 + 1)) ≤ (v17.length : Int)))
  bif x22 then
    nx.1 ((v16, ()), ((v17, (wr .i64 (v18 + 1)), (wr .u64 (x20 + 1442695040888963407)), ()), ()))
  else
    let x23 : Int := (ishr .u64 (wr .u64 (x20 + 1442695040888963407)) 40)
    nx.1 (((wr .i64 (iand .u64 x23 255)), ()), ((v17, (wr .i64 (v18 + 1)), (wr .u64 (x20 + 1442695040888963407)), ()), ()))
def cf36_j4 : Cut := { sp := { temps := [(0, .c (.lit (.ptr 3000000 0 0 0))), (3, .c (.int .i64))], blocks := [(3000000, .box 62 [(.sl (.int .u8)), (.int .i64), (.int .u64)])], ren := [(3000000, some 3000000)] }, outs := [(.ret, { temps := [(2, .c (.int .i64))], blocks := [(3000000, .box 62 [(.sl (.int .u8)), (.int .i64), (.int .u64)])], ren := [(3000000, some 3000000)] })], F := fun ρ k v nx => f36_j4 k v.1.2.1 v.2.1.1 v.2.1.2.1 v.2.1.2.2.1 nx }
def f36 (k : Nat) (a1 : (List Int)) (a2 : Int) (a3 : Int) : Option ((Int × Unit) × (((List Int) × Int × Int × Unit) × Unit)) :=
  bif (decide (a2 < (a1.length : Int))) then
    (getI a1 a2).bind fun x13 =>
    f36_j4 k (wr .i64 x13) a1 a2 a3
      (fun x14 : ((Int × Unit) × (((List Int) × Int × Int × Unit) × Unit)) =>
        some ((x14.1.1, ()), ((x14.2.1.1, x14.2.1.2.1, x14.2.1.2.2.1, ()), ())),
      ())
  else
    f36_j4 k 0 a1 a2 a3
      (fun x15 : ((Int × Unit) × (((List Int) × Int × Int × Unit) × Unit)) =>
        some ((x15.1.1, ()), ((x15.2.1.1, x15.2.1.2.1, x15.2.1.2.2.1, ()), ())),
      ())
def ef36 : Entry := { id := 36, ar := { temps := [(0, .c (.box 3000000))], blocks := [(3000000, .box 62 [(.sl (.int .u8)), (.int .i64), (.int .u64)])], ren := [] }, res := { temps := [(0, .c (.int .i64))], blocks := [(3000000, .box 62 [(.sl (.int .u8)), (.int .i64), (.int .u64)])], ren := [(3000000, some 3000000)] }, f := fun k v => f36 k v.2.1.1 v.2.1.2.1 v.2.1.2.2.1 }
def gf36 (k : Nat) : Full := { tt := tt, n := 62, fns := [], trunc := [], tails := [], touch := [], opens := [], shapes := [], closes := [], k := k, glob := glob, cuts := [], joins := [(4, cf36_j4)] }
theorem of36_j4 (k : Nat) : JoinOk (gf36 k) cf36_j4 (theJoin Tryd.f36 4) := fun ρ v nx => by kernel_rfl
theorem qf36 (k : Nat) : AllP (bodyL (gf36 k) Tryd.f36) := by
  have h : (JoinOk (gf36 k) cf36_j4 (theJoin Tryd.f36 4) ∧ True) = AllP (bodyL (gf36 k) Tryd.f36) := by kernel_rfl
  exact Eq.mp h (And.intro (of36_j4 k) (trivial))
theorem sf36 : Sound Tryd.prog glob ef36 := sound_of base (fn := Tryd.f36) Tryd.func36 (by kernel_rfl) gf36 (fun _ => ⟨rfl, rfl⟩) (fun k j => trivial) qf36 (fun k v => by kernel_rfl)

/-! spec.l00Src).pick -/
def f26 (k : Nat) (a1 : Int) (a2 : (List Int)) (a3 : Int) (a4 : Int) : Option ((Int × Unit) × (((List Int) × Int × Int × Unit) × Unit)) :=
  bif (decide (a1 ≤ 1)) then
    some ((0, ()), ((a2, a3, a4, ()), ()))
  else
    (f36 k a2 a3 a4).bind fun x4 =>
    bif (decide (a1 > 200)) then
      (f36 k x4.2.1.1 x4.2.1.2.1 x4.2.1.2.2.1).bind fun x5 =>
      let x6 : Int := (wr .i64 ((wr .i64 (x4.1.1 * 256)) + x5.1.1))
      bif decide (a1 = 0) then
        none
      else
        some (((x6.tmod a1), ()), ((x5.2.1.1, x5.2.1.2.1, x5.2.1.2.2.1, ()), ()))
    else
      bif decide (a1 = 0) then
        none
      else
        some (((x4.1.1.tmod a1), ()), ((x4.2.1.1, x4.2.1.2.1, x4.2.1.2.2.1, ()), ()))
def ef26 : Entry := { id := 26, ar := { temps := [(0, .c (.box 3000000)), (1, .c (.int .i64))], blocks := [(3000000, .box 62 [(.sl (.int .u8)), (.int .i64), (.int .u64)])], ren := [] }, res := { temps := [(0, .c (.int .i64))], blocks := [(3000000, .box 62 [(.sl (.int .u8)), (.int .i64), (.int .u64)])], ren := [(3000000, some 3000000)] }, f := fun k v => f26 k v.1.2.1 v.2.1.1 v.2.1.2.1 v.2.1.2.2.1 }
def gf26 (k : Nat) : Full := { tt := tt, n := 20, fns := [ef36], trunc := [], tails := [], touch := [], opens := [], shapes := [], closes := [], k := k, glob := glob, cuts := [], joins := [] }
theorem qf26 (k : Nat) : AllP (bodyL (gf26 k) Tryd.f26) := by
  have h : True = AllP (bodyL (gf26 k) Tryd.f26) := by kernel_rfl
  exact Eq.mp h trivial
theorem sf26 : Sound Tryd.prog glob ef26 := sound_of base (fn := Tryd.f26) Tryd.func26 (by kernel_rfl) gf26 (fun _ => ⟨rfl, rfl⟩) (fun k j => ⟨sf36.at j, trivial⟩) qf26 (fun k v => by kernel_rfl)

/-! spec.l30Less -/
def f37 (k : Nat) (a1 : Int) (a2 : Int) (a3 : Int) (a4 : Int) (a5 : Int) (a6 : Int) : Option ((Bool × Unit) × Unit) :=
  bif (decide (a1 < a4)) then
    some ((true, ()), ())
  else
    bif (a1 == a4) then
      some (((decide (a2 < a5)), ()), ())
    else
      some ((false, ()), ())
def ef37 : Entry := { id := 37, ar := { temps := [(0, .agg [(.int .i64), (.int .i64), (.int .i64)]), (1, .agg [(.int .i64), (.int .i64), (.int .i64)])], blocks := [], ren := [] }, res := { temps := [(0, .c .bool)], blocks := [], ren := [] }, f := fun k v => f37 k v.1.1.1 v.1.1.2.1 v.1.1.2.2.1 v.1.2.1.1 v.1.2.1.2.1 v.1.2.1.2.2.1 }
def gf37 (k : Nat) : Full := { tt := tt, n := 24, fns := [], trunc := [], tails := [], touch := [], opens := [], shapes := [], closes := [], k := k, glob := glob, cuts := [], joins := [] }
theorem qf37 (k : Nat) : AllP (bodyL (gf37 k) Tryd.f37) := by
  have h : True = AllP (bodyL (gf37 k) Tryd.f37) := by kernel_rfl
  exact Eq.mp h trivial
theorem sf37 : Sound Tryd.prog glob ef37 := sound_of base (fn := Tryd.f37) Tryd.func37 (by kernel_rfl) gf37 (fun _ => ⟨rfl, rfl⟩) (fun k j => trivial) qf37 (fun k v => by kernel_rfl)

/-! spec.l30Put -/
def f27_l2 {ρ : Type} (k : Nat) : Nat → (List (Int × (Int × Int))) → Int → Int → Int → Int → (((((List (Int × (Int × Int))) × Unit × Int × Unit) × ((Int × Int × Int × Unit) × Unit)) → Option ρ) × Unit) → Option ρ
  | 0, _, _, _, _, _, _ => none
  | j + 1, v18, v19, v20, v21, v22, nx =>
    bif (decide (v19 > 0)) then
      (getI v18 (wr .i64 (v19 - 1))).bind fun x23 =>
      (f37 k v20 v21 v22 x23.1 x23.2.1 x23.2.2).bind fun x24 =>
      bif x24.1.1 then
        f27_l2 k j v18 (wr .i64 (v19 - 1)) v20 v21 v22 nx
      else
        nx.1 ((v18, (), v19, ()), ((v20, v21, v22, ()), ()))
    else
      nx.1 ((v18, (), v19, ()), ((v20, v21, v22, ()), ()))
def cf27_l2 (k : Nat) : Cut := { sp := { temps := [(0, .c (.sl (.pair (.int .i64) (.pair (.int .i64) (.int .i64))))), (3, .c (.box 5000000)), (5, .c (.int .i64))], blocks := [(5000000, .box 50 [(.int .i64), (.int .i64), (.int .i64)])], ren := [] }, outs := [(.exit 0, { temps := [(0, .c (.sl (.pair (.int .i64) (.pair (.int .i64) (.int .i64))))), (3, .c (.box 5000000)), (5, .c (.int .i64))], blocks := [(5000000, .box 50 [(.int .i64), (.int .i64), (.int .i64)])], ren := [] })], F := fun ρ j v nx => f27_l2 k j v.1.1 v.1.2.2.1 v.2.1.1 v.2.1.2.1 v.2.1.2.2.1 nx }
def f27 (k : Nat) (a1 : (List (Int × (Int × Int)))) (a2 : Int) (a3 : Int) (a4 : Int) : Option ((Unit × Unit) × ((List (Int × (Int × Int))) × Unit)) :=
  f27_l2 k k a1 (a1.length : Int) a2 a3 a4
    (fun x14 : (((List (Int × (Int × Int))) × Unit × Int × Unit) × ((Int × Int × Int × Unit) × Unit)) =>
      bif decide (0 ≤ 0) && decide (0 ≤ x14.1.2.2.1) && decide (x14.1.2.2.1 ≤ (x14.1.1.length : Int)) then
        bif decide ((([] : List (Int × (Int × Int))).length + (sub x14.1.1 0 x14.1.2.2.1).length) * 24 ≤ roomy) then
          let x15 : (List (Int × (Int × Int))) := (([] : List (Int × (Int × Int))) ++ (sub x14.1.1 0 x14.1.2.2.1))
          bif decide ((x15.length + [(x14.2.1.1, (x14.2.1.2.1, x14.2.1.2.2.1))].length) * 24 ≤ roomy) then
            let x16 : (List (Int × (Int × Int))) := (x15 ++ [(x14.2.1.1, (x14.2.1.2.1, x14.2.1.2.2.1))])
            bif decide (0 ≤ x14.1.2.2.1) && decide (x14.1.2.2.1 ≤ (x14.1.1.length : Int)) && decide ((x14.1.1.length : Int) ≤ (x14.1.1.length : Int)) then
              let x17 : (List (Int × (Int × Int))) := (sub x14.1.1 x14.1.2.2.1 (x14.1.1.length : Int))
              bif decide ((x16.length + x17.length) * 24 ≤ roomy) then
                some (((), ()), ((x16 ++ x17), ()))
              else
                none
            else
              none
          else
            none
        else
          none
      else
        none,
    ())
def ef27 : Entry := { id := 27, ar := { temps := [(0, .c (.sl (.pair (.int .i64) (.pair (.int .i64) (.int .i64))))), (1, .agg [(.int .i64), (.int .i64), (.int .i64)])], blocks := [], ren := [] }, res := { temps := [(0, .c (.row 4000000))], blocks := [(4000000, .row 50 (.pair (.int .i64) (.pair (.int .i64) (.int .i64))))], ren := [] }, f := fun k v => f27 k v.1.1 v.1.2.1.1 v.1.2.1.2.1 v.1.2.1.2.2.1 }
def gf27 (k : Nat) : Full := { tt := tt, n := 36, fns := [ef37], trunc := [], tails := [], touch := [], opens := [], shapes := [], closes := [], k := k, glob := glob, cuts := [(2, (cf27_l2 k))], joins := [] }
theorem of27_l2 (k : Nat) : CutOk (gf27 k) (cf27_l2 k) (theLoop Tryd.f27 2) := fun ρ v nx => ⟨by kernel_rfl, fun j => by kernel_rfl⟩
theorem qf27 (k : Nat) : AllP (bodyL (gf27 k) Tryd.f27) := by
  have h : (CutOk (gf27 k) (cf27_l2 k) (theLoop Tryd.f27 2) ∧ True) = AllP (bodyL (gf27 k) Tryd.f27) := by kernel_rfl
  exact Eq.mp h (And.intro (of27_l2 k) (trivial))
theorem sf27 : Sound Tryd.prog glob ef27 := sound_of base (fn := Tryd.f27) Tryd.func27 (by kernel_rfl) gf27 (fun _ => ⟨rfl, rfl⟩) (fun k j => ⟨sf37.at j, trivial⟩) qf27 (fun k v => by kernel_rfl)

/-! spec.l30Draw -/
def f14_l3 {ρ : Type} (k : Nat) : Nat → Int → Int → (List Int) → Int → Int → Int → Int → (List (Int × (Int × Int))) → ((((Unit × Unit × Unit) × (((List Int) × Int × Int × Unit) × (Int × Unit × Unit) × (Int × Unit × Unit) × (List (Int × (Int × Int))) × Unit)) → Option ρ) × Unit) → Option ρ
  | 0, _, _, _, _, _, _, _, _, _ => none
  | j + 1, v26, v27, v28, v29, v30, v31, v32, v33, nx =>
    bif (decide (v27 < v32)) then
      (f26 k v27 v28 v29 v30).bind fun x34 =>
      (f26 k v26 x34.2.1.1 x34.2.1.2.1 x34.2.1.2.2.1).bind fun x35 =>
      (f27 k v33 x34.1.1 v27 (wr .i64 (1 + x35.1.1))).bind fun x36 =>
      f14_l3 k j v26 (wr .i64 (v27 + 1)) x35.2.1.1 x35.2.1.2.1 x35.2.1.2.2.1 v31 v32 x36.2.1 nx
    else
      nx.1 (((), (), ()), ((v28, v29, v30, ()), (v31, (), ()), (v32, (), ()), v33, ()))
def cf14_l3 (k : Nat) : Cut := { sp := { temps := [(0, .c (.lit (.ptr 3000000 0 0 0))), (2, .c (.int .i64)), (6, .c (.box 5000000)), (7, .c (.box 5000001)), (8, .c (.int .i64))], blocks := [(3000000, .box 62 [(.sl (.int .u8)), (.int .i64), (.int .u64)]), (5000000, .box 26 [(.int .i64), (.lit .nils)]), (5000001, .box 26 [(.int .i64), (.row 5000002)]), (5000002, .row 50 (.pair (.int .i64) (.pair (.int .i64) (.int .i64))))], ren := [(3000000, some 3000000)] }, outs := [(.exit 0, { temps := [(6, .c (.box 5000000)), (7, .c (.box 5000001))], blocks := [(3000000, .box 62 [(.sl (.int .u8)), (.int .i64), (.int .u64)]), (5000000, .box 26 [(.int .i64), (.lit .nils)]), (5000001, .box 26 [(.int .i64), (.row 5000002)]), (5000002, .row 50 (.pair (.int .i64) (.pair (.int .i64) (.int .i64))))], ren := [(3000000, some 3000000)] })], F := fun ρ j v nx => f14_l3 k j v.1.2.1 v.1.2.2.2.2.1 v.2.1.1 v.2.1.2.1 v.2.1.2.2.1 v.2.2.1.1 v.2.2.2.1.1 v.2.2.2.2.1 nx }
def f14 (k : Nat) (a1 : Int) (a2 : Int) (a3 : (List Int)) (a4 : Int) (a5 : Int) : Option (((Int × Unit × Unit) × Unit) × (((List Int) × Int × Int × Unit) × (List (Int × (Int × Int))) × Unit)) :=
  (f26 k (wr .i64 (a1 - 1)) a3 a4 a5).bind fun x24 =>
  f14_l3 k k a2 1 x24.2.1.1 x24.2.1.2.1 x24.2.1.2.2.1 0 (wr .i64 (2 + x24.1.1)) ([] : List (Int × (Int × Int)))
    (fun x25 : ((Unit × Unit × Unit) × (((List Int) × Int × Int × Unit) × (Int × Unit × Unit) × (Int × Unit × Unit) × (List (Int × (Int × Int))) × Unit)) =>
      some (((x25.2.2.2.1.1, (), ()), ()), ((x25.2.1.1, x25.2.1.2.1, x25.2.1.2.2.1, ()), x25.2.2.2.2.1, ())),
    ())
def ef14 : Entry := { id := 14, ar := { temps := [(0, .c (.box 3000000)), (1, .c (.int .i64)), (2, .c (.int .i64))], blocks := [(3000000, .box 62 [(.sl (.int .u8)), (.int .i64), (.int .u64)])], ren := [] }, res := { temps := [(0, .agg [(.int .i64), (.row 4000000)])], blocks := [(3000000, .box 62 [(.sl (.int .u8)), (.int .i64), (.int .u64)]), (4000000, .row 50 (.pair (.int .i64) (.pair (.int .i64) (.int .i64))))], ren := [(3000000, some 3000000)] }, f := fun k v => f14 k v.1.2.1 v.1.2.2.1 v.2.1.1 v.2.1.2.1 v.2.1.2.2.1 }
def gf14 (k : Nat) : Full := { tt := tt, n := 39, fns := [ef26, ef27], trunc := [], tails := [], touch := [], opens := [], shapes := [], closes := [], k := k, glob := glob, cuts := [(3, (cf14_l3 k))], joins := [] }
theorem of14_l3 (k : Nat) : CutOk (gf14 k) (cf14_l3 k) (theLoop Tryd.f14 3) := fun ρ v nx => ⟨by kernel_rfl, fun j => by kernel_rfl⟩
theorem qf14 (k : Nat) : AllP (bodyL (gf14 k) Tryd.f14) := by
  have h : (CutOk (gf14 k) (cf14_l3 k) (theLoop Tryd.f14 3) ∧ True) = AllP (bodyL (gf14 k) Tryd.f14) := by kernel_rfl
  exact Eq.mp h (And.intro (of14_l3 k) (trivial))
theorem sf14 : Sound Tryd.prog glob ef14 := sound_of base (fn := Tryd.f14) Tryd.func14 (by kernel_rfl) gf14 (fun _ => ⟨rfl, rfl⟩) (fun k j => ⟨sf26.at j, sf27.at j, trivial⟩) qf14 (fun k v => by kernel_rfl)

/-! spec.A2Tree -/
def f5 (k : Nat) (a1 : (List Int)) (a2 : Int) (a3 : Int) : Option (((Int × Unit × Unit) × Unit) × ((List (Int × (Int × Int))) × Unit)) :=
  (f15 k a1).bind fun x3 =>
  (f14 k a2 a3 x3.2.1.1 x3.2.1.2.1 x3.2.1.2.2.1).bind fun x4 =>
  some (((x4.1.1.1, (), ()), ()), (x4.2.2.1, ()))
def ef5 : Entry := { id := 5, ar := { temps := [(0, .c (.sl (.int .u8))), (1, .c (.int .i64)), (2, .c (.int .i64))], blocks := [], ren := [] }, res := { temps := [(0, .agg [(.int .i64), (.row 4000000)])], blocks := [(4000000, .row 50 (.pair (.int .i64) (.pair (.int .i64) (.int .i64))))], ren := [] }, f := fun k v => f5 k v.1.1 v.1.2.1 v.1.2.2.1 }
def gf5 (k : Nat) : Full := { tt := tt, n := 12, fns := [ef15, ef14], trunc := [], tails := [], touch := [], opens := [], shapes := [], closes := [], k := k, glob := glob, cuts := [], joins := [] }
theorem qf5 (k : Nat) : AllP (bodyL (gf5 k) Tryd.f5) := by
  have h : True = AllP (bodyL (gf5 k) Tryd.f5) := by kernel_rfl
  exact Eq.mp h trivial
theorem sf5 : Sound Tryd.prog glob ef5 := sound_of base (fn := Tryd.f5) Tryd.func5 (by kernel_rfl) gf5 (fun _ => ⟨rfl, rfl⟩) (fun k j => ⟨sf15.at j, sf14.at j, trivial⟩) qf5 (fun k v => by kernel_rfl)

/-! impl.within -/
def f32 (k : Nat) (a1 : Int) (a2 : Int) (a3 : Int) : Option ((Bool × Unit) × Unit) :=
  bif (decide (a1 ≥ a2)) then
    some (((decide (a1 ≤ a3)), ()), ())
  else
    some ((false, ()), ())
def ef32 : Entry := { id := 32, ar := { temps := [(0, .c (.int .i64)), (1, .c (.int .i64)), (2, .c (.int .i64))], blocks := [], ren := [] }, res := { temps := [(0, .c .bool)], blocks := [], ren := [] }, f := fun k v => f32 k v.1.1 v.1.2.1 v.1.2.2.1 }
def gf32 (k : Nat) : Full := { tt := tt, n := 15, fns := [], trunc := [], tails := [], touch := [], opens := [], shapes := [], closes := [], k := k, glob := glob, cuts := [], joins := [] }
theorem qf32 (k : Nat) : AllP (bodyL (gf32 k) Tryd.f32) := by
  have h : True = AllP (bodyL (gf32 k) Tryd.f32) := by kernel_rfl
  exact Eq.mp h trivial
theorem sf32 : Sound Tryd.prog glob ef32 := sound_of base (fn := Tryd.f32) Tryd.func32 (by kernel_rfl) gf32 (fun _ => ⟨rfl, rfl⟩) (fun k j => trivial) qf32 (fun k v => by kernel_rfl)

/-! cmp.isNaN[int64] -/
def f61 (k : Nat) (a1 : Int) : Option ((Bool × Unit) × Unit) :=
  some (((a1 != a1), ()), ())
def ef61 : Entry := { id := 61, ar := { temps := [(0, .c (.int .i64))], blocks := [], ren := [] }, res := { temps := [(0, .c .bool)], blocks := [], ren := [] }, f := fun k v => f61 k v.1.1 }
def gf61 (k : Nat) : Full := { tt := tt, n := 6, fns := [], trunc := [], tails := [], touch := [], opens := [], shapes := [], closes := [], k := k, glob := glob, cuts := [], joins := [] }
theorem qf61 (k : Nat) : AllP (bodyL (gf61 k) Tryd.f61) := by
  have h : True = AllP (bodyL (gf61 k) Tryd.f61) := by kernel_rfl
  exact Eq.mp h trivial
theorem sf61 : Sound Tryd.prog glob ef61 := sound_of base (fn := Tryd.f61) Tryd.func61 (by kernel_rfl) gf61 (fun _ => ⟨rfl, rfl⟩) (fun k j => trivial) qf61 (fun k v => by kernel_rfl)

/-! cmp.Compare[int64] -/
def f46 (k : Nat) (a1 : Int) (a2 : Int) : Option ((Int × Unit) × Unit) :=
  (f61 k a1).bind fun x3 =>
  (f61 k a2).bind fun x4 =>
  bif x3.1.1 then
    bif x4.1.1 then
      some ((0, ()), ())
    else
      some (((-1), ()), ())
  else
    bif x4.1.1 then
      some ((1, ()), ())
    else
      bif (decide (a1 < a2)) then
        some (((-1), ()), ())
      else
        bif (decide (a1 > a2)) then
          some ((1, ()), ())
        else
          some ((0, ()), ())
def ef46 : Entry := { id := 46, ar := { temps := [(0, .c (.int .i64)), (1, .c (.int .i64))], blocks := [], ren := [] }, res := { temps := [(0, .c (.int .i64))], blocks := [], ren := [] }, f := fun k v => f46 k v.1.1 v.1.2.1 }
def gf46 (k : Nat) : Full := { tt := tt, n := 20, fns := [ef61], trunc := [], tails := [], touch := [], opens := [], shapes := [], closes := [], k := k, glob := glob, cuts := [], joins := [] }
theorem qf46 (k : Nat) : AllP (bodyL (gf46 k) Tryd.f46) := by
  have h : True = AllP (bodyL (gf46 k) Tryd.f46) := by kernel_rfl
  exact Eq.mp h trivial
theorem sf46 : Sound Tryd.prog glob ef46 := sound_of base (fn := Tryd.f46) Tryd.func46 (by kernel_rfl) gf46 (fun _ => ⟨rfl, rfl⟩) (fun k j => ⟨sf61.at j, trivial⟩) qf46 (fun k v => by kernel_rfl)

/-! cmp.Or[int] -/
def f45_l3 {ρ : Type} (k : Nat) : Nat → Int → (List Int) → Int → Int → ((((Int × Unit) × Unit) → Option ρ) × (((Int × Unit) × Unit) → Option ρ) × Unit) → Option ρ
  | 0, _, _, _, _, _ => none
  | j + 1, v10, v11, v12, v13, nx =>
    bif (decide (v13 < v12)) then
      (getI v11 v13).bind fun x14 =>
      bif (x14 != v10) then
        nx.2.1 ((x14, ()), ())
      else
        f45_l3 k j v10 v11 v12 (wr .i64 (v13 + 1)) nx
    else
      nx.1 ((v10, ()), ())
def cf45_l3 (k : Nat) : Cut := { sp := { temps := [(3, .c (.int .i64)), (6, .c (.sl (.int .i64))), (7, .c (.int .i64)), (8, .c (.int .i64))], blocks := [], ren := [] }, outs := [(.exit 0, { temps := [(3, .c (.int .i64))], blocks := [], ren := [] }), (.ret, { temps := [(2, .c (.int .i64))], blocks := [], ren := [] })], F := fun ρ j v nx => f45_l3 k j v.1.1 v.1.2.1 v.1.2.2.1 v.1.2.2.2.1 nx }
def f45 (k : Nat) (a1 : (List Int)) : Option ((Int × Unit) × Unit) :=
  f45_l3 k k 0 a1 (a1.length : Int) 0
    (fun x8 : ((Int × Unit) × Unit) =>
      some ((x8.1.1, ()), ()),
    fun x9 : ((Int × Unit) × Unit) =>
      some ((x9.1.1, ()), ()),
    ())
def ef45 : Entry := { id := 45, ar := { temps := [(0, .c (.sl (.int .i64)))], blocks := [], ren := [] }, res := { temps := [(0, .c (.int .i64))], blocks := [], ren := [] }, f := fun k v => f45 k v.1.1 }
def gf45 (k : Nat) : Full := { tt := tt, n := 18, fns := [], trunc := [], tails := [], touch := [], opens := [], shapes := [], closes := [], k := k, glob := glob, cuts := [(3, (cf45_l3 k))], joins := [] }
theorem of45_l3 (k : Nat) : CutOk (gf45 k) (cf45_l3 k) (theLoop Tryd.f45 3) := fun ρ v nx => ⟨by kernel_rfl, fun j => by kernel_rfl⟩
theorem qf45 (k : Nat) : AllP (bodyL (gf45 k) Tryd.f45) := by
  have h : (CutOk (gf45 k) (cf45_l3 k) (theLoop Tryd.f45 3) ∧ True) = AllP (bodyL (gf45 k) Tryd.f45) := by kernel_rfl
  exact Eq.mp h (And.intro (of45_l3 k) (trivial))
theorem sf45 : Sound Tryd.prog glob ef45 := sound_of base (fn := Tryd.f45) Tryd.func45 (by kernel_rfl) gf45 (fun _ => ⟨rfl, rfl⟩) (fun k j => trivial) qf45 (fun k v => by kernel_rfl)

/-! impl.TreeEdge] -/
def f47 (k : Nat) (a1 : (List (Int × (Int × Int)))) : Option ((Int × Unit) × Unit) :=
  some (((a1.length : Int), ()), ())
def ef47 : Entry := { id := 47, ar := { temps := [(0, .c (.sl (.pair (.int .i64) (.pair (.int .i64) (.int .i64)))))], blocks := [], ren := [] }, res := { temps := [(0, .c (.int .i64))], blocks := [], ren := [] }, f := fun k v => f47 k v.1.1 }
def gf47 (k : Nat) : Full := { tt := tt, n := 5, fns := [], trunc := [], tails := [], touch := [], opens := [], shapes := [], closes := [], k := k, glob := glob, cuts := [], joins := [] }
theorem qf47 (k : Nat) : AllP (bodyL (gf47 k) Tryd.f47) := by
  have h : True = AllP (bodyL (gf47 k) Tryd.f47) := by kernel_rfl
  exact Eq.mp h trivial
theorem sf47 : Sound Tryd.prog glob ef47 := sound_of base (fn := Tryd.f47) Tryd.func47 (by kernel_rfl) gf47 (fun _ => ⟨rfl, rfl⟩) (fun k j => trivial) qf47 (fun k v => by kernel_rfl)

/-! impl.Tree).areEdges -/
def f33_l2 {ρ : Type} (k : Nat) : Nat → (List (Int × (Int × Int))) → Int → Int → Int → (List (Int × (Int × Int))) → ((((Unit × Unit) × ((Int × (List (Int × (Int × Int))) × Unit) × Unit)) → Option ρ) × (((Bool × Unit) × Unit) → Option ρ) × Unit) → Option ρ
  | 0, _, _, _, _, _, _ => none
  | j + 1, v28, v29, v30, v31, v32, nx =>
    bif (decide (v30 < v29)) then
      (getI v28 v30).bind fun x33 =>
      (f32 k x33.2.1 1 (wr .i64 (v31 - 1))).bind fun x37 =>
      bif (!x37.1.1) then
        nx.2.1 ((false, ()), ())
      else
        (f32 k x33.1 0 (wr .i64 (x33.2.1 - 1))).bind fun x38 =>
        bif (!x38.1.1) then
          nx.2.1 ((false, ()), ())
        else
          (f32 k x33.2.2 1 20).bind fun x39 =>
          bif (!x39.1.1) then
            nx.2.1 ((false, ()), ())
          else
            bif (decide (v30 > 0)) then
              (getI v32 (wr .i64 (v30 - 1))).bind fun x40 =>
              (f46 k x40.1 x33.1).bind fun x41 =>
              (getI v32 (wr .i64 (v30 - 1))).bind fun x42 =>
              (f46 k x42.2.1 x33.2.1).bind fun x43 =>
              (f45 k ([x41.1.1, x43.1.1])).bind fun x44 =>
              bif (decide (x44.1.1 ≥ 0)) then
                nx.2.1 ((false, ()), ())
              else
                f33_l2 k j v28 v29 (wr .i64 (v30 + 1)) v31 v32 nx
            else
              f33_l2 k j v28 v29 (wr .i64 (v30 + 1)) v31 v32 nx
    else
      nx.1 (((), ()), ((v31, v32, ()), ()))
def cf33_l2 (k : Nat) : Cut := { sp := { temps := [(1, .c (.box 5000000)), (6, .c (.sl (.pair (.int .i64) (.pair (.int .i64) (.int .i64))))), (7, .c (.int .i64)), (8, .c (.int .i64))], blocks := [(5000000, .box 26 [(.int .i64), (.sl (.pair (.int .i64) (.pair (.int .i64) (.int .i64))))])], ren := [] }, outs := [(.exit 0, { temps := [(1, .c (.box 5000000))], blocks := [(5000000, .box 26 [(.int .i64), (.sl (.pair (.int .i64) (.pair (.int .i64) (.int .i64))))])], ren := [] }), (.ret, { temps := [(2, .c .bool)], blocks := [], ren := [] })], F := fun ρ j v nx => f33_l2 k j v.1.2.1 v.1.2.2.1 v.1.2.2.2.1 v.2.1.1 v.2.1.2.1 nx }
def f33 (k : Nat) (a1 : Int) (a2 : (List (Int × (Int × Int)))) : Option ((Bool × Unit) × Unit) :=
  f33_l2 k k a2 (a2.length : Int) 0 a1 a2
    (fun x25 : ((Unit × Unit) × ((Int × (List (Int × (Int × Int))) × Unit) × Unit)) =>
      (f47 k x25.2.1.2.1).bind fun x26 =>
      some (((x26.1.1 == (wr .i64 (x25.2.1.1 - 1))), ()), ()),
    fun x27 : ((Bool × Unit) × Unit) =>
      some ((x27.1.1, ()), ()),
    ())
def ef33 : Entry := { id := 33, ar := { temps := [(0, .agg [(.int .i64), (.sl (.pair (.int .i64) (.pair (.int .i64) (.int .i64))))])], blocks := [], ren := [] }, res := { temps := [(0, .c .bool)], blocks := [], ren := [] }, f := fun k v => f33 k v.1.1.1 v.1.1.2.1 }
def gf33 (k : Nat) : Full := { tt := tt, n := 70, fns := [ef32, ef46, ef45, ef47], trunc := [], tails := [], touch := [], opens := [], shapes := [], closes := [], k := k, glob := glob, cuts := [(2, (cf33_l2 k))], joins := [] }
theorem of33_l2 (k : Nat) : CutOk (gf33 k) (cf33_l2 k) (theLoop Tryd.f33 2) := fun ρ v nx => ⟨by kernel_rfl, fun j => by kernel_rfl⟩
theorem qf33 (k : Nat) : AllP (bodyL (gf33 k) Tryd.f33) := by
  have h : (CutOk (gf33 k) (cf33_l2 k) (theLoop Tryd.f33 2) ∧ True) = AllP (bodyL (gf33 k) Tryd.f33) := by kernel_rfl
  exact Eq.mp h (And.intro (of33_l2 k) (trivial))
theorem sf33 : Sound Tryd.prog glob ef33 := sound_of base (fn := Tryd.f33) Tryd.func33 (by kernel_rfl) gf33 (fun _ => ⟨rfl, rfl⟩) (fun k j => ⟨sf32.at j, sf46.at j, sf45.at j, sf47.at j, trivial⟩) qf33 (fun k v => by kernel_rfl)

/-! impl.Tree).far -/
def f25_l3 {ρ : Type} (k : Nat) : Nat → Int → Int → Int → Int → (List (Int × (Int × Int))) → (List Int) → (List Int) → ((((Int × Unit × Unit × Unit × Unit) × ((Int × (List (Int × (Int × Int))) × Unit) × (List Int) × (List Int) × Unit)) → Option ρ) × Unit) → Option ρ
  | 0, _, _, _, _, _, _, _, _ => none
  | j + 1, v60, v61, v62, v63, v64, v65, v66, nx =>
    bif (decide (v62 < v61)) then
      bif decide (0 ≤ v62) && decide (v62 < (v65.length : Int)) then
        (v65[v62.toNat]?).bind fun _ =>
        bif decide (0 ≤ v62) && decide (v62 < (v66.length : Int)) then
          (v66[v62.toNat]?).bind fun _ =>
          f25_l3 k j v60 v61 (wr .i64 (v62 + 1)) v63 v64 (v65.set v62.toNat (-1)) (v66.set v62.toNat (-1)) nx
        else
          none
      else
        none
    else
      nx.1 ((v60, (), (), (), ()), ((v63, v64, ()), v65, v66, ()))
def cf25_l3 (k : Nat) : Cut := { sp := { temps := [(1, .c (.int .i64)), (2, .c (.box 5000000)), (6, .c (.row 5000001)), (7, .c (.row 5000002)), (21, .c (.int .i64)), (22, .c (.int .i64))], blocks := [(5000000, .box 26 [(.int .i64), (.sl (.pair (.int .i64) (.pair (.int .i64) (.int .i64))))]), (5000001, .row 2 (.int .i64)), (5000002, .row 2 (.int .i64))], ren := [] }, outs := [(.exit 0, { temps := [(1, .c (.int .i64)), (2, .c (.box 5000000)), (6, .c (.row 5000001)), (7, .c (.row 5000002))], blocks := [(5000000, .box 26 [(.int .i64), (.sl (.pair (.int .i64) (.pair (.int .i64) (.int .i64))))]), (5000001, .row 2 (.int .i64)), (5000002, .row 2 (.int .i64))], ren := [] })], F := fun ρ j v nx => f25_l3 k j v.1.1 v.1.2.2.2.2.1 v.1.2.2.2.2.2.1 v.2.1.1 v.2.1.2.1 v.2.2.1 v.2.2.2.1 nx }
def f25_l15 {ρ : Type} (k : Nat) : Nat → Bool → (List (Int × (Int × Int))) → Int → Int → Int → Int → Int → Int → Int → Int → (List (Int × (Int × Int))) → (List Int) → (List Int) → Int → Int → Int → ((((Unit × Unit × Unit × Bool × (List (Int × (Int × Int))) × Int × Int × Unit) × ((Int × (List (Int × (Int × Int))) × Unit) × (List Int) × (List Int) × Unit)) → Option ρ) × Unit) → Option ρ
  | 0, _, _, _, _, _, _, _, _, _, _, _, _, _, _, _, _, _ => none
  | j + 1, v69, v70, v71, v72, v73, v74, v75, v76, v77, v78, v79, v80, v81, v82, v83, v84, nx =>
    bif (decide (v77 < 2)) then
      bif decide (v77 = 0) then
        bif decide (0 ≤ v73) && decide (v73 < (v80.length : Int)) then
          (v80[v73.toNat]?).bind fun x90 =>
          bif (decide (x90 ≥ 0)) then
            bif decide (0 ≤ v74) && decide (v74 < (v80.length : Int)) then
              (v80[v74.toNat]?).bind fun x91 =>
              bif (decide (x91 < 0)) then
                bif decide (0 ≤ v73) && decide (v73 < (v80.length : Int)) then
                  (v80[v73.toNat]?).bind fun x92 =>
                  bif decide (0 ≤ v74) && decide (v74 < (v80.length : Int)) then
                    (v80[v74.toNat]?).bind fun _ =>
                    bif decide (0 ≤ v74) && decide (v74 < (v81.length : Int)) then
                      (v81[v74.toNat]?).bind fun _ =>
                      f25_l15 k j true v70 v71 v72 v73 v74 v75 v76 (wr .i64 (v77 + 1)) v78 v79 (v80.set v74.toNat (wr .i64 (x92 + v84))) (v81.set v74.toNat v73) v82 v83 v84 nx
                    else
                      none
                  else
                    none
                else
                  none
              else
                f25_l15 k j v69 v70 v71 v72 v73 v74 v75 v76 (wr .i64 (v77 + 1)) v78 v79 v80 v81 v82 v83 v84 nx
            else
              none
          else
            f25_l15 k j v69 v70 v71 v72 v73 v74 v75 v76 (wr .i64 (v77 + 1)) v78 v79 v80 v81 v82 v83 v84 nx
        else
          none
      else
        bif decide (v77 = 1) then
          bif decide (0 ≤ v75) && decide (v75 < (v80.length : Int)) then
            (v80[v75.toNat]?).bind fun x85 =>
            bif (decide (x85 ≥ 0)) then
              bif decide (0 ≤ v76) && decide (v76 < (v80.length : Int)) then
                (v80[v76.toNat]?).bind fun x86 =>
                bif (decide (x86 < 0)) then
                  bif decide (0 ≤ v75) && decide (v75 < (v80.length : Int)) then
                    (v80[v75.toNat]?).bind fun x87 =>
                    bif decide (0 ≤ v76) && decide (v76 < (v80.length : Int)) then
                      (v80[v76.toNat]?).bind fun _ =>
                      bif decide (0 ≤ v76) && decide (v76 < (v81.length : Int)) then
                        (v81[v76.toNat]?).bind fun _ =>
                        f25_l15 k j true v70 v71 v72 v73 v74 v75 v76 (wr .i64 (v77 + 1)) v78 v79 (v80.set v76.toNat (wr .i64 (x87 + v84))) (v81.set v76.toNat v75) v82 v83 v84 nx
                      else
                        none
                    else
                      none
                  else
                    none
                else
                  f25_l15 k j v69 v70 v71 v72 v73 v74 v75 v76 (wr .i64 (v77 + 1)) v78 v79 v80 v81 v82 v83 v84 nx
              else
                none
            else
              f25_l15 k j v69 v70 v71 v72 v73 v74 v75 v76 (wr .i64 (v77 + 1)) v78 v79 v80 v81 v82 v83 v84 nx
          else
            none
        else
          none
    else
      nx.1 (((), (), (), v69, v70, v71, v72, ()), ((v78, v79, ()), v80, v81, ()))
def cf25_l15 (k : Nat) : Cut := { sp := { temps := [(2, .c (.box 5000000)), (6, .c (.row 5000001)), (7, .c (.row 5000002)), (9, .c .bool), (11, .c (.box 5000003)), (37, .c (.sl (.pair (.int .i64) (.pair (.int .i64) (.int .i64))))), (38, .c (.int .i64)), (39, .c (.int .i64)), (53, .agg [(.int .i64), (.int .i64), (.int .i64), (.int .i64)]), (54, .c (.int .i64))], blocks := [(5000000, .box 26 [(.int .i64), (.sl (.pair (.int .i64) (.pair (.int .i64) (.int .i64))))]), (5000001, .row 2 (.int .i64)), (5000002, .row 2 (.int .i64)), (5000003, .box 50 [(.int .i64), (.int .i64), (.int .i64)])], ren := [] }, outs := [(.exit 6, { temps := [(2, .c (.box 5000000)), (6, .c (.row 5000001)), (7, .c (.row 5000002)), (9, .c .bool), (37, .c (.sl (.pair (.int .i64) (.pair (.int .i64) (.int .i64))))), (38, .c (.int .i64)), (39, .c (.int .i64))], blocks := [(5000000, .box 26 [(.int .i64), (.sl (.pair (.int .i64) (.pair (.int .i64) (.int .i64))))]), (5000001, .row 2 (.int .i64)), (5000002, .row 2 (.int .i64))], ren := [] })], F := fun ρ j v nx => f25_l15 k j v.1.2.2.2.1 v.1.2.2.2.2.2.1 v.1.2.2.2.2.2.2.1 v.1.2.2.2.2.2.2.2.1 v.1.2.2.2.2.2.2.2.2.1.1 v.1.2.2.2.2.2.2.2.2.1.2.1 v.1.2.2.2.2.2.2.2.2.1.2.2.1 v.1.2.2.2.2.2.2.2.2.1.2.2.2.1 v.1.2.2.2.2.2.2.2.2.2.1 v.2.1.1 v.2.1.2.1 v.2.2.1 v.2.2.2.1 v.2.2.2.2.1.1 v.2.2.2.2.1.2.1 v.2.2.2.2.1.2.2.1 nx }
def f25_l12 {ρ : Type} (k : Nat) : Nat → Bool → (List (Int × (Int × Int))) → Int → Int → Int → (List (Int × (Int × Int))) → (List Int) → (List Int) → ((((Unit × Unit × Unit × Bool × Unit) × ((Int × (List (Int × (Int × Int))) × Unit) × (List Int) × (List Int) × Unit)) → Option ρ) × Unit) → Option ρ
  | 0, _, _, _, _, _, _, _, _, _ => none
  | j + 1, v95, v96, v97, v98, v99, v100, v101, v102, nx =>
    bif (decide (v98 < v97)) then
      (getI v96 v98).bind fun x103 =>
      f25_l15 k k v95 v96 v97 v98 x103.1 x103.2.1 x103.2.1 x103.1 0 v99 v100 v101 v102 x103.1 x103.2.1 x103.2.2
        (fun x104 : ((Unit × Unit × Unit × Bool × (List (Int × (Int × Int))) × Int × Int × Unit) × ((Int × (List (Int × (Int × Int))) × Unit) × (List Int) × (List Int) × Unit)) =>
          f25_l12 k j x104.1.2.2.2.1 x104.1.2.2.2.2.1 x104.1.2.2.2.2.2.1 (wr .i64 (x104.1.2.2.2.2.2.2.1 + 1)) x104.2.1.1 x104.2.1.2.1 x104.2.2.1 x104.2.2.2.1 nx,
        ())
    else
      nx.1 (((), (), (), v95, ()), ((v99, v100, ()), v101, v102, ()))
def cf25_l12 (k : Nat) : Cut := { sp := { temps := [(2, .c (.box 5000000)), (6, .c (.row 5000001)), (7, .c (.row 5000002)), (9, .c .bool), (37, .c (.sl (.pair (.int .i64) (.pair (.int .i64) (.int .i64))))), (38, .c (.int .i64)), (39, .c (.int .i64))], blocks := [(5000000, .box 26 [(.int .i64), (.sl (.pair (.int .i64) (.pair (.int .i64) (.int .i64))))]), (5000001, .row 2 (.int .i64)), (5000002, .row 2 (.int .i64))], ren := [] }, outs := [(.exit 4, { temps := [(2, .c (.box 5000000)), (6, .c (.row 5000001)), (7, .c (.row 5000002)), (9, .c .bool)], blocks := [(5000000, .box 26 [(.int .i64), (.sl (.pair (.int .i64) (.pair (.int .i64) (.int .i64))))]), (5000001, .row 2 (.int .i64)), (5000002, .row 2 (.int .i64))], ren := [] })], F := fun ρ j v nx => f25_l12 k j v.1.2.2.2.1 v.1.2.2.2.2.1 v.1.2.2.2.2.2.1 v.1.2.2.2.2.2.2.1 v.2.1.1 v.2.1.2.1 v.2.2.1 v.2.2.2.1 nx }
def f25_l9 {ρ : Type} (k : Nat) : Nat → Bool → Int → (List (Int × (Int × Int))) → (List Int) → (List Int) → ((((Unit × Unit × Unit) × ((List Int) × (List Int) × Unit)) → Option ρ) × Unit) → Option ρ
  | 0, _, _, _, _, _, _ => none
  | j + 1, v105, v106, v107, v108, v109, nx =>
    bif v105 then
      f25_l12 k k false v107 (v107.length : Int) 0 v106 v107 v108 v109
        (fun x110 : ((Unit × Unit × Unit × Bool × Unit) × ((Int × (List (Int × (Int × Int))) × Unit) × (List Int) × (List Int) × Unit)) =>
          f25_l9 k j x110.1.2.2.2.1 x110.2.1.1 x110.2.1.2.1 x110.2.2.1 x110.2.2.2.1 nx,
        ())
    else
      nx.1 (((), (), ()), (v108, v109, ()))
def cf25_l9 (k : Nat) : Cut := { sp := { temps := [(2, .c (.box 5000000)), (6, .c (.row 5000001)), (7, .c (.row 5000002)), (9, .c .bool)], blocks := [(5000000, .box 26 [(.int .i64), (.sl (.pair (.int .i64) (.pair (.int .i64) (.int .i64))))]), (5000001, .row 2 (.int .i64)), (5000002, .row 2 (.int .i64))], ren := [] }, outs := [(.exit 2, { temps := [(6, .c (.row 5000000)), (7, .c (.row 5000001))], blocks := [(5000000, .row 2 (.int .i64)), (5000001, .row 2 (.int .i64))], ren := [] })], F := fun ρ j v nx => f25_l9 k j v.1.2.2.2.1 v.2.1.1 v.2.1.2.1 v.2.2.1 v.2.2.2.1 nx }
def f25 (k : Nat) (a1 : Int) (a2 : (List (Int × (Int × Int)))) (a3 : Int) : Option ((Unit × Unit × Unit) × ((List Int) × (List Int) × Unit)) :=
  bif decide (a1 = a1) && decide (0 ≤ a1) && decide (a1 * 8 ≤ roomy) then
    bif decide (a1 = a1) && decide (0 ≤ a1) && decide (a1 * 8 ≤ roomy) then
      f25_l3 k k a3 ((List.replicate a1.toNat (0 : Int)).length : Int) 0 a1 a2 (List.replicate a1.toNat (0 : Int)) (List.replicate a1.toNat (0 : Int))
        (fun x57 : ((Int × Unit × Unit × Unit × Unit) × ((Int × (List (Int × (Int × Int))) × Unit) × (List Int) × (List Int) × Unit)) =>
          bif decide (0 ≤ x57.1.1) && decide (x57.1.1 < (x57.2.2.1.length : Int)) then
            (x57.2.2.1[x57.1.1.toNat]?).bind fun _ =>
            f25_l9 k k true x57.2.1.1 x57.2.1.2.1 (x57.2.2.1.set x57.1.1.toNat 0) x57.2.2.2.1
              (fun x59 : ((Unit × Unit × Unit) × ((List Int) × (List Int) × Unit)) =>
                some (((), (), ()), (x59.2.1, x59.2.2.1, ())),
              ())
          else
            none,
        ())
    else
      none
  else
    none
def ef25 : Entry := { id := 25, ar := { temps := [(0, .agg [(.int .i64), (.sl (.pair (.int .i64) (.pair (.int .i64) (.int .i64))))]), (1, .c (.int .i64))], blocks := [], ren := [] }, res := { temps := [(0, .c (.row 4000000)), (1, .c (.row 4000001))], blocks := [(4000000, .row 2 (.int .i64)), (4000001, .row 2 (.int .i64))], ren := [] }, f := fun k v => f25 k v.1.1.1 v.1.1.2.1 v.1.2.1 }
def gf25 (k : Nat) : Full := { tt := tt, n := 93, fns := [], trunc := [], tails := [], touch := [(18, [(17, [5000001]), (19, [5000002])])], opens := [], shapes := [], closes := [], boxes := [13], k := k, glob := glob, cuts := [(3, (cf25_l3 k)), (15, (cf25_l15 k)), (12, (cf25_l12 k)), (9, (cf25_l9 k))], joins := [] }
theorem of25_l3 (k : Nat) : CutOk (gf25 k) (cf25_l3 k) (theLoop Tryd.f25 3) := fun ρ v nx => ⟨by kernel_rfl, fun j => by kernel_rfl⟩
theorem of25_l15 (k : Nat) : CutOk (gf25 k) (cf25_l15 k) (theLoop Tryd.f25 15) := fun ρ v nx => ⟨by kernel_rfl, fun j => by kernel_rfl⟩
theorem of25_l12 (k : Nat) : CutOk (gf25 k) (cf25_l12 k) (theLoop Tryd.f25 12) := fun ρ v nx => ⟨by kernel_rfl, fun j => by kernel_rfl⟩
theorem of25_l9 (k : Nat) : CutOk (gf25 k) (cf25_l9 k) (theLoop Tryd.f25 9) := fun ρ v nx => ⟨by kernel_rfl, fun j => by kernel_rfl⟩
theorem qf25 (k : Nat) : AllP (bodyL (gf25 k) Tryd.f25) := by
  have h : (CutOk (gf25 k) (cf25_l3 k) (theLoop Tryd.f25 3) ∧ CutOk (gf25 k) (cf25_l15 k) (theLoop Tryd.f25 15) ∧ CutOk (gf25 k) (cf25_l12 k) (theLoop Tryd.f25 12) ∧ CutOk (gf25 k) (cf25_l9 k) (theLoop Tryd.f25 9) ∧ True) = AllP (bodyL (gf25 k) Tryd.f25) := by kernel_rfl
  exact Eq.mp h (And.intro (of25_l3 k) (And.intro (of25_l15 k) (And.intro (of25_l12 k) (And.intro (of25_l9 k) (trivial)))))
theorem sf25 : Sound Tryd.prog glob ef25 := sound_of base (fn := Tryd.f25) Tryd.func25 (by kernel_rfl) gf25 (fun _ => ⟨rfl, rfl⟩) (fun k j => trivial) qf25 (fun k v => by kernel_rfl)

/-! slices.Min[[]int64,int64] -/
def f34_l5 {ρ : Type} (k : Nat) : Nat → (List Int) → Int → Int → ((((Int × Unit) × Unit) → Option ρ) × Unit) → Option ρ
  | 0, _, _, _, _ => none
  | j + 1, v9, v10, v11, nx =>
    bif (decide (v11 < (v9.length : Int))) then
      (getI v9 v11).bind fun x12 =>
      f34_l5 k j v9 (bif decide (x12 < v10) then x12 else v10) (wr .i64 (v11 + 1)) nx
    else
      nx.1 ((v10, ()), ())
def cf34_l5 (k : Nat) : Cut := { sp := { temps := [(0, .c (.sl (.int .i64))), (3, .c (.int .i64)), (4, .c (.int .i64))], blocks := [], ren := [] }, outs := [(.exit 0, { temps := [(3, .c (.int .i64))], blocks := [], ren := [] })], F := fun ρ j v nx => f34_l5 k j v.1.1 v.1.2.1 v.1.2.2.1 nx }
def f34 (k : Nat) (a1 : (List Int)) : Option ((Int × Unit) × Unit) :=
  bif (decide ((a1.length : Int) < 1)) then
    none
  else
    (getI a1 0).bind fun x7 =>
    f34_l5 k k a1 x7 1
      (fun x8 : ((Int × Unit) × Unit) =>
        some ((x8.1.1, ()), ()),
      ())
def ef34 : Entry := { id := 34, ar := { temps := [(0, .c (.sl (.int .i64)))], blocks := [], ren := [] }, res := { temps := [(0, .c (.int .i64))], blocks := [], ren := [] }, f := fun k v => f34 k v.1.1 }
def gf34 (k : Nat) : Full := { tt := tt, n := 25, fns := [], trunc := [], tails := [], touch := [], opens := [], shapes := [], closes := [], k := k, glob := glob, cuts := [(5, (cf34_l5 k))], joins := [] }
theorem of34_l5 (k : Nat) : CutOk (gf34 k) (cf34_l5 k) (theLoop Tryd.f34 5) := fun ρ v nx => ⟨by kernel_rfl, fun j => by kernel_rfl⟩
theorem qf34 (k : Nat) : AllP (bodyL (gf34 k) Tryd.f34) := by
  have h : (CutOk (gf34 k) (cf34_l5 k) (theLoop Tryd.f34 5) ∧ True) = AllP (bodyL (gf34 k) Tryd.f34) := by kernel_rfl
  exact Eq.mp h (And.intro (of34_l5 k) (trivial))
theorem sf34 : Sound Tryd.prog glob ef34 := sound_of base (fn := Tryd.f34) Tryd.func34 (by kernel_rfl) gf34 (fun _ => ⟨rfl, rfl⟩) (fun k j => trivial) qf34 (fun k v => by kernel_rfl)

/-! impl.ValidTree -/
def f19 (k : Nat) (a1 : Int) (a2 : (List (Int × (Int × Int)))) : Option ((Bool × Unit) × Unit) :=
  (f32 k a1 2 16).bind fun x9 =>
  bif (!x9.1.1) then
    some ((false, ()), ())
  else
    (f33 k a1 a2).bind fun x10 =>
    bif (!x10.1.1) then
      some ((false, ()), ())
    else
      (f25 k a1 a2 0).bind fun x11 =>
      (f34 k x11.2.1).bind fun x12 =>
      some (((decide (x12.1.1 ≥ 0)), ()), ())
def ef19 : Entry := { id := 19, ar := { temps := [(0, .agg [(.int .i64), (.sl (.pair (.int .i64) (.pair (.int .i64) (.int .i64))))])], blocks := [], ren := [] }, res := { temps := [(0, .c .bool)], blocks := [], ren := [] }, f := fun k v => f19 k v.1.1.1 v.1.1.2.1 }
def gf19 (k : Nat) : Full := { tt := tt, n := 22, fns := [ef32, ef33, ef25, ef34], trunc := [], tails := [], touch := [], opens := [], shapes := [], closes := [], k := k, glob := glob, cuts := [], joins := [] }
theorem qf19 (k : Nat) : AllP (bodyL (gf19 k) Tryd.f19) := by
  have h : True = AllP (bodyL (gf19 k) Tryd.f19) := by kernel_rfl
  exact Eq.mp h trivial
theorem sf19 : Sound Tryd.prog glob ef19 := sound_of base (fn := Tryd.f19) Tryd.func19 (by kernel_rfl) gf19 (fun _ => ⟨rfl, rfl⟩) (fun k j => ⟨sf32.at j, sf33.at j, sf25.at j, sf34.at j, trivial⟩) qf19 (fun k v => by kernel_rfl)

/-! impl.decimal -/
def f30 (k : Nat) (a1 : Int) : Option ((ByteArray × Unit) × Unit) := gDecimal a1
def ef30 : Entry := { id := 30, ar := { temps := [(0, .c (.int .i64))], blocks := [], ren := [] }, res := { temps := [(0, .c .str)], blocks := [], ren := [] }, f := fun k v => f30 k v.1.1 }
theorem sf30 : Sound Tryd.prog glob ef30 := gDecimal_sound

/-! impl.treeText -/
def f20_l3 {ρ : Type} (k : Nat) : Nat → ByteArray → (List (Int × (Int × Int))) → Int → Int → ((((ByteArray × Unit) × Unit) → Option ρ) × Unit) → Option ρ
  | 0, _, _, _, _, _ => none
  | j + 1, v15, v16, v17, v18, nx =>
    bif (decide (v18 < v17)) then
      (getI v16 v18).bind fun x19 =>
      (f30 k x19.1).bind fun x20 =>
      bif decide ((((ByteArray.mk #[32]).size + x20.1.1.size : Nat) : Int) > 9223372036854775807) then
        none
      else
        bif decide (((((ByteArray.mk #[32]) ++ x20.1.1).size + (ByteArray.mk #[45]).size : Nat) : Int) > 9223372036854775807) then
          none
        else
          let x21 : ByteArray := (((ByteArray.mk #[32]) ++ x20.1.1) ++ (ByteArray.mk #[45]))
          (f30 k x19.2.1).bind fun x22 =>
          bif decide (((x21.size + x22.1.1.size : Nat) : Int) > 9223372036854775807) then
            none
          else
            bif decide ((((x21 ++ x22.1.1).size + (ByteArray.mk #[58]).size : Nat) : Int) > 9223372036854775807) then
              none
            else
              (f30 k x19.2.2).bind fun x23 =>
              bif decide (((((x21 ++ x22.1.1) ++ (ByteArray.mk #[58])).size + x23.1.1.size : Nat) : Int) > 9223372036854775807) then
                none
              else
                let x24 : ByteArray := (((x21 ++ x22.1.1) ++ (ByteArray.mk #[58])) ++ x23.1.1)
                bif decide (((v15.size + x24.size : Nat) : Int) > 9223372036854775807) then
                  none
                else
                  f20_l3 k j (v15 ++ x24) v16 v17 (wr .i64 (v18 + 1)) nx
    else
      nx.1 ((v15, ()), ())
def cf20_l3 (k : Nat) : Cut := { sp := { temps := [(3, .c .str), (10, .c (.sl (.pair (.int .i64) (.pair (.int .i64) (.int .i64))))), (11, .c (.int .i64)), (12, .c (.int .i64))], blocks := [], ren := [] }, outs := [(.exit 0, { temps := [(3, .c .str)], blocks := [], ren := [] })], F := fun ρ j v nx => f20_l3 k j v.1.1 v.1.2.1 v.1.2.2.1 v.1.2.2.2.1 nx }
def f20 (k : Nat) (a1 : Int) (a2 : (List (Int × (Int × Int)))) : Option ((ByteArray × Unit) × Unit) :=
  (f30 k a1).bind fun x13 =>
  f20_l3 k k x13.1.1 a2 (a2.length : Int) 0
    (fun x14 : ((ByteArray × Unit) × Unit) =>
      some ((x14.1.1, ()), ()),
    ())
def ef20 : Entry := { id := 20, ar := { temps := [(0, .agg [(.int .i64), (.sl (.pair (.int .i64) (.pair (.int .i64) (.int .i64))))])], blocks := [], ren := [] }, res := { temps := [(0, .c .str)], blocks := [], ren := [] }, f := fun k v => f20 k v.1.1.1 v.1.1.2.1 }
def gf20 (k : Nat) : Full := { tt := tt, n := 34, fns := [ef30], trunc := [], tails := [], touch := [], opens := [], shapes := [], closes := [], k := k, glob := glob, cuts := [(3, (cf20_l3 k))], joins := [] }
theorem of20_l3 (k : Nat) : CutOk (gf20 k) (cf20_l3 k) (theLoop Tryd.f20 3) := fun ρ v nx => ⟨by kernel_rfl, fun j => by kernel_rfl⟩
theorem qf20 (k : Nat) : AllP (bodyL (gf20 k) Tryd.f20) := by
  have h : (CutOk (gf20 k) (cf20_l3 k) (theLoop Tryd.f20 3) ∧ True) = AllP (bodyL (gf20 k) Tryd.f20) := by kernel_rfl
  exact Eq.mp h (And.intro (of20_l3 k) (trivial))
theorem sf20 : Sound Tryd.prog glob ef20 := sound_of base (fn := Tryd.f20) Tryd.func20 (by kernel_rfl) gf20 (fun _ => ⟨rfl, rfl⟩) (fun k j => ⟨sf30.at j, trivial⟩) qf20 (fun k v => by kernel_rfl)

/-! impl.TreeText -/
def f7 (k : Nat) (a1 : Int) (a2 : (List (Int × (Int × Int)))) : Option ((ByteArray × Unit) × Unit) :=
  (f19 k a1 a2).bind fun x3 =>
  bif (!x3.1.1) then
    some ((ByteArray.empty, ()), ())
  else
    (f20 k a1 a2).bind fun x4 =>
    some ((x4.1.1, ()), ())
def ef7 : Entry := { id := 7, ar := { temps := [(0, .agg [(.int .i64), (.sl (.pair (.int .i64) (.pair (.int .i64) (.int .i64))))])], blocks := [], ren := [] }, res := { temps := [(0, .c .str)], blocks := [], ren := [] }, f := fun k v => f7 k v.1.1.1 v.1.1.2.1 }
def gf7 (k : Nat) : Full := { tt := tt, n := 8, fns := [ef19, ef20], trunc := [], tails := [], touch := [], opens := [], shapes := [], closes := [], k := k, glob := glob, cuts := [], joins := [] }
theorem qf7 (k : Nat) : AllP (bodyL (gf7 k) Tryd.f7) := by
  have h : True = AllP (bodyL (gf7 k) Tryd.f7) := by kernel_rfl
  exact Eq.mp h trivial
theorem sf7 : Sound Tryd.prog glob ef7 := sound_of base (fn := Tryd.f7) Tryd.func7 (by kernel_rfl) gf7 (fun _ => ⟨rfl, rfl⟩) (fun k j => ⟨sf19.at j, sf20.at j, trivial⟩) qf7 (fun k v => by kernel_rfl)

/-! strings.Split -/
def f16 (k : Nat) (a1 : ByteArray) (a2 : ByteArray) : Option (((List ByteArray) × Unit) × Unit) := gSplit a1 a2
def ef16 : Entry := { id := 16, ar := { temps := [(0, .c .str), (1, .c .str)], blocks := [], ren := [] }, res := { temps := [(0, .c (.sl .str))], blocks := [], ren := [] }, f := fun k v => f16 k v.1.1 v.1.2.1 }
theorem sf16 : Sound Tryd.prog glob ef16 := gSplit_sound

/-! impl.readNumber -/
def f17 (k : Nat) (a1 : ByteArray) : Option ((Int × Bool × Unit) × Unit) := gReadNumber a1
def ef17 : Entry := { id := 17, ar := { temps := [(0, .c .str)], blocks := [], ren := [] }, res := { temps := [(0, .c (.int .i64)), (1, .c .bool)], blocks := [], ren := [] }, f := fun k v => f17 k v.1.1 }
theorem sf17 : Sound Tryd.prog glob ef17 := gReadNumber_sound

/-! strings.Cut -/
def f18 (k : Nat) (a1 : ByteArray) (a2 : ByteArray) : Option ((ByteArray × ByteArray × Bool × Unit) × Unit) := gCut a1 a2
def ef18 : Entry := { id := 18, ar := { temps := [(0, .c .str), (1, .c .str)], blocks := [], ren := [] }, res := { temps := [(0, .c .str), (1, .c .str), (2, .c .bool)], blocks := [], ren := [] }, f := fun k v => f18 k v.1.1 v.1.2.1 }
theorem sf18 : Sound Tryd.prog glob ef18 := gCut_sound

/-! impl.ReadTree -/
def f6_l5 {ρ : Type} (k : Nat) : Nat → ByteArray → (List ByteArray) → Int → Int → Int → Int → (List (Int × (Int × Int))) → ((((ByteArray × Unit × Unit × Unit) × ((Int × Unit × Unit) × (Int × Unit × Unit) × (List (Int × (Int × Int))) × Unit)) → Option ρ) × Unit) → Option ρ
  | 0, _, _, _, _, _, _, _, _ => none
  | j + 1, v40, v41, v42, v43, v44, v45, v46, nx =>
    bif (decide (v43 < v42)) then
      (getI v41 v43).bind fun x47 =>
      (f18 k x47 (ByteArray.mk #[58])).bind fun x48 =>
      (f18 k x48.1.1 (ByteArray.mk #[45])).bind fun x49 =>
      (f17 k x49.1.1).bind fun x50 =>
      (f17 k x49.1.2.1).bind fun x51 =>
      (f17 k x48.1.2.1).bind fun x52 =>
      bif decide ((v46.length + [(x50.1.1, (x51.1.1, x52.1.1))].length) * 24 ≤ roomy) then
        f6_l5 k j v40 v41 v42 (wr .i64 (v43 + 1)) v44 v45 (v46 ++ [(x50.1.1, (x51.1.1, x52.1.1))]) nx
      else
        none
    else
      nx.1 ((v40, (), (), ()), ((v44, (), ()), (v45, (), ()), v46, ()))
def cf6_l5 (k : Nat) : Cut := { sp := { temps := [(0, .c .str), (2, .c (.box 5000000)), (5, .c (.box 5000001)), (26, .c (.sl .str)), (27, .c (.int .i64)), (28, .c (.int .i64))], blocks := [(5000000, .box 26 [(.int .i64), (.lit .nils)]), (5000001, .box 26 [(.int .i64), (.row 5000002)]), (5000002, .row 50 (.pair (.int .i64) (.pair (.int .i64) (.int .i64))))], ren := [] }, outs := [(.exit 0, { temps := [(0, .c .str), (2, .c (.box 5000000)), (5, .c (.box 5000001))], blocks := [(5000000, .box 26 [(.int .i64), (.lit .nils)]), (5000001, .box 26 [(.int .i64), (.row 5000002)]), (5000002, .row 50 (.pair (.int .i64) (.pair (.int .i64) (.int .i64))))], ren := [] })], F := fun ρ j v nx => f6_l5 k j v.1.1 v.1.2.2.2.1 v.1.2.2.2.2.1 v.1.2.2.2.2.2.1 v.2.1.1 v.2.2.1.1 v.2.2.2.1 nx }
def f6 (k : Nat) (a1 : ByteArray) : Option (((Int × Unit × Unit) × Bool × Unit) × ((List (Int × (Int × Int))) × Unit)) :=
  (f16 k a1 (ByteArray.mk #[32])).bind fun x33 =>
  (getI x33.1.1 0).bind fun x34 =>
  (f17 k x34).bind fun x35 =>
  bif decide (0 ≤ 1) && decide (1 ≤ (x33.1.1.length : Int)) && decide ((x33.1.1.length : Int) ≤ (x33.1.1.length : Int)) then
    f6_l5 k k a1 (sub x33.1.1 1 (x33.1.1.length : Int)) ((sub x33.1.1 1 (x33.1.1.length : Int)).length : Int) 0 0 x35.1.1 ([] : List (Int × (Int × Int)))
      (fun x37 : ((ByteArray × Unit × Unit × Unit) × ((Int × Unit × Unit) × (Int × Unit × Unit) × (List (Int × (Int × Int))) × Unit)) =>
        (f19 k x37.2.2.1.1 x37.2.2.2.1).bind fun x38 =>
        bif (!x38.1.1) then
          some (((0, (), ()), false, ()), (([] : List (Int × (Int × Int))), ()))
        else
          (f20 k x37.2.2.1.1 x37.2.2.2.1).bind fun x39 =>
          bif (!(x39.1.1.toList == x37.1.1.toList)) then
            some (((0, (), ()), false, ()), (([] : List (Int × (Int × Int))), ()))
          else
            some (((x37.2.2.1.1, (), ()), true, ()), (x37.2.2.2.1, ())),
      ())
  else
    none
def ef6 : Entry := { id := 6, ar := { temps := [(0, .c .str)], blocks := [], ren := [] }, res := { temps := [(0, .agg [(.int .i64), (.row 4000000)]), (1, .c .bool)], blocks := [(4000000, .row 50 (.pair (.int .i64) (.pair (.int .i64) (.int .i64))))], ren := [] }, f := fun k v => f6 k v.1.1 }
def gf6 (k : Nat) : Full := { tt := tt, n := 80, fns := [ef16, ef17, ef18, ef19, ef20], trunc := [], tails := [], touch := [], opens := [], shapes := [], closes := [], k := k, glob := glob, cuts := [(5, (cf6_l5 k))], joins := [] }
theorem of6_l5 (k : Nat) : CutOk (gf6 k) (cf6_l5 k) (theLoop Tryd.f6 5) := fun ρ v nx => ⟨by kernel_rfl, fun j => by kernel_rfl⟩
theorem qf6 (k : Nat) : AllP (bodyL (gf6 k) Tryd.f6) := by
  have h : (CutOk (gf6 k) (cf6_l5 k) (theLoop Tryd.f6 5) ∧ True) = AllP (bodyL (gf6 k) Tryd.f6) := by kernel_rfl
  exact Eq.mp h (And.intro (of6_l5 k) (trivial))
theorem sf6 : Sound Tryd.prog glob ef6 := sound_of base (fn := Tryd.f6) Tryd.func6 (by kernel_rfl) gf6 (fun _ => ⟨rfl, rfl⟩) (fun k j => ⟨sf16.at j, sf17.at j, sf18.at j, sf19.at j, sf20.at j, trivial⟩) qf6 (fun k v => by kernel_rfl)

/-! impl.TreeEdge] -/
def f21_l4 {ρ : Type} (k : Nat) : Nat → (List (Int × (Int × Int))) → (List (Int × (Int × Int))) → Int → Int → (((Unit × Unit) → Option ρ) × (((Bool × Unit) × Unit) → Option ρ) × Unit) → Option ρ
  | 0, _, _, _, _, _ => none
  | j + 1, v12, v13, v14, v15, nx =>
    bif (decide (v15 < v14)) then
      (getI v12 v15).bind fun x16 =>
      (getI v13 v15).bind fun x17 =>
      let x18 : Bool := (!((x16.1 == x17.1) && ((x16.2.1 == x17.2.1) && ((x16.2.2 == x17.2.2) && true))))
      bif x18 then
        nx.2.1 ((false, ()), ())
      else
        f21_l4 k j v12 v13 v14 (wr .i64 (v15 + 1)) nx
    else
      nx.1 ((), ())
def cf21_l4 (k : Nat) : Cut := { sp := { temps := [(0, .c (.sl (.pair (.int .i64) (.pair (.int .i64) (.int .i64))))), (1, .c (.sl (.pair (.int .i64) (.pair (.int .i64) (.int .i64))))), (12, .c (.int .i64)), (13, .c (.int .i64))], blocks := [], ren := [] }, outs := [(.exit 0, { temps := [], blocks := [], ren := [] }), (.ret, { temps := [(4, .c .bool)], blocks := [], ren := [] })], F := fun ρ j v nx => f21_l4 k j v.1.1 v.1.2.1 v.1.2.2.1 v.1.2.2.2.1 nx }
def f21 (k : Nat) (a1 : (List (Int × (Int × Int)))) (a2 : (List (Int × (Int × Int)))) : Option ((Bool × Unit) × Unit) :=
  bif ((a1.length : Int) != (a2.length : Int)) then
    some ((false, ()), ())
  else
    f21_l4 k k a1 a2 (a1.length : Int) 0
      (fun x10 : (Unit × Unit) =>
        some ((true, ()), ()),
      fun x11 : ((Bool × Unit) × Unit) =>
        some ((x11.1.1, ()), ()),
      ())
def ef21 : Entry := { id := 21, ar := { temps := [(0, .c (.sl (.pair (.int .i64) (.pair (.int .i64) (.int .i64))))), (1, .c (.sl (.pair (.int .i64) (.pair (.int .i64) (.int .i64)))))], blocks := [], ren := [] }, res := { temps := [(0, .c .bool)], blocks := [], ren := [] }, f := fun k v => f21 k v.1.1 v.1.2.1 }
def gf21 (k : Nat) : Full := { tt := tt, n := 26, fns := [], trunc := [], tails := [], touch := [], opens := [], shapes := [], closes := [], k := k, glob := glob, cuts := [(4, (cf21_l4 k))], joins := [] }
theorem of21_l4 (k : Nat) : CutOk (gf21 k) (cf21_l4 k) (theLoop Tryd.f21 4) := fun ρ v nx => ⟨by kernel_rfl, fun j => by kernel_rfl⟩
theorem qf21 (k : Nat) : AllP (bodyL (gf21 k) Tryd.f21) := by
  have h : (CutOk (gf21 k) (cf21_l4 k) (theLoop Tryd.f21 4) ∧ True) = AllP (bodyL (gf21 k) Tryd.f21) := by kernel_rfl
  exact Eq.mp h (And.intro (of21_l4 k) (trivial))
theorem sf21 : Sound Tryd.prog glob ef21 := sound_of base (fn := Tryd.f21) Tryd.func21 (by kernel_rfl) gf21 (fun _ => ⟨rfl, rfl⟩) (fun k j => trivial) qf21 (fun k v => by kernel_rfl)

/-! impl.SameTree -/
def f8 (k : Nat) (a1 : Int) (a2 : (List (Int × (Int × Int)))) (a3 : Int) (a4 : (List (Int × (Int × Int)))) : Option ((Bool × Unit) × Unit) :=
  bif (a1 == a3) then
    (f21 k a2 a4).bind fun x2 =>
    some ((x2.1.1, ()), ())
  else
    some ((false, ()), ())
def ef8 : Entry := { id := 8, ar := { temps := [(0, .agg [(.int .i64), (.sl (.pair (.int .i64) (.pair (.int .i64) (.int .i64))))]), (1, .agg [(.int .i64), (.sl (.pair (.int .i64) (.pair (.int .i64) (.int .i64))))])], blocks := [], ren := [] }, res := { temps := [(0, .c .bool)], blocks := [], ren := [] }, f := fun k v => f8 k v.1.1.1 v.1.1.2.1 v.1.2.1.1 v.1.2.1.2.1 }
def gf8 (k : Nat) : Full := { tt := tt, n := 17, fns := [ef21], trunc := [], tails := [], touch := [], opens := [], shapes := [], closes := [], k := k, glob := glob, cuts := [], joins := [] }
theorem qf8 (k : Nat) : AllP (bodyL (gf8 k) Tryd.f8) := by
  have h : True = AllP (bodyL (gf8 k) Tryd.f8) := by kernel_rfl
  exact Eq.mp h trivial
theorem sf8 : Sound Tryd.prog glob ef8 := sound_of base (fn := Tryd.f8) Tryd.func8 (by kernel_rfl) gf8 (fun _ => ⟨rfl, rfl⟩) (fun k j => ⟨sf21.at j, trivial⟩) qf8 (fun k v => by kernel_rfl)

/-! impl.Tree).leaves -/
def f22_l3 {ρ : Type} (k : Nat) : Nat → (List (Int × (Int × Int))) → Int → Int → (List Int) → ((((Unit × Unit) × ((List Int) × Unit)) → Option ρ) × Unit) → Option ρ
  | 0, _, _, _, _, _ => none
  | j + 1, v26, v27, v28, v29, nx =>
    bif (decide (v28 < v27)) then
      (getI v26 v28).bind fun x30 =>
      bif decide (0 ≤ x30.1) && decide (x30.1 < (v29.length : Int)) then
        (v29[x30.1.toNat]?).bind fun x31 =>
        bif decide (0 ≤ x30.1) && decide (x30.1 < (v29.length : Int)) then
          (v29[x30.1.toNat]?).bind fun _ =>
          bif decide (0 ≤ x30.2.1) && decide (x30.2.1 < ((v29.set x30.1.toNat (wr .i64 (x31 + 1))).length : Int)) then
            ((v29.set x30.1.toNat (wr .i64 (x31 + 1)))[x30.2.1.toNat]?).bind fun x33 =>
            bif decide (0 ≤ x30.2.1) && decide (x30.2.1 < ((v29.set x30.1.toNat (wr .i64 (x31 + 1))).length : Int)) then
              ((v29.set x30.1.toNat (wr .i64 (x31 + 1)))[x30.2.1.toNat]?).bind fun _ =>
              let x35 : (List Int) := ((v29.set x30.1.toNat (wr .i64 (x31 + 1))).set x30.2.1.toNat (wr .i64 (x33 + 1)))
              f22_l3 k j v26 v27 (wr .i64 (v28 + 1)) x35 nx
            else
              none
          else
            none
        else
          none
      else
        none
    else
      nx.1 (((), ()), (v29, ()))
def cf22_l3 (k : Nat) : Cut := { sp := { temps := [(3, .c (.row 5000000)), (13, .c (.sl (.pair (.int .i64) (.pair (.int .i64) (.int .i64))))), (14, .c (.int .i64)), (15, .c (.int .i64))], blocks := [(5000000, .row 2 (.int .i64))], ren := [] }, outs := [(.exit 0, { temps := [(3, .c (.row 5000000))], blocks := [(5000000, .row 2 (.int .i64))], ren := [] })], F := fun ρ j v nx => f22_l3 k j v.1.2.1 v.1.2.2.1 v.1.2.2.2.1 v.2.1 nx }
def f22_l10 {ρ : Type} (k : Nat) : Nat → Int → Int → (List Int) → (List Int) → ((((Unit × Unit) × ((List Int) × Unit)) → Option ρ) × Unit) → Option ρ
  | 0, _, _, _, _, _ => none
  | j + 1, v36, v37, v38, v39, nx =>
    bif (decide (v37 < v36)) then
      bif decide (0 ≤ v37) && decide (v37 < (v39.length : Int)) then
        (v39[v37.toNat]?).bind fun x40 =>
        bif (x40 == 1) then
          bif decide ((v38.length + [v37].length) * 8 ≤ roomy) then
            f22_l10 k j v36 (wr .i64 (v37 + 1)) (v38 ++ [v37]) v39 nx
          else
            none
        else
          f22_l10 k j v36 (wr .i64 (v37 + 1)) v38 v39 nx
      else
        none
    else
      nx.1 (((), ()), (v38, ()))
def cf22_l10 (k : Nat) : Cut := { sp := { temps := [(6, .c (.row 5000000)), (34, .c (.row 5000001)), (35, .c (.int .i64)), (36, .c (.int .i64))], blocks := [(5000000, .row 2 (.int .i64)), (5000001, .row 2 (.int .i64))], ren := [] }, outs := [(.exit 2, { temps := [(6, .c (.row 5000000))], blocks := [(5000000, .row 2 (.int .i64))], ren := [] })], F := fun ρ j v nx => f22_l10 k j v.1.2.2.1 v.1.2.2.2.1 v.2.1 v.2.2.1 nx }
def f22 (k : Nat) (a1 : Int) (a2 : (List (Int × (Int × Int)))) : Option ((Unit × Unit) × ((List Int) × Unit)) :=
  bif decide (a1 = a1) && decide (0 ≤ a1) && decide (a1 * 8 ≤ roomy) then
    f22_l3 k k a2 (a2.length : Int) 0 (List.replicate a1.toNat (0 : Int))
      (fun x24 : ((Unit × Unit) × ((List Int) × Unit)) =>
        f22_l10 k k (x24.2.1.length : Int) 0 ([] : List Int) x24.2.1
          (fun x25 : ((Unit × Unit) × ((List Int) × Unit)) =>
            some (((), ()), (x25.2.1, ())),
          ()),
      ())
  else
    none
def ef22 : Entry := { id := 22, ar := { temps := [(0, .agg [(.int .i64), (.sl (.pair (.int .i64) (.pair (.int .i64) (.int .i64))))])], blocks := [], ren := [] }, res := { temps := [(0, .c (.row 4000000))], blocks := [(4000000, .row 2 (.int .i64))], ren := [] }, f := fun k v => f22 k v.1.1.1 v.1.1.2.1 }
def gf22 (k : Nat) : Full := { tt := tt, n := 49, fns := [], trunc := [], tails := [], touch := [], opens := [], shapes := [], closes := [], k := k, glob := glob, cuts := [(3, (cf22_l3 k)), (10, (cf22_l10 k))], joins := [] }
theorem of22_l3 (k : Nat) : CutOk (gf22 k) (cf22_l3 k) (theLoop Tryd.f22 3) := fun ρ v nx => ⟨by kernel_rfl, fun j => by kernel_rfl⟩
theorem of22_l10 (k : Nat) : CutOk (gf22 k) (cf22_l10 k) (theLoop Tryd.f22 10) := fun ρ v nx => ⟨by kernel_rfl, fun j => by kernel_rfl⟩
theorem qf22 (k : Nat) : AllP (bodyL (gf22 k) Tryd.f22) := by
  have h : (CutOk (gf22 k) (cf22_l3 k) (theLoop Tryd.f22 3) ∧ CutOk (gf22 k) (cf22_l10 k) (theLoop Tryd.f22 10) ∧ True) = AllP (bodyL (gf22 k) Tryd.f22) := by kernel_rfl
  exact Eq.mp h (And.intro (of22_l3 k) (And.intro (of22_l10 k) (trivial)))
theorem sf22 : Sound Tryd.prog glob ef22 := sound_of base (fn := Tryd.f22) Tryd.func22 (by kernel_rfl) gf22 (fun _ => ⟨rfl, rfl⟩) (fun k j => trivial) qf22 (fun k v => by kernel_rfl)

/-! impl.LeavesOf -/
def f9 (k : Nat) (a1 : Int) (a2 : (List (Int × (Int × Int)))) : Option ((Unit × Unit) × ((List Int) × Unit)) :=
  (f19 k a1 a2).bind fun x3 =>
  bif (!x3.1.1) then
    some (((), ()), (([] : List Int), ()))
  else
    (f22 k a1 a2).bind fun x4 =>
    some (((), ()), (x4.2.1, ()))
def ef9 : Entry := { id := 9, ar := { temps := [(0, .agg [(.int .i64), (.sl (.pair (.int .i64) (.pair (.int .i64) (.int .i64))))])], blocks := [], ren := [] }, res := { temps := [(0, .c (.row 4000000))], blocks := [(4000000, .row 2 (.int .i64))], ren := [] }, f := fun k v => f9 k v.1.1.1 v.1.1.2.1 }
def gf9 (k : Nat) : Full := { tt := tt, n := 8, fns := [ef19, ef22], trunc := [], tails := [], touch := [], opens := [], shapes := [], closes := [], k := k, glob := glob, cuts := [], joins := [] }
theorem qf9 (k : Nat) : AllP (bodyL (gf9 k) Tryd.f9) := by
  have h : True = AllP (bodyL (gf9 k) Tryd.f9) := by kernel_rfl
  exact Eq.mp h trivial
theorem sf9 : Sound Tryd.prog glob ef9 := sound_of base (fn := Tryd.f9) Tryd.func9 (by kernel_rfl) gf9 (fun _ => ⟨rfl, rfl⟩) (fun k j => ⟨sf19.at j, sf22.at j, trivial⟩) qf9 (fun k v => by kernel_rfl)

/-! impl.chosen -/
def f35_l3 {ρ : Type} (k : Nat) : Nat → (List Int) → (List Int) → Int → Int → (List Int) → ((((Unit × Unit) × ((List Int) × Unit)) → Option ρ) × Unit) → Option ρ
  | 0, _, _, _, _, _, _ => none
  | j + 1, v16, v17, v18, v19, v20, nx =>
    bif (decide (v19 < v18)) then
      (getI v17 v19).bind fun x21 =>
      (getI v16 x21).bind fun x22 =>
      bif decide ((v20.length + [x22].length) * 8 ≤ roomy) then
        f35_l3 k j v16 v17 v18 (wr .i64 (v19 + 1)) (v20 ++ [x22]) nx
      else
        none
    else
      nx.1 (((), ()), (v20, ()))
def cf35_l3 (k : Nat) : Cut := { sp := { temps := [(0, .c (.sl (.int .i64))), (5, .c (.row 5000000)), (8, .c (.sl (.int .i64))), (9, .c (.int .i64)), (10, .c (.int .i64))], blocks := [(5000000, .row 2 (.int .i64))], ren := [] }, outs := [(.exit 0, { temps := [(5, .c (.row 5000000))], blocks := [(5000000, .row 2 (.int .i64))], ren := [] })], F := fun ρ j v nx => f35_l3 k j v.1.1 v.1.2.2.1 v.1.2.2.2.1 v.1.2.2.2.2.1 v.2.1 nx }
def f35 (k : Nat) (a1 : (List Int)) (a2 : (List Int)) : Option ((Unit × Unit) × ((List Int) × Unit)) :=
  f35_l3 k k a1 a2 (a2.length : Int) 0 ([] : List Int)
    (fun x15 : ((Unit × Unit) × ((List Int) × Unit)) =>
      some (((), ()), (x15.2.1, ())),
    ())
def ef35 : Entry := { id := 35, ar := { temps := [(0, .c (.sl (.int .i64))), (1, .c (.sl (.int .i64)))], blocks := [], ren := [] }, res := { temps := [(0, .c (.row 4000000))], blocks := [(4000000, .row 2 (.int .i64))], ren := [] }, f := fun k v => f35 k v.1.1 v.1.2.1 }
def gf35 (k : Nat) : Full := { tt := tt, n := 23, fns := [], trunc := [], tails := [], touch := [], opens := [], shapes := [], closes := [], k := k, glob := glob, cuts := [(3, (cf35_l3 k))], joins := [] }
theorem of35_l3 (k : Nat) : CutOk (gf35 k) (cf35_l3 k) (theLoop Tryd.f35 3) := fun ρ v nx => ⟨by kernel_rfl, fun j => by kernel_rfl⟩
theorem qf35 (k : Nat) : AllP (bodyL (gf35 k) Tryd.f35) := by
  have h : (CutOk (gf35 k) (cf35_l3 k) (theLoop Tryd.f35 3) ∧ True) = AllP (bodyL (gf35 k) Tryd.f35) := by kernel_rfl
  exact Eq.mp h (And.intro (of35_l3 k) (trivial))
theorem sf35 : Sound Tryd.prog glob ef35 := sound_of base (fn := Tryd.f35) Tryd.func35 (by kernel_rfl) gf35 (fun _ => ⟨rfl, rfl⟩) (fun k j => trivial) qf35 (fun k v => by kernel_rfl)

/-! impl.Tree).leafDistances -/
def f23_l4 {ρ : Type} (k : Nat) : Nat → Int → Int → Int → (List (Int × (Int × Int))) → (List Int) → (List (List Int)) → ((((Unit × Unit) × ((List (List Int)) × Unit)) → Option ρ) × Unit) → Option ρ
  | 0, _, _, _, _, _, _, _ => none
  | j + 1, v22, v23, v24, v25, v26, v27, nx =>
    bif (decide (v23 < v22)) then
      bif decide (0 ≤ v23) && decide (v23 < (v26.length : Int)) then
        (v26[v23.toNat]?).bind fun x28 =>
        (f25 k v24 v25 x28).bind fun x29 =>
        (f35 k x29.2.1 v26).bind fun x30 =>
        bif decide ((v27.length + [x30.2.1].length) * 24 ≤ roomy) then
          f23_l4 k j v22 (wr .i64 (v23 + 1)) v24 v25 v26 (v27 ++ [x30.2.1]) nx
        else
          none
      else
        none
    else
      nx.1 (((), ()), (v27, ()))
def cf23_l4 (k : Nat) : Cut := { sp := { temps := [(1, .c (.box 5000000)), (3, .c (.row 5000001)), (4, .c (.row 5000002)), (11, .c (.lit (.row 5000001))), (12, .c (.int .i64)), (13, .c (.int .i64))], blocks := [(5000000, .box 26 [(.int .i64), (.sl (.pair (.int .i64) (.pair (.int .i64) (.int .i64))))]), (5000001, .row 2 (.int .i64)), (5000002, .own 32 (.s 2 (.d (.int .i64))))], ren := [] }, outs := [(.exit 0, { temps := [(4, .c (.row 5000000))], blocks := [(5000000, .own 32 (.s 2 (.d (.int .i64))))], ren := [] })], F := fun ρ j v nx => f23_l4 k j v.1.2.2.2.2.1 v.1.2.2.2.2.2.1 v.2.1.1 v.2.1.2.1 v.2.2.1 v.2.2.2.1 nx }
def f23 (k : Nat) (a1 : Int) (a2 : (List (Int × (Int × Int)))) : Option ((Unit × Unit) × ((List (List Int)) × Unit)) :=
  (f22 k a1 a2).bind fun x20 =>
  f23_l4 k k (x20.2.1.length : Int) 0 a1 a2 x20.2.1 ([] : List (List Int))
    (fun x21 : ((Unit × Unit) × ((List (List Int)) × Unit)) =>
      some (((), ()), (x21.2.1, ())),
    ())
def ef23 : Entry := { id := 23, ar := { temps := [(0, .agg [(.int .i64), (.sl (.pair (.int .i64) (.pair (.int .i64) (.int .i64))))])], blocks := [], ren := [] }, res := { temps := [(0, .c (.row 4000000))], blocks := [(4000000, .own 32 (.s 2 (.d (.int .i64))))], ren := [] }, f := fun k v => f23 k v.1.1.1 v.1.1.2.1 }
def gf23 (k : Nat) : Full := { tt := tt, n := 31, fns := [ef22, ef25, ef35], trunc := [], tails := [], touch := [], opens := [], shapes := [(27, (.s 2 (.d (.int .i64)))), (28, (.s 2 (.d (.int .i64))))], closes := [], k := k, glob := glob, cuts := [(4, (cf23_l4 k))], joins := [] }
theorem of23_l4 (k : Nat) : CutOk (gf23 k) (cf23_l4 k) (theLoop Tryd.f23 4) := fun ρ v nx => ⟨by kernel_rfl, fun j => by kernel_rfl⟩
theorem qf23 (k : Nat) : AllP (bodyL (gf23 k) Tryd.f23) := by
  have h : (CutOk (gf23 k) (cf23_l4 k) (theLoop Tryd.f23 4) ∧ True) = AllP (bodyL (gf23 k) Tryd.f23) := by kernel_rfl
  exact Eq.mp h (And.intro (of23_l4 k) (trivial))
theorem sf23 : Sound Tryd.prog glob ef23 := sound_of base (fn := Tryd.f23) Tryd.func23 (by kernel_rfl) gf23 (fun _ => ⟨rfl, rfl⟩) (fun k j => ⟨sf22.at j, sf25.at j, sf35.at j, trivial⟩) qf23 (fun k v => by kernel_rfl)

/-! impl.LeafDistances -/
def f10 (k : Nat) (a1 : Int) (a2 : (List (Int × (Int × Int)))) : Option ((Unit × Unit) × ((List (List Int)) × Unit)) :=
  (f19 k a1 a2).bind fun x3 =>
  bif (!x3.1.1) then
    some (((), ()), (([] : List (List Int)), ()))
  else
    (f23 k a1 a2).bind fun x4 =>
    some (((), ()), (x4.2.1, ()))
def ef10 : Entry := { id := 10, ar := { temps := [(0, .agg [(.int .i64), (.sl (.pair (.int .i64) (.pair (.int .i64) (.int .i64))))])], blocks := [], ren := [] }, res := { temps := [(0, .c (.row 4000000))], blocks := [(4000000, .own 32 (.s 2 (.d (.int .i64))))], ren := [] }, f := fun k v => f10 k v.1.1.1 v.1.1.2.1 }
def gf10 (k : Nat) : Full := { tt := tt, n := 8, fns := [ef19, ef23], trunc := [], tails := [], touch := [], opens := [], shapes := [], closes := [], k := k, glob := glob, cuts := [], joins := [] }
theorem qf10 (k : Nat) : AllP (bodyL (gf10 k) Tryd.f10) := by
  have h : True = AllP (bodyL (gf10 k) Tryd.f10) := by kernel_rfl
  exact Eq.mp h trivial
theorem sf10 : Sound Tryd.prog glob ef10 := sound_of base (fn := Tryd.f10) Tryd.func10 (by kernel_rfl) gf10 (fun _ => ⟨rfl, rfl⟩) (fun k j => ⟨sf19.at j, sf23.at j, trivial⟩) qf10 (fun k v => by kernel_rfl)

/-! impl.Tree).isNode -/
def f24 (k : Nat) (a1 : Int) (a2 : (List (Int × (Int × Int)))) (a3 : Int) : Option ((Bool × Unit) × Unit) :=
  (f32 k a3 0 (wr .i64 (a1 - 1))).bind fun x2 =>
  some ((x2.1.1, ()), ())
def ef24 : Entry := { id := 24, ar := { temps := [(0, .agg [(.int .i64), (.sl (.pair (.int .i64) (.pair (.int .i64) (.int .i64))))]), (1, .c (.int .i64))], blocks := [], ren := [] }, res := { temps := [(0, .c .bool)], blocks := [], ren := [] }, f := fun k v => f24 k v.1.1.1 v.1.1.2.1 v.1.2.1 }
def gf24 (k : Nat) : Full := { tt := tt, n := 10, fns := [ef32], trunc := [], tails := [], touch := [], opens := [], shapes := [], closes := [], k := k, glob := glob, cuts := [], joins := [] }
theorem qf24 (k : Nat) : AllP (bodyL (gf24 k) Tryd.f24) := by
  have h : True = AllP (bodyL (gf24 k) Tryd.f24) := by kernel_rfl
  exact Eq.mp h trivial
theorem sf24 : Sound Tryd.prog glob ef24 := sound_of base (fn := Tryd.f24) Tryd.func24 (by kernel_rfl) gf24 (fun _ => ⟨rfl, rfl⟩) (fun k j => ⟨sf32.at j, trivial⟩) qf24 (fun k v => by kernel_rfl)

/-! impl.TreeWay -/
def f11_l5 {ρ : Type} (k : Nat) : Nat → Int → Int → (List Int) → (List Int) → ((((Unit × Unit) × ((List Int) × Unit)) → Option ρ) × Unit) → Option ρ
  | 0, _, _, _, _, _ => none
  | j + 1, v22, v23, v24, v25, nx =>
    bif (v22 != v23) then
      bif decide (0 ≤ v22) && decide (v22 < (v24.length : Int)) then
        (v24[v22.toNat]?).bind fun x26 =>
        bif decide ((v25.length + [x26].length) * 8 ≤ roomy) then
          f11_l5 k j x26 v23 v24 (v25 ++ [x26]) nx
        else
          none
      else
        none
    else
      nx.1 (((), ()), (v25, ()))
def cf11_l5 (k : Nat) : Cut := { sp := { temps := [(1, .c (.int .i64)), (2, .c (.int .i64)), (8, .c (.row 5000000)), (9, .c (.row 5000001))], blocks := [(5000000, .row 2 (.int .i64)), (5000001, .row 2 (.int .i64))], ren := [] }, outs := [(.exit 0, { temps := [(9, .c (.row 5000000))], blocks := [(5000000, .row 2 (.int .i64))], ren := [] })], F := fun ρ j v nx => f11_l5 k j v.1.1 v.1.2.1 v.2.1 v.2.2.1 nx }
def f11 (k : Nat) (a1 : Int) (a2 : (List (Int × (Int × Int)))) (a3 : Int) (a4 : Int) : Option ((Unit × Unit) × ((List Int) × Unit)) :=
  (f19 k a1 a2).bind fun x17 =>
  bif (!x17.1.1) then
    some (((), ()), (([] : List Int), ()))
  else
    (f24 k a1 a2 a3).bind fun x18 =>
    bif (!x18.1.1) then
      some (((), ()), (([] : List Int), ()))
    else
      (f24 k a1 a2 a4).bind fun x19 =>
      bif (!x19.1.1) then
        some (((), ()), (([] : List Int), ()))
      else
        (f25 k a1 a2 a4).bind fun x20 =>
        f11_l5 k k a3 a4 x20.2.2.1 ([a3])
          (fun x21 : ((Unit × Unit) × ((List Int) × Unit)) =>
            some (((), ()), (x21.2.1, ())),
          ())
def ef11 : Entry := { id := 11, ar := { temps := [(0, .agg [(.int .i64), (.sl (.pair (.int .i64) (.pair (.int .i64) (.int .i64))))]), (1, .c (.int .i64)), (2, .c (.int .i64))], blocks := [], ren := [] }, res := { temps := [(0, .c (.row 4000000))], blocks := [(4000000, .row 2 (.int .i64))], ren := [] }, f := fun k v => f11 k v.1.1.1 v.1.1.2.1 v.1.2.1 v.1.2.2.1 }
def gf11 (k : Nat) : Full := { tt := tt, n := 45, fns := [ef19, ef24, ef25], trunc := [], tails := [], touch := [], opens := [], shapes := [], closes := [], k := k, glob := glob, cuts := [(5, (cf11_l5 k))], joins := [] }
theorem of11_l5 (k : Nat) : CutOk (gf11 k) (cf11_l5 k) (theLoop Tryd.f11 5) := fun ρ v nx => ⟨by kernel_rfl, fun j => by kernel_rfl⟩
theorem qf11 (k : Nat) : AllP (bodyL (gf11 k) Tryd.f11) := by
  have h : (CutOk (gf11 k) (cf11_l5 k) (theLoop Tryd.f11 5) ∧ True) = AllP (bodyL (gf11 k) Tryd.f11) := by kernel_rfl
  exact Eq.mp h (And.intro (of11_l5 k) (trivial))
theorem sf11 : Sound Tryd.prog glob ef11 := sound_of base (fn := Tryd.f11) Tryd.func11 (by kernel_rfl) gf11 (fun _ => ⟨rfl, rfl⟩) (fun k j => ⟨sf19.at j, sf24.at j, sf25.at j, trivial⟩) qf11 (fun k v => by kernel_rfl)

/-! impl.TreeDistance -/
def f12 (k : Nat) (a1 : Int) (a2 : (List (Int × (Int × Int)))) (a3 : Int) (a4 : Int) : Option ((Int × Unit) × Unit) :=
  (f19 k a1 a2).bind fun x12 =>
  bif (!x12.1.1) then
    some (((-1), ()), ())
  else
    (f24 k a1 a2 a3).bind fun x13 =>
    bif (!x13.1.1) then
      some (((-1), ()), ())
    else
      (f24 k a1 a2 a4).bind fun x14 =>
      bif (!x14.1.1) then
        some (((-1), ()), ())
      else
        (f25 k a1 a2 a3).bind fun x15 =>
        bif decide (0 ≤ a4) && decide (a4 < (x15.2.1.length : Int)) then
          (x15.2.1[a4.toNat]?).bind fun x16 =>
          some ((x16, ()), ())
        else
          none
def ef12 : Entry := { id := 12, ar := { temps := [(0, .agg [(.int .i64), (.sl (.pair (.int .i64) (.pair (.int .i64) (.int .i64))))]), (1, .c (.int .i64)), (2, .c (.int .i64))], blocks := [], ren := [] }, res := { temps := [(0, .c (.int .i64))], blocks := [], ren := [] }, f := fun k v => f12 k v.1.1.1 v.1.1.2.1 v.1.2.1 v.1.2.2.1 }
def gf12 (k : Nat) : Full := { tt := tt, n := 34, fns := [ef19, ef24, ef25], trunc := [], tails := [], touch := [], opens := [], shapes := [], closes := [], k := k, glob := glob, cuts := [], joins := [] }
theorem qf12 (k : Nat) : AllP (bodyL (gf12 k) Tryd.f12) := by
  have h : True = AllP (bodyL (gf12 k) Tryd.f12) := by kernel_rfl
  exact Eq.mp h trivial
theorem sf12 : Sound Tryd.prog glob ef12 := sound_of base (fn := Tryd.f12) Tryd.func12 (by kernel_rfl) gf12 (fun _ => ⟨rfl, rfl⟩) (fun k j => ⟨sf19.at j, sf24.at j, sf25.at j, trivial⟩) qf12 (fun k v => by kernel_rfl)

/-! impl.Tree).leafDistances -/
def f23a_l4 {ρ : Type} (k : Nat) : Nat → Int → Int → Int → (List (Int × (Int × Int))) → (List Int) → (List (List Int)) → ((((Unit × Unit) × ((List (List Int)) × Unit)) → Option ρ) × Unit) → Option ρ
  | 0, _, _, _, _, _, _, _ => none
  | j + 1, v22, v23, v24, v25, v26, v27, nx =>
    bif (decide (v23 < v22)) then
      bif decide (0 ≤ v23) && decide (v23 < (v26.length : Int)) then
        (v26[v23.toNat]?).bind fun x28 =>
        (f25 k v24 v25 x28).bind fun x29 =>
        (f35 k x29.2.1 v26).bind fun x30 =>
        bif decide ((v27.length + [x30.2.1].length) * 24 ≤ roomy) then
          f23a_l4 k j v22 (wr .i64 (v23 + 1)) v24 v25 v26 (v27 ++ [x30.2.1]) nx
        else
          none
      else
        none
    else
      nx.1 (((), ()), (v27, ()))
def cf23a_l4 (k : Nat) : Cut := { sp := { temps := [(1, .c (.box 5000000)), (3, .c (.row 5000001)), (4, .c (.row 5000002)), (11, .c (.lit (.row 5000001))), (12, .c (.int .i64)), (13, .c (.int .i64))], blocks := [(5000000, .box 26 [(.int .i64), (.sl (.pair (.int .i64) (.pair (.int .i64) (.int .i64))))]), (5000001, .row 2 (.int .i64)), (5000002, .row 32 (.sl (.int .i64)))], ren := [] }, outs := [(.exit 0, { temps := [(4, .c (.row 5000000))], blocks := [(5000000, .row 32 (.sl (.int .i64)))], ren := [] })], F := fun ρ j v nx => f23a_l4 k j v.1.2.2.2.2.1 v.1.2.2.2.2.2.1 v.2.1.1 v.2.1.2.1 v.2.2.1 v.2.2.2.1 nx }
def f23a (k : Nat) (a1 : Int) (a2 : (List (Int × (Int × Int)))) : Option ((Unit × Unit) × ((List (List Int)) × Unit)) :=
  (f22 k a1 a2).bind fun x20 =>
  f23a_l4 k k (x20.2.1.length : Int) 0 a1 a2 x20.2.1 ([] : List (List Int))
    (fun x21 : ((Unit × Unit) × ((List (List Int)) × Unit)) =>
      some (((), ()), (x21.2.1, ())),
    ())
def ef23a : Entry := { id := 23, ar := { temps := [(0, .agg [(.int .i64), (.sl (.pair (.int .i64) (.pair (.int .i64) (.int .i64))))])], blocks := [], ren := [] }, res := { temps := [(0, .c (.row 4000000))], blocks := [(4000000, .row 32 (.sl (.int .i64)))], ren := [] }, f := fun k v => f23a k v.1.1.1 v.1.1.2.1 }
def gf23a (k : Nat) : Full := { tt := tt, n := 31, fns := [ef22, ef25, ef35], trunc := [], tails := [], touch := [], opens := [], shapes := [], closes := [], k := k, glob := glob, cuts := [(4, (cf23a_l4 k))], joins := [] }
theorem of23a_l4 (k : Nat) : CutOk (gf23a k) (cf23a_l4 k) (theLoop Tryd.f23 4) := fun ρ v nx => ⟨by kernel_rfl, fun j => by kernel_rfl⟩
theorem qf23a (k : Nat) : AllP (bodyL (gf23a k) Tryd.f23) := by
  have h : (CutOk (gf23a k) (cf23a_l4 k) (theLoop Tryd.f23 4) ∧ True) = AllP (bodyL (gf23a k) Tryd.f23) := by kernel_rfl
  exact Eq.mp h (And.intro (of23a_l4 k) (trivial))
theorem sf23a : Sound Tryd.prog glob ef23a := sound_of base (fn := Tryd.f23) Tryd.func23 (by kernel_rfl) gf23a (fun _ => ⟨rfl, rfl⟩) (fun k j => ⟨sf22.at j, sf25.at j, sf35.at j, trivial⟩) qf23a (fun k v => by kernel_rfl)

/-! impl.LeafDistances -/
def f10a (k : Nat) (a1 : Int) (a2 : (List (Int × (Int × Int)))) : Option ((Unit × Unit) × ((List (List Int)) × Unit)) :=
  (f19 k a1 a2).bind fun x3 =>
  bif (!x3.1.1) then
    some (((), ()), (([] : List (List Int)), ()))
  else
    (f23a k a1 a2).bind fun x4 =>
    some (((), ()), (x4.2.1, ()))
def ef10a : Entry := { id := 10, ar := { temps := [(0, .agg [(.int .i64), (.sl (.pair (.int .i64) (.pair (.int .i64) (.int .i64))))])], blocks := [], ren := [] }, res := { temps := [(0, .c (.row 4000000))], blocks := [(4000000, .row 32 (.sl (.int .i64)))], ren := [] }, f := fun k v => f10a k v.1.1.1 v.1.1.2.1 }
def gf10a (k : Nat) : Full := { tt := tt, n := 8, fns := [ef19, ef23a], trunc := [], tails := [], touch := [], opens := [], shapes := [], closes := [], k := k, glob := glob, cuts := [], joins := [] }
theorem qf10a (k : Nat) : AllP (bodyL (gf10a k) Tryd.f10) := by
  have h : True = AllP (bodyL (gf10a k) Tryd.f10) := by kernel_rfl
  exact Eq.mp h trivial
theorem sf10a : Sound Tryd.prog glob ef10a := sound_of base (fn := Tryd.f10) Tryd.func10 (by kernel_rfl) gf10a (fun _ => ⟨rfl, rfl⟩) (fun k j => ⟨sf19.at j, sf23a.at j, trivial⟩) qf10a (fun k v => by kernel_rfl)

/-! laws.a2Byte -/
def f13 (k : Nat) (a1 : (List Int)) (a2 : Int) (a3 : Int) : Option ((Int × Unit) × Unit) :=
  bif (decide (a2 ≥ (a1.length : Int))) then
    some ((0, ()), ())
  else
    (getI a1 a2).bind fun x2 =>
    bif decide (a3 = 0) then
      none
    else
      some ((((wr .i64 x2).tmod a3), ()), ())
def ef13 : Entry := { id := 13, ar := { temps := [(0, .c (.sl (.int .u8))), (1, .c (.int .i64)), (2, .c (.int .i64))], blocks := [], ren := [] }, res := { temps := [(0, .c (.int .i64))], blocks := [], ren := [] }, f := fun k v => f13 k v.1.1 v.1.2.1 v.1.2.2.1 }
def gf13 (k : Nat) : Full := { tt := tt, n := 18, fns := [], trunc := [], tails := [], touch := [], opens := [], shapes := [], closes := [], k := k, glob := glob, cuts := [], joins := [] }
theorem qf13 (k : Nat) : AllP (bodyL (gf13 k) Tryd.f13) := by
  have h : True = AllP (bodyL (gf13 k) Tryd.f13) := by kernel_rfl
  exact Eq.mp h trivial
theorem sf13 : Sound Tryd.prog glob ef13 := sound_of base (fn := Tryd.f13) Tryd.func13 (by kernel_rfl) gf13 (fun _ => ⟨rfl, rfl⟩) (fun k j => trivial) qf13 (fun k v => by kernel_rfl)

/-! laws.FnTrees -/
def f3_l13 {ρ : Type} (k : Nat) : Nat → (List Int) → Int → Int → Int → (List (Int × (Int × Int))) → (List Int) → (List (List Int)) → (((((List Int) × Unit × Unit × Unit × Int × Unit) × ((Int × (List (Int × (Int × Int))) × Unit) × (List Int) × (List (List Int)) × Unit)) → Option ρ) × (((Bool × Unit) × Unit) → Option ρ) × Unit) → Option ρ
  | 0, _, _, _, _, _, _, _, _ => none
  | j + 1, v152, v153, v154, v155, v156, v157, v158, nx =>
    bif (decide (v154 < v153)) then
      bif decide (0 ≤ v154) && decide (v154 < (v158.length : Int)) then
        (v158[v154.toNat]?).bind fun x159 =>
        bif ((x159.length : Int) != v153) then
          nx.2.1 ((false, ()), ())
        else
          f3_l13 k j v152 v153 (wr .i64 (v154 + 1)) v155 v156 v157 v158 nx
      else
        none
    else
      nx.1 ((v152, (), (), (), v153, ()), ((v155, v156, ()), v157, v158, ()))
def cf3_l13 (k : Nat) : Cut := { sp := { temps := [(0, .c (.sl (.int .u8))), (3, .c (.box 5000000)), (6, .c (.row 5000001)), (7, .c (.row 5000002)), (8, .c (.int .i64)), (9, .c (.int .i64))], blocks := [(5000000, .box 26 [(.int .i64), (.sl (.pair (.int .i64) (.pair (.int .i64) (.int .i64))))]), (5000001, .row 2 (.int .i64)), (5000002, .row 32 (.sl (.int .i64)))], ren := [] }, outs := [(.exit 0, { temps := [(0, .c (.sl (.int .u8))), (3, .c (.box 5000000)), (6, .c (.row 5000001)), (7, .c (.row 5000002)), (8, .c (.int .i64))], blocks := [(5000000, .box 26 [(.int .i64), (.sl (.pair (.int .i64) (.pair (.int .i64) (.int .i64))))]), (5000001, .row 2 (.int .i64)), (5000002, .row 32 (.sl (.int .i64)))], ren := [] }), (.ret, { temps := [(2, .c .bool)], blocks := [], ren := [] })], F := fun ρ j v nx => f3_l13 k j v.1.1 v.1.2.2.2.2.1 v.1.2.2.2.2.2.1 v.2.1.1 v.2.1.2.1 v.2.2.1 v.2.2.2.1 nx }
def f3_l26 {ρ : Type} (k : Nat) : Nat → (List Int) → Int → Int → Int → Int → Int → Int → (List (Int × (Int × Int))) → (List Int) → (List (List Int)) → (List Int) → (((((List Int) × Unit × Unit × Unit × Int × Int × Int × Unit × Int × Unit) × ((Int × (List (Int × (Int × Int))) × Unit) × (List Int) × (List (List Int)) × (List Int) × Unit)) → Option ρ) × Unit) → Option ρ
  | 0, _, _, _, _, _, _, _, _, _, _, _, _ => none
  | j + 1, v160, v161, v162, v163, v164, v165, v166, v167, v168, v169, v170, nx =>
    bif (decide (v165 < (v170.length : Int))) then
      bif decide (0 ≤ (wr .i64 (v165 - 1))) && decide ((wr .i64 (v165 - 1)) < (v170.length : Int)) then
        (v170[(wr .i64 (v165 - 1)).toNat]?).bind fun x171 =>
        bif decide (0 ≤ v165) && decide (v165 < (v170.length : Int)) then
          (v170[v165.toNat]?).bind fun x172 =>
          (f12 k v166 v167 x171 x172).bind fun x173 =>
          f3_l26 k j v160 v161 v162 v163 (wr .i64 (v164 + x173.1.1)) (wr .i64 (v165 + 1)) v166 v167 v168 v169 v170 nx
        else
          none
      else
        none
    else
      nx.1 ((v160, (), (), (), v161, v162, v163, (), v164, ()), ((v166, v167, ()), v168, v169, v170, ()))
def cf3_l26 (k : Nat) : Cut := { sp := { temps := [(0, .c (.sl (.int .u8))), (3, .c (.box 5000000)), (6, .c (.row 5000001)), (7, .c (.row 5000002)), (8, .c (.int .i64)), (10, .c (.int .i64)), (11, .c (.int .i64)), (12, .c (.row 5000003)), (13, .c (.int .i64)), (14, .c (.int .i64))], blocks := [(5000000, .box 26 [(.int .i64), (.sl (.pair (.int .i64) (.pair (.int .i64) (.int .i64))))]), (5000001, .row 2 (.int .i64)), (5000002, .row 32 (.sl (.int .i64))), (5000003, .row 2 (.int .i64))], ren := [] }, outs := [(.exit 6, { temps := [(0, .c (.sl (.int .u8))), (3, .c (.box 5000000)), (6, .c (.row 5000001)), (7, .c (.row 5000002)), (8, .c (.int .i64)), (10, .c (.int .i64)), (11, .c (.int .i64)), (12, .c (.row 5000003)), (13, .c (.int .i64))], blocks := [(5000000, .box 26 [(.int .i64), (.sl (.pair (.int .i64) (.pair (.int .i64) (.int .i64))))]), (5000001, .row 2 (.int .i64)), (5000002, .row 32 (.sl (.int .i64))), (5000003, .row 2 (.int .i64))], ren := [] })], F := fun ρ j v nx => f3_l26 k j v.1.1 v.1.2.2.2.2.1 v.1.2.2.2.2.2.1 v.1.2.2.2.2.2.2.1 v.1.2.2.2.2.2.2.2.2.1 v.1.2.2.2.2.2.2.2.2.2.1 v.2.1.1 v.2.1.2.1 v.2.2.1 v.2.2.2.1 v.2.2.2.2.1 nx }
def f3_l21 {ρ : Type} (k : Nat) : Nat → (List Int) → Int → Int → Int → Int → (List (Int × (Int × Int))) → (List Int) → (List (List Int)) → (((((List Int) × Unit × Unit × Unit × Int × Int × Unit) × ((Int × (List (Int × (Int × Int))) × Unit) × (List Int) × (List (List Int)) × Unit)) → Option ρ) × (((Bool × Unit) × Unit) → Option ρ) × Unit) → Option ρ
  | 0, _, _, _, _, _, _, _, _, _ => none
  | j + 1, v174, v175, v176, v177, v178, v179, v180, v181, nx =>
    bif (decide (v177 < v175)) then
      bif decide (0 ≤ v176) && decide (v176 < (v180.length : Int)) then
        (v180[v176.toNat]?).bind fun x182 =>
        bif decide (0 ≤ v177) && decide (v177 < (v180.length : Int)) then
          (v180[v177.toNat]?).bind fun x183 =>
          (f11 k v178 v179 x182 x183).bind fun x184 =>
          f3_l26 k k v174 v175 v176 v177 0 1 v178 v179 v180 v181 x184.2.1
            (fun x186 : (((List Int) × Unit × Unit × Unit × Int × Int × Int × Unit × Int × Unit) × ((Int × (List (Int × (Int × Int))) × Unit) × (List Int) × (List (List Int)) × (List Int) × Unit)) =>
              bif ((x186.2.2.2.2.1.length : Int) == 0) then
                nx.2.1 ((false, ()), ())
              else
                bif decide (0 ≤ x186.1.2.2.2.2.2.1) && decide (x186.1.2.2.2.2.2.1 < (x186.2.2.2.1.length : Int)) then
                  (x186.2.2.2.1[x186.1.2.2.2.2.2.1.toNat]?).bind fun x187 =>
                  (getI x187 x186.1.2.2.2.2.2.2.1).bind fun x188 =>
                  bif (x186.1.2.2.2.2.2.2.2.2.1 != x188) then
                    nx.2.1 ((false, ()), ())
                  else
                    bif decide (0 ≤ x186.1.2.2.2.2.2.1) && decide (x186.1.2.2.2.2.2.1 < (x186.2.2.2.1.length : Int)) then
                      (x186.2.2.2.1[x186.1.2.2.2.2.2.1.toNat]?).bind fun x189 =>
                      (getI x189 x186.1.2.2.2.2.2.2.1).bind fun x190 =>
                      bif decide (0 ≤ x186.1.2.2.2.2.2.2.1) && decide (x186.1.2.2.2.2.2.2.1 < (x186.2.2.2.1.length : Int)) then
                        (x186.2.2.2.1[x186.1.2.2.2.2.2.2.1.toNat]?).bind fun x191 =>
                        (getI x191 x186.1.2.2.2.2.2.1).bind fun x192 =>
                        bif (x190 != x192) then
                          nx.2.1 ((false, ()), ())
                        else
                          bif decide (0 ≤ x186.1.2.2.2.2.2.1) && decide (x186.1.2.2.2.2.2.1 < (x186.2.2.1.length : Int)) then
                            (x186.2.2.1[x186.1.2.2.2.2.2.1.toNat]?).bind fun x193 =>
                            bif decide (0 ≤ x186.1.2.2.2.2.2.2.1) && decide (x186.1.2.2.2.2.2.2.1 < (x186.2.2.1.length : Int)) then
                              (x186.2.2.1[x186.1.2.2.2.2.2.2.1.toNat]?).bind fun x194 =>
                              (f12 k x186.2.1.1 x186.2.1.2.1 x193 x194).bind fun x195 =>
                              bif (x195.1.1 != x186.1.2.2.2.2.2.2.2.2.1) then
                                nx.2.1 ((false, ()), ())
                              else
                                f3_l21 k j x186.1.1 x186.1.2.2.2.2.1 x186.1.2.2.2.2.2.1 (wr .i64 (x186.1.2.2.2.2.2.2.1 + 1)) x186.2.1.1 x186.2.1.2.1 x186.2.2.1 x186.2.2.2.1 nx
                            else
                              none
                          else
                            none
                      else
                        none
                    else
                      none
                else
                  none,
            ())
        else
          none
      else
        none
    else
      nx.1 ((v174, (), (), (), v175, v176, ()), ((v178, v179, ()), v180, v181, ()))
def cf3_l21 (k : Nat) : Cut := { sp := { temps := [(0, .c (.sl (.int .u8))), (3, .c (.box 5000000)), (6, .c (.row 5000001)), (7, .c (.row 5000002)), (8, .c (.int .i64)), (10, .c (.int .i64)), (11, .c (.int .i64))], blocks := [(5000000, .box 26 [(.int .i64), (.sl (.pair (.int .i64) (.pair (.int .i64) (.int .i64))))]), (5000001, .row 2 (.int .i64)), (5000002, .row 32 (.sl (.int .i64)))], ren := [] }, outs := [(.exit 4, { temps := [(0, .c (.sl (.int .u8))), (3, .c (.box 5000000)), (6, .c (.row 5000001)), (7, .c (.row 5000002)), (8, .c (.int .i64)), (10, .c (.int .i64))], blocks := [(5000000, .box 26 [(.int .i64), (.sl (.pair (.int .i64) (.pair (.int .i64) (.int .i64))))]), (5000001, .row 2 (.int .i64)), (5000002, .row 32 (.sl (.int .i64)))], ren := [] }), (.ret, { temps := [(2, .c .bool)], blocks := [], ren := [] })], F := fun ρ j v nx => f3_l21 k j v.1.1 v.1.2.2.2.2.1 v.1.2.2.2.2.2.1 v.1.2.2.2.2.2.2.1 v.2.1.1 v.2.1.2.1 v.2.2.1 v.2.2.2.1 nx }
def f3_l18 {ρ : Type} (k : Nat) : Nat → (List Int) → Int → Int → Int → (List (Int × (Int × Int))) → (List Int) → (List (List Int)) → (((((List Int) × Unit × Int × Unit) × ((List (List Int)) × Unit)) → Option ρ) × (((Bool × Unit) × Unit) → Option ρ) × Unit) → Option ρ
  | 0, _, _, _, _, _, _, _, _ => none
  | j + 1, v196, v197, v198, v199, v200, v201, v202, nx =>
    bif (decide (v198 < v197)) then
      f3_l21 k k v196 v197 v198 0 v199 v200 v201 v202
        (fun x203 : (((List Int) × Unit × Unit × Unit × Int × Int × Unit) × ((Int × (List (Int × (Int × Int))) × Unit) × (List Int) × (List (List Int)) × Unit)) =>
          f3_l18 k j x203.1.1 x203.1.2.2.2.2.1 (wr .i64 (x203.1.2.2.2.2.2.1 + 1)) x203.2.1.1 x203.2.1.2.1 x203.2.2.1 x203.2.2.2.1 nx,
        fun x204 : ((Bool × Unit) × Unit) =>
          nx.2.1 ((x204.1.1, ()), ()),
        ())
    else
      nx.1 ((v196, (), v197, ()), (v202, ()))
def cf3_l18 (k : Nat) : Cut := { sp := { temps := [(0, .c (.sl (.int .u8))), (3, .c (.box 5000000)), (6, .c (.row 5000001)), (7, .c (.row 5000002)), (8, .c (.int .i64)), (10, .c (.int .i64))], blocks := [(5000000, .box 26 [(.int .i64), (.sl (.pair (.int .i64) (.pair (.int .i64) (.int .i64))))]), (5000001, .row 2 (.int .i64)), (5000002, .row 32 (.sl (.int .i64)))], ren := [] }, outs := [(.exit 2, { temps := [(0, .c (.sl (.int .u8))), (7, .c (.row 5000000)), (8, .c (.int .i64))], blocks := [(5000000, .row 32 (.sl (.int .i64)))], ren := [] }), (.ret, { temps := [(2, .c .bool)], blocks := [], ren := [] })], F := fun ρ j v nx => f3_l18 k j v.1.1 v.1.2.2.2.2.1 v.1.2.2.2.2.2.1 v.2.1.1 v.2.1.2.1 v.2.2.1 v.2.2.2.1 nx }
def f3 (k : Nat) (a1 : (List Int)) : Option ((Bool × Unit) × Unit) :=
  (f4 k a1 ([] : List Int)).bind fun x104 =>
  bif x104.1.1 then
    some ((true, ()), ())
  else
    (f5 k a1 10 20).bind fun x105 =>
    (f7 k x105.1.1.1 x105.2.1).bind fun x106 =>
    (f6 k x106.1.1).bind fun x107 =>
    bif (!x107.1.2.1) then
      some ((false, ()), ())
    else
      (f8 k x107.1.1.1 x107.2.1 x105.1.1.1 x105.2.1).bind fun x109 =>
      bif (!x109.1.1) then
        some ((false, ()), ())
      else
        (f9 k x105.1.1.1 x105.2.1).bind fun x110 =>
        (f10a k x105.1.1.1 x105.2.1).bind fun x111 =>
        let x113 : Bool := ((x111.2.1.length : Int) != (x110.2.1.length : Int))
        bif x113 then
          some ((false, ()), ())
        else
          bif (decide ((x110.2.1.length : Int) < 2)) then
            some ((false, ()), ())
          else
            f3_l13 k k a1 (x110.2.1.length : Int) 0 x105.1.1.1 x105.2.1 x110.2.1 x111.2.1
              (fun x116 : (((List Int) × Unit × Unit × Unit × Int × Unit) × ((Int × (List (Int × (Int × Int))) × Unit) × (List Int) × (List (List Int)) × Unit)) =>
                f3_l18 k k x116.1.1 x116.1.2.2.2.2.1 0 x116.2.1.1 x116.2.1.2.1 x116.2.2.1 x116.2.2.2.1
                  (fun x119 : (((List Int) × Unit × Int × Unit) × ((List (List Int)) × Unit)) =>
                    (f13 k x119.1.1 0 x119.1.2.2.1).bind fun x120 =>
                    (f13 k x119.1.1 1 x119.1.2.2.1).bind fun x121 =>
                    (f13 k x119.1.1 2 x119.1.2.2.1).bind fun x122 =>
                    (f13 k x119.1.1 3 x119.1.2.2.1).bind fun x123 =>
                    bif decide (0 ≤ x120.1.1) && decide (x120.1.1 < (x119.2.1.length : Int)) then
                      (x119.2.1[x120.1.1.toNat]?).bind fun x124 =>
                      (getI x124 x121.1.1).bind fun x125 =>
                      bif decide (0 ≤ x122.1.1) && decide (x122.1.1 < (x119.2.1.length : Int)) then
                        (x119.2.1[x122.1.1.toNat]?).bind fun x126 =>
                        (getI x126 x123.1.1).bind fun x127 =>
                        bif decide (0 ≤ x120.1.1) && decide (x120.1.1 < (x119.2.1.length : Int)) then
                          (x119.2.1[x120.1.1.toNat]?).bind fun x128 =>
                          (getI x128 x122.1.1).bind fun x129 =>
                          bif decide (0 ≤ x121.1.1) && decide (x121.1.1 < (x119.2.1.length : Int)) then
                            (x119.2.1[x121.1.1.toNat]?).bind fun x130 =>
                            (getI x130 x123.1.1).bind fun x131 =>
                            bif decide (0 ≤ x120.1.1) && decide (x120.1.1 < (x119.2.1.length : Int)) then
                              (x119.2.1[x120.1.1.toNat]?).bind fun x132 =>
                              (getI x132 x123.1.1).bind fun x133 =>
                              bif decide (0 ≤ x121.1.1) && decide (x121.1.1 < (x119.2.1.length : Int)) then
                                (x119.2.1[x121.1.1.toNat]?).bind fun x134 =>
                                (getI x134 x122.1.1).bind fun x135 =>
                                let x136 : Bool := (decide ((wr .i64 (x125 + x127)) ≤ (wr .i64 (x129 + x131))))
                                bif x136 then
                                  let x137 : Bool := ((wr .i64 (x129 + x131)) == (wr .i64 (x133 + x135)))
                                  bif x137 then
                                    some ((true, ()), ())
                                  else
                                    let x138 : Bool := (decide ((wr .i64 (x129 + x131)) ≤ (wr .i64 (x125 + x127))))
                                    bif x138 then
                                      let x139 : Bool := ((wr .i64 (x125 + x127)) == (wr .i64 (x133 + x135)))
                                      bif x139 then
                                        some ((true, ()), ())
                                      else
                                        let x140 : Bool := (decide ((wr .i64 (x133 + x135)) ≤ (wr .i64 (x125 + x127))))
                                        bif x140 then
                                          let x141 : Bool := ((wr .i64 (x125 + x127)) == (wr .i64 (x129 + x131)))
                                          some ((x141, ()), ())
                                        else
                                          some ((false, ()), ())
                                    else
                                      let x142 : Bool := (decide ((wr .i64 (x133 + x135)) ≤ (wr .i64 (x125 + x127))))
                                      bif x142 then
                                        let x143 : Bool := ((wr .i64 (x125 + x127)) == (wr .i64 (x129 + x131)))
                                        some ((x143, ()), ())
                                      else
                                        some ((false, ()), ())
                                else
                                  let x144 : Bool := (decide ((wr .i64 (x129 + x131)) ≤ (wr .i64 (x125 + x127))))
                                  bif x144 then
                                    let x145 : Bool := ((wr .i64 (x125 + x127)) == (wr .i64 (x133 + x135)))
                                    bif x145 then
                                      some ((true, ()), ())
                                    else
                                      let x146 : Bool := (decide ((wr .i64 (x133 + x135)) ≤ (wr .i64 (x125 + x127))))
                                      bif x146 then
                                        let x147 : Bool := ((wr .i64 (x125 + x127)) == (wr .i64 (x129 + x131)))
                                        some ((x147, ()), ())
                                      else
                                        some ((false, ()), ())
                                  else
                                    let x148 : Bool := (decide ((wr .i64 (x133 + x135)) ≤ (wr .i64 (x125 + x127))))
                                    bif x148 then
                                      let x149 : Bool := ((wr .i64 (x125 + x127)) == (wr .i64 (x129 + x131)))
                                      some ((x149, ()), ())
                                    else
                                      some ((false, ()), ())
                              else
                                none
                            else
                              none
                          else
                            none
                        else
                          none
                      else
                        none
                    else
                      none,
                  fun x150 : ((Bool × Unit) × Unit) =>
                    some ((x150.1.1, ()), ()),
                  ()),
              fun x151 : ((Bool × Unit) × Unit) =>
                some ((x151.1.1, ()), ()),
              ())
def ef3 : Entry := { id := 3, ar := { temps := [(0, .c (.sl (.int .u8)))], blocks := [], ren := [] }, res := { temps := [(0, .c .bool)], blocks := [], ren := [] }, f := fun k v => f3 k v.1.1 }
def gf3 (k : Nat) : Full := { tt := tt, n := 235, fns := [ef4, ef5, ef7, ef6, ef8, ef9, ef10a, ef11, ef12, ef13], trunc := [], tails := [], touch := [], opens := [], shapes := [], closes := [], k := k, glob := glob, cuts := [(13, (cf3_l13 k)), (26, (cf3_l26 k)), (21, (cf3_l21 k)), (18, (cf3_l18 k))], joins := [] }
theorem of3_l13 (k : Nat) : CutOk (gf3 k) (cf3_l13 k) (theLoop Tryd.f3 13) := fun ρ v nx => ⟨by kernel_rfl, fun j => by kernel_rfl⟩
theorem of3_l26 (k : Nat) : CutOk (gf3 k) (cf3_l26 k) (theLoop Tryd.f3 26) := fun ρ v nx => ⟨by kernel_rfl, fun j => by kernel_rfl⟩
theorem of3_l21 (k : Nat) : CutOk (gf3 k) (cf3_l21 k) (theLoop Tryd.f3 21) := fun ρ v nx => ⟨by kernel_rfl, fun j => by kernel_rfl⟩
theorem of3_l18 (k : Nat) : CutOk (gf3 k) (cf3_l18 k) (theLoop Tryd.f3 18) := fun ρ v nx => ⟨by kernel_rfl, fun j => by kernel_rfl⟩
theorem qf3 (k : Nat) : AllP (bodyL (gf3 k) Tryd.f3) := by
  have h : (CutOk (gf3 k) (cf3_l13 k) (theLoop Tryd.f3 13) ∧ CutOk (gf3 k) (cf3_l26 k) (theLoop Tryd.f3 26) ∧ CutOk (gf3 k) (cf3_l21 k) (theLoop Tryd.f3 21) ∧ CutOk (gf3 k) (cf3_l18 k) (theLoop Tryd.f3 18) ∧ True) = AllP (bodyL (gf3 k) Tryd.f3) := by kernel_rfl
  exact Eq.mp h (And.intro (of3_l13 k) (And.intro (of3_l26 k) (And.intro (of3_l21 k) (And.intro (of3_l18 k) (trivial)))))
theorem sf3 : Sound Tryd.prog glob ef3 := sound_of base (fn := Tryd.f3) Tryd.func3 (by kernel_rfl) gf3 (fun _ => ⟨rfl, rfl⟩) (fun k j => ⟨sf4.at j, sf5.at j, sf7.at j, sf6.at j, sf8.at j, sf9.at j, sf10a.at j, sf11.at j, sf12.at j, sf13.at j, trivial⟩) qf3 (fun k v => by kernel_rfl)

end Go.Proofs.YtkimeoknckohfaaDoor.R
