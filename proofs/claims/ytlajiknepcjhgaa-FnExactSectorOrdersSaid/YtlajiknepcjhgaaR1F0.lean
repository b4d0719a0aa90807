/- Plain twins of functions, with their contracts. Printed by a program of this session. -/
import Derived.Test.YtlajiknepcjhgaaProg
import Derived.Test.YtlajiknepcjhgaaR1Tools
set_option linter.unusedVariables false
namespace Go.Proofs.Ytlajiknepcjhgaa.R
open Go.Proofs.Ytlajiknepcjhgaa.R1
def tt : TT := [
  (2, { k := (.int .i64), size := 1, bytes := 8, zero := [.int .i64 0], u := (.int .i64) }),
  (3, { k := (.int .i64), size := 1, bytes := 8, zero := [.int .i64 0], u := (.int .i64) }),
  (4, { k := .bool, size := 1, bytes := 1, zero := [.bool false], u := .bool }),
  (22, { k := (.sl 2), size := 1, bytes := 24, zero := [.nils], u := (.sl (.int .i64)) }),
  (23, { k := (.sl 22), size := 1, bytes := 24, zero := [.nils], u := (.sl (.sl (.int .i64))) }),
  (51, { k := (.ptr 67), size := 1, bytes := 8, zero := [.nilp], u := .unit }),
  (56, { k := (.struct [(0, 3), (1, 22), (2, 22), (3, 22), (4, 22), (5, 22)]), size := 6, bytes := 128, zero := [.int .i64 0, .nils, .nils, .nils, .nils, .nils], u := (.pair (.int .i64) (.pair (.sl (.int .i64)) (.pair (.sl (.int .i64)) (.pair (.sl (.int .i64)) (.pair (.sl (.int .i64)) (.sl (.int .i64))))))) }),
  (63, { k := .func, size := 1, bytes := 8, zero := [.nilf], u := .unit }),
  (65, { k := (.sl 80), size := 1, bytes := 24, zero := [.nils], u := (.sl (.pair (.int .i64) (.int .i64))) }),
  (67, { k := (.struct [(0, 3), (1, 22), (2, 65), (3, 22)]), size := 4, bytes := 80, zero := [.int .i64 0, .nils, .nils, .nils], u := (.pair (.int .i64) (.pair (.sl (.int .i64)) (.pair (.sl (.pair (.int .i64) (.int .i64))) (.sl (.int .i64))))) }),
  (80, { k := (.arr 2 2), size := 2, bytes := 16, zero := [.int .i64 0, .int .i64 0], u := (.pair (.int .i64) (.int .i64)) }),
  (86, { k := (.sl 3), size := 1, bytes := 24, zero := [.nils], u := (.sl (.int .i64)) })]
def gl : List (Nat × B) := []
def glob : Nat → B := globOf gl
theorem ttok : TTok Try.prog tt := ttok_of_chk (by kernel_rfl)
theorem base : Base Try.prog tt glob := ⟨drawOk (by kernel_rfl), ttok, globOf_free (by kernel_rfl)⟩

/-! laws.toInt64S -/
def f6_l3 {ρ : Type} (k : Nat) : Nat → (List Int) → Int → (List Int) → ((((Unit × Unit) × ((List Int) × Unit)) → Option ρ) × Unit) → Option ρ
  | 0, _, _, _, _ => none
  | j + 1, v8, v9, v10, nx =>
    bif (decide (v9 < (v8.length : Int))) then
      (getI v8 v9).bind fun x11 =>
      bif decide (0 ≤ v9) && decide (v9 < (v10.length : Int)) then
        (v10[v9.toNat]?).bind fun _ =>
        f6_l3 k j v8 (wr .i64 (v9 + 1)) (v10.set v9.toNat x11) nx
      else
        none
    else
      nx.1 (((), ()), (v10, ()))
def cf6_l3 (k : Nat) : Cut := { sp := { temps := [(0, .c (.sl (.int .i64))), (3, .c (.row 5000000)), (4, .c (.int .i64))], blocks := [(5000000, .row 2 (.int .i64))], ren := [] }, outs := [(.exit 0, { temps := [(3, .c (.row 5000000))], blocks := [(5000000, .row 2 (.int .i64))], ren := [] })], F := fun ρ j v nx => f6_l3 k j v.1.1 v.1.2.2.1 v.2.1 nx }
def f6 (k : Nat) (a1 : (List Int)) : Option ((Unit × Unit) × ((List Int) × Unit)) :=
  bif decide ((a1.length : Int) = (a1.length : Int)) && decide (0 ≤ (a1.length : Int)) && decide ((a1.length : Int) * 8 ≤ roomy) then
    f6_l3 k k a1 0 (List.replicate (a1.length : Int).toNat 0)
      (fun x7 : ((Unit × Unit) × ((List Int) × Unit)) =>
        some (((), ()), (x7.2.1, ())),
      ())
  else
    none
def ef6 : Entry := { id := 6, ar := { temps := [(0, .c (.sl (.int .i64)))], blocks := [], ren := [] }, res := { temps := [(0, .c (.row 4000000))], blocks := [(4000000, .row 2 (.int .i64))], ren := [] }, f := fun k v => f6 k v.1.1 }
def gf6 (k : Nat) : Full := { tt := tt, n := 22, fns := [], trunc := [], tails := [], touch := [], opens := [], shapes := [], closes := [], k := k, glob := glob, cuts := [(3, (cf6_l3 k))], joins := [] }
theorem of6_l3 (k : Nat) : CutOk (gf6 k) (cf6_l3 k) (theLoop Try.f6 3) := fun ρ v nx => ⟨by kernel_rfl, fun j => by kernel_rfl⟩
theorem qf6 (k : Nat) : AllP (bodyL (gf6 k) Try.f6) := by
  have h : (CutOk (gf6 k) (cf6_l3 k) (theLoop Try.f6 3) ∧ True) = AllP (bodyL (gf6 k) Try.f6) := by kernel_rfl
  exact Eq.mp h (And.intro (of6_l3 k) (trivial))
theorem sf6 : Sound Try.prog glob ef6 := sound_of base (fn := Try.f6) Try.func6 (by kernel_rfl) gf6 (fun _ => ⟨rfl, rfl⟩) (fun k j => trivial) qf6 (fun k v => by kernel_rfl)

/-! spec.l00In -/
def f39 (k : Nat) (a1 : Int) (a2 : Int) (a3 : Int) : Option ((Bool × Unit) × Unit) :=
  bif (decide (a1 ≥ a2)) then
    some (((decide (a1 ≤ a3)), ()), ())
  else
    some ((false, ()), ())
def ef39 : Entry := { id := 39, ar := { temps := [(0, .c (.int .i64)), (1, .c (.int .i64)), (2, .c (.int .i64))], blocks := [], ren := [] }, res := { temps := [(0, .c .bool)], blocks := [], ren := [] }, f := fun k v => f39 k v.1.1 v.1.2.1 v.1.2.2.1 }
def gf39 (k : Nat) : Full := { tt := tt, n := 15, fns := [], trunc := [], tails := [], touch := [], opens := [], shapes := [], closes := [], k := k, glob := glob, cuts := [], joins := [] }
theorem qf39 (k : Nat) : AllP (bodyL (gf39 k) Try.f39) := by
  have h : True = AllP (bodyL (gf39 k) Try.f39) := by kernel_rfl
  exact Eq.mp h trivial
theorem sf39 : Sound Try.prog glob ef39 := sound_of base (fn := Try.f39) Try.func39 (by kernel_rfl) gf39 (fun _ => ⟨rfl, rfl⟩) (fun k j => trivial) qf39 (fun k v => by kernel_rfl)

/-! spec.l11Ok -/
def f22_l6 {ρ : Type} (k : Nat) : Nat → (List Int) → Int → Int → Int → ((((Int × Int × Unit) × Unit) → Option ρ) × (((Bool × Unit) × Unit) → Option ρ) × Unit) → Option ρ
  | 0, _, _, _, _, _ => none
  | j + 1, v19, v20, v21, v22, nx =>
    bif (decide (v22 < (v19.length : Int))) then
      (getI v19 v22).bind fun x25 =>
      (f39 k x25 1 16).bind fun x26 =>
      bif (!x26.1.1) then
        nx.2.1 ((false, ()), ())
      else
        (getI v19 v22).bind fun x27 =>
        bif ((v22.tmod 2) == 0) then
          (getI v19 v22).bind fun x28 =>
          f22_l6 k j v19 (wr .i64 (v20 + x27)) (wr .i64 (v21 + x28)) (wr .i64 (v22 + 1)) nx
        else
          f22_l6 k j v19 (wr .i64 (v20 + x27)) v21 (wr .i64 (v22 + 1)) nx
    else
      nx.1 ((v20, v21, ()), ())
def cf22_l6 (k : Nat) : Cut := { sp := { temps := [(0, .c (.sl (.int .i64))), (3, .c (.int .i64)), (4, .c (.int .i64)), (5, .c (.int .i64))], blocks := [], ren := [] }, outs := [(.exit 0, { temps := [(3, .c (.int .i64)), (4, .c (.int .i64))], blocks := [], ren := [] }), (.ret, { temps := [(2, .c .bool)], blocks := [], ren := [] })], F := fun ρ j v nx => f22_l6 k j v.1.1 v.1.2.1 v.1.2.2.1 v.1.2.2.2.1 nx }
def f22 (k : Nat) (a1 : (List Int)) : Option ((Bool × Unit) × Unit) :=
  bif (decide ((a1.length : Int) < 2)) then
    some ((false, ()), ())
  else
    bif (decide ((a1.length : Int) > 16)) then
      some ((false, ()), ())
    else
      bif (((a1.length : Int).tmod 2) != 0) then
        some ((false, ()), ())
      else
        f22_l6 k k a1 0 0 0
          (fun x17 : ((Int × Int × Unit) × Unit) =>
            bif (decide (x17.1.1 ≤ 16)) then
              some ((((wr .i64 (2 * x17.1.2.1)) == x17.1.1), ()), ())
            else
              some ((false, ()), ()),
          fun x18 : ((Bool × Unit) × Unit) =>
            some ((x18.1.1, ()), ()),
          ())
def ef22 : Entry := { id := 22, ar := { temps := [(0, .c (.sl (.int .i64)))], blocks := [], ren := [] }, res := { temps := [(0, .c .bool)], blocks := [], ren := [] }, f := fun k v => f22 k v.1.1 }
def gf22 (k : Nat) : Full := { tt := tt, n := 55, fns := [ef39], trunc := [], tails := [], touch := [], opens := [], shapes := [], closes := [], k := k, glob := glob, cuts := [(6, (cf22_l6 k))], joins := [] }
theorem of22_l6 (k : Nat) : CutOk (gf22 k) (cf22_l6 k) (theLoop Try.f22 6) := fun ρ v nx => ⟨by kernel_rfl, fun j => by kernel_rfl⟩
theorem qf22 (k : Nat) : AllP (bodyL (gf22 k) Try.f22) := by
  have h : (CutOk (gf22 k) (cf22_l6 k) (theLoop Try.f22 6) ∧ True) = AllP (bodyL (gf22 k) Try.f22) := by kernel_rfl
  exact Eq.mp h (And.intro (of22_l6 k) (trivial))
theorem sf22 : Sound Try.prog glob ef22 := sound_of base (fn := Try.f22) Try.func22 (by kernel_rfl) gf22 (fun _ => ⟨rfl, rfl⟩) (fun k j => ⟨sf39.at j, trivial⟩) qf22 (fun k v => by kernel_rfl)

/-! spec.l11Kinds -/
def f23_l2 {ρ : Type} (k : Nat) : Nat → (List Int) → (List Int) → Bool → Int → (((((List Int) × (List Int) × Unit) × Unit) → Option ρ) × (((Bool × Unit) × Unit) → Option ρ) × Unit) → Option ρ
  | 0, _, _, _, _, _ => none
  | j + 1, v12, v13, v14, v15, nx =>
    bif (decide (v15 < (v13.length : Int))) then
      (getI v13 v15).bind fun x16 =>
      bif (x16 != 2) then
        bif (x16 != 3) then
          bif v14 then
            bif (!(x16 == 4)) then
              nx.2.1 ((false, ()), ())
            else
              f23_l2 k j v12 v13 v14 (wr .i64 (v15 + 1)) nx
          else
            nx.2.1 ((false, ()), ())
        else
          f23_l2 k j v12 v13 v14 (wr .i64 (v15 + 1)) nx
      else
        f23_l2 k j v12 v13 v14 (wr .i64 (v15 + 1)) nx
    else
      nx.1 ((v12, v13, ()), ())
def cf23_l2 (k : Nat) : Cut := { sp := { temps := [(0, .c (.sl (.int .i64))), (1, .c (.sl (.int .i64))), (2, .c .bool), (7, .c (.int .i64))], blocks := [], ren := [] }, outs := [(.exit 0, { temps := [(0, .c (.sl (.int .i64))), (1, .c (.sl (.int .i64)))], blocks := [], ren := [] }), (.ret, { temps := [(6, .c .bool)], blocks := [], ren := [] })], F := fun ρ j v nx => f23_l2 k j v.1.1 v.1.2.1 v.1.2.2.1 v.1.2.2.2.1 nx }
def f23 (k : Nat) (a1 : (List Int)) (a2 : (List Int)) (a3 : Bool) : Option ((Bool × Unit) × Unit) :=
  f23_l2 k k a1 a2 a3 0
    (fun x9 : (((List Int) × (List Int) × Unit) × Unit) =>
      let x10 : Bool := ((x9.1.2.1.length : Int) == (x9.1.1.length : Int))
      some ((x10, ()), ()),
    fun x11 : ((Bool × Unit) × Unit) =>
      some ((x11.1.1, ()), ()),
    ())
def ef23 : Entry := { id := 23, ar := { temps := [(0, .c (.sl (.int .i64))), (1, .c (.sl (.int .i64))), (2, .c .bool)], blocks := [], ren := [] }, res := { temps := [(0, .c .bool)], blocks := [], ren := [] }, f := fun k v => f23 k v.1.1 v.1.2.1 v.1.2.2.1 }
def gf23 (k : Nat) : Full := { tt := tt, n := 38, fns := [], trunc := [], tails := [], touch := [], opens := [], shapes := [], closes := [], k := k, glob := glob, cuts := [(2, (cf23_l2 k))], joins := [] }
theorem of23_l2 (k : Nat) : CutOk (gf23 k) (cf23_l2 k) (theLoop Try.f23 2) := fun ρ v nx => ⟨by kernel_rfl, fun j => by kernel_rfl⟩
theorem qf23 (k : Nat) : AllP (bodyL (gf23 k) Try.f23) := by
  have h : (CutOk (gf23 k) (cf23_l2 k) (theLoop Try.f23 2) ∧ True) = AllP (bodyL (gf23 k) Try.f23) := by kernel_rfl
  exact Eq.mp h (And.intro (of23_l2 k) (trivial))
theorem sf23 : Sound Try.prog glob ef23 := sound_of base (fn := Try.f23) Try.func23 (by kernel_rfl) gf23 (fun _ => ⟨rfl, rfl⟩) (fun k j => trivial) qf23 (fun k v => by kernel_rfl)

/-! spec.l11Places -/
def f40_l4 {ρ : Type} (k : Nat) : Nat → (List Int) → Int → Int → (List Int) → ((((Unit × Unit) × ((List Int) × Unit)) → Option ρ) × Unit) → Option ρ
  | 0, _, _, _, _, _ => none
  | j + 1, v9, v10, v11, v12, nx =>
    bif (decide (v11 < (v9.length : Int))) then
      bif decide ((v12.length + [v10].length) * 8 ≤ roomy) then
        bif ((v11.tmod 2) == 0) then
          (getI v9 v11).bind fun x13 =>
          f40_l4 k j v9 (wr .i64 (v10 + x13)) (wr .i64 (v11 + 1)) (v12 ++ [v10]) nx
        else
          (getI v9 v11).bind fun x14 =>
          f40_l4 k j v9 (wr .i64 (v10 - x14)) (wr .i64 (v11 + 1)) (v12 ++ [v10]) nx
      else
        none
    else
      nx.1 (((), ()), (v12, ()))
def cf40_l4 (k : Nat) : Cut := { sp := { temps := [(0, .c (.sl (.int .i64))), (3, .c (.row 5000000)), (4, .c (.int .i64)), (5, .c (.int .i64))], blocks := [(5000000, .row 2 (.int .i64))], ren := [] }, outs := [(.exit 0, { temps := [(3, .c (.row 5000000))], blocks := [(5000000, .row 2 (.int .i64))], ren := [] })], F := fun ρ j v nx => f40_l4 k j v.1.1 v.1.2.2.1 v.1.2.2.2.1 v.2.1 nx }
def f40 (k : Nat) (a1 : (List Int)) : Option ((Unit × Unit) × ((List Int) × Unit)) :=
  f40_l4 k k a1 0 0 ([] : List Int)
    (fun x8 : ((Unit × Unit) × ((List Int) × Unit)) =>
      some (((), ()), (x8.2.1, ())),
    ())
def ef40 : Entry := { id := 40, ar := { temps := [(0, .c (.sl (.int .i64)))], blocks := [], ren := [] }, res := { temps := [(0, .c (.row 4000000))], blocks := [(4000000, .row 2 (.int .i64))], ren := [] }, f := fun k v => f40 k v.1.1 }
def gf40 (k : Nat) : Full := { tt := tt, n := 33, fns := [], trunc := [], tails := [], touch := [], opens := [], shapes := [], closes := [], k := k, glob := glob, cuts := [(4, (cf40_l4 k))], joins := [] }
theorem of40_l4 (k : Nat) : CutOk (gf40 k) (cf40_l4 k) (theLoop Try.f40 4) := fun ρ v nx => ⟨by kernel_rfl, fun j => by kernel_rfl⟩
theorem qf40 (k : Nat) : AllP (bodyL (gf40 k) Try.f40) := by
  have h : (CutOk (gf40 k) (cf40_l4 k) (theLoop Try.f40 4) ∧ True) = AllP (bodyL (gf40 k) Try.f40) := by kernel_rfl
  exact Eq.mp h (And.intro (of40_l4 k) (trivial))
theorem sf40 : Sound Try.prog glob ef40 := sound_of base (fn := Try.f40) Try.func40 (by kernel_rfl) gf40 (fun _ => ⟨rfl, rfl⟩) (fun k j => trivial) qf40 (fun k v => by kernel_rfl)

/-! spec.l00Min -/
def f41 (k : Nat) (a1 : Int) (a2 : Int) : Option ((Int × Unit) × Unit) :=
  bif (decide (a1 < a2)) then
    some ((a1, ()), ())
  else
    some ((a2, ()), ())
def ef41 : Entry := { id := 41, ar := { temps := [(0, .c (.int .i64)), (1, .c (.int .i64))], blocks := [], ren := [] }, res := { temps := [(0, .c (.int .i64))], blocks := [], ren := [] }, f := fun k v => f41 k v.1.1 v.1.2.1 }
def gf41 (k : Nat) : Full := { tt := tt, n := 10, fns := [], trunc := [], tails := [], touch := [], opens := [], shapes := [], closes := [], k := k, glob := glob, cuts := [], joins := [] }
theorem qf41 (k : Nat) : AllP (bodyL (gf41 k) Try.f41) := by
  have h : True = AllP (bodyL (gf41 k) Try.f41) := by kernel_rfl
  exact Eq.mp h trivial
theorem sf41 : Sound Try.prog glob ef41 := sound_of base (fn := Try.f41) Try.func41 (by kernel_rfl) gf41 (fun _ => ⟨rfl, rfl⟩) (fun k j => trivial) qf41 (fun k v => by kernel_rfl)

/-! spec.l00Max -/
def f42 (k : Nat) (a1 : Int) (a2 : Int) : Option ((Int × Unit) × Unit) :=
  bif (decide (a1 > a2)) then
    some ((a1, ()), ())
  else
    some ((a2, ()), ())
def ef42 : Entry := { id := 42, ar := { temps := [(0, .c (.int .i64)), (1, .c (.int .i64))], blocks := [], ren := [] }, res := { temps := [(0, .c (.int .i64))], blocks := [], ren := [] }, f := fun k v => f42 k v.1.1 v.1.2.1 }
def gf42 (k : Nat) : Full := { tt := tt, n := 10, fns := [], trunc := [], tails := [], touch := [], opens := [], shapes := [], closes := [], k := k, glob := glob, cuts := [], joins := [] }
theorem qf42 (k : Nat) : AllP (bodyL (gf42 k) Try.f42) := by
  have h : True = AllP (bodyL (gf42 k) Try.f42) := by kernel_rfl
  exact Eq.mp h trivial
theorem sf42 : Sound Try.prog glob ef42 := sound_of base (fn := Try.f42) Try.func42 (by kernel_rfl) gf42 (fun _ => ⟨rfl, rfl⟩) (fun k j => trivial) qf42 (fun k v => by kernel_rfl)

/-! spec.l11Cone).overlap -/
def f43 (k : Nat) (a1 : (Int × ((List Int) × ((List Int) × ((List Int) × ((List Int) × (List Int))))))) (a2 : Int) (a3 : Int) : Option ((Bool × Unit) × Unit) :=
  bif (a2 != a3) then
    (getI a1.2.2.1 a2).bind fun x7 =>
    (getI a1.2.2.1 a3).bind fun x8 =>
    (f42 k x7 x8).bind fun x9 =>
    (getI a1.2.2.2.1 a2).bind fun x10 =>
    (getI a1.2.2.2.1 a3).bind fun x11 =>
    (f41 k x10 x11).bind fun x12 =>
    some (((decide (x9.1.1 < x12.1.1)), ()), ())
  else
    some ((false, ()), ())
def ef43 : Entry := { id := 43, ar := { temps := [(0, .c (.dp (.pair (.int .i64) (.pair (.sl (.int .i64)) (.pair (.sl (.int .i64)) (.pair (.sl (.int .i64)) (.pair (.sl (.int .i64)) (.sl (.int .i64))))))))), (1, .c (.int .i64)), (2, .c (.int .i64))], blocks := [], ren := [] }, res := { temps := [(0, .c .bool)], blocks := [], ren := [] }, f := fun k v => f43 k v.1.1 v.1.2.1 v.1.2.2.1 }
def gf43 (k : Nat) : Full := { tt := tt, n := 43, fns := [ef42, ef41], trunc := [], tails := [], touch := [], opens := [], shapes := [], closes := [], k := k, glob := glob, cuts := [], joins := [] }
theorem qf43 (k : Nat) : AllP (bodyL (gf43 k) Try.f43) := by
  have h : True = AllP (bodyL (gf43 k) Try.f43) := by kernel_rfl
  exact Eq.mp h trivial
theorem sf43 : Sound Try.prog glob ef43 := sound_of base (fn := Try.f43) Try.func43 (by kernel_rfl) gf43 (fun _ => ⟨rfl, rfl⟩) (fun k j => ⟨sf42.at j, sf41.at j, trivial⟩) qf43 (fun k v => by kernel_rfl)

/-! spec.l11New -/
def f24_l3 {ρ : Type} (k : Nat) : Nat → Int → Int → (List Int) → (List Int) → (List Int) → (List Int) → ((((Unit × Unit) × ((Int × Unit × Unit × Unit × (List Int) × Unit × Unit) × (List Int) × (List Int) × (List Int) × Unit)) → Option ρ) × Unit) → Option ρ
  | 0, _, _, _, _, _, _, _ => none
  | j + 1, v63, v64, v65, v66, v67, v68, nx =>
    bif (decide (v63 < v64)) then
      bif decide (0 ≤ v63) && decide (v63 < (v66.length : Int)) then
        (v66[v63.toNat]?).bind fun x69 =>
        bif decide (v64 = 0) then
          none
        else
          bif decide (0 ≤ ((wr .i64 (v63 + 1)).tmod v64)) && decide (((wr .i64 (v63 + 1)).tmod v64) < (v66.length : Int)) then
            (v66[((wr .i64 (v63 + 1)).tmod v64).toNat]?).bind fun x70 =>
            (f41 k x69 x70).bind fun x71 =>
            bif decide ((v67.length + [x71.1.1].length) * 8 ≤ roomy) then
              (f42 k x69 x70).bind fun x72 =>
              bif decide ((v68.length + [x72.1.1].length) * 8 ≤ roomy) then
                f24_l3 k j (wr .i64 (v63 + 1)) v64 v65 v66 (v67 ++ [x71.1.1]) (v68 ++ [x72.1.1]) nx
              else
                none
            else
              none
          else
            none
      else
        none
    else
      nx.1 (((), ()), ((v64, (), (), (), v65, (), ()), v66, v67, v68, ()))
def cf24_l3 (k : Nat) : Cut := { sp := { temps := [(5, .c (.box 5000000)), (6, .c (.int .i64))], blocks := [(5000000, .box 56 [(.int .i64), (.row 5000001), (.row 5000002), (.row 5000003), (.sl (.int .i64)), (.lit .nils)]), (5000001, .row 2 (.int .i64)), (5000002, .row 2 (.int .i64)), (5000003, .row 2 (.int .i64))], ren := [] }, outs := [(.exit 0, { temps := [(5, .c (.box 5000000))], blocks := [(5000000, .box 56 [(.int .i64), (.row 5000001), (.row 5000002), (.row 5000003), (.sl (.int .i64)), (.lit .nils)]), (5000001, .row 2 (.int .i64)), (5000002, .row 2 (.int .i64)), (5000003, .row 2 (.int .i64))], ren := [] })], F := fun ρ j v nx => f24_l3 k j v.1.2.1 v.2.1.1 v.2.1.2.2.2.2.1 v.2.2.1 v.2.2.2.1 v.2.2.2.2.1 nx }
def f24_j15 {ρ : Type} (k : Nat) (v83 : Int) (v84 : Int) (v85 : Int) (v86 : (List Int)) (v87 : (List Int)) (v88 : (List Int)) (v89 : (List Int)) (v90 : (List Int)) (nx : ((((Unit × Int × Unit) × ((Int × Unit × Unit × Unit × (List Int) × Unit × Unit) × (List Int) × (List Int) × (List Int) × (List Int) × Unit)) → Option ρ) × Unit)) : Option ρ :=
  bif decide ((v90.length + [v84].length) * 8 ≤ roomy) then
    nx.1 (((), v83, ()), ((v85, (), (), (), v86, (), ()), v87, v88, v89, (v90 ++ [v84]), ()))
  else
    none
def cf24_j15 : Cut := { sp := { temps := [(5, .c (.box 5000000)), (9, .c (.int .i64)), (10, .c (.int .i64))], blocks := [(5000000, .box 56 [(.int .i64), (.row 5000001), (.row 5000002), (.row 5000003), (.sl (.int .i64)), (.row 5000004)]), (5000001, .row 2 (.int .i64)), (5000002, .row 2 (.int .i64)), (5000003, .row 2 (.int .i64)), (5000004, .row 2 (.int .i64))], ren := [] }, outs := [(.normal, { temps := [(5, .c (.box 5000000)), (9, .c (.int .i64))], blocks := [(5000000, .box 56 [(.int .i64), (.row 5000001), (.row 5000002), (.row 5000003), (.sl (.int .i64)), (.row 5000004)]), (5000001, .row 2 (.int .i64)), (5000002, .row 2 (.int .i64)), (5000003, .row 2 (.int .i64)), (5000004, .row 2 (.int .i64))], ren := [] })], F := fun ρ k v nx => f24_j15 k v.1.2.1 v.1.2.2.1 v.2.1.1 v.2.1.2.2.2.2.1 v.2.2.1 v.2.2.2.1 v.2.2.2.2.1 v.2.2.2.2.2.1 nx }
def f24_l10 {ρ : Type} (k : Nat) : Nat → Int → Int → (List Int) → (List Int) → (List Int) → (List Int) → (List Int) → ((((Unit × Unit) × ((Int × Unit × Unit × Unit × (List Int) × Unit × Unit) × (List Int) × (List Int) × (List Int) × (List Int) × Unit)) → Option ρ) × Unit) → Option ρ
  | 0, _, _, _, _, _, _, _, _ => none
  | j + 1, v73, v74, v75, v76, v77, v78, v79, nx =>
    bif (decide (v73 < (wr .i64 (v74 * v74)))) then
      bif decide (v74 = 0) then
        none
      else
        bif decide (v74 = 0) then
          none
        else
          (f43 k (v74, (v76, (v77, (v78, (v75, v79))))) (wr .i64 (v73.tdiv v74)) (v73.tmod v74)).bind fun x80 =>
          bif x80.1.1 then
            f24_j15 k v73 2 v74 v75 v76 v77 v78 v79
              (fun x81 : ((Unit × Int × Unit) × ((Int × Unit × Unit × Unit × (List Int) × Unit × Unit) × (List Int) × (List Int) × (List Int) × (List Int) × Unit)) =>
                f24_l10 k j (wr .i64 (x81.1.2.1 + 1)) x81.2.1.1 x81.2.1.2.2.2.2.1 x81.2.2.1 x81.2.2.2.1 x81.2.2.2.2.1 x81.2.2.2.2.2.1 nx,
              ())
          else
            f24_j15 k v73 0 v74 v75 v76 v77 v78 v79
              (fun x82 : ((Unit × Int × Unit) × ((Int × Unit × Unit × Unit × (List Int) × Unit × Unit) × (List Int) × (List Int) × (List Int) × (List Int) × Unit)) =>
                f24_l10 k j (wr .i64 (x82.1.2.1 + 1)) x82.2.1.1 x82.2.1.2.2.2.2.1 x82.2.2.1 x82.2.2.2.1 x82.2.2.2.2.1 x82.2.2.2.2.2.1 nx,
              ())
    else
      nx.1 (((), ()), ((v74, (), (), (), v75, (), ()), v76, v77, v78, v79, ()))
def cf24_l10 (k : Nat) : Cut := { sp := { temps := [(5, .c (.box 5000000)), (9, .c (.int .i64))], blocks := [(5000000, .box 56 [(.int .i64), (.row 5000001), (.row 5000002), (.row 5000003), (.sl (.int .i64)), (.row 5000004)]), (5000001, .row 2 (.int .i64)), (5000002, .row 2 (.int .i64)), (5000003, .row 2 (.int .i64)), (5000004, .row 2 (.int .i64))], ren := [] }, outs := [(.exit 2, { temps := [(5, .c (.box 5000000))], blocks := [(5000000, .box 56 [(.int .i64), (.row 5000001), (.row 5000002), (.row 5000003), (.sl (.int .i64)), (.row 5000004)]), (5000001, .row 2 (.int .i64)), (5000002, .row 2 (.int .i64)), (5000003, .row 2 (.int .i64)), (5000004, .row 2 (.int .i64))], ren := [] })], F := fun ρ j v nx => f24_l10 k j v.1.2.1 v.2.1.1 v.2.1.2.2.2.2.1 v.2.2.1 v.2.2.2.1 v.2.2.2.2.1 v.2.2.2.2.2.1 nx }
def f24 (k : Nat) (a1 : (List Int)) (a2 : (List Int)) : Option ((Unit × Unit) × ((Int × Unit × Unit × Unit × (List Int) × Unit × Unit) × (List Int) × (List Int) × (List Int) × (List Int) × Unit)) :=
  (f40 k a1).bind fun x59 =>
  f24_l3 k k 0 (a1.length : Int) a2 x59.2.1 ([] : List Int) ([] : List Int)
    (fun x61 : ((Unit × Unit) × ((Int × Unit × Unit × Unit × (List Int) × Unit × Unit) × (List Int) × (List Int) × (List Int) × Unit)) =>
      f24_l10 k k 0 x61.2.1.1 x61.2.1.2.2.2.2.1 x61.2.2.1 x61.2.2.2.1 x61.2.2.2.2.1 ([] : List Int)
        (fun x62 : ((Unit × Unit) × ((Int × Unit × Unit × Unit × (List Int) × Unit × Unit) × (List Int) × (List Int) × (List Int) × (List Int) × Unit)) =>
          some (((), ()), ((x62.2.1.1, (), (), (), x62.2.1.2.2.2.2.1, (), ()), x62.2.2.1, x62.2.2.2.1, x62.2.2.2.2.1, x62.2.2.2.2.2.1, ())),
        ()),
    ())
def ef24 : Entry := { id := 24, ar := { temps := [(0, .c (.sl (.int .i64))), (1, .c (.sl (.int .i64)))], blocks := [], ren := [] }, res := { temps := [(0, .c (.box 4000000))], blocks := [(4000000, .box 56 [(.int .i64), (.row 4000001), (.row 4000002), (.row 4000003), (.sl (.int .i64)), (.row 4000004)]), (4000001, .row 2 (.int .i64)), (4000002, .row 2 (.int .i64)), (4000003, .row 2 (.int .i64)), (4000004, .row 2 (.int .i64))], ren := [] }, f := fun k v => f24 k v.1.1 v.1.2.1 }
def gf24 (k : Nat) : Full := { tt := tt, n := 108, fns := [ef40, ef41, ef42, ef43], trunc := [], tails := [], touch := [(7, [(9, [5000002]), (12, [5000000])]), (8, [(9, [5000003]), (12, [5000000])])], opens := [], shapes := [], closes := [], k := k, glob := glob, cuts := [(3, (cf24_l3 k)), (10, (cf24_l10 k))], joins := [(15, cf24_j15)] }
theorem of24_l3 (k : Nat) : CutOk (gf24 k) (cf24_l3 k) (theLoop Try.f24 3) := fun ρ v nx => ⟨by kernel_rfl, fun j => by kernel_rfl⟩
theorem of24_j15 (k : Nat) : JoinOk (gf24 k) cf24_j15 (theJoin Try.f24 15) := fun ρ v nx => by kernel_rfl
theorem of24_l10 (k : Nat) : CutOk (gf24 k) (cf24_l10 k) (theLoop Try.f24 10) := fun ρ v nx => ⟨by kernel_rfl, fun j => by kernel_rfl⟩
theorem qf24 (k : Nat) : AllP (bodyL (gf24 k) Try.f24) := by
  have h : (CutOk (gf24 k) (cf24_l3 k) (theLoop Try.f24 3) ∧ JoinOk (gf24 k) cf24_j15 (theJoin Try.f24 15) ∧ CutOk (gf24 k) (cf24_l10 k) (theLoop Try.f24 10) ∧ True) = AllP (bodyL (gf24 k) Try.f24) := by kernel_rfl
  exact Eq.mp h (And.intro (of24_l3 k) (And.intro (of24_j15 k) (And.intro (of24_l10 k) (trivial))))
theorem sf24 : Sound Try.prog glob ef24 := sound_of base (fn := Try.f24) Try.func24 (by kernel_rfl) gf24 (fun _ => ⟨rfl, rfl⟩) (fun k j => ⟨sf40.at j, sf41.at j, sf42.at j, sf43.at j, trivial⟩) qf24 (fun k v => by kernel_rfl)

/-! spec.l00Own -/
def f44 (k : Nat) (a1 : (List Int)) : Option ((Unit × Unit) × ((List Int) × Unit)) :=
  bif decide ((([] : List Int).length + a1.length) * 8 ≤ roomy) then
    some (((), ()), ((([] : List Int) ++ a1), ()))
  else
    none
def ef44 : Entry := { id := 44, ar := { temps := [(0, .c (.sl (.int .i64)))], blocks := [], ren := [] }, res := { temps := [(0, .c (.row 4000000))], blocks := [(4000000, .row 2 (.int .i64))], ren := [] }, f := fun k v => f44 k v.1.1 }
def gf44 (k : Nat) : Full := { tt := tt, n := 6, fns := [], trunc := [], tails := [], touch := [], opens := [], shapes := [], closes := [], k := k, glob := glob, cuts := [], joins := [] }
theorem qf44 (k : Nat) : AllP (bodyL (gf44 k) Try.f44) := by
  have h : True = AllP (bodyL (gf44 k) Try.f44) := by kernel_rfl
  exact Eq.mp h trivial
theorem sf44 : Sound Try.prog glob ef44 := sound_of base (fn := Try.f44) Try.func44 (by kernel_rfl) gf44 (fun _ => ⟨rfl, rfl⟩) (fun k j => trivial) qf44 (fun k v => by kernel_rfl)

/-! spec.l11Cone).before -/
def f88 (k : Nat) (a1 : (Int × ((List Int) × ((List Int) × ((List Int) × ((List Int) × (List Int))))))) (a2 : Int) : Option ((Int × Unit) × Unit) :=
  bif decide (a1.1 = 0) then
    none
  else
    let x2 : Int := ((wr .i64 ((wr .i64 (a2 + a1.1)) - 1)).tmod a1.1)
    some ((x2, ()), ())
def ef88 : Entry := { id := 88, ar := { temps := [(0, .c (.dp (.pair (.int .i64) (.pair (.sl (.int .i64)) (.pair (.sl (.int .i64)) (.pair (.sl (.int .i64)) (.pair (.sl (.int .i64)) (.sl (.int .i64))))))))), (1, .c (.int .i64))], blocks := [], ren := [] }, res := { temps := [(0, .c (.int .i64))], blocks := [], ren := [] }, f := fun k v => f88 k v.1.1 v.1.2.1 }
def gf88 (k : Nat) : Full := { tt := tt, n := 17, fns := [], trunc := [], tails := [], touch := [], opens := [], shapes := [], closes := [], k := k, glob := glob, cuts := [], joins := [] }
theorem qf88 (k : Nat) : AllP (bodyL (gf88 k) Try.f88) := by
  have h : True = AllP (bodyL (gf88 k) Try.f88) := by kernel_rfl
  exact Eq.mp h trivial
theorem sf88 : Sound Try.prog glob ef88 := sound_of base (fn := Try.f88) Try.func88 (by kernel_rfl) gf88 (fun _ => ⟨rfl, rfl⟩) (fun k j => trivial) qf88 (fun k v => by kernel_rfl)

/-! spec.l11Cone).is -/
def f95 (k : Nat) (a1 : (Int × ((List Int) × ((List Int) × ((List Int) × ((List Int) × (List Int))))))) (a2 : Int) (a3 : Int) : Option ((Int × Unit) × Unit) :=
  (getI a1.2.2.2.2.2 (wr .i64 ((wr .i64 (a2 * a1.1)) + a3))).bind fun x2 =>
  some ((x2, ()), ())
def ef95 : Entry := { id := 95, ar := { temps := [(0, .c (.dp (.pair (.int .i64) (.pair (.sl (.int .i64)) (.pair (.sl (.int .i64)) (.pair (.sl (.int .i64)) (.pair (.sl (.int .i64)) (.sl (.int .i64))))))))), (1, .c (.int .i64)), (2, .c (.int .i64))], blocks := [], ren := [] }, res := { temps := [(0, .c (.int .i64))], blocks := [], ren := [] }, f := fun k v => f95 k v.1.1 v.1.2.1 v.1.2.2.1 }
def gf95 (k : Nat) : Full := { tt := tt, n := 21, fns := [], trunc := [], tails := [], touch := [], opens := [], shapes := [], closes := [], k := k, glob := glob, cuts := [], joins := [] }
theorem qf95 (k : Nat) : AllP (bodyL (gf95 k) Try.f95) := by
  have h : True = AllP (bodyL (gf95 k) Try.f95) := by kernel_rfl
  exact Eq.mp h trivial
theorem sf95 : Sound Try.prog glob ef95 := sound_of base (fn := Try.f95) Try.func95 (by kernel_rfl) gf95 (fun _ => ⟨rfl, rfl⟩) (fun k j => trivial) qf95 (fun k v => by kernel_rfl)

/-! spec.l11Cone).above -/
def f92 (k : Nat) (a1 : (Int × ((List Int) × ((List Int) × ((List Int) × ((List Int) × (List Int))))))) (a2 : Int) (a3 : Int) : Option ((Bool × Unit) × Unit) :=
  (f95 k a1 a2 a3).bind fun x2 =>
  some (((x2.1.1 == 1), ()), ())
def ef92 : Entry := { id := 92, ar := { temps := [(0, .c (.dp (.pair (.int .i64) (.pair (.sl (.int .i64)) (.pair (.sl (.int .i64)) (.pair (.sl (.int .i64)) (.pair (.sl (.int .i64)) (.sl (.int .i64))))))))), (1, .c (.int .i64)), (2, .c (.int .i64))], blocks := [], ren := [] }, res := { temps := [(0, .c .bool)], blocks := [], ren := [] }, f := fun k v => f92 k v.1.1 v.1.2.1 v.1.2.2.1 }
def gf92 (k : Nat) : Full := { tt := tt, n := 12, fns := [ef95], trunc := [], tails := [], touch := [], opens := [], shapes := [], closes := [], k := k, glob := glob, cuts := [], joins := [] }
theorem qf92 (k : Nat) : AllP (bodyL (gf92 k) Try.f92) := by
  have h : True = AllP (bodyL (gf92 k) Try.f92) := by kernel_rfl
  exact Eq.mp h trivial
theorem sf92 : Sound Try.prog glob ef92 := sound_of base (fn := Try.f92) Try.func92 (by kernel_rfl) gf92 (fun _ => ⟨rfl, rfl⟩) (fun k j => ⟨sf95.at j, trivial⟩) qf92 (fun k v => by kernel_rfl)

/-! spec.l11Cone).between -/
def f89 (k : Nat) (a1 : (Int × ((List Int) × ((List Int) × ((List Int) × ((List Int) × (List Int))))))) (a2 : Int) (a3 : Int) (a4 : Int) : Option ((Bool × Unit) × Unit) :=
  (f92 k a1 a3 a2).bind fun x7 =>
  bif x7.1.1 then
    (f92 k a1 a2 a4).bind fun x8 =>
    bif x8.1.1 then
      some ((true, ()), ())
    else
      (f92 k a1 a4 a2).bind fun x9 =>
      bif x9.1.1 then
        (f92 k a1 a2 a3).bind fun x10 =>
        some ((x10.1.1, ()), ())
      else
        some ((false, ()), ())
  else
    (f92 k a1 a4 a2).bind fun x11 =>
    bif x11.1.1 then
      (f92 k a1 a2 a3).bind fun x12 =>
      some ((x12.1.1, ()), ())
    else
      some ((false, ()), ())
def ef89 : Entry := { id := 89, ar := { temps := [(0, .c (.dp (.pair (.int .i64) (.pair (.sl (.int .i64)) (.pair (.sl (.int .i64)) (.pair (.sl (.int .i64)) (.pair (.sl (.int .i64)) (.sl (.int .i64))))))))), (1, .c (.int .i64)), (2, .c (.int .i64)), (3, .c (.int .i64))], blocks := [], ren := [] }, res := { temps := [(0, .c .bool)], blocks := [], ren := [] }, f := fun k v => f89 k v.1.1 v.1.2.1 v.1.2.2.1 v.1.2.2.2.1 }
def gf89 (k : Nat) : Full := { tt := tt, n := 31, fns := [ef92], trunc := [], tails := [], touch := [], opens := [], shapes := [], closes := [], k := k, glob := glob, cuts := [], joins := [] }
theorem qf89 (k : Nat) : AllP (bodyL (gf89 k) Try.f89) := by
  have h : True = AllP (bodyL (gf89 k) Try.f89) := by kernel_rfl
  exact Eq.mp h trivial
theorem sf89 : Sound Try.prog glob ef89 := sound_of base (fn := Try.f89) Try.func89 (by kernel_rfl) gf89 (fun _ => ⟨rfl, rfl⟩) (fun k j => ⟨sf92.at j, trivial⟩) qf89 (fun k v => by kernel_rfl)

/-! spec.l11Cone).right -/
def f90 (k : Nat) (a1 : (Int × ((List Int) × ((List Int) × ((List Int) × ((List Int) × (List Int))))))) (a2 : Int) : Option ((Bool × Unit) × Unit) :=
  some ((((a2.tmod 2) == 0), ()), ())
def ef90 : Entry := { id := 90, ar := { temps := [(0, .c (.dp (.pair (.int .i64) (.pair (.sl (.int .i64)) (.pair (.sl (.int .i64)) (.pair (.sl (.int .i64)) (.pair (.sl (.int .i64)) (.sl (.int .i64))))))))), (1, .c (.int .i64))], blocks := [], ren := [] }, res := { temps := [(0, .c .bool)], blocks := [], ren := [] }, f := fun k v => f90 k v.1.1 v.1.2.1 }
def gf90 (k : Nat) : Full := { tt := tt, n := 8, fns := [], trunc := [], tails := [], touch := [], opens := [], shapes := [], closes := [], k := k, glob := glob, cuts := [], joins := [] }
theorem qf90 (k : Nat) : AllP (bodyL (gf90 k) Try.f90) := by
  have h : True = AllP (bodyL (gf90 k) Try.f90) := by kernel_rfl
  exact Eq.mp h trivial
theorem sf90 : Sound Try.prog glob ef90 := sound_of base (fn := Try.f90) Try.func90 (by kernel_rfl) gf90 (fun _ => ⟨rfl, rfl⟩) (fun k j => trivial) qf90 (fun k v => by kernel_rfl)

/-! spec.l11Cone).outside -/
def f91 (k : Nat) (a1 : (Int × ((List Int) × ((List Int) × ((List Int) × ((List Int) × (List Int))))))) (a2 : Int) (a3 : Int) (a4 : Int) : Option ((Bool × Unit) × Unit) :=
  (f92 k a1 a3 a2).bind fun x7 =>
  bif x7.1.1 then
    (f92 k a1 a4 a2).bind fun x8 =>
    bif x8.1.1 then
      some ((true, ()), ())
    else
      (f92 k a1 a2 a3).bind fun x9 =>
      bif x9.1.1 then
        (f92 k a1 a2 a4).bind fun x10 =>
        some ((x10.1.1, ()), ())
      else
        some ((false, ()), ())
  else
    (f92 k a1 a2 a3).bind fun x11 =>
    bif x11.1.1 then
      (f92 k a1 a2 a4).bind fun x12 =>
      some ((x12.1.1, ()), ())
    else
      some ((false, ()), ())
def ef91 : Entry := { id := 91, ar := { temps := [(0, .c (.dp (.pair (.int .i64) (.pair (.sl (.int .i64)) (.pair (.sl (.int .i64)) (.pair (.sl (.int .i64)) (.pair (.sl (.int .i64)) (.sl (.int .i64))))))))), (1, .c (.int .i64)), (2, .c (.int .i64)), (3, .c (.int .i64))], blocks := [], ren := [] }, res := { temps := [(0, .c .bool)], blocks := [], ren := [] }, f := fun k v => f91 k v.1.1 v.1.2.1 v.1.2.2.1 v.1.2.2.2.1 }
def gf91 (k : Nat) : Full := { tt := tt, n := 31, fns := [ef92], trunc := [], tails := [], touch := [], opens := [], shapes := [], closes := [], k := k, glob := glob, cuts := [], joins := [] }
theorem qf91 (k : Nat) : AllP (bodyL (gf91 k) Try.f91) := by
  have h : True = AllP (bodyL (gf91 k) Try.f91) := by kernel_rfl
  exact Eq.mp h trivial
theorem sf91 : Sound Try.prog glob ef91 := sound_of base (fn := Try.f91) Try.func91 (by kernel_rfl) gf91 (fun _ => ⟨rfl, rfl⟩) (fun k j => ⟨sf92.at j, trivial⟩) qf91 (fun k v => by kernel_rfl)

/-! spec.l11Cone).crossed -/
def f70_j7 {ρ : Type} (k : Nat) (v67 : (Int × ((List Int) × ((List Int) × ((List Int) × ((List Int) × (List Int))))))) (v68 : Int) (v69 : Int) (v70 : Int) (nx : (((((Int × ((List Int) × ((List Int) × ((List Int) × ((List Int) × (List Int)))))) × Int × Int × Int × Unit) × Unit) → Option ρ) × ((((Int × ((List Int) × ((List Int) × ((List Int) × ((List Int) × (List Int)))))) × Int × Int × Int × Unit) × Unit) → Option ρ) × (((Bool × Unit) × Unit) → Option ρ) × Unit)) : Option ρ :=
  (f88 k v67 v70).bind fun x71 =>
  bif (v70 == v68) then
    nx.1 ((v67, v68, v69, v70, ()), ())
  else
    (getI v67.2.1 v70).bind fun x76 =>
    (getI v67.2.1 v68).bind fun x77 =>
    bif (x76 != x77) then
      nx.1 ((v67, v68, v69, v70, ()), ())
    else
      (f90 k v67 v70).bind fun x78 =>
      (f90 k v67 v68).bind fun x79 =>
      bif (!(x78.1.1 == x79.1.1)) then
        nx.1 ((v67, v68, v69, v70, ()), ())
      else
        (f89 k v67 x71.1.1 v69 v68).bind fun x80 =>
        bif x80.1.1 then
          (f91 k v67 v70 v69 v68).bind fun x81 =>
          bif x81.1.1 then
            nx.2.2.1 ((true, ()), ())
          else
            (f91 k v67 x71.1.1 v69 v68).bind fun x82 =>
            bif x82.1.1 then
              (f89 k v67 v70 v69 v68).bind fun x83 =>
              bif x83.1.1 then
                nx.2.2.1 ((true, ()), ())
              else
                nx.2.1 ((v67, v68, v69, v70, ()), ())
            else
              nx.2.1 ((v67, v68, v69, v70, ()), ())
        else
          (f91 k v67 x71.1.1 v69 v68).bind fun x84 =>
          bif x84.1.1 then
            (f89 k v67 v70 v69 v68).bind fun x85 =>
            bif x85.1.1 then
              nx.2.2.1 ((true, ()), ())
            else
              nx.2.1 ((v67, v68, v69, v70, ()), ())
          else
            nx.2.1 ((v67, v68, v69, v70, ()), ())
def cf70_j7 : Cut := { sp := { temps := [(0, .c (.dp (.pair (.int .i64) (.pair (.sl (.int .i64)) (.pair (.sl (.int .i64)) (.pair (.sl (.int .i64)) (.pair (.sl (.int .i64)) (.sl (.int .i64))))))))), (1, .c (.int .i64)), (5, .c (.int .i64)), (6, .c (.int .i64))], blocks := [], ren := [] }, outs := [(.exit 1, { temps := [(0, .c (.dp (.pair (.int .i64) (.pair (.sl (.int .i64)) (.pair (.sl (.int .i64)) (.pair (.sl (.int .i64)) (.pair (.sl (.int .i64)) (.sl (.int .i64))))))))), (1, .c (.int .i64)), (5, .c (.int .i64)), (6, .c (.int .i64))], blocks := [], ren := [] }), (.normal, { temps := [(0, .c (.dp (.pair (.int .i64) (.pair (.sl (.int .i64)) (.pair (.sl (.int .i64)) (.pair (.sl (.int .i64)) (.pair (.sl (.int .i64)) (.sl (.int .i64))))))))), (1, .c (.int .i64)), (5, .c (.int .i64)), (6, .c (.int .i64))], blocks := [], ren := [] }), (.ret, { temps := [(4, .c .bool)], blocks := [], ren := [] })], F := fun ρ k v nx => f70_j7 k v.1.1 v.1.2.1 v.1.2.2.1 v.1.2.2.2.1 nx }
def f70_l3 {ρ : Type} (k : Nat) : Nat → (Int × ((List Int) × ((List Int) × ((List Int) × ((List Int) × (List Int)))))) → Int → Int → Int → (((Unit × Unit) → Option ρ) × (((Bool × Unit) × Unit) → Option ρ) × Unit) → Option ρ
  | 0, _, _, _, _, _ => none
  | j + 1, v49, v50, v51, v52, nx =>
    bif (decide (v52 < v49.1)) then
      (getI v49.2.2.1 v52).bind fun x53 =>
      (getI v49.2.1 v50).bind fun x54 =>
      bif (decide (x53 < x54)) then
        (getI v49.2.1 v50).bind fun x55 =>
        (getI v49.2.2.2.1 v52).bind fun x56 =>
        bif (decide (x55 < x56)) then
          (f89 k v49 v52 v51 v50).bind fun x57 =>
          bif x57.1.1 then
            nx.2.1 ((true, ()), ())
          else
            f70_j7 k v49 v50 v51 v52
              (fun x58 : (((Int × ((List Int) × ((List Int) × ((List Int) × ((List Int) × (List Int)))))) × Int × Int × Int × Unit) × Unit) =>
                f70_l3 k j x58.1.1 x58.1.2.1 x58.1.2.2.1 (wr .i64 (x58.1.2.2.2.1 + 1)) nx,
              fun x59 : (((Int × ((List Int) × ((List Int) × ((List Int) × ((List Int) × (List Int)))))) × Int × Int × Int × Unit) × Unit) =>
                f70_l3 k j x59.1.1 x59.1.2.1 x59.1.2.2.1 (wr .i64 (x59.1.2.2.2.1 + 1)) nx,
              fun x60 : ((Bool × Unit) × Unit) =>
                nx.2.1 ((x60.1.1, ()), ()),
              ())
        else
          f70_j7 k v49 v50 v51 v52
            (fun x61 : (((Int × ((List Int) × ((List Int) × ((List Int) × ((List Int) × (List Int)))))) × Int × Int × Int × Unit) × Unit) =>
              f70_l3 k j x61.1.1 x61.1.2.1 x61.1.2.2.1 (wr .i64 (x61.1.2.2.2.1 + 1)) nx,
            fun x62 : (((Int × ((List Int) × ((List Int) × ((List Int) × ((List Int) × (List Int)))))) × Int × Int × Int × Unit) × Unit) =>
              f70_l3 k j x62.1.1 x62.1.2.1 x62.1.2.2.1 (wr .i64 (x62.1.2.2.2.1 + 1)) nx,
            fun x63 : ((Bool × Unit) × Unit) =>
              nx.2.1 ((x63.1.1, ()), ()),
            ())
      else
        f70_j7 k v49 v50 v51 v52
          (fun x64 : (((Int × ((List Int) × ((List Int) × ((List Int) × ((List Int) × (List Int)))))) × Int × Int × Int × Unit) × Unit) =>
            f70_l3 k j x64.1.1 x64.1.2.1 x64.1.2.2.1 (wr .i64 (x64.1.2.2.2.1 + 1)) nx,
          fun x65 : (((Int × ((List Int) × ((List Int) × ((List Int) × ((List Int) × (List Int)))))) × Int × Int × Int × Unit) × Unit) =>
            f70_l3 k j x65.1.1 x65.1.2.1 x65.1.2.2.1 (wr .i64 (x65.1.2.2.2.1 + 1)) nx,
          fun x66 : ((Bool × Unit) × Unit) =>
            nx.2.1 ((x66.1.1, ()), ()),
          ())
    else
      nx.1 ((), ())
def cf70_l3 (k : Nat) : Cut := { sp := { temps := [(0, .c (.dp (.pair (.int .i64) (.pair (.sl (.int .i64)) (.pair (.sl (.int .i64)) (.pair (.sl (.int .i64)) (.pair (.sl (.int .i64)) (.sl (.int .i64))))))))), (1, .c (.int .i64)), (5, .c (.int .i64)), (6, .c (.int .i64))], blocks := [], ren := [] }, outs := [(.exit 0, { temps := [], blocks := [], ren := [] }), (.ret, { temps := [(4, .c .bool)], blocks := [], ren := [] })], F := fun ρ j v nx => f70_l3 k j v.1.1 v.1.2.1 v.1.2.2.1 v.1.2.2.2.1 nx }
def f70 (k : Nat) (a1 : (Int × ((List Int) × ((List Int) × ((List Int) × ((List Int) × (List Int))))))) (a2 : Int) : Option ((Bool × Unit) × Unit) :=
  (f88 k a1 a2).bind fun x46 =>
  f70_l3 k k a1 a2 x46.1.1 0
    (fun x47 : (Unit × Unit) =>
      some ((false, ()), ()),
    fun x48 : ((Bool × Unit) × Unit) =>
      some ((x48.1.1, ()), ()),
    ())
def ef70 : Entry := { id := 70, ar := { temps := [(0, .c (.dp (.pair (.int .i64) (.pair (.sl (.int .i64)) (.pair (.sl (.int .i64)) (.pair (.sl (.int .i64)) (.pair (.sl (.int .i64)) (.sl (.int .i64))))))))), (1, .c (.int .i64))], blocks := [], ren := [] }, res := { temps := [(0, .c .bool)], blocks := [], ren := [] }, f := fun k v => f70 k v.1.1 v.1.2.1 }
def gf70 (k : Nat) : Full := { tt := tt, n := 116, fns := [ef88, ef89, ef90, ef91], trunc := [], tails := [], touch := [], opens := [], shapes := [], closes := [], k := k, glob := glob, cuts := [(3, (cf70_l3 k))], joins := [(7, cf70_j7)] }
theorem of70_j7 (k : Nat) : JoinOk (gf70 k) cf70_j7 (theJoin Try.f70 7) := fun ρ v nx => by kernel_rfl
theorem of70_l3 (k : Nat) : CutOk (gf70 k) (cf70_l3 k) (theLoop Try.f70 3) := fun ρ v nx => ⟨by kernel_rfl, fun j => by kernel_rfl⟩
theorem qf70 (k : Nat) : AllP (bodyL (gf70 k) Try.f70) := by
  have h : (JoinOk (gf70 k) cf70_j7 (theJoin Try.f70 7) ∧ CutOk (gf70 k) (cf70_l3 k) (theLoop Try.f70 3) ∧ True) = AllP (bodyL (gf70 k) Try.f70) := by kernel_rfl
  exact Eq.mp h (And.intro (of70_j7 k) (And.intro (of70_l3 k) (trivial)))
theorem sf70 : Sound Try.prog glob ef70 := sound_of base (fn := Try.f70) Try.func70 (by kernel_rfl) gf70 (fun _ => ⟨rfl, rfl⟩) (fun k j => ⟨sf88.at j, sf89.at j, sf90.at j, sf91.at j, trivial⟩) qf70 (fun k v => by kernel_rfl)

/-! spec.l11Cone).wrong -/
def f71_j6 {ρ : Type} (k : Nat) (v17 : (Int × ((List Int) × ((List Int) × ((List Int) × ((List Int) × (List Int))))))) (v18 : Int) (v19 : Int) (v20 : Int) (nx : ((((Bool × Unit) × Unit) → Option ρ) × Unit)) : Option ρ :=
  (getI v17.2.2.2.2.1 v18).bind fun x21 =>
  bif (x21 == 2) then
    (f92 k v17 v20 v19).bind fun x22 =>
    bif x22.1.1 then
      nx.1 ((true, ()), ())
    else
      (getI v17.2.2.2.2.1 v18).bind fun x23 =>
      bif (x23 == 3) then
        (f92 k v17 v19 v20).bind fun x24 =>
        nx.1 ((x24.1.1, ()), ())
      else
        nx.1 ((false, ()), ())
  else
    (getI v17.2.2.2.2.1 v18).bind fun x25 =>
    bif (x25 == 3) then
      (f92 k v17 v19 v20).bind fun x26 =>
      nx.1 ((x26.1.1, ()), ())
    else
      nx.1 ((false, ()), ())
def cf71_j6 : Cut := { sp := { temps := [(0, .c (.dp (.pair (.int .i64) (.pair (.sl (.int .i64)) (.pair (.sl (.int .i64)) (.pair (.sl (.int .i64)) (.pair (.sl (.int .i64)) (.sl (.int .i64))))))))), (1, .c (.int .i64)), (5, .c (.int .i64)), (6, .c (.int .i64))], blocks := [], ren := [] }, outs := [(.ret, { temps := [(4, .c .bool)], blocks := [], ren := [] })], F := fun ρ k v nx => f71_j6 k v.1.1 v.1.2.1 v.1.2.2.1 v.1.2.2.2.1 nx }
def f71 (k : Nat) (a1 : (Int × ((List Int) × ((List Int) × ((List Int) × ((List Int) × (List Int))))))) (a2 : Int) : Option ((Bool × Unit) × Unit) :=
  (f88 k a1 a2).bind fun x14 =>
  bif ((a2.tmod 2) == 1) then
    f71_j6 k a1 a2 x14.1.1 a2
      (fun x15 : ((Bool × Unit) × Unit) =>
        some ((x15.1.1, ()), ()),
      ())
  else
    f71_j6 k a1 a2 a2 x14.1.1
      (fun x16 : ((Bool × Unit) × Unit) =>
        some ((x16.1.1, ()), ()),
      ())
def ef71 : Entry := { id := 71, ar := { temps := [(0, .c (.dp (.pair (.int .i64) (.pair (.sl (.int .i64)) (.pair (.sl (.int .i64)) (.pair (.sl (.int .i64)) (.pair (.sl (.int .i64)) (.sl (.int .i64))))))))), (1, .c (.int .i64))], blocks := [], ren := [] }, res := { temps := [(0, .c .bool)], blocks := [], ren := [] }, f := fun k v => f71 k v.1.1 v.1.2.1 }
def gf71 (k : Nat) : Full := { tt := tt, n := 46, fns := [ef88, ef92], trunc := [], tails := [], touch := [], opens := [], shapes := [], closes := [], k := k, glob := glob, cuts := [], joins := [(6, cf71_j6)] }
theorem of71_j6 (k : Nat) : JoinOk (gf71 k) cf71_j6 (theJoin Try.f71 6) := fun ρ v nx => by kernel_rfl
theorem qf71 (k : Nat) : AllP (bodyL (gf71 k) Try.f71) := by
  have h : (JoinOk (gf71 k) cf71_j6 (theJoin Try.f71 6) ∧ True) = AllP (bodyL (gf71 k) Try.f71) := by kernel_rfl
  exact Eq.mp h (And.intro (of71_j6 k) (trivial))
theorem sf71 : Sound Try.prog glob ef71 := sound_of base (fn := Try.f71) Try.func71 (by kernel_rfl) gf71 (fun _ => ⟨rfl, rfl⟩) (fun k j => ⟨sf88.at j, sf92.at j, trivial⟩) qf71 (fun k v => by kernel_rfl)

/-! spec.l11Cone).circle -/
def f72_l2 {ρ : Type} (k : Nat) : Nat → (Int × ((List Int) × ((List Int) × ((List Int) × ((List Int) × (List Int)))))) → Int → Int → Int → (((Unit × Unit) → Option ρ) × (((Bool × Unit) × Unit) → Option ρ) × Unit) → Option ρ
  | 0, _, _, _, _, _ => none
  | j + 1, v31, v32, v33, v34, nx =>
    bif (decide (v34 < v31.1)) then
      (getI v31.2.2.1 v32).bind fun x35 =>
      (getI v31.2.2.1 v33).bind fun x36 =>
      (getI v31.2.2.1 v34).bind fun x37 =>
      (f42 k x36 x37).bind fun x38 =>
      (f42 k x35 x38.1.1).bind fun x39 =>
      (getI v31.2.2.2.1 v32).bind fun x40 =>
      (getI v31.2.2.2.1 v33).bind fun x41 =>
      (getI v31.2.2.2.1 v34).bind fun x42 =>
      (f41 k x41 x42).bind fun x43 =>
      (f41 k x40 x43.1.1).bind fun x44 =>
      bif (decide (x39.1.1 < x44.1.1)) then
        (f92 k v31 v32 v33).bind fun x45 =>
        bif x45.1.1 then
          (f92 k v31 v33 v34).bind fun x46 =>
          bif x46.1.1 then
            (f92 k v31 v34 v32).bind fun x47 =>
            bif x47.1.1 then
              nx.2.1 ((true, ()), ())
            else
              (f92 k v31 v33 v32).bind fun x48 =>
              bif x48.1.1 then
                (f92 k v31 v32 v34).bind fun x49 =>
                bif x49.1.1 then
                  (f92 k v31 v34 v33).bind fun x50 =>
                  bif x50.1.1 then
                    nx.2.1 ((true, ()), ())
                  else
                    f72_l2 k j v31 v32 v33 (wr .i64 (v34 + 1)) nx
                else
                  f72_l2 k j v31 v32 v33 (wr .i64 (v34 + 1)) nx
              else
                f72_l2 k j v31 v32 v33 (wr .i64 (v34 + 1)) nx
          else
            (f92 k v31 v33 v32).bind fun x51 =>
            bif x51.1.1 then
              (f92 k v31 v32 v34).bind fun x52 =>
              bif x52.1.1 then
                (f92 k v31 v34 v33).bind fun x53 =>
                bif x53.1.1 then
                  nx.2.1 ((true, ()), ())
                else
                  f72_l2 k j v31 v32 v33 (wr .i64 (v34 + 1)) nx
              else
                f72_l2 k j v31 v32 v33 (wr .i64 (v34 + 1)) nx
            else
              f72_l2 k j v31 v32 v33 (wr .i64 (v34 + 1)) nx
        else
          (f92 k v31 v33 v32).bind fun x54 =>
          bif x54.1.1 then
            (f92 k v31 v32 v34).bind fun x55 =>
            bif x55.1.1 then
              (f92 k v31 v34 v33).bind fun x56 =>
              bif x56.1.1 then
                nx.2.1 ((true, ()), ())
              else
                f72_l2 k j v31 v32 v33 (wr .i64 (v34 + 1)) nx
            else
              f72_l2 k j v31 v32 v33 (wr .i64 (v34 + 1)) nx
          else
            f72_l2 k j v31 v32 v33 (wr .i64 (v34 + 1)) nx
      else
        f72_l2 k j v31 v32 v33 (wr .i64 (v34 + 1)) nx
    else
      nx.1 ((), ())
def cf72_l2 (k : Nat) : Cut := { sp := { temps := [(0, .c (.dp (.pair (.int .i64) (.pair (.sl (.int .i64)) (.pair (.sl (.int .i64)) (.pair (.sl (.int .i64)) (.pair (.sl (.int .i64)) (.sl (.int .i64))))))))), (1, .c (.int .i64)), (2, .c (.int .i64)), (7, .c (.int .i64))], blocks := [], ren := [] }, outs := [(.exit 0, { temps := [], blocks := [], ren := [] }), (.ret, { temps := [(6, .c .bool)], blocks := [], ren := [] })], F := fun ρ j v nx => f72_l2 k j v.1.1 v.1.2.1 v.1.2.2.1 v.1.2.2.2.1 nx }
def f72 (k : Nat) (a1 : (Int × ((List Int) × ((List Int) × ((List Int) × ((List Int) × (List Int))))))) (a2 : Int) (a3 : Int) : Option ((Bool × Unit) × Unit) :=
  f72_l2 k k a1 a2 a3 0
    (fun x29 : (Unit × Unit) =>
      some ((false, ()), ()),
    fun x30 : ((Bool × Unit) × Unit) =>
      some ((x30.1.1, ()), ()),
    ())
def ef72 : Entry := { id := 72, ar := { temps := [(0, .c (.dp (.pair (.int .i64) (.pair (.sl (.int .i64)) (.pair (.sl (.int .i64)) (.pair (.sl (.int .i64)) (.pair (.sl (.int .i64)) (.sl (.int .i64))))))))), (1, .c (.int .i64)), (2, .c (.int .i64))], blocks := [], ren := [] }, res := { temps := [(0, .c .bool)], blocks := [], ren := [] }, f := fun k v => f72 k v.1.1 v.1.2.1 v.1.2.2.1 }
def gf72 (k : Nat) : Full := { tt := tt, n := 103, fns := [ef42, ef41, ef92], trunc := [], tails := [], touch := [], opens := [], shapes := [], closes := [], k := k, glob := glob, cuts := [(2, (cf72_l2 k))], joins := [] }
theorem of72_l2 (k : Nat) : CutOk (gf72 k) (cf72_l2 k) (theLoop Try.f72 2) := fun ρ v nx => ⟨by kernel_rfl, fun j => by kernel_rfl⟩
theorem qf72 (k : Nat) : AllP (bodyL (gf72 k) Try.f72) := by
  have h : (CutOk (gf72 k) (cf72_l2 k) (theLoop Try.f72 2) ∧ True) = AllP (bodyL (gf72 k) Try.f72) := by kernel_rfl
  exact Eq.mp h (And.intro (of72_l2 k) (trivial))
theorem sf72 : Sound Try.prog glob ef72 := sound_of base (fn := Try.f72) Try.func72 (by kernel_rfl) gf72 (fun _ => ⟨rfl, rfl⟩) (fun k j => ⟨sf42.at j, sf41.at j, sf92.at j, trivial⟩) qf72 (fun k v => by kernel_rfl)

/-! spec.l11Cone).good -/
def f45_l7 {ρ : Type} (k : Nat) : Nat → (Int × ((List Int) × ((List Int) × ((List Int) × ((List Int) × (List Int)))))) → Int → Int → (((((Int × ((List Int) × ((List Int) × ((List Int) × ((List Int) × (List Int)))))) × Int × Unit) × Unit) → Option ρ) × (((Bool × Unit) × Unit) → Option ρ) × Unit) → Option ρ
  | 0, _, _, _, _ => none
  | j + 1, v18, v19, v20, nx =>
    bif (decide (v20 < v19)) then
      (f43 k v18 v19 v20).bind fun x21 =>
      bif x21.1.1 then
        (f72 k v18 v19 v20).bind fun x22 =>
        bif x22.1.1 then
          nx.2.1 ((false, ()), ())
        else
          f45_l7 k j v18 v19 (wr .i64 (v20 + 1)) nx
      else
        f45_l7 k j v18 v19 (wr .i64 (v20 + 1)) nx
    else
      nx.1 ((v18, v19, ()), ())
def cf45_l7 (k : Nat) : Cut := { sp := { temps := [(0, .c (.dp (.pair (.int .i64) (.pair (.sl (.int .i64)) (.pair (.sl (.int .i64)) (.pair (.sl (.int .i64)) (.pair (.sl (.int .i64)) (.sl (.int .i64))))))))), (3, .c (.int .i64)), (4, .c (.int .i64))], blocks := [], ren := [] }, outs := [(.exit 2, { temps := [(0, .c (.dp (.pair (.int .i64) (.pair (.sl (.int .i64)) (.pair (.sl (.int .i64)) (.pair (.sl (.int .i64)) (.pair (.sl (.int .i64)) (.sl (.int .i64))))))))), (3, .c (.int .i64))], blocks := [], ren := [] }), (.ret, { temps := [(2, .c .bool)], blocks := [], ren := [] })], F := fun ρ j v nx => f45_l7 k j v.1.1 v.1.2.1 v.1.2.2.1 nx }
def f45_l2 {ρ : Type} (k : Nat) : Nat → (Int × ((List Int) × ((List Int) × ((List Int) × ((List Int) × (List Int)))))) → Int → (((Unit × Unit) → Option ρ) × (((Bool × Unit) × Unit) → Option ρ) × Unit) → Option ρ
  | 0, _, _, _ => none
  | j + 1, v23, v24, nx =>
    bif (decide (v24 < v23.1)) then
      (f70 k v23 v24).bind fun x27 =>
      bif x27.1.1 then
        nx.2.1 ((false, ()), ())
      else
        (f71 k v23 v24).bind fun x28 =>
        bif x28.1.1 then
          nx.2.1 ((false, ()), ())
        else
          f45_l7 k k v23 v24 0
            (fun x29 : (((Int × ((List Int) × ((List Int) × ((List Int) × ((List Int) × (List Int)))))) × Int × Unit) × Unit) =>
              f45_l2 k j x29.1.1 (wr .i64 (x29.1.2.1 + 1)) nx,
            fun x30 : ((Bool × Unit) × Unit) =>
              nx.2.1 ((x30.1.1, ()), ()),
            ())
    else
      nx.1 ((), ())
def cf45_l2 (k : Nat) : Cut := { sp := { temps := [(0, .c (.dp (.pair (.int .i64) (.pair (.sl (.int .i64)) (.pair (.sl (.int .i64)) (.pair (.sl (.int .i64)) (.pair (.sl (.int .i64)) (.sl (.int .i64))))))))), (3, .c (.int .i64))], blocks := [], ren := [] }, outs := [(.exit 0, { temps := [], blocks := [], ren := [] }), (.ret, { temps := [(2, .c .bool)], blocks := [], ren := [] })], F := fun ρ j v nx => f45_l2 k j v.1.1 v.1.2.1 nx }
def f45 (k : Nat) (a1 : (Int × ((List Int) × ((List Int) × ((List Int) × ((List Int) × (List Int))))))) : Option ((Bool × Unit) × Unit) :=
  f45_l2 k k a1 0
    (fun x16 : (Unit × Unit) =>
      some ((true, ()), ()),
    fun x17 : ((Bool × Unit) × Unit) =>
      some ((x17.1.1, ()), ()),
    ())
def ef45 : Entry := { id := 45, ar := { temps := [(0, .c (.dp (.pair (.int .i64) (.pair (.sl (.int .i64)) (.pair (.sl (.int .i64)) (.pair (.sl (.int .i64)) (.pair (.sl (.int .i64)) (.sl (.int .i64)))))))))], blocks := [], ren := [] }, res := { temps := [(0, .c .bool)], blocks := [], ren := [] }, f := fun k v => f45 k v.1.1 }
def gf45 (k : Nat) : Full := { tt := tt, n := 36, fns := [ef70, ef71, ef43, ef72], trunc := [], tails := [], touch := [], opens := [], shapes := [], closes := [], k := k, glob := glob, cuts := [(7, (cf45_l7 k)), (2, (cf45_l2 k))], joins := [] }
theorem of45_l7 (k : Nat) : CutOk (gf45 k) (cf45_l7 k) (theLoop Try.f45 7) := fun ρ v nx => ⟨by kernel_rfl, fun j => by kernel_rfl⟩
theorem of45_l2 (k : Nat) : CutOk (gf45 k) (cf45_l2 k) (theLoop Try.f45 2) := fun ρ v nx => ⟨by kernel_rfl, fun j => by kernel_rfl⟩
theorem qf45 (k : Nat) : AllP (bodyL (gf45 k) Try.f45) := by
  have h : (CutOk (gf45 k) (cf45_l7 k) (theLoop Try.f45 7) ∧ CutOk (gf45 k) (cf45_l2 k) (theLoop Try.f45 2) ∧ True) = AllP (bodyL (gf45 k) Try.f45) := by kernel_rfl
  exact Eq.mp h (And.intro (of45_l7 k) (And.intro (of45_l2 k) (trivial)))
theorem sf45 : Sound Try.prog glob ef45 := sound_of base (fn := Try.f45) Try.func45 (by kernel_rfl) gf45 (fun _ => ⟨rfl, rfl⟩) (fun k j => ⟨sf70.at j, sf71.at j, sf43.at j, sf72.at j, trivial⟩) qf45 (fun k v => by kernel_rfl)

/-! spec.l11Cone).search -/
def f25_l1 {ρ : Type} (self : Int → Int → (List Int) → (List (List Int)) → (List Int) → (List Int) → (List Int) → (List Int) → Option ((Unit × Unit) × ((Int × Unit × Unit × Unit × (List Int) × Unit × Unit) × (List Int) × (List Int) × (List Int) × (List Int) × (List (List Int)) × Unit))) (k : Nat) : Nat → Int → Int → (List Int) → (List (List Int)) → (List Int) → (List Int) → (List Int) → (List Int) → ((((Unit × Unit × Int × Unit) × ((Int × Unit × Unit × Unit × (List Int) × Unit × Unit) × (List (List Int)) × (List Int) × (List Int) × (List Int) × (List Int) × Unit)) → Option ρ) × Unit) → Option ρ
  | 0, _, _, _, _, _, _, _, _, _ => none
  | j + 1, v71, v72, v73, v74, v75, v76, v77, v78, nx =>
    bif (decide (v71 < (wr .i64 (v72 * v72)))) then
      bif decide (v72 = 0) then
        none
      else
        bif decide (v72 = 0) then
          none
        else
          let x79 : Bool := (decide ((wr .i64 (v71.tdiv v72)) ≥ (v71.tmod v72)))
          bif x79 then
            f25_l1 self k j (wr .i64 (v71 + 1)) v72 v73 v74 v75 v76 v77 v78 nx
          else
            bif decide (0 ≤ v71) && decide (v71 < (v78.length : Int)) then
              (v78[v71.toNat]?).bind fun x80 =>
              bif (x80 == 0) then
                f25_l1 self k j (wr .i64 (v71 + 1)) v72 v73 v74 v75 v76 v77 v78 nx
              else
                nx.1 (((), (), v71, ()), ((v72, (), (), (), v73, (), ()), v74, v75, v76, v77, v78, ()))
            else
              none
    else
      nx.1 (((), (), v71, ()), ((v72, (), (), (), v73, (), ()), v74, v75, v76, v77, v78, ()))
def cf25_l1 (self : Int → Int → (List Int) → (List (List Int)) → (List Int) → (List Int) → (List Int) → (List Int) → Option ((Unit × Unit) × ((Int × Unit × Unit × Unit × (List Int) × Unit × Unit) × (List Int) × (List Int) × (List Int) × (List Int) × (List (List Int)) × Unit))) (k : Nat) : Cut := { sp := { temps := [(0, .c (.lit (.ptr 3000000 0 0 0))), (1, .c (.lit (.row 3000001))), (2, .c (.int .i64))], blocks := [(3000000, .box 56 [(.int .i64), (.lit (.row 3000002)), (.lit (.row 3000003)), (.lit (.row 3000004)), (.sl (.int .i64)), (.lit (.row 3000005))]), (3000001, .own 22 (.s 2 (.d (.int .i64)))), (3000002, .row 2 (.int .i64)), (3000003, .row 2 (.int .i64)), (3000004, .row 2 (.int .i64)), (3000005, .row 2 (.int .i64))], ren := [(3000000, some 3000000), (3000001, some 3000001), (3000002, some 3000002), (3000003, some 3000003), (3000004, some 3000004), (3000005, some 3000005)] }, outs := [(.exit 0, { temps := [(0, .c (.lit (.ptr 3000000 0 0 0))), (1, .c (.lit (.row 3000001))), (2, .c (.int .i64))], blocks := [(3000000, .box 56 [(.int .i64), (.lit (.row 3000002)), (.lit (.row 3000003)), (.lit (.row 3000004)), (.sl (.int .i64)), (.lit (.row 3000005))]), (3000001, .own 22 (.s 2 (.d (.int .i64)))), (3000002, .row 2 (.int .i64)), (3000003, .row 2 (.int .i64)), (3000004, .row 2 (.int .i64)), (3000005, .row 2 (.int .i64))], ren := [(3000000, some 3000000), (3000001, some 3000001), (3000002, some 3000002), (3000003, some 3000003), (3000004, some 3000004), (3000005, some 3000005)] })], F := fun ρ j v nx => f25_l1 self k j v.1.2.2.1 v.2.1.1 v.2.1.2.2.2.2.1 v.2.2.1 v.2.2.2.1 v.2.2.2.2.1 v.2.2.2.2.2.1 v.2.2.2.2.2.2.1 nx }
def f25_l8 {ρ : Type} (self : Int → Int → (List Int) → (List (List Int)) → (List Int) → (List Int) → (List Int) → (List Int) → Option ((Unit × Unit) × ((Int × Unit × Unit × Unit × (List Int) × Unit × Unit) × (List Int) × (List Int) × (List Int) × (List Int) × (List (List Int)) × Unit))) (k : Nat) : Nat → Int → Int → Int → Int → Int → (List Int) → (List Int) → (List Int) → (List Int) → (List Int) → (List (List Int)) → ((((Unit × Unit × Int × Int × Unit) × ((Int × Unit × Unit × Unit × (List Int) × Unit × Unit) × (List Int) × (List Int) × (List Int) × (List Int) × (List (List Int)) × Unit)) → Option ρ) × Unit) → Option ρ
  | 0, _, _, _, _, _, _, _, _, _, _, _, _ => none
  | j + 1, v81, v82, v83, v84, v85, v86, v87, v88, v89, v90, v91, nx =>
    bif (decide (v84 ≤ 1)) then
      bif (decide ((v91.length : Int) ≤ 400)) then
        bif decide (0 ≤ (wr .i64 ((wr .i64 (v82 * v85)) + v83))) && decide ((wr .i64 ((wr .i64 (v82 * v85)) + v83)) < (v90.length : Int)) then
          (v90[(wr .i64 ((wr .i64 (v82 * v85)) + v83)).toNat]?).bind fun _ =>
          let x93 : (List Int) := (v90.set (wr .i64 ((wr .i64 (v82 * v85)) + v83)).toNat v84)
          bif decide (0 ≤ (wr .i64 ((wr .i64 (v83 * v85)) + v82))) && decide ((wr .i64 ((wr .i64 (v83 * v85)) + v82)) < (x93.length : Int)) then
            (x93[(wr .i64 ((wr .i64 (v83 * v85)) + v82)).toNat]?).bind fun _ =>
            let x95 : (List Int) := (x93.set (wr .i64 ((wr .i64 (v83 * v85)) + v82)).toNat (wr .i64 (0 - v84)))
            (f45 k (v85, (v87, (v88, (v89, (v86, x95)))))).bind fun x96 =>
            bif x96.1.1 then
              (self (wr .i64 (v81 + 1)) v85 v86 v91 v87 v88 v89 x95).bind fun x97 =>
              f25_l8 self k j v81 v82 v83 (wr .i64 (v84 + 2)) x97.2.1.1 x97.2.1.2.2.2.2.1 x97.2.2.1 x97.2.2.2.1 x97.2.2.2.2.1 x97.2.2.2.2.2.1 x97.2.2.2.2.2.2.1 nx
            else
              f25_l8 self k j v81 v82 v83 (wr .i64 (v84 + 2)) v85 v86 v87 v88 v89 x95 v91 nx
          else
            none
        else
          none
      else
        nx.1 (((), (), v82, v83, ()), ((v85, (), (), (), v86, (), ()), v87, v88, v89, v90, v91, ()))
    else
      nx.1 (((), (), v82, v83, ()), ((v85, (), (), (), v86, (), ()), v87, v88, v89, v90, v91, ()))
def cf25_l8 (self : Int → Int → (List Int) → (List (List Int)) → (List Int) → (List Int) → (List Int) → (List Int) → Option ((Unit × Unit) × ((Int × Unit × Unit × Unit × (List Int) × Unit × Unit) × (List Int) × (List Int) × (List Int) × (List Int) × (List (List Int)) × Unit))) (k : Nat) : Cut := { sp := { temps := [(0, .c (.lit (.ptr 3000000 0 0 0))), (1, .c (.row 5000000)), (2, .c (.int .i64)), (7, .c (.int .i64)), (8, .c (.int .i64)), (9, .c (.int .i64))], blocks := [(3000000, .box 56 [(.int .i64), (.lit (.row 3000002)), (.lit (.row 3000003)), (.lit (.row 3000004)), (.sl (.int .i64)), (.lit (.row 3000005))]), (3000002, .row 2 (.int .i64)), (3000003, .row 2 (.int .i64)), (3000004, .row 2 (.int .i64)), (3000005, .row 2 (.int .i64)), (5000000, .own 22 (.s 2 (.d (.int .i64))))], ren := [(3000000, some 3000000), (3000002, some 3000002), (3000003, some 3000003), (3000004, some 3000004), (3000005, some 3000005)] }, outs := [(.exit 2, { temps := [(0, .c (.lit (.ptr 3000000 0 0 0))), (1, .c (.row 5000000)), (7, .c (.int .i64)), (8, .c (.int .i64))], blocks := [(3000000, .box 56 [(.int .i64), (.lit (.row 3000002)), (.lit (.row 3000003)), (.lit (.row 3000004)), (.sl (.int .i64)), (.lit (.row 3000005))]), (3000002, .row 2 (.int .i64)), (3000003, .row 2 (.int .i64)), (3000004, .row 2 (.int .i64)), (3000005, .row 2 (.int .i64)), (5000000, .own 22 (.s 2 (.d (.int .i64))))], ren := [(3000000, some 3000000), (3000002, some 3000002), (3000003, some 3000003), (3000004, some 3000004), (3000005, some 3000005)] })], F := fun ρ j v nx => f25_l8 self k j v.1.2.2.1 v.1.2.2.2.1 v.1.2.2.2.2.1 v.1.2.2.2.2.2.1 v.2.1.1 v.2.1.2.2.2.2.1 v.2.2.1 v.2.2.2.1 v.2.2.2.2.1 v.2.2.2.2.2.1 v.2.2.2.2.2.2.1 nx }
def f25 : Nat → Int → Int → (List Int) → (List (List Int)) → (List Int) → (List Int) → (List Int) → (List Int) → Option ((Unit × Unit) × ((Int × Unit × Unit × Unit × (List Int) × Unit × Unit) × (List Int) × (List Int) × (List Int) × (List Int) × (List (List Int)) × Unit))
  | 0, _, _, _, _, _, _, _, _ => none
  | k + 1, a1, a2, a3, a4, a5, a6, a7, a8 =>
    f25_l1 (f25 k) k k a1 a2 a3 a4 a5 a6 a7 a8
      (fun x59 : ((Unit × Unit × Int × Unit) × ((Int × Unit × Unit × Unit × (List Int) × Unit × Unit) × (List (List Int)) × (List Int) × (List Int) × (List Int) × (List Int) × Unit)) =>
        let x62 : Bool := (decide (x59.1.2.2.1 ≥ (wr .i64 (x59.2.1.1 * x59.2.1.1))))
        bif x62 then
          (f44 k x59.2.2.2.2.2.2.1).bind fun x63 =>
          bif decide ((x59.2.2.1.length + [x63.2.1].length) * 24 ≤ roomy) then
            some (((), ()), ((x59.2.1.1, (), (), (), x59.2.1.2.2.2.2.1, (), ()), x59.2.2.2.1, x59.2.2.2.2.1, x59.2.2.2.2.2.1, x59.2.2.2.2.2.2.1, (x59.2.2.1 ++ [x63.2.1]), ()))
          else
            none
        else
          bif decide (x59.2.1.1 = 0) then
            none
          else
            bif decide (x59.2.1.1 = 0) then
              none
            else
              f25_l8 (f25 k) k k x59.1.2.2.1 (wr .i64 (x59.1.2.2.1.tdiv x59.2.1.1)) (x59.1.2.2.1.tmod x59.2.1.1) (-1) x59.2.1.1 x59.2.1.2.2.2.2.1 x59.2.2.2.1 x59.2.2.2.2.1 x59.2.2.2.2.2.1 x59.2.2.2.2.2.2.1 x59.2.2.1
                (fun x65 : ((Unit × Unit × Int × Int × Unit) × ((Int × Unit × Unit × Unit × (List Int) × Unit × Unit) × (List Int) × (List Int) × (List Int) × (List Int) × (List (List Int)) × Unit)) =>
                  let x66 : Int := (wr .i64 ((wr .i64 (x65.1.2.2.1 * x65.2.1.1)) + x65.1.2.2.2.1))
                  bif decide (0 ≤ x66) && decide (x66 < (x65.2.2.2.2.2.1.length : Int)) then
                    (x65.2.2.2.2.2.1[x66.toNat]?).bind fun _ =>
                    let x68 : Int := (wr .i64 ((wr .i64 (x65.1.2.2.2.1 * x65.2.1.1)) + x65.1.2.2.1))
                    bif decide (0 ≤ x68) && decide (x68 < ((x65.2.2.2.2.2.1.set x66.toNat 2).length : Int)) then
                      ((x65.2.2.2.2.2.1.set x66.toNat 2)[x68.toNat]?).bind fun _ =>
                      let x70 : (List Int) := ((x65.2.2.2.2.2.1.set x66.toNat 2).set x68.toNat 2)
                      some (((), ()), ((x65.2.1.1, (), (), (), x65.2.1.2.2.2.2.1, (), ()), x65.2.2.1, x65.2.2.2.1, x65.2.2.2.2.1, x70, x65.2.2.2.2.2.2.1, ()))
                    else
                      none
                  else
                    none,
                ()),
      ())
def ef25 : Entry := { id := 25, ar := { temps := [(0, .c (.box 3000000)), (1, .c (.row 3000001)), (2, .c (.int .i64))], blocks := [(3000000, .box 56 [(.int .i64), (.row 3000002), (.row 3000003), (.row 3000004), (.sl (.int .i64)), (.row 3000005)]), (3000001, .own 22 (.s 2 (.d (.int .i64)))), (3000002, .row 2 (.int .i64)), (3000003, .row 2 (.int .i64)), (3000004, .row 2 (.int .i64)), (3000005, .row 2 (.int .i64))], ren := [] }, res := { temps := [(0, .c (.row 4000000))], blocks := [(3000000, .box 56 [(.int .i64), (.lit (.row 3000002)), (.lit (.row 3000003)), (.lit (.row 3000004)), (.sl (.int .i64)), (.lit (.row 3000005))]), (3000002, .row 2 (.int .i64)), (3000003, .row 2 (.int .i64)), (3000004, .row 2 (.int .i64)), (3000005, .row 2 (.int .i64)), (4000000, .own 22 (.s 2 (.d (.int .i64))))], ren := [(3000000, some 3000000), (3000002, some 3000002), (3000003, some 3000003), (3000004, some 3000004), (3000005, some 3000005)] }, f := fun k v => f25 k v.1.2.2.1 v.2.1.1 v.2.1.2.2.2.2.1 v.2.2.1 v.2.2.2.1 v.2.2.2.2.1 v.2.2.2.2.2.1 v.2.2.2.2.2.2.1 }
def gf25 (k : Nat) : Full := { tt := tt, n := 151, fns := [ef44, ef45, ef25], trunc := [], tails := [], touch := [(10, [(14, [3000005])]), (11, [(15, [3000005])]), (14, [(13, [3000005])]), (15, [(13, [3000005])])], opens := [], shapes := [(65, (.s 2 (.d (.int .i64)))), (66, (.s 2 (.d (.int .i64))))], closes := [], k := k, glob := glob, cuts := [(1, (cf25_l1 (f25 k) k)), (8, (cf25_l8 (f25 k) k))], joins := [] }
theorem of25_l1 (k : Nat) : CutOk (gf25 k) (cf25_l1 (f25 k) k) (theLoop Try.f25 1) := fun ρ v nx => ⟨by kernel_rfl, fun j => by kernel_rfl⟩
theorem of25_l8 (k : Nat) : CutOk (gf25 k) (cf25_l8 (f25 k) k) (theLoop Try.f25 8) := fun ρ v nx => ⟨by kernel_rfl, fun j => by kernel_rfl⟩
theorem qf25 (k : Nat) : AllP (bodyL (gf25 k) Try.f25) := by
  have h : (CutOk (gf25 k) (cf25_l1 (f25 k) k) (theLoop Try.f25 1) ∧ CutOk (gf25 k) (cf25_l8 (f25 k) k) (theLoop Try.f25 8) ∧ True) = AllP (bodyL (gf25 k) Try.f25) := by kernel_rfl
  exact Eq.mp h (And.intro (of25_l1 k) (And.intro (of25_l8 k) (trivial)))
theorem sf25 : Sound Try.prog glob ef25 := sound_rec base (fn := Try.f25) Try.func25 (by kernel_rfl) gf25 (fun _ => ⟨rfl, rfl, rfl⟩) (fun k j h => ⟨sf44.at j, sf45.at j, h, trivial⟩) qf25 (fun v => by kernel_rfl) (fun k v => by kernel_rfl)

/-! spec.SectorOrders -/
def f5 (k : Nat) (a1 : (List Int)) (a2 : (List Int)) : Option ((Unit × Int × Unit) × ((List (List Int)) × Unit)) :=
  (f22 k a1).bind fun x10 =>
  bif (!x10.1.1) then
    some (((), 1, ()), (([] : List (List Int)), ()))
  else
    (f23 k a1 a2 true).bind fun x11 =>
    bif (!x11.1.1) then
      some (((), 1, ()), (([] : List (List Int)), ()))
    else
      bif (decide ((a1.length : Int) > 8)) then
        some (((), 5, ()), (([] : List (List Int)), ()))
      else
        (f24 k a1 a2).bind fun x12 =>
        (f25 k 0 x12.2.1.1 x12.2.1.2.2.2.2.1 ([] : List (List Int)) x12.2.2.1 x12.2.2.2.1 x12.2.2.2.2.1 x12.2.2.2.2.2.1).bind fun x13 =>
        let x14 : Bool := (decide ((x13.2.2.2.2.2.2.1.length : Int) > 400))
        bif x14 then
          some (((), 5, ()), (([] : List (List Int)), ()))
        else
          some (((), 0, ()), (x13.2.2.2.2.2.2.1, ()))
def ef5 : Entry := { id := 5, ar := { temps := [(0, .c (.sl (.int .i64))), (1, .c (.sl (.int .i64)))], blocks := [], ren := [] }, res := { temps := [(0, .c (.row 4000000)), (1, .c (.int .i64))], blocks := [(4000000, .own 22 (.s 2 (.d (.int .i64))))], ren := [] }, f := fun k v => f5 k v.1.1 v.1.2.1 }
def gf5 (k : Nat) : Full := { tt := tt, n := 28, fns := [ef22, ef23, ef24, ef25], trunc := [], tails := [], touch := [], opens := [], shapes := [(22, (.s 2 (.d (.int .i64))))], closes := [], k := k, glob := glob, cuts := [], joins := [] }
theorem qf5 (k : Nat) : AllP (bodyL (gf5 k) Try.f5) := by
  have h : True = AllP (bodyL (gf5 k) Try.f5) := by kernel_rfl
  exact Eq.mp h trivial
theorem sf5 : Sound Try.prog glob ef5 := sound_of base (fn := Try.f5) Try.func5 (by kernel_rfl) gf5 (fun _ => ⟨rfl, rfl⟩) (fun k j => ⟨sf22.at j, sf23.at j, sf24.at j, sf25.at j, trivial⟩) qf5 (fun k v => by kernel_rfl)

/-! impl.length[int64] -/
def f47 (k : Nat) (a1 : (List Int)) : Option ((Int × Unit) × Unit) :=
  some (((a1.length : Int), ()), ())
def ef47 : Entry := { id := 47, ar := { temps := [(0, .c (.sl (.int .i64)))], blocks := [], ren := [] }, res := { temps := [(0, .c (.int .i64))], blocks := [], ren := [] }, f := fun k v => f47 k v.1.1 }
def gf47 (k : Nat) : Full := { tt := tt, n := 5, fns := [], trunc := [], tails := [], touch := [], opens := [], shapes := [], closes := [], k := k, glob := glob, cuts := [], joins := [] }
theorem qf47 (k : Nat) : AllP (bodyL (gf47 k) Try.f47) := by
  have h : True = AllP (bodyL (gf47 k) Try.f47) := by kernel_rfl
  exact Eq.mp h trivial
theorem sf47 : Sound Try.prog glob ef47 := sound_of base (fn := Try.f47) Try.func47 (by kernel_rfl) gf47 (fun _ => ⟨rfl, rfl⟩) (fun k j => trivial) qf47 (fun k v => by kernel_rfl)

/-! impl.within -/
def f46 (k : Nat) (a1 : Int) (a2 : Int) (a3 : Int) : Option ((Bool × Unit) × Unit) :=
  bif (decide (a1 ≥ a2)) then
    some (((decide (a1 ≤ a3)), ()), ())
  else
    some ((false, ()), ())
def ef46 : Entry := { id := 46, ar := { temps := [(0, .c (.int .i64)), (1, .c (.int .i64)), (2, .c (.int .i64))], blocks := [], ren := [] }, res := { temps := [(0, .c .bool)], blocks := [], ren := [] }, f := fun k v => f46 k v.1.1 v.1.2.1 v.1.2.2.1 }
def gf46 (k : Nat) : Full := { tt := tt, n := 15, fns := [], trunc := [], tails := [], touch := [], opens := [], shapes := [], closes := [], k := k, glob := glob, cuts := [], joins := [] }
theorem qf46 (k : Nat) : AllP (bodyL (gf46 k) Try.f46) := by
  have h : True = AllP (bodyL (gf46 k) Try.f46) := by kernel_rfl
  exact Eq.mp h trivial
theorem sf46 : Sound Try.prog glob ef46 := sound_of base (fn := Try.f46) Try.func46 (by kernel_rfl) gf46 (fun _ => ⟨rfl, rfl⟩) (fun k j => trivial) qf46 (fun k v => by kernel_rfl)

/-! impl.ValidCone$1 -/
def f49 (k : Nat) (a1 : Int) : Option ((Bool × Unit) × Unit) :=
  (f46 k a1 1 16).bind fun x2 =>
  some (((!x2.1.1), ()), ())
def ef49 : Entry := { id := 49, ar := { temps := [(0, .c (.int .i64))], blocks := [], ren := [] }, res := { temps := [(0, .c .bool)], blocks := [], ren := [] }, f := fun k v => f49 k v.1.1 }
def gf49 (k : Nat) : Full := { tt := tt, n := 6, fns := [ef46], trunc := [], tails := [], touch := [], opens := [], shapes := [], closes := [], k := k, glob := glob, cuts := [], joins := [] }
theorem qf49 (k : Nat) : AllP (bodyL (gf49 k) Try.f49) := by
  have h : True = AllP (bodyL (gf49 k) Try.f49) := by kernel_rfl
  exact Eq.mp h trivial
theorem sf49 : Sound Try.prog glob ef49 := sound_of base (fn := Try.f49) Try.func49 (by kernel_rfl) gf49 (fun _ => ⟨rfl, rfl⟩) (fun k j => ⟨sf46.at j, trivial⟩) qf49 (fun k v => by kernel_rfl)

/-! slices.IndexFunc[[]int64,int64] -/
def f73_l2 {ρ : Type} (k : Nat) : Nat → (List Int) → Int → Int → (((Unit × Unit) → Option ρ) × (((Int × Unit) × Unit) → Option ρ) × Unit) → Option ρ
  | 0, _, _, _, _ => none
  | j + 1, v10, v11, v12, nx =>
    bif (decide (v12 < v11)) then
      (getI v10 v12).bind fun x13 =>
      (f49 k x13).bind fun x14 =>
      bif x14.1.1 then
        nx.2.1 ((v12, ()), ())
      else
        f73_l2 k j v10 v11 (wr .i64 (v12 + 1)) nx
    else
      nx.1 ((), ())
def cf73_l2 (k : Nat) : Cut := { sp := { temps := [(0, .c (.sl (.int .i64))), (1, .c (.lit (.fn 49))), (7, .c (.int .i64)), (8, .c (.int .i64))], blocks := [], ren := [] }, outs := [(.exit 0, { temps := [], blocks := [], ren := [] }), (.ret, { temps := [(4, .c (.int .i64))], blocks := [], ren := [] })], F := fun ρ j v nx => f73_l2 k j v.1.1 v.1.2.2.1 v.1.2.2.2.1 nx }
def f73 (k : Nat) (a1 : (List Int)) : Option ((Int × Unit) × Unit) :=
  f73_l2 k k a1 (a1.length : Int) 0
    (fun x8 : (Unit × Unit) =>
      some (((-1), ()), ()),
    fun x9 : ((Int × Unit) × Unit) =>
      some ((x9.1.1, ()), ()),
    ())
def ef73 : Entry := { id := 73, ar := { temps := [(0, .c (.sl (.int .i64))), (1, .c (.lit (.fn 49)))], blocks := [], ren := [] }, res := { temps := [(0, .c (.int .i64))], blocks := [], ren := [] }, f := fun k v => f73 k v.1.1 }
def gf73 (k : Nat) : Full := { tt := tt, n := 19, fns := [ef49], trunc := [], tails := [], touch := [], opens := [], shapes := [], closes := [], k := k, glob := glob, cuts := [(2, (cf73_l2 k))], joins := [] }
theorem of73_l2 (k : Nat) : CutOk (gf73 k) (cf73_l2 k) (theLoop Try.f73 2) := fun ρ v nx => ⟨by kernel_rfl, fun j => by kernel_rfl⟩
theorem qf73 (k : Nat) : AllP (bodyL (gf73 k) Try.f73) := by
  have h : (CutOk (gf73 k) (cf73_l2 k) (theLoop Try.f73 2) ∧ True) = AllP (bodyL (gf73 k) Try.f73) := by kernel_rfl
  exact Eq.mp h (And.intro (of73_l2 k) (trivial))
theorem sf73 : Sound Try.prog glob ef73 := sound_of base (fn := Try.f73) Try.func73 (by kernel_rfl) gf73 (fun _ => ⟨rfl, rfl⟩) (fun k j => ⟨sf49.at j, trivial⟩) qf73 (fun k v => by kernel_rfl)

/-! slices.ContainsFunc[[]int64,int64] -/
def f48 (k : Nat) (a1 : (List Int)) : Option ((Bool × Unit) × Unit) :=
  (f73 k a1).bind fun x2 =>
  some (((decide (x2.1.1 ≥ 0)), ()), ())
def ef48 : Entry := { id := 48, ar := { temps := [(0, .c (.sl (.int .i64))), (1, .c (.lit (.fn 49)))], blocks := [], ren := [] }, res := { temps := [(0, .c .bool)], blocks := [], ren := [] }, f := fun k v => f48 k v.1.1 }
def gf48 (k : Nat) : Full := { tt := tt, n := 9, fns := [ef73], trunc := [], tails := [], touch := [], opens := [], shapes := [], closes := [], k := k, glob := glob, cuts := [], joins := [] }
theorem qf48 (k : Nat) : AllP (bodyL (gf48 k) Try.f48) := by
  have h : True = AllP (bodyL (gf48 k) Try.f48) := by kernel_rfl
  exact Eq.mp h trivial
theorem sf48 : Sound Try.prog glob ef48 := sound_of base (fn := Try.f48) Try.func48 (by kernel_rfl) gf48 (fun _ => ⟨rfl, rfl⟩) (fun k j => ⟨sf73.at j, trivial⟩) qf48 (fun k v => by kernel_rfl)

/-! impl.sumOf -/
def f50_l3 {ρ : Type} (k : Nat) : Nat → Int → (List Int) → Int → Int → ((((Int × Unit) × Unit) → Option ρ) × Unit) → Option ρ
  | 0, _, _, _, _, _ => none
  | j + 1, v8, v9, v10, v11, nx =>
    bif (decide (v11 < v10)) then
      (getI v9 v11).bind fun x12 =>
      f50_l3 k j (wr .i64 (v8 + x12)) v9 v10 (wr .i64 (v11 + 1)) nx
    else
      nx.1 ((v8, ()), ())
def cf50_l3 (k : Nat) : Cut := { sp := { temps := [(3, .c (.int .i64)), (6, .c (.sl (.int .i64))), (7, .c (.int .i64)), (8, .c (.int .i64))], blocks := [], ren := [] }, outs := [(.exit 0, { temps := [(3, .c (.int .i64))], blocks := [], ren := [] })], F := fun ρ j v nx => f50_l3 k j v.1.1 v.1.2.1 v.1.2.2.1 v.1.2.2.2.1 nx }
def f50 (k : Nat) (a1 : (List Int)) : Option ((Int × Unit) × Unit) :=
  f50_l3 k k 0 a1 (a1.length : Int) 0
    (fun x7 : ((Int × Unit) × Unit) =>
      some ((x7.1.1, ()), ()),
    ())
def ef50 : Entry := { id := 50, ar := { temps := [(0, .c (.sl (.int .i64)))], blocks := [], ren := [] }, res := { temps := [(0, .c (.int .i64))], blocks := [], ren := [] }, f := fun k v => f50 k v.1.1 }
def gf50 (k : Nat) : Full := { tt := tt, n := 17, fns := [], trunc := [], tails := [], touch := [], opens := [], shapes := [], closes := [], k := k, glob := glob, cuts := [(3, (cf50_l3 k))], joins := [] }
theorem of50_l3 (k : Nat) : CutOk (gf50 k) (cf50_l3 k) (theLoop Try.f50 3) := fun ρ v nx => ⟨by kernel_rfl, fun j => by kernel_rfl⟩
theorem qf50 (k : Nat) : AllP (bodyL (gf50 k) Try.f50) := by
  have h : (CutOk (gf50 k) (cf50_l3 k) (theLoop Try.f50 3) ∧ True) = AllP (bodyL (gf50 k) Try.f50) := by kernel_rfl
  exact Eq.mp h (And.intro (of50_l3 k) (trivial))
theorem sf50 : Sound Try.prog glob ef50 := sound_of base (fn := Try.f50) Try.func50 (by kernel_rfl) gf50 (fun _ => ⟨rfl, rfl⟩) (fun k j => trivial) qf50 (fun k v => by kernel_rfl)

/-! impl.alternating -/
def f51_l3 {ρ : Type} (k : Nat) : Nat → Int → (List Int) → Int → Int → ((((Int × Unit) × Unit) → Option ρ) × Unit) → Option ρ
  | 0, _, _, _, _, _ => none
  | j + 1, v8, v9, v10, v11, nx =>
    bif (decide (v11 < v10)) then
      (getI v9 v11).bind fun x12 =>
      bif ((v11.tmod 2) == 0) then
        f51_l3 k j (wr .i64 (v8 + x12)) v9 v10 (wr .i64 (v11 + 1)) nx
      else
        f51_l3 k j (wr .i64 (v8 - x12)) v9 v10 (wr .i64 (v11 + 1)) nx
    else
      nx.1 ((v8, ()), ())
def cf51_l3 (k : Nat) : Cut := { sp := { temps := [(3, .c (.int .i64)), (6, .c (.sl (.int .i64))), (7, .c (.int .i64)), (8, .c (.int .i64))], blocks := [], ren := [] }, outs := [(.exit 0, { temps := [(3, .c (.int .i64))], blocks := [], ren := [] })], F := fun ρ j v nx => f51_l3 k j v.1.1 v.1.2.1 v.1.2.2.1 v.1.2.2.2.1 nx }
def f51 (k : Nat) (a1 : (List Int)) : Option ((Int × Unit) × Unit) :=
  f51_l3 k k 0 a1 (a1.length : Int) 0
    (fun x7 : ((Int × Unit) × Unit) =>
      some ((x7.1.1, ()), ()),
    ())
def ef51 : Entry := { id := 51, ar := { temps := [(0, .c (.sl (.int .i64)))], blocks := [], ren := [] }, res := { temps := [(0, .c (.int .i64))], blocks := [], ren := [] }, f := fun k v => f51 k v.1.1 }
def gf51 (k : Nat) : Full := { tt := tt, n := 24, fns := [], trunc := [], tails := [], touch := [], opens := [], shapes := [], closes := [], k := k, glob := glob, cuts := [(3, (cf51_l3 k))], joins := [] }
theorem of51_l3 (k : Nat) : CutOk (gf51 k) (cf51_l3 k) (theLoop Try.f51 3) := fun ρ v nx => ⟨by kernel_rfl, fun j => by kernel_rfl⟩
theorem qf51 (k : Nat) : AllP (bodyL (gf51 k) Try.f51) := by
  have h : (CutOk (gf51 k) (cf51_l3 k) (theLoop Try.f51 3) ∧ True) = AllP (bodyL (gf51 k) Try.f51) := by kernel_rfl
  exact Eq.mp h (And.intro (of51_l3 k) (trivial))
theorem sf51 : Sound Try.prog glob ef51 := sound_of base (fn := Try.f51) Try.func51 (by kernel_rfl) gf51 (fun _ => ⟨rfl, rfl⟩) (fun k j => trivial) qf51 (fun k v => by kernel_rfl)

/-! impl.ValidCone -/
def f26 (k : Nat) (a1 : (List Int)) : Option ((Bool × Unit) × Unit) :=
  (f47 k a1).bind fun x10 =>
  (f46 k x10.1.1 2 16).bind fun x11 =>
  bif (!x11.1.1) then
    some ((false, ()), ())
  else
    bif (((a1.length : Int).tmod 2) == 1) then
      some ((false, ()), ())
    else
      (f48 k a1).bind fun x12 =>
      bif (!x12.1.1) then
        (f50 k a1).bind fun x13 =>
        bif (decide (x13.1.1 ≤ 16)) then
          (f51 k a1).bind fun x14 =>
          some (((x14.1.1 == 0), ()), ())
        else
          some ((false, ()), ())
      else
        some ((false, ()), ())
def ef26 : Entry := { id := 26, ar := { temps := [(0, .c (.sl (.int .i64)))], blocks := [], ren := [] }, res := { temps := [(0, .c .bool)], blocks := [], ren := [] }, f := fun k v => f26 k v.1.1 }
def gf26 (k : Nat) : Full := { tt := tt, n := 26, fns := [ef47, ef46, ef48, ef50, ef51], trunc := [], tails := [], touch := [], opens := [], shapes := [], closes := [], k := k, glob := glob, cuts := [], joins := [] }
theorem qf26 (k : Nat) : AllP (bodyL (gf26 k) Try.f26) := by
  have h : True = AllP (bodyL (gf26 k) Try.f26) := by kernel_rfl
  exact Eq.mp h trivial
theorem sf26 : Sound Try.prog glob ef26 := sound_of base (fn := Try.f26) Try.func26 (by kernel_rfl) gf26 (fun _ => ⟨rfl, rfl⟩) (fun k j => ⟨sf47.at j, sf46.at j, sf48.at j, sf50.at j, sf51.at j, trivial⟩) qf26 (fun k v => by kernel_rfl)

/-! impl.areKinds$1 -/
def f52 (k : Nat) (a1 : Int) (a2 : Int) : Option ((Bool × Unit) × Unit) :=
  (f46 k a1 2 a2).bind fun x2 =>
  some (((!x2.1.1), ()), ())
def ef52 : Entry := { id := 52, ar := { temps := [(0, .c (.int .i64)), (1, .c (.dp (.int .i64)))], blocks := [], ren := [] }, res := { temps := [(0, .c .bool)], blocks := [], ren := [] }, f := fun k v => f52 k v.1.1 v.1.2.1 }
def gf52 (k : Nat) : Full := { tt := tt, n := 8, fns := [ef46], trunc := [], tails := [], touch := [], opens := [], shapes := [], closes := [], k := k, glob := glob, cuts := [], joins := [] }
theorem qf52 (k : Nat) : AllP (bodyL (gf52 k) Try.f52) := by
  have h : True = AllP (bodyL (gf52 k) Try.f52) := by kernel_rfl
  exact Eq.mp h trivial
theorem sf52 : Sound Try.prog glob ef52 := sound_of base (fn := Try.f52) Try.func52 (by kernel_rfl) gf52 (fun _ => ⟨rfl, rfl⟩) (fun k j => ⟨sf46.at j, trivial⟩) qf52 (fun k v => by kernel_rfl)

/-! slices.IndexFunc[[]int64,int64] -/
def f73a_l2 {ρ : Type} (k : Nat) : Nat → (List Int) → Int → Int → Int → (((Unit × Unit) → Option ρ) × (((Int × Unit) × Unit) → Option ρ) × Unit) → Option ρ
  | 0, _, _, _, _, _ => none
  | j + 1, v11, v12, v13, v14, nx =>
    bif (decide (v14 < v13)) then
      (getI v11 v14).bind fun x15 =>
      (f52 k x15 v12).bind fun x16 =>
      bif x16.1.1 then
        nx.2.1 ((v14, ()), ())
      else
        f73a_l2 k j v11 v12 v13 (wr .i64 (v14 + 1)) nx
    else
      nx.1 ((), ())
def cf73a_l2 (k : Nat) : Cut := { sp := { temps := [(0, .c (.sl (.int .i64))), (1, .c (.cap (.lit (.fn 52)) (.dp (.int .i64)))), (7, .c (.int .i64)), (8, .c (.int .i64))], blocks := [], ren := [] }, outs := [(.exit 0, { temps := [], blocks := [], ren := [] }), (.ret, { temps := [(4, .c (.int .i64))], blocks := [], ren := [] })], F := fun ρ j v nx => f73a_l2 k j v.1.1 v.1.2.1.2 v.1.2.2.1 v.1.2.2.2.1 nx }
def f73a (k : Nat) (a1 : (List Int)) (a2 : Int) : Option ((Int × Unit) × Unit) :=
  f73a_l2 k k a1 a2 (a1.length : Int) 0
    (fun x9 : (Unit × Unit) =>
      some (((-1), ()), ()),
    fun x10 : ((Int × Unit) × Unit) =>
      some ((x10.1.1, ()), ()),
    ())
def ef73a : Entry := { id := 73, ar := { temps := [(0, .c (.sl (.int .i64))), (1, .c (.cap (.lit (.fn 52)) (.dp (.int .i64))))], blocks := [], ren := [] }, res := { temps := [(0, .c (.int .i64))], blocks := [], ren := [] }, f := fun k v => f73a k v.1.1 v.1.2.1.2 }
def gf73a (k : Nat) : Full := { tt := tt, n := 19, fns := [ef52], trunc := [], tails := [], touch := [], opens := [], shapes := [], closes := [], k := k, glob := glob, cuts := [(2, (cf73a_l2 k))], joins := [] }
theorem of73a_l2 (k : Nat) : CutOk (gf73a k) (cf73a_l2 k) (theLoop Try.f73 2) := fun ρ v nx => ⟨by kernel_rfl, fun j => by kernel_rfl⟩
theorem qf73a (k : Nat) : AllP (bodyL (gf73a k) Try.f73) := by
  have h : (CutOk (gf73a k) (cf73a_l2 k) (theLoop Try.f73 2) ∧ True) = AllP (bodyL (gf73a k) Try.f73) := by kernel_rfl
  exact Eq.mp h (And.intro (of73a_l2 k) (trivial))
theorem sf73a : Sound Try.prog glob ef73a := sound_of base (fn := Try.f73) Try.func73 (by kernel_rfl) gf73a (fun _ => ⟨rfl, rfl⟩) (fun k j => ⟨sf52.at j, trivial⟩) qf73a (fun k v => by kernel_rfl)

/-! slices.ContainsFunc[[]int64,int64] -/
def f48a (k : Nat) (a1 : (List Int)) (a2 : Int) : Option ((Bool × Unit) × Unit) :=
  (f73a k a1 a2).bind fun x2 =>
  some (((decide (x2.1.1 ≥ 0)), ()), ())
def ef48a : Entry := { id := 48, ar := { temps := [(0, .c (.sl (.int .i64))), (1, .c (.cap (.lit (.fn 52)) (.dp (.int .i64))))], blocks := [], ren := [] }, res := { temps := [(0, .c .bool)], blocks := [], ren := [] }, f := fun k v => f48a k v.1.1 v.1.2.1.2 }
def gf48a (k : Nat) : Full := { tt := tt, n := 9, fns := [ef73a], trunc := [], tails := [], touch := [], opens := [], shapes := [], closes := [], k := k, glob := glob, cuts := [], joins := [] }
theorem qf48a (k : Nat) : AllP (bodyL (gf48a k) Try.f48) := by
  have h : True = AllP (bodyL (gf48a k) Try.f48) := by kernel_rfl
  exact Eq.mp h trivial
theorem sf48a : Sound Try.prog glob ef48a := sound_of base (fn := Try.f48) Try.func48 (by kernel_rfl) gf48a (fun _ => ⟨rfl, rfl⟩) (fun k j => ⟨sf73a.at j, trivial⟩) qf48a (fun k v => by kernel_rfl)

/-! impl.areKinds -/
def f27_j4 {ρ : Type} (k : Nat) (v9 : (List Int)) (v10 : (List Int)) (v11 : Int) (nx : ((((Bool × Unit) × Unit) → Option ρ) × Unit)) : Option ρ :=
  bif ((v10.length : Int) == (v9.length : Int)) then
    (f48a k v10 v11).bind fun x12 =>
    nx.1 (((!x12.1.1), ()), ())
  else
    nx.1 ((false, ()), ())
def cf27_j4 : Cut := { sp := { temps := [(0, .c (.sl (.int .i64))), (1, .c (.sl (.int .i64))), (7, .c (.box 5000000))], blocks := [(5000000, .box 2 [(.int .i64)])], ren := [] }, outs := [(.ret, { temps := [(6, .c .bool)], blocks := [], ren := [] })], F := fun ρ k v nx => f27_j4 k v.1.1 v.1.2.1 v.2.1.1 nx }
def f27 (k : Nat) (a1 : (List Int)) (a2 : (List Int)) (a3 : Bool) : Option ((Bool × Unit) × Unit) :=
  bif a3 then
    f27_j4 k a1 a2 4
      (fun x7 : ((Bool × Unit) × Unit) =>
        some ((x7.1.1, ()), ()),
      ())
  else
    f27_j4 k a1 a2 3
      (fun x8 : ((Bool × Unit) × Unit) =>
        some ((x8.1.1, ()), ()),
      ())
def ef27 : Entry := { id := 27, ar := { temps := [(0, .c (.sl (.int .i64))), (1, .c (.sl (.int .i64))), (2, .c .bool)], blocks := [], ren := [] }, res := { temps := [(0, .c .bool)], blocks := [], ren := [] }, f := fun k v => f27 k v.1.1 v.1.2.1 v.1.2.2.1 }
def gf27 (k : Nat) : Full := { tt := tt, n := 20, fns := [ef48a], trunc := [], tails := [], touch := [], opens := [], shapes := [], closes := [], k := k, glob := glob, cuts := [], joins := [(4, cf27_j4)] }
theorem of27_j4 (k : Nat) : JoinOk (gf27 k) cf27_j4 (theJoin Try.f27 4) := fun ρ v nx => by kernel_rfl
theorem qf27 (k : Nat) : AllP (bodyL (gf27 k) Try.f27) := by
  have h : (JoinOk (gf27 k) cf27_j4 (theJoin Try.f27 4) ∧ True) = AllP (bodyL (gf27 k) Try.f27) := by kernel_rfl
  exact Eq.mp h (And.intro (of27_j4 k) (trivial))
theorem sf27 : Sound Try.prog glob ef27 := sound_of base (fn := Try.f27) Try.func27 (by kernel_rfl) gf27 (fun _ => ⟨rfl, rfl⟩) (fun k j => ⟨sf48a.at j, trivial⟩) qf27 (fun k v => by kernel_rfl)

/-! impl.places -/
def f67_l4 {ρ : Type} (k : Nat) : Nat → Int → (List Int) → Int → Int → (List Int) → ((((Unit × Unit) × ((List Int) × Unit)) → Option ρ) × Unit) → Option ρ
  | 0, _, _, _, _, _, _ => none
  | j + 1, v14, v15, v16, v17, v18, nx =>
    bif (decide (v17 < v16)) then
      (getI v15 v17).bind fun x19 =>
      bif decide ((v18.length + [v14].length) * 8 ≤ roomy) then
        bif ((v17.tmod 2) == 0) then
          f67_l4 k j (wr .i64 (v14 + x19)) v15 v16 (wr .i64 (v17 + 1)) (v18 ++ [v14]) nx
        else
          f67_l4 k j (wr .i64 (v14 - x19)) v15 v16 (wr .i64 (v17 + 1)) (v18 ++ [v14]) nx
      else
        none
    else
      nx.1 (((), ()), (v18, ()))
def cf67_l4 (k : Nat) : Cut := { sp := { temps := [(3, .c (.row 5000000)), (4, .c (.int .i64)), (7, .c (.sl (.int .i64))), (8, .c (.int .i64)), (9, .c (.int .i64))], blocks := [(5000000, .row 2 (.int .i64))], ren := [] }, outs := [(.exit 0, { temps := [(3, .c (.row 5000000))], blocks := [(5000000, .row 2 (.int .i64))], ren := [] })], F := fun ρ j v nx => f67_l4 k j v.1.2.1 v.1.2.2.1 v.1.2.2.2.1 v.1.2.2.2.2.1 v.2.1 nx }
def f67 (k : Nat) (a1 : (List Int)) : Option ((Unit × Unit) × ((List Int) × Unit)) :=
  f67_l4 k k 0 a1 (a1.length : Int) 0 ([] : List Int)
    (fun x13 : ((Unit × Unit) × ((List Int) × Unit)) =>
      some (((), ()), (x13.2.1, ())),
    ())
def ef67 : Entry := { id := 67, ar := { temps := [(0, .c (.sl (.int .i64)))], blocks := [], ren := [] }, res := { temps := [(0, .c (.row 4000000))], blocks := [(4000000, .row 2 (.int .i64))], ren := [] }, f := fun k v => f67 k v.1.1 }
def gf67 (k : Nat) : Full := { tt := tt, n := 29, fns := [], trunc := [], tails := [], touch := [], opens := [], shapes := [], closes := [], k := k, glob := glob, cuts := [(4, (cf67_l4 k))], joins := [] }
theorem of67_l4 (k : Nat) : CutOk (gf67 k) (cf67_l4 k) (theLoop Try.f67 4) := fun ρ v nx => ⟨by kernel_rfl, fun j => by kernel_rfl⟩
theorem qf67 (k : Nat) : AllP (bodyL (gf67 k) Try.f67) := by
  have h : (CutOk (gf67 k) (cf67_l4 k) (theLoop Try.f67 4) ∧ True) = AllP (bodyL (gf67 k) Try.f67) := by kernel_rfl
  exact Eq.mp h (And.intro (of67_l4 k) (trivial))
theorem sf67 : Sound Try.prog glob ef67 := sound_of base (fn := Try.f67) Try.func67 (by kernel_rfl) gf67 (fun _ => ⟨rfl, rfl⟩) (fun k j => trivial) qf67 (fun k v => by kernel_rfl)

/-! impl.newCone -/
def f37_l3 {ρ : Type} (k : Nat) : Nat → Int → Int → (List Int) → Int → (List Int) → (List (Int × Int)) → ((((Unit × Unit) × ((List Int) × (Int × Unit × Unit × Unit × Unit) × (List Int) × (List (Int × Int)) × Unit)) → Option ρ) × Unit) → Option ρ
  | 0, _, _, _, _, _, _, _ => none
  | j + 1, v21, v22, v23, v24, v25, v26, nx =>
    bif (decide (v22 < v21)) then
      bif decide (0 ≤ v22) && decide (v22 < (v25.length : Int)) then
        (v25[v22.toNat]?).bind fun x27 =>
        bif decide (v24 = 0) then
          none
        else
          bif decide (0 ≤ ((wr .i64 (v22 + 1)).tmod v24)) && decide (((wr .i64 (v22 + 1)).tmod v24) < (v25.length : Int)) then
            (v25[((wr .i64 (v22 + 1)).tmod v24).toNat]?).bind fun x28 =>
            bif decide ((v26.length + [((bif decide (x28 < x27) then x28 else x27), (bif decide (x28 > x27) then x28 else x27))].length) * 16 ≤ roomy) then
              let x29 : (List (Int × Int)) := (v26 ++ [((bif decide (x28 < x27) then x28 else x27), (bif decide (x28 > x27) then x28 else x27))])
              f37_l3 k j v21 (wr .i64 (v22 + 1)) v23 v24 v25 x29 nx
            else
              none
          else
            none
      else
        none
    else
      nx.1 (((), ()), (v23, (v24, (), (), (), ()), v25, v26, ()))
def cf37_l3 (k : Nat) : Cut := { sp := { temps := [(5, .c (.box 5000000)), (19, .c (.row 5000001)), (20, .c (.int .i64)), (21, .c (.int .i64))], blocks := [(3000000, .row 2 (.int .i64)), (5000000, .box 67 [(.int .i64), (.lit (.row 5000001)), (.row 5000002), (.lit (.row 3000000))]), (5000001, .row 2 (.int .i64)), (5000002, .row 80 (.pair (.int .i64) (.int .i64)))], ren := [(3000000, some 3000000)] }, outs := [(.exit 0, { temps := [(5, .c (.box 5000000))], blocks := [(3000000, .row 2 (.int .i64)), (5000000, .box 67 [(.int .i64), (.row 5000001), (.row 5000002), (.lit (.row 3000000))]), (5000001, .row 2 (.int .i64)), (5000002, .row 80 (.pair (.int .i64) (.int .i64)))], ren := [(3000000, some 3000000)] })], F := fun ρ j v nx => f37_l3 k j v.1.2.2.1 v.1.2.2.2.1 v.2.1 v.2.2.1.1 v.2.2.2.1 v.2.2.2.2.1 nx }
def f37 (k : Nat) (a1 : (List Int)) (a2 : (List Int)) : Option ((Unit × Unit) × ((List Int) × (Int × Unit × Unit × Unit × Unit) × (List Int) × (List (Int × Int)) × Unit)) :=
  (f67 k a1).bind fun x19 =>
  f37_l3 k k (x19.2.1.length : Int) 0 a2 (a1.length : Int) x19.2.1 ([] : List (Int × Int))
    (fun x20 : ((Unit × Unit) × ((List Int) × (Int × Unit × Unit × Unit × Unit) × (List Int) × (List (Int × Int)) × Unit)) =>
      some (((), ()), (x20.2.1, (x20.2.2.1.1, (), (), (), ()), x20.2.2.2.1, x20.2.2.2.2.1, ())),
    ())
def ef37 : Entry := { id := 37, ar := { temps := [(0, .c (.sl (.int .i64))), (1, .c (.row 3000000))], blocks := [(3000000, .row 2 (.int .i64))], ren := [] }, res := { temps := [(0, .c (.box 4000000))], blocks := [(3000000, .row 2 (.int .i64)), (4000000, .box 67 [(.int .i64), (.row 4000001), (.row 4000002), (.lit (.row 3000000))]), (4000001, .row 2 (.int .i64)), (4000002, .row 80 (.pair (.int .i64) (.int .i64)))], ren := [(3000000, some 3000000)] }, f := fun k v => f37 k v.1.1 v.2.1 }
def gf37 (k : Nat) : Full := { tt := tt, n := 57, fns := [ef67], trunc := [], tails := [], touch := [], opens := [], shapes := [], closes := [], k := k, glob := glob, cuts := [(3, (cf37_l3 k))], joins := [] }
theorem of37_l3 (k : Nat) : CutOk (gf37 k) (cf37_l3 k) (theLoop Try.f37 3) := fun ρ v nx => ⟨by kernel_rfl, fun j => by kernel_rfl⟩
theorem qf37 (k : Nat) : AllP (bodyL (gf37 k) Try.f37) := by
  have h : (CutOk (gf37 k) (cf37_l3 k) (theLoop Try.f37 3) ∧ True) = AllP (bodyL (gf37 k) Try.f37) := by kernel_rfl
  exact Eq.mp h (And.intro (of37_l3 k) (trivial))
theorem sf37 : Sound Try.prog glob ef37 := sound_of base (fn := Try.f37) Try.func37 (by kernel_rfl) gf37 (fun _ => ⟨rfl, rfl⟩) (fun k j => ⟨sf67.at j, trivial⟩) qf37 (fun k v => by kernel_rfl)

/-! impl.cone).overlap -/
def f54_l3 {ρ : Type} (k : Nat) : Nat → (Int × ((List Int) × ((List (Int × Int)) × (List Int)))) → Int → Int → (List Int) → Int → Int → ((((Int × Int × Unit) × Unit) → Option ρ) × Unit) → Option ρ
  | 0, _, _, _, _, _, _, _ => none
  | j + 1, v20, v21, v22, v23, v24, v25, nx =>
    bif (decide (v25 < v24)) then
      (getI v23 v25).bind fun x26 =>
      (getI v20.2.2.1 x26).bind fun x27 =>
      bif decide (0 ≤ 0) && decide (0 < (2 : Int)) then
        let x28 : Int := (bif decide (x27.1 > v21) then x27.1 else v21)
        (getI v20.2.2.1 x26).bind fun x29 =>
        bif decide (0 ≤ 1) && decide (1 < (2 : Int)) then
          let x30 : Int := (bif decide (x29.2 < v22) then x29.2 else v22)
          f54_l3 k j v20 x28 x30 v23 v24 (wr .i64 (v25 + 1)) nx
        else
          none
      else
        none
    else
      nx.1 ((v21, v22, ()), ())
def cf54_l3 (k : Nat) : Cut := { sp := { temps := [(0, .c (.dp (.pair (.int .i64) (.pair (.sl (.int .i64)) (.pair (.sl (.pair (.int .i64) (.int .i64))) (.sl (.int .i64))))))), (5, .c (.int .i64)), (6, .c (.int .i64)), (29, .c (.sl (.int .i64))), (30, .c (.int .i64)), (31, .c (.int .i64))], blocks := [], ren := [] }, outs := [(.exit 0, { temps := [(5, .c (.int .i64)), (6, .c (.int .i64))], blocks := [], ren := [] })], F := fun ρ j v nx => f54_l3 k j v.1.1 v.1.2.1 v.1.2.2.1 v.1.2.2.2.1 v.1.2.2.2.2.1 v.1.2.2.2.2.2.1 nx }
def f54 (k : Nat) (a1 : (Int × ((List Int) × ((List (Int × Int)) × (List Int))))) (a2 : (List Int)) : Option ((Bool × Unit) × Unit) :=
  (getI a2 0).bind fun x15 =>
  (getI a1.2.2.1 x15).bind fun x16 =>
  bif decide (0 ≤ 0) && decide (0 < (2 : Int)) then
    (getI a2 0).bind fun x17 =>
    (getI a1.2.2.1 x17).bind fun x18 =>
    bif decide (0 ≤ 1) && decide (1 < (2 : Int)) then
      f54_l3 k k a1 x16.1 x18.2 a2 (a2.length : Int) 0
        (fun x19 : ((Int × Int × Unit) × Unit) =>
          some (((decide (x19.1.1 < x19.1.2.1)), ()), ()),
        ())
    else
      none
  else
    none
def ef54 : Entry := { id := 54, ar := { temps := [(0, .c (.dp (.pair (.int .i64) (.pair (.sl (.int .i64)) (.pair (.sl (.pair (.int .i64) (.int .i64))) (.sl (.int .i64))))))), (1, .c (.sl (.int .i64)))], blocks := [], ren := [] }, res := { temps := [(0, .c .bool)], blocks := [], ren := [] }, f := fun k v => f54 k v.1.1 v.1.2.1 }
def gf54 (k : Nat) : Full := { tt := tt, n := 59, fns := [], trunc := [], tails := [], touch := [], opens := [], shapes := [], closes := [], k := k, glob := glob, cuts := [(3, (cf54_l3 k))], joins := [] }
theorem of54_l3 (k : Nat) : CutOk (gf54 k) (cf54_l3 k) (theLoop Try.f54 3) := fun ρ v nx => ⟨by kernel_rfl, fun j => by kernel_rfl⟩
theorem qf54 (k : Nat) : AllP (bodyL (gf54 k) Try.f54) := by
  have h : (CutOk (gf54 k) (cf54_l3 k) (theLoop Try.f54 3) ∧ True) = AllP (bodyL (gf54 k) Try.f54) := by kernel_rfl
  exact Eq.mp h (And.intro (of54_l3 k) (trivial))
theorem sf54 : Sound Try.prog glob ef54 := sound_of base (fn := Try.f54) Try.func54 (by kernel_rfl) gf54 (fun _ => ⟨rfl, rfl⟩) (fun k j => trivial) qf54 (fun k v => by kernel_rfl)

/-! slices.Clone[[]int64,int64] -/
def f55 (k : Nat) (a1 : (List Int)) : Option ((Unit × Unit) × ((List Int) × Unit)) :=
  bif decide ((([] : List Int).length + a1.length) * 8 ≤ roomy) then
    some (((), ()), ((([] : List Int) ++ a1), ()))
  else
    none
def ef55 : Entry := { id := 55, ar := { temps := [(0, .c (.slx (.int .i64)))], blocks := [], ren := [] }, res := { temps := [(0, .c (.row 4000000))], blocks := [(4000000, .row 2 (.int .i64))], ren := [] }, f := fun k v => f55 k v.1.1 }
def gf55 (k : Nat) : Full := { tt := tt, n := 8, fns := [], trunc := [], tails := [], touch := [], opens := [], shapes := [], closes := [], k := k, glob := glob, cuts := [], joins := [] }
theorem qf55 (k : Nat) : AllP (bodyL (gf55 k) Try.f55) := by
  have h : True = AllP (bodyL (gf55 k) Try.f55) := by kernel_rfl
  exact Eq.mp h trivial
theorem sf55 : Sound Try.prog glob ef55 := sound_of base (fn := Try.f55) Try.func55 (by kernel_rfl) gf55 (fun _ => ⟨rfl, rfl⟩) (fun k j => trivial) qf55 (fun k v => by kernel_rfl)

/-! slices.Clone[[]int64,int64] -/
def f55a (k : Nat) : Option ((Unit × Unit) × ((List Int) × Unit)) :=
  some (((), ()), (([] : List Int), ()))
def ef55a : Entry := { id := 55, ar := { temps := [(0, .c (.lit .nils))], blocks := [], ren := [] }, res := { temps := [(0, .c (.row 4000000))], blocks := [(4000000, .row 2 (.int .i64))], ren := [] }, f := fun k v => f55a k }
def gf55a (k : Nat) : Full := { tt := tt, n := 8, fns := [], trunc := [], tails := [], touch := [], opens := [], shapes := [], closes := [], k := k, glob := glob, cuts := [], joins := [] }
theorem qf55a (k : Nat) : AllP (bodyL (gf55a k) Try.f55) := by
  have h : True = AllP (bodyL (gf55a k) Try.f55) := by kernel_rfl
  exact Eq.mp h trivial
theorem sf55a : Sound Try.prog glob ef55a := sound_of base (fn := Try.f55) Try.func55 (by kernel_rfl) gf55a (fun _ => ⟨rfl, rfl⟩) (fun k j => trivial) qf55a (fun k v => by kernel_rfl)

/-! slices.Clone[[]int64,int64] -/
def ef55b : Entry := { id := 55, ar := { temps := [(0, .c (.sl (.int .i64)))], blocks := [], ren := [] }, res := { temps := [(0, .c (.row 4000000))], blocks := [(4000000, .row 2 (.int .i64))], ren := [] }, f := fun k v => f55 k v.1.1 }
theorem nf55b (k : Nat) : f55a k = f55 k [] := by kernel_rfl
theorem sf55b : Sound Try.prog glob ef55b := sound_nil (glob := glob) (id := 55) (u := (.int .i64)) (res := { temps := [(0, .c (.row 4000000))], blocks := [(4000000, .row 2 (.int .i64))], ren := [] }) (fN := fun k v => f55a k) (fX := fun k v => f55 k v.1.1) (fS := fun k v => f55 k v.1.1) sf55a sf55 fun k l o (h : f55 k l = some o) => ⟨h, fun e => (nf55b k).trans ((congrArg (f55 k) e).symm.trans h)⟩

/-! impl.cone).beside -/
def f68 (k : Nat) (a1 : (Int × ((List Int) × ((List (Int × Int)) × (List Int))))) (a2 : Int) : Option ((Int × Int × Unit) × Unit) :=
  bif decide (a1.1 = 0) then
    none
  else
    let x2 : Int := ((wr .i64 ((wr .i64 (a2 + a1.1)) - 1)).tmod a1.1)
    some ((x2, a2, ()), ())
def ef68 : Entry := { id := 68, ar := { temps := [(0, .c (.dp (.pair (.int .i64) (.pair (.sl (.int .i64)) (.pair (.sl (.pair (.int .i64) (.int .i64))) (.sl (.int .i64))))))), (1, .c (.int .i64))], blocks := [], ren := [] }, res := { temps := [(0, .c (.int .i64)), (1, .c (.int .i64))], blocks := [], ren := [] }, f := fun k v => f68 k v.1.1 v.1.2.1 }
def gf68 (k : Nat) : Full := { tt := tt, n := 19, fns := [], trunc := [], tails := [], touch := [], opens := [], shapes := [], closes := [], k := k, glob := glob, cuts := [], joins := [] }
theorem qf68 (k : Nat) : AllP (bodyL (gf68 k) Try.f68) := by
  have h : True = AllP (bodyL (gf68 k) Try.f68) := by kernel_rfl
  exact Eq.mp h trivial
theorem sf68 : Sound Try.prog glob ef68 := sound_of base (fn := Try.f68) Try.func68 (by kernel_rfl) gf68 (fun _ => ⟨rfl, rfl⟩) (fun k j => trivial) qf68 (fun k v => by kernel_rfl)

/-! impl.cone).above -/
def f69 (k : Nat) (a1 : (Int × ((List Int) × ((List (Int × Int)) × (List Int))))) (a2 : Int) (a3 : Int) : Option ((Int × Unit) × Unit) :=
  (getI a1.2.2.2 (wr .i64 ((wr .i64 (a2 * a1.1)) + a3))).bind fun x2 =>
  some ((x2, ()), ())
def ef69 : Entry := { id := 69, ar := { temps := [(0, .c (.dp (.pair (.int .i64) (.pair (.sl (.int .i64)) (.pair (.sl (.pair (.int .i64) (.int .i64))) (.sl (.int .i64))))))), (1, .c (.int .i64)), (2, .c (.int .i64))], blocks := [], ren := [] }, res := { temps := [(0, .c (.int .i64))], blocks := [], ren := [] }, f := fun k v => f69 k v.1.1 v.1.2.1 v.1.2.2.1 }
def gf69 (k : Nat) : Full := { tt := tt, n := 21, fns := [], trunc := [], tails := [], touch := [], opens := [], shapes := [], closes := [], k := k, glob := glob, cuts := [], joins := [] }
theorem qf69 (k : Nat) : AllP (bodyL (gf69 k) Try.f69) := by
  have h : True = AllP (bodyL (gf69 k) Try.f69) := by kernel_rfl
  exact Eq.mp h trivial
theorem sf69 : Sound Try.prog glob ef69 := sound_of base (fn := Try.f69) Try.func69 (by kernel_rfl) gf69 (fun _ => ⟨rfl, rfl⟩) (fun k j => trivial) qf69 (fun k v => by kernel_rfl)

/-! impl.cone).kindOf -/
def f38_j5 {ρ : Type} (k : Nat) (v10 : Int) (nx : ((((Int × Unit) × Unit) → Option ρ) × Unit)) : Option ρ :=
  bif (v10 == 1) then
    nx.1 ((2, ()), ())
  else
    bif (v10 == (-1)) then
      nx.1 ((3, ()), ())
    else
      nx.1 ((0, ()), ())
def cf38_j5 : Cut := { sp := { temps := [(7, .c (.int .i64))], blocks := [], ren := [] }, outs := [(.ret, { temps := [(4, .c (.int .i64))], blocks := [], ren := [] })], F := fun ρ k v nx => f38_j5 k v.1.1 nx }
def f38 (k : Nat) (a1 : (Int × ((List Int) × ((List (Int × Int)) × (List Int))))) (a2 : Int) : Option ((Int × Unit) × Unit) :=
  (f68 k a1 a2).bind fun x6 =>
  (f69 k a1 x6.1.1 x6.1.2.1).bind fun x7 =>
  bif ((x6.1.2.1.tmod 2) == 0) then
    f38_j5 k (wr .i64 (0 - x7.1.1))
      (fun x8 : ((Int × Unit) × Unit) =>
        some ((x8.1.1, ()), ()),
      ())
  else
    f38_j5 k x7.1.1
      (fun x9 : ((Int × Unit) × Unit) =>
        some ((x9.1.1, ()), ()),
      ())
def ef38 : Entry := { id := 38, ar := { temps := [(0, .c (.dp (.pair (.int .i64) (.pair (.sl (.int .i64)) (.pair (.sl (.pair (.int .i64) (.int .i64))) (.sl (.int .i64))))))), (1, .c (.int .i64))], blocks := [], ren := [] }, res := { temps := [(0, .c (.int .i64))], blocks := [], ren := [] }, f := fun k v => f38 k v.1.1 v.1.2.1 }
def gf38 (k : Nat) : Full := { tt := tt, n := 28, fns := [ef68, ef69], trunc := [], tails := [], touch := [], opens := [], shapes := [], closes := [], k := k, glob := glob, cuts := [], joins := [(5, cf38_j5)] }
theorem of38_j5 (k : Nat) : JoinOk (gf38 k) cf38_j5 (theJoin Try.f38 5) := fun ρ v nx => by kernel_rfl
theorem qf38 (k : Nat) : AllP (bodyL (gf38 k) Try.f38) := by
  have h : (JoinOk (gf38 k) cf38_j5 (theJoin Try.f38 5) ∧ True) = AllP (bodyL (gf38 k) Try.f38) := by kernel_rfl
  exact Eq.mp h (And.intro (of38_j5 k) (trivial))
theorem sf38 : Sound Try.prog glob ef38 := sound_of base (fn := Try.f38) Try.func38 (by kernel_rfl) gf38 (fun _ => ⟨rfl, rfl⟩) (fun k j => ⟨sf68.at j, sf69.at j, trivial⟩) qf38 (fun k v => by kernel_rfl)

/-! impl.cone).isBetween -/
def f93 (k : Nat) (a1 : (Int × ((List Int) × ((List (Int × Int)) × (List Int))))) (a2 : Int) (a3 : Int) (a4 : Int) : Option ((Int × Unit) × Unit) :=
  (f69 k a1 a2 a3).bind fun x3 =>
  (f69 k a1 a2 a4).bind fun x4 =>
  some (((wr .i64 ((wr .i64 (0 - x3.1.1)) * x4.1.1)), ()), ())
def ef93 : Entry := { id := 93, ar := { temps := [(0, .c (.dp (.pair (.int .i64) (.pair (.sl (.int .i64)) (.pair (.sl (.pair (.int .i64) (.int .i64))) (.sl (.int .i64))))))), (1, .c (.int .i64)), (2, .c (.int .i64)), (3, .c (.int .i64))], blocks := [], ren := [] }, res := { temps := [(0, .c (.int .i64))], blocks := [], ren := [] }, f := fun k v => f93 k v.1.1 v.1.2.1 v.1.2.2.1 v.1.2.2.2.1 }
def gf93 (k : Nat) : Full := { tt := tt, n := 19, fns := [ef69], trunc := [], tails := [], touch := [], opens := [], shapes := [], closes := [], k := k, glob := glob, cuts := [], joins := [] }
theorem qf93 (k : Nat) : AllP (bodyL (gf93 k) Try.f93) := by
  have h : True = AllP (bodyL (gf93 k) Try.f93) := by kernel_rfl
  exact Eq.mp h trivial
theorem sf93 : Sound Try.prog glob ef93 := sound_of base (fn := Try.f93) Try.func93 (by kernel_rfl) gf93 (fun _ => ⟨rfl, rfl⟩) (fun k j => ⟨sf69.at j, trivial⟩) qf93 (fun k v => by kernel_rfl)

/-! impl.cone).isThrough -/
def f74 (k : Nat) (a1 : (Int × ((List Int) × ((List (Int × Int)) × (List Int))))) (a2 : Int) (a3 : Int) : Option ((Bool × Unit) × Unit) :=
  (f68 k a1 a3).bind fun x6 =>
  (getI a1.2.1 a3).bind fun x7 =>
  (getI a1.2.2.1 a2).bind fun x8 =>
  bif decide (0 ≤ 0) && decide (0 < (2 : Int)) then
    bif (decide (x8.1 < x7)) then
      (getI a1.2.2.1 a2).bind fun x9 =>
      bif decide (0 ≤ 1) && decide (1 < (2 : Int)) then
        bif (decide (x7 < x9.2)) then
          (f93 k a1 a2 x6.1.1 x6.1.2.1).bind fun x10 =>
          some (((decide (x10.1.1 > 0)), ()), ())
        else
          some ((false, ()), ())
      else
        none
    else
      some ((false, ()), ())
  else
    none
def ef74 : Entry := { id := 74, ar := { temps := [(0, .c (.dp (.pair (.int .i64) (.pair (.sl (.int .i64)) (.pair (.sl (.pair (.int .i64) (.int .i64))) (.sl (.int .i64))))))), (1, .c (.int .i64)), (2, .c (.int .i64))], blocks := [], ren := [] }, res := { temps := [(0, .c .bool)], blocks := [], ren := [] }, f := fun k v => f74 k v.1.1 v.1.2.1 v.1.2.2.1 }
def gf74 (k : Nat) : Full := { tt := tt, n := 53, fns := [ef68, ef93], trunc := [], tails := [], touch := [], opens := [], shapes := [], closes := [], k := k, glob := glob, cuts := [], joins := [] }
theorem qf74 (k : Nat) : AllP (bodyL (gf74 k) Try.f74) := by
  have h : True = AllP (bodyL (gf74 k) Try.f74) := by kernel_rfl
  exact Eq.mp h trivial
theorem sf74 : Sound Try.prog glob ef74 := sound_of base (fn := Try.f74) Try.func74 (by kernel_rfl) gf74 (fun _ => ⟨rfl, rfl⟩) (fun k j => ⟨sf68.at j, sf93.at j, trivial⟩) qf74 (fun k v => by kernel_rfl)

/-! impl.cone).isWoven -/
def f75 (k : Nat) (a1 : (Int × ((List Int) × ((List (Int × Int)) × (List Int))))) (a2 : Int) (a3 : Int) : Option ((Bool × Unit) × Unit) :=
  (f68 k a1 a2).bind fun x19 =>
  (f68 k a1 a3).bind fun x20 =>
  (getI a1.2.1 a2).bind fun x27 =>
  (getI a1.2.1 a3).bind fun x28 =>
  bif (x27 != x28) then
    some ((false, ()), ())
  else
    (getI a1.2.2.1 x19.1.1).bind fun x29 =>
    bif decide (0 ≤ 0) && decide (0 < (2 : Int)) then
      (getI a1.2.1 a2).bind fun x30 =>
      (getI a1.2.2.1 x20.1.1).bind fun x31 =>
      bif decide (0 ≤ 0) && decide (0 < (2 : Int)) then
        (getI a1.2.1 a3).bind fun x32 =>
        bif (!((x29.1 == x30) == (x31.1 == x32))) then
          some ((false, ()), ())
        else
          (f93 k a1 x20.1.1 x19.1.1 x19.1.2.1).bind fun x33 =>
          (f93 k a1 x20.1.2.1 x19.1.1 x19.1.2.1).bind fun x34 =>
          bif (decide ((wr .i64 (x33.1.1 * x34.1.1)) < 0)) then
            some ((true, ()), ())
          else
            (f93 k a1 x19.1.1 x20.1.1 x20.1.2.1).bind fun x35 =>
            (f93 k a1 x19.1.2.1 x20.1.1 x20.1.2.1).bind fun x36 =>
            some (((decide ((wr .i64 (x35.1.1 * x36.1.1)) < 0)), ()), ())
      else
        none
    else
      none
def ef75 : Entry := { id := 75, ar := { temps := [(0, .c (.dp (.pair (.int .i64) (.pair (.sl (.int .i64)) (.pair (.sl (.pair (.int .i64) (.int .i64))) (.sl (.int .i64))))))), (1, .c (.int .i64)), (2, .c (.int .i64))], blocks := [], ren := [] }, res := { temps := [(0, .c .bool)], blocks := [], ren := [] }, f := fun k v => f75 k v.1.1 v.1.2.1 v.1.2.2.1 }
def gf75 (k : Nat) : Full := { tt := tt, n := 99, fns := [ef68, ef93], trunc := [], tails := [], touch := [], opens := [], shapes := [], closes := [], k := k, glob := glob, cuts := [], joins := [] }
theorem qf75 (k : Nat) : AllP (bodyL (gf75 k) Try.f75) := by
  have h : True = AllP (bodyL (gf75 k) Try.f75) := by kernel_rfl
  exact Eq.mp h trivial
theorem sf75 : Sound Try.prog glob ef75 := sound_of base (fn := Try.f75) Try.func75 (by kernel_rfl) gf75 (fun _ => ⟨rfl, rfl⟩) (fun k j => ⟨sf68.at j, sf93.at j, trivial⟩) qf75 (fun k v => by kernel_rfl)

/-! impl.cone).isCycle -/
def f76 (k : Nat) (a1 : (Int × ((List Int) × ((List (Int × Int)) × (List Int))))) (a2 : Int) (a3 : Int) (a4 : Int) : Option ((Bool × Unit) × Unit) :=
  (f69 k a1 a2 a3).bind fun x5 =>
  bif (x5.1.1 != 0) then
    (f69 k a1 a3 a4).bind fun x6 =>
    bif (x6.1.1 == x5.1.1) then
      (f69 k a1 a4 a2).bind fun x7 =>
      bif (x7.1.1 == x5.1.1) then
        (f54 k a1 ([a2, a3, a4])).bind fun x8 =>
        some ((x8.1.1, ()), ())
      else
        some ((false, ()), ())
    else
      some ((false, ()), ())
  else
    some ((false, ()), ())
def ef76 : Entry := { id := 76, ar := { temps := [(0, .c (.dp (.pair (.int .i64) (.pair (.sl (.int .i64)) (.pair (.sl (.pair (.int .i64) (.int .i64))) (.sl (.int .i64))))))), (1, .c (.int .i64)), (2, .c (.int .i64)), (3, .c (.int .i64))], blocks := [], ren := [] }, res := { temps := [(0, .c .bool)], blocks := [], ren := [] }, f := fun k v => f76 k v.1.1 v.1.2.1 v.1.2.2.1 v.1.2.2.2.1 }
def gf76 (k : Nat) : Full := { tt := tt, n := 40, fns := [ef69, ef54], trunc := [], tails := [], touch := [], opens := [], shapes := [], closes := [], k := k, glob := glob, cuts := [], joins := [] }
theorem qf76 (k : Nat) : AllP (bodyL (gf76 k) Try.f76) := by
  have h : True = AllP (bodyL (gf76 k) Try.f76) := by kernel_rfl
  exact Eq.mp h trivial
theorem sf76 : Sound Try.prog glob ef76 := sound_of base (fn := Try.f76) Try.func76 (by kernel_rfl) gf76 (fun _ => ⟨rfl, rfl⟩) (fun k j => ⟨sf69.at j, sf54.at j, trivial⟩) qf76 (fun k v => by kernel_rfl)

/-! impl.cone).isGood -/
def f56_l13 {ρ : Type} (k : Nat) : Nat → (Int × ((List Int) × ((List (Int × Int)) × (List Int)))) → (List Int) → Int → Int → Int → Int → Int → Int → Int → Int → (((((Int × ((List Int) × ((List (Int × Int)) × (List Int)))) × (List Int) × Int × Int × Int × Int × Int × Unit) × Unit) → Option ρ) × (((Bool × Unit) × Unit) → Option ρ) × Unit) → Option ρ
  | 0, _, _, _, _, _, _, _, _, _, _, _ => none
  | j + 1, v64, v65, v66, v67, v68, v69, v70, v71, v72, v73, nx =>
    bif (decide (v73 < v72)) then
      (f76 k v64 v66 v67 v73).bind fun x74 =>
      bif x74.1.1 then
        nx.2.1 ((false, ()), ())
      else
        f56_l13 k j v64 v65 v66 v67 v68 v69 v70 v71 v72 (wr .i64 (v73 + 1)) nx
    else
      nx.1 ((v64, v65, v66, v68, v69, v70, v71, ()), ())
def cf56_l13 (k : Nat) : Cut := { sp := { temps := [(0, .c (.dp (.pair (.int .i64) (.pair (.sl (.int .i64)) (.pair (.sl (.pair (.int .i64) (.int .i64))) (.sl (.int .i64))))))), (1, .c (.sl (.int .i64))), (5, .c (.int .i64)), (7, .c (.int .i64)), (12, .c (.int .i64)), (13, .c (.int .i64)), (39, .c (.int .i64)), (40, .c (.int .i64)), (61, .c (.int .i64)), (62, .c (.int .i64))], blocks := [], ren := [] }, outs := [(.exit 4, { temps := [(0, .c (.dp (.pair (.int .i64) (.pair (.sl (.int .i64)) (.pair (.sl (.pair (.int .i64) (.int .i64))) (.sl (.int .i64))))))), (1, .c (.sl (.int .i64))), (5, .c (.int .i64)), (12, .c (.int .i64)), (13, .c (.int .i64)), (39, .c (.int .i64)), (40, .c (.int .i64))], blocks := [], ren := [] }), (.ret, { temps := [(4, .c .bool)], blocks := [], ren := [] })], F := fun ρ j v nx => f56_l13 k j v.1.1 v.1.2.1 v.1.2.2.1 v.1.2.2.2.1 v.1.2.2.2.2.1 v.1.2.2.2.2.2.1 v.1.2.2.2.2.2.2.1 v.1.2.2.2.2.2.2.2.1 v.1.2.2.2.2.2.2.2.2.1 v.1.2.2.2.2.2.2.2.2.2.1 nx }
def f56_j12 {ρ : Type} (k : Nat) (v108 : (Int × ((List Int) × ((List (Int × Int)) × (List Int))))) (v109 : (List Int)) (v110 : Int) (v111 : Int) (v112 : Int) (v113 : Int) (v114 : Int) (v115 : Int) (nx : (((((Int × ((List Int) × ((List (Int × Int)) × (List Int)))) × (List Int) × Int × Int × Int × Int × Int × Unit) × Unit) → Option ρ) × (((Bool × Unit) × Unit) → Option ρ) × Unit)) : Option ρ :=
  f56_l13 k k v108 v109 v110 v111 v112 v113 v114 v115 v108.1 0
    (fun x116 : (((Int × ((List Int) × ((List (Int × Int)) × (List Int)))) × (List Int) × Int × Int × Int × Int × Int × Unit) × Unit) =>
      nx.1 ((x116.1.1, x116.1.2.1, x116.1.2.2.1, x116.1.2.2.2.1, x116.1.2.2.2.2.1, x116.1.2.2.2.2.2.1, x116.1.2.2.2.2.2.2.1, ()), ()),
    fun x117 : ((Bool × Unit) × Unit) =>
      nx.2.1 ((x117.1.1, ()), ()),
    ())
def cf56_j12 : Cut := { sp := { temps := [(0, .c (.dp (.pair (.int .i64) (.pair (.sl (.int .i64)) (.pair (.sl (.pair (.int .i64) (.int .i64))) (.sl (.int .i64))))))), (1, .c (.sl (.int .i64))), (5, .c (.int .i64)), (7, .c (.int .i64)), (12, .c (.int .i64)), (13, .c (.int .i64)), (39, .c (.int .i64)), (40, .c (.int .i64))], blocks := [], ren := [] }, outs := [(.normal, { temps := [(0, .c (.dp (.pair (.int .i64) (.pair (.sl (.int .i64)) (.pair (.sl (.pair (.int .i64) (.int .i64))) (.sl (.int .i64))))))), (1, .c (.sl (.int .i64))), (5, .c (.int .i64)), (12, .c (.int .i64)), (13, .c (.int .i64)), (39, .c (.int .i64)), (40, .c (.int .i64))], blocks := [], ren := [] }), (.ret, { temps := [(4, .c .bool)], blocks := [], ren := [] })], F := fun ρ k v nx => f56_j12 k v.1.1 v.1.2.1 v.1.2.2.1 v.1.2.2.2.1 v.1.2.2.2.2.1 v.1.2.2.2.2.2.1 v.1.2.2.2.2.2.2.1 v.1.2.2.2.2.2.2.2.1 nx }
def f56_l8 {ρ : Type} (k : Nat) : Nat → (Int × ((List Int) × ((List (Int × Int)) × (List Int)))) → (List Int) → Int → Int → Int → Int → Int → (((((Int × ((List Int) × ((List (Int × Int)) × (List Int)))) × (List Int) × Int × Int × Unit) × Unit) → Option ρ) × (((Bool × Unit) × Unit) → Option ρ) × Unit) → Option ρ
  | 0, _, _, _, _, _, _, _, _ => none
  | j + 1, v75, v76, v77, v78, v79, v80, v81, nx =>
    bif (decide (v81 < v80)) then
      (f74 k v75 v77 v81).bind fun x82 =>
      bif x82.1.1 then
        nx.2.1 ((false, ()), ())
      else
        bif (v77 != v81) then
          (f75 k v75 v77 v81).bind fun x83 =>
          bif x83.1.1 then
            nx.2.1 ((false, ()), ())
          else
            f56_j12 k v75 v76 v77 v81 v78 v79 v80 v81
              (fun x84 : (((Int × ((List Int) × ((List (Int × Int)) × (List Int)))) × (List Int) × Int × Int × Int × Int × Int × Unit) × Unit) =>
                f56_l8 k j x84.1.1 x84.1.2.1 x84.1.2.2.1 x84.1.2.2.2.1 x84.1.2.2.2.2.1 x84.1.2.2.2.2.2.1 (wr .i64 (x84.1.2.2.2.2.2.2.1 + 1)) nx,
              fun x85 : ((Bool × Unit) × Unit) =>
                nx.2.1 ((x85.1.1, ()), ()),
              ())
        else
          f56_j12 k v75 v76 v77 v81 v78 v79 v80 v81
            (fun x86 : (((Int × ((List Int) × ((List (Int × Int)) × (List Int)))) × (List Int) × Int × Int × Int × Int × Int × Unit) × Unit) =>
              f56_l8 k j x86.1.1 x86.1.2.1 x86.1.2.2.1 x86.1.2.2.2.1 x86.1.2.2.2.2.1 x86.1.2.2.2.2.2.1 (wr .i64 (x86.1.2.2.2.2.2.2.1 + 1)) nx,
            fun x87 : ((Bool × Unit) × Unit) =>
              nx.2.1 ((x87.1.1, ()), ()),
            ())
    else
      nx.1 ((v75, v76, v78, v79, ()), ())
def cf56_l8 (k : Nat) : Cut := { sp := { temps := [(0, .c (.dp (.pair (.int .i64) (.pair (.sl (.int .i64)) (.pair (.sl (.pair (.int .i64) (.int .i64))) (.sl (.int .i64))))))), (1, .c (.sl (.int .i64))), (5, .c (.int .i64)), (12, .c (.int .i64)), (13, .c (.int .i64)), (39, .c (.int .i64)), (40, .c (.int .i64))], blocks := [], ren := [] }, outs := [(.exit 2, { temps := [(0, .c (.dp (.pair (.int .i64) (.pair (.sl (.int .i64)) (.pair (.sl (.pair (.int .i64) (.int .i64))) (.sl (.int .i64))))))), (1, .c (.sl (.int .i64))), (12, .c (.int .i64)), (13, .c (.int .i64))], blocks := [], ren := [] }), (.ret, { temps := [(4, .c .bool)], blocks := [], ren := [] })], F := fun ρ j v nx => f56_l8 k j v.1.1 v.1.2.1 v.1.2.2.1 v.1.2.2.2.1 v.1.2.2.2.2.1 v.1.2.2.2.2.2.1 v.1.2.2.2.2.2.2.1 nx }
def f56_j7 {ρ : Type} (k : Nat) (v101 : (Int × ((List Int) × ((List (Int × Int)) × (List Int))))) (v102 : (List Int)) (v103 : Int) (v104 : Int) (v105 : Int) (nx : (((((Int × ((List Int) × ((List (Int × Int)) × (List Int)))) × (List Int) × Int × Int × Unit) × Unit) → Option ρ) × (((Bool × Unit) × Unit) → Option ρ) × Unit)) : Option ρ :=
  f56_l8 k k v101 v102 v103 v104 v105 v101.1 0
    (fun x106 : (((Int × ((List Int) × ((List (Int × Int)) × (List Int)))) × (List Int) × Int × Int × Unit) × Unit) =>
      nx.1 ((x106.1.1, x106.1.2.1, x106.1.2.2.1, x106.1.2.2.2.1, ()), ()),
    fun x107 : ((Bool × Unit) × Unit) =>
      nx.2.1 ((x107.1.1, ()), ()),
    ())
def cf56_j7 : Cut := { sp := { temps := [(0, .c (.dp (.pair (.int .i64) (.pair (.sl (.int .i64)) (.pair (.sl (.pair (.int .i64) (.int .i64))) (.sl (.int .i64))))))), (1, .c (.sl (.int .i64))), (5, .c (.int .i64)), (12, .c (.int .i64)), (13, .c (.int .i64))], blocks := [], ren := [] }, outs := [(.normal, { temps := [(0, .c (.dp (.pair (.int .i64) (.pair (.sl (.int .i64)) (.pair (.sl (.pair (.int .i64) (.int .i64))) (.sl (.int .i64))))))), (1, .c (.sl (.int .i64))), (12, .c (.int .i64)), (13, .c (.int .i64))], blocks := [], ren := [] }), (.ret, { temps := [(4, .c .bool)], blocks := [], ren := [] })], F := fun ρ k v nx => f56_j7 k v.1.1 v.1.2.1 v.1.2.2.1 v.1.2.2.2.1 v.1.2.2.2.2.1 nx }
def f56_l2 {ρ : Type} (k : Nat) : Nat → (Int × ((List Int) × ((List (Int × Int)) × (List Int)))) → (List Int) → Int → Int → (((Unit × Unit) → Option ρ) × (((Bool × Unit) × Unit) → Option ρ) × Unit) → Option ρ
  | 0, _, _, _, _, _ => none
  | j + 1, v88, v89, v90, v91, nx =>
    bif (decide (v91 < v90)) then
      (f38 k v88 v91).bind fun x92 =>
      (getI v89 v91).bind fun x93 =>
      bif (x93 != 4) then
        bif (x92.1.1 != 0) then
          (getI v89 v91).bind fun x94 =>
          bif (x92.1.1 != x94) then
            nx.2.1 ((false, ()), ())
          else
            f56_j7 k v88 v89 v91 v90 v91
              (fun x95 : (((Int × ((List Int) × ((List (Int × Int)) × (List Int)))) × (List Int) × Int × Int × Unit) × Unit) =>
                f56_l2 k j x95.1.1 x95.1.2.1 x95.1.2.2.1 (wr .i64 (x95.1.2.2.2.1 + 1)) nx,
              fun x96 : ((Bool × Unit) × Unit) =>
                nx.2.1 ((x96.1.1, ()), ()),
              ())
        else
          f56_j7 k v88 v89 v91 v90 v91
            (fun x97 : (((Int × ((List Int) × ((List (Int × Int)) × (List Int)))) × (List Int) × Int × Int × Unit) × Unit) =>
              f56_l2 k j x97.1.1 x97.1.2.1 x97.1.2.2.1 (wr .i64 (x97.1.2.2.2.1 + 1)) nx,
            fun x98 : ((Bool × Unit) × Unit) =>
              nx.2.1 ((x98.1.1, ()), ()),
            ())
      else
        f56_j7 k v88 v89 v91 v90 v91
          (fun x99 : (((Int × ((List Int) × ((List (Int × Int)) × (List Int)))) × (List Int) × Int × Int × Unit) × Unit) =>
            f56_l2 k j x99.1.1 x99.1.2.1 x99.1.2.2.1 (wr .i64 (x99.1.2.2.2.1 + 1)) nx,
          fun x100 : ((Bool × Unit) × Unit) =>
            nx.2.1 ((x100.1.1, ()), ()),
          ())
    else
      nx.1 ((), ())
def cf56_l2 (k : Nat) : Cut := { sp := { temps := [(0, .c (.dp (.pair (.int .i64) (.pair (.sl (.int .i64)) (.pair (.sl (.pair (.int .i64) (.int .i64))) (.sl (.int .i64))))))), (1, .c (.sl (.int .i64))), (12, .c (.int .i64)), (13, .c (.int .i64))], blocks := [], ren := [] }, outs := [(.exit 0, { temps := [], blocks := [], ren := [] }), (.ret, { temps := [(4, .c .bool)], blocks := [], ren := [] })], F := fun ρ j v nx => f56_l2 k j v.1.1 v.1.2.1 v.1.2.2.1 v.1.2.2.2.1 nx }
def f56 (k : Nat) (a1 : (Int × ((List Int) × ((List (Int × Int)) × (List Int))))) (a2 : (List Int)) : Option ((Bool × Unit) × Unit) :=
  f56_l2 k k a1 a2 a1.1 0
    (fun x62 : (Unit × Unit) =>
      some ((true, ()), ()),
    fun x63 : ((Bool × Unit) × Unit) =>
      some ((x63.1.1, ()), ()),
    ())
def ef56 : Entry := { id := 56, ar := { temps := [(0, .c (.dp (.pair (.int .i64) (.pair (.sl (.int .i64)) (.pair (.sl (.pair (.int .i64) (.int .i64))) (.sl (.int .i64))))))), (1, .c (.sl (.int .i64)))], blocks := [], ren := [] }, res := { temps := [(0, .c .bool)], blocks := [], ren := [] }, f := fun k v => f56 k v.1.1 v.1.2.1 }
def gf56 (k : Nat) : Full := { tt := tt, n := 73, fns := [ef38, ef74, ef75, ef76], trunc := [], tails := [], touch := [], opens := [], shapes := [], closes := [], k := k, glob := glob, cuts := [(13, (cf56_l13 k)), (8, (cf56_l8 k)), (2, (cf56_l2 k))], joins := [(12, cf56_j12), (7, cf56_j7)] }
theorem of56_l13 (k : Nat) : CutOk (gf56 k) (cf56_l13 k) (theLoop Try.f56 13) := fun ρ v nx => ⟨by kernel_rfl, fun j => by kernel_rfl⟩
theorem of56_j12 (k : Nat) : JoinOk (gf56 k) cf56_j12 (theJoin Try.f56 12) := fun ρ v nx => by kernel_rfl
theorem of56_l8 (k : Nat) : CutOk (gf56 k) (cf56_l8 k) (theLoop Try.f56 8) := fun ρ v nx => ⟨by kernel_rfl, fun j => by kernel_rfl⟩
theorem of56_j7 (k : Nat) : JoinOk (gf56 k) cf56_j7 (theJoin Try.f56 7) := fun ρ v nx => by kernel_rfl
theorem of56_l2 (k : Nat) : CutOk (gf56 k) (cf56_l2 k) (theLoop Try.f56 2) := fun ρ v nx => ⟨by kernel_rfl, fun j => by kernel_rfl⟩
theorem qf56 (k : Nat) : AllP (bodyL (gf56 k) Try.f56) := by
  have h : (CutOk (gf56 k) (cf56_l13 k) (theLoop Try.f56 13) ∧ JoinOk (gf56 k) cf56_j12 (theJoin Try.f56 12) ∧ CutOk (gf56 k) (cf56_l8 k) (theLoop Try.f56 8) ∧ JoinOk (gf56 k) cf56_j7 (theJoin Try.f56 7) ∧ CutOk (gf56 k) (cf56_l2 k) (theLoop Try.f56 2) ∧ True) = AllP (bodyL (gf56 k) Try.f56) := by kernel_rfl
  exact Eq.mp h (And.intro (of56_l13 k) (And.intro (of56_j12 k) (And.intro (of56_l8 k) (And.intro (of56_j7 k) (And.intro (of56_l2 k) (trivial))))))
theorem sf56 : Sound Try.prog glob ef56 := sound_of base (fn := Try.f56) Try.func56 (by kernel_rfl) gf56 (fun _ => ⟨rfl, rfl⟩) (fun k j => ⟨sf38.at j, sf74.at j, sf75.at j, sf76.at j, trivial⟩) qf56 (fun k v => by kernel_rfl)

/-! impl.goodOrders$1 -/
def f53_l0 {ρ : Type} (self : Int → Int → (List Int) → Int → (List Int) → Int → (List (List Int)) → (List Int) → (List (Int × Int)) → (List Int) → Option (Unit × ((Unit × Unit) × (Unit × Unit) × ((((((Unit × Int) × Unit) × Unit) × (List Int)) × Unit) × Unit) × (Int × Unit × Unit × Unit × Unit) × (List Int) × (List (Int × Int)) × (List Int) × (List (List Int)) × Unit))) (k : Nat) : Nat → Int → Int → (List Int) → Int → (List Int) → Int → (List (List Int)) → (List Int) → (List (Int × Int)) → (List Int) → ((((Int × Int × Unit × Unit × (List Int) × Unit × Unit) × ((Unit × Unit) × (Unit × Unit) × ((((((Unit × Int) × Unit) × Unit) × (List Int)) × Unit) × Unit) × (Int × Unit × Unit × Unit × Unit) × (List (List Int)) × (List Int) × (List (Int × Int)) × (List Int) × Unit)) → Option ρ) × Unit) → Option ρ
  | 0, _, _, _, _, _, _, _, _, _, _, _ => none
  | j + 1, v77, v78, v79, v80, v81, v82, v83, v84, v85, v86, nx =>
    bif (decide (v77 < (wr .i64 (v78 * v78)))) then
      bif decide (v78 = 0) then
        none
      else
        bif decide (v78 = 0) then
          none
        else
          let x87 : Bool := (decide ((wr .i64 (v77.tdiv v78)) ≥ (v77.tmod v78)))
          bif x87 then
            f53_l0 self k j (wr .i64 (v77 + 1)) v78 v79 v80 v81 v82 v83 v84 v85 v86 nx
          else
            bif decide (v78 = 0) then
              none
            else
              bif decide (v78 = 0) then
                none
              else
                (f54 k (v82, (v84, (v85, v86))) ([(wr .i64 (v77.tdiv v78)), (v77.tmod v78)])).bind fun x88 =>
                bif (!x88.1.1) then
                  f53_l0 self k j (wr .i64 (v77 + 1)) v78 v79 v80 v81 v82 v83 v84 v85 v86 nx
                else
                  nx.1 ((v77, v78, (), (), v79, (), ()), (((), ()), ((), ()), (((((((), v80), ()), ()), v81), ()), ()), (v82, (), (), (), ()), v83, v84, v85, v86, ()))
    else
      nx.1 ((v77, v78, (), (), v79, (), ()), (((), ()), ((), ()), (((((((), v80), ()), ()), v81), ()), ()), (v82, (), (), (), ()), v83, v84, v85, v86, ()))
def cf53_l0 (self : Int → Int → (List Int) → Int → (List Int) → Int → (List (List Int)) → (List Int) → (List (Int × Int)) → (List Int) → Option (Unit × ((Unit × Unit) × (Unit × Unit) × ((((((Unit × Int) × Unit) × Unit) × (List Int)) × Unit) × Unit) × (Int × Unit × Unit × Unit × Unit) × (List Int) × (List (Int × Int)) × (List Int) × (List (List Int)) × Unit))) (k : Nat) : Cut := { sp := { temps := [(0, .c (.int .i64)), (1, .c (.dp (.int .i64))), (2, .c (.lit (.ptr 3000000 0 0 0))), (3, .c (.lit (.ptr 3000001 0 0 0))), (4, .c (.dp (.sl (.int .i64)))), (5, .c (.lit (.ptr 3000002 0 0 0)))], blocks := [(3000000, .box 51 [(.lit (.ptr 3000003 0 0 0))]), (3000001, .box 23 [(.lit (.row 3000004))]), (3000002, .box 63 [(.cap (.cap (.cap (.cap (.cap (.lit (.fn 53)) (.dp (.int .i64))) (.lit (.ptr 3000000 0 0 0))) (.lit (.ptr 3000001 0 0 0))) (.dp (.sl (.int .i64)))) (.lit (.ptr 3000002 0 0 0)))]), (3000003, .box 67 [(.int .i64), (.lit (.row 3000005)), (.lit (.row 3000006)), (.lit (.row 3000007))]), (3000004, .own 22 (.s 2 (.d (.int .i64)))), (3000005, .row 2 (.int .i64)), (3000006, .row 80 (.pair (.int .i64) (.int .i64))), (3000007, .row 2 (.int .i64))], ren := [(3000000, some 3000000), (3000001, some 3000001), (3000002, some 3000002), (3000003, some 3000003), (3000004, some 3000004), (3000005, some 3000005), (3000006, some 3000006), (3000007, some 3000007)] }, outs := [(.exit 0, { temps := [(0, .c (.int .i64)), (1, .c (.dp (.int .i64))), (2, .c (.lit (.ptr 3000000 0 0 0))), (3, .c (.lit (.ptr 3000001 0 0 0))), (4, .c (.dp (.sl (.int .i64)))), (5, .c (.lit (.ptr 3000002 0 0 0)))], blocks := [(3000000, .box 51 [(.lit (.ptr 3000003 0 0 0))]), (3000001, .box 23 [(.lit (.row 3000004))]), (3000002, .box 63 [(.cap (.cap (.cap (.cap (.cap (.lit (.fn 53)) (.dp (.int .i64))) (.lit (.ptr 3000000 0 0 0))) (.lit (.ptr 3000001 0 0 0))) (.dp (.sl (.int .i64)))) (.lit (.ptr 3000002 0 0 0)))]), (3000003, .box 67 [(.int .i64), (.lit (.row 3000005)), (.lit (.row 3000006)), (.lit (.row 3000007))]), (3000004, .own 22 (.s 2 (.d (.int .i64)))), (3000005, .row 2 (.int .i64)), (3000006, .row 80 (.pair (.int .i64) (.int .i64))), (3000007, .row 2 (.int .i64))], ren := [(3000000, some 3000000), (3000001, some 3000001), (3000002, some 3000002), (3000003, some 3000003), (3000004, some 3000004), (3000005, some 3000005), (3000006, some 3000006), (3000007, some 3000007)] })], F := fun ρ j v nx => f53_l0 self k j v.1.1 v.1.2.1 v.1.2.2.2.2.1 v.2.2.2.1.1.1.1.1.1.2 v.2.2.2.1.1.1.2 v.2.2.2.2.1.1 v.2.2.2.2.2.1 v.2.2.2.2.2.2.1 v.2.2.2.2.2.2.2.1 v.2.2.2.2.2.2.2.2.1 nx }
def f53_l6 {ρ : Type} (self : Int → Int → (List Int) → Int → (List Int) → Int → (List (List Int)) → (List Int) → (List (Int × Int)) → (List Int) → Option (Unit × ((Unit × Unit) × (Unit × Unit) × ((((((Unit × Int) × Unit) × Unit) × (List Int)) × Unit) × Unit) × (Int × Unit × Unit × Unit × Unit) × (List Int) × (List (Int × Int)) × (List Int) × (List (List Int)) × Unit))) (k : Nat) : Nat → Int → Int → (List Int) → Int → Int → Int → Int → (List Int) → Int → (List Int) → (List (Int × Int)) → (List Int) → (List (List Int)) → ((((Int × Unit × Int × Int × Unit) × ((Unit × Unit) × (Unit × Unit) × ((((((Unit × Int) × Unit) × Unit) × (List Int)) × Unit) × Unit) × (Int × Unit × Unit × Unit × Unit) × (List Int) × (List (Int × Int)) × (List Int) × (List (List Int)) × Unit)) → Option ρ) × Unit) → Option ρ
  | 0, _, _, _, _, _, _, _, _, _, _, _, _, _, _ => none
  | j + 1, v89, v90, v91, v92, v93, v94, v95, v96, v97, v98, v99, v100, v101, nx =>
    bif (decide (v94 ≤ 1)) then
      bif (decide ((v101.length : Int) ≤ 400)) then
        bif decide (0 ≤ (wr .i64 ((wr .i64 (v92 * v90)) + v93))) && decide ((wr .i64 ((wr .i64 (v92 * v90)) + v93)) < (v100.length : Int)) then
          (v100[(wr .i64 ((wr .i64 (v92 * v90)) + v93)).toNat]?).bind fun _ =>
          let x103 : (List Int) := (v100.set (wr .i64 ((wr .i64 (v92 * v90)) + v93)).toNat v94)
          bif decide (0 ≤ (wr .i64 ((wr .i64 (v93 * v90)) + v92))) && decide ((wr .i64 ((wr .i64 (v93 * v90)) + v92)) < (x103.length : Int)) then
            (x103[(wr .i64 ((wr .i64 (v93 * v90)) + v92)).toNat]?).bind fun _ =>
            let x105 : (List Int) := (x103.set (wr .i64 ((wr .i64 (v93 * v90)) + v92)).toNat (wr .i64 (0 - v94)))
            (f56 k (v97, (v98, (v99, x105))) v91).bind fun x106 =>
            bif x106.1.1 then
              (self (wr .i64 (v89 + 1)) v95 v96 v95 v96 v97 v101 v98 v99 x105).bind fun x107 =>
              f53_l6 self k j v89 v90 v91 v92 v93 (wr .i64 (v94 + 2)) x107.2.2.2.1.1.1.1.1.1.2 x107.2.2.2.1.1.1.2 x107.2.2.2.2.1.1 x107.2.2.2.2.2.1 x107.2.2.2.2.2.2.1 x107.2.2.2.2.2.2.2.1 x107.2.2.2.2.2.2.2.2.1 nx
            else
              f53_l6 self k j v89 v90 v91 v92 v93 (wr .i64 (v94 + 2)) v95 v96 v97 v98 v99 x105 v101 nx
          else
            none
        else
          none
      else
        nx.1 ((v90, (), v92, v93, ()), (((), ()), ((), ()), (((((((), v95), ()), ()), v96), ()), ()), (v97, (), (), (), ()), v98, v99, v100, v101, ()))
    else
      nx.1 ((v90, (), v92, v93, ()), (((), ()), ((), ()), (((((((), v95), ()), ()), v96), ()), ()), (v97, (), (), (), ()), v98, v99, v100, v101, ()))
def cf53_l6 (self : Int → Int → (List Int) → Int → (List Int) → Int → (List (List Int)) → (List Int) → (List (Int × Int)) → (List Int) → Option (Unit × ((Unit × Unit) × (Unit × Unit) × ((((((Unit × Int) × Unit) × Unit) × (List Int)) × Unit) × Unit) × (Int × Unit × Unit × Unit × Unit) × (List Int) × (List (Int × Int)) × (List Int) × (List (List Int)) × Unit))) (k : Nat) : Cut := { sp := { temps := [(0, .c (.int .i64)), (1, .c (.dp (.int .i64))), (2, .c (.lit (.ptr 3000000 0 0 0))), (3, .c (.lit (.ptr 3000001 0 0 0))), (4, .c (.dp (.sl (.int .i64)))), (5, .c (.lit (.ptr 3000002 0 0 0))), (7, .c (.int .i64)), (8, .c (.int .i64)), (9, .c (.int .i64))], blocks := [(3000000, .box 51 [(.lit (.ptr 3000003 0 0 0))]), (3000001, .box 23 [(.row 5000000)]), (3000002, .box 63 [(.cap (.cap (.cap (.cap (.cap (.lit (.fn 53)) (.dp (.int .i64))) (.lit (.ptr 3000000 0 0 0))) (.lit (.ptr 3000001 0 0 0))) (.dp (.sl (.int .i64)))) (.lit (.ptr 3000002 0 0 0)))]), (3000003, .box 67 [(.int .i64), (.lit (.row 3000005)), (.lit (.row 3000006)), (.lit (.row 3000007))]), (3000005, .row 2 (.int .i64)), (3000006, .row 80 (.pair (.int .i64) (.int .i64))), (3000007, .row 2 (.int .i64)), (5000000, .own 22 (.s 2 (.d (.int .i64))))], ren := [(3000000, some 3000000), (3000001, some 3000001), (3000002, some 3000002), (3000003, some 3000003), (3000005, some 3000005), (3000006, some 3000006), (3000007, some 3000007)] }, outs := [(.exit 2, { temps := [(1, .c (.dp (.int .i64))), (2, .c (.lit (.ptr 3000000 0 0 0))), (7, .c (.int .i64)), (8, .c (.int .i64))], blocks := [(3000000, .box 51 [(.lit (.ptr 3000003 0 0 0))]), (3000001, .box 23 [(.row 5000000)]), (3000002, .box 63 [(.cap (.cap (.cap (.cap (.cap (.lit (.fn 53)) (.dp (.int .i64))) (.lit (.ptr 3000000 0 0 0))) (.lit (.ptr 3000001 0 0 0))) (.dp (.sl (.int .i64)))) (.lit (.ptr 3000002 0 0 0)))]), (3000003, .box 67 [(.int .i64), (.lit (.row 3000005)), (.lit (.row 3000006)), (.lit (.row 3000007))]), (3000005, .row 2 (.int .i64)), (3000006, .row 80 (.pair (.int .i64) (.int .i64))), (3000007, .row 2 (.int .i64)), (5000000, .own 22 (.s 2 (.d (.int .i64))))], ren := [(3000000, some 3000000), (3000001, some 3000001), (3000002, some 3000002), (3000003, some 3000003), (3000005, some 3000005), (3000006, some 3000006), (3000007, some 3000007)] })], F := fun ρ j v nx => f53_l6 self k j v.1.1 v.1.2.1 v.1.2.2.2.2.1 v.1.2.2.2.2.2.2.1 v.1.2.2.2.2.2.2.2.1 v.1.2.2.2.2.2.2.2.2.1 v.2.2.2.1.1.1.1.1.1.2 v.2.2.2.1.1.1.2 v.2.2.2.2.1.1 v.2.2.2.2.2.1 v.2.2.2.2.2.2.1 v.2.2.2.2.2.2.2.1 v.2.2.2.2.2.2.2.2.1 nx }
def f53 : Nat → Int → Int → (List Int) → Int → (List Int) → Int → (List (List Int)) → (List Int) → (List (Int × Int)) → (List Int) → Option (Unit × ((Unit × Unit) × (Unit × Unit) × ((((((Unit × Int) × Unit) × Unit) × (List Int)) × Unit) × Unit) × (Int × Unit × Unit × Unit × Unit) × (List Int) × (List (Int × Int)) × (List Int) × (List (List Int)) × Unit))
  | 0, _, _, _, _, _, _, _, _, _, _ => none
  | k + 1, a1, a2, a3, a4, a5, a6, a7, a8, a9, a10 =>
    f53_l0 (f53 k) k k a1 a2 a3 a4 a5 a6 a7 a8 a9 a10
      (fun x65 : ((Int × Int × Unit × Unit × (List Int) × Unit × Unit) × ((Unit × Unit) × (Unit × Unit) × ((((((Unit × Int) × Unit) × Unit) × (List Int)) × Unit) × Unit) × (Int × Unit × Unit × Unit × Unit) × (List (List Int)) × (List Int) × (List (Int × Int)) × (List Int) × Unit)) =>
        let x68 : Bool := (x65.1.1 == (wr .i64 (x65.1.2.1 * x65.1.2.1)))
        bif x68 then
          (f55 k x65.2.2.2.2.2.2.2.2.1).bind fun x69 =>
          bif decide ((x65.2.2.2.2.2.1.length + [x69.2.1].length) * 24 ≤ roomy) then
            some ((), (((), ()), ((), ()), (((((((), x65.2.2.2.1.1.1.1.1.1.2), ()), ()), x65.2.2.2.1.1.1.2), ()), ()), (x65.2.2.2.2.1.1, (), (), (), ()), x65.2.2.2.2.2.2.1, x65.2.2.2.2.2.2.2.1, x65.2.2.2.2.2.2.2.2.1, (x65.2.2.2.2.2.1 ++ [x69.2.1]), ()))
          else
            none
        else
          bif decide (x65.1.2.1 = 0) then
            none
          else
            bif decide (x65.1.2.1 = 0) then
              none
            else
              f53_l6 (f53 k) k k x65.1.1 x65.1.2.1 x65.1.2.2.2.2.1 (wr .i64 (x65.1.1.tdiv x65.1.2.1)) (x65.1.1.tmod x65.1.2.1) (-1) x65.2.2.2.1.1.1.1.1.1.2 x65.2.2.2.1.1.1.2 x65.2.2.2.2.1.1 x65.2.2.2.2.2.2.1 x65.2.2.2.2.2.2.2.1 x65.2.2.2.2.2.2.2.2.1 x65.2.2.2.2.2.1
                (fun x71 : ((Int × Unit × Int × Int × Unit) × ((Unit × Unit) × (Unit × Unit) × ((((((Unit × Int) × Unit) × Unit) × (List Int)) × Unit) × Unit) × (Int × Unit × Unit × Unit × Unit) × (List Int) × (List (Int × Int)) × (List Int) × (List (List Int)) × Unit)) =>
                  let x72 : Int := (wr .i64 ((wr .i64 (x71.1.2.2.1 * x71.1.1)) + x71.1.2.2.2.1))
                  let x73 : Int := (wr .i64 ((wr .i64 (x71.1.2.2.2.1 * x71.1.1)) + x71.1.2.2.1))
                  bif decide (0 ≤ x72) && decide (x72 < (x71.2.2.2.2.2.2.2.1.length : Int)) then
                    (x71.2.2.2.2.2.2.2.1[x72.toNat]?).bind fun _ =>
                    bif decide (0 ≤ x73) && decide (x73 < ((x71.2.2.2.2.2.2.2.1.set x72.toNat 0).length : Int)) then
                      ((x71.2.2.2.2.2.2.2.1.set x72.toNat 0)[x73.toNat]?).bind fun _ =>
                      let x76 : (List Int) := ((x71.2.2.2.2.2.2.2.1.set x72.toNat 0).set x73.toNat 0)
                      some ((), (((), ()), ((), ()), (((((((), x71.2.2.2.1.1.1.1.1.1.2), ()), ()), x71.2.2.2.1.1.1.2), ()), ()), (x71.2.2.2.2.1.1, (), (), (), ()), x71.2.2.2.2.2.1, x71.2.2.2.2.2.2.1, x76, x71.2.2.2.2.2.2.2.2.1, ()))
                    else
                      none
                  else
                    none,
                ()),
      ())
def ef53 : Entry := { id := 53, ar := { temps := [(0, .c (.int .i64)), (1, .c (.dp (.int .i64))), (2, .c (.box 3000000)), (3, .c (.box 3000001)), (4, .c (.dp (.sl (.int .i64)))), (5, .c (.box 3000002))], blocks := [(3000000, .box 51 [(.box 3000003)]), (3000001, .box 23 [(.row 3000004)]), (3000002, .box 63 [(.cap (.cap (.cap (.cap (.cap (.lit (.fn 53)) (.dp (.int .i64))) (.lit (.ptr 3000000 0 0 0))) (.lit (.ptr 3000001 0 0 0))) (.dp (.sl (.int .i64)))) (.lit (.ptr 3000002 0 0 0)))]), (3000003, .box 67 [(.int .i64), (.row 3000005), (.row 3000006), (.row 3000007)]), (3000004, .own 22 (.s 2 (.d (.int .i64)))), (3000005, .row 2 (.int .i64)), (3000006, .row 80 (.pair (.int .i64) (.int .i64))), (3000007, .row 2 (.int .i64))], ren := [] }, res := { temps := [], blocks := [(3000000, .box 51 [(.lit (.ptr 3000003 0 0 0))]), (3000001, .box 23 [(.row 4000000)]), (3000002, .box 63 [(.cap (.cap (.cap (.cap (.cap (.lit (.fn 53)) (.dp (.int .i64))) (.lit (.ptr 3000000 0 0 0))) (.lit (.ptr 3000001 0 0 0))) (.dp (.sl (.int .i64)))) (.lit (.ptr 3000002 0 0 0)))]), (3000003, .box 67 [(.int .i64), (.lit (.row 3000005)), (.lit (.row 3000006)), (.lit (.row 3000007))]), (3000005, .row 2 (.int .i64)), (3000006, .row 80 (.pair (.int .i64) (.int .i64))), (3000007, .row 2 (.int .i64)), (4000000, .own 22 (.s 2 (.d (.int .i64))))], ren := [(3000000, some 3000000), (3000001, some 3000001), (3000002, some 3000002), (3000003, some 3000003), (3000005, some 3000005), (3000006, some 3000006), (3000007, some 3000007)] }, f := fun k v => f53 k v.1.1 v.1.2.1 v.1.2.2.2.2.1 v.2.2.2.1.1.1.1.1.1.2 v.2.2.2.1.1.1.2 v.2.2.2.2.1.1 v.2.2.2.2.2.1 v.2.2.2.2.2.2.1 v.2.2.2.2.2.2.2.1 v.2.2.2.2.2.2.2.2.1 }
def gf53 (k : Nat) : Full := { tt := tt, n := 116, fns := [ef54, ef55b, ef56, ef53], trunc := [], tails := [], touch := [(3, [(6, [2004800]), (7, [49, 3000004]), (8, [3000001])]), (8, [(22, [3000007]), (24, [3000007])]), (11, [(19, [3000007]), (21, [3000007])])], opens := [], shapes := [(49, (.s 2 (.d (.int .i64)))), (50, (.s 2 (.d (.int .i64))))], closes := [], k := k, glob := glob, cuts := [(0, (cf53_l0 (f53 k) k)), (6, (cf53_l6 (f53 k) k))], joins := [] }
theorem of53_l0 (k : Nat) : CutOk (gf53 k) (cf53_l0 (f53 k) k) (theLoop Try.f53 0) := fun ρ v nx => ⟨by kernel_rfl, fun j => by kernel_rfl⟩
theorem of53_l6 (k : Nat) : CutOk (gf53 k) (cf53_l6 (f53 k) k) (theLoop Try.f53 6) := fun ρ v nx => ⟨by kernel_rfl, fun j => by kernel_rfl⟩
theorem qf53 (k : Nat) : AllP (bodyL (gf53 k) Try.f53) := by
  have h : (CutOk (gf53 k) (cf53_l0 (f53 k) k) (theLoop Try.f53 0) ∧ CutOk (gf53 k) (cf53_l6 (f53 k) k) (theLoop Try.f53 6) ∧ True) = AllP (bodyL (gf53 k) Try.f53) := by kernel_rfl
  exact Eq.mp h (And.intro (of53_l0 k) (And.intro (of53_l6 k) (trivial)))
theorem sf53 : Sound Try.prog glob ef53 := sound_rec base (fn := Try.f53) Try.func53 (by kernel_rfl) gf53 (fun _ => ⟨rfl, rfl, rfl⟩) (fun k j h => ⟨sf54.at j, sf55b.at j, sf56.at j, h, trivial⟩) qf53 (fun v => by kernel_rfl) (fun k v => by kernel_rfl)

/-! impl.goodOrders -/
def f28 (k : Nat) (a1 : (List Int)) (a2 : (List Int)) : Option ((Unit × Unit) × ((List (List Int)) × Unit)) :=
  let x4 : Int := (wr .i64 ((a1.length : Int) * (a1.length : Int)))
  bif decide (x4 = x4) && decide (0 ≤ x4) && decide (x4 * 8 ≤ roomy) then
    (f37 k a1 (List.replicate x4.toNat 0)).bind fun x5 =>
    (f53 k 0 (a1.length : Int) a2 (a1.length : Int) a2 x5.2.2.1.1 ([] : List (List Int)) x5.2.2.2.1 x5.2.2.2.2.1 x5.2.1).bind fun x6 =>
    some (((), ()), (x6.2.2.2.2.2.2.2.2.1, ()))
  else
    none
def ef28 : Entry := { id := 28, ar := { temps := [(0, .c (.sl (.int .i64))), (1, .c (.sl (.int .i64)))], blocks := [], ren := [] }, res := { temps := [(0, .c (.row 4000000))], blocks := [(4000000, .own 22 (.s 2 (.d (.int .i64))))], ren := [] }, f := fun k v => f28 k v.1.1 v.1.2.1 }
def gf28 (k : Nat) : Full := { tt := tt, n := 21, fns := [ef37, ef53], trunc := [], tails := [], touch := [], opens := [], shapes := [], closes := [], k := k, glob := glob, cuts := [], joins := [] }
theorem qf28 (k : Nat) : AllP (bodyL (gf28 k) Try.f28) := by
  have h : True = AllP (bodyL (gf28 k) Try.f28) := by kernel_rfl
  exact Eq.mp h trivial
theorem sf28 : Sound Try.prog glob ef28 := sound_of base (fn := Try.f28) Try.func28 (by kernel_rfl) gf28 (fun _ => ⟨rfl, rfl⟩) (fun k j => ⟨sf37.at j, sf53.at j, trivial⟩) qf28 (fun k v => by kernel_rfl)

/-! impl.SectorOrders -/
def f7 (k : Nat) (a1 : (List Int)) (a2 : (List Int)) : Option ((Unit × Int × Unit) × ((List (List Int)) × Unit)) :=
  (f26 k a1).bind fun x8 =>
  bif (!x8.1.1) then
    some (((), 1, ()), (([] : List (List Int)), ()))
  else
    (f27 k a1 a2 true).bind fun x9 =>
    bif (!x9.1.1) then
      some (((), 1, ()), (([] : List (List Int)), ()))
    else
      bif (decide ((a1.length : Int) > 8)) then
        some (((), 5, ()), (([] : List (List Int)), ()))
      else
        (f28 k a1 a2).bind fun x10 =>
        bif (decide ((x10.2.1.length : Int) > 400)) then
          some (((), 5, ()), (([] : List (List Int)), ()))
        else
          some (((), 0, ()), (x10.2.1, ()))
def ef7 : Entry := { id := 7, ar := { temps := [(0, .c (.sl (.int .i64))), (1, .c (.sl (.int .i64)))], blocks := [], ren := [] }, res := { temps := [(0, .c (.row 4000000)), (1, .c (.int .i64))], blocks := [(4000000, .own 22 (.s 2 (.d (.int .i64))))], ren := [] }, f := fun k v => f7 k v.1.1 v.1.2.1 }
def gf7 (k : Nat) : Full := { tt := tt, n := 28, fns := [ef26, ef27, ef28], trunc := [], tails := [], touch := [], opens := [], shapes := [], closes := [], k := k, glob := glob, cuts := [], joins := [] }
theorem qf7 (k : Nat) : AllP (bodyL (gf7 k) Try.f7) := by
  have h : True = AllP (bodyL (gf7 k) Try.f7) := by kernel_rfl
  exact Eq.mp h trivial
theorem sf7 : Sound Try.prog glob ef7 := sound_of base (fn := Try.f7) Try.func7 (by kernel_rfl) gf7 (fun _ => ⟨rfl, rfl⟩) (fun k j => ⟨sf26.at j, sf27.at j, sf28.at j, trivial⟩) qf7 (fun k v => by kernel_rfl)

/-! laws.eqInt64S -/
def f9_l4 {ρ : Type} (k : Nat) : Nat → (List Int) → (List Int) → Int → (((Unit × Unit) → Option ρ) × (((Bool × Unit) × Unit) → Option ρ) × Unit) → Option ρ
  | 0, _, _, _, _ => none
  | j + 1, v10, v11, v12, nx =>
    bif (decide (v12 < (v10.length : Int))) then
      (getI v10 v12).bind fun x13 =>
      (getI v11 v12).bind fun x14 =>
      bif (x13 != x14) then
        nx.2.1 ((false, ()), ())
      else
        f9_l4 k j v10 v11 (wr .i64 (v12 + 1)) nx
    else
      nx.1 ((), ())
def cf9_l4 (k : Nat) : Cut := { sp := { temps := [(0, .c (.sl (.int .i64))), (1, .c (.sl (.int .i64))), (5, .c (.int .i64))], blocks := [], ren := [] }, outs := [(.exit 0, { temps := [], blocks := [], ren := [] }), (.ret, { temps := [(4, .c .bool)], blocks := [], ren := [] })], F := fun ρ j v nx => f9_l4 k j v.1.1 v.1.2.1 v.1.2.2.1 nx }
def f9 (k : Nat) (a1 : (List Int)) (a2 : (List Int)) : Option ((Bool × Unit) × Unit) :=
  bif ((a1.length : Int) != (a2.length : Int)) then
    some ((false, ()), ())
  else
    f9_l4 k k a1 a2 0
      (fun x8 : (Unit × Unit) =>
        some ((true, ()), ()),
      fun x9 : ((Bool × Unit) × Unit) =>
        some ((x9.1.1, ()), ()),
      ())
def ef9 : Entry := { id := 9, ar := { temps := [(0, .c (.sl (.int .i64))), (1, .c (.sl (.int .i64)))], blocks := [], ren := [] }, res := { temps := [(0, .c .bool)], blocks := [], ren := [] }, f := fun k v => f9 k v.1.1 v.1.2.1 }
def gf9 (k : Nat) : Full := { tt := tt, n := 26, fns := [], trunc := [], tails := [], touch := [], opens := [], shapes := [], closes := [], k := k, glob := glob, cuts := [(4, (cf9_l4 k))], joins := [] }
theorem of9_l4 (k : Nat) : CutOk (gf9 k) (cf9_l4 k) (theLoop Try.f9 4) := fun ρ v nx => ⟨by kernel_rfl, fun j => by kernel_rfl⟩
theorem qf9 (k : Nat) : AllP (bodyL (gf9 k) Try.f9) := by
  have h : (CutOk (gf9 k) (cf9_l4 k) (theLoop Try.f9 4) ∧ True) = AllP (bodyL (gf9 k) Try.f9) := by kernel_rfl
  exact Eq.mp h (And.intro (of9_l4 k) (trivial))
theorem sf9 : Sound Try.prog glob ef9 := sound_of base (fn := Try.f9) Try.func9 (by kernel_rfl) gf9 (fun _ => ⟨rfl, rfl⟩) (fun k j => trivial) qf9 (fun k v => by kernel_rfl)

/-! laws.eqInt64SS -/
def f8_l4 {ρ : Type} (k : Nat) : Nat → (List (List Int)) → (List (List Int)) → Int → (((Unit × Unit) → Option ρ) × (((Bool × Unit) × Unit) → Option ρ) × Unit) → Option ρ
  | 0, _, _, _, _ => none
  | j + 1, v11, v12, v13, nx =>
    bif (decide (v13 < (v11.length : Int))) then
      (getI v11 v13).bind fun x14 =>
      (getI v12 v13).bind fun x15 =>
      (f9 k x14 x15).bind fun x16 =>
      bif (!x16.1.1) then
        nx.2.1 ((false, ()), ())
      else
        f8_l4 k j v11 v12 (wr .i64 (v13 + 1)) nx
    else
      nx.1 ((), ())
def cf8_l4 (k : Nat) : Cut := { sp := { temps := [(0, .c (.sl (.sl (.int .i64)))), (1, .c (.sl (.sl (.int .i64)))), (5, .c (.int .i64))], blocks := [], ren := [] }, outs := [(.exit 0, { temps := [], blocks := [], ren := [] }), (.ret, { temps := [(4, .c .bool)], blocks := [], ren := [] })], F := fun ρ j v nx => f8_l4 k j v.1.1 v.1.2.1 v.1.2.2.1 nx }
def f8 (k : Nat) (a1 : (List (List Int))) (a2 : (List (List Int))) : Option ((Bool × Unit) × Unit) :=
  bif ((a1.length : Int) != (a2.length : Int)) then
    some ((false, ()), ())
  else
    f8_l4 k k a1 a2 0
      (fun x9 : (Unit × Unit) =>
        some ((true, ()), ()),
      fun x10 : ((Bool × Unit) × Unit) =>
        some ((x10.1.1, ()), ()),
      ())
def ef8 : Entry := { id := 8, ar := { temps := [(0, .c (.sl (.sl (.int .i64)))), (1, .c (.sl (.sl (.int .i64))))], blocks := [], ren := [] }, res := { temps := [(0, .c .bool)], blocks := [], ren := [] }, f := fun k v => f8 k v.1.1 v.1.2.1 }
def gf8 (k : Nat) : Full := { tt := tt, n := 27, fns := [ef9], trunc := [], tails := [], touch := [], opens := [], shapes := [], closes := [], k := k, glob := glob, cuts := [(4, (cf8_l4 k))], joins := [] }
theorem of8_l4 (k : Nat) : CutOk (gf8 k) (cf8_l4 k) (theLoop Try.f8 4) := fun ρ v nx => ⟨by kernel_rfl, fun j => by kernel_rfl⟩
theorem qf8 (k : Nat) : AllP (bodyL (gf8 k) Try.f8) := by
  have h : (CutOk (gf8 k) (cf8_l4 k) (theLoop Try.f8 4) ∧ True) = AllP (bodyL (gf8 k) Try.f8) := by kernel_rfl
  exact Eq.mp h (And.intro (of8_l4 k) (trivial))
theorem sf8 : Sound Try.prog glob ef8 := sound_of base (fn := Try.f8) Try.func8 (by kernel_rfl) gf8 (fun _ => ⟨rfl, rfl⟩) (fun k j => ⟨sf9.at j, trivial⟩) qf8 (fun k v => by kernel_rfl)

/-! laws.markInt64S -/
def f10_l2 {ρ : Type} (k : Nat) : Nat → Int → Int → (List Int) → ((((Int × Unit) × ((List Int) × Unit)) → Option ρ) × Unit) → Option ρ
  | 0, _, _, _, _ => none
  | j + 1, v7, v8, v9, nx =>
    bif (decide (v8 < (v9.length : Int))) then
      bif decide (0 ≤ v8) && decide (v8 < (v9.length : Int)) then
        (v9[v8.toNat]?).bind fun _ =>
        f10_l2 k j (wr .i64 (v7 + 1)) (wr .i64 (v8 + 1)) (v9.set v8.toNat v7) nx
      else
        none
    else
      nx.1 ((v7, ()), (v9, ()))
def cf10_l2 (k : Nat) : Cut := { sp := { temps := [(0, .c (.lit (.row 3000000))), (1, .c (.int .i64)), (5, .c (.int .i64))], blocks := [(3000000, .row 2 (.int .i64))], ren := [(3000000, some 3000000)] }, outs := [(.exit 0, { temps := [(1, .c (.int .i64))], blocks := [(3000000, .row 2 (.int .i64))], ren := [(3000000, some 3000000)] })], F := fun ρ j v nx => f10_l2 k j v.1.2.1 v.1.2.2.1 v.2.1 nx }
def f10 (k : Nat) (a1 : Int) (a2 : (List Int)) : Option ((Int × Unit) × ((List Int) × Unit)) :=
  f10_l2 k k a1 0 a2
    (fun x6 : ((Int × Unit) × ((List Int) × Unit)) =>
      some ((x6.1.1, ()), (x6.2.1, ())),
    ())
def ef10 : Entry := { id := 10, ar := { temps := [(0, .c (.row 3000000)), (1, .c (.int .i64))], blocks := [(3000000, .row 2 (.int .i64))], ren := [] }, res := { temps := [(0, .c (.int .i64))], blocks := [(3000000, .row 2 (.int .i64))], ren := [(3000000, some 3000000)] }, f := fun k v => f10 k v.1.2.1 v.2.1 }
def gf10 (k : Nat) : Full := { tt := tt, n := 19, fns := [], trunc := [], tails := [], touch := [], opens := [], shapes := [], closes := [], k := k, glob := glob, cuts := [(2, (cf10_l2 k))], joins := [] }
theorem of10_l2 (k : Nat) : CutOk (gf10 k) (cf10_l2 k) (theLoop Try.f10 2) := fun ρ v nx => ⟨by kernel_rfl, fun j => by kernel_rfl⟩
theorem qf10 (k : Nat) : AllP (bodyL (gf10 k) Try.f10) := by
  have h : (CutOk (gf10 k) (cf10_l2 k) (theLoop Try.f10 2) ∧ True) = AllP (bodyL (gf10 k) Try.f10) := by kernel_rfl
  exact Eq.mp h (And.intro (of10_l2 k) (trivial))
theorem sf10 : Sound Try.prog glob ef10 := sound_of base (fn := Try.f10) Try.func10 (by kernel_rfl) gf10 (fun _ => ⟨rfl, rfl⟩) (fun k j => trivial) qf10 (fun k v => by kernel_rfl)

/-! laws.markInt64SS -/
def f11_l2 {ρ : Type} (k : Nat) : Nat → Int → Int → (List (List Int)) → ((((Int × Unit) × ((List (List Int)) × Unit)) → Option ρ) × Unit) → Option ρ
  | 0, _, _, _, _ => none
  | j + 1, v8, v9, v10, nx =>
    bif (decide (v9 < (v10.length : Int))) then
      bif decide (0 ≤ v9) && decide (v9 < (v10.length : Int)) then
        (v10[v9.toNat]?).bind fun x11 =>
        (f10 k v8 x11).bind fun x12 =>
        f11_l2 k j x12.1.1 (wr .i64 (v9 + 1)) (v10.set v9.toNat x12.2.1) nx
      else
        none
    else
      nx.1 ((v8, ()), (v10, ()))
def cf11_l2 (k : Nat) : Cut := { sp := { temps := [(0, .c (.lit (.row 3000000))), (1, .c (.int .i64)), (5, .c (.int .i64))], blocks := [(3000000, .own 22 (.s 2 (.d (.int .i64))))], ren := [(3000000, some 3000000)] }, outs := [(.exit 0, { temps := [(1, .c (.int .i64))], blocks := [(3000000, .own 22 (.s 2 (.d (.int .i64))))], ren := [(3000000, some 3000000)] })], F := fun ρ j v nx => f11_l2 k j v.1.2.1 v.1.2.2.1 v.2.1 nx }
def f11 (k : Nat) (a1 : Int) (a2 : (List (List Int))) : Option ((Int × Unit) × ((List (List Int)) × Unit)) :=
  f11_l2 k k a1 0 a2
    (fun x7 : ((Int × Unit) × ((List (List Int)) × Unit)) =>
      some ((x7.1.1, ()), (x7.2.1, ())),
    ())
def ef11 : Entry := { id := 11, ar := { temps := [(0, .c (.row 3000000)), (1, .c (.int .i64))], blocks := [(3000000, .own 22 (.s 2 (.d (.int .i64))))], ren := [] }, res := { temps := [(0, .c (.int .i64))], blocks := [(3000000, .own 22 (.s 2 (.d (.int .i64))))], ren := [(3000000, some 3000000)] }, f := fun k v => f11 k v.1.2.1 v.2.1 }
def gf11 (k : Nat) : Full := { tt := tt, n := 19, fns := [ef10], trunc := [], tails := [], touch := [], opens := [15], shapes := [], closes := [(4, [3000000])], k := k, glob := glob, cuts := [(2, (cf11_l2 k))], joins := [] }
theorem of11_l2 (k : Nat) : CutOk (gf11 k) (cf11_l2 k) (theLoop Try.f11 2) := fun ρ v nx => ⟨by kernel_rfl, fun j => by kernel_rfl⟩
theorem qf11 (k : Nat) : AllP (bodyL (gf11 k) Try.f11) := by
  have h : (CutOk (gf11 k) (cf11_l2 k) (theLoop Try.f11 2) ∧ True) = AllP (bodyL (gf11 k) Try.f11) := by kernel_rfl
  exact Eq.mp h (And.intro (of11_l2 k) (trivial))
theorem sf11 : Sound Try.prog glob ef11 := sound_of base (fn := Try.f11) Try.func11 (by kernel_rfl) gf11 (fun _ => ⟨rfl, rfl⟩) (fun k j => ⟨sf10.at j, trivial⟩) qf11 (fun k v => by kernel_rfl)

/-! laws.heldInt64S -/
def f29_l2 {ρ : Type} (k : Nat) : Nat → (List Int) → Int → Int → ((((Int × Unit) × Unit) → Option ρ) × (((Int × Unit) × Unit) → Option ρ) × Unit) → Option ρ
  | 0, _, _, _, _ => none
  | j + 1, v9, v10, v11, nx =>
    bif (decide (v11 < (v9.length : Int))) then
      (getI v9 v11).bind fun x12 =>
      bif (x12 != v10) then
        nx.2.1 (((-1), ()), ())
      else
        f29_l2 k j v9 (wr .i64 (v10 + 1)) (wr .i64 (v11 + 1)) nx
    else
      nx.1 ((v10, ()), ())
def cf29_l2 (k : Nat) : Cut := { sp := { temps := [(0, .c (.sl (.int .i64))), (1, .c (.int .i64)), (5, .c (.int .i64))], blocks := [], ren := [] }, outs := [(.exit 0, { temps := [(1, .c (.int .i64))], blocks := [], ren := [] }), (.ret, { temps := [(4, .c (.int .i64))], blocks := [], ren := [] })], F := fun ρ j v nx => f29_l2 k j v.1.1 v.1.2.1 v.1.2.2.1 nx }
def f29 (k : Nat) (a1 : (List Int)) (a2 : Int) : Option ((Int × Unit) × Unit) :=
  f29_l2 k k a1 a2 0
    (fun x7 : ((Int × Unit) × Unit) =>
      some ((x7.1.1, ()), ()),
    fun x8 : ((Int × Unit) × Unit) =>
      some ((x8.1.1, ()), ()),
    ())
def ef29 : Entry := { id := 29, ar := { temps := [(0, .c (.sl (.int .i64))), (1, .c (.int .i64))], blocks := [], ren := [] }, res := { temps := [(0, .c (.int .i64))], blocks := [], ren := [] }, f := fun k v => f29 k v.1.1 v.1.2.1 }
def gf29 (k : Nat) : Full := { tt := tt, n := 21, fns := [], trunc := [], tails := [], touch := [], opens := [], shapes := [], closes := [], k := k, glob := glob, cuts := [(2, (cf29_l2 k))], joins := [] }
theorem of29_l2 (k : Nat) : CutOk (gf29 k) (cf29_l2 k) (theLoop Try.f29 2) := fun ρ v nx => ⟨by kernel_rfl, fun j => by kernel_rfl⟩
theorem qf29 (k : Nat) : AllP (bodyL (gf29 k) Try.f29) := by
  have h : (CutOk (gf29 k) (cf29_l2 k) (theLoop Try.f29 2) ∧ True) = AllP (bodyL (gf29 k) Try.f29) := by kernel_rfl
  exact Eq.mp h (And.intro (of29_l2 k) (trivial))
theorem sf29 : Sound Try.prog glob ef29 := sound_of base (fn := Try.f29) Try.func29 (by kernel_rfl) gf29 (fun _ => ⟨rfl, rfl⟩) (fun k j => trivial) qf29 (fun k v => by kernel_rfl)

/-! laws.heldInt64SS -/
def f12_l2 {ρ : Type} (k : Nat) : Nat → (List (List Int)) → Int → Int → ((((Int × Unit) × Unit) → Option ρ) × (((Int × Unit) × Unit) → Option ρ) × Unit) → Option ρ
  | 0, _, _, _, _ => none
  | j + 1, v10, v11, v12, nx =>
    bif (decide (v12 < (v10.length : Int))) then
      (getI v10 v12).bind fun x13 =>
      (f29 k x13 v11).bind fun x14 =>
      bif (decide (x14.1.1 < 0)) then
        nx.2.1 (((-1), ()), ())
      else
        f12_l2 k j v10 x14.1.1 (wr .i64 (v12 + 1)) nx
    else
      nx.1 ((v11, ()), ())
def cf12_l2 (k : Nat) : Cut := { sp := { temps := [(0, .c (.sl (.sl (.int .i64)))), (1, .c (.int .i64)), (5, .c (.int .i64))], blocks := [], ren := [] }, outs := [(.exit 0, { temps := [(1, .c (.int .i64))], blocks := [], ren := [] }), (.ret, { temps := [(4, .c (.int .i64))], blocks := [], ren := [] })], F := fun ρ j v nx => f12_l2 k j v.1.1 v.1.2.1 v.1.2.2.1 nx }
def f12 (k : Nat) (a1 : (List (List Int))) (a2 : Int) : Option ((Int × Unit) × Unit) :=
  f12_l2 k k a1 a2 0
    (fun x8 : ((Int × Unit) × Unit) =>
      some ((x8.1.1, ()), ()),
    fun x9 : ((Int × Unit) × Unit) =>
      some ((x9.1.1, ()), ()),
    ())
def ef12 : Entry := { id := 12, ar := { temps := [(0, .c (.sl (.sl (.int .i64)))), (1, .c (.int .i64))], blocks := [], ren := [] }, res := { temps := [(0, .c (.int .i64))], blocks := [], ren := [] }, f := fun k v => f12 k v.1.1 v.1.2.1 }
def gf12 (k : Nat) : Full := { tt := tt, n := 21, fns := [ef29], trunc := [], tails := [], touch := [], opens := [], shapes := [], closes := [], k := k, glob := glob, cuts := [(2, (cf12_l2 k))], joins := [] }
theorem of12_l2 (k : Nat) : CutOk (gf12 k) (cf12_l2 k) (theLoop Try.f12 2) := fun ρ v nx => ⟨by kernel_rfl, fun j => by kernel_rfl⟩
theorem qf12 (k : Nat) : AllP (bodyL (gf12 k) Try.f12) := by
  have h : (CutOk (gf12 k) (cf12_l2 k) (theLoop Try.f12 2) ∧ True) = AllP (bodyL (gf12 k) Try.f12) := by kernel_rfl
  exact Eq.mp h (And.intro (of12_l2 k) (trivial))
theorem sf12 : Sound Try.prog glob ef12 := sound_of base (fn := Try.f12) Try.func12 (by kernel_rfl) gf12 (fun _ => ⟨rfl, rfl⟩) (fun k j => ⟨sf29.at j, trivial⟩) qf12 (fun k v => by kernel_rfl)

/-! laws.FnExactSectorOrders -/
def f3 (k : Nat) (a1 : (List Int)) (a2 : (List Int)) : Option ((Bool × Unit) × Unit) :=
  bif (decide ((a1.length : Int) > 1048576)) then
    some ((true, ()), ())
  else
    bif (decide ((a2.length : Int) > 1048576)) then
      some ((true, ()), ())
    else
      (f6 k a1).bind fun x29 =>
      (f6 k a2).bind fun x30 =>
      (f5 k x29.2.1 x30.2.1).bind fun x31 =>
      (f6 k a1).bind fun x32 =>
      (f6 k a2).bind fun x33 =>
      (f7 k x32.2.1 x33.2.1).bind fun x34 =>
      (f8 k x34.2.1 x31.2.1).bind fun x36 =>
      bif (!x36.1.1) then
        some ((false, ()), ())
      else
        bif (x34.1.2.1 != x31.1.2.1) then
          some ((false, ()), ())
        else
          (f6 k a1).bind fun x39 =>
          (f9 k x32.2.1 x39.2.1).bind fun x40 =>
          bif (!x40.1.1) then
            some ((false, ()), ())
          else
            (f6 k a2).bind fun x43 =>
            (f9 k x33.2.1 x43.2.1).bind fun x44 =>
            bif (!x44.1.1) then
              some ((false, ()), ())
            else
              (f10 k 1 x32.2.1).bind fun x45 =>
              (f10 k x45.1.1 x33.2.1).bind fun x46 =>
              bif (decide (x46.1.1 < 0)) then
                some ((false, ()), ())
              else
                (f8 k x34.2.1 x31.2.1).bind fun x48 =>
                bif (!x48.1.1) then
                  some ((false, ()), ())
                else
                  bif (x34.1.2.1 != x31.1.2.1) then
                    some ((false, ()), ())
                  else
                    (f11 k 1 x34.2.1).bind fun x49 =>
                    (f12 k x49.2.1 1).bind fun x50 =>
                    bif (decide (x50.1.1 < 0)) then
                      some ((false, ()), ())
                    else
                      bif (x50.1.1 != x49.1.1) then
                        some ((false, ()), ())
                      else
                        (f6 k a1).bind fun x51 =>
                        (f6 k a2).bind fun x52 =>
                        (f7 k x51.2.1 x52.2.1).bind fun x53 =>
                        (f8 k x53.2.1 x31.2.1).bind fun x55 =>
                        bif (!x55.1.1) then
                          some ((false, ()), ())
                        else
                          bif (x53.1.2.1 != x31.1.2.1) then
                            some ((false, ()), ())
                          else
                            (f12 k x49.2.1 1).bind fun x56 =>
                            bif (decide (x56.1.1 < 0)) then
                              some ((false, ()), ())
                            else
                              bif (x56.1.1 != x49.1.1) then
                                some ((false, ()), ())
                              else
                                some ((true, ()), ())
def ef3 : Entry := { id := 3, ar := { temps := [(0, .c (.sl (.int .i64))), (1, .c (.sl (.int .i64)))], blocks := [], ren := [] }, res := { temps := [(0, .c .bool)], blocks := [], ren := [] }, f := fun k v => f3 k v.1.1 v.1.2.1 }
def gf3 (k : Nat) : Full := { tt := tt, n := 114, fns := [ef6, ef5, ef7, ef8, ef9, ef10, ef11, ef12], trunc := [], tails := [], touch := [], opens := [], shapes := [], closes := [], k := k, glob := glob, cuts := [], joins := [] }
theorem qf3 (k : Nat) : AllP (bodyL (gf3 k) Try.f3) := by
  have h : True = AllP (bodyL (gf3 k) Try.f3) := by kernel_rfl
  exact Eq.mp h trivial
theorem sf3 : Sound Try.prog glob ef3 := sound_of base (fn := Try.f3) Try.func3 (by kernel_rfl) gf3 (fun _ => ⟨rfl, rfl⟩) (fun k j => ⟨sf6.at j, sf5.at j, sf7.at j, sf8.at j, sf9.at j, sf10.at j, sf11.at j, sf12.at j, trivial⟩) qf3 (fun k v => by kernel_rfl)

end Go.Proofs.Ytlajiknepcjhgaa.R
