/- Plain twins of functions, with their contracts. Printed by a program of this session. -/
import Derived.Test.YtplcjfnobdlkeaaProg
import Derived.Test.YtplcjfnobdlkeaaR1Tools
set_option linter.unusedVariables false
namespace Go.Proofs.Ytplcjfnobdlkeaa.R
open Go.Proofs.Ytplcjfnobdlkeaa.R1
def tt : TT := [
  (2, { k := (.int .i64), size := 1, bytes := 8, zero := [.int .i64 0], u := (.int .i64) }),
  (25, { k := (.sl 38), size := 1, bytes := 24, zero := [.nils], u := (.sl (.sl (.int .i64))) }),
  (32, { k := (.struct [(0, 2), (1, 2), (2, 25), (3, 2), (4, 2), (5, 25)]), size := 6, bytes := 80, zero := [.int .i64 0, .int .i64 0, .nils, .int .i64 0, .int .i64 0, .nils], u := (.pair (.int .i64) (.pair (.int .i64) (.pair (.sl (.sl (.int .i64))) (.pair (.int .i64) (.pair (.int .i64) (.sl (.sl (.int .i64)))))))) }),
  (38, { k := (.sl 2), size := 1, bytes := 24, zero := [.nils], u := (.sl (.int .i64)) }),
  (39, { k := .func, size := 1, bytes := 8, zero := [.nilf], u := .unit }),
  (45, { k := (.map 2 2), size := 1, bytes := 8, zero := [.nilm], u := .unit }),
  (46, { k := (.arr 5 45), size := 5, bytes := 40, zero := [.nilm, .nilm, .nilm, .nilm, .nilm], u := .unit }),
  (47, { k := (.arr 5 38), size := 5, bytes := 120, zero := [.nils, .nils, .nils, .nils, .nils], u := (.pair (.sl (.int .i64)) (.pair (.sl (.int .i64)) (.pair (.sl (.int .i64)) (.pair (.sl (.int .i64)) (.sl (.int .i64)))))) }),
  (49, { k := (.struct [(0, 2), (1, 46), (6, 47), (11, 39)]), size := 12, bytes := 176, zero := [.int .i64 0, .nilm, .nilm, .nilm, .nilm, .nilm, .nils, .nils, .nils, .nils, .nils, .nilf], u := .unit }),
  (50, { k := (.sl 53), size := 1, bytes := 24, zero := [.nils], u := (.sl (.pair (.int .i64) (.int .i64))) }),
  (53, { k := (.struct [(0, 2), (1, 2)]), size := 2, bytes := 16, zero := [.int .i64 0, .int .i64 0], u := (.pair (.int .i64) (.int .i64)) })]
def gl : List (Nat × B) := []
def glob : Nat → B := globOf gl
theorem ttok : TTok Try.prog tt := ttok_of_chk (by kernel_rfl)
theorem base : Base Try.prog tt glob := ⟨drawOk (by kernel_rfl), ttok, globOf_free (by kernel_rfl)⟩

/-! spec.l00In -/
def f18 (k : Nat) (a1 : Int) (a2 : Int) (a3 : Int) : Option ((Bool × Unit) × Unit) :=
  bif (decide (a1 ≥ a2)) then
    some (((decide (a1 ≤ a3)), ()), ())
  else
    some ((false, ()), ())
def ef18 : Entry := { id := 18, ar := { temps := [(0, .c (.int .i64)), (1, .c (.int .i64)), (2, .c (.int .i64))], blocks := [], ren := [] }, res := { temps := [(0, .c .bool)], blocks := [], ren := [] }, f := fun k v => f18 k v.1.1 v.1.2.1 v.1.2.2.1 }
def gf18 (k : Nat) : Full := { tt := tt, n := 15, fns := [], trunc := [], tails := [], touch := [], opens := [], shapes := [], closes := [], k := k, glob := glob, cuts := [], joins := [] }
theorem qf18 (k : Nat) : AllP (bodyL (gf18 k) Try.f18) := by
  have h : True = AllP (bodyL (gf18 k) Try.f18) := by kernel_rfl
  exact Eq.mp h trivial
theorem sf18 : Sound Try.prog glob ef18 := sound_of base (fn := Try.f18) Try.func18 (by kernel_rfl) gf18 (fun _ => ⟨rfl, rfl⟩) (fun k j => trivial) qf18 (fun k v => by kernel_rfl)

/-! spec.l26Ok -/
def f12 (k : Nat) (a1 : Int) (a2 : Int) : Option ((Bool × Unit) × Unit) :=
  (f18 k a1 1 12).bind fun x3 =>
  bif x3.1.1 then
    (f18 k a2 1 12).bind fun x4 =>
    bif x4.1.1 then
      some (((decide ((wr .i64 (a1 * a2)) ≤ 12)), ()), ())
    else
      some ((false, ()), ())
  else
    some ((false, ()), ())
def ef12 : Entry := { id := 12, ar := { temps := [(0, .c (.int .i64)), (1, .c (.int .i64))], blocks := [], ren := [] }, res := { temps := [(0, .c .bool)], blocks := [], ren := [] }, f := fun k v => f12 k v.1.1 v.1.2.1 }
def gf12 (k : Nat) : Full := { tt := tt, n := 17, fns := [ef18], trunc := [], tails := [], touch := [], opens := [], shapes := [], closes := [], k := k, glob := glob, cuts := [], joins := [] }
theorem qf12 (k : Nat) : AllP (bodyL (gf12 k) Try.f12) := by
  have h : True = AllP (bodyL (gf12 k) Try.f12) := by kernel_rfl
  exact Eq.mp h trivial
theorem sf12 : Sound Try.prog glob ef12 := sound_of base (fn := Try.f12) Try.func12 (by kernel_rfl) gf12 (fun _ => ⟨rfl, rfl⟩) (fun k j => ⟨sf18.at j, trivial⟩) qf12 (fun k v => by kernel_rfl)

/-! spec.l26Side -/
def f38 (k : Nat) (a1 : Int) (a2 : Int) (a3 : Bool) : Option ((Int × Unit) × Unit) :=
  bif a3 then
    bif decide (a1 = 0) then
      none
    else
      bif (((wr .i64 (a2.tdiv a1)).tmod 2) == 0) then
        some ((2, ()), ())
      else
        some ((4, ()), ())
  else
    bif decide (a1 = 0) then
      none
    else
      bif (((a2.tmod a1).tmod 2) == 0) then
        some ((1, ()), ())
      else
        some ((3, ()), ())
def ef38 : Entry := { id := 38, ar := { temps := [(0, .c (.int .i64)), (1, .c (.int .i64)), (2, .c .bool)], blocks := [], ren := [] }, res := { temps := [(0, .c (.int .i64))], blocks := [], ren := [] }, f := fun k v => f38 k v.1.1 v.1.2.1 v.1.2.2.1 }
def gf38 (k : Nat) : Full := { tt := tt, n := 18, fns := [], trunc := [], tails := [], touch := [], opens := [], shapes := [], closes := [], k := k, glob := glob, cuts := [], joins := [] }
theorem qf38 (k : Nat) : AllP (bodyL (gf38 k) Try.f38) := by
  have h : True = AllP (bodyL (gf38 k) Try.f38) := by kernel_rfl
  exact Eq.mp h trivial
theorem sf38 : Sound Try.prog glob ef38 := sound_of base (fn := Try.f38) Try.func38 (by kernel_rfl) gf38 (fun _ => ⟨rfl, rfl⟩) (fun k j => trivial) qf38 (fun k v => by kernel_rfl)

/-! spec.l26Pairs -/
def f33_j7 {ρ : Type} (k : Nat) (v30 : Int) (v31 : Int) (v32 : Int) (v33 : Int) (v34 : (List (Int × Int))) (nx : ((((Int × Int × Int × Unit × Int × Unit) × ((List (Int × Int)) × Unit)) → Option ρ) × Unit)) : Option ρ :=
  bif decide (v31 = 0) then
    none
  else
    let x35 : Bool := (decide ((wr .i64 ((wr .i64 (v33.tdiv v31)) + 1)) < v30))
    bif x35 then
      (f38 k v31 v33 true).bind fun x36 =>
      bif (x36.1.1 == v32) then
        bif decide ((v34.length + [(v33, (wr .i64 (v33 + v31)))].length) * 16 ≤ roomy) then
          nx.1 ((v30, v31, v32, (), v33, ()), ((v34 ++ [(v33, (wr .i64 (v33 + v31)))]), ()))
        else
          none
      else
        nx.1 ((v30, v31, v32, (), v33, ()), (v34, ()))
    else
      nx.1 ((v30, v31, v32, (), v33, ()), (v34, ()))
def cf33_j7 : Cut := { sp := { temps := [(0, .c (.int .i64)), (1, .c (.int .i64)), (2, .c (.int .i64)), (7, .c (.row 5000000)), (8, .c (.int .i64))], blocks := [(5000000, .row 53 (.pair (.int .i64) (.int .i64)))], ren := [] }, outs := [(.normal, { temps := [(0, .c (.int .i64)), (1, .c (.int .i64)), (2, .c (.int .i64)), (7, .c (.row 5000000)), (8, .c (.int .i64))], blocks := [(5000000, .row 53 (.pair (.int .i64) (.int .i64)))], ren := [] })], F := fun ρ k v nx => f33_j7 k v.1.1 v.1.2.1 v.1.2.2.1 v.1.2.2.2.2.1 v.2.1 nx }
def f33_l3 {ρ : Type} (k : Nat) : Nat → Int → Int → Int → Int → (List (Int × Int)) → ((((Unit × Unit) × ((List (Int × Int)) × Unit)) → Option ρ) × Unit) → Option ρ
  | 0, _, _, _, _, _, _ => none
  | j + 1, v20, v21, v22, v23, v24, nx =>
    bif (decide (v23 < (wr .i64 (v20 * v21)))) then
      bif decide (v21 = 0) then
        none
      else
        let x25 : Bool := (decide ((wr .i64 ((v23.tmod v21) + 1)) < v21))
        bif x25 then
          (f38 k v21 v23 false).bind fun x26 =>
          bif (x26.1.1 == v22) then
            bif decide ((v24.length + [(v23, (wr .i64 (v23 + 1)))].length) * 16 ≤ roomy) then
              f33_j7 k v20 v21 v22 v23 (v24 ++ [(v23, (wr .i64 (v23 + 1)))])
                (fun x27 : ((Int × Int × Int × Unit × Int × Unit) × ((List (Int × Int)) × Unit)) =>
                  f33_l3 k j x27.1.1 x27.1.2.1 x27.1.2.2.1 (wr .i64 (x27.1.2.2.2.2.1 + 1)) x27.2.1 nx,
                ())
            else
              none
          else
            f33_j7 k v20 v21 v22 v23 v24
              (fun x28 : ((Int × Int × Int × Unit × Int × Unit) × ((List (Int × Int)) × Unit)) =>
                f33_l3 k j x28.1.1 x28.1.2.1 x28.1.2.2.1 (wr .i64 (x28.1.2.2.2.2.1 + 1)) x28.2.1 nx,
              ())
        else
          f33_j7 k v20 v21 v22 v23 v24
            (fun x29 : ((Int × Int × Int × Unit × Int × Unit) × ((List (Int × Int)) × Unit)) =>
              f33_l3 k j x29.1.1 x29.1.2.1 x29.1.2.2.1 (wr .i64 (x29.1.2.2.2.2.1 + 1)) x29.2.1 nx,
            ())
    else
      nx.1 (((), ()), (v24, ()))
def cf33_l3 (k : Nat) : Cut := { sp := { temps := [(0, .c (.int .i64)), (1, .c (.int .i64)), (2, .c (.int .i64)), (7, .c (.row 5000000)), (8, .c (.int .i64))], blocks := [(5000000, .row 53 (.pair (.int .i64) (.int .i64)))], ren := [] }, outs := [(.exit 0, { temps := [(7, .c (.row 5000000))], blocks := [(5000000, .row 53 (.pair (.int .i64) (.int .i64)))], ren := [] })], F := fun ρ j v nx => f33_l3 k j v.1.1 v.1.2.1 v.1.2.2.1 v.1.2.2.2.2.1 v.2.1 nx }
def f33 (k : Nat) (a1 : Int) (a2 : Int) (a3 : Int) : Option ((Unit × Unit) × ((List (Int × Int)) × Unit)) :=
  f33_l3 k k a1 a2 a3 0 ([] : List (Int × Int))
    (fun x19 : ((Unit × Unit) × ((List (Int × Int)) × Unit)) =>
      some (((), ()), (x19.2.1, ())),
    ())
def ef33 : Entry := { id := 33, ar := { temps := [(0, .c (.int .i64)), (1, .c (.int .i64)), (2, .c (.int .i64))], blocks := [], ren := [] }, res := { temps := [(0, .c (.row 4000000))], blocks := [(4000000, .row 53 (.pair (.int .i64) (.int .i64)))], ren := [] }, f := fun k v => f33 k v.1.1 v.1.2.1 v.1.2.2.1 }
def gf33 (k : Nat) : Full := { tt := tt, n := 59, fns := [ef38], trunc := [], tails := [], touch := [], opens := [], shapes := [], closes := [], k := k, glob := glob, cuts := [(3, (cf33_l3 k))], joins := [(7, cf33_j7)] }
theorem of33_j7 (k : Nat) : JoinOk (gf33 k) cf33_j7 (theJoin Try.f33 7) := fun ρ v nx => by kernel_rfl
theorem of33_l3 (k : Nat) : CutOk (gf33 k) (cf33_l3 k) (theLoop Try.f33 3) := fun ρ v nx => ⟨by kernel_rfl, fun j => by kernel_rfl⟩
theorem qf33 (k : Nat) : AllP (bodyL (gf33 k) Try.f33) := by
  have h : (JoinOk (gf33 k) cf33_j7 (theJoin Try.f33 7) ∧ CutOk (gf33 k) (cf33_l3 k) (theLoop Try.f33 3) ∧ True) = AllP (bodyL (gf33 k) Try.f33) := by kernel_rfl
  exact Eq.mp h (And.intro (of33_j7 k) (And.intro (of33_l3 k) (trivial)))
theorem sf33 : Sound Try.prog glob ef33 := sound_of base (fn := Try.f33) Try.func33 (by kernel_rfl) gf33 (fun _ => ⟨rfl, rfl⟩) (fun k j => ⟨sf38.at j, trivial⟩) qf33 (fun k v => by kernel_rfl)

/-! spec.l26Mates -/
def f25_l7 {ρ : Type} (k : Nat) : Nat → Int → Int → Int → Int → (List (List Int)) → (List Int) → ((((Int × Int × Unit × Int × Unit × Unit) × ((List (List Int)) × (List Int) × Unit)) → Option ρ) × Unit) → Option ρ
  | 0, _, _, _, _, _, _, _ => none
  | j + 1, v31, v32, v33, v34, v35, v36, nx =>
    bif (decide (v34 < (wr .i64 (v31 * v32)))) then
      bif decide ((v36.length + [(-1)].length) * 8 ≤ roomy) then
        f25_l7 k j v31 v32 v33 (wr .i64 (v34 + 1)) v35 (v36 ++ [(-1)]) nx
      else
        none
    else
      nx.1 ((v31, v32, (), v33, (), ()), (v35, v36, ()))
def cf25_l7 (k : Nat) : Cut := { sp := { temps := [(0, .c (.int .i64)), (1, .c (.int .i64)), (5, .c (.row 5000000)), (6, .c (.int .i64)), (7, .c (.row 5000001)), (8, .c (.int .i64))], blocks := [(5000000, .own 38 (.s 2 (.d (.int .i64)))), (5000001, .row 2 (.int .i64))], ren := [] }, outs := [(.exit 2, { temps := [(0, .c (.int .i64)), (1, .c (.int .i64)), (5, .c (.row 5000000)), (6, .c (.int .i64)), (7, .c (.row 5000001))], blocks := [(5000000, .own 38 (.s 2 (.d (.int .i64)))), (5000001, .row 2 (.int .i64))], ren := [] })], F := fun ρ j v nx => f25_l7 k j v.1.1 v.1.2.1 v.1.2.2.2.1 v.1.2.2.2.2.2.1 v.2.1 v.2.2.1 nx }
def f25_l12 {ρ : Type} (k : Nat) : Nat → Int → Int → Int → Int → (List (List Int)) → (List Int) → (List (Int × Int)) → ((((Int × Int × Unit × Int × Unit × Unit) × ((List (List Int)) × (List Int) × Unit)) → Option ρ) × Unit) → Option ρ
  | 0, _, _, _, _, _, _, _, _ => none
  | j + 1, v37, v38, v39, v40, v41, v42, v43, nx =>
    bif (decide (v40 < (v43.length : Int))) then
      bif decide (0 ≤ v40) && decide (v40 < (v43.length : Int)) then
        (v43[v40.toNat]?).bind fun x44 =>
        bif decide (0 ≤ v40) && decide (v40 < (v43.length : Int)) then
          (v43[v40.toNat]?).bind fun x45 =>
          bif decide (0 ≤ x44.1) && decide (x44.1 < (v42.length : Int)) then
            (v42[x44.1.toNat]?).bind fun _ =>
            bif decide (0 ≤ v40) && decide (v40 < (v43.length : Int)) then
              (v43[v40.toNat]?).bind fun x47 =>
              bif decide (0 ≤ v40) && decide (v40 < (v43.length : Int)) then
                (v43[v40.toNat]?).bind fun x48 =>
                bif decide (0 ≤ x47.2) && decide (x47.2 < ((v42.set x44.1.toNat x45.2).length : Int)) then
                  ((v42.set x44.1.toNat x45.2)[x47.2.toNat]?).bind fun _ =>
                  let x50 : (List Int) := ((v42.set x44.1.toNat x45.2).set x47.2.toNat x48.1)
                  f25_l12 k j v37 v38 v39 (wr .i64 (v40 + 1)) v41 x50 v43 nx
                else
                  none
              else
                none
            else
              none
          else
            none
        else
          none
      else
        none
    else
      nx.1 ((v37, v38, (), v39, (), ()), (v41, v42, ()))
def cf25_l12 (k : Nat) : Cut := { sp := { temps := [(0, .c (.int .i64)), (1, .c (.int .i64)), (5, .c (.row 5000000)), (6, .c (.int .i64)), (7, .c (.row 5000001)), (9, .c (.row 5000002)), (10, .c (.int .i64))], blocks := [(5000000, .own 38 (.s 2 (.d (.int .i64)))), (5000001, .row 2 (.int .i64)), (5000002, .row 53 (.pair (.int .i64) (.int .i64)))], ren := [] }, outs := [(.exit 4, { temps := [(0, .c (.int .i64)), (1, .c (.int .i64)), (5, .c (.row 5000000)), (6, .c (.int .i64)), (7, .c (.row 5000001))], blocks := [(5000000, .own 38 (.s 2 (.d (.int .i64)))), (5000001, .row 2 (.int .i64))], ren := [] })], F := fun ρ j v nx => f25_l12 k j v.1.1 v.1.2.1 v.1.2.2.2.1 v.1.2.2.2.2.2.2.1 v.2.1 v.2.2.1 v.2.2.2.1 nx }
def f25_l3 {ρ : Type} (k : Nat) : Nat → Int → Int → Int → (List (List Int)) → ((((Unit × Unit) × ((List (List Int)) × Unit)) → Option ρ) × Unit) → Option ρ
  | 0, _, _, _, _, _ => none
  | j + 1, v51, v52, v53, v54, nx =>
    bif (decide (v53 ≤ 4)) then
      f25_l7 k k v51 v52 v53 0 v54 ([] : List Int)
        (fun x56 : ((Int × Int × Unit × Int × Unit × Unit) × ((List (List Int)) × (List Int) × Unit)) =>
          (f33 k x56.1.1 x56.1.2.1 x56.1.2.2.2.1).bind fun x57 =>
          f25_l12 k k x56.1.1 x56.1.2.1 x56.1.2.2.2.1 0 x56.2.1 x56.2.2.1 x57.2.1
            (fun x58 : ((Int × Int × Unit × Int × Unit × Unit) × ((List (List Int)) × (List Int) × Unit)) =>
              bif decide ((x58.2.1.length + [x58.2.2.1].length) * 24 ≤ roomy) then
                f25_l3 k j x58.1.1 x58.1.2.1 (wr .i64 (x58.1.2.2.2.1 + 1)) (x58.2.1 ++ [x58.2.2.1]) nx
              else
                none,
            ()),
        ())
    else
      nx.1 (((), ()), (v54, ()))
def cf25_l3 (k : Nat) : Cut := { sp := { temps := [(0, .c (.int .i64)), (1, .c (.int .i64)), (5, .c (.row 5000000)), (6, .c (.int .i64))], blocks := [(5000000, .own 38 (.s 2 (.d (.int .i64))))], ren := [] }, outs := [(.exit 0, { temps := [(5, .c (.row 5000000))], blocks := [(5000000, .own 38 (.s 2 (.d (.int .i64))))], ren := [] })], F := fun ρ j v nx => f25_l3 k j v.1.1 v.1.2.1 v.1.2.2.2.1 v.2.1 nx }
def f25 (k : Nat) (a1 : Int) (a2 : Int) : Option ((Unit × Unit) × ((List (List Int)) × Unit)) :=
  f25_l3 k k a1 a2 1 ([] : List (List Int))
    (fun x30 : ((Unit × Unit) × ((List (List Int)) × Unit)) =>
      some (((), ()), (x30.2.1, ())),
    ())
def ef25 : Entry := { id := 25, ar := { temps := [(0, .c (.int .i64)), (1, .c (.int .i64))], blocks := [], ren := [] }, res := { temps := [(0, .c (.row 4000000))], blocks := [(4000000, .own 38 (.s 2 (.d (.int .i64))))], ren := [] }, f := fun k v => f25 k v.1.1 v.1.2.1 }
def gf25 (k : Nat) : Full := { tt := tt, n := 66, fns := [ef33], trunc := [], tails := [], touch := [(14, [(12, [5000001])]), (15, [(12, [5000001])])], opens := [], shapes := [(11, (.s 2 (.d (.int .i64)))), (63, (.s 2 (.d (.int .i64)))), (64, (.s 2 (.d (.int .i64))))], closes := [], k := k, glob := glob, cuts := [(7, (cf25_l7 k)), (12, (cf25_l12 k)), (3, (cf25_l3 k))], joins := [] }
theorem of25_l7 (k : Nat) : CutOk (gf25 k) (cf25_l7 k) (theLoop Try.f25 7) := fun ρ v nx => ⟨by kernel_rfl, fun j => by kernel_rfl⟩
theorem of25_l12 (k : Nat) : CutOk (gf25 k) (cf25_l12 k) (theLoop Try.f25 12) := fun ρ v nx => ⟨by kernel_rfl, fun j => by kernel_rfl⟩
theorem of25_l3 (k : Nat) : CutOk (gf25 k) (cf25_l3 k) (theLoop Try.f25 3) := fun ρ v nx => ⟨by kernel_rfl, fun j => by kernel_rfl⟩
theorem qf25 (k : Nat) : AllP (bodyL (gf25 k) Try.f25) := by
  have h : (CutOk (gf25 k) (cf25_l7 k) (theLoop Try.f25 7) ∧ CutOk (gf25 k) (cf25_l12 k) (theLoop Try.f25 12) ∧ CutOk (gf25 k) (cf25_l3 k) (theLoop Try.f25 3) ∧ True) = AllP (bodyL (gf25 k) Try.f25) := by kernel_rfl
  exact Eq.mp h (And.intro (of25_l7 k) (And.intro (of25_l12 k) (And.intro (of25_l3 k) (trivial))))
theorem sf25 : Sound Try.prog glob ef25 := sound_of base (fn := Try.f25) Try.func25 (by kernel_rfl) gf25 (fun _ => ⟨rfl, rfl⟩) (fun k j => ⟨sf33.at j, trivial⟩) qf25 (fun k v => by kernel_rfl)

/-! spec.l00Own -/
def f34 (k : Nat) (a1 : (List Int)) : Option ((Unit × Unit) × ((List Int) × Unit)) :=
  bif decide ((([] : List Int).length + a1.length) * 8 ≤ roomy) then
    some (((), ()), ((([] : List Int) ++ a1), ()))
  else
    none
def ef34 : Entry := { id := 34, ar := { temps := [(0, .c (.sl (.int .i64)))], blocks := [], ren := [] }, res := { temps := [(0, .c (.row 4000000))], blocks := [(4000000, .row 2 (.int .i64))], ren := [] }, f := fun k v => f34 k v.1.1 }
def gf34 (k : Nat) : Full := { tt := tt, n := 6, fns := [], trunc := [], tails := [], touch := [], opens := [], shapes := [], closes := [], k := k, glob := glob, cuts := [], joins := [] }
theorem qf34 (k : Nat) : AllP (bodyL (gf34 k) Try.f34) := by
  have h : True = AllP (bodyL (gf34 k) Try.f34) := by kernel_rfl
  exact Eq.mp h trivial
theorem sf34 : Sound Try.prog glob ef34 := sound_of base (fn := Try.f34) Try.func34 (by kernel_rfl) gf34 (fun _ => ⟨rfl, rfl⟩) (fun k j => trivial) qf34 (fun k v => by kernel_rfl)

/-! spec.l00Has -/
def f35_l2 {ρ : Type} (k : Nat) : Nat → (List Int) → Int → Int → (((Unit × Unit) → Option ρ) × (((Bool × Unit) × Unit) → Option ρ) × Unit) → Option ρ
  | 0, _, _, _, _ => none
  | j + 1, v9, v10, v11, nx =>
    bif (decide (v11 < (v9.length : Int))) then
      (getI v9 v11).bind fun x12 =>
      bif (x12 == v10) then
        nx.2.1 ((true, ()), ())
      else
        f35_l2 k j v9 v10 (wr .i64 (v11 + 1)) nx
    else
      nx.1 ((), ())
def cf35_l2 (k : Nat) : Cut := { sp := { temps := [(0, .c (.sl (.int .i64))), (1, .c (.int .i64)), (5, .c (.int .i64))], blocks := [], ren := [] }, outs := [(.exit 0, { temps := [], blocks := [], ren := [] }), (.ret, { temps := [(4, .c .bool)], blocks := [], ren := [] })], F := fun ρ j v nx => f35_l2 k j v.1.1 v.1.2.1 v.1.2.2.1 nx }
def f35 (k : Nat) (a1 : (List Int)) (a2 : Int) : Option ((Bool × Unit) × Unit) :=
  f35_l2 k k a1 a2 0
    (fun x7 : (Unit × Unit) =>
      some ((false, ()), ()),
    fun x8 : ((Bool × Unit) × Unit) =>
      some ((x8.1.1, ()), ()),
    ())
def ef35 : Entry := { id := 35, ar := { temps := [(0, .c (.sl (.int .i64))), (1, .c (.int .i64))], blocks := [], ren := [] }, res := { temps := [(0, .c .bool)], blocks := [], ren := [] }, f := fun k v => f35 k v.1.1 v.1.2.1 }
def gf35 (k : Nat) : Full := { tt := tt, n := 18, fns := [], trunc := [], tails := [], touch := [], opens := [], shapes := [], closes := [], k := k, glob := glob, cuts := [(2, (cf35_l2 k))], joins := [] }
theorem of35_l2 (k : Nat) : CutOk (gf35 k) (cf35_l2 k) (theLoop Try.f35 2) := fun ρ v nx => ⟨by kernel_rfl, fun j => by kernel_rfl⟩
theorem qf35 (k : Nat) : AllP (bodyL (gf35 k) Try.f35) := by
  have h : (CutOk (gf35 k) (cf35_l2 k) (theLoop Try.f35 2) ∧ True) = AllP (bodyL (gf35 k) Try.f35) := by kernel_rfl
  exact Eq.mp h (And.intro (of35_l2 k) (trivial))
theorem sf35 : Sound Try.prog glob ef35 := sound_of base (fn := Try.f35) Try.func35 (by kernel_rfl) gf35 (fun _ => ⟨rfl, rfl⟩) (fun k j => trivial) qf35 (fun k v => by kernel_rfl)

/-! spec.l26Find).push -/
def f36_l3 {ρ : Type} (k : Nat) : Nat → (Int × (Int × ((List (List Int)) × (Int × (Int × (List (List Int))))))) → (List (List Int)) → Int → (List Int) → Int → (List (List Int)) → ((((Unit × Unit) × ((List (List Int)) × Unit)) → Option ρ) × (((Unit × Bool × Unit) × Unit) → Option ρ) × Unit) → Option ρ
  | 0, _, _, _, _, _, _, _ => none
  | j + 1, v22, v23, v24, v25, v26, v27, nx =>
    bif (decide (v26 < (v23.length : Int))) then
      (getI v23 v26).bind fun x28 =>
      (f34 k x28).bind fun x29 =>
      (getI v22.2.2.1 v26).bind fun x30 =>
      (getI x30 v24).bind fun x31 =>
      bif (decide (x31 ≥ 0)) then
        (f35 k v25 x31).bind fun x32 =>
        bif (!x32.1.1) then
          bif decide ((x29.2.1.length + [v24].length) * 8 ≤ roomy) then
            bif decide ((v27.length + [(x29.2.1 ++ [v24])].length) * 24 ≤ roomy) then
              f36_l3 k j v22 v23 v24 v25 (wr .i64 (v26 + 1)) (v27 ++ [(x29.2.1 ++ [v24])]) nx
            else
              none
          else
            none
        else
          bif (decide (x31 ≥ 0)) then
            bif decide (0 ≤ (wr .i64 ((x29.2.1.length : Int) - 1))) && decide ((wr .i64 ((x29.2.1.length : Int) - 1)) < (x29.2.1.length : Int)) then
              (x29.2.1[(wr .i64 ((x29.2.1.length : Int) - 1)).toNat]?).bind fun x33 =>
              bif (x33 != x31) then
                nx.2.1 (((), false, ()), ())
              else
                bif (decide (x31 ≥ 0)) then
                  bif decide (0 ≤ (wr .i64 ((x29.2.1.length : Int) - 1))) && decide ((wr .i64 ((x29.2.1.length : Int) - 1)) ≤ (x29.2.1.length : Int)) then
                    let x34 : (List Int) := (x29.2.1.take (wr .i64 ((x29.2.1.length : Int) - 1)).toNat)
                    bif decide ((v27.length + [x34].length) * 24 ≤ roomy) then
                      f36_l3 k j v22 v23 v24 v25 (wr .i64 (v26 + 1)) (v27 ++ [x34]) nx
                    else
                      none
                  else
                    none
                else
                  bif decide ((v27.length + [x29.2.1].length) * 24 ≤ roomy) then
                    f36_l3 k j v22 v23 v24 v25 (wr .i64 (v26 + 1)) (v27 ++ [x29.2.1]) nx
                  else
                    none
            else
              none
          else
            bif (decide (x31 ≥ 0)) then
              bif decide (0 ≤ (wr .i64 ((x29.2.1.length : Int) - 1))) && decide ((wr .i64 ((x29.2.1.length : Int) - 1)) ≤ (x29.2.1.length : Int)) then
                let x35 : (List Int) := (x29.2.1.take (wr .i64 ((x29.2.1.length : Int) - 1)).toNat)
                bif decide ((v27.length + [x35].length) * 24 ≤ roomy) then
                  f36_l3 k j v22 v23 v24 v25 (wr .i64 (v26 + 1)) (v27 ++ [x35]) nx
                else
                  none
              else
                none
            else
              bif decide ((v27.length + [x29.2.1].length) * 24 ≤ roomy) then
                f36_l3 k j v22 v23 v24 v25 (wr .i64 (v26 + 1)) (v27 ++ [x29.2.1]) nx
              else
                none
      else
        bif (decide (x31 ≥ 0)) then
          bif decide (0 ≤ (wr .i64 ((x29.2.1.length : Int) - 1))) && decide ((wr .i64 ((x29.2.1.length : Int) - 1)) < (x29.2.1.length : Int)) then
            (x29.2.1[(wr .i64 ((x29.2.1.length : Int) - 1)).toNat]?).bind fun x36 =>
            bif (x36 != x31) then
              nx.2.1 (((), false, ()), ())
            else
              bif (decide (x31 ≥ 0)) then
                bif decide (0 ≤ (wr .i64 ((x29.2.1.length : Int) - 1))) && decide ((wr .i64 ((x29.2.1.length : Int) - 1)) ≤ (x29.2.1.length : Int)) then
                  let x37 : (List Int) := (x29.2.1.take (wr .i64 ((x29.2.1.length : Int) - 1)).toNat)
                  bif decide ((v27.length + [x37].length) * 24 ≤ roomy) then
                    f36_l3 k j v22 v23 v24 v25 (wr .i64 (v26 + 1)) (v27 ++ [x37]) nx
                  else
                    none
                else
                  none
              else
                bif decide ((v27.length + [x29.2.1].length) * 24 ≤ roomy) then
                  f36_l3 k j v22 v23 v24 v25 (wr .i64 (v26 + 1)) (v27 ++ [x29.2.1]) nx
                else
                  none
          else
            none
        else
          bif (decide (x31 ≥ 0)) then
            bif decide (0 ≤ (wr .i64 ((x29.2.1.length : Int) - 1))) && decide ((wr .i64 ((x29.2.1.length : Int) - 1)) ≤ (x29.2.1.length : Int)) then
              let x38 : (List Int) := (x29.2.1.take (wr .i64 ((x29.2.1.length : Int) - 1)).toNat)
              bif decide ((v27.length + [x38].length) * 24 ≤ roomy) then
                f36_l3 k j v22 v23 v24 v25 (wr .i64 (v26 + 1)) (v27 ++ [x38]) nx
              else
                none
            else
              none
          else
            bif decide ((v27.length + [x29.2.1].length) * 24 ≤ roomy) then
              f36_l3 k j v22 v23 v24 v25 (wr .i64 (v26 + 1)) (v27 ++ [x29.2.1]) nx
            else
              none
    else
      nx.1 (((), ()), (v27, ()))
def cf36_l3 (k : Nat) : Cut := { sp := { temps := [(0, .c (.dp (.pair (.int .i64) (.pair (.int .i64) (.pair (.sl (.sl (.int .i64))) (.pair (.int .i64) (.pair (.int .i64) (.sl (.sl (.int .i64)))))))))), (1, .c (.sl (.sl (.int .i64)))), (2, .c (.int .i64)), (3, .c (.sl (.int .i64))), (10, .c (.row 5000000)), (11, .c (.int .i64))], blocks := [(5000000, .own 38 (.s 2 (.d (.int .i64))))], ren := [] }, outs := [(.exit 0, { temps := [(10, .c (.row 5000000))], blocks := [(5000000, .own 38 (.s 2 (.d (.int .i64))))], ren := [] }), (.ret, { temps := [(8, .c (.lit .nils)), (9, .c .bool)], blocks := [], ren := [] })], F := fun ρ j v nx => f36_l3 k j v.1.1 v.1.2.1 v.1.2.2.1 v.1.2.2.2.1 v.1.2.2.2.2.2.1 v.2.1 nx }
def f36 (k : Nat) (a1 : (Int × (Int × ((List (List Int)) × (Int × (Int × (List (List Int)))))))) (a2 : (List (List Int))) (a3 : Int) (a4 : (List Int)) : Option ((Unit × Bool × Unit) × ((List (List Int)) × Unit)) :=
  f36_l3 k k a1 a2 a3 a4 0 ([] : List (List Int))
    (fun x20 : ((Unit × Unit) × ((List (List Int)) × Unit)) =>
      some (((), true, ()), (x20.2.1, ())),
    fun x21 : ((Unit × Bool × Unit) × Unit) =>
      some (((), x21.1.2.1, ()), (([] : List (List Int)), ())),
    ())
def ef36 : Entry := { id := 36, ar := { temps := [(0, .c (.dp (.pair (.int .i64) (.pair (.int .i64) (.pair (.sl (.sl (.int .i64))) (.pair (.int .i64) (.pair (.int .i64) (.sl (.sl (.int .i64)))))))))), (1, .c (.sl (.sl (.int .i64)))), (2, .c (.int .i64)), (3, .c (.sl (.int .i64)))], blocks := [], ren := [] }, res := { temps := [(0, .c (.row 4000000)), (1, .c .bool)], blocks := [(4000000, .own 38 (.s 2 (.d (.int .i64))))], ren := [] }, f := fun k v => f36 k v.1.1 v.1.2.1 v.1.2.2.1 v.1.2.2.2.1 }
def gf36 (k : Nat) : Full := { tt := tt, n := 75, fns := [ef34, ef35], trunc := [69], tails := [], touch := [], opens := [], shapes := [(14, (.s 2 (.d (.int .i64)))), (72, (.s 2 (.d (.int .i64)))), (73, (.s 2 (.d (.int .i64))))], closes := [], k := k, glob := glob, cuts := [(3, (cf36_l3 k))], joins := [] }
theorem of36_l3 (k : Nat) : CutOk (gf36 k) (cf36_l3 k) (theLoop Try.f36 3) := fun ρ v nx => ⟨by kernel_rfl, fun j => by kernel_rfl⟩
theorem qf36 (k : Nat) : AllP (bodyL (gf36 k) Try.f36) := by
  have h : (CutOk (gf36 k) (cf36_l3 k) (theLoop Try.f36 3) ∧ True) = AllP (bodyL (gf36 k) Try.f36) := by kernel_rfl
  exact Eq.mp h (And.intro (of36_l3 k) (trivial))
theorem sf36 : Sound Try.prog glob ef36 := sound_of base (fn := Try.f36) Try.func36 (by kernel_rfl) gf36 (fun _ => ⟨rfl, rfl⟩) (fun k j => ⟨sf34.at j, sf35.at j, trivial⟩) qf36 (fun k v => by kernel_rfl)

/-! spec.l26Find).search -/
def f26_j9 {ρ : Type} (self : (List (List Int)) → (List Int) → Int → Int → Int → Int → (List (List Int)) → (List (List Int)) → Option (Unit × ((Int × Int × Unit × Int × Int × Unit × Unit) × (List (List Int)) × (List (List Int)) × Unit))) (k : Nat) (v74 : (List (List Int))) (v75 : (List Int)) (v76 : Int) (v77 : Int) (v78 : Int) (v79 : Int) (v80 : Int) (v81 : Int) (v82 : (List (List Int))) (v83 : (List (List Int))) (nx : ((((Unit × (List (List Int)) × (List Int) × Int × Int × Unit) × ((Int × Int × Unit × Int × Int × Unit × Unit) × (List (List Int)) × (List (List Int)) × Unit)) → Option ρ) × Unit)) : Option ρ :=
  (f36 k (v78, (v79, (v82, (v80, (v81, v83))))) v74 v77 v75).bind fun x84 =>
  bif x84.1.2.1 then
    (f34 k v75).bind fun x85 =>
    bif decide ((x85.2.1.length + [v77].length) * 8 ≤ roomy) then
      (self x84.2.1 (x85.2.1 ++ [v77]) v78 v79 v80 v81 v82 v83).bind fun x86 =>
      nx.1 (((), v74, v75, v76, v77, ()), ((x86.2.1.1, x86.2.1.2.1, (), x86.2.1.2.2.2.1, x86.2.1.2.2.2.2.1, (), ()), x86.2.2.1, x86.2.2.2.1, ()))
    else
      none
  else
    nx.1 (((), v74, v75, v76, v77, ()), ((v78, v79, (), v80, v81, (), ()), v82, v83, ()))
def cf26_j9 (self : (List (List Int)) → (List Int) → Int → Int → Int → Int → (List (List Int)) → (List (List Int)) → Option (Unit × ((Int × Int × Unit × Int × Int × Unit × Unit) × (List (List Int)) × (List (List Int)) × Unit))) : Cut := { sp := { temps := [(0, .c (.lit (.ptr 3000000 0 0 0))), (1, .c (.sl (.sl (.int .i64)))), (2, .c (.sl (.int .i64))), (6, .c (.int .i64)), (7, .c (.int .i64))], blocks := [(3000000, .box 32 [(.int .i64), (.int .i64), (.lit (.row 3000001)), (.int .i64), (.int .i64), (.row 5000000)]), (3000001, .own 38 (.s 2 (.d (.int .i64)))), (5000000, .own 38 (.s 2 (.d (.int .i64))))], ren := [(3000000, some 3000000), (3000001, some 3000001)] }, outs := [(.normal, { temps := [(0, .c (.lit (.ptr 3000000 0 0 0))), (1, .c (.sl (.sl (.int .i64)))), (2, .c (.sl (.int .i64))), (6, .c (.int .i64)), (7, .c (.int .i64))], blocks := [(3000000, .box 32 [(.int .i64), (.int .i64), (.lit (.row 3000001)), (.int .i64), (.int .i64), (.row 5000000)]), (3000001, .own 38 (.s 2 (.d (.int .i64)))), (5000000, .own 38 (.s 2 (.d (.int .i64))))], ren := [(3000000, some 3000000), (3000001, some 3000001)] })], F := fun ρ k v nx => f26_j9 self k v.1.2.1 v.1.2.2.1 v.1.2.2.2.1 v.1.2.2.2.2.1 v.2.1.1 v.2.1.2.1 v.2.1.2.2.2.1 v.2.1.2.2.2.2.1 v.2.2.1 v.2.2.2.1 nx }
def f26_l6 {ρ : Type} (self : (List (List Int)) → (List Int) → Int → Int → Int → Int → (List (List Int)) → (List (List Int)) → Option (Unit × ((Int × Int × Unit × Int × Int × Unit × Unit) × (List (List Int)) × (List (List Int)) × Unit))) (k : Nat) : Nat → (List (List Int)) → (List Int) → Int → Int → Int → Int → Int → Int → (List (List Int)) → (List (List Int)) → (((Unit × ((Int × Int × Unit × Int × Int × Unit × Unit) × (List (List Int)) × (List (List Int)) × Unit)) → Option ρ) × Unit) → Option ρ
  | 0, _, _, _, _, _, _, _, _, _, _, _ => none
  | j + 1, v61, v62, v63, v64, v65, v66, v67, v68, v69, v70, nx =>
    bif (decide (v64 < v63)) then
      (f35 k v62 v64).bind fun x71 =>
      bif x71.1.1 then
        f26_l6 self k j v61 v62 v63 (wr .i64 (v64 + 1)) v65 v66 v67 v68 v69 v70 nx
      else
        bif (decide (v67 > 0)) then
          bif (v68 == v67) then
            f26_l6 self k j v61 v62 v63 (wr .i64 (v64 + 1)) v65 v66 v67 v68 v69 v70 nx
          else
            f26_j9 self k v61 v62 v63 v64 v65 v66 v67 v68 v69 v70
              (fun x72 : ((Unit × (List (List Int)) × (List Int) × Int × Int × Unit) × ((Int × Int × Unit × Int × Int × Unit × Unit) × (List (List Int)) × (List (List Int)) × Unit)) =>
                f26_l6 self k j x72.1.2.1 x72.1.2.2.1 x72.1.2.2.2.1 (wr .i64 (x72.1.2.2.2.2.1 + 1)) x72.2.1.1 x72.2.1.2.1 x72.2.1.2.2.2.1 x72.2.1.2.2.2.2.1 x72.2.2.1 x72.2.2.2.1 nx,
              ())
        else
          f26_j9 self k v61 v62 v63 v64 v65 v66 v67 v68 v69 v70
            (fun x73 : ((Unit × (List (List Int)) × (List Int) × Int × Int × Unit) × ((Int × Int × Unit × Int × Int × Unit × Unit) × (List (List Int)) × (List (List Int)) × Unit)) =>
              f26_l6 self k j x73.1.2.1 x73.1.2.2.1 x73.1.2.2.2.1 (wr .i64 (x73.1.2.2.2.2.1 + 1)) x73.2.1.1 x73.2.1.2.1 x73.2.1.2.2.2.1 x73.2.1.2.2.2.2.1 x73.2.2.1 x73.2.2.2.1 nx,
            ())
    else
      nx.1 ((), ((v65, v66, (), v67, v68, (), ()), v69, v70, ()))
def cf26_l6 (self : (List (List Int)) → (List Int) → Int → Int → Int → Int → (List (List Int)) → (List (List Int)) → Option (Unit × ((Int × Int × Unit × Int × Int × Unit × Unit) × (List (List Int)) × (List (List Int)) × Unit))) (k : Nat) : Cut := { sp := { temps := [(0, .c (.lit (.ptr 3000000 0 0 0))), (1, .c (.sl (.sl (.int .i64)))), (2, .c (.sl (.int .i64))), (6, .c (.int .i64)), (7, .c (.int .i64))], blocks := [(3000000, .box 32 [(.int .i64), (.int .i64), (.lit (.row 3000001)), (.int .i64), (.int .i64), (.row 5000000)]), (3000001, .own 38 (.s 2 (.d (.int .i64)))), (5000000, .own 38 (.s 2 (.d (.int .i64))))], ren := [(3000000, some 3000000), (3000001, some 3000001)] }, outs := [(.exit 0, { temps := [], blocks := [(3000000, .box 32 [(.int .i64), (.int .i64), (.lit (.row 3000001)), (.int .i64), (.int .i64), (.row 5000000)]), (3000001, .own 38 (.s 2 (.d (.int .i64)))), (5000000, .own 38 (.s 2 (.d (.int .i64))))], ren := [(3000000, some 3000000), (3000001, some 3000001)] })], F := fun ρ j v nx => f26_l6 self k j v.1.2.1 v.1.2.2.1 v.1.2.2.2.1 v.1.2.2.2.2.1 v.2.1.1 v.2.1.2.1 v.2.1.2.2.2.1 v.2.1.2.2.2.2.1 v.2.2.1 v.2.2.2.1 nx }
def f26 : Nat → (List (List Int)) → (List Int) → Int → Int → Int → Int → (List (List Int)) → (List (List Int)) → Option (Unit × ((Int × Int × Unit × Int × Int × Unit × Unit) × (List (List Int)) × (List (List Int)) × Unit))
  | 0, _, _, _, _, _, _, _, _ => none
  | k + 1, a1, a2, a3, a4, a5, a6, a7, a8 =>
    bif ((a2.length : Int) == (wr .i64 (a3 * a4))) then
      bif (decide ((a8.length : Int) < a5)) then
        (f34 k a2).bind fun x59 =>
        bif decide ((a8.length + [x59.2.1].length) * 24 ≤ roomy) then
          some ((), ((a3, a4, (), a5, (wr .i64 (a6 + 1)), (), ()), a7, (a8 ++ [x59.2.1]), ()))
        else
          none
      else
        some ((), ((a3, a4, (), a5, (wr .i64 (a6 + 1)), (), ()), a7, a8, ()))
    else
      f26_l6 (f26 k) k k a1 a2 (wr .i64 (a3 * a4)) 0 a3 a4 a5 a6 a7 a8
        (fun x60 : (Unit × ((Int × Int × Unit × Int × Int × Unit × Unit) × (List (List Int)) × (List (List Int)) × Unit)) =>
          some ((), ((x60.2.1.1, x60.2.1.2.1, (), x60.2.1.2.2.2.1, x60.2.1.2.2.2.2.1, (), ()), x60.2.2.1, x60.2.2.2.1, ())),
        ())
def ef26 : Entry := { id := 26, ar := { temps := [(0, .c (.box 3000000)), (1, .c (.sl (.sl (.int .i64)))), (2, .c (.sl (.int .i64)))], blocks := [(3000000, .box 32 [(.int .i64), (.int .i64), (.row 3000001), (.int .i64), (.int .i64), (.row 3000002)]), (3000001, .own 38 (.s 2 (.d (.int .i64)))), (3000002, .own 38 (.s 2 (.d (.int .i64))))], ren := [] }, res := { temps := [], blocks := [(3000000, .box 32 [(.int .i64), (.int .i64), (.lit (.row 3000001)), (.int .i64), (.int .i64), (.row 4000000)]), (3000001, .own 38 (.s 2 (.d (.int .i64)))), (4000000, .own 38 (.s 2 (.d (.int .i64))))], ren := [(3000000, some 3000000), (3000001, some 3000001)] }, f := fun k v => f26 k v.1.2.1 v.1.2.2.1 v.2.1.1 v.2.1.2.1 v.2.1.2.2.2.1 v.2.1.2.2.2.2.1 v.2.2.1 v.2.2.2.1 }
def gf26 (k : Nat) : Full := { tt := tt, n := 94, fns := [ef34, ef35, ef36, ef26], trunc := [], tails := [], touch := [(4, [(7, [2004600]), (8, [47, 3000002]), (11, [3000000])])], opens := [], shapes := [(47, (.s 2 (.d (.int .i64)))), (48, (.s 2 (.d (.int .i64))))], closes := [], k := k, glob := glob, cuts := [(6, (cf26_l6 (f26 k) k))], joins := [(9, (cf26_j9 (f26 k)))] }
theorem of26_j9 (k : Nat) : JoinOk (gf26 k) (cf26_j9 (f26 k)) (theJoin Try.f26 9) := fun ρ v nx => by kernel_rfl
theorem of26_l6 (k : Nat) : CutOk (gf26 k) (cf26_l6 (f26 k) k) (theLoop Try.f26 6) := fun ρ v nx => ⟨by kernel_rfl, fun j => by kernel_rfl⟩
theorem qf26 (k : Nat) : AllP (bodyL (gf26 k) Try.f26) := by
  have h : (JoinOk (gf26 k) (cf26_j9 (f26 k)) (theJoin Try.f26 9) ∧ CutOk (gf26 k) (cf26_l6 (f26 k) k) (theLoop Try.f26 6) ∧ True) = AllP (bodyL (gf26 k) Try.f26) := by kernel_rfl
  exact Eq.mp h (And.intro (of26_j9 k) (And.intro (of26_l6 k) (trivial)))
theorem sf26 : Sound Try.prog glob ef26 := sound_rec base (fn := Try.f26) Try.func26 (by kernel_rfl) gf26 (fun _ => ⟨rfl, rfl, rfl⟩) (fun k j h => ⟨sf34.at j, sf35.at j, sf36.at j, h, trivial⟩) qf26 (fun v => by kernel_rfl) (fun k v => by kernel_rfl)

/-! spec.l26All -/
def f13 (k : Nat) (a1 : Int) (a2 : Int) (a3 : Int) : Option ((Unit × Unit) × ((Int × Int × Unit × Int × Int × Unit × Unit) × (List (List Int)) × (List (List Int)) × Unit)) :=
  (f25 k a1 a2).bind fun x3 =>
  (f26 k ([([] : List Int), ([] : List Int), ([] : List Int), ([] : List Int)]) ([] : List Int) a1 a2 a3 0 x3.2.1 ([] : List (List Int))).bind fun x4 =>
  some (((), ()), ((x4.2.1.1, x4.2.1.2.1, (), x4.2.1.2.2.2.1, x4.2.1.2.2.2.2.1, (), ()), x4.2.2.1, x4.2.2.2.1, ()))
def ef13 : Entry := { id := 13, ar := { temps := [(0, .c (.int .i64)), (1, .c (.int .i64)), (2, .c (.int .i64))], blocks := [], ren := [] }, res := { temps := [(0, .c (.box 4000000))], blocks := [(4000000, .box 32 [(.int .i64), (.int .i64), (.row 4000001), (.int .i64), (.int .i64), (.row 4000002)]), (4000001, .own 38 (.s 2 (.d (.int .i64)))), (4000002, .own 38 (.s 2 (.d (.int .i64))))], ren := [] }, f := fun k v => f13 k v.1.1 v.1.2.1 v.1.2.2.1 }
def gf13 (k : Nat) : Full := { tt := tt, n := 25, fns := [ef25, ef26], trunc := [], tails := [], touch := [], opens := [], shapes := [(21, (.s 2 (.d (.int .i64))))], closes := [], k := k, glob := glob, cuts := [], joins := [] }
theorem qf13 (k : Nat) : AllP (bodyL (gf13 k) Try.f13) := by
  have h : True = AllP (bodyL (gf13 k) Try.f13) := by kernel_rfl
  exact Eq.mp h trivial
theorem sf13 : Sound Try.prog glob ef13 := sound_of base (fn := Try.f13) Try.func13 (by kernel_rfl) gf13 (fun _ => ⟨rfl, rfl⟩) (fun k j => ⟨sf25.at j, sf26.at j, trivial⟩) qf13 (fun k v => by kernel_rfl)

/-! spec.CountStacks -/
def f5 (k : Nat) (a1 : Int) (a2 : Int) : Option ((Int × Int × Unit) × Unit) :=
  (f12 k a1 a2).bind fun x5 =>
  bif (!x5.1.1) then
    some ((0, 1, ()), ())
  else
    bif (decide ((wr .i64 (a1 * a2)) > 9)) then
      some ((0, 2, ()), ())
    else
      (f13 k a1 a2 0).bind fun x6 =>
      some ((x6.2.1.2.2.2.2.1, 0, ()), ())
def ef5 : Entry := { id := 5, ar := { temps := [(0, .c (.int .i64)), (1, .c (.int .i64))], blocks := [], ren := [] }, res := { temps := [(0, .c (.int .i64)), (1, .c (.int .i64))], blocks := [], ren := [] }, f := fun k v => f5 k v.1.1 v.1.2.1 }
def gf5 (k : Nat) : Full := { tt := tt, n := 20, fns := [ef12, ef13], trunc := [], tails := [], touch := [], opens := [], shapes := [], closes := [], k := k, glob := glob, cuts := [], joins := [] }
theorem qf5 (k : Nat) : AllP (bodyL (gf5 k) Try.f5) := by
  have h : True = AllP (bodyL (gf5 k) Try.f5) := by kernel_rfl
  exact Eq.mp h trivial
theorem sf5 : Sound Try.prog glob ef5 := sound_of base (fn := Try.f5) Try.func5 (by kernel_rfl) gf5 (fun _ => ⟨rfl, rfl⟩) (fun k j => ⟨sf12.at j, sf13.at j, trivial⟩) qf5 (fun k v => by kernel_rfl)

/-! impl.within -/
def f19 (k : Nat) (a1 : Int) (a2 : Int) (a3 : Int) : Option ((Bool × Unit) × Unit) :=
  bif (decide (a1 ≥ a2)) then
    some (((decide (a1 ≤ a3)), ()), ())
  else
    some ((false, ()), ())
def ef19 : Entry := { id := 19, ar := { temps := [(0, .c (.int .i64)), (1, .c (.int .i64)), (2, .c (.int .i64))], blocks := [], ren := [] }, res := { temps := [(0, .c .bool)], blocks := [], ren := [] }, f := fun k v => f19 k v.1.1 v.1.2.1 v.1.2.2.1 }
def gf19 (k : Nat) : Full := { tt := tt, n := 15, fns := [], trunc := [], tails := [], touch := [], opens := [], shapes := [], closes := [], k := k, glob := glob, cuts := [], joins := [] }
theorem qf19 (k : Nat) : AllP (bodyL (gf19 k) Try.f19) := by
  have h : True = AllP (bodyL (gf19 k) Try.f19) := by kernel_rfl
  exact Eq.mp h trivial
theorem sf19 : Sound Try.prog glob ef19 := sound_of base (fn := Try.f19) Try.func19 (by kernel_rfl) gf19 (fun _ => ⟨rfl, rfl⟩) (fun k j => trivial) qf19 (fun k v => by kernel_rfl)

/-! impl.ValidMap -/
def f27 (k : Nat) (a1 : Int) (a2 : Int) : Option ((Bool × Unit) × Unit) :=
  (f19 k a1 1 12).bind fun x3 =>
  bif x3.1.1 then
    (f19 k a2 1 12).bind fun x4 =>
    bif x4.1.1 then
      some (((decide ((wr .i64 (a1 * a2)) ≤ 12)), ()), ())
    else
      some ((false, ()), ())
  else
    some ((false, ()), ())
def ef27 : Entry := { id := 27, ar := { temps := [(0, .c (.int .i64)), (1, .c (.int .i64))], blocks := [], ren := [] }, res := { temps := [(0, .c .bool)], blocks := [], ren := [] }, f := fun k v => f27 k v.1.1 v.1.2.1 }
def gf27 (k : Nat) : Full := { tt := tt, n := 17, fns := [ef19], trunc := [], tails := [], touch := [], opens := [], shapes := [], closes := [], k := k, glob := glob, cuts := [], joins := [] }
theorem qf27 (k : Nat) : AllP (bodyL (gf27 k) Try.f27) := by
  have h : True = AllP (bodyL (gf27 k) Try.f27) := by kernel_rfl
  exact Eq.mp h trivial
theorem sf27 : Sound Try.prog glob ef27 := sound_of base (fn := Try.f27) Try.func27 (by kernel_rfl) gf27 (fun _ => ⟨rfl, rfl⟩) (fun k j => ⟨sf19.at j, trivial⟩) qf27 (fun k v => by kernel_rfl)

/-! impl.stacksCode -/
def f14 (k : Nat) (a1 : Int) (a2 : Int) : Option ((Int × Unit) × Unit) :=
  (f27 k a1 a2).bind fun x2 =>
  bif (!x2.1.1) then
    some ((1, ()), ())
  else
    bif (decide ((wr .i64 (a1 * a2)) > 9)) then
      some ((2, ()), ())
    else
      some ((0, ()), ())
def ef14 : Entry := { id := 14, ar := { temps := [(0, .c (.int .i64)), (1, .c (.int .i64))], blocks := [], ren := [] }, res := { temps := [(0, .c (.int .i64))], blocks := [], ren := [] }, f := fun k v => f14 k v.1.1 v.1.2.1 }
def gf14 (k : Nat) : Full := { tt := tt, n := 15, fns := [ef27], trunc := [], tails := [], touch := [], opens := [], shapes := [], closes := [], k := k, glob := glob, cuts := [], joins := [] }
theorem qf14 (k : Nat) : AllP (bodyL (gf14 k) Try.f14) := by
  have h : True = AllP (bodyL (gf14 k) Try.f14) := by kernel_rfl
  exact Eq.mp h trivial
theorem sf14 : Sound Try.prog glob ef14 := sound_of base (fn := Try.f14) Try.func14 (by kernel_rfl) gf14 (fun _ => ⟨rfl, rfl⟩) (fun k j => ⟨sf27.at j, trivial⟩) qf14 (fun k v => by kernel_rfl)

/-! impl.pairsAt -/
def f28_j11 {ρ : Type} (k : Nat) (v122 : Int) (v123 : Int) (v124 : Int) (v125 : Int) (v126 : Int) (v127 : Int) (v128 : Int) (v129 : Int) (v130 : Int) (v131 : (List (Int × Int))) (nx : ((((Int × Int × Int × Unit × Int × Int × Int × Int × Int × Unit) × ((List (Int × Int)) × Unit)) → Option ρ) × Unit)) : Option ρ :=
  bif (decide ((wr .i64 (v125 + 1)) < v122)) then
    let x132 : Int := (wr .i64 (2 + (wr .i64 (2 * (v125.tmod 2)))))
    bif (v124 == x132) then
      bif decide ((v131.length + [(v126, (wr .i64 (v126 + v123)))].length) * 16 ≤ roomy) then
        nx.1 ((v122, v123, v124, (), v125, v127, v128, v129, v130, ()), ((v131 ++ [(v126, (wr .i64 (v126 + v123)))]), ()))
      else
        none
    else
      nx.1 ((v122, v123, v124, (), v125, v127, v128, v129, v130, ()), (v131, ()))
  else
    nx.1 ((v122, v123, v124, (), v125, v127, v128, v129, v130, ()), (v131, ()))
def cf28_j11 : Cut := { sp := { temps := [(0, .c (.int .i64)), (1, .c (.int .i64)), (2, .c (.int .i64)), (7, .c (.row 5000000)), (8, .c (.int .i64)), (10, .c (.int .i64)), (11, .c (.int .i64)), (12, .c (.int .i64)), (15, .c (.int .i64)), (16, .c (.int .i64))], blocks := [(5000000, .row 53 (.pair (.int .i64) (.int .i64)))], ren := [] }, outs := [(.normal, { temps := [(0, .c (.int .i64)), (1, .c (.int .i64)), (2, .c (.int .i64)), (7, .c (.row 5000000)), (8, .c (.int .i64)), (11, .c (.int .i64)), (12, .c (.int .i64)), (15, .c (.int .i64)), (16, .c (.int .i64))], blocks := [(5000000, .row 53 (.pair (.int .i64) (.int .i64)))], ren := [] })], F := fun ρ k v nx => f28_j11 k v.1.1 v.1.2.1 v.1.2.2.1 v.1.2.2.2.2.1 v.1.2.2.2.2.2.1 v.1.2.2.2.2.2.2.1 v.1.2.2.2.2.2.2.2.1 v.1.2.2.2.2.2.2.2.2.1 v.1.2.2.2.2.2.2.2.2.2.1 v.2.1 nx }
def f28_l6 {ρ : Type} (k : Nat) : Nat → Int → Int → Int → Int → Int → Int → Int → Int → (List (Int × Int)) → ((((Int × Int × Int × Unit × Int × Int × Unit) × ((List (Int × Int)) × Unit)) → Option ρ) × Unit) → Option ρ
  | 0, _, _, _, _, _, _, _, _, _, _ => none
  | j + 1, v100, v101, v102, v103, v104, v105, v106, v107, v108, nx =>
    bif (decide (v107 < v106)) then
      bif (decide ((wr .i64 (v107 + 1)) < v101)) then
        let x109 : Int := (wr .i64 (1 + (wr .i64 (2 * (v107.tmod 2)))))
        bif (v102 == x109) then
          let x110 : Int := (wr .i64 ((wr .i64 ((wr .i64 (v103 * v101)) + v107)) + 1))
          bif decide ((v108.length + [((wr .i64 ((wr .i64 (v103 * v101)) + v107)), x110)].length) * 16 ≤ roomy) then
            let x111 : (List (Int × Int)) := (v108 ++ [((wr .i64 ((wr .i64 (v103 * v101)) + v107)), x110)])
            f28_j11 k v100 v101 v102 v103 (wr .i64 ((wr .i64 (v103 * v101)) + v107)) v104 v105 v106 v107 x111
              (fun x112 : ((Int × Int × Int × Unit × Int × Int × Int × Int × Int × Unit) × ((List (Int × Int)) × Unit)) =>
                f28_l6 k j x112.1.1 x112.1.2.1 x112.1.2.2.1 x112.1.2.2.2.2.1 x112.1.2.2.2.2.2.1 x112.1.2.2.2.2.2.2.1 x112.1.2.2.2.2.2.2.2.1 (wr .i64 (x112.1.2.2.2.2.2.2.2.2.1 + 1)) x112.2.1 nx,
              ())
          else
            none
        else
          f28_j11 k v100 v101 v102 v103 (wr .i64 ((wr .i64 (v103 * v101)) + v107)) v104 v105 v106 v107 v108
            (fun x113 : ((Int × Int × Int × Unit × Int × Int × Int × Int × Int × Unit) × ((List (Int × Int)) × Unit)) =>
              f28_l6 k j x113.1.1 x113.1.2.1 x113.1.2.2.1 x113.1.2.2.2.2.1 x113.1.2.2.2.2.2.1 x113.1.2.2.2.2.2.2.1 x113.1.2.2.2.2.2.2.2.1 (wr .i64 (x113.1.2.2.2.2.2.2.2.2.1 + 1)) x113.2.1 nx,
            ())
      else
        f28_j11 k v100 v101 v102 v103 (wr .i64 ((wr .i64 (v103 * v101)) + v107)) v104 v105 v106 v107 v108
          (fun x114 : ((Int × Int × Int × Unit × Int × Int × Int × Int × Int × Unit) × ((List (Int × Int)) × Unit)) =>
            f28_l6 k j x114.1.1 x114.1.2.1 x114.1.2.2.1 x114.1.2.2.2.2.1 x114.1.2.2.2.2.2.1 x114.1.2.2.2.2.2.2.1 x114.1.2.2.2.2.2.2.2.1 (wr .i64 (x114.1.2.2.2.2.2.2.2.2.1 + 1)) x114.2.1 nx,
          ())
    else
      nx.1 ((v100, v101, v102, (), v104, v105, ()), (v108, ()))
def cf28_l6 (k : Nat) : Cut := { sp := { temps := [(0, .c (.int .i64)), (1, .c (.int .i64)), (2, .c (.int .i64)), (7, .c (.row 5000000)), (8, .c (.int .i64)), (11, .c (.int .i64)), (12, .c (.int .i64)), (15, .c (.int .i64)), (16, .c (.int .i64))], blocks := [(5000000, .row 53 (.pair (.int .i64) (.int .i64)))], ren := [] }, outs := [(.exit 2, { temps := [(0, .c (.int .i64)), (1, .c (.int .i64)), (2, .c (.int .i64)), (7, .c (.row 5000000)), (11, .c (.int .i64)), (12, .c (.int .i64))], blocks := [(5000000, .row 53 (.pair (.int .i64) (.int .i64)))], ren := [] })], F := fun ρ j v nx => f28_l6 k j v.1.1 v.1.2.1 v.1.2.2.1 v.1.2.2.2.2.1 v.1.2.2.2.2.2.1 v.1.2.2.2.2.2.2.1 v.1.2.2.2.2.2.2.2.1 v.1.2.2.2.2.2.2.2.2.1 v.2.1 nx }
def f28_l3 {ρ : Type} (k : Nat) : Nat → Int → Int → Int → Int → Int → (List (Int × Int)) → ((((Unit × Unit) × ((List (Int × Int)) × Unit)) → Option ρ) × Unit) → Option ρ
  | 0, _, _, _, _, _, _, _ => none
  | j + 1, v115, v116, v117, v118, v119, v120, nx =>
    bif (decide (v119 < v118)) then
      f28_l6 k k v115 v116 v117 v119 v118 v119 v116 0 v120
        (fun x121 : ((Int × Int × Int × Unit × Int × Int × Unit) × ((List (Int × Int)) × Unit)) =>
          f28_l3 k j x121.1.1 x121.1.2.1 x121.1.2.2.1 x121.1.2.2.2.2.1 (wr .i64 (x121.1.2.2.2.2.2.1 + 1)) x121.2.1 nx,
        ())
    else
      nx.1 (((), ()), (v120, ()))
def cf28_l3 (k : Nat) : Cut := { sp := { temps := [(0, .c (.int .i64)), (1, .c (.int .i64)), (2, .c (.int .i64)), (7, .c (.row 5000000)), (11, .c (.int .i64)), (12, .c (.int .i64))], blocks := [(5000000, .row 53 (.pair (.int .i64) (.int .i64)))], ren := [] }, outs := [(.exit 0, { temps := [(7, .c (.row 5000000))], blocks := [(5000000, .row 53 (.pair (.int .i64) (.int .i64)))], ren := [] })], F := fun ρ j v nx => f28_l3 k j v.1.1 v.1.2.1 v.1.2.2.1 v.1.2.2.2.2.1 v.1.2.2.2.2.2.1 v.2.1 nx }
def f28 (k : Nat) (a1 : Int) (a2 : Int) (a3 : Int) : Option ((Unit × Unit) × ((List (Int × Int)) × Unit)) :=
  f28_l3 k k a1 a2 a3 a1 0 ([] : List (Int × Int))
    (fun x99 : ((Unit × Unit) × ((List (Int × Int)) × Unit)) =>
      some (((), ()), (x99.2.1, ())),
    ())
def ef28 : Entry := { id := 28, ar := { temps := [(0, .c (.int .i64)), (1, .c (.int .i64)), (2, .c (.int .i64))], blocks := [], ren := [] }, res := { temps := [(0, .c (.row 4000000))], blocks := [(4000000, .row 53 (.pair (.int .i64) (.int .i64)))], ren := [] }, f := fun k v => f28 k v.1.1 v.1.2.1 v.1.2.2.1 }
def gf28 (k : Nat) : Full := { tt := tt, n := 66, fns := [], trunc := [], tails := [], touch := [], opens := [], shapes := [], closes := [], k := k, glob := glob, cuts := [(6, (cf28_l6 k)), (3, (cf28_l3 k))], joins := [(11, cf28_j11)] }
theorem of28_j11 (k : Nat) : JoinOk (gf28 k) cf28_j11 (theJoin Try.f28 11) := fun ρ v nx => by kernel_rfl
theorem of28_l6 (k : Nat) : CutOk (gf28 k) (cf28_l6 k) (theLoop Try.f28 6) := fun ρ v nx => ⟨by kernel_rfl, fun j => by kernel_rfl⟩
theorem of28_l3 (k : Nat) : CutOk (gf28 k) (cf28_l3 k) (theLoop Try.f28 3) := fun ρ v nx => ⟨by kernel_rfl, fun j => by kernel_rfl⟩
theorem qf28 (k : Nat) : AllP (bodyL (gf28 k) Try.f28) := by
  have h : (JoinOk (gf28 k) cf28_j11 (theJoin Try.f28 11) ∧ CutOk (gf28 k) (cf28_l6 k) (theLoop Try.f28 6) ∧ CutOk (gf28 k) (cf28_l3 k) (theLoop Try.f28 3) ∧ True) = AllP (bodyL (gf28 k) Try.f28) := by kernel_rfl
  exact Eq.mp h (And.intro (of28_j11 k) (And.intro (of28_l6 k) (And.intro (of28_l3 k) (trivial))))
theorem sf28 : Sound Try.prog glob ef28 := sound_of base (fn := Try.f28) Try.func28 (by kernel_rfl) gf28 (fun _ => ⟨rfl, rfl⟩) (fun k j => trivial) qf28 (fun k v => by kernel_rfl)

/-! impl.newStacker -/
def f15_l7 {ρ : Type} (k : Nat) : Nat → Int → Int → Int → Int → Int → Int → Int → Bool → Bool → Bool → Bool → Bool → (List (Int × Int)) → (List (Int × Int)) → (List (Int × Int)) → (List (Int × Int)) → (List (Int × Int)) → (List (Int × Int)) → ((((Int × Int × Unit × Int × Unit) × ((Int × Unit) × (Int × Bool × Bool × Bool × Bool × Bool × Unit × Unit × Unit × Unit × Unit × (Unit × Unit) × Unit) × (List (Int × Int)) × (List (Int × Int)) × (List (Int × Int)) × (List (Int × Int)) × (List (Int × Int)) × Unit)) → Option ρ) × Unit) → Option ρ
  | 0, _, _, _, _, _, _, _, _, _, _, _, _, _, _, _, _, _, _, _ => none
  | j + 1, v481, v482, v483, v484, v485, v486, v487, v488, v489, v490, v491, v492, v493, v494, v495, v496, v497, v498, nx =>
    bif (decide (v485 < v484)) then
      bif decide (0 ≤ v485) && decide (v485 < (v493.length : Int)) then
        (v493[v485.toNat]?).bind fun x499 =>
        bif decide (v483 = 0) then
          bif decide (v483 = 0) then
            bif v488 then
              none
            else
              let x692 : (Option Int) := (mapGet (fun (a b : Int) => a == b) x499.1 v494)
              let x693 : (List (Int × Int)) := (mapEnt (fun (a b : Int) => a == b) x499.1 0 v494)
              bif v488 then
                none
              else
                (getI x693 (mapIdx (fun (a b : Int) => a == b) x499.1 v494 : Int)).bind fun x694 =>
                let x695 : (List (Int × Int)) := (x693.set (mapIdx (fun (a b : Int) => a == b) x499.1 v494 : Int).toNat (x694.1, x499.2))
                bif v488 then
                  none
                else
                  let x696 : (Option Int) := (mapGet (fun (a b : Int) => a == b) x499.2 x695)
                  let x697 : (List (Int × Int)) := (mapEnt (fun (a b : Int) => a == b) x499.2 0 x695)
                  bif v488 then
                    none
                  else
                    (getI x697 (mapIdx (fun (a b : Int) => a == b) x499.2 x695 : Int)).bind fun x698 =>
                    let x699 : (List (Int × Int)) := (x697.set (mapIdx (fun (a b : Int) => a == b) x499.2 x695 : Int).toNat (x698.1, x499.1))
                    f15_l7 k j v481 v482 v483 v484 (wr .i64 (v485 + 1)) v486 v487 v488 v489 v490 v491 v492 v493 x699 v495 v496 v497 v498 nx
          else
            bif decide (v483 = 1) then
              bif v488 then
                none
              else
                let x684 : (Option Int) := (mapGet (fun (a b : Int) => a == b) x499.1 v494)
                let x685 : (List (Int × Int)) := (mapEnt (fun (a b : Int) => a == b) x499.1 0 v494)
                bif v488 then
                  none
                else
                  (getI x685 (mapIdx (fun (a b : Int) => a == b) x499.1 v494 : Int)).bind fun x686 =>
                  let x687 : (List (Int × Int)) := (x685.set (mapIdx (fun (a b : Int) => a == b) x499.1 v494 : Int).toNat (x686.1, x499.2))
                  bif v489 then
                    none
                  else
                    let x688 : (Option Int) := (mapGet (fun (a b : Int) => a == b) x499.2 v495)
                    let x689 : (List (Int × Int)) := (mapEnt (fun (a b : Int) => a == b) x499.2 0 v495)
                    bif v489 then
                      none
                    else
                      (getI x689 (mapIdx (fun (a b : Int) => a == b) x499.2 v495 : Int)).bind fun x690 =>
                      let x691 : (List (Int × Int)) := (x689.set (mapIdx (fun (a b : Int) => a == b) x499.2 v495 : Int).toNat (x690.1, x499.1))
                      f15_l7 k j v481 v482 v483 v484 (wr .i64 (v485 + 1)) v486 v487 v488 v489 v490 v491 v492 v493 x687 x691 v496 v497 v498 nx
            else
              bif decide (v483 = 2) then
                bif v488 then
                  none
                else
                  let x676 : (Option Int) := (mapGet (fun (a b : Int) => a == b) x499.1 v494)
                  let x677 : (List (Int × Int)) := (mapEnt (fun (a b : Int) => a == b) x499.1 0 v494)
                  bif v488 then
                    none
                  else
                    (getI x677 (mapIdx (fun (a b : Int) => a == b) x499.1 v494 : Int)).bind fun x678 =>
                    let x679 : (List (Int × Int)) := (x677.set (mapIdx (fun (a b : Int) => a == b) x499.1 v494 : Int).toNat (x678.1, x499.2))
                    bif v490 then
                      none
                    else
                      let x680 : (Option Int) := (mapGet (fun (a b : Int) => a == b) x499.2 v496)
                      let x681 : (List (Int × Int)) := (mapEnt (fun (a b : Int) => a == b) x499.2 0 v496)
                      bif v490 then
                        none
                      else
                        (getI x681 (mapIdx (fun (a b : Int) => a == b) x499.2 v496 : Int)).bind fun x682 =>
                        let x683 : (List (Int × Int)) := (x681.set (mapIdx (fun (a b : Int) => a == b) x499.2 v496 : Int).toNat (x682.1, x499.1))
                        f15_l7 k j v481 v482 v483 v484 (wr .i64 (v485 + 1)) v486 v487 v488 v489 v490 v491 v492 v493 x679 v495 x683 v497 v498 nx
              else
                bif decide (v483 = 3) then
                  bif v488 then
                    none
                  else
                    let x668 : (Option Int) := (mapGet (fun (a b : Int) => a == b) x499.1 v494)
                    let x669 : (List (Int × Int)) := (mapEnt (fun (a b : Int) => a == b) x499.1 0 v494)
                    bif v488 then
                      none
                    else
                      (getI x669 (mapIdx (fun (a b : Int) => a == b) x499.1 v494 : Int)).bind fun x670 =>
                      let x671 : (List (Int × Int)) := (x669.set (mapIdx (fun (a b : Int) => a == b) x499.1 v494 : Int).toNat (x670.1, x499.2))
                      bif v491 then
                        none
                      else
                        let x672 : (Option Int) := (mapGet (fun (a b : Int) => a == b) x499.2 v497)
                        let x673 : (List (Int × Int)) := (mapEnt (fun (a b : Int) => a == b) x499.2 0 v497)
                        bif v491 then
                          none
                        else
                          (getI x673 (mapIdx (fun (a b : Int) => a == b) x499.2 v497 : Int)).bind fun x674 =>
                          let x675 : (List (Int × Int)) := (x673.set (mapIdx (fun (a b : Int) => a == b) x499.2 v497 : Int).toNat (x674.1, x499.1))
                          f15_l7 k j v481 v482 v483 v484 (wr .i64 (v485 + 1)) v486 v487 v488 v489 v490 v491 v492 v493 x671 v495 v496 x675 v498 nx
                else
                  bif decide (v483 = 4) then
                    bif v488 then
                      none
                    else
                      let x660 : (Option Int) := (mapGet (fun (a b : Int) => a == b) x499.1 v494)
                      let x661 : (List (Int × Int)) := (mapEnt (fun (a b : Int) => a == b) x499.1 0 v494)
                      bif v488 then
                        none
                      else
                        (getI x661 (mapIdx (fun (a b : Int) => a == b) x499.1 v494 : Int)).bind fun x662 =>
                        let x663 : (List (Int × Int)) := (x661.set (mapIdx (fun (a b : Int) => a == b) x499.1 v494 : Int).toNat (x662.1, x499.2))
                        bif v492 then
                          none
                        else
                          let x664 : (Option Int) := (mapGet (fun (a b : Int) => a == b) x499.2 v498)
                          let x665 : (List (Int × Int)) := (mapEnt (fun (a b : Int) => a == b) x499.2 0 v498)
                          bif v492 then
                            none
                          else
                            (getI x665 (mapIdx (fun (a b : Int) => a == b) x499.2 v498 : Int)).bind fun x666 =>
                            let x667 : (List (Int × Int)) := (x665.set (mapIdx (fun (a b : Int) => a == b) x499.2 v498 : Int).toNat (x666.1, x499.1))
                            f15_l7 k j v481 v482 v483 v484 (wr .i64 (v485 + 1)) v486 v487 v488 v489 v490 v491 v492 v493 x663 v495 v496 v497 x667 nx
                  else
                    none
        else
          bif decide (v483 = 1) then
            bif decide (v483 = 0) then
              bif v489 then
                none
              else
                let x652 : (Option Int) := (mapGet (fun (a b : Int) => a == b) x499.1 v495)
                let x653 : (List (Int × Int)) := (mapEnt (fun (a b : Int) => a == b) x499.1 0 v495)
                bif v489 then
                  none
                else
                  (getI x653 (mapIdx (fun (a b : Int) => a == b) x499.1 v495 : Int)).bind fun x654 =>
                  let x655 : (List (Int × Int)) := (x653.set (mapIdx (fun (a b : Int) => a == b) x499.1 v495 : Int).toNat (x654.1, x499.2))
                  bif v488 then
                    none
                  else
                    let x656 : (Option Int) := (mapGet (fun (a b : Int) => a == b) x499.2 v494)
                    let x657 : (List (Int × Int)) := (mapEnt (fun (a b : Int) => a == b) x499.2 0 v494)
                    bif v488 then
                      none
                    else
                      (getI x657 (mapIdx (fun (a b : Int) => a == b) x499.2 v494 : Int)).bind fun x658 =>
                      let x659 : (List (Int × Int)) := (x657.set (mapIdx (fun (a b : Int) => a == b) x499.2 v494 : Int).toNat (x658.1, x499.1))
                      f15_l7 k j v481 v482 v483 v484 (wr .i64 (v485 + 1)) v486 v487 v488 v489 v490 v491 v492 v493 x659 x655 v496 v497 v498 nx
            else
              bif decide (v483 = 1) then
                bif v489 then
                  none
                else
                  let x644 : (Option Int) := (mapGet (fun (a b : Int) => a == b) x499.1 v495)
                  let x645 : (List (Int × Int)) := (mapEnt (fun (a b : Int) => a == b) x499.1 0 v495)
                  bif v489 then
                    none
                  else
                    (getI x645 (mapIdx (fun (a b : Int) => a == b) x499.1 v495 : Int)).bind fun x646 =>
                    let x647 : (List (Int × Int)) := (x645.set (mapIdx (fun (a b : Int) => a == b) x499.1 v495 : Int).toNat (x646.1, x499.2))
                    bif v489 then
                      none
                    else
                      let x648 : (Option Int) := (mapGet (fun (a b : Int) => a == b) x499.2 x647)
                      let x649 : (List (Int × Int)) := (mapEnt (fun (a b : Int) => a == b) x499.2 0 x647)
                      bif v489 then
                        none
                      else
                        (getI x649 (mapIdx (fun (a b : Int) => a == b) x499.2 x647 : Int)).bind fun x650 =>
                        let x651 : (List (Int × Int)) := (x649.set (mapIdx (fun (a b : Int) => a == b) x499.2 x647 : Int).toNat (x650.1, x499.1))
                        f15_l7 k j v481 v482 v483 v484 (wr .i64 (v485 + 1)) v486 v487 v488 v489 v490 v491 v492 v493 v494 x651 v496 v497 v498 nx
              else
                bif decide (v483 = 2) then
                  bif v489 then
                    none
                  else
                    let x636 : (Option Int) := (mapGet (fun (a b : Int) => a == b) x499.1 v495)
                    let x637 : (List (Int × Int)) := (mapEnt (fun (a b : Int) => a == b) x499.1 0 v495)
                    bif v489 then
                      none
                    else
                      (getI x637 (mapIdx (fun (a b : Int) => a == b) x499.1 v495 : Int)).bind fun x638 =>
                      let x639 : (List (Int × Int)) := (x637.set (mapIdx (fun (a b : Int) => a == b) x499.1 v495 : Int).toNat (x638.1, x499.2))
                      bif v490 then
                        none
                      else
                        let x640 : (Option Int) := (mapGet (fun (a b : Int) => a == b) x499.2 v496)
                        let x641 : (List (Int × Int)) := (mapEnt (fun (a b : Int) => a == b) x499.2 0 v496)
                        bif v490 then
                          none
                        else
                          (getI x641 (mapIdx (fun (a b : Int) => a == b) x499.2 v496 : Int)).bind fun x642 =>
                          let x643 : (List (Int × Int)) := (x641.set (mapIdx (fun (a b : Int) => a == b) x499.2 v496 : Int).toNat (x642.1, x499.1))
                          f15_l7 k j v481 v482 v483 v484 (wr .i64 (v485 + 1)) v486 v487 v488 v489 v490 v491 v492 v493 v494 x639 x643 v497 v498 nx
                else
                  bif decide (v483 = 3) then
                    bif v489 then
                      none
                    else
                      let x628 : (Option Int) := (mapGet (fun (a b : Int) => a == b) x499.1 v495)
                      let x629 : (List (Int × Int)) := (mapEnt (fun (a b : Int) => a == b) x499.1 0 v495)
                      bif v489 then
                        none
                      else
                        (getI x629 (mapIdx (fun (a b : Int) => a == b) x499.1 v495 : Int)).bind fun x630 =>
                        let x631 : (List (Int × Int)) := (x629.set (mapIdx (fun (a b : Int) => a == b) x499.1 v495 : Int).toNat (x630.1, x499.2))
                        bif v491 then
                          none
                        else
                          let x632 : (Option Int) := (mapGet (fun (a b : Int) => a == b) x499.2 v497)
                          let x633 : (List (Int × Int)) := (mapEnt (fun (a b : Int) => a == b) x499.2 0 v497)
                          bif v491 then
                            none
                          else
                            (getI x633 (mapIdx (fun (a b : Int) => a == b) x499.2 v497 : Int)).bind fun x634 =>
                            let x635 : (List (Int × Int)) := (x633.set (mapIdx (fun (a b : Int) => a == b) x499.2 v497 : Int).toNat (x634.1, x499.1))
                            f15_l7 k j v481 v482 v483 v484 (wr .i64 (v485 + 1)) v486 v487 v488 v489 v490 v491 v492 v493 v494 x631 v496 x635 v498 nx
                  else
                    bif decide (v483 = 4) then
                      bif v489 then
                        none
                      else
                        let x620 : (Option Int) := (mapGet (fun (a b : Int) => a == b) x499.1 v495)
                        let x621 : (List (Int × Int)) := (mapEnt (fun (a b : Int) => a == b) x499.1 0 v495)
                        bif v489 then
                          none
                        else
                          (getI x621 (mapIdx (fun (a b : Int) => a == b) x499.1 v495 : Int)).bind fun x622 =>
                          let x623 : (List (Int × Int)) := (x621.set (mapIdx (fun (a b : Int) => a == b) x499.1 v495 : Int).toNat (x622.1, x499.2))
                          bif v492 then
                            none
                          else
                            let x624 : (Option Int) := (mapGet (fun (a b : Int) => a == b) x499.2 v498)
                            let x625 : (List (Int × Int)) := (mapEnt (fun (a b : Int) => a == b) x499.2 0 v498)
                            bif v492 then
                              none
                            else
                              (getI x625 (mapIdx (fun (a b : Int) => a == b) x499.2 v498 : Int)).bind fun x626 =>
                              let x627 : (List (Int × Int)) := (x625.set (mapIdx (fun (a b : Int) => a == b) x499.2 v498 : Int).toNat (x626.1, x499.1))
                              f15_l7 k j v481 v482 v483 v484 (wr .i64 (v485 + 1)) v486 v487 v488 v489 v490 v491 v492 v493 v494 x623 v496 v497 x627 nx
                    else
                      none
          else
            bif decide (v483 = 2) then
              bif decide (v483 = 0) then
                bif v490 then
                  none
                else
                  let x612 : (Option Int) := (mapGet (fun (a b : Int) => a == b) x499.1 v496)
                  let x613 : (List (Int × Int)) := (mapEnt (fun (a b : Int) => a == b) x499.1 0 v496)
                  bif v490 then
                    none
                  else
                    (getI x613 (mapIdx (fun (a b : Int) => a == b) x499.1 v496 : Int)).bind fun x614 =>
                    let x615 : (List (Int × Int)) := (x613.set (mapIdx (fun (a b : Int) => a == b) x499.1 v496 : Int).toNat (x614.1, x499.2))
                    bif v488 then
                      none
                    else
                      let x616 : (Option Int) := (mapGet (fun (a b : Int) => a == b) x499.2 v494)
                      let x617 : (List (Int × Int)) := (mapEnt (fun (a b : Int) => a == b) x499.2 0 v494)
                      bif v488 then
                        none
                      else
                        (getI x617 (mapIdx (fun (a b : Int) => a == b) x499.2 v494 : Int)).bind fun x618 =>
                        let x619 : (List (Int × Int)) := (x617.set (mapIdx (fun (a b : Int) => a == b) x499.2 v494 : Int).toNat (x618.1, x499.1))
                        f15_l7 k j v481 v482 v483 v484 (wr .i64 (v485 + 1)) v486 v487 v488 v489 v490 v491 v492 v493 x619 v495 x615 v497 v498 nx
              else
                bif decide (v483 = 1) then
                  bif v490 then
                    none
                  else
                    let x604 : (Option Int) := (mapGet (fun (a b : Int) => a == b) x499.1 v496)
                    let x605 : (List (Int × Int)) := (mapEnt (fun (a b : Int) => a == b) x499.1 0 v496)
                    bif v490 then
                      none
                    else
                      (getI x605 (mapIdx (fun (a b : Int) => a == b) x499.1 v496 : Int)).bind fun x606 =>
                      let x607 : (List (Int × Int)) := (x605.set (mapIdx (fun (a b : Int) => a == b) x499.1 v496 : Int).toNat (x606.1, x499.2))
                      bif v489 then
                        none
                      else
                        let x608 : (Option Int) := (mapGet (fun (a b : Int) => a == b) x499.2 v495)
                        let x609 : (List (Int × Int)) := (mapEnt (fun (a b : Int) => a == b) x499.2 0 v495)
                        bif v489 then
                          none
                        else
                          (getI x609 (mapIdx (fun (a b : Int) => a == b) x499.2 v495 : Int)).bind fun x610 =>
                          let x611 : (List (Int × Int)) := (x609.set (mapIdx (fun (a b : Int) => a == b) x499.2 v495 : Int).toNat (x610.1, x499.1))
                          f15_l7 k j v481 v482 v483 v484 (wr .i64 (v485 + 1)) v486 v487 v488 v489 v490 v491 v492 v493 v494 x611 x607 v497 v498 nx
                else
                  bif decide (v483 = 2) then
                    bif v490 then
                      none
                    else
                      let x596 : (Option Int) := (mapGet (fun (a b : Int) => a == b) x499.1 v496)
                      let x597 : (List (Int × Int)) := (mapEnt (fun (a b : Int) => a == b) x499.1 0 v496)
                      bif v490 then
                        none
                      else
                        (getI x597 (mapIdx (fun (a b : Int) => a == b) x499.1 v496 : Int)).bind fun x598 =>
                        let x599 : (List (Int × Int)) := (x597.set (mapIdx (fun (a b : Int) => a == b) x499.1 v496 : Int).toNat (x598.1, x499.2))
                        bif v490 then
                          none
                        else
                          let x600 : (Option Int) := (mapGet (fun (a b : Int) => a == b) x499.2 x599)
                          let x601 : (List (Int × Int)) := (mapEnt (fun (a b : Int) => a == b) x499.2 0 x599)
                          bif v490 then
                            none
                          else
                            (getI x601 (mapIdx (fun (a b : Int) => a == b) x499.2 x599 : Int)).bind fun x602 =>
                            let x603 : (List (Int × Int)) := (x601.set (mapIdx (fun (a b : Int) => a == b) x499.2 x599 : Int).toNat (x602.1, x499.1))
                            f15_l7 k j v481 v482 v483 v484 (wr .i64 (v485 + 1)) v486 v487 v488 v489 v490 v491 v492 v493 v494 v495 x603 v497 v498 nx
                  else
                    bif decide (v483 = 3) then
                      bif v490 then
                        none
                      else
                        let x588 : (Option Int) := (mapGet (fun (a b : Int) => a == b) x499.1 v496)
                        let x589 : (List (Int × Int)) := (mapEnt (fun (a b : Int) => a == b) x499.1 0 v496)
                        bif v490 then
                          none
                        else
                          (getI x589 (mapIdx (fun (a b : Int) => a == b) x499.1 v496 : Int)).bind fun x590 =>
                          let x591 : (List (Int × Int)) := (x589.set (mapIdx (fun (a b : Int) => a == b) x499.1 v496 : Int).toNat (x590.1, x499.2))
                          bif v491 then
                            none
                          else
                            let x592 : (Option Int) := (mapGet (fun (a b : Int) => a == b) x499.2 v497)
                            let x593 : (List (Int × Int)) := (mapEnt (fun (a b : Int) => a == b) x499.2 0 v497)
                            bif v491 then
                              none
                            else
                              (getI x593 (mapIdx (fun (a b : Int) => a == b) x499.2 v497 : Int)).bind fun x594 =>
                              let x595 : (List (Int × Int)) := (x593.set (mapIdx (fun (a b : Int) => a == b) x499.2 v497 : Int).toNat (x594.1, x499.1))
                              f15_l7 k j v481 v482 v483 v484 (wr .i64 (v485 + 1)) v486 v487 v488 v489 v490 v491 v492 v493 v494 v495 x591 x595 v498 nx
                    else
                      bif decide (v483 = 4) then
                        bif v490 then
                          none
                        else
                          let x580 : (Option Int) := (mapGet (fun (a b : Int) => a == b) x499.1 v496)
                          let x581 : (List (Int × Int)) := (mapEnt (fun (a b : Int) => a == b) x499.1 0 v496)
                          bif v490 then
                            none
                          else
                            (getI x581 (mapIdx (fun (a b : Int) => a == b) x499.1 v496 : Int)).bind fun x582 =>
                            let x583 : (List (Int × Int)) := (x581.set (mapIdx (fun (a b : Int) => a == b) x499.1 v496 : Int).toNat (x582.1, x499.2))
                            bif v492 then
                              none
                            else
                              let x584 : (Option Int) := (mapGet (fun (a b : Int) => a == b) x499.2 v498)
                              let x585 : (List (Int × Int)) := (mapEnt (fun (a b : Int) => a == b) x499.2 0 v498)
                              bif v492 then
                                none
                              else
                                (getI x585 (mapIdx (fun (a b : Int) => a == b) x499.2 v498 : Int)).bind fun x586 =>
                                let x587 : (List (Int × Int)) := (x585.set (mapIdx (fun (a b : Int) => a == b) x499.2 v498 : Int).toNat (x586.1, x499.1))
                                f15_l7 k j v481 v482 v483 v484 (wr .i64 (v485 + 1)) v486 v487 v488 v489 v490 v491 v492 v493 v494 v495 x583 v497 x587 nx
                      else
                        none
            else
              bif decide (v483 = 3) then
                bif decide (v483 = 0) then
                  bif v491 then
                    none
                  else
                    let x572 : (Option Int) := (mapGet (fun (a b : Int) => a == b) x499.1 v497)
                    let x573 : (List (Int × Int)) := (mapEnt (fun (a b : Int) => a == b) x499.1 0 v497)
                    bif v491 then
                      none
                    else
                      (getI x573 (mapIdx (fun (a b : Int) => a == b) x499.1 v497 : Int)).bind fun x574 =>
                      let x575 : (List (Int × Int)) := (x573.set (mapIdx (fun (a b : Int) => a == b) x499.1 v497 : Int).toNat (x574.1, x499.2))
                      bif v488 then
                        none
                      else
                        let x576 : (Option Int) := (mapGet (fun (a b : Int) => a == b) x499.2 v494)
                        let x577 : (List (Int × Int)) := (mapEnt (fun (a b : Int) => a == b) x499.2 0 v494)
                        bif v488 then
                          none
                        else
                          (getI x577 (mapIdx (fun (a b : Int) => a == b) x499.2 v494 : Int)).bind fun x578 =>
                          let x579 : (List (Int × Int)) := (x577.set (mapIdx (fun (a b : Int) => a == b) x499.2 v494 : Int).toNat (x578.1, x499.1))
                          f15_l7 k j v481 v482 v483 v484 (wr .i64 (v485 + 1)) v486 v487 v488 v489 v490 v491 v492 v493 x579 v495 v496 x575 v498 nx
                else
                  bif decide (v483 = 1) then
                    bif v491 then
                      none
                    else
                      let x564 : (Option Int) := (mapGet (fun (a b : Int) => a == b) x499.1 v497)
                      let x565 : (List (Int × Int)) := (mapEnt (fun (a b : Int) => a == b) x499.1 0 v497)
                      bif v491 then
                        none
                      else
                        (getI x565 (mapIdx (fun (a b : Int) => a == b) x499.1 v497 : Int)).bind fun x566 =>
                        let x567 : (List (Int × Int)) := (x565.set (mapIdx (fun (a b : Int) => a == b) x499.1 v497 : Int).toNat (x566.1, x499.2))
                        bif v489 then
                          none
                        else
                          let x568 : (Option Int) := (mapGet (fun (a b : Int) => a == b) x499.2 v495)
                          let x569 : (List (Int × Int)) := (mapEnt (fun (a b : Int) => a == b) x499.2 0 v495)
                          bif v489 then
                            none
                          else
                            (getI x569 (mapIdx (fun (a b : Int) => a == b) x499.2 v495 : Int)).bind fun x570 =>
                            let x571 : (List (Int × Int)) := (x569.set (mapIdx (fun (a b : Int) => a == b) x499.2 v495 : Int).toNat (x570.1, x499.1))
                            f15_l7 k j v481 v482 v483 v484 (wr .i64 (v485 + 1)) v486 v487 v488 v489 v490 v491 v492 v493 v494 x571 v496 x567 v498 nx
                  else
                    bif decide (v483 = 2) then
                      bif v491 then
                        none
                      else
                        let x556 : (Option Int) := (mapGet (fun (a b : Int) => a == b) x499.1 v497)
                        let x557 : (List (Int × Int)) := (mapEnt (fun (a b : Int) => a == b) x499.1 0 v497)
                        bif v491 then
                          none
                        else
                          (getI x557 (mapIdx (fun (a b : Int) => a == b) x499.1 v497 : Int)).bind fun x558 =>
                          let x559 : (List (Int × Int)) := (x557.set (mapIdx (fun (a b : Int) => a == b) x499.1 v497 : Int).toNat (x558.1, x499.2))
                          bif v490 then
                            none
                          else
                            let x560 : (Option Int) := (mapGet (fun (a b : Int) => a == b) x499.2 v496)
                            let x561 : (List (Int × Int)) := (mapEnt (fun (a b : Int) => a == b) x499.2 0 v496)
                            bif v490 then
                              none
                            else
                              (getI x561 (mapIdx (fun (a b : Int) => a == b) x499.2 v496 : Int)).bind fun x562 =>
                              let x563 : (List (Int × Int)) := (x561.set (mapIdx (fun (a b : Int) => a == b) x499.2 v496 : Int).toNat (x562.1, x499.1))
                              f15_l7 k j v481 v482 v483 v484 (wr .i64 (v485 + 1)) v486 v487 v488 v489 v490 v491 v492 v493 v494 v495 x563 x559 v498 nx
                    else
                      bif decide (v483 = 3) then
                        bif v491 then
                          none
                        else
                          let x548 : (Option Int) := (mapGet (fun (a b : Int) => a == b) x499.1 v497)
                          let x549 : (List (Int × Int)) := (mapEnt (fun (a b : Int) => a == b) x499.1 0 v497)
                          bif v491 then
                            none
                          else
                            (getI x549 (mapIdx (fun (a b : Int) => a == b) x499.1 v497 : Int)).bind fun x550 =>
                            let x551 : (List (Int × Int)) := (x549.set (mapIdx (fun (a b : Int) => a == b) x499.1 v497 : Int).toNat (x550.1, x499.2))
                            bif v491 then
                              none
                            else
                              let x552 : (Option Int) := (mapGet (fun (a b : Int) => a == b) x499.2 x551)
                              let x553 : (List (Int × Int)) := (mapEnt (fun (a b : Int) => a == b) x499.2 0 x551)
                              bif v491 then
                                none
                              else
                                (getI x553 (mapIdx (fun (a b : Int) => a == b) x499.2 x551 : Int)).bind fun x554 =>
                                let x555 : (List (Int × Int)) := (x553.set (mapIdx (fun (a b : Int) => a == b) x499.2 x551 : Int).toNat (x554.1, x499.1))
                                f15_l7 k j v481 v482 v483 v484 (wr .i64 (v485 + 1)) v486 v487 v488 v489 v490 v491 v492 v493 v494 v495 v496 x555 v498 nx
                      else
                        bif decide (v483 = 4) then
                          bif v491 then
                            none
                          else
                            let x540 : (Option Int) := (mapGet (fun (a b : Int) => a == b) x499.1 v497)
                            let x541 : (List (Int × Int)) := (mapEnt (fun (a b : Int) => a == b) x499.1 0 v497)
                            bif v491 then
                              none
                            else
                              (getI x541 (mapIdx (fun (a b : Int) => a == b) x499.1 v497 : Int)).bind fun x542 =>
                              let x543 : (List (Int × Int)) := (x541.set (mapIdx (fun (a b : Int) => a == b) x499.1 v497 : Int).toNat (x542.1, x499.2))
                              bif v492 then
                                none
                              else
                                let x544 : (Option Int) := (mapGet (fun (a b : Int) => a == b) x499.2 v498)
                                let x545 : (List (Int × Int)) := (mapEnt (fun (a b : Int) => a == b) x499.2 0 v498)
                                bif v492 then
                                  none
                                else
                                  (getI x545 (mapIdx (fun (a b : Int) => a == b) x499.2 v498 : Int)).bind fun x546 =>
                                  let x547 : (List (Int × Int)) := (x545.set (mapIdx (fun (a b : Int) => a == b) x499.2 v498 : Int).toNat (x546.1, x499.1))
                                  f15_l7 k j v481 v482 v483 v484 (wr .i64 (v485 + 1)) v486 v487 v488 v489 v490 v491 v492 v493 v494 v495 v496 x543 x547 nx
                        else
                          none
              else
                bif decide (v483 = 4) then
                  bif decide (v483 = 0) then
                    bif v492 then
                      none
                    else
                      let x532 : (Option Int) := (mapGet (fun (a b : Int) => a == b) x499.1 v498)
                      let x533 : (List (Int × Int)) := (mapEnt (fun (a b : Int) => a == b) x499.1 0 v498)
                      bif v492 then
                        none
                      else
                        (getI x533 (mapIdx (fun (a b : Int) => a == b) x499.1 v498 : Int)).bind fun x534 =>
                        let x535 : (List (Int × Int)) := (x533.set (mapIdx (fun (a b : Int) => a == b) x499.1 v498 : Int).toNat (x534.1, x499.2))
                        bif v488 then
                          none
                        else
                          let x536 : (Option Int) := (mapGet (fun (a b : Int) => a == b) x499.2 v494)
                          let x537 : (List (Int × Int)) := (mapEnt (fun (a b : Int) => a == b) x499.2 0 v494)
                          bif v488 then
                            none
                          else
                            (getI x537 (mapIdx (fun (a b : Int) => a == b) x499.2 v494 : Int)).bind fun x538 =>
                            let x539 : (List (Int × Int)) := (x537.set (mapIdx (fun (a b : Int) => a == b) x499.2 v494 : Int).toNat (x538.1, x499.1))
                            f15_l7 k j v481 v482 v483 v484 (wr .i64 (v485 + 1)) v486 v487 v488 v489 v490 v491 v492 v493 x539 v495 v496 v497 x535 nx
                  else
                    bif decide (v483 = 1) then
                      bif v492 then
                        none
                      else
                        let x524 : (Option Int) := (mapGet (fun (a b : Int) => a == b) x499.1 v498)
                        let x525 : (List (Int × Int)) := (mapEnt (fun (a b : Int) => a == b) x499.1 0 v498)
                        bif v492 then
                          none
                        else
                          (getI x525 (mapIdx (fun (a b : Int) => a == b) x499.1 v498 : Int)).bind fun x526 =>
                          let x527 : (List (Int × Int)) := (x525.set (mapIdx (fun (a b : Int) => a == b) x499.1 v498 : Int).toNat (x526.1, x499.2))
                          bif v489 then
                            none
                          else
                            let x528 : (Option Int) := (mapGet (fun (a b : Int) => a == b) x499.2 v495)
                            let x529 : (List (Int × Int)) := (mapEnt (fun (a b : Int) => a == b) x499.2 0 v495)
                            bif v489 then
                              none
                            else
                              (getI x529 (mapIdx (fun (a b : Int) => a == b) x499.2 v495 : Int)).bind fun x530 =>
                              let x531 : (List (Int × Int)) := (x529.set (mapIdx (fun (a b : Int) => a == b) x499.2 v495 : Int).toNat (x530.1, x499.1))
                              f15_l7 k j v481 v482 v483 v484 (wr .i64 (v485 + 1)) v486 v487 v488 v489 v490 v491 v492 v493 v494 x531 v496 v497 x527 nx
                    else
                      bif decide (v483 = 2) then
                        bif v492 then
                          none
                        else
                          let x516 : (Option Int) := (mapGet (fun (a b : Int) => a == b) x499.1 v498)
                          let x517 : (List (Int × Int)) := (mapEnt (fun (a b : Int) => a == b) x499.1 0 v498)
                          bif v492 then
                            none
                          else
                            (getI x517 (mapIdx (fun (a b : Int) => a == b) x499.1 v498 : Int)).bind fun x518 =>
                            let x519 : (List (Int × Int)) := (x517.set (mapIdx (fun (a b : Int) => a == b) x499.1 v498 : Int).toNat (x518.1, x499.2))
                            bif v490 then
                              none
                            else
                              let x520 : (Option Int) := (mapGet (fun (a b : Int) => a == b) x499.2 v496)
                              let x521 : (List (Int × Int)) := (mapEnt (fun (a b : Int) => a == b) x499.2 0 v496)
                              bif v490 then
                                none
                              else
                                (getI x521 (mapIdx (fun (a b : Int) => a == b) x499.2 v496 : Int)).bind fun x522 =>
                                let x523 : (List (Int × Int)) := (x521.set (mapIdx (fun (a b : Int) => a == b) x499.2 v496 : Int).toNat (x522.1, x499.1))
                                f15_l7 k j v481 v482 v483 v484 (wr .i64 (v485 + 1)) v486 v487 v488 v489 v490 v491 v492 v493 v494 v495 x523 v497 x519 nx
                      else
                        bif decide (v483 = 3) then
                          bif v492 then
                            none
                          else
                            let x508 : (Option Int) := (mapGet (fun (a b : Int) => a == b) x499.1 v498)
                            let x509 : (List (Int × Int)) := (mapEnt (fun (a b : Int) => a == b) x499.1 0 v498)
                            bif v492 then
                              none
                            else
                              (getI x509 (mapIdx (fun (a b : Int) => a == b) x499.1 v498 : Int)).bind fun x510 =>
                              let x511 : (List (Int × Int)) := (x509.set (mapIdx (fun (a b : Int) => a == b) x499.1 v498 : Int).toNat (x510.1, x499.2))
                              bif v491 then
                                none
                              else
                                let x512 : (Option Int) := (mapGet (fun (a b : Int) => a == b) x499.2 v497)
                                let x513 : (List (Int × Int)) := (mapEnt (fun (a b : Int) => a == b) x499.2 0 v497)
                                bif v491 then
                                  none
                                else
                                  (getI x513 (mapIdx (fun (a b : Int) => a == b) x499.2 v497 : Int)).bind fun x514 =>
                                  let x515 : (List (Int × Int)) := (x513.set (mapIdx (fun (a b : Int) => a == b) x499.2 v497 : Int).toNat (x514.1, x499.1))
                                  f15_l7 k j v481 v482 v483 v484 (wr .i64 (v485 + 1)) v486 v487 v488 v489 v490 v491 v492 v493 v494 v495 v496 x515 x511 nx
                        else
                          bif decide (v483 = 4) then
                            bif v492 then
                              none
                            else
                              let x500 : (Option Int) := (mapGet (fun (a b : Int) => a == b) x499.1 v498)
                              let x501 : (List (Int × Int)) := (mapEnt (fun (a b : Int) => a == b) x499.1 0 v498)
                              bif v492 then
                                none
                              else
                                (getI x501 (mapIdx (fun (a b : Int) => a == b) x499.1 v498 : Int)).bind fun x502 =>
                                let x503 : (List (Int × Int)) := (x501.set (mapIdx (fun (a b : Int) => a == b) x499.1 v498 : Int).toNat (x502.1, x499.2))
                                bif v492 then
                                  none
                                else
                                  let x504 : (Option Int) := (mapGet (fun (a b : Int) => a == b) x499.2 x503)
                                  let x505 : (List (Int × Int)) := (mapEnt (fun (a b : Int) => a == b) x499.2 0 x503)
                                  bif v492 then
                                    none
                                  else
                                    (getI x505 (mapIdx (fun (a b : Int) => a == b) x499.2 x503 : Int)).bind fun x506 =>
                                    let x507 : (List (Int × Int)) := (x505.set (mapIdx (fun (a b : Int) => a == b) x499.2 x503 : Int).toNat (x506.1, x499.1))
                                    f15_l7 k j v481 v482 v483 v484 (wr .i64 (v485 + 1)) v486 v487 v488 v489 v490 v491 v492 v493 v494 v495 v496 v497 x507 nx
                          else
                            none
                else
                  none
      else
        none
    else
      nx.1 ((v481, v482, (), v483, ()), ((v486, ()), (v487, v488, v489, v490, v491, v492, (), (), (), (), (), ((), ()), ()), v494, v495, v496, v497, v498, ()))
def cf15_l7 (k : Nat) : Cut := { sp := { temps := [(0, .c (.int .i64)), (1, .c (.int .i64)), (7, .c (.box 5000000)), (8, .c (.int .i64)), (30, .c (.row 5000001)), (31, .c (.int .i64)), (32, .c (.int .i64))], blocks := [(3000000, .box 2 [(.int .i64)]), (5000000, .box 49 [(.int .i64), (.mapr 5000002), (.mapr 5000003), (.mapr 5000004), (.mapr 5000005), (.mapr 5000006), (.lit .nils), (.lit .nils), (.lit .nils), (.lit .nils), (.lit .nils), (.cap (.lit (.fn 16)) (.lit (.ptr 3000000 0 0 0)))]), (5000001, .row 53 (.pair (.int .i64) (.int .i64))), (5000002, .mp 45 false false (.int .i64) (.int .i64)), (5000003, .mp 45 false false (.int .i64) (.int .i64)), (5000004, .mp 45 false false (.int .i64) (.int .i64)), (5000005, .mp 45 false false (.int .i64) (.int .i64)), (5000006, .mp 45 false false (.int .i64) (.int .i64))], ren := [(3000000, some 3000000)] }, outs := [(.exit 2, { temps := [(0, .c (.int .i64)), (1, .c (.int .i64)), (7, .c (.box 5000000)), (8, .c (.int .i64))], blocks := [(3000000, .box 2 [(.int .i64)]), (5000000, .box 49 [(.int .i64), (.mapr 5000001), (.mapr 5000002), (.mapr 5000003), (.mapr 5000004), (.mapr 5000005), (.lit .nils), (.lit .nils), (.lit .nils), (.lit .nils), (.lit .nils), (.cap (.lit (.fn 16)) (.lit (.ptr 3000000 0 0 0)))]), (5000001, .mp 45 false false (.int .i64) (.int .i64)), (5000002, .mp 45 false false (.int .i64) (.int .i64)), (5000003, .mp 45 false false (.int .i64) (.int .i64)), (5000004, .mp 45 false false (.int .i64) (.int .i64)), (5000005, .mp 45 false false (.int .i64) (.int .i64))], ren := [(3000000, some 3000000)] })], F := fun ρ j v nx => f15_l7 k j v.1.1 v.1.2.1 v.1.2.2.2.1 v.1.2.2.2.2.2.1 v.1.2.2.2.2.2.2.1 v.2.1.1 v.2.2.1.1 v.2.2.1.2.1 v.2.2.1.2.2.1 v.2.2.1.2.2.2.1 v.2.2.1.2.2.2.2.1 v.2.2.1.2.2.2.2.2.1 v.2.2.2.1 v.2.2.2.2.1 v.2.2.2.2.2.1 v.2.2.2.2.2.2.1 v.2.2.2.2.2.2.2.1 v.2.2.2.2.2.2.2.2.1 nx }
def f15_l3 {ρ : Type} (k : Nat) : Nat → Int → Int → Int → Int → Int → Bool → Bool → Bool → Bool → Bool → (List (Int × Int)) → (List (Int × Int)) → (List (Int × Int)) → (List (Int × Int)) → (List (Int × Int)) → ((((Unit × Unit) × ((Int × Unit) × (Int × Bool × Bool × Bool × Bool × Bool × Unit × Unit × Unit × Unit × Unit × (Unit × Unit) × Unit) × (List (Int × Int)) × (List (Int × Int)) × (List (Int × Int)) × (List (Int × Int)) × (List (Int × Int)) × Unit)) → Option ρ) × Unit) → Option ρ
  | 0, _, _, _, _, _, _, _, _, _, _, _, _, _, _, _, _ => none
  | j + 1, v700, v701, v702, v703, v704, v705, v706, v707, v708, v709, v710, v711, v712, v713, v714, nx =>
    bif (decide (v702 ≤ 4)) then
      bif decide (v702 = 0) then
        (f28 k v700 v701 v702).bind fun x723 =>
        f15_l7 k k v700 v701 v702 (x723.2.1.length : Int) 0 v703 v704 false v706 v707 v708 v709 x723.2.1 ([] : List (Int × Int)) v711 v712 v713 v714
          (fun x724 : ((Int × Int × Unit × Int × Unit) × ((Int × Unit) × (Int × Bool × Bool × Bool × Bool × Bool × Unit × Unit × Unit × Unit × Unit × (Unit × Unit) × Unit) × (List (Int × Int)) × (List (Int × Int)) × (List (Int × Int)) × (List (Int × Int)) × (List (Int × Int)) × Unit)) =>
            f15_l3 k j x724.1.1 x724.1.2.1 (wr .i64 (x724.1.2.2.2.1 + 1)) x724.2.1.1 x724.2.2.1.1 x724.2.2.1.2.1 x724.2.2.1.2.2.1 x724.2.2.1.2.2.2.1 x724.2.2.1.2.2.2.2.1 x724.2.2.1.2.2.2.2.2.1 x724.2.2.2.1 x724.2.2.2.2.1 x724.2.2.2.2.2.1 x724.2.2.2.2.2.2.1 x724.2.2.2.2.2.2.2.1 nx,
          ())
      else
        bif decide (v702 = 1) then
          (f28 k v700 v701 v702).bind fun x721 =>
          f15_l7 k k v700 v701 v702 (x721.2.1.length : Int) 0 v703 v704 v705 false v707 v708 v709 x721.2.1 v710 ([] : List (Int × Int)) v712 v713 v714
            (fun x722 : ((Int × Int × Unit × Int × Unit) × ((Int × Unit) × (Int × Bool × Bool × Bool × Bool × Bool × Unit × Unit × Unit × Unit × Unit × (Unit × Unit) × Unit) × (List (Int × Int)) × (List (Int × Int)) × (List (Int × Int)) × (List (Int × Int)) × (List (Int × Int)) × Unit)) =>
              f15_l3 k j x722.1.1 x722.1.2.1 (wr .i64 (x722.1.2.2.2.1 + 1)) x722.2.1.1 x722.2.2.1.1 x722.2.2.1.2.1 x722.2.2.1.2.2.1 x722.2.2.1.2.2.2.1 x722.2.2.1.2.2.2.2.1 x722.2.2.1.2.2.2.2.2.1 x722.2.2.2.1 x722.2.2.2.2.1 x722.2.2.2.2.2.1 x722.2.2.2.2.2.2.1 x722.2.2.2.2.2.2.2.1 nx,
            ())
        else
          bif decide (v702 = 2) then
            (f28 k v700 v701 v702).bind fun x719 =>
            f15_l7 k k v700 v701 v702 (x719.2.1.length : Int) 0 v703 v704 v705 v706 false v708 v709 x719.2.1 v710 v711 ([] : List (Int × Int)) v713 v714
              (fun x720 : ((Int × Int × Unit × Int × Unit) × ((Int × Unit) × (Int × Bool × Bool × Bool × Bool × Bool × Unit × Unit × Unit × Unit × Unit × (Unit × Unit) × Unit) × (List (Int × Int)) × (List (Int × Int)) × (List (Int × Int)) × (List (Int × Int)) × (List (Int × Int)) × Unit)) =>
                f15_l3 k j x720.1.1 x720.1.2.1 (wr .i64 (x720.1.2.2.2.1 + 1)) x720.2.1.1 x720.2.2.1.1 x720.2.2.1.2.1 x720.2.2.1.2.2.1 x720.2.2.1.2.2.2.1 x720.2.2.1.2.2.2.2.1 x720.2.2.1.2.2.2.2.2.1 x720.2.2.2.1 x720.2.2.2.2.1 x720.2.2.2.2.2.1 x720.2.2.2.2.2.2.1 x720.2.2.2.2.2.2.2.1 nx,
              ())
          else
            bif decide (v702 = 3) then
              (f28 k v700 v701 v702).bind fun x717 =>
              f15_l7 k k v700 v701 v702 (x717.2.1.length : Int) 0 v703 v704 v705 v706 v707 false v709 x717.2.1 v710 v711 v712 ([] : List (Int × Int)) v714
                (fun x718 : ((Int × Int × Unit × Int × Unit) × ((Int × Unit) × (Int × Bool × Bool × Bool × Bool × Bool × Unit × Unit × Unit × Unit × Unit × (Unit × Unit) × Unit) × (List (Int × Int)) × (List (Int × Int)) × (List (Int × Int)) × (List (Int × Int)) × (List (Int × Int)) × Unit)) =>
                  f15_l3 k j x718.1.1 x718.1.2.1 (wr .i64 (x718.1.2.2.2.1 + 1)) x718.2.1.1 x718.2.2.1.1 x718.2.2.1.2.1 x718.2.2.1.2.2.1 x718.2.2.1.2.2.2.1 x718.2.2.1.2.2.2.2.1 x718.2.2.1.2.2.2.2.2.1 x718.2.2.2.1 x718.2.2.2.2.1 x718.2.2.2.2.2.1 x718.2.2.2.2.2.2.1 x718.2.2.2.2.2.2.2.1 nx,
                ())
            else
              bif decide (v702 = 4) then
                (f28 k v700 v701 v702).bind fun x715 =>
                f15_l7 k k v700 v701 v702 (x715.2.1.length : Int) 0 v703 v704 v705 v706 v707 v708 false x715.2.1 v710 v711 v712 v713 ([] : List (Int × Int))
                  (fun x716 : ((Int × Int × Unit × Int × Unit) × ((Int × Unit) × (Int × Bool × Bool × Bool × Bool × Bool × Unit × Unit × Unit × Unit × Unit × (Unit × Unit) × Unit) × (List (Int × Int)) × (List (Int × Int)) × (List (Int × Int)) × (List (Int × Int)) × (List (Int × Int)) × Unit)) =>
                    f15_l3 k j x716.1.1 x716.1.2.1 (wr .i64 (x716.1.2.2.2.1 + 1)) x716.2.1.1 x716.2.2.1.1 x716.2.2.1.2.1 x716.2.2.1.2.2.1 x716.2.2.1.2.2.2.1 x716.2.2.1.2.2.2.2.1 x716.2.2.1.2.2.2.2.2.1 x716.2.2.2.1 x716.2.2.2.2.1 x716.2.2.2.2.2.1 x716.2.2.2.2.2.2.1 x716.2.2.2.2.2.2.2.1 nx,
                  ())
              else
                none
    else
      nx.1 (((), ()), ((v703, ()), (v704, v705, v706, v707, v708, v709, (), (), (), (), (), ((), ()), ()), v710, v711, v712, v713, v714, ()))
def cf15_l3 (k : Nat) : Cut := { sp := { temps := [(0, .c (.int .i64)), (1, .c (.int .i64)), (7, .c (.box 5000000)), (8, .c (.int .i64))], blocks := [(3000000, .box 2 [(.int .i64)]), (5000000, .box 49 [(.int .i64), (.mapr 5000001), (.mapr 5000002), (.mapr 5000003), (.mapr 5000004), (.mapr 5000005), (.lit .nils), (.lit .nils), (.lit .nils), (.lit .nils), (.lit .nils), (.cap (.lit (.fn 16)) (.lit (.ptr 3000000 0 0 0)))]), (5000001, .mp 45 false false (.int .i64) (.int .i64)), (5000002, .mp 45 false false (.int .i64) (.int .i64)), (5000003, .mp 45 false false (.int .i64) (.int .i64)), (5000004, .mp 45 false false (.int .i64) (.int .i64)), (5000005, .mp 45 false false (.int .i64) (.int .i64))], ren := [(3000000, some 3000000)] }, outs := [(.exit 0, { temps := [(7, .c (.box 5000000))], blocks := [(3000000, .box 2 [(.int .i64)]), (5000000, .box 49 [(.int .i64), (.mapr 5000001), (.mapr 5000002), (.mapr 5000003), (.mapr 5000004), (.mapr 5000005), (.lit .nils), (.lit .nils), (.lit .nils), (.lit .nils), (.lit .nils), (.cap (.lit (.fn 16)) (.lit (.ptr 3000000 0 0 0)))]), (5000001, .mp 45 false false (.int .i64) (.int .i64)), (5000002, .mp 45 false false (.int .i64) (.int .i64)), (5000003, .mp 45 false false (.int .i64) (.int .i64)), (5000004, .mp 45 false false (.int .i64) (.int .i64)), (5000005, .mp 45 false false (.int .i64) (.int .i64))], ren := [(3000000, some 3000000)] })], F := fun ρ j v nx => f15_l3 k j v.1.1 v.1.2.1 v.1.2.2.2.1 v.2.1.1 v.2.2.1.1 v.2.2.1.2.1 v.2.2.1.2.2.1 v.2.2.1.2.2.2.1 v.2.2.1.2.2.2.2.1 v.2.2.1.2.2.2.2.2.1 v.2.2.2.1 v.2.2.2.2.1 v.2.2.2.2.2.1 v.2.2.2.2.2.2.1 v.2.2.2.2.2.2.2.1 nx }
def f15 (k : Nat) (a1 : Int) (a2 : Int) (a3 : Int) : Option ((Unit × Unit) × ((Int × Unit) × (Int × Bool × Bool × Bool × Bool × Bool × Unit × Unit × Unit × Unit × Unit × (Unit × Unit) × Unit) × (List (Int × Int)) × (List (Int × Int)) × (List (Int × Int)) × (List (Int × Int)) × (List (Int × Int)) × Unit)) :=
  f15_l3 k k a1 a2 1 a3 (wr .i64 (a1 * a2)) true true true true true ([] : List (Int × Int)) ([] : List (Int × Int)) ([] : List (Int × Int)) ([] : List (Int × Int)) ([] : List (Int × Int))
    (fun x480 : ((Unit × Unit) × ((Int × Unit) × (Int × Bool × Bool × Bool × Bool × Bool × Unit × Unit × Unit × Unit × Unit × (Unit × Unit) × Unit) × (List (Int × Int)) × (List (Int × Int)) × (List (Int × Int)) × (List (Int × Int)) × (List (Int × Int)) × Unit)) =>
      some (((), ()), ((x480.2.1.1, ()), (x480.2.2.1.1, x480.2.2.1.2.1, x480.2.2.1.2.2.1, x480.2.2.1.2.2.2.1, x480.2.2.1.2.2.2.2.1, x480.2.2.1.2.2.2.2.2.1, (), (), (), (), (), ((), ()), ()), x480.2.2.2.1, x480.2.2.2.2.1, x480.2.2.2.2.2.1, x480.2.2.2.2.2.2.1, x480.2.2.2.2.2.2.2.1, ())),
    ())
def ef15 : Entry := { id := 15, ar := { temps := [(0, .c (.int .i64)), (1, .c (.int .i64)), (2, .c (.cap (.lit (.fn 16)) (.box 3000000)))], blocks := [(3000000, .box 2 [(.int .i64)])], ren := [] }, res := { temps := [(0, .c (.box 4000000))], blocks := [(3000000, .box 2 [(.int .i64)]), (4000000, .box 49 [(.int .i64), (.mapr 4000001), (.mapr 4000002), (.mapr 4000003), (.mapr 4000004), (.mapr 4000005), (.lit .nils), (.lit .nils), (.lit .nils), (.lit .nils), (.lit .nils), (.cap (.lit (.fn 16)) (.lit (.ptr 3000000 0 0 0)))]), (4000001, .mp 45 false false (.int .i64) (.int .i64)), (4000002, .mp 45 false false (.int .i64) (.int .i64)), (4000003, .mp 45 false false (.int .i64) (.int .i64)), (4000004, .mp 45 false false (.int .i64) (.int .i64)), (4000005, .mp 45 false false (.int .i64) (.int .i64))], ren := [(3000000, some 3000000)] }, f := fun k v => f15 k v.1.1 v.1.2.1 v.2.1.1 }
def gf15 (k : Nat) : Full := { tt := tt, n := 62, fns := [ef28], trunc := [], tails := [], touch := [(9, [(20, [5000002, 5000003, 5000004, 5000005, 5000006]), (22, [5000002, 5000003, 5000004, 5000005, 5000006]), (23, [5000002, 5000003, 5000004, 5000005, 5000006]), (25, [5000002, 5000003, 5000004, 5000005, 5000006])])], opens := [], shapes := [], closes := [], k := k, glob := glob, cuts := [(7, (cf15_l7 k)), (3, (cf15_l3 k))], joins := [] }
theorem of15_l7 (k : Nat) : CutOk (gf15 k) (cf15_l7 k) (theLoop Try.f15 7) := fun ρ v nx => ⟨by kernel_rfl, fun j => by kernel_rfl⟩
theorem of15_l3 (k : Nat) : CutOk (gf15 k) (cf15_l3 k) (theLoop Try.f15 3) := fun ρ v nx => ⟨by kernel_rfl, fun j => by kernel_rfl⟩
theorem qf15 (k : Nat) : AllP (bodyL (gf15 k) Try.f15) := by
  have h : (CutOk (gf15 k) (cf15_l7 k) (theLoop Try.f15 7) ∧ CutOk (gf15 k) (cf15_l3 k) (theLoop Try.f15 3) ∧ True) = AllP (bodyL (gf15 k) Try.f15) := by kernel_rfl
  exact Eq.mp h (And.intro (of15_l7 k) (And.intro (of15_l3 k) (trivial)))
theorem sf15 : Sound Try.prog glob ef15 := sound_of base (fn := Try.f15) Try.func15 (by kernel_rfl) gf15 (fun _ => ⟨rfl, rfl⟩) (fun k j => ⟨sf28.at j, trivial⟩) qf15 (fun k v => by kernel_rfl)

/-! impl.length[int64] -/
def f29 (k : Nat) (a1 : (List Int)) : Option ((Int × Unit) × Unit) :=
  some (((a1.length : Int), ()), ())
def ef29 : Entry := { id := 29, ar := { temps := [(0, .c (.sl (.int .i64)))], blocks := [], ren := [] }, res := { temps := [(0, .c (.int .i64))], blocks := [], ren := [] }, f := fun k v => f29 k v.1.1 }
def gf29 (k : Nat) : Full := { tt := tt, n := 5, fns := [], trunc := [], tails := [], touch := [], opens := [], shapes := [], closes := [], k := k, glob := glob, cuts := [], joins := [] }
theorem qf29 (k : Nat) : AllP (bodyL (gf29 k) Try.f29) := by
  have h : True = AllP (bodyL (gf29 k) Try.f29) := by kernel_rfl
  exact Eq.mp h trivial
theorem sf29 : Sound Try.prog glob ef29 := sound_of base (fn := Try.f29) Try.func29 (by kernel_rfl) gf29 (fun _ => ⟨rfl, rfl⟩) (fun k j => trivial) qf29 (fun k v => by kernel_rfl)

/-! impl.CountStacks$1 -/
def f16 (k : Nat) (a1 : (List Int)) (a2 : Int) : Option ((Bool × Unit) × ((Int × Unit) × Unit)) :=
  some ((true, ()), (((wr .i64 (a2 + 1)), ()), ()))
def ef16 : Entry := { id := 16, ar := { temps := [(0, .c (.sl (.int .i64))), (1, .c (.box 3000000))], blocks := [(3000000, .box 2 [(.int .i64)])], ren := [] }, res := { temps := [(0, .c .bool)], blocks := [(3000000, .box 2 [(.int .i64)])], ren := [(3000000, some 3000000)] }, f := fun k v => f16 k v.1.1 v.2.1.1 }
def gf16 (k : Nat) : Full := { tt := tt, n := 6, fns := [], trunc := [], tails := [], touch := [], opens := [], shapes := [], closes := [], k := k, glob := glob, cuts := [], joins := [] }
theorem qf16 (k : Nat) : AllP (bodyL (gf16 k) Try.f16) := by
  have h : True = AllP (bodyL (gf16 k) Try.f16) := by kernel_rfl
  exact Eq.mp h trivial
theorem sf16 : Sound Try.prog glob ef16 := sound_of base (fn := Try.f16) Try.func16 (by kernel_rfl) gf16 (fun _ => ⟨rfl, rfl⟩) (fun k j => trivial) qf16 (fun k v => by kernel_rfl)

/-! slices.Index[[]int64,int64] -/
def f37_l2 {ρ : Type} (k : Nat) : Nat → (List Int) → Int → Int → Int → (((Unit × Unit) → Option ρ) × (((Int × Unit) × Unit) → Option ρ) × Unit) → Option ρ
  | 0, _, _, _, _, _ => none
  | j + 1, v10, v11, v12, v13, nx =>
    bif (decide (v13 < v12)) then
      (getI v10 v13).bind fun x14 =>
      bif (v11 == x14) then
        nx.2.1 ((v13, ()), ())
      else
        f37_l2 k j v10 v11 v12 (wr .i64 (v13 + 1)) nx
    else
      nx.1 ((), ())
def cf37_l2 (k : Nat) : Cut := { sp := { temps := [(0, .c (.sl (.int .i64))), (1, .c (.int .i64)), (7, .c (.int .i64)), (8, .c (.int .i64))], blocks := [], ren := [] }, outs := [(.exit 0, { temps := [], blocks := [], ren := [] }), (.ret, { temps := [(4, .c (.int .i64))], blocks := [], ren := [] })], F := fun ρ j v nx => f37_l2 k j v.1.1 v.1.2.1 v.1.2.2.1 v.1.2.2.2.1 nx }
def f37 (k : Nat) (a1 : (List Int)) (a2 : Int) : Option ((Int × Unit) × Unit) :=
  f37_l2 k k a1 a2 (a1.length : Int) 0
    (fun x8 : (Unit × Unit) =>
      some (((-1), ()), ()),
    fun x9 : ((Int × Unit) × Unit) =>
      some ((x9.1.1, ()), ()),
    ())
def ef37 : Entry := { id := 37, ar := { temps := [(0, .c (.sl (.int .i64))), (1, .c (.int .i64))], blocks := [], ren := [] }, res := { temps := [(0, .c (.int .i64))], blocks := [], ren := [] }, f := fun k v => f37 k v.1.1 v.1.2.1 }
def gf37 (k : Nat) : Full := { tt := tt, n := 19, fns := [], trunc := [], tails := [], touch := [], opens := [], shapes := [], closes := [], k := k, glob := glob, cuts := [(2, (cf37_l2 k))], joins := [] }
theorem of37_l2 (k : Nat) : CutOk (gf37 k) (cf37_l2 k) (theLoop Try.f37 2) := fun ρ v nx => ⟨by kernel_rfl, fun j => by kernel_rfl⟩
theorem qf37 (k : Nat) : AllP (bodyL (gf37 k) Try.f37) := by
  have h : (CutOk (gf37 k) (cf37_l2 k) (theLoop Try.f37 2) ∧ True) = AllP (bodyL (gf37 k) Try.f37) := by kernel_rfl
  exact Eq.mp h (And.intro (of37_l2 k) (trivial))
theorem sf37 : Sound Try.prog glob ef37 := sound_of base (fn := Try.f37) Try.func37 (by kernel_rfl) gf37 (fun _ => ⟨rfl, rfl⟩) (fun k j => trivial) qf37 (fun k v => by kernel_rfl)

/-! slices.Contains[[]int64,int64] -/
def f30 (k : Nat) (a1 : (List Int)) (a2 : Int) : Option ((Bool × Unit) × Unit) :=
  (f37 k a1 a2).bind fun x2 =>
  some (((decide (x2.1.1 ≥ 0)), ()), ())
def ef30 : Entry := { id := 30, ar := { temps := [(0, .c (.sl (.int .i64))), (1, .c (.int .i64))], blocks := [], ren := [] }, res := { temps := [(0, .c .bool)], blocks := [], ren := [] }, f := fun k v => f30 k v.1.1 v.1.2.1 }
def gf30 (k : Nat) : Full := { tt := tt, n := 9, fns := [ef37], trunc := [], tails := [], touch := [], opens := [], shapes := [], closes := [], k := k, glob := glob, cuts := [], joins := [] }
theorem qf30 (k : Nat) : AllP (bodyL (gf30 k) Try.f30) := by
  have h : True = AllP (bodyL (gf30 k) Try.f30) := by kernel_rfl
  exact Eq.mp h trivial
theorem sf30 : Sound Try.prog glob ef30 := sound_of base (fn := Try.f30) Try.func30 (by kernel_rfl) gf30 (fun _ => ⟨rfl, rfl⟩) (fun k j => ⟨sf37.at j, trivial⟩) qf30 (fun k v => by kernel_rfl)

/-! slices.Clone[[]int64,int64] -/
def f32 (k : Nat) (a1 : (List Int)) : Option ((Unit × Unit) × ((List Int) × Unit)) :=
  bif decide ((([] : List Int).length + a1.length) * 8 ≤ roomy) then
    some (((), ()), ((([] : List Int) ++ a1), ()))
  else
    none
def ef32 : Entry := { id := 32, ar := { temps := [(0, .c (.slx (.int .i64)))], blocks := [], ren := [] }, res := { temps := [(0, .c (.row 4000000))], blocks := [(4000000, .row 2 (.int .i64))], ren := [] }, f := fun k v => f32 k v.1.1 }
def gf32 (k : Nat) : Full := { tt := tt, n := 8, fns := [], trunc := [], tails := [], touch := [], opens := [], shapes := [], closes := [], k := k, glob := glob, cuts := [], joins := [] }
theorem qf32 (k : Nat) : AllP (bodyL (gf32 k) Try.f32) := by
  have h : True = AllP (bodyL (gf32 k) Try.f32) := by kernel_rfl
  exact Eq.mp h trivial
theorem sf32 : Sound Try.prog glob ef32 := sound_of base (fn := Try.f32) Try.func32 (by kernel_rfl) gf32 (fun _ => ⟨rfl, rfl⟩) (fun k j => trivial) qf32 (fun k v => by kernel_rfl)

/-! slices.Clone[[]int64,int64] -/
def f32a (k : Nat) : Option ((Unit × Unit) × ((List Int) × Unit)) :=
  some (((), ()), (([] : List Int), ()))
def ef32a : Entry := { id := 32, ar := { temps := [(0, .c (.lit .nils))], blocks := [], ren := [] }, res := { temps := [(0, .c (.row 4000000))], blocks := [(4000000, .row 2 (.int .i64))], ren := [] }, f := fun k v => f32a k }
def gf32a (k : Nat) : Full := { tt := tt, n := 8, fns := [], trunc := [], tails := [], touch := [], opens := [], shapes := [], closes := [], k := k, glob := glob, cuts := [], joins := [] }
theorem qf32a (k : Nat) : AllP (bodyL (gf32a k) Try.f32) := by
  have h : True = AllP (bodyL (gf32a k) Try.f32) := by kernel_rfl
  exact Eq.mp h trivial
theorem sf32a : Sound Try.prog glob ef32a := sound_of base (fn := Try.f32) Try.func32 (by kernel_rfl) gf32a (fun _ => ⟨rfl, rfl⟩) (fun k j => trivial) qf32a (fun k v => by kernel_rfl)

/-! slices.Clone[[]int64,int64] -/
def ef32b : Entry := { id := 32, ar := { temps := [(0, .c (.sl (.int .i64)))], blocks := [], ren := [] }, res := { temps := [(0, .c (.row 4000000))], blocks := [(4000000, .row 2 (.int .i64))], ren := [] }, f := fun k v => f32 k v.1.1 }
theorem nf32b (k : Nat) : f32a k = f32 k [] := by kernel_rfl
theorem sf32b : Sound Try.prog glob ef32b := sound_nil (glob := glob) (id := 32) (u := (.int .i64)) (res := { temps := [(0, .c (.row 4000000))], blocks := [(4000000, .row 2 (.int .i64))], ren := [] }) (fN := fun k v => f32a k) (fX := fun k v => f32 k v.1.1) (fS := fun k v => f32 k v.1.1) sf32a sf32 fun k l o (h : f32 k l = some o) => ⟨h, fun e => (nf32b k).trans ((congrArg (f32 k) e).symm.trans h)⟩

end Go.Proofs.Ytplcjfnobdlkeaa.R
