/- Plain twins of functions, with their contracts. Printed by a program of this session. -/
import Derived.Test.YtiilgicmdnllbaaProg
import Derived.Test.YtiilgicmdnllbaaR1Tools
set_option linter.unusedVariables false
namespace Go.Proofs.Ytiilgicmdnllbaa.R
open Go.Proofs.Ytiilgicmdnllbaa.R1
def tt : TT := [
  (2, { k := (.int .i64), size := 1, bytes := 8, zero := [.int .i64 0], u := (.int .i64) }),
  (3, { k := (.int .i64), size := 1, bytes := 8, zero := [.int .i64 0], u := (.int .i64) }),
  (4, { k := .bool, size := 1, bytes := 1, zero := [.bool false], u := .bool }),
  (5, { k := (.int .u8), size := 1, bytes := 1, zero := [.int .u8 0], u := (.int .u8) }),
  (22, { k := (.sl 5), size := 1, bytes := 24, zero := [.nils], u := (.sl (.int .u8)) }),
  (23, { k := (.sl 61), size := 1, bytes := 24, zero := [.nils], u := (.sl (.pair (.int .i64) (.pair (.sl (.int .i64)) (.sl (.int .i64))))) }),
  (24, { k := (.sl 2), size := 1, bytes := 24, zero := [.nils], u := (.sl (.int .i64)) }),
  (27, { k := (.sl 24), size := 1, bytes := 24, zero := [.nils], u := (.sl (.sl (.int .i64))) }),
  (35, { k := (.sl 81), size := 1, bytes := 24, zero := [.nils], u := (.sl (.pair (.int .i64) (.pair (.sl (.int .i64)) (.sl (.int .i64))))) }),
  (45, { k := (.sl 95), size := 1, bytes := 24, zero := [.nils], u := (.sl (.pair (.int .i64) (.pair (.int .i64) (.pair (.int .i64) (.int .i64))))) }),
  (61, { k := (.struct [(0, 2), (1, 24), (2, 24)]), size := 3, bytes := 56, zero := [.int .i64 0, .nils, .nils], u := (.pair (.int .i64) (.pair (.sl (.int .i64)) (.sl (.int .i64)))) }),
  (66, { k := (.ptr 73), size := 1, bytes := 8, zero := [.nilp], u := .unit }),
  (70, { k := .func, size := 1, bytes := 8, zero := [.nilf], u := .unit }),
  (71, { k := .func, size := 1, bytes := 8, zero := [.nilf], u := .unit }),
  (73, { k := (.struct [(0, 23), (1, 2), (2, 2), (3, 70), (4, 71)]), size := 5, bytes := 56, zero := [.nils, .int .i64 0, .int .i64 0, .nilf, .nilf], u := .unit }),
  (81, { k := (.struct [(0, 2), (1, 24), (2, 24)]), size := 3, bytes := 56, zero := [.int .i64 0, .nils, .nils], u := (.pair (.int .i64) (.pair (.sl (.int .i64)) (.sl (.int .i64)))) }),
  (86, { k := (.struct [(0, 23), (1, 2), (2, 2), (3, 2), (4, 2), (5, 27)]), size := 6, bytes := 80, zero := [.nils, .int .i64 0, .int .i64 0, .int .i64 0, .int .i64 0, .nils], u := (.pair (.sl (.pair (.int .i64) (.pair (.sl (.int .i64)) (.sl (.int .i64))))) (.pair (.int .i64) (.pair (.int .i64) (.pair (.int .i64) (.pair (.int .i64) (.sl (.sl (.int .i64)))))))) }),
  (91, { k := (.struct [(0, 23), (1, 2), (2, 2), (3, 45), (4, 2)]), size := 5, bytes := 72, zero := [.nils, .int .i64 0, .int .i64 0, .nils, .int .i64 0], u := (.pair (.sl (.pair (.int .i64) (.pair (.sl (.int .i64)) (.sl (.int .i64))))) (.pair (.int .i64) (.pair (.int .i64) (.pair (.sl (.pair (.int .i64) (.pair (.int .i64) (.pair (.int .i64) (.int .i64))))) (.int .i64))))) }),
  (95, { k := (.struct [(0, 2), (1, 2), (2, 2), (3, 2)]), size := 4, bytes := 32, zero := [.int .i64 0, .int .i64 0, .int .i64 0, .int .i64 0], u := (.pair (.int .i64) (.pair (.int .i64) (.pair (.int .i64) (.int .i64)))), eq := true }),
  (98, { k := (.int .u64), size := 1, bytes := 8, zero := [.int .u64 0], u := (.int .u64) }),
  (100, { k := (.struct [(0, 22), (1, 3), (2, 98)]), size := 3, bytes := 40, zero := [.nils, .int .i64 0, .int .u64 0], u := (.pair (.sl (.int .u8)) (.pair (.int .i64) (.int .u64))) }),
  (109, { k := (.arr 3 2), size := 3, bytes := 24, zero := [.int .i64 0, .int .i64 0, .int .i64 0], u := (.pair (.int .i64) (.pair (.int .i64) (.int .i64))) }),
  (111, { k := (.sl 115), size := 1, bytes := 24, zero := [.nils], u := (.sl (.pair (.int .i64) (.pair (.int .i64) (.int .i64)))) }),
  (115, { k := (.struct [(0, 2), (1, 2), (2, 2)]), size := 3, bytes := 24, zero := [.int .i64 0, .int .i64 0, .int .i64 0], u := (.pair (.int .i64) (.pair (.int .i64) (.int .i64))) })]
def gl : List (Nat × B) := []
def glob : Nat → B := globOf gl
theorem ttok : TTok Try.prog tt := ttok_of_chk (by kernel_rfl)
theorem base : Base Try.prog tt glob := ⟨drawOk (by kernel_rfl), ttok, globOf_free (by kernel_rfl)⟩

/-! laws.szInt64S -/
def f80 (k : Nat) (a1 : (List Int)) (a2 : Int) : Option ((Int × Unit) × Unit) :=
  let x2 : Bool := (decide ((wr .i64 (a2 - (a1.length : Int))) < 0))
  bif x2 then
    some (((-1), ()), ())
  else
    some (((wr .i64 (a2 - (a1.length : Int))), ()), ())
def ef80 : Entry := { id := 80, ar := { temps := [(0, .c (.sl (.int .i64))), (1, .c (.int .i64))], blocks := [], ren := [] }, res := { temps := [(0, .c (.int .i64))], blocks := [], ren := [] }, f := fun k v => f80 k v.1.1 v.1.2.1 }
def gf80 (k : Nat) : Full := { tt := tt, n := 12, fns := [], trunc := [], tails := [], touch := [], opens := [], shapes := [], closes := [], k := k, glob := glob, cuts := [], joins := [] }
theorem qf80 (k : Nat) : AllP (bodyL (gf80 k) Try.f80) := by
  have h : True = AllP (bodyL (gf80 k) Try.f80) := by kernel_rfl
  exact Eq.mp h trivial
theorem sf80 : Sound Try.prog glob ef80 := sound_of base (fn := Try.f80) Try.func80 (by kernel_rfl) gf80 (fun _ => ⟨rfl, rfl⟩) (fun k j => trivial) qf80 (fun k v => by kernel_rfl)

/-! laws.szRule -/
def f54 (k : Nat) (a1 : Int) (a2 : (List Int)) (a3 : (List Int)) (a4 : Int) : Option ((Int × Unit) × Unit) :=
  (f80 k a2 a4).bind fun x3 =>
  bif (decide (x3.1.1 < 0)) then
    some (((-1), ()), ())
  else
    (f80 k a3 x3.1.1).bind fun x4 =>
    bif (decide (x4.1.1 < 0)) then
      some (((-1), ()), ())
    else
      some ((x4.1.1, ()), ())
def ef54 : Entry := { id := 54, ar := { temps := [(0, .agg [(.int .i64), (.sl (.int .i64)), (.sl (.int .i64))]), (1, .c (.int .i64))], blocks := [], ren := [] }, res := { temps := [(0, .c (.int .i64))], blocks := [], ren := [] }, f := fun k v => f54 k v.1.1.1 v.1.1.2.1 v.1.1.2.2.1 v.1.2.1 }
def gf54 (k : Nat) : Full := { tt := tt, n := 18, fns := [ef80], trunc := [], tails := [], touch := [], opens := [], shapes := [], closes := [], k := k, glob := glob, cuts := [], joins := [] }
theorem qf54 (k : Nat) : AllP (bodyL (gf54 k) Try.f54) := by
  have h : True = AllP (bodyL (gf54 k) Try.f54) := by kernel_rfl
  exact Eq.mp h trivial
theorem sf54 : Sound Try.prog glob ef54 := sound_of base (fn := Try.f54) Try.func54 (by kernel_rfl) gf54 (fun _ => ⟨rfl, rfl⟩) (fun k j => ⟨sf80.at j, trivial⟩) qf54 (fun k v => by kernel_rfl)

/-! laws.szRuleS -/
def f15_l5 {ρ : Type} (k : Nat) : Nat → (List (Int × ((List Int) × (List Int)))) → Int → Int → ((((Int × Unit) × Unit) → Option ρ) × (((Int × Unit) × Unit) → Option ρ) × Unit) → Option ρ
  | 0, _, _, _, _ => none
  | j + 1, v14, v15, v16, nx =>
    bif (decide (v16 < (v14.length : Int))) then
      (getI v14 v16).bind fun x17 =>
      (f54 k x17.1 x17.2.1 x17.2.2 v15).bind fun x18 =>
      bif (decide (x18.1.1 < 0)) then
        nx.2.1 (((-1), ()), ())
      else
        f15_l5 k j v14 x18.1.1 (wr .i64 (v16 + 1)) nx
    else
      nx.1 ((v15, ()), ())
def cf15_l5 (k : Nat) : Cut := { sp := { temps := [(0, .c (.sl (.pair (.int .i64) (.pair (.sl (.int .i64)) (.sl (.int .i64)))))), (1, .c (.int .i64)), (5, .c (.int .i64))], blocks := [], ren := [] }, outs := [(.exit 0, { temps := [(1, .c (.int .i64))], blocks := [], ren := [] }), (.ret, { temps := [(4, .c (.int .i64))], blocks := [], ren := [] })], F := fun ρ j v nx => f15_l5 k j v.1.1 v.1.2.1 v.1.2.2.1 nx }
def f15 (k : Nat) (a1 : (List (Int × ((List Int) × (List Int))))) (a2 : Int) : Option ((Int × Unit) × Unit) :=
  let x11 : Bool := (decide ((wr .i64 (a2 - (a1.length : Int))) < 0))
  bif x11 then
    some (((-1), ()), ())
  else
    f15_l5 k k a1 (wr .i64 (a2 - (a1.length : Int))) 0
      (fun x12 : ((Int × Unit) × Unit) =>
        some ((x12.1.1, ()), ()),
      fun x13 : ((Int × Unit) × Unit) =>
        some ((x13.1.1, ()), ()),
      ())
def ef15 : Entry := { id := 15, ar := { temps := [(0, .c (.sl (.pair (.int .i64) (.pair (.sl (.int .i64)) (.sl (.int .i64)))))), (1, .c (.int .i64))], blocks := [], ren := [] }, res := { temps := [(0, .c (.int .i64))], blocks := [], ren := [] }, f := fun k v => f15 k v.1.1 v.1.2.1 }
def gf15 (k : Nat) : Full := { tt := tt, n := 27, fns := [ef54], trunc := [], tails := [], touch := [], opens := [], shapes := [], closes := [], k := k, glob := glob, cuts := [(5, (cf15_l5 k))], joins := [] }
theorem of15_l5 (k : Nat) : CutOk (gf15 k) (cf15_l5 k) (theLoop Try.f15 5) := fun ρ v nx => ⟨by kernel_rfl, fun j => by kernel_rfl⟩
theorem qf15 (k : Nat) : AllP (bodyL (gf15 k) Try.f15) := by
  have h : (CutOk (gf15 k) (cf15_l5 k) (theLoop Try.f15 5) ∧ True) = AllP (bodyL (gf15 k) Try.f15) := by kernel_rfl
  exact Eq.mp h (And.intro (of15_l5 k) (trivial))
theorem sf15 : Sound Try.prog glob ef15 := sound_of base (fn := Try.f15) Try.func15 (by kernel_rfl) gf15 (fun _ => ⟨rfl, rfl⟩) (fun k j => ⟨sf54.at j, trivial⟩) qf15 (fun k v => by kernel_rfl)

/-! laws.toInt64S -/
def f82_l3 {ρ : Type} (k : Nat) : Nat → (List Int) → Int → (List Int) → ((((Unit × Unit) × ((List Int) × Unit)) → Option ρ) × Unit) → Option ρ
  | 0, _, _, _, _ => none
  | j + 1, v8, v9, v10, nx =>
    bif (decide (v9 < (v8.length : Int))) then
      (getI v8 v9).bind fun x11 =>
      bif decide (0 ≤ v9) && decide (v9 < (v10.length : Int)) then
        (v10[v9.toNat]?).bind fun _ =>
        f82_l3 k j v8 (wr .i64 (v9 + 1)) (v10.set v9.toNat x11) nx
      else
        none
    else
      nx.1 (((), ()), (v10, ()))
def cf82_l3 (k : Nat) : Cut := { sp := { temps := [(0, .c (.sl (.int .i64))), (3, .c (.row 5000000)), (4, .c (.int .i64))], blocks := [(5000000, .row 2 (.int .i64))], ren := [] }, outs := [(.exit 0, { temps := [(3, .c (.row 5000000))], blocks := [(5000000, .row 2 (.int .i64))], ren := [] })], F := fun ρ j v nx => f82_l3 k j v.1.1 v.1.2.2.1 v.2.1 nx }
def f82 (k : Nat) (a1 : (List Int)) : Option ((Unit × Unit) × ((List Int) × Unit)) :=
  bif decide ((a1.length : Int) = (a1.length : Int)) && decide (0 ≤ (a1.length : Int)) && decide ((a1.length : Int) * 8 ≤ roomy) then
    f82_l3 k k a1 0 (List.replicate (a1.length : Int).toNat 0)
      (fun x7 : ((Unit × Unit) × ((List Int) × Unit)) =>
        some (((), ()), (x7.2.1, ())),
      ())
  else
    none
def ef82 : Entry := { id := 82, ar := { temps := [(0, .c (.sl (.int .i64)))], blocks := [], ren := [] }, res := { temps := [(0, .c (.row 4000000))], blocks := [(4000000, .row 2 (.int .i64))], ren := [] }, f := fun k v => f82 k v.1.1 }
def gf82 (k : Nat) : Full := { tt := tt, n := 22, fns := [], trunc := [], tails := [], touch := [], opens := [], shapes := [], closes := [], k := k, glob := glob, cuts := [(3, (cf82_l3 k))], joins := [] }
theorem of82_l3 (k : Nat) : CutOk (gf82 k) (cf82_l3 k) (theLoop Try.f82 3) := fun ρ v nx => ⟨by kernel_rfl, fun j => by kernel_rfl⟩
theorem qf82 (k : Nat) : AllP (bodyL (gf82 k) Try.f82) := by
  have h : (CutOk (gf82 k) (cf82_l3 k) (theLoop Try.f82 3) ∧ True) = AllP (bodyL (gf82 k) Try.f82) := by kernel_rfl
  exact Eq.mp h (And.intro (of82_l3 k) (trivial))
theorem sf82 : Sound Try.prog glob ef82 := sound_of base (fn := Try.f82) Try.func82 (by kernel_rfl) gf82 (fun _ => ⟨rfl, rfl⟩) (fun k j => trivial) qf82 (fun k v => by kernel_rfl)

/-! laws.toRule -/
def f57 (k : Nat) (a1 : Int) (a2 : (List Int)) (a3 : (List Int)) : Option (((Int × Unit × Unit × Unit) × Unit) × ((List Int) × (List Int) × Unit)) :=
  (f82 k a2).bind fun x3 =>
  (f82 k a3).bind fun x4 =>
  some (((a1, (), (), ()), ()), (x3.2.1, x4.2.1, ()))
def ef57 : Entry := { id := 57, ar := { temps := [(0, .agg [(.int .i64), (.sl (.int .i64)), (.sl (.int .i64))])], blocks := [], ren := [] }, res := { temps := [(0, .agg [(.int .i64), (.row 4000000), (.row 4000001)])], blocks := [(4000000, .row 2 (.int .i64)), (4000001, .row 2 (.int .i64))], ren := [] }, f := fun k v => f57 k v.1.1.1 v.1.1.2.1 v.1.1.2.2.1 }
def gf57 (k : Nat) : Full := { tt := tt, n := 16, fns := [ef82], trunc := [], tails := [], touch := [], opens := [], shapes := [], closes := [], k := k, glob := glob, cuts := [], joins := [] }
theorem qf57 (k : Nat) : AllP (bodyL (gf57 k) Try.f57) := by
  have h : True = AllP (bodyL (gf57 k) Try.f57) := by kernel_rfl
  exact Eq.mp h trivial
theorem sf57 : Sound Try.prog glob ef57 := sound_of base (fn := Try.f57) Try.func57 (by kernel_rfl) gf57 (fun _ => ⟨rfl, rfl⟩) (fun k j => ⟨sf82.at j, trivial⟩) qf57 (fun k v => by kernel_rfl)

/-! laws.toRuleS -/
def f17_l3 {ρ : Type} (k : Nat) : Nat → (List (Int × ((List Int) × (List Int)))) → Int → (List (Int × ((List Int) × (List Int)))) → ((((Unit × Unit) × ((List (Int × ((List Int) × (List Int)))) × Unit)) → Option ρ) × Unit) → Option ρ
  | 0, _, _, _, _ => none
  | j + 1, v12, v13, v14, nx =>
    bif (decide (v13 < (v12.length : Int))) then
      (getI v12 v13).bind fun x15 =>
      (f57 k x15.1 x15.2.1 x15.2.2).bind fun x16 =>
      bif decide (0 ≤ v13) && decide (v13 < (v14.length : Int)) then
        (v14[v13.toNat]?).bind fun _ =>
        let x18 : (List (Int × ((List Int) × (List Int)))) := (v14.set v13.toNat (x16.1.1.1, (x16.2.1, x16.2.2.1)))
        f17_l3 k j v12 (wr .i64 (v13 + 1)) x18 nx
      else
        none
    else
      nx.1 (((), ()), (v14, ()))
def cf17_l3 (k : Nat) : Cut := { sp := { temps := [(0, .c (.sl (.pair (.int .i64) (.pair (.sl (.int .i64)) (.sl (.int .i64)))))), (3, .c (.row 5000000)), (4, .c (.int .i64))], blocks := [(5000000, .own 61 (.p (.d (.int .i64)) (.p (.s 2 (.d (.int .i64))) (.s 2 (.d (.int .i64))))))], ren := [] }, outs := [(.exit 0, { temps := [(3, .c (.row 5000000))], blocks := [(5000000, .own 61 (.p (.d (.int .i64)) (.p (.s 2 (.d (.int .i64))) (.s 2 (.d (.int .i64))))))], ren := [] })], F := fun ρ j v nx => f17_l3 k j v.1.1 v.1.2.2.1 v.2.1 nx }
def f17 (k : Nat) (a1 : (List (Int × ((List Int) × (List Int))))) : Option ((Unit × Unit) × ((List (Int × ((List Int) × (List Int)))) × Unit)) :=
  bif decide ((a1.length : Int) = (a1.length : Int)) && decide (0 ≤ (a1.length : Int)) && decide ((a1.length : Int) * 56 ≤ roomy) then
    let x10 : (List (Int × ((List Int) × (List Int)))) := (List.replicate (a1.length : Int).toNat (0, (([] : List Int), ([] : List Int))))
    f17_l3 k k a1 0 x10
      (fun x11 : ((Unit × Unit) × ((List (Int × ((List Int) × (List Int)))) × Unit)) =>
        some (((), ()), (x11.2.1, ())),
      ())
  else
    none
def ef17 : Entry := { id := 17, ar := { temps := [(0, .c (.sl (.pair (.int .i64) (.pair (.sl (.int .i64)) (.sl (.int .i64))))))], blocks := [], ren := [] }, res := { temps := [(0, .c (.row 4000000))], blocks := [(4000000, .own 61 (.p (.d (.int .i64)) (.p (.s 2 (.d (.int .i64))) (.s 2 (.d (.int .i64))))))], ren := [] }, f := fun k v => f17 k v.1.1 }
def gf17 (k : Nat) : Full := { tt := tt, n := 23, fns := [ef57], trunc := [], tails := [], touch := [], opens := [], shapes := [(7, (.p (.d (.int .i64)) (.p (.s 2 (.d (.int .i64))) (.s 2 (.d (.int .i64))))))], closes := [], whole := true, k := k, glob := glob, cuts := [(3, (cf17_l3 k))], joins := [] }
theorem of17_l3 (k : Nat) : CutOk (gf17 k) (cf17_l3 k) (theLoop Try.f17 3) := fun ρ v nx => ⟨by kernel_rfl, fun j => by kernel_rfl⟩
theorem qf17 (k : Nat) : AllP (bodyL (gf17 k) Try.f17) := by
  have h : (CutOk (gf17 k) (cf17_l3 k) (theLoop Try.f17 3) ∧ True) = AllP (bodyL (gf17 k) Try.f17) := by kernel_rfl
  exact Eq.mp h (And.intro (of17_l3 k) (trivial))
theorem sf17 : Sound Try.prog glob ef17 := sound_of base (fn := Try.f17) Try.func17 (by kernel_rfl) gf17 (fun _ => ⟨rfl, rfl⟩) (fun k j => ⟨sf57.at j, trivial⟩) qf17 (fun k v => by kernel_rfl)

/-! spec.l00In -/
def f59 (k : Nat) (a1 : Int) (a2 : Int) (a3 : Int) : Option ((Bool × Unit) × Unit) :=
  bif (decide (a1 ≥ a2)) then
    some (((decide (a1 ≤ a3)), ()), ())
  else
    some ((false, ()), ())
def ef59 : Entry := { id := 59, ar := { temps := [(0, .c (.int .i64)), (1, .c (.int .i64)), (2, .c (.int .i64))], blocks := [], ren := [] }, res := { temps := [(0, .c .bool)], blocks := [], ren := [] }, f := fun k v => f59 k v.1.1 v.1.2.1 v.1.2.2.1 }
def gf59 (k : Nat) : Full := { tt := tt, n := 15, fns := [], trunc := [], tails := [], touch := [], opens := [], shapes := [], closes := [], k := k, glob := glob, cuts := [], joins := [] }
theorem qf59 (k : Nat) : AllP (bodyL (gf59 k) Try.f59) := by
  have h : True = AllP (bodyL (gf59 k) Try.f59) := by kernel_rfl
  exact Eq.mp h trivial
theorem sf59 : Sound Try.prog glob ef59 := sound_of base (fn := Try.f59) Try.func59 (by kernel_rfl) gf59 (fun _ => ⟨rfl, rfl⟩) (fun k j => trivial) qf59 (fun k v => by kernel_rfl)

/-! spec.l00Rises -/
def f93_l2 {ρ : Type} (k : Nat) : Nat → (List Int) → Int → Int → Int → (((Unit × Unit) → Option ρ) × (((Bool × Unit) × Unit) → Option ρ) × Unit) → Option ρ
  | 0, _, _, _, _, _ => none
  | j + 1, v13, v14, v15, v16, nx =>
    bif (decide (v16 < (v13.length : Int))) then
      (getI v13 v16).bind fun x17 =>
      (f59 k x17 v14 v15).bind fun x18 =>
      bif (!x18.1.1) then
        nx.2.1 ((false, ()), ())
      else
        bif (decide (v16 > 0)) then
          (getI v13 (wr .i64 (v16 - 1))).bind fun x19 =>
          (getI v13 v16).bind fun x20 =>
          bif (decide (x19 ≥ x20)) then
            nx.2.1 ((false, ()), ())
          else
            f93_l2 k j v13 v14 v15 (wr .i64 (v16 + 1)) nx
        else
          f93_l2 k j v13 v14 v15 (wr .i64 (v16 + 1)) nx
    else
      nx.1 ((), ())
def cf93_l2 (k : Nat) : Cut := { sp := { temps := [(0, .c (.sl (.int .i64))), (1, .c (.int .i64)), (2, .c (.int .i64)), (7, .c (.int .i64))], blocks := [], ren := [] }, outs := [(.exit 0, { temps := [], blocks := [], ren := [] }), (.ret, { temps := [(6, .c .bool)], blocks := [], ren := [] })], F := fun ρ j v nx => f93_l2 k j v.1.1 v.1.2.1 v.1.2.2.1 v.1.2.2.2.1 nx }
def f93 (k : Nat) (a1 : (List Int)) (a2 : Int) (a3 : Int) : Option ((Bool × Unit) × Unit) :=
  f93_l2 k k a1 a2 a3 0
    (fun x11 : (Unit × Unit) =>
      some ((true, ()), ()),
    fun x12 : ((Bool × Unit) × Unit) =>
      some ((x12.1.1, ()), ()),
    ())
def ef93 : Entry := { id := 93, ar := { temps := [(0, .c (.sl (.int .i64))), (1, .c (.int .i64)), (2, .c (.int .i64))], blocks := [], ren := [] }, res := { temps := [(0, .c .bool)], blocks := [], ren := [] }, f := fun k v => f93 k v.1.1 v.1.2.1 v.1.2.2.1 }
def gf93 (k : Nat) : Full := { tt := tt, n := 38, fns := [ef59], trunc := [], tails := [], touch := [], opens := [], shapes := [], closes := [], k := k, glob := glob, cuts := [(2, (cf93_l2 k))], joins := [] }
theorem of93_l2 (k : Nat) : CutOk (gf93 k) (cf93_l2 k) (theLoop Try.f93 2) := fun ρ v nx => ⟨by kernel_rfl, fun j => by kernel_rfl⟩
theorem qf93 (k : Nat) : AllP (bodyL (gf93 k) Try.f93) := by
  have h : (CutOk (gf93 k) (cf93_l2 k) (theLoop Try.f93 2) ∧ True) = AllP (bodyL (gf93 k) Try.f93) := by kernel_rfl
  exact Eq.mp h (And.intro (of93_l2 k) (trivial))
theorem sf93 : Sound Try.prog glob ef93 := sound_of base (fn := Try.f93) Try.func93 (by kernel_rfl) gf93 (fun _ => ⟨rfl, rfl⟩) (fun k j => ⟨sf59.at j, trivial⟩) qf93 (fun k v => by kernel_rfl)

/-! spec.l15Rule -/
def f75_l4 {ρ : Type} (k : Nat) : Nat → (Int × ((List Int) × (List Int))) → Int → (((Unit × Unit) → Option ρ) × (((Bool × Unit) × Unit) → Option ρ) × Unit) → Option ρ
  | 0, _, _, _ => none
  | j + 1, v21, v22, nx =>
    bif (decide (v22 < (v21.2.2.length : Int))) then
      (getI v21.2.2 v22).bind fun x23 =>
      bif (x23 != 1) then
        (getI v21.2.2 v22).bind fun x24 =>
        bif (x24 != (-1)) then
          nx.2.1 ((false, ()), ())
        else
          f75_l4 k j v21 (wr .i64 (v22 + 1)) nx
      else
        f75_l4 k j v21 (wr .i64 (v22 + 1)) nx
    else
      nx.1 ((), ())
def cf75_l4 (k : Nat) : Cut := { sp := { temps := [(0, .c (.dp (.pair (.int .i64) (.pair (.sl (.int .i64)) (.sl (.int .i64)))))), (5, .c (.int .i64))], blocks := [], ren := [] }, outs := [(.exit 0, { temps := [], blocks := [], ren := [] }), (.ret, { temps := [(4, .c .bool)], blocks := [], ren := [] })], F := fun ρ j v nx => f75_l4 k j v.1.1 v.1.2.1 nx }
def f75 (k : Nat) (a1 : (Int × ((List Int) × (List Int)))) (a2 : Int) : Option ((Bool × Unit) × Unit) :=
  (f59 k a1.1 1 4).bind fun x16 =>
  bif (!x16.1.1) then
    some ((false, ()), ())
  else
    bif ((a1.2.1.length : Int) != a1.1) then
      some ((false, ()), ())
    else
      let x17 : Bool := ((a1.2.2.length : Int) != (a1.2.1.length : Int))
      bif x17 then
        some ((false, ()), ())
      else
        (f93 k a1.2.1 0 (wr .i64 (a2 - 1))).bind fun x18 =>
        bif (!x18.1.1) then
          some ((false, ()), ())
        else
          f75_l4 k k a1 0
            (fun x19 : (Unit × Unit) =>
              some ((true, ()), ()),
            fun x20 : ((Bool × Unit) × Unit) =>
              some ((x20.1.1, ()), ()),
            ())
def ef75 : Entry := { id := 75, ar := { temps := [(0, .c (.dp (.pair (.int .i64) (.pair (.sl (.int .i64)) (.sl (.int .i64)))))), (1, .c (.int .i64))], blocks := [], ren := [] }, res := { temps := [(0, .c .bool)], blocks := [], ren := [] }, f := fun k v => f75 k v.1.1 v.1.2.1 }
def gf75 (k : Nat) : Full := { tt := tt, n := 74, fns := [ef59, ef93], trunc := [], tails := [], touch := [], opens := [], shapes := [], closes := [], k := k, glob := glob, cuts := [(4, (cf75_l4 k))], joins := [] }
theorem of75_l4 (k : Nat) : CutOk (gf75 k) (cf75_l4 k) (theLoop Try.f75 4) := fun ρ v nx => ⟨by kernel_rfl, fun j => by kernel_rfl⟩
theorem qf75 (k : Nat) : AllP (bodyL (gf75 k) Try.f75) := by
  have h : (CutOk (gf75 k) (cf75_l4 k) (theLoop Try.f75 4) ∧ True) = AllP (bodyL (gf75 k) Try.f75) := by kernel_rfl
  exact Eq.mp h (And.intro (of75_l4 k) (trivial))
theorem sf75 : Sound Try.prog glob ef75 := sound_of base (fn := Try.f75) Try.func75 (by kernel_rfl) gf75 (fun _ => ⟨rfl, rfl⟩) (fun k j => ⟨sf59.at j, sf93.at j, trivial⟩) qf75 (fun k v => by kernel_rfl)

/-! spec.l15Rules -/
def f44_l4 {ρ : Type} (k : Nat) : Nat → (List (Int × ((List Int) × (List Int)))) → Int → Int → (((Unit × Unit) → Option ρ) × (((Bool × Unit) × Unit) → Option ρ) × Unit) → Option ρ
  | 0, _, _, _, _ => none
  | j + 1, v14, v15, v16, nx =>
    bif (decide (v16 < (v14.length : Int))) then
      (getI v14 v16).bind fun x17 =>
      (f75 k x17 v15).bind fun x18 =>
      bif (!x18.1.1) then
        nx.2.1 ((false, ()), ())
      else
        f44_l4 k j v14 v15 (wr .i64 (v16 + 1)) nx
    else
      nx.1 ((), ())
def cf44_l4 (k : Nat) : Cut := { sp := { temps := [(0, .c (.sl (.pair (.int .i64) (.pair (.sl (.int .i64)) (.sl (.int .i64)))))), (1, .c (.int .i64)), (5, .c (.int .i64))], blocks := [], ren := [] }, outs := [(.exit 0, { temps := [], blocks := [], ren := [] }), (.ret, { temps := [(4, .c .bool)], blocks := [], ren := [] })], F := fun ρ j v nx => f44_l4 k j v.1.1 v.1.2.1 v.1.2.2.1 nx }
def f44 (k : Nat) (a1 : (List (Int × ((List Int) × (List Int))))) (a2 : Int) : Option ((Bool × Unit) × Unit) :=
  bif (decide ((a1.length : Int) > 3000)) then
    some ((false, ()), ())
  else
    (f59 k a2 0 200).bind fun x11 =>
    bif (!x11.1.1) then
      some ((false, ()), ())
    else
      f44_l4 k k a1 a2 0
        (fun x12 : (Unit × Unit) =>
          some ((true, ()), ()),
        fun x13 : ((Bool × Unit) × Unit) =>
          some ((x13.1.1, ()), ()),
        ())
def ef44 : Entry := { id := 44, ar := { temps := [(0, .c (.sl (.pair (.int .i64) (.pair (.sl (.int .i64)) (.sl (.int .i64)))))), (1, .c (.int .i64))], blocks := [], ren := [] }, res := { temps := [(0, .c .bool)], blocks := [], ren := [] }, f := fun k v => f44 k v.1.1 v.1.2.1 }
def gf44 (k : Nat) : Full := { tt := tt, n := 26, fns := [ef59, ef75], trunc := [], tails := [], touch := [], opens := [], shapes := [], closes := [], k := k, glob := glob, cuts := [(4, (cf44_l4 k))], joins := [] }
theorem of44_l4 (k : Nat) : CutOk (gf44 k) (cf44_l4 k) (theLoop Try.f44 4) := fun ρ v nx => ⟨by kernel_rfl, fun j => by kernel_rfl⟩
theorem qf44 (k : Nat) : AllP (bodyL (gf44 k) Try.f44) := by
  have h : (CutOk (gf44 k) (cf44_l4 k) (theLoop Try.f44 4) ∧ True) = AllP (bodyL (gf44 k) Try.f44) := by kernel_rfl
  exact Eq.mp h (And.intro (of44_l4 k) (trivial))
theorem sf44 : Sound Try.prog glob ef44 := sound_of base (fn := Try.f44) Try.func44 (by kernel_rfl) gf44 (fun _ => ⟨rfl, rfl⟩) (fun k j => ⟨sf59.at j, sf75.at j, trivial⟩) qf44 (fun k v => by kernel_rfl)

/-! spec.l16Ask -/
def f55 (k : Nat) (a1 : (List (Int × ((List Int) × (List Int))))) (a2 : Int) (a3 : Int) : Option ((Bool × Unit) × Unit) :=
  (f44 k a1 a2).bind fun x3 =>
  bif x3.1.1 then
    (f59 k a3 1 5000).bind fun x4 =>
    some ((x4.1.1, ()), ())
  else
    some ((false, ()), ())
def ef55 : Entry := { id := 55, ar := { temps := [(0, .c (.sl (.pair (.int .i64) (.pair (.sl (.int .i64)) (.sl (.int .i64)))))), (1, .c (.int .i64)), (2, .c (.int .i64))], blocks := [], ren := [] }, res := { temps := [(0, .c .bool)], blocks := [], ren := [] }, f := fun k v => f55 k v.1.1 v.1.2.1 v.1.2.2.1 }
def gf55 (k : Nat) : Full := { tt := tt, n := 14, fns := [ef44, ef59], trunc := [], tails := [], touch := [], opens := [], shapes := [], closes := [], k := k, glob := glob, cuts := [], joins := [] }
theorem qf55 (k : Nat) : AllP (bodyL (gf55 k) Try.f55) := by
  have h : True = AllP (bodyL (gf55 k) Try.f55) := by kernel_rfl
  exact Eq.mp h trivial
theorem sf55 : Sound Try.prog glob ef55 := sound_of base (fn := Try.f55) Try.func55 (by kernel_rfl) gf55 (fun _ => ⟨rfl, rfl⟩) (fun k j => ⟨sf44.at j, sf59.at j, trivial⟩) qf55 (fun k v => by kernel_rfl)

/-! spec.l15Holds -/
def f47_l6 {ρ : Type} (k : Nat) : Nat → (Int × ((List Int) × (List Int))) → (List Int) → Int → Int → Int → Int → Int → (((((Int × ((List Int) × (List Int))) × Int × Int × Int × Int × Unit) × Unit) → Option ρ) × Unit) → Option ρ
  | 0, _, _, _, _, _, _, _, _ => none
  | j + 1, v15, v16, v17, v18, v19, v20, v21, nx =>
    bif (decide (v21 < (v15.2.1.length : Int))) then
      (getI v15.2.1 v21).bind fun x22 =>
      (getI v16 x22).bind fun x23 =>
      (getI v15.2.2 v21).bind fun x24 =>
      bif ((wr .i64 (x23 * x24)) == 0) then
        f47_l6 k j v15 v16 (wr .i64 (v17 + 1)) (wr .i64 (v18 * (wr .i64 (x23 * x24)))) v19 v20 (wr .i64 (v21 + 1)) nx
      else
        bif ((wr .i64 (x23 * x24)) == 1) then
          f47_l6 k j v15 v16 v17 (wr .i64 (v18 * (wr .i64 (x23 * x24)))) (wr .i64 (v19 + 1)) v20 (wr .i64 (v21 + 1)) nx
        else
          f47_l6 k j v15 v16 v17 (wr .i64 (v18 * (wr .i64 (x23 * x24)))) v19 (wr .i64 (v20 + 1)) (wr .i64 (v21 + 1)) nx
    else
      nx.1 ((v15, v17, v18, v19, v20, ()), ())
def cf47_l6 (k : Nat) : Cut := { sp := { temps := [(0, .c (.dp (.pair (.int .i64) (.pair (.sl (.int .i64)) (.sl (.int .i64)))))), (1, .c (.sl (.int .i64))), (5, .c (.int .i64)), (6, .c (.int .i64)), (7, .c (.int .i64)), (8, .c (.int .i64)), (9, .c (.int .i64))], blocks := [], ren := [] }, outs := [(.exit 0, { temps := [(0, .c (.dp (.pair (.int .i64) (.pair (.sl (.int .i64)) (.sl (.int .i64)))))), (5, .c (.int .i64)), (6, .c (.int .i64)), (7, .c (.int .i64)), (8, .c (.int .i64))], blocks := [], ren := [] })], F := fun ρ j v nx => f47_l6 k j v.1.1 v.1.2.1 v.1.2.2.1 v.1.2.2.2.1 v.1.2.2.2.2.1 v.1.2.2.2.2.2.1 v.1.2.2.2.2.2.2.1 nx }
def f47 (k : Nat) (a1 : (Int × ((List Int) × (List Int)))) (a2 : (List Int)) : Option ((Int × Unit) × Unit) :=
  f47_l6 k k a1 a2 0 1 0 0 0
    (fun x14 : (((Int × ((List Int) × (List Int))) × Int × Int × Int × Int × Unit) × Unit) =>
      bif (x14.1.1.1 == 3) then
        bif (decide (x14.1.2.2.2.1 > 0)) then
          bif (decide (x14.1.2.2.2.2.1 > 0)) then
            some ((1, ()), ())
          else
            bif (x14.1.2.1 == 0) then
              some (((-1), ()), ())
            else
              some ((0, ()), ())
        else
          bif (x14.1.2.1 == 0) then
            some (((-1), ()), ())
          else
            some ((0, ()), ())
      else
        bif (x14.1.1.1 == 2) then
          bif (decide (x14.1.2.2.2.1 > 0)) then
            bif (decide (x14.1.2.2.2.2.1 > 0)) then
              some (((-1), ()), ())
            else
              bif (x14.1.2.1 == 0) then
                some ((1, ()), ())
              else
                some ((0, ()), ())
          else
            bif (x14.1.2.1 == 0) then
              some ((1, ()), ())
            else
              some ((0, ()), ())
        else
          some ((x14.1.2.2.1, ()), ()),
    ())
def ef47 : Entry := { id := 47, ar := { temps := [(0, .c (.dp (.pair (.int .i64) (.pair (.sl (.int .i64)) (.sl (.int .i64)))))), (1, .c (.sl (.int .i64)))], blocks := [], ren := [] }, res := { temps := [(0, .c (.int .i64))], blocks := [], ren := [] }, f := fun k v => f47 k v.1.1 v.1.2.1 }
def gf47 (k : Nat) : Full := { tt := tt, n := 77, fns := [], trunc := [], tails := [], touch := [], opens := [], shapes := [], closes := [], k := k, glob := glob, cuts := [(6, (cf47_l6 k))], joins := [] }
theorem of47_l6 (k : Nat) : CutOk (gf47 k) (cf47_l6 k) (theLoop Try.f47 6) := fun ρ v nx => ⟨by kernel_rfl, fun j => by kernel_rfl⟩
theorem qf47 (k : Nat) : AllP (bodyL (gf47 k) Try.f47) := by
  have h : (CutOk (gf47 k) (cf47_l6 k) (theLoop Try.f47 6) ∧ True) = AllP (bodyL (gf47 k) Try.f47) := by kernel_rfl
  exact Eq.mp h (And.intro (of47_l6 k) (trivial))
theorem sf47 : Sound Try.prog glob ef47 := sound_of base (fn := Try.f47) Try.func47 (by kernel_rfl) gf47 (fun _ => ⟨rfl, rfl⟩) (fun k j => trivial) qf47 (fun k v => by kernel_rfl)

/-! spec.l15Forced -/
def f95_l5 {ρ : Type} (k : Nat) : Nat → (Int × ((List Int) × (List Int))) → Int → Int → (List Int) → (((((Int × ((List Int) × (List Int))) × Unit × Int × Unit) × ((List Int) × Unit)) → Option ρ) × (((Int × Int × Unit) × ((List Int) × Unit)) → Option ρ) × Unit) → Option ρ
  | 0, _, _, _, _, _ => none
  | j + 1, v33, v34, v35, v36, nx =>
    bif (decide (v35 < (v33.2.1.length : Int))) then
      (getI v33.2.1 v35).bind fun x39 =>
      bif decide (0 ≤ x39) && decide (x39 < (v36.length : Int)) then
        (v36[x39.toNat]?).bind fun x40 =>
        bif (x40 != 0) then
          f95_l5 k j v33 v34 (wr .i64 (v35 + 1)) v36 nx
        else
          bif (decide (v34 ≥ 0)) then
            nx.2.1 (((-1), 0, ()), (v36, ()))
          else
            (getI v33.2.1 v35).bind fun x41 =>
            f95_l5 k j v33 x41 (wr .i64 (v35 + 1)) v36 nx
      else
        none
    else
      nx.1 ((v33, (), v34, ()), (v36, ()))
def cf95_l5 (k : Nat) : Cut := { sp := { temps := [(0, .c (.dp (.pair (.int .i64) (.pair (.sl (.int .i64)) (.sl (.int .i64)))))), (1, .c (.lit (.row 3000000))), (6, .c (.int .i64)), (7, .c (.int .i64))], blocks := [(3000000, .row 2 (.int .i64))], ren := [(3000000, some 3000000)] }, outs := [(.exit 0, { temps := [(0, .c (.dp (.pair (.int .i64) (.pair (.sl (.int .i64)) (.sl (.int .i64)))))), (1, .c (.lit (.row 3000000))), (6, .c (.int .i64))], blocks := [(3000000, .row 2 (.int .i64))], ren := [(3000000, some 3000000)] }), (.ret, { temps := [(4, .c (.int .i64)), (5, .c (.int .i64))], blocks := [(3000000, .row 2 (.int .i64))], ren := [(3000000, some 3000000)] })], F := fun ρ j v nx => f95_l5 k j v.1.1 v.1.2.2.1 v.1.2.2.2.1 v.2.1 nx }
def f95_l12 {ρ : Type} (k : Nat) : Nat → (Int × ((List Int) × (List Int))) → Int → Int → (List Int) → (((Unit × ((List Int) × Unit)) → Option ρ) × (((Int × Int × Unit) × ((List Int) × Unit)) → Option ρ) × Unit) → Option ρ
  | 0, _, _, _, _, _ => none
  | j + 1, v42, v43, v44, v45, nx =>
    bif (decide (v44 ≤ 1)) then
      bif decide (0 ≤ v43) && decide (v43 < (v45.length : Int)) then
        (v45[v43.toNat]?).bind fun _ =>
        (f47 k v42 (v45.set v43.toNat v44)).bind fun x47 =>
        bif decide (0 ≤ v43) && decide (v43 < ((v45.set v43.toNat v44).length : Int)) then
          ((v45.set v43.toNat v44)[v43.toNat]?).bind fun _ =>
          bif (decide (x47.1.1 < 0)) then
            nx.2.1 ((v43, (wr .i64 (0 - v44)), ()), (((v45.set v43.toNat v44).set v43.toNat 0), ()))
          else
            f95_l12 k j v42 v43 (wr .i64 (v44 + 2)) ((v45.set v43.toNat v44).set v43.toNat 0) nx
        else
          none
      else
        none
    else
      nx.1 ((), (v45, ()))
def cf95_l12 (k : Nat) : Cut := { sp := { temps := [(0, .c (.dp (.pair (.int .i64) (.pair (.sl (.int .i64)) (.sl (.int .i64)))))), (1, .c (.lit (.row 3000000))), (6, .c (.int .i64)), (8, .c (.int .i64))], blocks := [(3000000, .row 2 (.int .i64))], ren := [(3000000, some 3000000)] }, outs := [(.exit 2, { temps := [], blocks := [(3000000, .row 2 (.int .i64))], ren := [(3000000, some 3000000)] }), (.ret, { temps := [(4, .c (.int .i64)), (5, .c (.int .i64))], blocks := [(3000000, .row 2 (.int .i64))], ren := [(3000000, some 3000000)] })], F := fun ρ j v nx => f95_l12 k j v.1.1 v.1.2.2.1 v.1.2.2.2.1 v.2.1 nx }
def f95 (k : Nat) (a1 : (Int × ((List Int) × (List Int)))) (a2 : (List Int)) : Option ((Int × Int × Unit) × ((List Int) × Unit)) :=
  (f47 k a1 a2).bind fun x26 =>
  bif (x26.1.1 != 0) then
    some (((-1), 0, ()), (a2, ()))
  else
    f95_l5 k k a1 (-1) 0 a2
      (fun x29 : (((Int × ((List Int) × (List Int))) × Unit × Int × Unit) × ((List Int) × Unit)) =>
        f95_l12 k k x29.1.1 x29.1.2.2.1 (-1) x29.2.1
          (fun x30 : (Unit × ((List Int) × Unit)) =>
            some (((-1), 0, ()), (x30.2.1, ())),
          fun x31 : ((Int × Int × Unit) × ((List Int) × Unit)) =>
            some ((x31.1.1, x31.1.2.1, ()), (x31.2.1, ())),
          ()),
      fun x32 : ((Int × Int × Unit) × ((List Int) × Unit)) =>
        some ((x32.1.1, x32.1.2.1, ()), (x32.2.1, ())),
      ())
def ef95 : Entry := { id := 95, ar := { temps := [(0, .c (.dp (.pair (.int .i64) (.pair (.sl (.int .i64)) (.sl (.int .i64)))))), (1, .c (.row 3000000))], blocks := [(3000000, .row 2 (.int .i64))], ren := [] }, res := { temps := [(0, .c (.int .i64)), (1, .c (.int .i64))], blocks := [(3000000, .row 2 (.int .i64))], ren := [(3000000, some 3000000)] }, f := fun k v => f95 k v.1.1 v.2.1 }
def gf95 (k : Nat) : Full := { tt := tt, n := 62, fns := [ef47], trunc := [], tails := [], touch := [], opens := [], shapes := [], closes := [], k := k, glob := glob, cuts := [(5, (cf95_l5 k)), (12, (cf95_l12 k))], joins := [] }
theorem of95_l5 (k : Nat) : CutOk (gf95 k) (cf95_l5 k) (theLoop Try.f95 5) := fun ρ v nx => ⟨by kernel_rfl, fun j => by kernel_rfl⟩
theorem of95_l12 (k : Nat) : CutOk (gf95 k) (cf95_l12 k) (theLoop Try.f95 12) := fun ρ v nx => ⟨by kernel_rfl, fun j => by kernel_rfl⟩
theorem qf95 (k : Nat) : AllP (bodyL (gf95 k) Try.f95) := by
  have h : (CutOk (gf95 k) (cf95_l5 k) (theLoop Try.f95 5) ∧ CutOk (gf95 k) (cf95_l12 k) (theLoop Try.f95 12) ∧ True) = AllP (bodyL (gf95 k) Try.f95) := by kernel_rfl
  exact Eq.mp h (And.intro (of95_l5 k) (And.intro (of95_l12 k) (trivial)))
theorem sf95 : Sound Try.prog glob ef95 := sound_of base (fn := Try.f95) Try.func95 (by kernel_rfl) gf95 (fun _ => ⟨rfl, rfl⟩) (fun k j => ⟨sf47.at j, trivial⟩) qf95 (fun k v => by kernel_rfl)

/-! spec.l15Propagate -/
def f83_l4 {ρ : Type} (k : Nat) : Nat → (List (Int × ((List Int) × (List Int)))) → Bool → Int → (List Int) → (List (Int × (Int × Int))) → (((((List (Int × ((List Int) × (List Int)))) × Unit × Unit × Bool × Unit) × ((List Int) × (List (Int × (Int × Int))) × Unit)) → Option ρ) × (((Unit × Int × Unit) × ((List Int) × (List (Int × (Int × Int))) × Unit)) → Option ρ) × Unit) → Option ρ
  | 0, _, _, _, _, _, _ => none
  | j + 1, v20, v21, v22, v23, v24, nx =>
    bif (decide (v22 < (v20.length : Int))) then
      (getI v20 v22).bind fun x27 =>
      (f47 k x27 v23).bind fun x28 =>
      bif (decide (x28.1.1 < 0)) then
        nx.2.1 (((), v22, ()), (v23, v24, ()))
      else
        (getI v20 v22).bind fun x29 =>
        (f95 k x29 v23).bind fun x30 =>
        bif (decide (x30.1.1 ≥ 0)) then
          bif decide (0 ≤ x30.1.1) && decide (x30.1.1 < (x30.2.1.length : Int)) then
            (x30.2.1[x30.1.1.toNat]?).bind fun _ =>
            bif decide ((v24.length + [(v22, (x30.1.1, x30.1.2.1))].length) * 24 ≤ roomy) then
              f83_l4 k j v20 true (wr .i64 (v22 + 1)) (x30.2.1.set x30.1.1.toNat x30.1.2.1) (v24 ++ [(v22, (x30.1.1, x30.1.2.1))]) nx
            else
              none
          else
            none
        else
          f83_l4 k j v20 v21 (wr .i64 (v22 + 1)) x30.2.1 v24 nx
    else
      nx.1 ((v20, (), (), v21, ()), (v23, v24, ()))
def cf83_l4 (k : Nat) : Cut := { sp := { temps := [(0, .c (.sl (.pair (.int .i64) (.pair (.sl (.int .i64)) (.sl (.int .i64)))))), (1, .c (.lit (.row 3000000))), (6, .c (.row 5000000)), (7, .c .bool), (8, .c (.int .i64))], blocks := [(3000000, .row 2 (.int .i64)), (5000000, .row 115 (.pair (.int .i64) (.pair (.int .i64) (.int .i64))))], ren := [(3000000, some 3000000)] }, outs := [(.exit 2, { temps := [(0, .c (.sl (.pair (.int .i64) (.pair (.sl (.int .i64)) (.sl (.int .i64)))))), (1, .c (.lit (.row 3000000))), (6, .c (.row 5000000)), (7, .c .bool)], blocks := [(3000000, .row 2 (.int .i64)), (5000000, .row 115 (.pair (.int .i64) (.pair (.int .i64) (.int .i64))))], ren := [(3000000, some 3000000)] }), (.ret, { temps := [(4, .c (.row 5000000)), (5, .c (.int .i64))], blocks := [(3000000, .row 2 (.int .i64)), (5000000, .row 115 (.pair (.int .i64) (.pair (.int .i64) (.int .i64))))], ren := [(3000000, some 3000000)] })], F := fun ρ j v nx => f83_l4 k j v.1.1 v.1.2.2.2.1 v.1.2.2.2.2.1 v.2.1 v.2.2.1 nx }
def f83_l2 {ρ : Type} (k : Nat) : Nat → (List (Int × ((List Int) × (List Int)))) → (List Int) → (List (Int × (Int × Int))) → ((((Unit × Int × Unit) × ((List Int) × (List (Int × (Int × Int))) × Unit)) → Option ρ) × Unit) → Option ρ
  | 0, _, _, _, _ => none
  | j + 1, v32, v33, v34, nx =>
    f83_l4 k k v32 false 0 v33 v34
      (fun x35 : (((List (Int × ((List Int) × (List Int)))) × Unit × Unit × Bool × Unit) × ((List Int) × (List (Int × (Int × Int))) × Unit)) =>
        bif (!x35.1.2.2.2.1) then
          nx.1 (((), (-1), ()), (x35.2.1, x35.2.2.1, ()))
        else
          f83_l2 k j x35.1.1 x35.2.1 x35.2.2.1 nx,
      fun x36 : ((Unit × Int × Unit) × ((List Int) × (List (Int × (Int × Int))) × Unit)) =>
        nx.1 (((), x36.1.2.1, ()), (x36.2.1, x36.2.2.1, ())),
      ())
def cf83_l2 (k : Nat) : Cut := { sp := { temps := [(0, .c (.sl (.pair (.int .i64) (.pair (.sl (.int .i64)) (.sl (.int .i64)))))), (1, .c (.lit (.row 3000000))), (6, .c (.row 5000000))], blocks := [(3000000, .row 2 (.int .i64)), (5000000, .row 115 (.pair (.int .i64) (.pair (.int .i64) (.int .i64))))], ren := [(3000000, some 3000000)] }, outs := [(.ret, { temps := [(4, .c (.row 5000000)), (5, .c (.int .i64))], blocks := [(3000000, .row 2 (.int .i64)), (5000000, .row 115 (.pair (.int .i64) (.pair (.int .i64) (.int .i64))))], ren := [(3000000, some 3000000)] })], F := fun ρ j v nx => f83_l2 k j v.1.1 v.2.1 v.2.2.1 nx }
def f83 (k : Nat) (a1 : (List (Int × ((List Int) × (List Int))))) (a2 : (List Int)) : Option ((Unit × Int × Unit) × ((List Int) × (List (Int × (Int × Int))) × Unit)) :=
  f83_l2 k k a1 a2 ([] : List (Int × (Int × Int)))
    (fun x19 : ((Unit × Int × Unit) × ((List Int) × (List (Int × (Int × Int))) × Unit)) =>
      some (((), x19.1.2.1, ()), (x19.2.1, x19.2.2.1, ())),
    ())
def ef83 : Entry := { id := 83, ar := { temps := [(0, .c (.sl (.pair (.int .i64) (.pair (.sl (.int .i64)) (.sl (.int .i64)))))), (1, .c (.row 3000000))], blocks := [(3000000, .row 2 (.int .i64))], ren := [] }, res := { temps := [(0, .c (.row 4000000)), (1, .c (.int .i64))], blocks := [(3000000, .row 2 (.int .i64)), (4000000, .row 115 (.pair (.int .i64) (.pair (.int .i64) (.int .i64))))], ren := [(3000000, some 3000000)] }, f := fun k v => f83 k v.1.1 v.2.1 }
def gf83 (k : Nat) : Full := { tt := tt, n := 50, fns := [ef47, ef95], trunc := [], tails := [], touch := [], opens := [], shapes := [], closes := [], k := k, glob := glob, cuts := [(4, (cf83_l4 k)), (2, (cf83_l2 k))], joins := [] }
theorem of83_l4 (k : Nat) : CutOk (gf83 k) (cf83_l4 k) (theLoop Try.f83 4) := fun ρ v nx => ⟨by kernel_rfl, fun j => by kernel_rfl⟩
theorem of83_l2 (k : Nat) : CutOk (gf83 k) (cf83_l2 k) (theLoop Try.f83 2) := fun ρ v nx => ⟨by kernel_rfl, fun j => by kernel_rfl⟩
theorem qf83 (k : Nat) : AllP (bodyL (gf83 k) Try.f83) := by
  have h : (CutOk (gf83 k) (cf83_l4 k) (theLoop Try.f83 4) ∧ CutOk (gf83 k) (cf83_l2 k) (theLoop Try.f83 2) ∧ True) = AllP (bodyL (gf83 k) Try.f83) := by kernel_rfl
  exact Eq.mp h (And.intro (of83_l4 k) (And.intro (of83_l2 k) (trivial)))
theorem sf83 : Sound Try.prog glob ef83 := sound_of base (fn := Try.f83) Try.func83 (by kernel_rfl) gf83 (fun _ => ⟨rfl, rfl⟩) (fun k j => ⟨sf47.at j, sf95.at j, trivial⟩) qf83 (fun k v => by kernel_rfl)

/-! spec.l16Open -/
def f84_l2 {ρ : Type} (k : Nat) : Nat → (List Int) → Int → (((Unit × Unit) → Option ρ) × (((Int × Unit) × Unit) → Option ρ) × Unit) → Option ρ
  | 0, _, _, _ => none
  | j + 1, v8, v9, nx =>
    bif (decide (v9 < (v8.length : Int))) then
      (getI v8 v9).bind fun x10 =>
      bif (x10 == 0) then
        nx.2.1 ((v9, ()), ())
      else
        f84_l2 k j v8 (wr .i64 (v9 + 1)) nx
    else
      nx.1 ((), ())
def cf84_l2 (k : Nat) : Cut := { sp := { temps := [(0, .c (.sl (.int .i64))), (3, .c (.int .i64))], blocks := [], ren := [] }, outs := [(.exit 0, { temps := [], blocks := [], ren := [] }), (.ret, { temps := [(2, .c (.int .i64))], blocks := [], ren := [] })], F := fun ρ j v nx => f84_l2 k j v.1.1 v.1.2.1 nx }
def f84 (k : Nat) (a1 : (List Int)) : Option ((Int × Unit) × Unit) :=
  f84_l2 k k a1 0
    (fun x6 : (Unit × Unit) =>
      some (((-1), ()), ()),
    fun x7 : ((Int × Unit) × Unit) =>
      some ((x7.1.1, ()), ()),
    ())
def ef84 : Entry := { id := 84, ar := { temps := [(0, .c (.sl (.int .i64)))], blocks := [], ren := [] }, res := { temps := [(0, .c (.int .i64))], blocks := [], ren := [] }, f := fun k v => f84 k v.1.1 }
def gf84 (k : Nat) : Full := { tt := tt, n := 16, fns := [], trunc := [], tails := [], touch := [], opens := [], shapes := [], closes := [], k := k, glob := glob, cuts := [(2, (cf84_l2 k))], joins := [] }
theorem of84_l2 (k : Nat) : CutOk (gf84 k) (cf84_l2 k) (theLoop Try.f84 2) := fun ρ v nx => ⟨by kernel_rfl, fun j => by kernel_rfl⟩
theorem qf84 (k : Nat) : AllP (bodyL (gf84 k) Try.f84) := by
  have h : (CutOk (gf84 k) (cf84_l2 k) (theLoop Try.f84 2) ∧ True) = AllP (bodyL (gf84 k) Try.f84) := by kernel_rfl
  exact Eq.mp h (And.intro (of84_l2 k) (trivial))
theorem sf84 : Sound Try.prog glob ef84 := sound_of base (fn := Try.f84) Try.func84 (by kernel_rfl) gf84 (fun _ => ⟨rfl, rfl⟩) (fun k j => trivial) qf84 (fun k v => by kernel_rfl)

/-! spec.l00Own -/
def f85 (k : Nat) (a1 : (List Int)) : Option ((Unit × Unit) × ((List Int) × Unit)) :=
  bif decide ((([] : List Int).length + a1.length) * 8 ≤ roomy) then
    some (((), ()), ((([] : List Int) ++ a1), ()))
  else
    none
def ef85 : Entry := { id := 85, ar := { temps := [(0, .c (.sl (.int .i64)))], blocks := [], ren := [] }, res := { temps := [(0, .c (.row 4000000))], blocks := [(4000000, .row 2 (.int .i64))], ren := [] }, f := fun k v => f85 k v.1.1 }
def gf85 (k : Nat) : Full := { tt := tt, n := 6, fns := [], trunc := [], tails := [], touch := [], opens := [], shapes := [], closes := [], k := k, glob := glob, cuts := [], joins := [] }
theorem qf85 (k : Nat) : AllP (bodyL (gf85 k) Try.f85) := by
  have h : True = AllP (bodyL (gf85 k) Try.f85) := by kernel_rfl
  exact Eq.mp h trivial
theorem sf85 : Sound Try.prog glob ef85 := sound_of base (fn := Try.f85) Try.func85 (by kernel_rfl) gf85 (fun _ => ⟨rfl, rfl⟩) (fun k j => trivial) qf85 (fun k v => by kernel_rfl)

/-! spec.l16Search).run -/
def f81_l14 {ρ : Type} (self : (List (Int × ((List Int) × (List Int)))) → Int → Int → Int → Int → (List (List Int)) → (List Int) → Option ((Bool × Unit) × (((List (Int × ((List Int) × (List Int)))) × Int × Int × Int × Int × Unit × Unit) × (List (List Int)) × Unit))) (k : Nat) : Nat → Int → Int → (List (Int × ((List Int) × (List Int)))) → Int → Int → Int → Int → (List Int) → (List (List Int)) → (((Unit × (((List (Int × ((List Int) × (List Int)))) × Int × Int × Int × Int × Unit × Unit) × (List Int) × (List (List Int)) × Unit)) → Option ρ) × (((Bool × Unit) × (((List (Int × ((List Int) × (List Int)))) × Int × Int × Int × Int × Unit × Unit) × (List Int) × (List (List Int)) × Unit)) → Option ρ) × Unit) → Option ρ
  | 0, _, _, _, _, _, _, _, _, _, _ => none
  | j + 1, v47, v48, v49, v50, v51, v52, v53, v54, v55, nx =>
    bif (decide (v48 ≥ (-1))) then
      (f85 k v54).bind fun x56 =>
      bif decide (0 ≤ v47) && decide (v47 < (x56.2.1.length : Int)) then
        (x56.2.1[v47.toNat]?).bind fun _ =>
        (self v49 v50 v51 v52 v53 v55 (x56.2.1.set v47.toNat v48)).bind fun x58 =>
        bif (!x58.1.1) then
          nx.2.1 ((false, ()), ((x58.2.1.1, x58.2.1.2.1, x58.2.1.2.2.1, x58.2.1.2.2.2.1, x58.2.1.2.2.2.2.1, (), ()), v54, x58.2.2.1, ()))
        else
          f81_l14 self k j v47 (wr .i64 (v48 - 2)) x58.2.1.1 x58.2.1.2.1 x58.2.1.2.2.1 x58.2.1.2.2.2.1 x58.2.1.2.2.2.2.1 v54 x58.2.2.1 nx
      else
        none
    else
      nx.1 ((), ((v49, v50, v51, v52, v53, (), ()), v54, v55, ()))
def cf81_l14 (self : (List (Int × ((List Int) × (List Int)))) → Int → Int → Int → Int → (List (List Int)) → (List Int) → Option ((Bool × Unit) × (((List (Int × ((List Int) × (List Int)))) × Int × Int × Int × Int × Unit × Unit) × (List (List Int)) × Unit))) (k : Nat) : Cut := { sp := { temps := [(0, .c (.lit (.ptr 3000000 0 0 0))), (1, .c (.lit (.row 3000002))), (7, .c (.int .i64)), (8, .c (.int .i64))], blocks := [(3000000, .box 86 [(.sl (.pair (.int .i64) (.pair (.sl (.int .i64)) (.sl (.int .i64))))), (.int .i64), (.int .i64), (.int .i64), (.int .i64), (.row 5000000)]), (3000002, .row 2 (.int .i64)), (5000000, .own 24 (.s 2 (.d (.int .i64))))], ren := [(3000000, some 3000000), (3000002, some 3000002)] }, outs := [(.exit 0, { temps := [], blocks := [(3000000, .box 86 [(.sl (.pair (.int .i64) (.pair (.sl (.int .i64)) (.sl (.int .i64))))), (.int .i64), (.int .i64), (.int .i64), (.int .i64), (.row 5000000)]), (3000002, .row 2 (.int .i64)), (5000000, .own 24 (.s 2 (.d (.int .i64))))], ren := [(3000000, some 3000000), (3000002, some 3000002)] }), (.ret, { temps := [(4, .c .bool)], blocks := [(3000000, .box 86 [(.sl (.pair (.int .i64) (.pair (.sl (.int .i64)) (.sl (.int .i64))))), (.int .i64), (.int .i64), (.int .i64), (.int .i64), (.row 5000000)]), (3000002, .row 2 (.int .i64)), (5000000, .own 24 (.s 2 (.d (.int .i64))))], ren := [(3000000, some 3000000), (3000002, some 3000002)] })], F := fun ρ j v nx => f81_l14 self k j v.1.2.2.1 v.1.2.2.2.1 v.2.1.1 v.2.1.2.1 v.2.1.2.2.1 v.2.1.2.2.2.1 v.2.1.2.2.2.2.1 v.2.2.1 v.2.2.2.1 nx }
def f81_j12 {ρ : Type} (self : (List (Int × ((List Int) × (List Int)))) → Int → Int → Int → Int → (List (List Int)) → (List Int) → Option ((Bool × Unit) × (((List (Int × ((List Int) × (List Int)))) × Int × Int × Int × Int × Unit × Unit) × (List (List Int)) × Unit))) (k : Nat) (v59 : (List (Int × ((List Int) × (List Int))))) (v60 : Int) (v61 : Int) (v62 : Int) (v63 : Int) (v64 : (List (List Int))) (nx : ((((Bool × Unit) × (((List (Int × ((List Int) × (List Int)))) × Int × Int × Int × Int × Unit × Unit) × (List (List Int)) × Unit)) → Option ρ) × Unit)) : Option ρ :=
  bif (v62 == 0) then
    nx.1 ((true, ()), ((v59, v60, v61, v62, v63, (), ()), v64, ()))
  else
    nx.1 (((decide (v63 < v62)), ()), ((v59, v60, v61, v62, v63, (), ()), v64, ()))
def cf81_j12 (self : (List (Int × ((List Int) × (List Int)))) → Int → Int → Int → Int → (List (List Int)) → (List Int) → Option ((Bool × Unit) × (((List (Int × ((List Int) × (List Int)))) × Int × Int × Int × Int × Unit × Unit) × (List (List Int)) × Unit))) : Cut := { sp := { temps := [(0, .c (.lit (.ptr 3000000 0 0 0)))], blocks := [(3000000, .box 86 [(.sl (.pair (.int .i64) (.pair (.sl (.int .i64)) (.sl (.int .i64))))), (.int .i64), (.int .i64), (.int .i64), (.int .i64), (.row 5000000)]), (5000000, .own 24 (.s 2 (.d (.int .i64))))], ren := [(3000000, some 3000000)] }, outs := [(.ret, { temps := [(4, .c .bool)], blocks := [(3000000, .box 86 [(.sl (.pair (.int .i64) (.pair (.sl (.int .i64)) (.sl (.int .i64))))), (.int .i64), (.int .i64), (.int .i64), (.int .i64), (.row 5000000)]), (5000000, .own 24 (.s 2 (.d (.int .i64))))], ren := [(3000000, some 3000000)] })], F := fun ρ k v nx => f81_j12 self k v.2.1.1 v.2.1.2.1 v.2.1.2.2.1 v.2.1.2.2.2.1 v.2.1.2.2.2.2.1 v.2.2.1 nx }
def f81 : Nat → (List (Int × ((List Int) × (List Int)))) → Int → Int → Int → Int → (List (List Int)) → (List Int) → Option ((Bool × Unit) × (((List (Int × ((List Int) × (List Int)))) × Int × Int × Int × Int × Unit × Unit) × (List (List Int)) × Unit))
  | 0, _, _, _, _, _, _, _ => none
  | k + 1, a1, a2, a3, a4, a5, a6, a7 =>
    bif (decide ((wr .i64 (a3 + 1)) > a2)) then
      some ((false, ()), ((a1, a2, (wr .i64 (a3 + 1)), a4, a5, (), ()), a6, ()))
    else
      (f83 k a1 a7).bind fun x39 =>
      bif (decide (x39.1.2.1 ≥ 0)) then
        some ((true, ()), ((a1, a2, (wr .i64 (a3 + 1)), a4, a5, (), ()), a6, ()))
      else
        (f84 k x39.2.1).bind fun x40 =>
        bif (decide (x40.1.1 < 0)) then
          bif (decide ((a6.length : Int) < a4)) then
            bif decide ((a6.length + [x39.2.1].length) * 24 ≤ roomy) then
              f81_j12 (f81 k) k a1 a2 (wr .i64 (a3 + 1)) a4 (wr .i64 (a5 + 1)) (a6 ++ [x39.2.1])
                (fun x43 : ((Bool × Unit) × (((List (Int × ((List Int) × (List Int)))) × Int × Int × Int × Int × Unit × Unit) × (List (List Int)) × Unit)) =>
                  some ((x43.1.1, ()), ((x43.2.1.1, x43.2.1.2.1, x43.2.1.2.2.1, x43.2.1.2.2.2.1, x43.2.1.2.2.2.2.1, (), ()), x43.2.2.1, ())),
                ())
            else
              none
          else
            f81_j12 (f81 k) k a1 a2 (wr .i64 (a3 + 1)) a4 (wr .i64 (a5 + 1)) a6
              (fun x44 : ((Bool × Unit) × (((List (Int × ((List Int) × (List Int)))) × Int × Int × Int × Int × Unit × Unit) × (List (List Int)) × Unit)) =>
                some ((x44.1.1, ()), ((x44.2.1.1, x44.2.1.2.1, x44.2.1.2.2.1, x44.2.1.2.2.2.1, x44.2.1.2.2.2.2.1, (), ()), x44.2.2.1, ())),
              ())
        else
          f81_l14 (f81 k) k k x40.1.1 1 a1 a2 (wr .i64 (a3 + 1)) a4 a5 x39.2.1 a6
            (fun x45 : (Unit × (((List (Int × ((List Int) × (List Int)))) × Int × Int × Int × Int × Unit × Unit) × (List Int) × (List (List Int)) × Unit)) =>
              some ((true, ()), ((x45.2.1.1, x45.2.1.2.1, x45.2.1.2.2.1, x45.2.1.2.2.2.1, x45.2.1.2.2.2.2.1, (), ()), x45.2.2.2.1, ())),
            fun x46 : ((Bool × Unit) × (((List (Int × ((List Int) × (List Int)))) × Int × Int × Int × Int × Unit × Unit) × (List Int) × (List (List Int)) × Unit)) =>
              some ((x46.1.1, ()), ((x46.2.1.1, x46.2.1.2.1, x46.2.1.2.2.1, x46.2.1.2.2.2.1, x46.2.1.2.2.2.2.1, (), ()), x46.2.2.2.1, ())),
            ())
def ef81 : Entry := { id := 81, ar := { temps := [(0, .c (.box 3000000)), (1, .c (.row 3000002))], blocks := [(3000000, .box 86 [(.sl (.pair (.int .i64) (.pair (.sl (.int .i64)) (.sl (.int .i64))))), (.int .i64), (.int .i64), (.int .i64), (.int .i64), (.row 3000001)]), (3000001, .own 24 (.s 2 (.d (.int .i64)))), (3000002, .row 2 (.int .i64))], ren := [] }, res := { temps := [(0, .c .bool)], blocks := [(3000000, .box 86 [(.sl (.pair (.int .i64) (.pair (.sl (.int .i64)) (.sl (.int .i64))))), (.int .i64), (.int .i64), (.int .i64), (.int .i64), (.row 4000000)]), (4000000, .own 24 (.s 2 (.d (.int .i64))))], ren := [(3000000, some 3000000)] }, f := fun k v => f81 k v.2.1.1 v.2.1.2.1 v.2.1.2.2.1 v.2.1.2.2.2.1 v.2.1.2.2.2.2.1 v.2.2.1 v.2.2.2.1 }
def gf81 (k : Nat) : Full := { tt := tt, n := 98, fns := [ef83, ef84, ef85, ef81], trunc := [], tails := [], touch := [], opens := [], shapes := [(64, (.s 2 (.d (.int .i64)))), (65, (.s 2 (.d (.int .i64))))], closes := [], k := k, glob := glob, cuts := [(14, (cf81_l14 (f81 k) k))], joins := [(12, (cf81_j12 (f81 k)))] }
theorem of81_l14 (k : Nat) : CutOk (gf81 k) (cf81_l14 (f81 k) k) (theLoop Try.f81 14) := fun ρ v nx => ⟨by kernel_rfl, fun j => by kernel_rfl⟩
theorem of81_j12 (k : Nat) : JoinOk (gf81 k) (cf81_j12 (f81 k)) (theJoin Try.f81 12) := fun ρ v nx => by kernel_rfl
theorem qf81 (k : Nat) : AllP (bodyL (gf81 k) Try.f81) := by
  have h : (JoinOk (gf81 k) (cf81_j12 (f81 k)) (theJoin Try.f81 12) ∧ CutOk (gf81 k) (cf81_l14 (f81 k) k) (theLoop Try.f81 14) ∧ True) = AllP (bodyL (gf81 k) Try.f81) := by kernel_rfl
  exact Eq.mp h (And.intro (of81_j12 k) (And.intro (of81_l14 k) (trivial)))
theorem sf81 : Sound Try.prog glob ef81 := sound_rec base (fn := Try.f81) Try.func81 (by kernel_rfl) gf81 (fun _ => ⟨rfl, rfl, rfl⟩) (fun k j h => ⟨sf83.at j, sf84.at j, sf85.at j, h, trivial⟩) qf81 (fun v => by kernel_rfl) (fun k v => by kernel_rfl)

/-! spec.l16Solve -/
def f56 (k : Nat) (a1 : (List (Int × ((List Int) × (List Int))))) (a2 : Int) (a3 : Int) (a4 : Int) : Option ((Unit × Unit) × (((List (Int × ((List Int) × (List Int)))) × Int × Int × Int × Int × Unit × Unit) × (List (List Int)) × Unit)) :=
  bif decide (a2 = a2) && decide (0 ≤ a2) && decide (a2 * 8 ≤ roomy) then
    (f81 k a1 a3 0 a4 0 ([] : List (List Int)) (List.replicate a2.toNat 0)).bind fun x2 =>
    some (((), ()), ((x2.2.1.1, x2.2.1.2.1, x2.2.1.2.2.1, x2.2.1.2.2.2.1, x2.2.1.2.2.2.2.1, (), ()), x2.2.2.1, ()))
  else
    none
def ef56 : Entry := { id := 56, ar := { temps := [(0, .c (.sl (.pair (.int .i64) (.pair (.sl (.int .i64)) (.sl (.int .i64)))))), (1, .c (.int .i64)), (2, .c (.int .i64)), (3, .c (.int .i64))], blocks := [], ren := [] }, res := { temps := [(0, .c (.box 4000000))], blocks := [(4000000, .box 86 [(.sl (.pair (.int .i64) (.pair (.sl (.int .i64)) (.sl (.int .i64))))), (.int .i64), (.int .i64), (.int .i64), (.int .i64), (.row 4000001)]), (4000001, .own 24 (.s 2 (.d (.int .i64))))], ren := [] }, f := fun k v => f56 k v.1.1 v.1.2.1 v.1.2.2.1 v.1.2.2.2.1 }
def gf56 (k : Nat) : Full := { tt := tt, n := 21, fns := [ef81], trunc := [], tails := [], touch := [], opens := [], shapes := [(13, (.s 2 (.d (.int .i64))))], closes := [], k := k, glob := glob, cuts := [], joins := [] }
theorem qf56 (k : Nat) : AllP (bodyL (gf56 k) Try.f56) := by
  have h : True = AllP (bodyL (gf56 k) Try.f56) := by kernel_rfl
  exact Eq.mp h trivial
theorem sf56 : Sound Try.prog glob ef56 := sound_of base (fn := Try.f56) Try.func56 (by kernel_rfl) gf56 (fun _ => ⟨rfl, rfl⟩) (fun k j => ⟨sf81.at j, trivial⟩) qf56 (fun k v => by kernel_rfl)

/-! spec.SolveRules -/
def f23 (k : Nat) (a1 : (List (Int × ((List Int) × (List Int))))) (a2 : Int) (a3 : Int) (a4 : Int) : Option ((Unit × Int × Int × Unit) × ((List (List Int)) × Unit)) :=
  (f55 k a1 a2 a3).bind fun x8 =>
  bif (!x8.1.1) then
    some (((), 0, 1, ()), (([] : List (List Int)), ()))
  else
    (f59 k a4 1 100).bind fun x9 =>
    bif (!x9.1.1) then
      some (((), 0, 1, ()), (([] : List (List Int)), ()))
    else
      (f56 k a1 a2 a3 a4).bind fun x10 =>
      bif (decide (x10.2.1.2.2.1 > a3)) then
        some (((), 0, 10, ()), (([] : List (List Int)), ()))
      else
        some (((), x10.2.1.2.2.1, 0, ()), (x10.2.2.1, ()))
def ef23 : Entry := { id := 23, ar := { temps := [(0, .c (.sl (.pair (.int .i64) (.pair (.sl (.int .i64)) (.sl (.int .i64)))))), (1, .c (.int .i64)), (2, .c (.int .i64)), (3, .c (.int .i64))], blocks := [], ren := [] }, res := { temps := [(0, .c (.row 4000000)), (1, .c (.int .i64)), (2, .c (.int .i64))], blocks := [(4000000, .own 24 (.s 2 (.d (.int .i64))))], ren := [] }, f := fun k v => f23 k v.1.1 v.1.2.1 v.1.2.2.1 v.1.2.2.2.1 }
def gf23 (k : Nat) : Full := { tt := tt, n := 41, fns := [ef55, ef59, ef56], trunc := [], tails := [], touch := [], opens := [], shapes := [], closes := [], k := k, glob := glob, cuts := [], joins := [] }
theorem qf23 (k : Nat) : AllP (bodyL (gf23 k) Try.f23) := by
  have h : True = AllP (bodyL (gf23 k) Try.f23) := by kernel_rfl
  exact Eq.mp h trivial
theorem sf23 : Sound Try.prog glob ef23 := sound_of base (fn := Try.f23) Try.func23 (by kernel_rfl) gf23 (fun _ => ⟨rfl, rfl⟩) (fun k j => ⟨sf55.at j, sf59.at j, sf56.at j, trivial⟩) qf23 (fun k v => by kernel_rfl)

/-! impl.within -/
def f41 (k : Nat) (a1 : Int) (a2 : Int) (a3 : Int) : Option ((Bool × Unit) × Unit) :=
  bif (decide (a1 ≥ a2)) then
    some (((decide (a1 ≤ a3)), ()), ())
  else
    some ((false, ()), ())
def ef41 : Entry := { id := 41, ar := { temps := [(0, .c (.int .i64)), (1, .c (.int .i64)), (2, .c (.int .i64))], blocks := [], ren := [] }, res := { temps := [(0, .c .bool)], blocks := [], ren := [] }, f := fun k v => f41 k v.1.1 v.1.2.1 v.1.2.2.1 }
def gf41 (k : Nat) : Full := { tt := tt, n := 15, fns := [], trunc := [], tails := [], touch := [], opens := [], shapes := [], closes := [], k := k, glob := glob, cuts := [], joins := [] }
theorem qf41 (k : Nat) : AllP (bodyL (gf41 k) Try.f41) := by
  have h : True = AllP (bodyL (gf41 k) Try.f41) := by kernel_rfl
  exact Eq.mp h trivial
theorem sf41 : Sound Try.prog glob ef41 := sound_of base (fn := Try.f41) Try.func41 (by kernel_rfl) gf41 (fun _ => ⟨rfl, rfl⟩) (fun k j => trivial) qf41 (fun k v => by kernel_rfl)

/-! impl.length[int64] -/
def f48 (k : Nat) (a1 : (List Int)) : Option ((Int × Unit) × Unit) :=
  some (((a1.length : Int), ()), ())
def ef48 : Entry := { id := 48, ar := { temps := [(0, .c (.sl (.int .i64)))], blocks := [], ren := [] }, res := { temps := [(0, .c (.int .i64))], blocks := [], ren := [] }, f := fun k v => f48 k v.1.1 }
def gf48 (k : Nat) : Full := { tt := tt, n := 5, fns := [], trunc := [], tails := [], touch := [], opens := [], shapes := [], closes := [], k := k, glob := glob, cuts := [], joins := [] }
theorem qf48 (k : Nat) : AllP (bodyL (gf48 k) Try.f48) := by
  have h : True = AllP (bodyL (gf48 k) Try.f48) := by kernel_rfl
  exact Eq.mp h trivial
theorem sf48 : Sound Try.prog glob ef48 := sound_of base (fn := Try.f48) Try.func48 (by kernel_rfl) gf48 (fun _ => ⟨rfl, rfl⟩) (fun k j => trivial) qf48 (fun k v => by kernel_rfl)

/-! impl.isRising -/
def f91_l2 {ρ : Type} (k : Nat) : Nat → (List Int) → Int → Int → (List Int) → Int → Int → (((Unit × Unit) → Option ρ) × (((Bool × Unit) × Unit) → Option ρ) × Unit) → Option ρ
  | 0, _, _, _, _, _, _, _ => none
  | j + 1, v14, v15, v16, v17, v18, v19, nx =>
    bif (decide (v19 < v18)) then
      (getI v17 v19).bind fun x20 =>
      (f41 k x20 v15 v16).bind fun x21 =>
      bif (!x21.1.1) then
        nx.2.1 ((false, ()), ())
      else
        bif (decide (v19 > 0)) then
          (getI v14 (wr .i64 (v19 - 1))).bind fun x22 =>
          bif (decide (x22 ≥ x20)) then
            nx.2.1 ((false, ()), ())
          else
            f91_l2 k j v14 v15 v16 v17 v18 (wr .i64 (v19 + 1)) nx
        else
          f91_l2 k j v14 v15 v16 v17 v18 (wr .i64 (v19 + 1)) nx
    else
      nx.1 ((), ())
def cf91_l2 (k : Nat) : Cut := { sp := { temps := [(0, .c (.sl (.int .i64))), (1, .c (.int .i64)), (2, .c (.int .i64)), (9, .c (.sl (.int .i64))), (10, .c (.int .i64)), (11, .c (.int .i64))], blocks := [], ren := [] }, outs := [(.exit 0, { temps := [], blocks := [], ren := [] }), (.ret, { temps := [(6, .c .bool)], blocks := [], ren := [] })], F := fun ρ j v nx => f91_l2 k j v.1.1 v.1.2.1 v.1.2.2.1 v.1.2.2.2.1 v.1.2.2.2.2.1 v.1.2.2.2.2.2.1 nx }
def f91 (k : Nat) (a1 : (List Int)) (a2 : Int) (a3 : Int) : Option ((Bool × Unit) × Unit) :=
  f91_l2 k k a1 a2 a3 a1 (a1.length : Int) 0
    (fun x12 : (Unit × Unit) =>
      some ((true, ()), ()),
    fun x13 : ((Bool × Unit) × Unit) =>
      some ((x13.1.1, ()), ()),
    ())
def ef91 : Entry := { id := 91, ar := { temps := [(0, .c (.sl (.int .i64))), (1, .c (.int .i64)), (2, .c (.int .i64))], blocks := [], ren := [] }, res := { temps := [(0, .c .bool)], blocks := [], ren := [] }, f := fun k v => f91 k v.1.1 v.1.2.1 v.1.2.2.1 }
def gf91 (k : Nat) : Full := { tt := tt, n := 35, fns := [ef41], trunc := [], tails := [], touch := [], opens := [], shapes := [], closes := [], k := k, glob := glob, cuts := [(2, (cf91_l2 k))], joins := [] }
theorem of91_l2 (k : Nat) : CutOk (gf91 k) (cf91_l2 k) (theLoop Try.f91 2) := fun ρ v nx => ⟨by kernel_rfl, fun j => by kernel_rfl⟩
theorem qf91 (k : Nat) : AllP (bodyL (gf91 k) Try.f91) := by
  have h : (CutOk (gf91 k) (cf91_l2 k) (theLoop Try.f91 2) ∧ True) = AllP (bodyL (gf91 k) Try.f91) := by kernel_rfl
  exact Eq.mp h (And.intro (of91_l2 k) (trivial))
theorem sf91 : Sound Try.prog glob ef91 := sound_of base (fn := Try.f91) Try.func91 (by kernel_rfl) gf91 (fun _ => ⟨rfl, rfl⟩) (fun k j => ⟨sf41.at j, trivial⟩) qf91 (fun k v => by kernel_rfl)

/-! impl.isUnit -/
def f78 (k : Nat) (a1 : Int) : Option ((Bool × Unit) × Unit) :=
  bif (a1 == 1) then
    some ((true, ()), ())
  else
    some (((a1 == (-1)), ()), ())
def ef78 : Entry := { id := 78, ar := { temps := [(0, .c (.int .i64))], blocks := [], ren := [] }, res := { temps := [(0, .c .bool)], blocks := [], ren := [] }, f := fun k v => f78 k v.1.1 }
def gf78 (k : Nat) : Full := { tt := tt, n := 9, fns := [], trunc := [], tails := [], touch := [], opens := [], shapes := [], closes := [], k := k, glob := glob, cuts := [], joins := [] }
theorem qf78 (k : Nat) : AllP (bodyL (gf78 k) Try.f78) := by
  have h : True = AllP (bodyL (gf78 k) Try.f78) := by kernel_rfl
  exact Eq.mp h trivial
theorem sf78 : Sound Try.prog glob ef78 := sound_of base (fn := Try.f78) Try.func78 (by kernel_rfl) gf78 (fun _ => ⟨rfl, rfl⟩) (fun k j => trivial) qf78 (fun k v => by kernel_rfl)

/-! impl.areUnits$1 -/
def f77 (k : Nat) (a1 : Int) : Option ((Bool × Unit) × Unit) :=
  (f78 k a1).bind fun x2 =>
  some (((!x2.1.1), ()), ())
def ef77 : Entry := { id := 77, ar := { temps := [(0, .c (.int .i64))], blocks := [], ren := [] }, res := { temps := [(0, .c .bool)], blocks := [], ren := [] }, f := fun k v => f77 k v.1.1 }
def gf77 (k : Nat) : Full := { tt := tt, n := 6, fns := [ef78], trunc := [], tails := [], touch := [], opens := [], shapes := [], closes := [], k := k, glob := glob, cuts := [], joins := [] }
theorem qf77 (k : Nat) : AllP (bodyL (gf77 k) Try.f77) := by
  have h : True = AllP (bodyL (gf77 k) Try.f77) := by kernel_rfl
  exact Eq.mp h trivial
theorem sf77 : Sound Try.prog glob ef77 := sound_of base (fn := Try.f77) Try.func77 (by kernel_rfl) gf77 (fun _ => ⟨rfl, rfl⟩) (fun k j => ⟨sf78.at j, trivial⟩) qf77 (fun k v => by kernel_rfl)

/-! slices.IndexFunc[[]int64,int64] -/
def f94_l2 {ρ : Type} (k : Nat) : Nat → (List Int) → Int → Int → (((Unit × Unit) → Option ρ) × (((Int × Unit) × Unit) → Option ρ) × Unit) → Option ρ
  | 0, _, _, _, _ => none
  | j + 1, v10, v11, v12, nx =>
    bif (decide (v12 < v11)) then
      (getI v10 v12).bind fun x13 =>
      (f77 k x13).bind fun x14 =>
      bif x14.1.1 then
        nx.2.1 ((v12, ()), ())
      else
        f94_l2 k j v10 v11 (wr .i64 (v12 + 1)) nx
    else
      nx.1 ((), ())
def cf94_l2 (k : Nat) : Cut := { sp := { temps := [(0, .c (.sl (.int .i64))), (1, .c (.lit (.fn 77))), (7, .c (.int .i64)), (8, .c (.int .i64))], blocks := [], ren := [] }, outs := [(.exit 0, { temps := [], blocks := [], ren := [] }), (.ret, { temps := [(4, .c (.int .i64))], blocks := [], ren := [] })], F := fun ρ j v nx => f94_l2 k j v.1.1 v.1.2.2.1 v.1.2.2.2.1 nx }
def f94 (k : Nat) (a1 : (List Int)) : Option ((Int × Unit) × Unit) :=
  f94_l2 k k a1 (a1.length : Int) 0
    (fun x8 : (Unit × Unit) =>
      some (((-1), ()), ()),
    fun x9 : ((Int × Unit) × Unit) =>
      some ((x9.1.1, ()), ()),
    ())
def ef94 : Entry := { id := 94, ar := { temps := [(0, .c (.sl (.int .i64))), (1, .c (.lit (.fn 77)))], blocks := [], ren := [] }, res := { temps := [(0, .c (.int .i64))], blocks := [], ren := [] }, f := fun k v => f94 k v.1.1 }
def gf94 (k : Nat) : Full := { tt := tt, n := 19, fns := [ef77], trunc := [], tails := [], touch := [], opens := [], shapes := [], closes := [], k := k, glob := glob, cuts := [(2, (cf94_l2 k))], joins := [] }
theorem of94_l2 (k : Nat) : CutOk (gf94 k) (cf94_l2 k) (theLoop Try.f94 2) := fun ρ v nx => ⟨by kernel_rfl, fun j => by kernel_rfl⟩
theorem qf94 (k : Nat) : AllP (bodyL (gf94 k) Try.f94) := by
  have h : (CutOk (gf94 k) (cf94_l2 k) (theLoop Try.f94 2) ∧ True) = AllP (bodyL (gf94 k) Try.f94) := by kernel_rfl
  exact Eq.mp h (And.intro (of94_l2 k) (trivial))
theorem sf94 : Sound Try.prog glob ef94 := sound_of base (fn := Try.f94) Try.func94 (by kernel_rfl) gf94 (fun _ => ⟨rfl, rfl⟩) (fun k j => ⟨sf77.at j, trivial⟩) qf94 (fun k v => by kernel_rfl)

/-! slices.ContainsFunc[[]int64,int64] -/
def f76 (k : Nat) (a1 : (List Int)) : Option ((Bool × Unit) × Unit) :=
  (f94 k a1).bind fun x2 =>
  some (((decide (x2.1.1 ≥ 0)), ()), ())
def ef76 : Entry := { id := 76, ar := { temps := [(0, .c (.sl (.int .i64))), (1, .c (.lit (.fn 77)))], blocks := [], ren := [] }, res := { temps := [(0, .c .bool)], blocks := [], ren := [] }, f := fun k v => f76 k v.1.1 }
def gf76 (k : Nat) : Full := { tt := tt, n := 9, fns := [ef94], trunc := [], tails := [], touch := [], opens := [], shapes := [], closes := [], k := k, glob := glob, cuts := [], joins := [] }
theorem qf76 (k : Nat) : AllP (bodyL (gf76 k) Try.f76) := by
  have h : True = AllP (bodyL (gf76 k) Try.f76) := by kernel_rfl
  exact Eq.mp h trivial
theorem sf76 : Sound Try.prog glob ef76 := sound_of base (fn := Try.f76) Try.func76 (by kernel_rfl) gf76 (fun _ => ⟨rfl, rfl⟩) (fun k j => ⟨sf94.at j, trivial⟩) qf76 (fun k v => by kernel_rfl)

/-! impl.areUnits -/
def f49 (k : Nat) (a1 : (List Int)) : Option ((Bool × Unit) × Unit) :=
  (f76 k a1).bind fun x2 =>
  some (((!x2.1.1), ()), ())
def ef49 : Entry := { id := 49, ar := { temps := [(0, .c (.sl (.int .i64)))], blocks := [], ren := [] }, res := { temps := [(0, .c .bool)], blocks := [], ren := [] }, f := fun k v => f49 k v.1.1 }
def gf49 (k : Nat) : Full := { tt := tt, n := 6, fns := [ef76], trunc := [], tails := [], touch := [], opens := [], shapes := [], closes := [], k := k, glob := glob, cuts := [], joins := [] }
theorem qf49 (k : Nat) : AllP (bodyL (gf49 k) Try.f49) := by
  have h : True = AllP (bodyL (gf49 k) Try.f49) := by kernel_rfl
  exact Eq.mp h trivial
theorem sf49 : Sound Try.prog glob ef49 := sound_of base (fn := Try.f49) Try.func49 (by kernel_rfl) gf49 (fun _ => ⟨rfl, rfl⟩) (fun k j => ⟨sf76.at j, trivial⟩) qf49 (fun k v => by kernel_rfl)

/-! impl.ValidRule -/
def f70 (k : Nat) (a1 : Int) (a2 : (List Int)) (a3 : (List Int)) (a4 : Int) : Option ((Bool × Unit) × Unit) :=
  (f41 k a4 0 200).bind fun x6 =>
  bif x6.1.1 then
    (f41 k a1 1 4).bind fun x7 =>
    bif x7.1.1 then
      (f48 k a2).bind fun x8 =>
      bif (x8.1.1 == a1) then
        bif ((a3.length : Int) == (a2.length : Int)) then
          (f91 k a2 0 (wr .i64 (a4 - 1))).bind fun x9 =>
          bif x9.1.1 then
            (f49 k a3).bind fun x10 =>
            some ((x10.1.1, ()), ())
          else
            some ((false, ()), ())
        else
          some ((false, ()), ())
      else
        some ((false, ()), ())
    else
      some ((false, ()), ())
  else
    some ((false, ()), ())
def ef70 : Entry := { id := 70, ar := { temps := [(0, .agg [(.int .i64), (.sl (.int .i64)), (.sl (.int .i64))]), (1, .c (.int .i64))], blocks := [], ren := [] }, res := { temps := [(0, .c .bool)], blocks := [], ren := [] }, f := fun k v => f70 k v.1.1.1 v.1.1.2.1 v.1.1.2.2.1 v.1.2.1 }
def gf70 (k : Nat) : Full := { tt := tt, n := 41, fns := [ef41, ef48, ef91, ef49], trunc := [], tails := [], touch := [], opens := [], shapes := [], closes := [], k := k, glob := glob, cuts := [], joins := [] }
theorem qf70 (k : Nat) : AllP (bodyL (gf70 k) Try.f70) := by
  have h : True = AllP (bodyL (gf70 k) Try.f70) := by kernel_rfl
  exact Eq.mp h trivial
theorem sf70 : Sound Try.prog glob ef70 := sound_of base (fn := Try.f70) Try.func70 (by kernel_rfl) gf70 (fun _ => ⟨rfl, rfl⟩) (fun k j => ⟨sf41.at j, sf48.at j, sf91.at j, sf49.at j, trivial⟩) qf70 (fun k v => by kernel_rfl)

/-! impl.ValidRules$1 -/
def f69 (k : Nat) (a1 : Int) (a2 : (List Int)) (a3 : (List Int)) (a4 : Int) : Option ((Bool × Unit) × Unit) :=
  (f70 k a1 a2 a3 a4).bind fun x2 =>
  some (((!x2.1.1), ()), ())
def ef69 : Entry := { id := 69, ar := { temps := [(0, .agg [(.int .i64), (.sl (.int .i64)), (.sl (.int .i64))]), (1, .c (.dp (.int .i64)))], blocks := [], ren := [] }, res := { temps := [(0, .c .bool)], blocks := [], ren := [] }, f := fun k v => f69 k v.1.1.1 v.1.1.2.1 v.1.1.2.2.1 v.1.2.1 }
def gf69 (k : Nat) : Full := { tt := tt, n := 8, fns := [ef70], trunc := [], tails := [], touch := [], opens := [], shapes := [], closes := [], k := k, glob := glob, cuts := [], joins := [] }
theorem qf69 (k : Nat) : AllP (bodyL (gf69 k) Try.f69) := by
  have h : True = AllP (bodyL (gf69 k) Try.f69) := by kernel_rfl
  exact Eq.mp h trivial
theorem sf69 : Sound Try.prog glob ef69 := sound_of base (fn := Try.f69) Try.func69 (by kernel_rfl) gf69 (fun _ => ⟨rfl, rfl⟩) (fun k j => ⟨sf70.at j, trivial⟩) qf69 (fun k v => by kernel_rfl)

/-! impl.Rule] -/
def f79_l2 {ρ : Type} (k : Nat) : Nat → (List (Int × ((List Int) × (List Int)))) → Int → Int → Int → (((Unit × Unit) → Option ρ) × (((Int × Unit) × Unit) → Option ρ) × Unit) → Option ρ
  | 0, _, _, _, _, _ => none
  | j + 1, v11, v12, v13, v14, nx =>
    bif (decide (v14 < v13)) then
      (getI v11 v14).bind fun x15 =>
      (f69 k x15.1 x15.2.1 x15.2.2 v12).bind fun x16 =>
      bif x16.1.1 then
        nx.2.1 ((v14, ()), ())
      else
        f79_l2 k j v11 v12 v13 (wr .i64 (v14 + 1)) nx
    else
      nx.1 ((), ())
def cf79_l2 (k : Nat) : Cut := { sp := { temps := [(0, .c (.sl (.pair (.int .i64) (.pair (.sl (.int .i64)) (.sl (.int .i64)))))), (1, .c (.cap (.lit (.fn 69)) (.dp (.int .i64)))), (7, .c (.int .i64)), (8, .c (.int .i64))], blocks := [], ren := [] }, outs := [(.exit 0, { temps := [], blocks := [], ren := [] }), (.ret, { temps := [(4, .c (.int .i64))], blocks := [], ren := [] })], F := fun ρ j v nx => f79_l2 k j v.1.1 v.1.2.1.2 v.1.2.2.1 v.1.2.2.2.1 nx }
def f79 (k : Nat) (a1 : (List (Int × ((List Int) × (List Int))))) (a2 : Int) : Option ((Int × Unit) × Unit) :=
  f79_l2 k k a1 a2 (a1.length : Int) 0
    (fun x9 : (Unit × Unit) =>
      some (((-1), ()), ()),
    fun x10 : ((Int × Unit) × Unit) =>
      some ((x10.1.1, ()), ()),
    ())
def ef79 : Entry := { id := 79, ar := { temps := [(0, .c (.sl (.pair (.int .i64) (.pair (.sl (.int .i64)) (.sl (.int .i64)))))), (1, .c (.cap (.lit (.fn 69)) (.dp (.int .i64))))], blocks := [], ren := [] }, res := { temps := [(0, .c (.int .i64))], blocks := [], ren := [] }, f := fun k v => f79 k v.1.1 v.1.2.1.2 }
def gf79 (k : Nat) : Full := { tt := tt, n := 19, fns := [ef69], trunc := [], tails := [], touch := [], opens := [], shapes := [], closes := [], k := k, glob := glob, cuts := [(2, (cf79_l2 k))], joins := [] }
theorem of79_l2 (k : Nat) : CutOk (gf79 k) (cf79_l2 k) (theLoop Try.f79 2) := fun ρ v nx => ⟨by kernel_rfl, fun j => by kernel_rfl⟩
theorem qf79 (k : Nat) : AllP (bodyL (gf79 k) Try.f79) := by
  have h : (CutOk (gf79 k) (cf79_l2 k) (theLoop Try.f79 2) ∧ True) = AllP (bodyL (gf79 k) Try.f79) := by kernel_rfl
  exact Eq.mp h (And.intro (of79_l2 k) (trivial))
theorem sf79 : Sound Try.prog glob ef79 := sound_of base (fn := Try.f79) Try.func79 (by kernel_rfl) gf79 (fun _ => ⟨rfl, rfl⟩) (fun k j => ⟨sf69.at j, trivial⟩) qf79 (fun k v => by kernel_rfl)

/-! impl.Rule] -/
def f50 (k : Nat) (a1 : (List (Int × ((List Int) × (List Int))))) (a2 : Int) : Option ((Bool × Unit) × Unit) :=
  (f79 k a1 a2).bind fun x2 =>
  some (((decide (x2.1.1 ≥ 0)), ()), ())
def ef50 : Entry := { id := 50, ar := { temps := [(0, .c (.sl (.pair (.int .i64) (.pair (.sl (.int .i64)) (.sl (.int .i64)))))), (1, .c (.cap (.lit (.fn 69)) (.dp (.int .i64))))], blocks := [], ren := [] }, res := { temps := [(0, .c .bool)], blocks := [], ren := [] }, f := fun k v => f50 k v.1.1 v.1.2.1.2 }
def gf50 (k : Nat) : Full := { tt := tt, n := 9, fns := [ef79], trunc := [], tails := [], touch := [], opens := [], shapes := [], closes := [], k := k, glob := glob, cuts := [], joins := [] }
theorem qf50 (k : Nat) : AllP (bodyL (gf50 k) Try.f50) := by
  have h : True = AllP (bodyL (gf50 k) Try.f50) := by kernel_rfl
  exact Eq.mp h trivial
theorem sf50 : Sound Try.prog glob ef50 := sound_of base (fn := Try.f50) Try.func50 (by kernel_rfl) gf50 (fun _ => ⟨rfl, rfl⟩) (fun k j => ⟨sf79.at j, trivial⟩) qf50 (fun k v => by kernel_rfl)

/-! impl.ValidRules -/
def f39 (k : Nat) (a1 : (List (Int × ((List Int) × (List Int))))) (a2 : Int) : Option ((Bool × Unit) × Unit) :=
  (f41 k a2 0 200).bind fun x3 =>
  bif x3.1.1 then
    bif (decide ((a1.length : Int) ≤ 3000)) then
      (f50 k a1 a2).bind fun x4 =>
      some (((!x4.1.1), ()), ())
    else
      some ((false, ()), ())
  else
    some ((false, ()), ())
def ef39 : Entry := { id := 39, ar := { temps := [(0, .c (.sl (.pair (.int .i64) (.pair (.sl (.int .i64)) (.sl (.int .i64)))))), (1, .c (.int .i64))], blocks := [], ren := [] }, res := { temps := [(0, .c .bool)], blocks := [], ren := [] }, f := fun k v => f39 k v.1.1 v.1.2.1 }
def gf39 (k : Nat) : Full := { tt := tt, n := 18, fns := [ef41, ef50], trunc := [], tails := [], touch := [], opens := [], shapes := [], closes := [], k := k, glob := glob, cuts := [], joins := [] }
theorem qf39 (k : Nat) : AllP (bodyL (gf39 k) Try.f39) := by
  have h : True = AllP (bodyL (gf39 k) Try.f39) := by kernel_rfl
  exact Eq.mp h trivial
theorem sf39 : Sound Try.prog glob ef39 := sound_of base (fn := Try.f39) Try.func39 (by kernel_rfl) gf39 (fun _ => ⟨rfl, rfl⟩) (fun k j => ⟨sf41.at j, sf50.at j, trivial⟩) qf39 (fun k v => by kernel_rfl)

/-! impl.isBudget -/
def f40 (k : Nat) (a1 : Int) : Option ((Bool × Unit) × Unit) :=
  (f41 k a1 1 5000).bind fun x2 =>
  some ((x2.1.1, ()), ())
def ef40 : Entry := { id := 40, ar := { temps := [(0, .c (.int .i64))], blocks := [], ren := [] }, res := { temps := [(0, .c .bool)], blocks := [], ren := [] }, f := fun k v => f40 k v.1.1 }
def gf40 (k : Nat) : Full := { tt := tt, n := 5, fns := [ef41], trunc := [], tails := [], touch := [], opens := [], shapes := [], closes := [], k := k, glob := glob, cuts := [], joins := [] }
theorem qf40 (k : Nat) : AllP (bodyL (gf40 k) Try.f40) := by
  have h : True = AllP (bodyL (gf40 k) Try.f40) := by kernel_rfl
  exact Eq.mp h trivial
theorem sf40 : Sound Try.prog glob ef40 := sound_of base (fn := Try.f40) Try.func40 (by kernel_rfl) gf40 (fun _ => ⟨rfl, rfl⟩) (fun k j => ⟨sf41.at j, trivial⟩) qf40 (fun k v => by kernel_rfl)

/-! impl.Rule).holds -/
def f52_l4 {ρ : Type} (k : Nat) : Nat → (List Int) → Int → (List Int) → Int → Int → Int → (List Int) → (List Int) → (List Int) → ((((Unit × Unit × Int × Unit) × ((Int × (List Int) × (List Int) × Unit) × (List Int) × Unit)) → Option ρ) × Unit) → Option ρ
  | 0, _, _, _, _, _, _, _, _, _, _ => none
  | j + 1, v31, v32, v33, v34, v35, v36, v37, v38, v39, nx =>
    bif (decide (v35 < v34)) then
      (getI v33 v35).bind fun x40 =>
      (getI v31 x40).bind fun x41 =>
      (getI v38 v35).bind fun x42 =>
      bif decide (0 ≤ (wr .i64 ((wr .i64 (x41 * x42)) + 1))) && decide ((wr .i64 ((wr .i64 (x41 * x42)) + 1)) < (3 : Int)) then
        (v39[(wr .i64 ((wr .i64 (x41 * x42)) + 1)).toNat]?).bind fun x43 =>
        bif decide (0 ≤ (wr .i64 ((wr .i64 (x41 * x42)) + 1))) && decide ((wr .i64 ((wr .i64 (x41 * x42)) + 1)) < (3 : Int)) then
          (v39[(wr .i64 ((wr .i64 (x41 * x42)) + 1)).toNat]?).bind fun _ =>
          let x45 : (List Int) := (v39.set (wr .i64 ((wr .i64 (x41 * x42)) + 1)).toNat (wr .i64 (x43 + 1)))
          f52_l4 k j v31 (wr .i64 (v32 * (wr .i64 (x41 * x42)))) v33 v34 (wr .i64 (v35 + 1)) v36 v37 v38 x45 nx
        else
          none
      else
        none
    else
      nx.1 (((), (), v32, ()), ((v36, v37, v38, ()), v39, ()))
def cf52_l4 (k : Nat) : Cut := { sp := { temps := [(1, .c (.sl (.int .i64))), (2, .c (.box 5000000)), (5, .c (.box 5000001)), (6, .c (.int .i64)), (11, .c (.sl (.int .i64))), (12, .c (.int .i64)), (13, .c (.int .i64))], blocks := [(5000000, .box 61 [(.int .i64), (.sl (.int .i64)), (.sl (.int .i64))]), (5000001, .row 109 (.int .i64))], ren := [] }, outs := [(.exit 0, { temps := [(2, .c (.box 5000000)), (5, .c (.box 5000001)), (6, .c (.int .i64))], blocks := [(5000000, .box 61 [(.int .i64), (.sl (.int .i64)), (.sl (.int .i64))]), (5000001, .row 109 (.int .i64))], ren := [] })], F := fun ρ j v nx => f52_l4 k j v.1.1 v.1.2.2.2.1 v.1.2.2.2.2.1 v.1.2.2.2.2.2.1 v.1.2.2.2.2.2.2.1 v.2.1.1 v.2.1.2.1 v.2.1.2.2.1 v.2.2.1 nx }
def f52_j16 {ρ : Type} (k : Nat) (v46 : (List Int)) (nx : ((((Int × Unit) × Unit) → Option ρ) × Unit)) : Option ρ :=
  bif decide (0 ≤ 0) && decide (0 < (3 : Int)) then
    (v46[0]?).bind fun x47 =>
    bif (decide (x47 > 0)) then
      bif decide (0 ≤ 2) && decide (2 < (3 : Int)) then
        (v46[2]?).bind fun x48 =>
        bif (decide (x48 > 0)) then
          nx.1 ((1, ()), ())
        else
          bif decide (0 ≤ 0) && decide (0 < (3 : Int)) then
            (v46[0]?).bind fun x49 =>
            bif (x49 == 3) then
              nx.1 (((-1), ()), ())
            else
              bif decide (0 ≤ 2) && decide (2 < (3 : Int)) then
                (v46[2]?).bind fun x50 =>
                bif (x50 == 3) then
                  nx.1 (((-1), ()), ())
                else
                  nx.1 ((0, ()), ())
              else
                none
          else
            none
      else
        none
    else
      bif decide (0 ≤ 0) && decide (0 < (3 : Int)) then
        (v46[0]?).bind fun x51 =>
        bif (x51 == 3) then
          nx.1 (((-1), ()), ())
        else
          bif decide (0 ≤ 2) && decide (2 < (3 : Int)) then
            (v46[2]?).bind fun x52 =>
            bif (x52 == 3) then
              nx.1 (((-1), ()), ())
            else
              nx.1 ((0, ()), ())
          else
            none
      else
        none
  else
    none
def cf52_j16 : Cut := { sp := { temps := [(5, .c (.box 5000000))], blocks := [(5000000, .row 109 (.int .i64))], ren := [] }, outs := [(.ret, { temps := [(4, .c (.int .i64))], blocks := [], ren := [] })], F := fun ρ k v nx => f52_j16 k v.2.1 nx }
def f52 (k : Nat) (a1 : Int) (a2 : (List Int)) (a3 : (List Int)) (a4 : (List Int)) : Option ((Int × Unit) × Unit) :=
  f52_l4 k k a4 1 a2 (a2.length : Int) 0 a1 a2 a3 ([0, 0, 0])
    (fun x28 : ((Unit × Unit × Int × Unit) × ((Int × (List Int) × (List Int) × Unit) × (List Int) × Unit)) =>
      bif (x28.2.1.1 == 1) then
        bif (x28.2.1.1 == 1) then
          some ((x28.1.2.2.1, ()), ())
        else
          bif (x28.2.1.1 == 2) then
            some ((x28.1.2.2.1, ()), ())
          else
            f52_j16 k x28.2.2.1
              (fun x29 : ((Int × Unit) × Unit) =>
                some ((x29.1.1, ()), ()),
              ())
      else
        bif (x28.2.1.1 == 4) then
          some ((x28.1.2.2.1, ()), ())
        else
          bif (x28.2.1.1 == 2) then
            some ((x28.1.2.2.1, ()), ())
          else
            f52_j16 k x28.2.2.1
              (fun x30 : ((Int × Unit) × Unit) =>
                some ((x30.1.1, ()), ()),
              ()),
    ())
def ef52 : Entry := { id := 52, ar := { temps := [(0, .agg [(.int .i64), (.sl (.int .i64)), (.sl (.int .i64))]), (1, .c (.sl (.int .i64)))], blocks := [], ren := [] }, res := { temps := [(0, .c (.int .i64))], blocks := [], ren := [] }, f := fun k v => f52 k v.1.1.1 v.1.1.2.1 v.1.1.2.2.1 v.1.2.1 }
def gf52 (k : Nat) : Full := { tt := tt, n := 65, fns := [], trunc := [], tails := [], touch := [], opens := [], shapes := [], closes := [], k := k, glob := glob, cuts := [(4, (cf52_l4 k))], joins := [(16, cf52_j16)] }
theorem of52_l4 (k : Nat) : CutOk (gf52 k) (cf52_l4 k) (theLoop Try.f52 4) := fun ρ v nx => ⟨by kernel_rfl, fun j => by kernel_rfl⟩
theorem of52_j16 (k : Nat) : JoinOk (gf52 k) cf52_j16 (theJoin Try.f52 16) := fun ρ v nx => by kernel_rfl
theorem qf52 (k : Nat) : AllP (bodyL (gf52 k) Try.f52) := by
  have h : (CutOk (gf52 k) (cf52_l4 k) (theLoop Try.f52 4) ∧ JoinOk (gf52 k) cf52_j16 (theJoin Try.f52 16) ∧ True) = AllP (bodyL (gf52 k) Try.f52) := by kernel_rfl
  exact Eq.mp h (And.intro (of52_l4 k) (And.intro (of52_j16 k) (trivial)))
theorem sf52 : Sound Try.prog glob ef52 := sound_of base (fn := Try.f52) Try.func52 (by kernel_rfl) gf52 (fun _ => ⟨rfl, rfl⟩) (fun k j => trivial) qf52 (fun k v => by kernel_rfl)

/-! slices.Clone[[]int64,int64] -/
def f98 (k : Nat) (a1 : (List Int)) : Option ((Unit × Unit) × ((List Int) × Unit)) :=
  bif decide ((([] : List Int).length + a1.length) * 8 ≤ roomy) then
    some (((), ()), ((([] : List Int) ++ a1), ()))
  else
    none
def ef98 : Entry := { id := 98, ar := { temps := [(0, .c (.slx (.int .i64)))], blocks := [], ren := [] }, res := { temps := [(0, .c (.row 4000000))], blocks := [(4000000, .row 2 (.int .i64))], ren := [] }, f := fun k v => f98 k v.1.1 }
def gf98 (k : Nat) : Full := { tt := tt, n := 8, fns := [], trunc := [], tails := [], touch := [], opens := [], shapes := [], closes := [], k := k, glob := glob, cuts := [], joins := [] }
theorem qf98 (k : Nat) : AllP (bodyL (gf98 k) Try.f98) := by
  have h : True = AllP (bodyL (gf98 k) Try.f98) := by kernel_rfl
  exact Eq.mp h trivial
theorem sf98 : Sound Try.prog glob ef98 := sound_of base (fn := Try.f98) Try.func98 (by kernel_rfl) gf98 (fun _ => ⟨rfl, rfl⟩) (fun k j => trivial) qf98 (fun k v => by kernel_rfl)

/-! slices.Clone[[]int64,int64] -/
def f98a (k : Nat) : Option ((Unit × Unit) × ((List Int) × Unit)) :=
  some (((), ()), (([] : List Int), ()))
def ef98a : Entry := { id := 98, ar := { temps := [(0, .c (.lit .nils))], blocks := [], ren := [] }, res := { temps := [(0, .c (.row 4000000))], blocks := [(4000000, .row 2 (.int .i64))], ren := [] }, f := fun k v => f98a k }
def gf98a (k : Nat) : Full := { tt := tt, n := 8, fns := [], trunc := [], tails := [], touch := [], opens := [], shapes := [], closes := [], k := k, glob := glob, cuts := [], joins := [] }
theorem qf98a (k : Nat) : AllP (bodyL (gf98a k) Try.f98) := by
  have h : True = AllP (bodyL (gf98a k) Try.f98) := by kernel_rfl
  exact Eq.mp h trivial
theorem sf98a : Sound Try.prog glob ef98a := sound_of base (fn := Try.f98) Try.func98 (by kernel_rfl) gf98a (fun _ => ⟨rfl, rfl⟩) (fun k j => trivial) qf98a (fun k v => by kernel_rfl)

/-! slices.Clone[[]int64,int64] -/
def ef98b : Entry := { id := 98, ar := { temps := [(0, .c (.sl (.int .i64)))], blocks := [], ren := [] }, res := { temps := [(0, .c (.row 4000000))], blocks := [(4000000, .row 2 (.int .i64))], ren := [] }, f := fun k v => f98 k v.1.1 }
theorem nf98b (k : Nat) : f98a k = f98 k [] := by kernel_rfl
theorem sf98b : Sound Try.prog glob ef98b := sound_nil (glob := glob) (id := 98) (u := (.int .i64)) (res := { temps := [(0, .c (.row 4000000))], blocks := [(4000000, .row 2 (.int .i64))], ren := [] }) (fN := fun k v => f98a k) (fX := fun k v => f98 k v.1.1) (fS := fun k v => f98 k v.1.1) sf98a sf98 fun k l o (h : f98 k l = some o) => ⟨h, fun e => (nf98b k).trans ((congrArg (f98 k) e).symm.trans h)⟩

/-! impl.Rule).forced$1 -/
def f105 (k : Nat) (a1 : Int) (a2 : (List Int)) : Option ((Bool × Unit) × Unit) :=
  (getI a2 a1).bind fun x2 =>
  some (((x2 != 0), ()), ())
def ef105 : Entry := { id := 105, ar := { temps := [(0, .c (.int .i64)), (1, .c (.dp (.sl (.int .i64))))], blocks := [], ren := [] }, res := { temps := [(0, .c .bool)], blocks := [], ren := [] }, f := fun k v => f105 k v.1.1 v.1.2.1 }
def gf105 (k : Nat) : Full := { tt := tt, n := 9, fns := [], trunc := [], tails := [], touch := [], opens := [], shapes := [], closes := [], k := k, glob := glob, cuts := [], joins := [] }
theorem qf105 (k : Nat) : AllP (bodyL (gf105 k) Try.f105) := by
  have h : True = AllP (bodyL (gf105 k) Try.f105) := by kernel_rfl
  exact Eq.mp h trivial
theorem sf105 : Sound Try.prog glob ef105 := sound_of base (fn := Try.f105) Try.func105 (by kernel_rfl) gf105 (fun _ => ⟨rfl, rfl⟩) (fun k j => trivial) qf105 (fun k v => by kernel_rfl)

/-! slices.IndexFunc[[]int64,int64] -/
def f94a_l2 {ρ : Type} (k : Nat) : Nat → (List Int) → (List Int) → Int → Int → (((Unit × Unit) → Option ρ) × (((Int × Unit) × Unit) → Option ρ) × Unit) → Option ρ
  | 0, _, _, _, _, _ => none
  | j + 1, v11, v12, v13, v14, nx =>
    bif (decide (v14 < v13)) then
      (getI v11 v14).bind fun x15 =>
      (f105 k x15 v12).bind fun x16 =>
      bif x16.1.1 then
        nx.2.1 ((v14, ()), ())
      else
        f94a_l2 k j v11 v12 v13 (wr .i64 (v14 + 1)) nx
    else
      nx.1 ((), ())
def cf94a_l2 (k : Nat) : Cut := { sp := { temps := [(0, .c (.sl (.int .i64))), (1, .c (.cap (.lit (.fn 105)) (.dp (.sl (.int .i64))))), (7, .c (.int .i64)), (8, .c (.int .i64))], blocks := [], ren := [] }, outs := [(.exit 0, { temps := [], blocks := [], ren := [] }), (.ret, { temps := [(4, .c (.int .i64))], blocks := [], ren := [] })], F := fun ρ j v nx => f94a_l2 k j v.1.1 v.1.2.1.2 v.1.2.2.1 v.1.2.2.2.1 nx }
def f94a (k : Nat) (a1 : (List Int)) (a2 : (List Int)) : Option ((Int × Unit) × Unit) :=
  f94a_l2 k k a1 a2 (a1.length : Int) 0
    (fun x9 : (Unit × Unit) =>
      some (((-1), ()), ()),
    fun x10 : ((Int × Unit) × Unit) =>
      some ((x10.1.1, ()), ()),
    ())
def ef94a : Entry := { id := 94, ar := { temps := [(0, .c (.sl (.int .i64))), (1, .c (.cap (.lit (.fn 105)) (.dp (.sl (.int .i64)))))], blocks := [], ren := [] }, res := { temps := [(0, .c (.int .i64))], blocks := [], ren := [] }, f := fun k v => f94a k v.1.1 v.1.2.1.2 }
def gf94a (k : Nat) : Full := { tt := tt, n := 19, fns := [ef105], trunc := [], tails := [], touch := [], opens := [], shapes := [], closes := [], k := k, glob := glob, cuts := [(2, (cf94a_l2 k))], joins := [] }
theorem of94a_l2 (k : Nat) : CutOk (gf94a k) (cf94a_l2 k) (theLoop Try.f94 2) := fun ρ v nx => ⟨by kernel_rfl, fun j => by kernel_rfl⟩
theorem qf94a (k : Nat) : AllP (bodyL (gf94a k) Try.f94) := by
  have h : (CutOk (gf94a k) (cf94a_l2 k) (theLoop Try.f94 2) ∧ True) = AllP (bodyL (gf94a k) Try.f94) := by kernel_rfl
  exact Eq.mp h (And.intro (of94a_l2 k) (trivial))
theorem sf94a : Sound Try.prog glob ef94a := sound_of base (fn := Try.f94) Try.func94 (by kernel_rfl) gf94a (fun _ => ⟨rfl, rfl⟩) (fun k j => ⟨sf105.at j, trivial⟩) qf94a (fun k v => by kernel_rfl)

/-! slices.DeleteFunc[[]int64,int64] -/
def f104_l5 {ρ : Type} (k : Nat) : Nat → (List Int) → Int → Int → (List Int) → ((((Unit × Int × Unit) × ((List Int) × Unit)) → Option ρ) × Unit) → Option ρ
  | 0, _, _, _, _, _ => none
  | j + 1, v16, v17, v18, v19, nx =>
    bif (decide (v18 < (v19.length : Int))) then
      bif decide (0 ≤ v18) && decide (v18 < (v19.length : Int)) then
        (v19[v18.toNat]?).bind fun x20 =>
        (f105 k x20 v16).bind fun x21 =>
        bif (!x21.1.1) then
          bif decide (0 ≤ v17) && decide (v17 < (v19.length : Int)) then
            (v19[v17.toNat]?).bind fun _ =>
            f104_l5 k j v16 (wr .i64 (v17 + 1)) (wr .i64 (v18 + 1)) (v19.set v17.toNat x20) nx
          else
            none
        else
          f104_l5 k j v16 v17 (wr .i64 (v18 + 1)) v19 nx
      else
        none
    else
      nx.1 (((), v17, ()), (v19, ()))
def cf104_l5 (k : Nat) : Cut := { sp := { temps := [(0, .c (.lit (.row 3000000))), (1, .c (.cap (.lit (.fn 105)) (.dp (.sl (.int .i64))))), (5, .c (.int .i64)), (6, .c (.int .i64))], blocks := [(3000000, .row 2 (.int .i64))], ren := [(3000000, some 3000000)] }, outs := [(.exit 0, { temps := [(0, .c (.lit (.row 3000000))), (5, .c (.int .i64))], blocks := [(3000000, .row 2 (.int .i64))], ren := [(3000000, some 3000000)] })], F := fun ρ j v nx => f104_l5 k j v.1.2.1.2 v.1.2.2.1 v.1.2.2.2.1 v.2.1 nx }
def f104 (k : Nat) (a1 : (List Int)) (a2 : (List Int)) : Option ((Unit × Unit) × ((List Int) × Unit)) :=
  (f94a k a2 a1).bind fun x12 =>
  bif (x12.1.1 == (-1)) then
    some (((), ()), (a2, ()))
  else
    f104_l5 k k a1 x12.1.1 (wr .i64 (x12.1.1 + 1)) a2
      (fun x14 : ((Unit × Int × Unit) × ((List Int) × Unit)) =>
        bif decide (0 ≤ x14.1.2.1) && decide (x14.1.2.1 ≤ (x14.2.1.length : Int)) then
          bif decide (0 ≤ x14.1.2.1) && decide (x14.1.2.1 ≤ ((clearFrom x14.2.1 x14.1.2.1.toNat 0).length : Int)) then
            let x15 : (List Int) := ((clearFrom x14.2.1 x14.1.2.1.toNat 0).take x14.1.2.1.toNat)
            some (((), ()), (x15, ()))
          else
            none
        else
          none,
      ())
def ef104 : Entry := { id := 104, ar := { temps := [(0, .c (.row 3000000)), (1, .c (.cap (.lit (.fn 105)) (.dp (.sl (.int .i64)))))], blocks := [(3000000, .row 2 (.int .i64))], ren := [] }, res := { temps := [(0, .c (.row 4000000))], blocks := [(4000000, .row 2 (.int .i64))], ren := [] }, f := fun k v => f104 k v.1.2.1.2 v.2.1 }
def gf104 (k : Nat) : Full := { tt := tt, n := 42, fns := [ef94a, ef105], trunc := [41], tails := [38], touch := [], opens := [], shapes := [], closes := [], k := k, glob := glob, cuts := [(5, (cf104_l5 k))], joins := [] }
theorem of104_l5 (k : Nat) : CutOk (gf104 k) (cf104_l5 k) (theLoop Try.f104 5) := fun ρ v nx => ⟨by kernel_rfl, fun j => by kernel_rfl⟩
theorem qf104 (k : Nat) : AllP (bodyL (gf104 k) Try.f104) := by
  have h : (CutOk (gf104 k) (cf104_l5 k) (theLoop Try.f104 5) ∧ True) = AllP (bodyL (gf104 k) Try.f104) := by kernel_rfl
  exact Eq.mp h (And.intro (of104_l5 k) (trivial))
theorem sf104 : Sound Try.prog glob ef104 := sound_of base (fn := Try.f104) Try.func104 (by kernel_rfl) gf104 (fun _ => ⟨rfl, rfl⟩) (fun k j => ⟨sf94a.at j, sf105.at j, trivial⟩) qf104 (fun k v => by kernel_rfl)

/-! impl.Rule).with -/
def f97 (k : Nat) (a1 : Int) (a2 : (List Int)) (a3 : (List Int)) (a4 : Int) (a5 : Int) (a6 : (List Int)) : Option ((Int × Unit) × ((List Int) × Unit)) :=
  bif decide (0 ≤ a4) && decide (a4 < (a6.length : Int)) then
    (a6[a4.toNat]?).bind fun x5 =>
    bif decide (0 ≤ a4) && decide (a4 < (a6.length : Int)) then
      (a6[a4.toNat]?).bind fun _ =>
      (f52 k a1 a2 a3 (a6.set a4.toNat a5)).bind fun x7 =>
      bif decide (0 ≤ a4) && decide (a4 < ((a6.set a4.toNat a5).length : Int)) then
        ((a6.set a4.toNat a5)[a4.toNat]?).bind fun _ =>
        some ((x7.1.1, ()), (((a6.set a4.toNat a5).set a4.toNat x5), ()))
      else
        none
    else
      none
  else
    none
def ef97 : Entry := { id := 97, ar := { temps := [(0, .agg [(.int .i64), (.sl (.int .i64)), (.sl (.int .i64))]), (1, .c (.row 3000000)), (2, .c (.int .i64)), (3, .c (.int .i64))], blocks := [(3000000, .row 2 (.int .i64))], ren := [] }, res := { temps := [(0, .c (.int .i64))], blocks := [(3000000, .row 2 (.int .i64))], ren := [(3000000, some 3000000)] }, f := fun k v => f97 k v.1.1.1 v.1.1.2.1 v.1.1.2.2.1 v.1.2.2.1 v.1.2.2.2.1 v.2.1 }
def gf97 (k : Nat) : Full := { tt := tt, n := 27, fns := [ef52], trunc := [], tails := [], touch := [], opens := [], shapes := [], closes := [], k := k, glob := glob, cuts := [], joins := [] }
theorem qf97 (k : Nat) : AllP (bodyL (gf97 k) Try.f97) := by
  have h : True = AllP (bodyL (gf97 k) Try.f97) := by kernel_rfl
  exact Eq.mp h trivial
theorem sf97 : Sound Try.prog glob ef97 := sound_of base (fn := Try.f97) Try.func97 (by kernel_rfl) gf97 (fun _ => ⟨rfl, rfl⟩) (fun k j => ⟨sf52.at j, trivial⟩) qf97 (fun k v => by kernel_rfl)

/-! impl.Rule).forced -/
def f103_l7 {ρ : Type} (k : Nat) : Nat → Int → Int → (List Int) → Int → (List Int) → (List Int) → (List Int) → (List Int) → (((Unit × ((List Int) × Unit)) → Option ρ) × (((Int × Int × Bool × Unit) × ((List Int) × Unit)) → Option ρ) × Unit) → Option ρ
  | 0, _, _, _, _, _, _, _, _, _ => none
  | j + 1, v25, v26, v27, v28, v29, v30, v31, v32, nx =>
    bif (decide (v26 < v25)) then
      bif decide (0 ≤ v26) && decide (v26 < (v32.length : Int)) then
        (v32[v26.toNat]?).bind fun x33 =>
        bif decide (0 ≤ 0) && decide (0 < (v31.length : Int)) then
          (v31[0]?).bind fun x34 =>
          (f97 k v28 v29 v30 x34 (wr .i64 (0 - x33)) v27).bind fun x35 =>
          bif (decide (x35.1.1 < 0)) then
            bif decide (0 ≤ 0) && decide (0 < (v31.length : Int)) then
              (v31[0]?).bind fun x36 =>
              nx.2.1 ((x36, x33, true, ()), (x35.2.1, ()))
            else
              none
          else
            f103_l7 k j v25 (wr .i64 (v26 + 1)) x35.2.1 v28 v29 v30 v31 v32 nx
        else
          none
      else
        none
    else
      nx.1 ((), (v27, ()))
def cf103_l7 (k : Nat) : Cut := { sp := { temps := [(2, .c (.box 5000000)), (3, .c (.box 5000001)), (7, .c (.row 5000002)), (22, .c (.row 5000003)), (23, .c (.int .i64)), (24, .c (.int .i64))], blocks := [(3000000, .row 2 (.int .i64)), (5000000, .box 61 [(.int .i64), (.sl (.int .i64)), (.sl (.int .i64))]), (5000001, .box 24 [(.lit (.row 3000000))]), (5000002, .row 2 (.int .i64)), (5000003, .row 2 (.int .i64))], ren := [(3000000, some 3000000)] }, outs := [(.exit 0, { temps := [], blocks := [(3000000, .row 2 (.int .i64))], ren := [(3000000, some 3000000)] }), (.ret, { temps := [(4, .c (.int .i64)), (5, .c (.int .i64)), (6, .c .bool)], blocks := [(3000000, .row 2 (.int .i64))], ren := [(3000000, some 3000000)] })], F := fun ρ j v nx => f103_l7 k j v.1.2.2.2.2.1 v.1.2.2.2.2.2.1 v.2.1 v.2.2.1.1 v.2.2.1.2.1 v.2.2.1.2.2.1 v.2.2.2.2.1 v.2.2.2.2.2.1 nx }
def f103 (k : Nat) (a1 : Int) (a2 : (List Int)) (a3 : (List Int)) (a4 : (List Int)) : Option ((Int × Int × Bool × Unit) × ((List Int) × Unit)) :=
  (f52 k a1 a2 a3 a4).bind fun x20 =>
  bif (x20.1.1 != 0) then
    some ((0, 0, false, ()), (a4, ()))
  else
    (f98 k a2).bind fun x21 =>
    (f104 k a4 x21.2.1).bind fun x22 =>
    bif ((x22.2.1.length : Int) != 1) then
      some ((0, 0, false, ()), (a4, ()))
    else
      f103_l7 k k ([1, (-1)].length : Int) 0 a4 a1 a2 a3 x22.2.1 ([1, (-1)])
        (fun x23 : (Unit × ((List Int) × Unit)) =>
          some ((0, 0, false, ()), (x23.2.1, ())),
        fun x24 : ((Int × Int × Bool × Unit) × ((List Int) × Unit)) =>
          some ((x24.1.1, x24.1.2.1, x24.1.2.2.1, ()), (x24.2.1, ())),
        ())
def ef103 : Entry := { id := 103, ar := { temps := [(0, .agg [(.int .i64), (.sl (.int .i64)), (.sl (.int .i64))]), (1, .c (.row 3000000))], blocks := [(3000000, .row 2 (.int .i64))], ren := [] }, res := { temps := [(0, .c (.int .i64)), (1, .c (.int .i64)), (2, .c .bool)], blocks := [(3000000, .row 2 (.int .i64))], ren := [(3000000, some 3000000)] }, f := fun k v => f103 k v.1.1.1 v.1.1.2.1 v.1.1.2.2.1 v.2.1 }
def gf103 (k : Nat) : Full := { tt := tt, n := 42, fns := [ef52, ef98b, ef104, ef97], trunc := [], tails := [], touch := [(9, [(7, [3000000])])], opens := [], shapes := [], closes := [], k := k, glob := glob, cuts := [(7, (cf103_l7 k))], joins := [] }
theorem of103_l7 (k : Nat) : CutOk (gf103 k) (cf103_l7 k) (theLoop Try.f103 7) := fun ρ v nx => ⟨by kernel_rfl, fun j => by kernel_rfl⟩
theorem qf103 (k : Nat) : AllP (bodyL (gf103 k) Try.f103) := by
  have h : (CutOk (gf103 k) (cf103_l7 k) (theLoop Try.f103 7) ∧ True) = AllP (bodyL (gf103 k) Try.f103) := by kernel_rfl
  exact Eq.mp h (And.intro (of103_l7 k) (trivial))
theorem sf103 : Sound Try.prog glob ef103 := sound_of base (fn := Try.f103) Try.func103 (by kernel_rfl) gf103 (fun _ => ⟨rfl, rfl⟩) (fun k j => ⟨sf52.at j, sf98b.at j, sf104.at j, sf97.at j, trivial⟩) qf103 (fun k v => by kernel_rfl)

/-! impl.solve$1 -/
def f71 (k : Nat) (a1 : Int) (a2 : Int) (a3 : Int) (a4 : Int) : Option (Unit × Unit) :=
  some ((), ())
def ef71 : Entry := { id := 71, ar := { temps := [(0, .agg [(.int .i64), (.int .i64), (.int .i64), (.int .i64)])], blocks := [], ren := [] }, res := { temps := [], blocks := [], ren := [] }, f := fun k v => f71 k v.1.1.1 v.1.1.2.1 v.1.1.2.2.1 v.1.1.2.2.2.1 }
def gf71 (k : Nat) : Full := { tt := tt, n := 2, fns := [], trunc := [], tails := [], touch := [], opens := [], shapes := [], closes := [], k := k, glob := glob, cuts := [], joins := [] }
theorem qf71 (k : Nat) : AllP (bodyL (gf71 k) Try.f71) := by
  have h : True = AllP (bodyL (gf71 k) Try.f71) := by kernel_rfl
  exact Eq.mp h trivial
theorem sf71 : Sound Try.prog glob ef71 := sound_of base (fn := Try.f71) Try.func71 (by kernel_rfl) gf71 (fun _ => ⟨rfl, rfl⟩) (fun k j => trivial) qf71 (fun k v => by kernel_rfl)

/-! impl.solver).search$1 -/
def f101 (k : Nat) (a1 : Int) (a2 : Int) (a3 : Int) (a4 : (List (Int × ((List Int) × (List Int))))) (a5 : Int) (a6 : Int) (a7 : Int) (a8 : (List (List Int))) : Option (Unit × ((Unit × Unit) × ((List (Int × ((List Int) × (List Int)))) × Int × Int × ((Unit × Unit) × Int) × Unit × Unit) × (Unit × Unit) × (List (List Int)) × Unit)) :=
  (f71 k 2 a1 a2 a3).bind fun x2 =>
  some ((), (((), ()), (a4, a5, a6, (((), ()), a7), (), ()), ((), ()), a8, ()))
def ef101 : Entry := { id := 101, ar := { temps := [(0, .c (.int .i64)), (1, .c (.int .i64)), (2, .c (.int .i64)), (3, .c (.box 3000000))], blocks := [(3000000, .box 66 [(.box 3000001)]), (3000001, .box 73 [(.sl (.pair (.int .i64) (.pair (.sl (.int .i64)) (.sl (.int .i64))))), (.int .i64), (.int .i64), (.cap (.cap (.lit (.fn 72)) (.box 3000002)) (.dp (.int .i64))), (.lit (.fn 71))]), (3000002, .box 27 [(.row 3000003)]), (3000003, .own 24 (.s 2 (.d (.int .i64))))], ren := [] }, res := { temps := [], blocks := [(3000000, .box 66 [(.lit (.ptr 3000001 0 0 0))]), (3000001, .box 73 [(.sl (.pair (.int .i64) (.pair (.sl (.int .i64)) (.sl (.int .i64))))), (.int .i64), (.int .i64), (.cap (.cap (.lit (.fn 72)) (.lit (.ptr 3000002 0 0 0))) (.dp (.int .i64))), (.lit (.fn 71))]), (3000002, .box 27 [(.lit (.row 3000003))]), (3000003, .own 24 (.s 2 (.d (.int .i64))))], ren := [(3000000, some 3000000), (3000001, some 3000001), (3000002, some 3000002), (3000003, some 3000003)] }, f := fun k v => f101 k v.1.1 v.1.2.1 v.1.2.2.1 v.2.2.1.1 v.2.2.1.2.1 v.2.2.1.2.2.1 v.2.2.1.2.2.2.1.2 v.2.2.2.2.1 }
def gf101 (k : Nat) : Full := { tt := tt, n := 16, fns := [ef71], trunc := [], tails := [], touch := [], opens := [], shapes := [], closes := [], k := k, glob := glob, cuts := [], joins := [] }
theorem qf101 (k : Nat) : AllP (bodyL (gf101 k) Try.f101) := by
  have h : True = AllP (bodyL (gf101 k) Try.f101) := by kernel_rfl
  exact Eq.mp h trivial
theorem sf101 : Sound Try.prog glob ef101 := sound_of base (fn := Try.f101) Try.func101 (by kernel_rfl) gf101 (fun _ => ⟨rfl, rfl⟩) (fun k j => ⟨sf71.at j, trivial⟩) qf101 (fun k v => by kernel_rfl)

/-! impl.propagate -/
def f100_l5 {ρ : Type} (k : Nat) : Nat → (List (Int × ((List Int) × (List Int)))) → Bool → (List (Int × ((List Int) × (List Int)))) → Int → Int → (List Int) → (List (Int × ((List Int) × (List Int)))) → Int → Int → Int → (List (List Int)) → (((((List (Int × ((List Int) × (List Int)))) × Unit × (Unit × Unit) × Bool × Unit) × ((List Int) × (Unit × Unit) × ((List (Int × ((List Int) × (List Int)))) × Int × Int × ((Unit × Unit) × Int) × Unit × Unit) × (Unit × Unit) × (List (List Int)) × Unit)) → Option ρ) × (((Int × Unit) × ((List Int) × (Unit × Unit) × ((List (Int × ((List Int) × (List Int)))) × Int × Int × ((Unit × Unit) × Int) × Unit × Unit) × (Unit × Unit) × (List (List Int)) × Unit)) → Option ρ) × Unit) → Option ρ
  | 0, _, _, _, _, _, _, _, _, _, _, _, _ => none
  | j + 1, v32, v33, v34, v35, v36, v37, v38, v39, v40, v41, v42, nx =>
    bif (decide (v36 < v35)) then
      (getI v34 v36).bind fun x43 =>
      (f52 k x43.1 x43.2.1 x43.2.2 v37).bind fun x45 =>
      bif (decide (x45.1.1 < 0)) then
        nx.2.1 ((v36, ()), (v37, ((), ()), (v38, v39, v40, (((), ()), v41), (), ()), ((), ()), v42, ()))
      else
        (f103 k x43.1 x43.2.1 x43.2.2 v37).bind fun x46 =>
        bif x46.1.2.2.1 then
          bif decide (0 ≤ x46.1.1) && decide (x46.1.1 < (x46.2.1.length : Int)) then
            (x46.2.1[x46.1.1.toNat]?).bind fun _ =>
            (f101 k x46.1.1 x46.1.2.1 v36 v38 v39 v40 v41 v42).bind fun x48 =>
            f100_l5 k j v32 true v34 v35 (wr .i64 (v36 + 1)) (x46.2.1.set x46.1.1.toNat x46.1.2.1) x48.2.2.1.1 x48.2.2.1.2.1 x48.2.2.1.2.2.1 x48.2.2.1.2.2.2.1.2 x48.2.2.2.2.1 nx
          else
            none
        else
          f100_l5 k j v32 v33 v34 v35 (wr .i64 (v36 + 1)) x46.2.1 v38 v39 v40 v41 v42 nx
    else
      nx.1 ((v32, (), ((), ()), v33, ()), (v37, ((), ()), (v38, v39, v40, (((), ()), v41), (), ()), ((), ()), v42, ()))
def cf100_l5 (k : Nat) : Cut := { sp := { temps := [(0, .c (.sl (.pair (.int .i64) (.pair (.sl (.int .i64)) (.sl (.int .i64)))))), (1, .c (.lit (.row 3000000))), (2, .c (.cap (.lit (.fn 101)) (.lit (.ptr 3000001 0 0 0)))), (7, .c .bool), (14, .c (.sl (.pair (.int .i64) (.pair (.sl (.int .i64)) (.sl (.int .i64)))))), (15, .c (.int .i64)), (16, .c (.int .i64))], blocks := [(3000000, .row 2 (.int .i64)), (3000001, .box 66 [(.lit (.ptr 3000002 0 0 0))]), (3000002, .box 73 [(.sl (.pair (.int .i64) (.pair (.sl (.int .i64)) (.sl (.int .i64))))), (.int .i64), (.int .i64), (.cap (.cap (.lit (.fn 72)) (.lit (.ptr 3000003 0 0 0))) (.dp (.int .i64))), (.lit (.fn 71))]), (3000003, .box 27 [(.lit (.row 3000004))]), (3000004, .own 24 (.s 2 (.d (.int .i64))))], ren := [(3000000, some 3000000), (3000001, some 3000001), (3000002, some 3000002), (3000003, some 3000003), (3000004, some 3000004)] }, outs := [(.exit 2, { temps := [(0, .c (.sl (.pair (.int .i64) (.pair (.sl (.int .i64)) (.sl (.int .i64)))))), (1, .c (.lit (.row 3000000))), (2, .c (.cap (.lit (.fn 101)) (.lit (.ptr 3000001 0 0 0)))), (7, .c .bool)], blocks := [(3000000, .row 2 (.int .i64)), (3000001, .box 66 [(.lit (.ptr 3000002 0 0 0))]), (3000002, .box 73 [(.sl (.pair (.int .i64) (.pair (.sl (.int .i64)) (.sl (.int .i64))))), (.int .i64), (.int .i64), (.cap (.cap (.lit (.fn 72)) (.lit (.ptr 3000003 0 0 0))) (.dp (.int .i64))), (.lit (.fn 71))]), (3000003, .box 27 [(.lit (.row 3000004))]), (3000004, .own 24 (.s 2 (.d (.int .i64))))], ren := [(3000000, some 3000000), (3000001, some 3000001), (3000002, some 3000002), (3000003, some 3000003), (3000004, some 3000004)] }), (.ret, { temps := [(6, .c (.int .i64))], blocks := [(3000000, .row 2 (.int .i64)), (3000001, .box 66 [(.lit (.ptr 3000002 0 0 0))]), (3000002, .box 73 [(.sl (.pair (.int .i64) (.pair (.sl (.int .i64)) (.sl (.int .i64))))), (.int .i64), (.int .i64), (.cap (.cap (.lit (.fn 72)) (.lit (.ptr 3000003 0 0 0))) (.dp (.int .i64))), (.lit (.fn 71))]), (3000003, .box 27 [(.lit (.row 3000004))]), (3000004, .own 24 (.s 2 (.d (.int .i64))))], ren := [(3000000, some 3000000), (3000001, some 3000001), (3000002, some 3000002), (3000003, some 3000003), (3000004, some 3000004)] })], F := fun ρ j v nx => f100_l5 k j v.1.1 v.1.2.2.2.1 v.1.2.2.2.2.1 v.1.2.2.2.2.2.1 v.1.2.2.2.2.2.2.1 v.2.1 v.2.2.2.1.1 v.2.2.2.1.2.1 v.2.2.2.1.2.2.1 v.2.2.2.1.2.2.2.1.2 v.2.2.2.2.2.1 nx }
def f100_l2 {ρ : Type} (k : Nat) : Nat → (List (Int × ((List Int) × (List Int)))) → Bool → (List Int) → (List (Int × ((List Int) × (List Int)))) → Int → Int → Int → (List (List Int)) → (((Unit × ((List Int) × (Unit × Unit) × ((List (Int × ((List Int) × (List Int)))) × Int × Int × ((Unit × Unit) × Int) × Unit × Unit) × (Unit × Unit) × (List (List Int)) × Unit)) → Option ρ) × (((Int × Unit) × ((List Int) × (Unit × Unit) × ((List (Int × ((List Int) × (List Int)))) × Int × Int × ((Unit × Unit) × Int) × Unit × Unit) × (Unit × Unit) × (List (List Int)) × Unit)) → Option ρ) × Unit) → Option ρ
  | 0, _, _, _, _, _, _, _, _, _ => none
  | j + 1, v49, v50, v51, v52, v53, v54, v55, v56, nx =>
    bif v50 then
      f100_l5 k k v49 false v49 (v49.length : Int) 0 v51 v52 v53 v54 v55 v56
        (fun x57 : (((List (Int × ((List Int) × (List Int)))) × Unit × (Unit × Unit) × Bool × Unit) × ((List Int) × (Unit × Unit) × ((List (Int × ((List Int) × (List Int)))) × Int × Int × ((Unit × Unit) × Int) × Unit × Unit) × (Unit × Unit) × (List (List Int)) × Unit)) =>
          f100_l2 k j x57.1.1 x57.1.2.2.2.1 x57.2.1 x57.2.2.2.1.1 x57.2.2.2.1.2.1 x57.2.2.2.1.2.2.1 x57.2.2.2.1.2.2.2.1.2 x57.2.2.2.2.2.1 nx,
        fun x58 : ((Int × Unit) × ((List Int) × (Unit × Unit) × ((List (Int × ((List Int) × (List Int)))) × Int × Int × ((Unit × Unit) × Int) × Unit × Unit) × (Unit × Unit) × (List (List Int)) × Unit)) =>
          nx.2.1 ((x58.1.1, ()), (x58.2.1, ((), ()), (x58.2.2.2.1.1, x58.2.2.2.1.2.1, x58.2.2.2.1.2.2.1, (((), ()), x58.2.2.2.1.2.2.2.1.2), (), ()), ((), ()), x58.2.2.2.2.2.1, ())),
        ())
    else
      nx.1 ((), (v51, ((), ()), (v52, v53, v54, (((), ()), v55), (), ()), ((), ()), v56, ()))
def cf100_l2 (k : Nat) : Cut := { sp := { temps := [(0, .c (.sl (.pair (.int .i64) (.pair (.sl (.int .i64)) (.sl (.int .i64)))))), (1, .c (.lit (.row 3000000))), (2, .c (.cap (.lit (.fn 101)) (.lit (.ptr 3000001 0 0 0)))), (7, .c .bool)], blocks := [(3000000, .row 2 (.int .i64)), (3000001, .box 66 [(.lit (.ptr 3000002 0 0 0))]), (3000002, .box 73 [(.sl (.pair (.int .i64) (.pair (.sl (.int .i64)) (.sl (.int .i64))))), (.int .i64), (.int .i64), (.cap (.cap (.lit (.fn 72)) (.lit (.ptr 3000003 0 0 0))) (.dp (.int .i64))), (.lit (.fn 71))]), (3000003, .box 27 [(.lit (.row 3000004))]), (3000004, .own 24 (.s 2 (.d (.int .i64))))], ren := [(3000000, some 3000000), (3000001, some 3000001), (3000002, some 3000002), (3000003, some 3000003), (3000004, some 3000004)] }, outs := [(.exit 0, { temps := [], blocks := [(3000000, .row 2 (.int .i64)), (3000001, .box 66 [(.lit (.ptr 3000002 0 0 0))]), (3000002, .box 73 [(.sl (.pair (.int .i64) (.pair (.sl (.int .i64)) (.sl (.int .i64))))), (.int .i64), (.int .i64), (.cap (.cap (.lit (.fn 72)) (.lit (.ptr 3000003 0 0 0))) (.dp (.int .i64))), (.lit (.fn 71))]), (3000003, .box 27 [(.lit (.row 3000004))]), (3000004, .own 24 (.s 2 (.d (.int .i64))))], ren := [(3000000, some 3000000), (3000001, some 3000001), (3000002, some 3000002), (3000003, some 3000003), (3000004, some 3000004)] }), (.ret, { temps := [(6, .c (.int .i64))], blocks := [(3000000, .row 2 (.int .i64)), (3000001, .box 66 [(.lit (.ptr 3000002 0 0 0))]), (3000002, .box 73 [(.sl (.pair (.int .i64) (.pair (.sl (.int .i64)) (.sl (.int .i64))))), (.int .i64), (.int .i64), (.cap (.cap (.lit (.fn 72)) (.lit (.ptr 3000003 0 0 0))) (.dp (.int .i64))), (.lit (.fn 71))]), (3000003, .box 27 [(.lit (.row 3000004))]), (3000004, .own 24 (.s 2 (.d (.int .i64))))], ren := [(3000000, some 3000000), (3000001, some 3000001), (3000002, some 3000002), (3000003, some 3000003), (3000004, some 3000004)] })], F := fun ρ j v nx => f100_l2 k j v.1.1 v.1.2.2.2.1 v.2.1 v.2.2.2.1.1 v.2.2.2.1.2.1 v.2.2.2.1.2.2.1 v.2.2.2.1.2.2.2.1.2 v.2.2.2.2.2.1 nx }
def f100 (k : Nat) (a1 : (List (Int × ((List Int) × (List Int))))) (a2 : (List Int)) (a3 : (List (Int × ((List Int) × (List Int))))) (a4 : Int) (a5 : Int) (a6 : Int) (a7 : (List (List Int))) : Option ((Int × Unit) × ((List Int) × (Unit × Unit) × ((List (Int × ((List Int) × (List Int)))) × Int × Int × ((Unit × Unit) × Int) × Unit × Unit) × (Unit × Unit) × (List (List Int)) × Unit)) :=
  f100_l2 k k a1 true a2 a3 a4 a5 a6 a7
    (fun x30 : (Unit × ((List Int) × (Unit × Unit) × ((List (Int × ((List Int) × (List Int)))) × Int × Int × ((Unit × Unit) × Int) × Unit × Unit) × (Unit × Unit) × (List (List Int)) × Unit)) =>
      some (((-1), ()), (x30.2.1, ((), ()), (x30.2.2.2.1.1, x30.2.2.2.1.2.1, x30.2.2.2.1.2.2.1, (((), ()), x30.2.2.2.1.2.2.2.1.2), (), ()), ((), ()), x30.2.2.2.2.2.1, ())),
    fun x31 : ((Int × Unit) × ((List Int) × (Unit × Unit) × ((List (Int × ((List Int) × (List Int)))) × Int × Int × ((Unit × Unit) × Int) × Unit × Unit) × (Unit × Unit) × (List (List Int)) × Unit)) =>
      some ((x31.1.1, ()), (x31.2.1, ((), ()), (x31.2.2.2.1.1, x31.2.2.2.1.2.1, x31.2.2.2.1.2.2.1, (((), ()), x31.2.2.2.1.2.2.2.1.2), (), ()), ((), ()), x31.2.2.2.2.2.1, ())),
    ())
def ef100 : Entry := { id := 100, ar := { temps := [(0, .c (.sl (.pair (.int .i64) (.pair (.sl (.int .i64)) (.sl (.int .i64)))))), (1, .c (.row 3000000)), (2, .c (.cap (.lit (.fn 101)) (.box 3000001)))], blocks := [(3000000, .row 2 (.int .i64)), (3000001, .box 66 [(.box 3000002)]), (3000002, .box 73 [(.sl (.pair (.int .i64) (.pair (.sl (.int .i64)) (.sl (.int .i64))))), (.int .i64), (.int .i64), (.cap (.cap (.lit (.fn 72)) (.box 3000003)) (.dp (.int .i64))), (.lit (.fn 71))]), (3000003, .box 27 [(.row 3000004)]), (3000004, .own 24 (.s 2 (.d (.int .i64))))], ren := [] }, res := { temps := [(0, .c (.int .i64))], blocks := [(3000000, .row 2 (.int .i64)), (3000001, .box 66 [(.lit (.ptr 3000002 0 0 0))]), (3000002, .box 73 [(.sl (.pair (.int .i64) (.pair (.sl (.int .i64)) (.sl (.int .i64))))), (.int .i64), (.int .i64), (.cap (.cap (.lit (.fn 72)) (.lit (.ptr 3000003 0 0 0))) (.dp (.int .i64))), (.lit (.fn 71))]), (3000003, .box 27 [(.lit (.row 3000004))]), (3000004, .own 24 (.s 2 (.d (.int .i64))))], ren := [(3000000, some 3000000), (3000001, some 3000001), (3000002, some 3000002), (3000003, some 3000003), (3000004, some 3000004)] }, f := fun k v => f100 k v.1.1 v.2.1 v.2.2.2.1.1 v.2.2.2.1.2.1 v.2.2.2.1.2.2.1 v.2.2.2.1.2.2.2.1.2 v.2.2.2.2.2.1 }
def gf100 (k : Nat) : Full := { tt := tt, n := 44, fns := [ef52, ef103, ef101], trunc := [], tails := [], touch := [], opens := [], shapes := [], closes := [], k := k, glob := glob, cuts := [(5, (cf100_l5 k)), (2, (cf100_l2 k))], joins := [] }
theorem of100_l5 (k : Nat) : CutOk (gf100 k) (cf100_l5 k) (theLoop Try.f100 5) := fun ρ v nx => ⟨by kernel_rfl, fun j => by kernel_rfl⟩
theorem of100_l2 (k : Nat) : CutOk (gf100 k) (cf100_l2 k) (theLoop Try.f100 2) := fun ρ v nx => ⟨by kernel_rfl, fun j => by kernel_rfl⟩
theorem qf100 (k : Nat) : AllP (bodyL (gf100 k) Try.f100) := by
  have h : (CutOk (gf100 k) (cf100_l5 k) (theLoop Try.f100 5) ∧ CutOk (gf100 k) (cf100_l2 k) (theLoop Try.f100 2) ∧ True) = AllP (bodyL (gf100 k) Try.f100) := by kernel_rfl
  exact Eq.mp h (And.intro (of100_l5 k) (And.intro (of100_l2 k) (trivial)))
theorem sf100 : Sound Try.prog glob ef100 := sound_of base (fn := Try.f100) Try.func100 (by kernel_rfl) gf100 (fun _ => ⟨rfl, rfl⟩) (fun k j => ⟨sf52.at j, sf103.at j, sf101.at j, trivial⟩) qf100 (fun k v => by kernel_rfl)

/-! slices.Index[[]int64,int64] -/
def f102_l2 {ρ : Type} (k : Nat) : Nat → (List Int) → Int → Int → Int → (((Unit × Unit) → Option ρ) × (((Int × Unit) × Unit) → Option ρ) × Unit) → Option ρ
  | 0, _, _, _, _, _ => none
  | j + 1, v10, v11, v12, v13, nx =>
    bif (decide (v13 < v12)) then
      (getI v10 v13).bind fun x14 =>
      bif (v11 == x14) then
        nx.2.1 ((v13, ()), ())
      else
        f102_l2 k j v10 v11 v12 (wr .i64 (v13 + 1)) nx
    else
      nx.1 ((), ())
def cf102_l2 (k : Nat) : Cut := { sp := { temps := [(0, .c (.sl (.int .i64))), (1, .c (.int .i64)), (7, .c (.int .i64)), (8, .c (.int .i64))], blocks := [], ren := [] }, outs := [(.exit 0, { temps := [], blocks := [], ren := [] }), (.ret, { temps := [(4, .c (.int .i64))], blocks := [], ren := [] })], F := fun ρ j v nx => f102_l2 k j v.1.1 v.1.2.1 v.1.2.2.1 v.1.2.2.2.1 nx }
def f102 (k : Nat) (a1 : (List Int)) (a2 : Int) : Option ((Int × Unit) × Unit) :=
  f102_l2 k k a1 a2 (a1.length : Int) 0
    (fun x8 : (Unit × Unit) =>
      some (((-1), ()), ()),
    fun x9 : ((Int × Unit) × Unit) =>
      some ((x9.1.1, ()), ()),
    ())
def ef102 : Entry := { id := 102, ar := { temps := [(0, .c (.sl (.int .i64))), (1, .c (.int .i64))], blocks := [], ren := [] }, res := { temps := [(0, .c (.int .i64))], blocks := [], ren := [] }, f := fun k v => f102 k v.1.1 v.1.2.1 }
def gf102 (k : Nat) : Full := { tt := tt, n := 19, fns := [], trunc := [], tails := [], touch := [], opens := [], shapes := [], closes := [], k := k, glob := glob, cuts := [(2, (cf102_l2 k))], joins := [] }
theorem of102_l2 (k : Nat) : CutOk (gf102 k) (cf102_l2 k) (theLoop Try.f102 2) := fun ρ v nx => ⟨by kernel_rfl, fun j => by kernel_rfl⟩
theorem qf102 (k : Nat) : AllP (bodyL (gf102 k) Try.f102) := by
  have h : (CutOk (gf102 k) (cf102_l2 k) (theLoop Try.f102 2) ∧ True) = AllP (bodyL (gf102 k) Try.f102) := by kernel_rfl
  exact Eq.mp h (And.intro (of102_l2 k) (trivial))
theorem sf102 : Sound Try.prog glob ef102 := sound_of base (fn := Try.f102) Try.func102 (by kernel_rfl) gf102 (fun _ => ⟨rfl, rfl⟩) (fun k j => trivial) qf102 (fun k v => by kernel_rfl)

/-! impl.length[[]int64] -/
def f73 (k : Nat) (a1 : (List (List Int))) : Option ((Int × Unit) × Unit) :=
  some (((a1.length : Int), ()), ())
def ef73 : Entry := { id := 73, ar := { temps := [(0, .c (.sl (.sl (.int .i64))))], blocks := [], ren := [] }, res := { temps := [(0, .c (.int .i64))], blocks := [], ren := [] }, f := fun k v => f73 k v.1.1 }
def gf73 (k : Nat) : Full := { tt := tt, n := 5, fns := [], trunc := [], tails := [], touch := [], opens := [], shapes := [], closes := [], k := k, glob := glob, cuts := [], joins := [] }
theorem qf73 (k : Nat) : AllP (bodyL (gf73 k) Try.f73) := by
  have h : True = AllP (bodyL (gf73 k) Try.f73) := by kernel_rfl
  exact Eq.mp h trivial
theorem sf73 : Sound Try.prog glob ef73 := sound_of base (fn := Try.f73) Try.func73 (by kernel_rfl) gf73 (fun _ => ⟨rfl, rfl⟩) (fun k j => trivial) qf73 (fun k v => by kernel_rfl)

/-! impl.solve$2 -/
def f72 (k : Nat) (a1 : Int) (a2 : (List Int)) (a3 : (List (List Int))) : Option ((Bool × Unit) × ((Unit × Unit) × (List (List Int)) × Unit)) :=
  bif decide ((a3.length + [a2].length) * 24 ≤ roomy) then
    (f73 k (a3 ++ [a2])).bind fun x2 =>
    some (((decide (x2.1.1 < a1)), ()), (((), ()), (a3 ++ [a2]), ()))
  else
    none
def ef72 : Entry := { id := 72, ar := { temps := [(0, .c (.row 3000000)), (1, .c (.box 3000001)), (2, .c (.dp (.int .i64)))], blocks := [(3000000, .row 2 (.int .i64)), (3000001, .box 27 [(.row 3000002)]), (3000002, .own 24 (.s 2 (.d (.int .i64))))], ren := [] }, res := { temps := [(0, .c .bool)], blocks := [(3000001, .box 27 [(.row 4000000)]), (4000000, .own 24 (.s 2 (.d (.int .i64))))], ren := [(3000001, some 3000001)] }, f := fun k v => f72 k v.1.2.2.1 v.2.1 v.2.2.2.1 }
def gf72 (k : Nat) : Full := { tt := tt, n := 13, fns := [ef73], trunc := [], tails := [], touch := [], opens := [], shapes := [(7, (.s 2 (.d (.int .i64)))), (8, (.s 2 (.d (.int .i64))))], closes := [], k := k, glob := glob, cuts := [], joins := [] }
theorem qf72 (k : Nat) : AllP (bodyL (gf72 k) Try.f72) := by
  have h : True = AllP (bodyL (gf72 k) Try.f72) := by kernel_rfl
  exact Eq.mp h trivial
theorem sf72 : Sound Try.prog glob ef72 := sound_of base (fn := Try.f72) Try.func72 (by kernel_rfl) gf72 (fun _ => ⟨rfl, rfl⟩) (fun k j => ⟨sf73.at j, trivial⟩) qf72 (fun k v => by kernel_rfl)

/-! impl.solver).search -/
def f92_l13 {ρ : Type} (self : (List (Int × ((List Int) × (List Int)))) → Int → Int → Int → (List (List Int)) → (List Int) → Option ((Bool × Unit) × (((List (Int × ((List Int) × (List Int)))) × Int × Int × ((Unit × Unit) × Int) × Unit × Unit) × (Unit × Unit) × (List (List Int)) × Unit))) (k : Nat) : Nat → Int → Int → Int → (List (Int × ((List Int) × (List Int)))) → Int → Int → Int → (List Int) → (List Int) → (List (List Int)) → (((Unit × (((List (Int × ((List Int) × (List Int)))) × Int × Int × ((Unit × Unit) × Int) × Unit × Unit) × (Unit × Unit) × (List Int) × (List (List Int)) × Unit)) → Option ρ) × (((Bool × Unit) × (((List (Int × ((List Int) × (List Int)))) × Int × Int × ((Unit × Unit) × Int) × Unit × Unit) × (Unit × Unit) × (List Int) × (List (List Int)) × Unit)) → Option ρ) × Unit) → Option ρ
  | 0, _, _, _, _, _, _, _, _, _, _, _ => none
  | j + 1, v47, v48, v49, v50, v51, v52, v53, v54, v55, v56, nx =>
    bif (decide (v49 < v48)) then
      bif decide (0 ≤ v49) && decide (v49 < (v55.length : Int)) then
        (v55[v49.toNat]?).bind fun x57 =>
        (f98 k v54).bind fun x58 =>
        bif decide (0 ≤ v47) && decide (v47 < (x58.2.1.length : Int)) then
          (x58.2.1[v47.toNat]?).bind fun _ =>
          (self v50 v51 v52 v53 v56 (x58.2.1.set v47.toNat x57)).bind fun x60 =>
          bif (!x60.1.1) then
            nx.2.1 ((false, ()), ((x60.2.1.1, x60.2.1.2.1, x60.2.1.2.2.1, (((), ()), x60.2.1.2.2.2.1.2), (), ()), ((), ()), v54, x60.2.2.2.1, ()))
          else
            f92_l13 self k j v47 v48 (wr .i64 (v49 + 1)) x60.2.1.1 x60.2.1.2.1 x60.2.1.2.2.1 x60.2.1.2.2.2.1.2 v54 v55 x60.2.2.2.1 nx
        else
          none
      else
        none
    else
      nx.1 ((), ((v50, v51, v52, (((), ()), v53), (), ()), ((), ()), v54, v56, ()))
def cf92_l13 (self : (List (Int × ((List Int) × (List Int)))) → Int → Int → Int → (List (List Int)) → (List Int) → Option ((Bool × Unit) × (((List (Int × ((List Int) × (List Int)))) × Int × Int × ((Unit × Unit) × Int) × Unit × Unit) × (Unit × Unit) × (List (List Int)) × Unit))) (k : Nat) : Cut := { sp := { temps := [(1, .c (.lit (.row 3000003))), (2, .c (.box 5000000)), (6, .c (.int .i64)), (59, .c (.row 5000001)), (60, .c (.int .i64)), (61, .c (.int .i64))], blocks := [(3000000, .box 73 [(.sl (.pair (.int .i64) (.pair (.sl (.int .i64)) (.sl (.int .i64))))), (.int .i64), (.int .i64), (.cap (.cap (.lit (.fn 72)) (.lit (.ptr 3000001 0 0 0))) (.dp (.int .i64))), (.lit (.fn 71))]), (3000001, .box 27 [(.row 5000002)]), (3000003, .row 2 (.int .i64)), (5000000, .box 66 [(.lit (.ptr 3000000 0 0 0))]), (5000001, .row 2 (.int .i64)), (5000002, .own 24 (.s 2 (.d (.int .i64))))], ren := [(3000000, some 3000000), (3000001, some 3000001), (3000003, some 3000003)] }, outs := [(.exit 0, { temps := [], blocks := [(3000000, .box 73 [(.sl (.pair (.int .i64) (.pair (.sl (.int .i64)) (.sl (.int .i64))))), (.int .i64), (.int .i64), (.cap (.cap (.lit (.fn 72)) (.lit (.ptr 3000001 0 0 0))) (.dp (.int .i64))), (.lit (.fn 71))]), (3000001, .box 27 [(.row 5000000)]), (3000003, .row 2 (.int .i64)), (5000000, .own 24 (.s 2 (.d (.int .i64))))], ren := [(3000000, some 3000000), (3000001, some 3000001), (3000003, some 3000003)] }), (.ret, { temps := [(4, .c .bool)], blocks := [(3000000, .box 73 [(.sl (.pair (.int .i64) (.pair (.sl (.int .i64)) (.sl (.int .i64))))), (.int .i64), (.int .i64), (.cap (.cap (.lit (.fn 72)) (.lit (.ptr 3000001 0 0 0))) (.dp (.int .i64))), (.lit (.fn 71))]), (3000001, .box 27 [(.row 5000000)]), (3000003, .row 2 (.int .i64)), (5000000, .own 24 (.s 2 (.d (.int .i64))))], ren := [(3000000, some 3000000), (3000001, some 3000001), (3000003, some 3000003)] })], F := fun ρ j v nx => f92_l13 self k j v.1.2.2.1 v.1.2.2.2.2.1 v.1.2.2.2.2.2.1 v.2.1.1 v.2.1.2.1 v.2.1.2.2.1 v.2.1.2.2.2.1.2 v.2.2.2.1 v.2.2.2.2.2.1 v.2.2.2.2.2.2.1 nx }
def f92 : Nat → (List (Int × ((List Int) × (List Int)))) → Int → Int → Int → (List (List Int)) → (List Int) → Option ((Bool × Unit) × (((List (Int × ((List Int) × (List Int)))) × Int × Int × ((Unit × Unit) × Int) × Unit × Unit) × (Unit × Unit) × (List (List Int)) × Unit))
  | 0, _, _, _, _, _, _ => none
  | k + 1, a1, a2, a3, a4, a5, a6 =>
    bif (decide ((wr .i64 (a3 + 1)) > a2)) then
      some ((false, ()), ((a1, a2, (wr .i64 (a3 + 1)), (((), ()), a4), (), ()), ((), ()), a5, ()))
    else
      (f100 k a1 a6 a1 a2 (wr .i64 (a3 + 1)) a4 a5).bind fun x38 =>
      bif (decide (x38.1.1 ≥ 0)) then
        (f71 k 3 0 0 x38.1.1).bind fun x40 =>
        some ((true, ()), ((x38.2.2.2.1.1, x38.2.2.2.1.2.1, x38.2.2.2.1.2.2.1, (((), ()), x38.2.2.2.1.2.2.2.1.2), (), ()), ((), ()), x38.2.2.2.2.2.1, ()))
      else
        (f102 k x38.2.1 0).bind fun x41 =>
        bif (decide (x41.1.1 < 0)) then
          (f72 k x38.2.2.2.1.2.2.2.1.2 x38.2.1 x38.2.2.2.2.2.1).bind fun x43 =>
          some ((x43.1.1, ()), ((x38.2.2.2.1.1, x38.2.2.2.1.2.1, x38.2.2.2.1.2.2.1, (((), ()), x38.2.2.2.1.2.2.2.1.2), (), ()), ((), ()), x43.2.2.1, ()))
        else
          (f71 k 1 x41.1.1 0 0).bind fun x44 =>
          f92_l13 (f92 k) k k x41.1.1 ([1, (-1)].length : Int) 0 x38.2.2.2.1.1 x38.2.2.2.1.2.1 x38.2.2.2.1.2.2.1 x38.2.2.2.1.2.2.2.1.2 x38.2.1 ([1, (-1)]) x38.2.2.2.2.2.1
            (fun x45 : (Unit × (((List (Int × ((List Int) × (List Int)))) × Int × Int × ((Unit × Unit) × Int) × Unit × Unit) × (Unit × Unit) × (List Int) × (List (List Int)) × Unit)) =>
              some ((true, ()), ((x45.2.1.1, x45.2.1.2.1, x45.2.1.2.2.1, (((), ()), x45.2.1.2.2.2.1.2), (), ()), ((), ()), x45.2.2.2.2.1, ())),
            fun x46 : ((Bool × Unit) × (((List (Int × ((List Int) × (List Int)))) × Int × Int × ((Unit × Unit) × Int) × Unit × Unit) × (Unit × Unit) × (List Int) × (List (List Int)) × Unit)) =>
              some ((x46.1.1, ()), ((x46.2.1.1, x46.2.1.2.1, x46.2.1.2.2.1, (((), ()), x46.2.1.2.2.2.1.2), (), ()), ((), ()), x46.2.2.2.2.1, ())),
            ())
def ef92 : Entry := { id := 92, ar := { temps := [(0, .c (.box 3000000)), (1, .c (.row 3000003))], blocks := [(3000000, .box 73 [(.sl (.pair (.int .i64) (.pair (.sl (.int .i64)) (.sl (.int .i64))))), (.int .i64), (.int .i64), (.cap (.cap (.lit (.fn 72)) (.box 3000001)) (.dp (.int .i64))), (.lit (.fn 71))]), (3000001, .box 27 [(.row 3000002)]), (3000002, .own 24 (.s 2 (.d (.int .i64)))), (3000003, .row 2 (.int .i64))], ren := [] }, res := { temps := [(0, .c .bool)], blocks := [(3000000, .box 73 [(.sl (.pair (.int .i64) (.pair (.sl (.int .i64)) (.sl (.int .i64))))), (.int .i64), (.int .i64), (.cap (.cap (.lit (.fn 72)) (.lit (.ptr 3000001 0 0 0))) (.dp (.int .i64))), (.lit (.fn 71))]), (3000001, .box 27 [(.row 4000000)]), (4000000, .own 24 (.s 2 (.d (.int .i64))))], ren := [(3000000, some 3000000), (3000001, some 3000001)] }, f := fun k v => f92 k v.2.1.1 v.2.1.2.1 v.2.1.2.2.1 v.2.1.2.2.2.1.2 v.2.2.2.1 v.2.2.2.2.1 }
def gf92 (k : Nat) : Full := { tt := tt, n := 76, fns := [ef100, ef71, ef102, ef72, ef98b, ef92], trunc := [], tails := [], touch := [], opens := [], shapes := [], closes := [], k := k, glob := glob, cuts := [(13, (cf92_l13 (f92 k) k))], joins := [] }
theorem of92_l13 (k : Nat) : CutOk (gf92 k) (cf92_l13 (f92 k) k) (theLoop Try.f92 13) := fun ρ v nx => ⟨by kernel_rfl, fun j => by kernel_rfl⟩
theorem qf92 (k : Nat) : AllP (bodyL (gf92 k) Try.f92) := by
  have h : (CutOk (gf92 k) (cf92_l13 (f92 k) k) (theLoop Try.f92 13) ∧ True) = AllP (bodyL (gf92 k) Try.f92) := by kernel_rfl
  exact Eq.mp h (And.intro (of92_l13 k) (trivial))
theorem sf92 : Sound Try.prog glob ef92 := sound_rec base (fn := Try.f92) Try.func92 (by kernel_rfl) gf92 (fun _ => ⟨rfl, rfl, rfl⟩) (fun k j h => ⟨sf100.at j, sf71.at j, sf102.at j, sf72.at j, sf98b.at j, h, trivial⟩) qf92 (fun v => by kernel_rfl) (fun k v => by kernel_rfl)

/-! impl.solver).run -/
def f74 (k : Nat) (a1 : Int) (a2 : (List (Int × ((List Int) × (List Int))))) (a3 : Int) (a4 : Int) (a5 : Int) (a6 : (List (List Int))) : Option ((Bool × Unit) × (((List (Int × ((List Int) × (List Int)))) × Int × Int × ((Unit × Unit) × Int) × Unit × Unit) × (Unit × Unit) × (List (List Int)) × Unit)) :=
  bif decide (a1 = a1) && decide (0 ≤ a1) && decide (a1 * 8 ≤ roomy) then
    (f92 k a2 a3 a4 a5 a6 (List.replicate a1.toNat 0)).bind fun x2 =>
    some ((x2.1.1, ()), ((x2.2.1.1, x2.2.1.2.1, x2.2.1.2.2.1, (((), ()), x2.2.1.2.2.2.1.2), (), ()), ((), ()), x2.2.2.2.1, ()))
  else
    none
def ef74 : Entry := { id := 74, ar := { temps := [(0, .c (.box 3000000)), (1, .c (.int .i64))], blocks := [(3000000, .box 73 [(.sl (.pair (.int .i64) (.pair (.sl (.int .i64)) (.sl (.int .i64))))), (.int .i64), (.int .i64), (.cap (.cap (.lit (.fn 72)) (.box 3000001)) (.dp (.int .i64))), (.lit (.fn 71))]), (3000001, .box 27 [(.row 3000002)]), (3000002, .own 24 (.s 2 (.d (.int .i64))))], ren := [] }, res := { temps := [(0, .c .bool)], blocks := [(3000000, .box 73 [(.sl (.pair (.int .i64) (.pair (.sl (.int .i64)) (.sl (.int .i64))))), (.int .i64), (.int .i64), (.cap (.cap (.lit (.fn 72)) (.lit (.ptr 3000001 0 0 0))) (.dp (.int .i64))), (.lit (.fn 71))]), (3000001, .box 27 [(.row 4000000)]), (4000000, .own 24 (.s 2 (.d (.int .i64))))], ren := [(3000000, some 3000000), (3000001, some 3000001)] }, f := fun k v => f74 k v.1.2.1 v.2.1.1 v.2.1.2.1 v.2.1.2.2.1 v.2.1.2.2.2.1.2 v.2.2.2.1 }
def gf74 (k : Nat) : Full := { tt := tt, n := 9, fns := [ef92], trunc := [], tails := [], touch := [], opens := [], shapes := [], closes := [], k := k, glob := glob, cuts := [], joins := [] }
theorem qf74 (k : Nat) : AllP (bodyL (gf74 k) Try.f74) := by
  have h : True = AllP (bodyL (gf74 k) Try.f74) := by kernel_rfl
  exact Eq.mp h trivial
theorem sf74 : Sound Try.prog glob ef74 := sound_of base (fn := Try.f74) Try.func74 (by kernel_rfl) gf74 (fun _ => ⟨rfl, rfl⟩) (fun k j => ⟨sf92.at j, trivial⟩) qf74 (fun k v => by kernel_rfl)

/-! impl.solve -/
def f42 (k : Nat) (a1 : (List (Int × ((List Int) × (List Int))))) (a2 : Int) (a3 : Int) (a4 : Int) : Option ((Unit × Unit × Unit) × ((List (List Int)) × ((List (Int × ((List Int) × (List Int)))) × Int × Int × ((Unit × Unit) × Int) × Unit × Unit) × (Unit × Unit) × Unit)) :=
  (f74 k a2 a1 a3 0 a4 ([] : List (List Int))).bind fun x2 =>
  some (((), (), ()), (x2.2.2.2.1, (x2.2.1.1, x2.2.1.2.1, x2.2.1.2.2.1, (((), ()), x2.2.1.2.2.2.1.2), (), ()), ((), ()), ()))
def ef42 : Entry := { id := 42, ar := { temps := [(0, .c (.sl (.pair (.int .i64) (.pair (.sl (.int .i64)) (.sl (.int .i64)))))), (1, .c (.int .i64)), (2, .c (.int .i64)), (3, .c (.int .i64))], blocks := [], ren := [] }, res := { temps := [(0, .c (.row 4000000)), (1, .c (.box 4000001))], blocks := [(4000000, .own 24 (.s 2 (.d (.int .i64)))), (4000001, .box 73 [(.sl (.pair (.int .i64) (.pair (.sl (.int .i64)) (.sl (.int .i64))))), (.int .i64), (.int .i64), (.cap (.cap (.lit (.fn 72)) (.box 4000002)) (.dp (.int .i64))), (.lit (.fn 71))]), (4000002, .box 27 [(.lit (.row 4000000))])], ren := [] }, f := fun k v => f42 k v.1.1 v.1.2.1 v.1.2.2.1 v.1.2.2.2.1 }
def gf42 (k : Nat) : Full := { tt := tt, n := 25, fns := [ef74], trunc := [], tails := [], touch := [], opens := [], shapes := [], closes := [], k := k, glob := glob, cuts := [], joins := [] }
theorem qf42 (k : Nat) : AllP (bodyL (gf42 k) Try.f42) := by
  have h : True = AllP (bodyL (gf42 k) Try.f42) := by kernel_rfl
  exact Eq.mp h trivial
theorem sf42 : Sound Try.prog glob ef42 := sound_of base (fn := Try.f42) Try.func42 (by kernel_rfl) gf42 (fun _ => ⟨rfl, rfl⟩) (fun k j => ⟨sf74.at j, trivial⟩) qf42 (fun k v => by kernel_rfl)

/-! impl.solver).isSpent -/
def f43 (k : Nat) (a1 : (List (Int × ((List Int) × (List Int))))) (a2 : Int) (a3 : Int) (a4 : Int) (a5 : (List (List Int))) : Option ((Bool × Unit) × (((List (Int × ((List Int) × (List Int)))) × Int × Int × ((Unit × Unit) × Int) × Unit × Unit) × (Unit × Unit) × (List (List Int)) × Unit)) :=
  some (((decide (a3 > a2)), ()), ((a1, a2, a3, (((), ()), a4), (), ()), ((), ()), a5, ()))
def ef43 : Entry := { id := 43, ar := { temps := [(0, .c (.box 3000000))], blocks := [(3000000, .box 73 [(.sl (.pair (.int .i64) (.pair (.sl (.int .i64)) (.sl (.int .i64))))), (.int .i64), (.int .i64), (.cap (.cap (.lit (.fn 72)) (.box 3000001)) (.dp (.int .i64))), (.lit (.fn 71))]), (3000001, .box 27 [(.row 3000002)]), (3000002, .own 24 (.s 2 (.d (.int .i64))))], ren := [] }, res := { temps := [(0, .c .bool)], blocks := [(3000000, .box 73 [(.sl (.pair (.int .i64) (.pair (.sl (.int .i64)) (.sl (.int .i64))))), (.int .i64), (.int .i64), (.cap (.cap (.lit (.fn 72)) (.lit (.ptr 3000001 0 0 0))) (.dp (.int .i64))), (.lit (.fn 71))]), (3000001, .box 27 [(.lit (.row 3000002))]), (3000002, .own 24 (.s 2 (.d (.int .i64))))], ren := [(3000000, some 3000000), (3000001, some 3000001), (3000002, some 3000002)] }, f := fun k v => f43 k v.2.1.1 v.2.1.2.1 v.2.1.2.2.1 v.2.1.2.2.2.1.2 v.2.2.2.1 }
def gf43 (k : Nat) : Full := { tt := tt, n := 12, fns := [], trunc := [], tails := [], touch := [], opens := [], shapes := [], closes := [], k := k, glob := glob, cuts := [], joins := [] }
theorem qf43 (k : Nat) : AllP (bodyL (gf43 k) Try.f43) := by
  have h : True = AllP (bodyL (gf43 k) Try.f43) := by kernel_rfl
  exact Eq.mp h trivial
theorem sf43 : Sound Try.prog glob ef43 := sound_of base (fn := Try.f43) Try.func43 (by kernel_rfl) gf43 (fun _ => ⟨rfl, rfl⟩) (fun k j => trivial) qf43 (fun k v => by kernel_rfl)

/-! impl.SolveRules -/
def f9 (k : Nat) (a1 : (List (Int × ((List Int) × (List Int))))) (a2 : Int) (a3 : Int) (a4 : Int) : Option ((Unit × Int × Int × Unit) × ((List (List Int)) × Unit)) :=
  (f39 k a1 a2).bind fun x13 =>
  bif (!x13.1.1) then
    some (((), 0, 1, ()), (([] : List (List Int)), ()))
  else
    (f40 k a3).bind fun x14 =>
    bif (!x14.1.1) then
      some (((), 0, 1, ()), (([] : List (List Int)), ()))
    else
      (f41 k a4 1 100).bind fun x15 =>
      bif (!x15.1.1) then
        some (((), 0, 1, ()), (([] : List (List Int)), ()))
      else
        (f42 k a1 a2 a3 a4).bind fun x16 =>
        (f43 k x16.2.2.1.1 x16.2.2.1.2.1 x16.2.2.1.2.2.1 x16.2.2.1.2.2.2.1.2 x16.2.1).bind fun x18 =>
        bif x18.1.1 then
          some (((), 0, 10, ()), (([] : List (List Int)), ()))
        else
          some (((), x18.2.1.2.2.1, 0, ()), (x18.2.2.2.1, ()))
def ef9 : Entry := { id := 9, ar := { temps := [(0, .c (.sl (.pair (.int .i64) (.pair (.sl (.int .i64)) (.sl (.int .i64)))))), (1, .c (.int .i64)), (2, .c (.int .i64)), (3, .c (.int .i64))], blocks := [], ren := [] }, res := { temps := [(0, .c (.row 4000000)), (1, .c (.int .i64)), (2, .c (.int .i64))], blocks := [(4000000, .own 24 (.s 2 (.d (.int .i64))))], ren := [] }, f := fun k v => f9 k v.1.1 v.1.2.1 v.1.2.2.1 v.1.2.2.2.1 }
def gf9 (k : Nat) : Full := { tt := tt, n := 42, fns := [ef39, ef40, ef41, ef42, ef43], trunc := [], tails := [], touch := [], opens := [], shapes := [], closes := [], k := k, glob := glob, cuts := [], joins := [] }
theorem qf9 (k : Nat) : AllP (bodyL (gf9 k) Try.f9) := by
  have h : True = AllP (bodyL (gf9 k) Try.f9) := by kernel_rfl
  exact Eq.mp h trivial
theorem sf9 : Sound Try.prog glob ef9 := sound_of base (fn := Try.f9) Try.func9 (by kernel_rfl) gf9 (fun _ => ⟨rfl, rfl⟩) (fun k j => ⟨sf39.at j, sf40.at j, sf41.at j, sf42.at j, sf43.at j, trivial⟩) qf9 (fun k v => by kernel_rfl)

/-! laws.eqInt64S -/
def f18_l4 {ρ : Type} (k : Nat) : Nat → (List Int) → (List Int) → Int → (((Unit × Unit) → Option ρ) × (((Bool × Unit) × Unit) → Option ρ) × Unit) → Option ρ
  | 0, _, _, _, _ => none
  | j + 1, v10, v11, v12, nx =>
    bif (decide (v12 < (v10.length : Int))) then
      (getI v10 v12).bind fun x13 =>
      (getI v11 v12).bind fun x14 =>
      bif (x13 != x14) then
        nx.2.1 ((false, ()), ())
      else
        f18_l4 k j v10 v11 (wr .i64 (v12 + 1)) nx
    else
      nx.1 ((), ())
def cf18_l4 (k : Nat) : Cut := { sp := { temps := [(0, .c (.sl (.int .i64))), (1, .c (.sl (.int .i64))), (5, .c (.int .i64))], blocks := [], ren := [] }, outs := [(.exit 0, { temps := [], blocks := [], ren := [] }), (.ret, { temps := [(4, .c .bool)], blocks := [], ren := [] })], F := fun ρ j v nx => f18_l4 k j v.1.1 v.1.2.1 v.1.2.2.1 nx }
def f18 (k : Nat) (a1 : (List Int)) (a2 : (List Int)) : Option ((Bool × Unit) × Unit) :=
  bif ((a1.length : Int) != (a2.length : Int)) then
    some ((false, ()), ())
  else
    f18_l4 k k a1 a2 0
      (fun x8 : (Unit × Unit) =>
        some ((true, ()), ()),
      fun x9 : ((Bool × Unit) × Unit) =>
        some ((x9.1.1, ()), ()),
      ())
def ef18 : Entry := { id := 18, ar := { temps := [(0, .c (.sl (.int .i64))), (1, .c (.sl (.int .i64)))], blocks := [], ren := [] }, res := { temps := [(0, .c .bool)], blocks := [], ren := [] }, f := fun k v => f18 k v.1.1 v.1.2.1 }
def gf18 (k : Nat) : Full := { tt := tt, n := 26, fns := [], trunc := [], tails := [], touch := [], opens := [], shapes := [], closes := [], k := k, glob := glob, cuts := [(4, (cf18_l4 k))], joins := [] }
theorem of18_l4 (k : Nat) : CutOk (gf18 k) (cf18_l4 k) (theLoop Try.f18 4) := fun ρ v nx => ⟨by kernel_rfl, fun j => by kernel_rfl⟩
theorem qf18 (k : Nat) : AllP (bodyL (gf18 k) Try.f18) := by
  have h : (CutOk (gf18 k) (cf18_l4 k) (theLoop Try.f18 4) ∧ True) = AllP (bodyL (gf18 k) Try.f18) := by kernel_rfl
  exact Eq.mp h (And.intro (of18_l4 k) (trivial))
theorem sf18 : Sound Try.prog glob ef18 := sound_of base (fn := Try.f18) Try.func18 (by kernel_rfl) gf18 (fun _ => ⟨rfl, rfl⟩) (fun k j => trivial) qf18 (fun k v => by kernel_rfl)

/-! laws.eqInt64SS -/
def f24_l4 {ρ : Type} (k : Nat) : Nat → (List (List Int)) → (List (List Int)) → Int → (((Unit × Unit) → Option ρ) × (((Bool × Unit) × Unit) → Option ρ) × Unit) → Option ρ
  | 0, _, _, _, _ => none
  | j + 1, v11, v12, v13, nx =>
    bif (decide (v13 < (v11.length : Int))) then
      (getI v11 v13).bind fun x14 =>
      (getI v12 v13).bind fun x15 =>
      (f18 k x14 x15).bind fun x16 =>
      bif (!x16.1.1) then
        nx.2.1 ((false, ()), ())
      else
        f24_l4 k j v11 v12 (wr .i64 (v13 + 1)) nx
    else
      nx.1 ((), ())
def cf24_l4 (k : Nat) : Cut := { sp := { temps := [(0, .c (.sl (.sl (.int .i64)))), (1, .c (.sl (.sl (.int .i64)))), (5, .c (.int .i64))], blocks := [], ren := [] }, outs := [(.exit 0, { temps := [], blocks := [], ren := [] }), (.ret, { temps := [(4, .c .bool)], blocks := [], ren := [] })], F := fun ρ j v nx => f24_l4 k j v.1.1 v.1.2.1 v.1.2.2.1 nx }
def f24 (k : Nat) (a1 : (List (List Int))) (a2 : (List (List Int))) : Option ((Bool × Unit) × Unit) :=
  bif ((a1.length : Int) != (a2.length : Int)) then
    some ((false, ()), ())
  else
    f24_l4 k k a1 a2 0
      (fun x9 : (Unit × Unit) =>
        some ((true, ()), ()),
      fun x10 : ((Bool × Unit) × Unit) =>
        some ((x10.1.1, ()), ()),
      ())
def ef24 : Entry := { id := 24, ar := { temps := [(0, .c (.sl (.sl (.int .i64)))), (1, .c (.sl (.sl (.int .i64))))], blocks := [], ren := [] }, res := { temps := [(0, .c .bool)], blocks := [], ren := [] }, f := fun k v => f24 k v.1.1 v.1.2.1 }
def gf24 (k : Nat) : Full := { tt := tt, n := 27, fns := [ef18], trunc := [], tails := [], touch := [], opens := [], shapes := [], closes := [], k := k, glob := glob, cuts := [(4, (cf24_l4 k))], joins := [] }
theorem of24_l4 (k : Nat) : CutOk (gf24 k) (cf24_l4 k) (theLoop Try.f24 4) := fun ρ v nx => ⟨by kernel_rfl, fun j => by kernel_rfl⟩
theorem qf24 (k : Nat) : AllP (bodyL (gf24 k) Try.f24) := by
  have h : (CutOk (gf24 k) (cf24_l4 k) (theLoop Try.f24 4) ∧ True) = AllP (bodyL (gf24 k) Try.f24) := by kernel_rfl
  exact Eq.mp h (And.intro (of24_l4 k) (trivial))
theorem sf24 : Sound Try.prog glob ef24 := sound_of base (fn := Try.f24) Try.func24 (by kernel_rfl) gf24 (fun _ => ⟨rfl, rfl⟩) (fun k j => ⟨sf18.at j, trivial⟩) qf24 (fun k v => by kernel_rfl)

/-! laws.eqRule -/
def f58 (k : Nat) (a1 : Int) (a2 : (List Int)) (a3 : (List Int)) (a4 : Int) (a5 : (List Int)) (a6 : (List Int)) : Option ((Bool × Unit) × Unit) :=
  bif (a1 != a4) then
    some ((false, ()), ())
  else
    (f18 k a2 a5).bind fun x5 =>
    bif (!x5.1.1) then
      some ((false, ()), ())
    else
      (f18 k a3 a6).bind fun x6 =>
      bif (!x6.1.1) then
        some ((false, ()), ())
      else
        some ((true, ()), ())
def ef58 : Entry := { id := 58, ar := { temps := [(0, .agg [(.int .i64), (.sl (.int .i64)), (.sl (.int .i64))]), (1, .agg [(.int .i64), (.sl (.int .i64)), (.sl (.int .i64))])], blocks := [], ren := [] }, res := { temps := [(0, .c .bool)], blocks := [], ren := [] }, f := fun k v => f58 k v.1.1.1 v.1.1.2.1 v.1.1.2.2.1 v.1.2.1.1 v.1.2.1.2.1 v.1.2.1.2.2.1 }
def gf58 (k : Nat) : Full := { tt := tt, n := 22, fns := [ef18], trunc := [], tails := [], touch := [], opens := [], shapes := [], closes := [], k := k, glob := glob, cuts := [], joins := [] }
theorem qf58 (k : Nat) : AllP (bodyL (gf58 k) Try.f58) := by
  have h : True = AllP (bodyL (gf58 k) Try.f58) := by kernel_rfl
  exact Eq.mp h trivial
theorem sf58 : Sound Try.prog glob ef58 := sound_of base (fn := Try.f58) Try.func58 (by kernel_rfl) gf58 (fun _ => ⟨rfl, rfl⟩) (fun k j => ⟨sf18.at j, trivial⟩) qf58 (fun k v => by kernel_rfl)

/-! laws.eqRuleS -/
def f19_l4 {ρ : Type} (k : Nat) : Nat → (List (Int × ((List Int) × (List Int)))) → (List (Int × ((List Int) × (List Int)))) → Int → (((Unit × Unit) → Option ρ) × (((Bool × Unit) × Unit) → Option ρ) × Unit) → Option ρ
  | 0, _, _, _, _ => none
  | j + 1, v11, v12, v13, nx =>
    bif (decide (v13 < (v11.length : Int))) then
      (getI v11 v13).bind fun x14 =>
      (getI v12 v13).bind fun x15 =>
      (f58 k x14.1 x14.2.1 x14.2.2 x15.1 x15.2.1 x15.2.2).bind fun x16 =>
      bif (!x16.1.1) then
        nx.2.1 ((false, ()), ())
      else
        f19_l4 k j v11 v12 (wr .i64 (v13 + 1)) nx
    else
      nx.1 ((), ())
def cf19_l4 (k : Nat) : Cut := { sp := { temps := [(0, .c (.sl (.pair (.int .i64) (.pair (.sl (.int .i64)) (.sl (.int .i64)))))), (1, .c (.sl (.pair (.int .i64) (.pair (.sl (.int .i64)) (.sl (.int .i64)))))), (5, .c (.int .i64))], blocks := [], ren := [] }, outs := [(.exit 0, { temps := [], blocks := [], ren := [] }), (.ret, { temps := [(4, .c .bool)], blocks := [], ren := [] })], F := fun ρ j v nx => f19_l4 k j v.1.1 v.1.2.1 v.1.2.2.1 nx }
def f19 (k : Nat) (a1 : (List (Int × ((List Int) × (List Int))))) (a2 : (List (Int × ((List Int) × (List Int))))) : Option ((Bool × Unit) × Unit) :=
  bif ((a1.length : Int) != (a2.length : Int)) then
    some ((false, ()), ())
  else
    f19_l4 k k a1 a2 0
      (fun x9 : (Unit × Unit) =>
        some ((true, ()), ()),
      fun x10 : ((Bool × Unit) × Unit) =>
        some ((x10.1.1, ()), ()),
      ())
def ef19 : Entry := { id := 19, ar := { temps := [(0, .c (.sl (.pair (.int .i64) (.pair (.sl (.int .i64)) (.sl (.int .i64)))))), (1, .c (.sl (.pair (.int .i64) (.pair (.sl (.int .i64)) (.sl (.int .i64))))))], blocks := [], ren := [] }, res := { temps := [(0, .c .bool)], blocks := [], ren := [] }, f := fun k v => f19 k v.1.1 v.1.2.1 }
def gf19 (k : Nat) : Full := { tt := tt, n := 27, fns := [ef58], trunc := [], tails := [], touch := [], opens := [], shapes := [], closes := [], k := k, glob := glob, cuts := [(4, (cf19_l4 k))], joins := [] }
theorem of19_l4 (k : Nat) : CutOk (gf19 k) (cf19_l4 k) (theLoop Try.f19 4) := fun ρ v nx => ⟨by kernel_rfl, fun j => by kernel_rfl⟩
theorem qf19 (k : Nat) : AllP (bodyL (gf19 k) Try.f19) := by
  have h : (CutOk (gf19 k) (cf19_l4 k) (theLoop Try.f19 4) ∧ True) = AllP (bodyL (gf19 k) Try.f19) := by kernel_rfl
  exact Eq.mp h (And.intro (of19_l4 k) (trivial))
theorem sf19 : Sound Try.prog glob ef19 := sound_of base (fn := Try.f19) Try.func19 (by kernel_rfl) gf19 (fun _ => ⟨rfl, rfl⟩) (fun k j => ⟨sf58.at j, trivial⟩) qf19 (fun k v => by kernel_rfl)

/-! laws.markInt64S -/
def f21_l2 {ρ : Type} (k : Nat) : Nat → Int → Int → (List Int) → ((((Int × Unit) × ((List Int) × Unit)) → Option ρ) × Unit) → Option ρ
  | 0, _, _, _, _ => none
  | j + 1, v7, v8, v9, nx =>
    bif (decide (v8 < (v9.length : Int))) then
      bif decide (0 ≤ v8) && decide (v8 < (v9.length : Int)) then
        (v9[v8.toNat]?).bind fun _ =>
        f21_l2 k j (wr .i64 (v7 + 1)) (wr .i64 (v8 + 1)) (v9.set v8.toNat v7) nx
      else
        none
    else
      nx.1 ((v7, ()), (v9, ()))
def cf21_l2 (k : Nat) : Cut := { sp := { temps := [(0, .c (.lit (.row 3000000))), (1, .c (.int .i64)), (5, .c (.int .i64))], blocks := [(3000000, .row 2 (.int .i64))], ren := [(3000000, some 3000000)] }, outs := [(.exit 0, { temps := [(1, .c (.int .i64))], blocks := [(3000000, .row 2 (.int .i64))], ren := [(3000000, some 3000000)] })], F := fun ρ j v nx => f21_l2 k j v.1.2.1 v.1.2.2.1 v.2.1 nx }
def f21 (k : Nat) (a1 : Int) (a2 : (List Int)) : Option ((Int × Unit) × ((List Int) × Unit)) :=
  f21_l2 k k a1 0 a2
    (fun x6 : ((Int × Unit) × ((List Int) × Unit)) =>
      some ((x6.1.1, ()), (x6.2.1, ())),
    ())
def ef21 : Entry := { id := 21, ar := { temps := [(0, .c (.row 3000000)), (1, .c (.int .i64))], blocks := [(3000000, .row 2 (.int .i64))], ren := [] }, res := { temps := [(0, .c (.int .i64))], blocks := [(3000000, .row 2 (.int .i64))], ren := [(3000000, some 3000000)] }, f := fun k v => f21 k v.1.2.1 v.2.1 }
def gf21 (k : Nat) : Full := { tt := tt, n := 19, fns := [], trunc := [], tails := [], touch := [], opens := [], shapes := [], closes := [], k := k, glob := glob, cuts := [(2, (cf21_l2 k))], joins := [] }
theorem of21_l2 (k : Nat) : CutOk (gf21 k) (cf21_l2 k) (theLoop Try.f21 2) := fun ρ v nx => ⟨by kernel_rfl, fun j => by kernel_rfl⟩
theorem qf21 (k : Nat) : AllP (bodyL (gf21 k) Try.f21) := by
  have h : (CutOk (gf21 k) (cf21_l2 k) (theLoop Try.f21 2) ∧ True) = AllP (bodyL (gf21 k) Try.f21) := by kernel_rfl
  exact Eq.mp h (And.intro (of21_l2 k) (trivial))
theorem sf21 : Sound Try.prog glob ef21 := sound_of base (fn := Try.f21) Try.func21 (by kernel_rfl) gf21 (fun _ => ⟨rfl, rfl⟩) (fun k j => trivial) qf21 (fun k v => by kernel_rfl)

/-! laws.markRuleS -/
def f20_l2 {ρ : Type} (k : Nat) : Nat → Int → Int → (List (Int × ((List Int) × (List Int)))) → ((((Int × Unit) × ((List (Int × ((List Int) × (List Int)))) × Unit)) → Option ρ) × Unit) → Option ρ
  | 0, _, _, _, _ => none
  | j + 1, v11, v12, v13, nx =>
    bif (decide (v12 < (v13.length : Int))) then
      bif decide (0 ≤ v12) && decide (v12 < (v13.length : Int)) then
        (v13[v12.toNat]?).bind fun x14 =>
        bif decide (0 ≤ v12) && decide (v12 < ((v13.set v12.toNat (v11, x14.2)).length : Int)) then
          ((v13.set v12.toNat (v11, x14.2))[v12.toNat]?).bind fun x15 =>
          (f21 k (wr .i64 (v11 + 1)) x15.2.1).bind fun x16 =>
          bif decide (0 ≤ v12) && decide (v12 < (((v13.set v12.toNat (v11, x14.2)).set v12.toNat (x15.1, (x16.2.1, x15.2.2))).length : Int)) then
            (((v13.set v12.toNat (v11, x14.2)).set v12.toNat (x15.1, (x16.2.1, x15.2.2)))[v12.toNat]?).bind fun x17 =>
            (f21 k x16.1.1 x17.2.2).bind fun x18 =>
            f20_l2 k j x18.1.1 (wr .i64 (v12 + 1)) (((v13.set v12.toNat (v11, x14.2)).set v12.toNat (x15.1, (x16.2.1, x15.2.2))).set v12.toNat (x17.1, (x17.2.1, x18.2.1))) nx
          else
            none
        else
          none
      else
        none
    else
      nx.1 ((v11, ()), (v13, ()))
def cf20_l2 (k : Nat) : Cut := { sp := { temps := [(0, .c (.lit (.row 3000000))), (1, .c (.int .i64)), (5, .c (.int .i64))], blocks := [(3000000, .own 61 (.p (.d (.int .i64)) (.p (.s 2 (.d (.int .i64))) (.s 2 (.d (.int .i64))))))], ren := [(3000000, some 3000000)] }, outs := [(.exit 0, { temps := [(1, .c (.int .i64))], blocks := [(3000000, .own 61 (.p (.d (.int .i64)) (.p (.s 2 (.d (.int .i64))) (.s 2 (.d (.int .i64))))))], ren := [(3000000, some 3000000)] })], F := fun ρ j v nx => f20_l2 k j v.1.2.1 v.1.2.2.1 v.2.1 nx }
def f20 (k : Nat) (a1 : Int) (a2 : (List (Int × ((List Int) × (List Int))))) : Option ((Int × Unit) × ((List (Int × ((List Int) × (List Int)))) × Unit)) :=
  f20_l2 k k a1 0 a2
    (fun x10 : ((Int × Unit) × ((List (Int × ((List Int) × (List Int)))) × Unit)) =>
      some ((x10.1.1, ()), (x10.2.1, ())),
    ())
def ef20 : Entry := { id := 20, ar := { temps := [(0, .c (.row 3000000)), (1, .c (.int .i64))], blocks := [(3000000, .own 61 (.p (.d (.int .i64)) (.p (.s 2 (.d (.int .i64))) (.s 2 (.d (.int .i64))))))], ren := [] }, res := { temps := [(0, .c (.int .i64))], blocks := [(3000000, .own 61 (.p (.d (.int .i64)) (.p (.s 2 (.d (.int .i64))) (.s 2 (.d (.int .i64))))))], ren := [(3000000, some 3000000)] }, f := fun k v => f20 k v.1.2.1 v.2.1 }
def gf20 (k : Nat) : Full := { tt := tt, n := 34, fns := [ef21], trunc := [], tails := [], touch := [], opens := [23, 30], shapes := [], closes := [(6, [3000000]), (7, [3000000])], k := k, glob := glob, cuts := [(2, (cf20_l2 k))], joins := [] }
theorem of20_l2 (k : Nat) : CutOk (gf20 k) (cf20_l2 k) (theLoop Try.f20 2) := fun ρ v nx => ⟨by kernel_rfl, fun j => by kernel_rfl⟩
theorem qf20 (k : Nat) : AllP (bodyL (gf20 k) Try.f20) := by
  have h : (CutOk (gf20 k) (cf20_l2 k) (theLoop Try.f20 2) ∧ True) = AllP (bodyL (gf20 k) Try.f20) := by kernel_rfl
  exact Eq.mp h (And.intro (of20_l2 k) (trivial))
theorem sf20 : Sound Try.prog glob ef20 := sound_of base (fn := Try.f20) Try.func20 (by kernel_rfl) gf20 (fun _ => ⟨rfl, rfl⟩) (fun k j => ⟨sf21.at j, trivial⟩) qf20 (fun k v => by kernel_rfl)

/-! laws.markInt64SS -/
def f25_l2 {ρ : Type} (k : Nat) : Nat → Int → Int → (List (List Int)) → ((((Int × Unit) × ((List (List Int)) × Unit)) → Option ρ) × Unit) → Option ρ
  | 0, _, _, _, _ => none
  | j + 1, v8, v9, v10, nx =>
    bif (decide (v9 < (v10.length : Int))) then
      bif decide (0 ≤ v9) && decide (v9 < (v10.length : Int)) then
        (v10[v9.toNat]?).bind fun x11 =>
        (f21 k v8 x11).bind fun x12 =>
        f25_l2 k j x12.1.1 (wr .i64 (v9 + 1)) (v10.set v9.toNat x12.2.1) nx
      else
        none
    else
      nx.1 ((v8, ()), (v10, ()))
def cf25_l2 (k : Nat) : Cut := { sp := { temps := [(0, .c (.lit (.row 3000000))), (1, .c (.int .i64)), (5, .c (.int .i64))], blocks := [(3000000, .own 24 (.s 2 (.d (.int .i64))))], ren := [(3000000, some 3000000)] }, outs := [(.exit 0, { temps := [(1, .c (.int .i64))], blocks := [(3000000, .own 24 (.s 2 (.d (.int .i64))))], ren := [(3000000, some 3000000)] })], F := fun ρ j v nx => f25_l2 k j v.1.2.1 v.1.2.2.1 v.2.1 nx }
def f25 (k : Nat) (a1 : Int) (a2 : (List (List Int))) : Option ((Int × Unit) × ((List (List Int)) × Unit)) :=
  f25_l2 k k a1 0 a2
    (fun x7 : ((Int × Unit) × ((List (List Int)) × Unit)) =>
      some ((x7.1.1, ()), (x7.2.1, ())),
    ())
def ef25 : Entry := { id := 25, ar := { temps := [(0, .c (.row 3000000)), (1, .c (.int .i64))], blocks := [(3000000, .own 24 (.s 2 (.d (.int .i64))))], ren := [] }, res := { temps := [(0, .c (.int .i64))], blocks := [(3000000, .own 24 (.s 2 (.d (.int .i64))))], ren := [(3000000, some 3000000)] }, f := fun k v => f25 k v.1.2.1 v.2.1 }
def gf25 (k : Nat) : Full := { tt := tt, n := 19, fns := [ef21], trunc := [], tails := [], touch := [], opens := [15], shapes := [], closes := [(4, [3000000])], k := k, glob := glob, cuts := [(2, (cf25_l2 k))], joins := [] }
theorem of25_l2 (k : Nat) : CutOk (gf25 k) (cf25_l2 k) (theLoop Try.f25 2) := fun ρ v nx => ⟨by kernel_rfl, fun j => by kernel_rfl⟩
theorem qf25 (k : Nat) : AllP (bodyL (gf25 k) Try.f25) := by
  have h : (CutOk (gf25 k) (cf25_l2 k) (theLoop Try.f25 2) ∧ True) = AllP (bodyL (gf25 k) Try.f25) := by kernel_rfl
  exact Eq.mp h (And.intro (of25_l2 k) (trivial))
theorem sf25 : Sound Try.prog glob ef25 := sound_of base (fn := Try.f25) Try.func25 (by kernel_rfl) gf25 (fun _ => ⟨rfl, rfl⟩) (fun k j => ⟨sf21.at j, trivial⟩) qf25 (fun k v => by kernel_rfl)

/-! laws.heldInt64S -/
def f22_l2 {ρ : Type} (k : Nat) : Nat → (List Int) → Int → Int → ((((Int × Unit) × Unit) → Option ρ) × (((Int × Unit) × Unit) → Option ρ) × Unit) → Option ρ
  | 0, _, _, _, _ => none
  | j + 1, v9, v10, v11, nx =>
    bif (decide (v11 < (v9.length : Int))) then
      (getI v9 v11).bind fun x12 =>
      bif (x12 != v10) then
        nx.2.1 (((-1), ()), ())
      else
        f22_l2 k j v9 (wr .i64 (v10 + 1)) (wr .i64 (v11 + 1)) nx
    else
      nx.1 ((v10, ()), ())
def cf22_l2 (k : Nat) : Cut := { sp := { temps := [(0, .c (.sl (.int .i64))), (1, .c (.int .i64)), (5, .c (.int .i64))], blocks := [], ren := [] }, outs := [(.exit 0, { temps := [(1, .c (.int .i64))], blocks := [], ren := [] }), (.ret, { temps := [(4, .c (.int .i64))], blocks := [], ren := [] })], F := fun ρ j v nx => f22_l2 k j v.1.1 v.1.2.1 v.1.2.2.1 nx }
def f22 (k : Nat) (a1 : (List Int)) (a2 : Int) : Option ((Int × Unit) × Unit) :=
  f22_l2 k k a1 a2 0
    (fun x7 : ((Int × Unit) × Unit) =>
      some ((x7.1.1, ()), ()),
    fun x8 : ((Int × Unit) × Unit) =>
      some ((x8.1.1, ()), ()),
    ())
def ef22 : Entry := { id := 22, ar := { temps := [(0, .c (.sl (.int .i64))), (1, .c (.int .i64))], blocks := [], ren := [] }, res := { temps := [(0, .c (.int .i64))], blocks := [], ren := [] }, f := fun k v => f22 k v.1.1 v.1.2.1 }
def gf22 (k : Nat) : Full := { tt := tt, n := 21, fns := [], trunc := [], tails := [], touch := [], opens := [], shapes := [], closes := [], k := k, glob := glob, cuts := [(2, (cf22_l2 k))], joins := [] }
theorem of22_l2 (k : Nat) : CutOk (gf22 k) (cf22_l2 k) (theLoop Try.f22 2) := fun ρ v nx => ⟨by kernel_rfl, fun j => by kernel_rfl⟩
theorem qf22 (k : Nat) : AllP (bodyL (gf22 k) Try.f22) := by
  have h : (CutOk (gf22 k) (cf22_l2 k) (theLoop Try.f22 2) ∧ True) = AllP (bodyL (gf22 k) Try.f22) := by kernel_rfl
  exact Eq.mp h (And.intro (of22_l2 k) (trivial))
theorem sf22 : Sound Try.prog glob ef22 := sound_of base (fn := Try.f22) Try.func22 (by kernel_rfl) gf22 (fun _ => ⟨rfl, rfl⟩) (fun k j => trivial) qf22 (fun k v => by kernel_rfl)

/-! laws.heldInt64SS -/
def f26_l2 {ρ : Type} (k : Nat) : Nat → (List (List Int)) → Int → Int → ((((Int × Unit) × Unit) → Option ρ) × (((Int × Unit) × Unit) → Option ρ) × Unit) → Option ρ
  | 0, _, _, _, _ => none
  | j + 1, v10, v11, v12, nx =>
    bif (decide (v12 < (v10.length : Int))) then
      (getI v10 v12).bind fun x13 =>
      (f22 k x13 v11).bind fun x14 =>
      bif (decide (x14.1.1 < 0)) then
        nx.2.1 (((-1), ()), ())
      else
        f26_l2 k j v10 x14.1.1 (wr .i64 (v12 + 1)) nx
    else
      nx.1 ((v11, ()), ())
def cf26_l2 (k : Nat) : Cut := { sp := { temps := [(0, .c (.sl (.sl (.int .i64)))), (1, .c (.int .i64)), (5, .c (.int .i64))], blocks := [], ren := [] }, outs := [(.exit 0, { temps := [(1, .c (.int .i64))], blocks := [], ren := [] }), (.ret, { temps := [(4, .c (.int .i64))], blocks := [], ren := [] })], F := fun ρ j v nx => f26_l2 k j v.1.1 v.1.2.1 v.1.2.2.1 nx }
def f26 (k : Nat) (a1 : (List (List Int))) (a2 : Int) : Option ((Int × Unit) × Unit) :=
  f26_l2 k k a1 a2 0
    (fun x8 : ((Int × Unit) × Unit) =>
      some ((x8.1.1, ()), ()),
    fun x9 : ((Int × Unit) × Unit) =>
      some ((x9.1.1, ()), ()),
    ())
def ef26 : Entry := { id := 26, ar := { temps := [(0, .c (.sl (.sl (.int .i64)))), (1, .c (.int .i64))], blocks := [], ren := [] }, res := { temps := [(0, .c (.int .i64))], blocks := [], ren := [] }, f := fun k v => f26 k v.1.1 v.1.2.1 }
def gf26 (k : Nat) : Full := { tt := tt, n := 21, fns := [ef22], trunc := [], tails := [], touch := [], opens := [], shapes := [], closes := [], k := k, glob := glob, cuts := [(2, (cf26_l2 k))], joins := [] }
theorem of26_l2 (k : Nat) : CutOk (gf26 k) (cf26_l2 k) (theLoop Try.f26 2) := fun ρ v nx => ⟨by kernel_rfl, fun j => by kernel_rfl⟩
theorem qf26 (k : Nat) : AllP (bodyL (gf26 k) Try.f26) := by
  have h : (CutOk (gf26 k) (cf26_l2 k) (theLoop Try.f26 2) ∧ True) = AllP (bodyL (gf26 k) Try.f26) := by kernel_rfl
  exact Eq.mp h (And.intro (of26_l2 k) (trivial))
theorem sf26 : Sound Try.prog glob ef26 := sound_of base (fn := Try.f26) Try.func26 (by kernel_rfl) gf26 (fun _ => ⟨rfl, rfl⟩) (fun k j => ⟨sf22.at j, trivial⟩) qf26 (fun k v => by kernel_rfl)

/-! laws.FnExactSolveRules -/
def f5 (k : Nat) (a1 : (List (Int × ((List Int) × (List Int))))) (a2 : Int) (a3 : Int) (a4 : Int) : Option ((Bool × Unit) × Unit) :=
  (f15 k a1 1048576).bind fun x22 =>
  bif (decide (x22.1.1 < 0)) then
    some ((true, ()), ())
  else
    (f17 k a1).bind fun x23 =>
    (f23 k x23.2.1 a2 a3 a4).bind fun x24 =>
    (f17 k a1).bind fun x25 =>
    (f9 k x25.2.1 a2 a3 a4).bind fun x26 =>
    (f24 k x26.2.1 x24.2.1).bind fun x28 =>
    bif (!x28.1.1) then
      some ((false, ()), ())
    else
      bif (x26.1.2.1 != x24.1.2.1) then
        some ((false, ()), ())
      else
        bif (x26.1.2.2.1 != x24.1.2.2.1) then
          some ((false, ()), ())
        else
          (f17 k a1).bind fun x31 =>
          (f19 k x25.2.1 x31.2.1).bind fun x32 =>
          bif (!x32.1.1) then
            some ((false, ()), ())
          else
            (f20 k 1 x25.2.1).bind fun x33 =>
            bif (decide (x33.1.1 < 0)) then
              some ((false, ()), ())
            else
              (f24 k x26.2.1 x24.2.1).bind fun x35 =>
              bif (!x35.1.1) then
                some ((false, ()), ())
              else
                bif (x26.1.2.1 != x24.1.2.1) then
                  some ((false, ()), ())
                else
                  bif (x26.1.2.2.1 != x24.1.2.2.1) then
                    some ((false, ()), ())
                  else
                    (f25 k 1 x26.2.1).bind fun x36 =>
                    (f26 k x36.2.1 1).bind fun x37 =>
                    bif (decide (x37.1.1 < 0)) then
                      some ((false, ()), ())
                    else
                      bif (x37.1.1 != x36.1.1) then
                        some ((false, ()), ())
                      else
                        (f17 k a1).bind fun x38 =>
                        (f9 k x38.2.1 a2 a3 a4).bind fun x39 =>
                        (f24 k x39.2.1 x24.2.1).bind fun x41 =>
                        bif (!x41.1.1) then
                          some ((false, ()), ())
                        else
                          bif (x39.1.2.1 != x24.1.2.1) then
                            some ((false, ()), ())
                          else
                            bif (x39.1.2.2.1 != x24.1.2.2.1) then
                              some ((false, ()), ())
                            else
                              (f26 k x36.2.1 1).bind fun x42 =>
                              bif (decide (x42.1.1 < 0)) then
                                some ((false, ()), ())
                              else
                                bif (x42.1.1 != x36.1.1) then
                                  some ((false, ()), ())
                                else
                                  some ((true, ()), ())
def ef5 : Entry := { id := 5, ar := { temps := [(0, .c (.sl (.pair (.int .i64) (.pair (.sl (.int .i64)) (.sl (.int .i64)))))), (1, .c (.int .i64)), (2, .c (.int .i64)), (3, .c (.int .i64))], blocks := [], ren := [] }, res := { temps := [(0, .c .bool)], blocks := [], ren := [] }, f := fun k v => f5 k v.1.1 v.1.2.1 v.1.2.2.1 v.1.2.2.2.1 }
def gf5 (k : Nat) : Full := { tt := tt, n := 132, fns := [ef15, ef17, ef23, ef9, ef24, ef19, ef20, ef25, ef26], trunc := [], tails := [], touch := [], opens := [], shapes := [], closes := [], k := k, glob := glob, cuts := [], joins := [] }
theorem qf5 (k : Nat) : AllP (bodyL (gf5 k) Try.f5) := by
  have h : True = AllP (bodyL (gf5 k) Try.f5) := by kernel_rfl
  exact Eq.mp h trivial
theorem sf5 : Sound Try.prog glob ef5 := sound_of base (fn := Try.f5) Try.func5 (by kernel_rfl) gf5 (fun _ => ⟨rfl, rfl⟩) (fun k j => ⟨sf15.at j, sf17.at j, sf23.at j, sf9.at j, sf24.at j, sf19.at j, sf20.at j, sf25.at j, sf26.at j, trivial⟩) qf5 (fun k v => by kernel_rfl)

/-! spec.FirstSolution -/
def f16 (k : Nat) (a1 : (List (Int × ((List Int) × (List Int))))) (a2 : Int) (a3 : Int) : Option ((Unit × Int × Unit) × ((List Int) × Unit)) :=
  (f55 k a1 a2 a3).bind fun x6 =>
  bif (!x6.1.1) then
    some (((), 1, ()), (([] : List Int), ()))
  else
    (f56 k a1 a2 a3 1).bind fun x7 =>
    bif (decide (x7.2.1.2.2.1 > a3)) then
      some (((), 10, ()), (([] : List Int), ()))
    else
      bif ((x7.2.2.1.length : Int) == 0) then
        some (((), 8, ()), (([] : List Int), ()))
      else
        bif decide (0 ≤ 0) && decide (0 < (x7.2.2.1.length : Int)) then
          (x7.2.2.1[0]?).bind fun x8 =>
          some (((), 0, ()), (x8, ()))
        else
          none
def ef16 : Entry := { id := 16, ar := { temps := [(0, .c (.sl (.pair (.int .i64) (.pair (.sl (.int .i64)) (.sl (.int .i64)))))), (1, .c (.int .i64)), (2, .c (.int .i64))], blocks := [], ren := [] }, res := { temps := [(0, .c (.row 4000000)), (1, .c (.int .i64))], blocks := [(4000000, .row 2 (.int .i64))], ren := [] }, f := fun k v => f16 k v.1.1 v.1.2.1 v.1.2.2.1 }
def gf16 (k : Nat) : Full := { tt := tt, n := 36, fns := [ef55, ef56], trunc := [], tails := [], touch := [], opens := [35], shapes := [], closes := [], k := k, glob := glob, cuts := [], joins := [] }
theorem qf16 (k : Nat) : AllP (bodyL (gf16 k) Try.f16) := by
  have h : True = AllP (bodyL (gf16 k) Try.f16) := by kernel_rfl
  exact Eq.mp h trivial
theorem sf16 : Sound Try.prog glob ef16 := sound_of base (fn := Try.f16) Try.func16 (by kernel_rfl) gf16 (fun _ => ⟨rfl, rfl⟩) (fun k j => ⟨sf55.at j, sf56.at j, trivial⟩) qf16 (fun k v => by kernel_rfl)

/-! impl.firstSolution -/
def f53 (k : Nat) (a1 : (List (Int × ((List Int) × (List Int))))) (a2 : Int) (a3 : Int) : Option ((Unit × Int × Unit) × ((List Int) × Unit)) :=
  (f42 k a1 a2 a3 1).bind fun x4 =>
  (f43 k x4.2.2.1.1 x4.2.2.1.2.1 x4.2.2.1.2.2.1 x4.2.2.1.2.2.2.1.2 x4.2.1).bind fun x5 =>
  bif x5.1.1 then
    some (((), 10, ()), (([] : List Int), ()))
  else
    bif ((x5.2.2.2.1.length : Int) == 0) then
      some (((), 8, ()), (([] : List Int), ()))
    else
      bif decide (0 ≤ 0) && decide (0 < (x5.2.2.2.1.length : Int)) then
        (x5.2.2.2.1[0]?).bind fun x6 =>
        some (((), 0, ()), (x6, ()))
      else
        none
def ef53 : Entry := { id := 53, ar := { temps := [(0, .c (.sl (.pair (.int .i64) (.pair (.sl (.int .i64)) (.sl (.int .i64)))))), (1, .c (.int .i64)), (2, .c (.int .i64))], blocks := [], ren := [] }, res := { temps := [(0, .c (.row 4000000)), (1, .c (.int .i64))], blocks := [(4000000, .row 2 (.int .i64))], ren := [] }, f := fun k v => f53 k v.1.1 v.1.2.1 v.1.2.2.1 }
def gf53 (k : Nat) : Full := { tt := tt, n := 27, fns := [ef42, ef43], trunc := [], tails := [], touch := [], opens := [26], shapes := [], closes := [], k := k, glob := glob, cuts := [], joins := [] }
theorem qf53 (k : Nat) : AllP (bodyL (gf53 k) Try.f53) := by
  have h : True = AllP (bodyL (gf53 k) Try.f53) := by kernel_rfl
  exact Eq.mp h trivial
theorem sf53 : Sound Try.prog glob ef53 := sound_of base (fn := Try.f53) Try.func53 (by kernel_rfl) gf53 (fun _ => ⟨rfl, rfl⟩) (fun k j => ⟨sf42.at j, sf43.at j, trivial⟩) qf53 (fun k v => by kernel_rfl)

/-! impl.FirstSolution -/
def f14 (k : Nat) (a1 : (List (Int × ((List Int) × (List Int))))) (a2 : Int) (a3 : Int) : Option ((Unit × Int × Unit) × ((List Int) × Unit)) :=
  (f39 k a1 a2).bind fun x8 =>
  bif (!x8.1.1) then
    some (((), 1, ()), (([] : List Int), ()))
  else
    (f40 k a3).bind fun x9 =>
    bif (!x9.1.1) then
      some (((), 1, ()), (([] : List Int), ()))
    else
      (f53 k a1 a2 a3).bind fun x10 =>
      some (((), x10.1.2.1, ()), (x10.2.1, ()))
def ef14 : Entry := { id := 14, ar := { temps := [(0, .c (.sl (.pair (.int .i64) (.pair (.sl (.int .i64)) (.sl (.int .i64)))))), (1, .c (.int .i64)), (2, .c (.int .i64))], blocks := [], ren := [] }, res := { temps := [(0, .c (.row 4000000)), (1, .c (.int .i64))], blocks := [(4000000, .row 2 (.int .i64))], ren := [] }, f := fun k v => f14 k v.1.1 v.1.2.1 v.1.2.2.1 }
def gf14 (k : Nat) : Full := { tt := tt, n := 23, fns := [ef39, ef40, ef53], trunc := [], tails := [], touch := [], opens := [], shapes := [], closes := [], k := k, glob := glob, cuts := [], joins := [] }
theorem qf14 (k : Nat) : AllP (bodyL (gf14 k) Try.f14) := by
  have h : True = AllP (bodyL (gf14 k) Try.f14) := by kernel_rfl
  exact Eq.mp h trivial
theorem sf14 : Sound Try.prog glob ef14 := sound_of base (fn := Try.f14) Try.func14 (by kernel_rfl) gf14 (fun _ => ⟨rfl, rfl⟩) (fun k j => ⟨sf39.at j, sf40.at j, sf53.at j, trivial⟩) qf14 (fun k v => by kernel_rfl)

/-! laws.FnExactFirstSolution -/
def f4 (k : Nat) (a1 : (List (Int × ((List Int) × (List Int))))) (a2 : Int) (a3 : Int) : Option ((Bool × Unit) × Unit) :=
  (f15 k a1 1048576).bind fun x22 =>
  bif (decide (x22.1.1 < 0)) then
    some ((true, ()), ())
  else
    (f17 k a1).bind fun x23 =>
    (f16 k x23.2.1 a2 a3).bind fun x24 =>
    (f17 k a1).bind fun x25 =>
    (f14 k x25.2.1 a2 a3).bind fun x26 =>
    (f18 k x26.2.1 x24.2.1).bind fun x28 =>
    bif (!x28.1.1) then
      some ((false, ()), ())
    else
      bif (x26.1.2.1 != x24.1.2.1) then
        some ((false, ()), ())
      else
        (f17 k a1).bind fun x31 =>
        (f19 k x25.2.1 x31.2.1).bind fun x32 =>
        bif (!x32.1.1) then
          some ((false, ()), ())
        else
          (f20 k 1 x25.2.1).bind fun x33 =>
          bif (decide (x33.1.1 < 0)) then
            some ((false, ()), ())
          else
            (f18 k x26.2.1 x24.2.1).bind fun x35 =>
            bif (!x35.1.1) then
              some ((false, ()), ())
            else
              bif (x26.1.2.1 != x24.1.2.1) then
                some ((false, ()), ())
              else
                (f21 k 1 x26.2.1).bind fun x36 =>
                (f22 k x36.2.1 1).bind fun x37 =>
                bif (decide (x37.1.1 < 0)) then
                  some ((false, ()), ())
                else
                  bif (x37.1.1 != x36.1.1) then
                    some ((false, ()), ())
                  else
                    (f17 k a1).bind fun x38 =>
                    (f14 k x38.2.1 a2 a3).bind fun x39 =>
                    (f18 k x39.2.1 x24.2.1).bind fun x41 =>
                    bif (!x41.1.1) then
                      some ((false, ()), ())
                    else
                      bif (x39.1.2.1 != x24.1.2.1) then
                        some ((false, ()), ())
                      else
                        (f22 k x36.2.1 1).bind fun x42 =>
                        bif (decide (x42.1.1 < 0)) then
                          some ((false, ()), ())
                        else
                          bif (x42.1.1 != x36.1.1) then
                            some ((false, ()), ())
                          else
                            some ((true, ()), ())
def ef4 : Entry := { id := 4, ar := { temps := [(0, .c (.sl (.pair (.int .i64) (.pair (.sl (.int .i64)) (.sl (.int .i64)))))), (1, .c (.int .i64)), (2, .c (.int .i64))], blocks := [], ren := [] }, res := { temps := [(0, .c .bool)], blocks := [], ren := [] }, f := fun k v => f4 k v.1.1 v.1.2.1 v.1.2.2.1 }
def gf4 (k : Nat) : Full := { tt := tt, n := 106, fns := [ef15, ef17, ef16, ef14, ef18, ef19, ef20, ef21, ef22], trunc := [], tails := [], touch := [], opens := [], shapes := [], closes := [], k := k, glob := glob, cuts := [], joins := [] }
theorem qf4 (k : Nat) : AllP (bodyL (gf4 k) Try.f4) := by
  have h : True = AllP (bodyL (gf4 k) Try.f4) := by kernel_rfl
  exact Eq.mp h trivial
theorem sf4 : Sound Try.prog glob ef4 := sound_of base (fn := Try.f4) Try.func4 (by kernel_rfl) gf4 (fun _ => ⟨rfl, rfl⟩) (fun k j => ⟨sf15.at j, sf17.at j, sf16.at j, sf14.at j, sf18.at j, sf19.at j, sf20.at j, sf21.at j, sf22.at j, trivial⟩) qf4 (fun k v => by kernel_rfl)

/-! spec.l16Refuter).run -/
def f60_l5 {ρ : Type} (self : (List (Int × ((List Int) × (List Int)))) → Int → Int → Int → (List (Int × (Int × (Int × Int)))) → (List Int) → Option (Unit × (((List (Int × ((List Int) × (List Int)))) × Int × Int × Unit × Int × Unit) × (List Int) × (List (Int × (Int × (Int × Int)))) × Unit))) (k : Nat) : Nat → Int → Int → (List (Int × ((List Int) × (List Int)))) → Int → Int → Int → (List Int) → (List (Int × (Int × Int))) → (List (Int × (Int × (Int × Int)))) → ((((Unit × Unit × Int × Unit) × (((List (Int × ((List Int) × (List Int)))) × Int × Int × Unit × Int × Unit) × (List Int) × (List (Int × (Int × (Int × Int)))) × Unit)) → Option ρ) × Unit) → Option ρ
  | 0, _, _, _, _, _, _, _, _, _, _ => none
  | j + 1, v50, v51, v52, v53, v54, v55, v56, v57, v58, nx =>
    bif (decide (v51 < (v57.length : Int))) then
      bif decide (0 ≤ v51) && decide (v51 < (v57.length : Int)) then
        (v57[v51.toNat]?).bind fun x59 =>
        bif decide (0 ≤ v51) && decide (v51 < (v57.length : Int)) then
          (v57[v51.toNat]?).bind fun x60 =>
          bif decide (0 ≤ v51) && decide (v51 < (v57.length : Int)) then
            (v57[v51.toNat]?).bind fun x61 =>
            bif decide ((v58.length + [(2, (x59.2.1, (x60.2.2, x61.1)))].length) * 32 ≤ roomy) then
              f60_l5 self k j v50 (wr .i64 (v51 + 1)) v52 v53 v54 v55 v56 v57 (v58 ++ [(2, (x59.2.1, (x60.2.2, x61.1)))]) nx
            else
              none
          else
            none
        else
          none
      else
        none
    else
      nx.1 (((), (), v50, ()), ((v52, v53, v54, (), v55, ()), v56, v58, ()))
def cf60_l5 (self : (List (Int × ((List Int) × (List Int)))) → Int → Int → Int → (List (Int × (Int × (Int × Int)))) → (List Int) → Option (Unit × (((List (Int × ((List Int) × (List Int)))) × Int × Int × Unit × Int × Unit) × (List Int) × (List (Int × (Int × (Int × Int)))) × Unit))) (k : Nat) : Cut := { sp := { temps := [(0, .c (.lit (.ptr 3000000 0 0 0))), (1, .c (.lit (.row 3000002))), (4, .c (.row 5000000)), (5, .c (.int .i64)), (6, .c (.int .i64))], blocks := [(3000000, .box 91 [(.sl (.pair (.int .i64) (.pair (.sl (.int .i64)) (.sl (.int .i64))))), (.int .i64), (.int .i64), (.row 5000001), (.int .i64)]), (3000002, .row 2 (.int .i64)), (5000000, .row 115 (.pair (.int .i64) (.pair (.int .i64) (.int .i64)))), (5000001, .row 95 (.pair (.int .i64) (.pair (.int .i64) (.pair (.int .i64) (.int .i64)))))], ren := [(3000000, some 3000000), (3000002, some 3000002)] }, outs := [(.exit 0, { temps := [(0, .c (.lit (.ptr 3000000 0 0 0))), (1, .c (.lit (.row 3000002))), (5, .c (.int .i64))], blocks := [(3000000, .box 91 [(.sl (.pair (.int .i64) (.pair (.sl (.int .i64)) (.sl (.int .i64))))), (.int .i64), (.int .i64), (.row 5000000), (.int .i64)]), (3000002, .row 2 (.int .i64)), (5000000, .row 95 (.pair (.int .i64) (.pair (.int .i64) (.pair (.int .i64) (.int .i64)))))], ren := [(3000000, some 3000000), (3000002, some 3000002)] })], F := fun ρ j v nx => f60_l5 self k j v.1.2.2.2.1 v.1.2.2.2.2.1 v.2.1.1 v.2.1.2.1 v.2.1.2.2.1 v.2.1.2.2.2.2.1 v.2.2.1 v.2.2.2.1 v.2.2.2.2.1 nx }
def f60_l15 {ρ : Type} (self : (List (Int × ((List Int) × (List Int)))) → Int → Int → Int → (List (Int × (Int × (Int × Int)))) → (List Int) → Option (Unit × (((List (Int × ((List Int) × (List Int)))) × Int × Int × Unit × Int × Unit) × (List Int) × (List (Int × (Int × (Int × Int)))) × Unit))) (k : Nat) : Nat → Int → Int → (List (Int × ((List Int) × (List Int)))) → Int → Int → Int → (List Int) → (List (Int × (Int × (Int × Int)))) → (((Unit × (((List (Int × ((List Int) × (List Int)))) × Int × Int × Unit × Int × Unit) × (List Int) × (List (Int × (Int × (Int × Int)))) × Unit)) → Option ρ) × Unit) → Option ρ
  | 0, _, _, _, _, _, _, _, _, _ => none
  | j + 1, v62, v63, v64, v65, v66, v67, v68, v69, nx =>
    bif (decide (v63 ≥ (-1))) then
      bif (v67 == 0) then
        (f85 k v68).bind fun x70 =>
        bif decide (0 ≤ v62) && decide (v62 < (x70.2.1.length : Int)) then
          (x70.2.1[v62.toNat]?).bind fun _ =>
          (self v64 v65 v66 v67 v69 (x70.2.1.set v62.toNat v63)).bind fun x72 =>
          f60_l15 self k j v62 (wr .i64 (v63 - 2)) x72.2.1.1 x72.2.1.2.1 x72.2.1.2.2.1 x72.2.1.2.2.2.2.1 v68 x72.2.2.2.1 nx
        else
          none
      else
        nx.1 ((), ((v64, v65, v66, (), v67, ()), v68, v69, ()))
    else
      nx.1 ((), ((v64, v65, v66, (), v67, ()), v68, v69, ()))
def cf60_l15 (self : (List (Int × ((List Int) × (List Int)))) → Int → Int → Int → (List (Int × (Int × (Int × Int)))) → (List Int) → Option (Unit × (((List (Int × ((List Int) × (List Int)))) × Int × Int × Unit × Int × Unit) × (List Int) × (List (Int × (Int × (Int × Int)))) × Unit))) (k : Nat) : Cut := { sp := { temps := [(0, .c (.lit (.ptr 3000000 0 0 0))), (1, .c (.lit (.row 3000002))), (7, .c (.int .i64)), (8, .c (.int .i64))], blocks := [(3000000, .box 91 [(.sl (.pair (.int .i64) (.pair (.sl (.int .i64)) (.sl (.int .i64))))), (.int .i64), (.int .i64), (.row 5000000), (.int .i64)]), (3000002, .row 2 (.int .i64)), (5000000, .row 95 (.pair (.int .i64) (.pair (.int .i64) (.pair (.int .i64) (.int .i64)))))], ren := [(3000000, some 3000000), (3000002, some 3000002)] }, outs := [(.exit 2, { temps := [], blocks := [(3000000, .box 91 [(.sl (.pair (.int .i64) (.pair (.sl (.int .i64)) (.sl (.int .i64))))), (.int .i64), (.int .i64), (.row 5000000), (.int .i64)]), (3000002, .row 2 (.int .i64)), (5000000, .row 95 (.pair (.int .i64) (.pair (.int .i64) (.pair (.int .i64) (.int .i64)))))], ren := [(3000000, some 3000000), (3000002, some 3000002)] })], F := fun ρ j v nx => f60_l15 self k j v.1.2.2.1 v.1.2.2.2.1 v.2.1.1 v.2.1.2.1 v.2.1.2.2.1 v.2.1.2.2.2.2.1 v.2.2.1 v.2.2.2.1 nx }
def f60 : Nat → (List (Int × ((List Int) × (List Int)))) → Int → Int → Int → (List (Int × (Int × (Int × Int)))) → (List Int) → Option (Unit × (((List (Int × ((List Int) × (List Int)))) × Int × Int × Unit × Int × Unit) × (List Int) × (List (Int × (Int × (Int × Int)))) × Unit))
  | 0, _, _, _, _, _, _ => none
  | k + 1, a1, a2, a3, a4, a5, a6 =>
    bif (decide ((wr .i64 (a3 + 1)) > a2)) then
      some ((), ((a1, a2, (wr .i64 (a3 + 1)), (), 10, ()), a6, a5, ()))
    else
      (f83 k a1 a6).bind fun x43 =>
      f60_l5 (f60 k) k k x43.1.2.1 0 a1 a2 (wr .i64 (a3 + 1)) a4 x43.2.1 x43.2.2.1 a5
        (fun x45 : ((Unit × Unit × Int × Unit) × (((List (Int × ((List Int) × (List Int)))) × Int × Int × Unit × Int × Unit) × (List Int) × (List (Int × (Int × (Int × Int)))) × Unit)) =>
          bif (decide (x45.1.2.2.1 ≥ 0)) then
            bif decide ((x45.2.2.2.1.length + [(3, (0, (0, x45.1.2.2.1)))].length) * 32 ≤ roomy) then
              let x47 : (List (Int × (Int × (Int × Int)))) := (x45.2.2.2.1 ++ [(3, (0, (0, x45.1.2.2.1)))])
              some ((), ((x45.2.1.1, x45.2.1.2.1, x45.2.1.2.2.1, (), x45.2.1.2.2.2.2.1, ()), x45.2.2.1, x47, ()))
            else
              none
          else
            (f84 k x45.2.2.1).bind fun x48 =>
            bif (decide (x48.1.1 < 0)) then
              some ((), ((x45.2.1.1, x45.2.1.2.1, x45.2.1.2.2.1, (), 6, ()), x45.2.2.1, x45.2.2.2.1, ()))
            else
              bif decide ((x45.2.2.2.1.length + [(1, (x48.1.1, (0, 0)))].length) * 32 ≤ roomy) then
                f60_l15 (f60 k) k k x48.1.1 1 x45.2.1.1 x45.2.1.2.1 x45.2.1.2.2.1 x45.2.1.2.2.2.2.1 x45.2.2.1 (x45.2.2.2.1 ++ [(1, (x48.1.1, (0, 0)))])
                  (fun x49 : (Unit × (((List (Int × ((List Int) × (List Int)))) × Int × Int × Unit × Int × Unit) × (List Int) × (List (Int × (Int × (Int × Int)))) × Unit)) =>
                    some ((), ((x49.2.1.1, x49.2.1.2.1, x49.2.1.2.2.1, (), x49.2.1.2.2.2.2.1, ()), x49.2.2.1, x49.2.2.2.1, ())),
                  ())
              else
                none,
        ())
def ef60 : Entry := { id := 60, ar := { temps := [(0, .c (.box 3000000)), (1, .c (.row 3000002))], blocks := [(3000000, .box 91 [(.sl (.pair (.int .i64) (.pair (.sl (.int .i64)) (.sl (.int .i64))))), (.int .i64), (.int .i64), (.row 3000001), (.int .i64)]), (3000001, .row 95 (.pair (.int .i64) (.pair (.int .i64) (.pair (.int .i64) (.int .i64))))), (3000002, .row 2 (.int .i64))], ren := [] }, res := { temps := [], blocks := [(3000000, .box 91 [(.sl (.pair (.int .i64) (.pair (.sl (.int .i64)) (.sl (.int .i64))))), (.int .i64), (.int .i64), (.row 4000000), (.int .i64)]), (3000002, .row 2 (.int .i64)), (4000000, .row 95 (.pair (.int .i64) (.pair (.int .i64) (.pair (.int .i64) (.int .i64)))))], ren := [(3000000, some 3000000), (3000002, some 3000002)] }, f := fun k v => f60 k v.2.1.1 v.2.1.2.1 v.2.1.2.2.1 v.2.1.2.2.2.2.1 v.2.2.1 v.2.2.2.1 }
def gf60 (k : Nat) : Full := { tt := tt, n := 120, fns := [ef83, ef84, ef85, ef60], trunc := [], tails := [], touch := [(7, [(22, [5000001]), (25, [3000000])])], opens := [], shapes := [], closes := [], k := k, glob := glob, cuts := [(5, (cf60_l5 (f60 k) k)), (15, (cf60_l15 (f60 k) k))], joins := [] }
theorem of60_l5 (k : Nat) : CutOk (gf60 k) (cf60_l5 (f60 k) k) (theLoop Try.f60 5) := fun ρ v nx => ⟨by kernel_rfl, fun j => by kernel_rfl⟩
theorem of60_l15 (k : Nat) : CutOk (gf60 k) (cf60_l15 (f60 k) k) (theLoop Try.f60 15) := fun ρ v nx => ⟨by kernel_rfl, fun j => by kernel_rfl⟩
theorem qf60 (k : Nat) : AllP (bodyL (gf60 k) Try.f60) := by
  have h : (CutOk (gf60 k) (cf60_l5 (f60 k) k) (theLoop Try.f60 5) ∧ CutOk (gf60 k) (cf60_l15 (f60 k) k) (theLoop Try.f60 15) ∧ True) = AllP (bodyL (gf60 k) Try.f60) := by kernel_rfl
  exact Eq.mp h (And.intro (of60_l5 k) (And.intro (of60_l15 k) (trivial)))
theorem sf60 : Sound Try.prog glob ef60 := sound_rec base (fn := Try.f60) Try.func60 (by kernel_rfl) gf60 (fun _ => ⟨rfl, rfl, rfl⟩) (fun k j h => ⟨sf83.at j, sf84.at j, sf85.at j, h, trivial⟩) qf60 (fun v => by kernel_rfl) (fun k v => by kernel_rfl)

/-! spec.Refute -/
def f27 (k : Nat) (a1 : (List (Int × ((List Int) × (List Int))))) (a2 : Int) (a3 : Int) : Option ((Unit × Int × Unit) × ((List (Int × (Int × (Int × Int)))) × Unit)) :=
  (f55 k a1 a2 a3).bind fun x5 =>
  bif (!x5.1.1) then
    some (((), 1, ()), (([] : List (Int × (Int × (Int × Int)))), ()))
  else
    bif decide (a2 = a2) && decide (0 ≤ a2) && decide (a2 * 8 ≤ roomy) then
      (f60 k a1 a3 0 0 ([] : List (Int × (Int × (Int × Int)))) (List.replicate a2.toNat 0)).bind fun x6 =>
      bif (x6.2.1.2.2.2.2.1 != 0) then
        some (((), x6.2.1.2.2.2.2.1, ()), (([] : List (Int × (Int × (Int × Int)))), ()))
      else
        bif (decide ((x6.2.2.2.1.length : Int) > 4000)) then
          some (((), 5, ()), (([] : List (Int × (Int × (Int × Int)))), ()))
        else
          some (((), 0, ()), (x6.2.2.2.1, ()))
    else
      none
def ef27 : Entry := { id := 27, ar := { temps := [(0, .c (.sl (.pair (.int .i64) (.pair (.sl (.int .i64)) (.sl (.int .i64)))))), (1, .c (.int .i64)), (2, .c (.int .i64))], blocks := [], ren := [] }, res := { temps := [(0, .c (.row 4000000)), (1, .c (.int .i64))], blocks := [(4000000, .row 95 (.pair (.int .i64) (.pair (.int .i64) (.pair (.int .i64) (.int .i64)))))], ren := [] }, f := fun k v => f27 k v.1.1 v.1.2.1 v.1.2.2.1 }
def gf27 (k : Nat) : Full := { tt := tt, n := 41, fns := [ef55, ef60], trunc := [], tails := [], touch := [], opens := [], shapes := [], closes := [], k := k, glob := glob, cuts := [], joins := [] }
theorem qf27 (k : Nat) : AllP (bodyL (gf27 k) Try.f27) := by
  have h : True = AllP (bodyL (gf27 k) Try.f27) := by kernel_rfl
  exact Eq.mp h trivial
theorem sf27 : Sound Try.prog glob ef27 := sound_of base (fn := Try.f27) Try.func27 (by kernel_rfl) gf27 (fun _ => ⟨rfl, rfl⟩) (fun k j => ⟨sf55.at j, sf60.at j, trivial⟩) qf27 (fun k v => by kernel_rfl)

/-! impl.refute$1 -/
def f86 (k : Nat) (a1 : Int) (a2 : Int) (a3 : Int) (a4 : Int) (a5 : (List (Int × (Int × (Int × Int))))) : Option (Unit × ((Unit × Unit) × (List (Int × (Int × (Int × Int)))) × Unit)) :=
  bif decide ((a5.length + [(a1, (a2, (a3, a4)))].length) * 32 ≤ roomy) then
    some ((), (((), ()), (a5 ++ [(a1, (a2, (a3, a4)))]), ()))
  else
    none
def ef86 : Entry := { id := 86, ar := { temps := [(0, .agg [(.int .i64), (.int .i64), (.int .i64), (.int .i64)]), (1, .c (.box 3000000))], blocks := [(3000000, .box 45 [(.row 3000001)]), (3000001, .row 95 (.pair (.int .i64) (.pair (.int .i64) (.pair (.int .i64) (.int .i64)))))], ren := [] }, res := { temps := [], blocks := [(3000000, .box 45 [(.row 4000000)]), (4000000, .row 95 (.pair (.int .i64) (.pair (.int .i64) (.pair (.int .i64) (.int .i64)))))], ren := [(3000000, some 3000000)] }, f := fun k v => f86 k v.1.1.1 v.1.1.2.1 v.1.1.2.2.1 v.1.1.2.2.2.1 v.2.2.1 }
def gf86 (k : Nat) : Full := { tt := tt, n := 7, fns := [], trunc := [], tails := [], touch := [], opens := [], shapes := [], closes := [], k := k, glob := glob, cuts := [], joins := [] }
theorem qf86 (k : Nat) : AllP (bodyL (gf86 k) Try.f86) := by
  have h : True = AllP (bodyL (gf86 k) Try.f86) := by kernel_rfl
  exact Eq.mp h trivial
theorem sf86 : Sound Try.prog glob ef86 := sound_of base (fn := Try.f86) Try.func86 (by kernel_rfl) gf86 (fun _ => ⟨rfl, rfl⟩) (fun k j => trivial) qf86 (fun k v => by kernel_rfl)

/-! impl.solver).search$1 -/
def f101a (k : Nat) (a1 : Int) (a2 : Int) (a3 : Int) (a4 : (List (Int × ((List Int) × (List Int))))) (a5 : Int) (a6 : Int) (a7 : Bool) (a8 : (List (Int × (Int × (Int × Int))))) : Option (Unit × ((Unit × Unit) × ((List (Int × ((List Int) × (List Int)))) × Int × Int × (Unit × Unit) × (Unit × Unit) × Unit) × (Bool × Unit) × (Unit × Unit) × (List (Int × (Int × (Int × Int)))) × Unit)) :=
  (f86 k 2 a1 a2 a3 a8).bind fun x2 =>
  some ((), (((), ()), (a4, a5, a6, ((), ()), ((), ()), ()), (a7, ()), ((), ()), x2.2.2.1, ()))
def ef101a : Entry := { id := 101, ar := { temps := [(0, .c (.int .i64)), (1, .c (.int .i64)), (2, .c (.int .i64)), (3, .c (.box 3000000))], blocks := [(3000000, .box 66 [(.box 3000001)]), (3000001, .box 73 [(.sl (.pair (.int .i64) (.pair (.sl (.int .i64)) (.sl (.int .i64))))), (.int .i64), (.int .i64), (.cap (.lit (.fn 87)) (.box 3000002)), (.cap (.lit (.fn 86)) (.box 3000003))]), (3000002, .box 4 [.bool]), (3000003, .box 45 [(.row 3000004)]), (3000004, .row 95 (.pair (.int .i64) (.pair (.int .i64) (.pair (.int .i64) (.int .i64)))))], ren := [] }, res := { temps := [], blocks := [(3000000, .box 66 [(.lit (.ptr 3000001 0 0 0))]), (3000001, .box 73 [(.sl (.pair (.int .i64) (.pair (.sl (.int .i64)) (.sl (.int .i64))))), (.int .i64), (.int .i64), (.cap (.lit (.fn 87)) (.lit (.ptr 3000002 0 0 0))), (.cap (.lit (.fn 86)) (.lit (.ptr 3000003 0 0 0)))]), (3000002, .box 4 [.bool]), (3000003, .box 45 [(.row 4000000)]), (4000000, .row 95 (.pair (.int .i64) (.pair (.int .i64) (.pair (.int .i64) (.int .i64)))))], ren := [(3000000, some 3000000), (3000001, some 3000001), (3000002, some 3000002), (3000003, some 3000003)] }, f := fun k v => f101a k v.1.1 v.1.2.1 v.1.2.2.1 v.2.2.1.1 v.2.2.1.2.1 v.2.2.1.2.2.1 v.2.2.2.1.1 v.2.2.2.2.2.1 }
def gf101a (k : Nat) : Full := { tt := tt, n := 16, fns := [ef86], trunc := [], tails := [], touch := [], opens := [], shapes := [], closes := [], k := k, glob := glob, cuts := [], joins := [] }
theorem qf101a (k : Nat) : AllP (bodyL (gf101a k) Try.f101) := by
  have h : True = AllP (bodyL (gf101a k) Try.f101) := by kernel_rfl
  exact Eq.mp h trivial
theorem sf101a : Sound Try.prog glob ef101a := sound_of base (fn := Try.f101) Try.func101 (by kernel_rfl) gf101a (fun _ => ⟨rfl, rfl⟩) (fun k j => ⟨sf86.at j, trivial⟩) qf101a (fun k v => by kernel_rfl)

/-! impl.propagate -/
def f100a_l5 {ρ : Type} (k : Nat) : Nat → (List (Int × ((List Int) × (List Int)))) → Bool → (List (Int × ((List Int) × (List Int)))) → Int → Int → (List Int) → (List (Int × ((List Int) × (List Int)))) → Int → Int → Bool → (List (Int × (Int × (Int × Int)))) → (((((List (Int × ((List Int) × (List Int)))) × Unit × (Unit × Unit) × Bool × Unit) × ((List Int) × (Unit × Unit) × ((List (Int × ((List Int) × (List Int)))) × Int × Int × (Unit × Unit) × (Unit × Unit) × Unit) × (Bool × Unit) × (Unit × Unit) × (List (Int × (Int × (Int × Int)))) × Unit)) → Option ρ) × (((Int × Unit) × ((List Int) × (Unit × Unit) × ((List (Int × ((List Int) × (List Int)))) × Int × Int × (Unit × Unit) × (Unit × Unit) × Unit) × (Bool × Unit) × (Unit × Unit) × (List (Int × (Int × (Int × Int)))) × Unit)) → Option ρ) × Unit) → Option ρ
  | 0, _, _, _, _, _, _, _, _, _, _, _, _ => none
  | j + 1, v76, v77, v78, v79, v80, v81, v82, v83, v84, v85, v86, nx =>
    bif (decide (v80 < v79)) then
      (getI v78 v80).bind fun x87 =>
      (f52 k x87.1 x87.2.1 x87.2.2 v81).bind fun x89 =>
      bif (decide (x89.1.1 < 0)) then
        nx.2.1 ((v80, ()), (v81, ((), ()), (v82, v83, v84, ((), ()), ((), ()), ()), (v85, ()), ((), ()), v86, ()))
      else
        (f103 k x87.1 x87.2.1 x87.2.2 v81).bind fun x90 =>
        bif x90.1.2.2.1 then
          bif decide (0 ≤ x90.1.1) && decide (x90.1.1 < (x90.2.1.length : Int)) then
            (x90.2.1[x90.1.1.toNat]?).bind fun _ =>
            (f101a k x90.1.1 x90.1.2.1 v80 v82 v83 v84 v85 v86).bind fun x92 =>
            f100a_l5 k j v76 true v78 v79 (wr .i64 (v80 + 1)) (x90.2.1.set x90.1.1.toNat x90.1.2.1) x92.2.2.1.1 x92.2.2.1.2.1 x92.2.2.1.2.2.1 x92.2.2.2.1.1 x92.2.2.2.2.2.1 nx
          else
            none
        else
          f100a_l5 k j v76 v77 v78 v79 (wr .i64 (v80 + 1)) x90.2.1 v82 v83 v84 v85 v86 nx
    else
      nx.1 ((v76, (), ((), ()), v77, ()), (v81, ((), ()), (v82, v83, v84, ((), ()), ((), ()), ()), (v85, ()), ((), ()), v86, ()))
def cf100a_l5 (k : Nat) : Cut := { sp := { temps := [(0, .c (.sl (.pair (.int .i64) (.pair (.sl (.int .i64)) (.sl (.int .i64)))))), (1, .c (.lit (.row 3000000))), (2, .c (.cap (.lit (.fn 101)) (.lit (.ptr 3000001 0 0 0)))), (7, .c .bool), (14, .c (.sl (.pair (.int .i64) (.pair (.sl (.int .i64)) (.sl (.int .i64)))))), (15, .c (.int .i64)), (16, .c (.int .i64))], blocks := [(3000000, .row 2 (.int .i64)), (3000001, .box 66 [(.lit (.ptr 3000002 0 0 0))]), (3000002, .box 73 [(.sl (.pair (.int .i64) (.pair (.sl (.int .i64)) (.sl (.int .i64))))), (.int .i64), (.int .i64), (.cap (.lit (.fn 87)) (.lit (.ptr 3000003 0 0 0))), (.cap (.lit (.fn 86)) (.lit (.ptr 3000004 0 0 0)))]), (3000003, .box 4 [.bool]), (3000004, .box 45 [(.row 5000000)]), (5000000, .row 95 (.pair (.int .i64) (.pair (.int .i64) (.pair (.int .i64) (.int .i64)))))], ren := [(3000000, some 3000000), (3000001, some 3000001), (3000002, some 3000002), (3000003, some 3000003), (3000004, some 3000004)] }, outs := [(.exit 2, { temps := [(0, .c (.sl (.pair (.int .i64) (.pair (.sl (.int .i64)) (.sl (.int .i64)))))), (1, .c (.lit (.row 3000000))), (2, .c (.cap (.lit (.fn 101)) (.lit (.ptr 3000001 0 0 0)))), (7, .c .bool)], blocks := [(3000000, .row 2 (.int .i64)), (3000001, .box 66 [(.lit (.ptr 3000002 0 0 0))]), (3000002, .box 73 [(.sl (.pair (.int .i64) (.pair (.sl (.int .i64)) (.sl (.int .i64))))), (.int .i64), (.int .i64), (.cap (.lit (.fn 87)) (.lit (.ptr 3000003 0 0 0))), (.cap (.lit (.fn 86)) (.lit (.ptr 3000004 0 0 0)))]), (3000003, .box 4 [.bool]), (3000004, .box 45 [(.row 5000000)]), (5000000, .row 95 (.pair (.int .i64) (.pair (.int .i64) (.pair (.int .i64) (.int .i64)))))], ren := [(3000000, some 3000000), (3000001, some 3000001), (3000002, some 3000002), (3000003, some 3000003), (3000004, some 3000004)] }), (.ret, { temps := [(6, .c (.int .i64))], blocks := [(3000000, .row 2 (.int .i64)), (3000001, .box 66 [(.lit (.ptr 3000002 0 0 0))]), (3000002, .box 73 [(.sl (.pair (.int .i64) (.pair (.sl (.int .i64)) (.sl (.int .i64))))), (.int .i64), (.int .i64), (.cap (.lit (.fn 87)) (.lit (.ptr 3000003 0 0 0))), (.cap (.lit (.fn 86)) (.lit (.ptr 3000004 0 0 0)))]), (3000003, .box 4 [.bool]), (3000004, .box 45 [(.row 5000000)]), (5000000, .row 95 (.pair (.int .i64) (.pair (.int .i64) (.pair (.int .i64) (.int .i64)))))], ren := [(3000000, some 3000000), (3000001, some 3000001), (3000002, some 3000002), (3000003, some 3000003), (3000004, some 3000004)] })], F := fun ρ j v nx => f100a_l5 k j v.1.1 v.1.2.2.2.1 v.1.2.2.2.2.1 v.1.2.2.2.2.2.1 v.1.2.2.2.2.2.2.1 v.2.1 v.2.2.2.1.1 v.2.2.2.1.2.1 v.2.2.2.1.2.2.1 v.2.2.2.2.1.1 v.2.2.2.2.2.2.1 nx }
def f100a_l2 {ρ : Type} (k : Nat) : Nat → (List (Int × ((List Int) × (List Int)))) → Bool → (List Int) → (List (Int × ((List Int) × (List Int)))) → Int → Int → Bool → (List (Int × (Int × (Int × Int)))) → (((Unit × ((List Int) × (Unit × Unit) × ((List (Int × ((List Int) × (List Int)))) × Int × Int × (Unit × Unit) × (Unit × Unit) × Unit) × (Bool × Unit) × (Unit × Unit) × (List (Int × (Int × (Int × Int)))) × Unit)) → Option ρ) × (((Int × Unit) × ((List Int) × (Unit × Unit) × ((List (Int × ((List Int) × (List Int)))) × Int × Int × (Unit × Unit) × (Unit × Unit) × Unit) × (Bool × Unit) × (Unit × Unit) × (List (Int × (Int × (Int × Int)))) × Unit)) → Option ρ) × Unit) → Option ρ
  | 0, _, _, _, _, _, _, _, _, _ => none
  | j + 1, v93, v94, v95, v96, v97, v98, v99, v100, nx =>
    bif v94 then
      f100a_l5 k k v93 false v93 (v93.length : Int) 0 v95 v96 v97 v98 v99 v100
        (fun x101 : (((List (Int × ((List Int) × (List Int)))) × Unit × (Unit × Unit) × Bool × Unit) × ((List Int) × (Unit × Unit) × ((List (Int × ((List Int) × (List Int)))) × Int × Int × (Unit × Unit) × (Unit × Unit) × Unit) × (Bool × Unit) × (Unit × Unit) × (List (Int × (Int × (Int × Int)))) × Unit)) =>
          f100a_l2 k j x101.1.1 x101.1.2.2.2.1 x101.2.1 x101.2.2.2.1.1 x101.2.2.2.1.2.1 x101.2.2.2.1.2.2.1 x101.2.2.2.2.1.1 x101.2.2.2.2.2.2.1 nx,
        fun x102 : ((Int × Unit) × ((List Int) × (Unit × Unit) × ((List (Int × ((List Int) × (List Int)))) × Int × Int × (Unit × Unit) × (Unit × Unit) × Unit) × (Bool × Unit) × (Unit × Unit) × (List (Int × (Int × (Int × Int)))) × Unit)) =>
          nx.2.1 ((x102.1.1, ()), (x102.2.1, ((), ()), (x102.2.2.2.1.1, x102.2.2.2.1.2.1, x102.2.2.2.1.2.2.1, ((), ()), ((), ()), ()), (x102.2.2.2.2.1.1, ()), ((), ()), x102.2.2.2.2.2.2.1, ())),
        ())
    else
      nx.1 ((), (v95, ((), ()), (v96, v97, v98, ((), ()), ((), ()), ()), (v99, ()), ((), ()), v100, ()))
def cf100a_l2 (k : Nat) : Cut := { sp := { temps := [(0, .c (.sl (.pair (.int .i64) (.pair (.sl (.int .i64)) (.sl (.int .i64)))))), (1, .c (.lit (.row 3000000))), (2, .c (.cap (.lit (.fn 101)) (.lit (.ptr 3000001 0 0 0)))), (7, .c .bool)], blocks := [(3000000, .row 2 (.int .i64)), (3000001, .box 66 [(.lit (.ptr 3000002 0 0 0))]), (3000002, .box 73 [(.sl (.pair (.int .i64) (.pair (.sl (.int .i64)) (.sl (.int .i64))))), (.int .i64), (.int .i64), (.cap (.lit (.fn 87)) (.lit (.ptr 3000003 0 0 0))), (.cap (.lit (.fn 86)) (.lit (.ptr 3000004 0 0 0)))]), (3000003, .box 4 [.bool]), (3000004, .box 45 [(.row 5000000)]), (5000000, .row 95 (.pair (.int .i64) (.pair (.int .i64) (.pair (.int .i64) (.int .i64)))))], ren := [(3000000, some 3000000), (3000001, some 3000001), (3000002, some 3000002), (3000003, some 3000003), (3000004, some 3000004)] }, outs := [(.exit 0, { temps := [], blocks := [(3000000, .row 2 (.int .i64)), (3000001, .box 66 [(.lit (.ptr 3000002 0 0 0))]), (3000002, .box 73 [(.sl (.pair (.int .i64) (.pair (.sl (.int .i64)) (.sl (.int .i64))))), (.int .i64), (.int .i64), (.cap (.lit (.fn 87)) (.lit (.ptr 3000003 0 0 0))), (.cap (.lit (.fn 86)) (.lit (.ptr 3000004 0 0 0)))]), (3000003, .box 4 [.bool]), (3000004, .box 45 [(.row 5000000)]), (5000000, .row 95 (.pair (.int .i64) (.pair (.int .i64) (.pair (.int .i64) (.int .i64)))))], ren := [(3000000, some 3000000), (3000001, some 3000001), (3000002, some 3000002), (3000003, some 3000003), (3000004, some 3000004)] }), (.ret, { temps := [(6, .c (.int .i64))], blocks := [(3000000, .row 2 (.int .i64)), (3000001, .box 66 [(.lit (.ptr 3000002 0 0 0))]), (3000002, .box 73 [(.sl (.pair (.int .i64) (.pair (.sl (.int .i64)) (.sl (.int .i64))))), (.int .i64), (.int .i64), (.cap (.lit (.fn 87)) (.lit (.ptr 3000003 0 0 0))), (.cap (.lit (.fn 86)) (.lit (.ptr 3000004 0 0 0)))]), (3000003, .box 4 [.bool]), (3000004, .box 45 [(.row 5000000)]), (5000000, .row 95 (.pair (.int .i64) (.pair (.int .i64) (.pair (.int .i64) (.int .i64)))))], ren := [(3000000, some 3000000), (3000001, some 3000001), (3000002, some 3000002), (3000003, some 3000003), (3000004, some 3000004)] })], F := fun ρ j v nx => f100a_l2 k j v.1.1 v.1.2.2.2.1 v.2.1 v.2.2.2.1.1 v.2.2.2.1.2.1 v.2.2.2.1.2.2.1 v.2.2.2.2.1.1 v.2.2.2.2.2.2.1 nx }
def f100a (k : Nat) (a1 : (List (Int × ((List Int) × (List Int))))) (a2 : (List Int)) (a3 : (List (Int × ((List Int) × (List Int))))) (a4 : Int) (a5 : Int) (a6 : Bool) (a7 : (List (Int × (Int × (Int × Int))))) : Option ((Int × Unit) × ((List Int) × (Unit × Unit) × ((List (Int × ((List Int) × (List Int)))) × Int × Int × (Unit × Unit) × (Unit × Unit) × Unit) × (Bool × Unit) × (Unit × Unit) × (List (Int × (Int × (Int × Int)))) × Unit)) :=
  f100a_l2 k k a1 true a2 a3 a4 a5 a6 a7
    (fun x74 : (Unit × ((List Int) × (Unit × Unit) × ((List (Int × ((List Int) × (List Int)))) × Int × Int × (Unit × Unit) × (Unit × Unit) × Unit) × (Bool × Unit) × (Unit × Unit) × (List (Int × (Int × (Int × Int)))) × Unit)) =>
      some (((-1), ()), (x74.2.1, ((), ()), (x74.2.2.2.1.1, x74.2.2.2.1.2.1, x74.2.2.2.1.2.2.1, ((), ()), ((), ()), ()), (x74.2.2.2.2.1.1, ()), ((), ()), x74.2.2.2.2.2.2.1, ())),
    fun x75 : ((Int × Unit) × ((List Int) × (Unit × Unit) × ((List (Int × ((List Int) × (List Int)))) × Int × Int × (Unit × Unit) × (Unit × Unit) × Unit) × (Bool × Unit) × (Unit × Unit) × (List (Int × (Int × (Int × Int)))) × Unit)) =>
      some ((x75.1.1, ()), (x75.2.1, ((), ()), (x75.2.2.2.1.1, x75.2.2.2.1.2.1, x75.2.2.2.1.2.2.1, ((), ()), ((), ()), ()), (x75.2.2.2.2.1.1, ()), ((), ()), x75.2.2.2.2.2.2.1, ())),
    ())
def ef100a : Entry := { id := 100, ar := { temps := [(0, .c (.sl (.pair (.int .i64) (.pair (.sl (.int .i64)) (.sl (.int .i64)))))), (1, .c (.row 3000000)), (2, .c (.cap (.lit (.fn 101)) (.box 3000001)))], blocks := [(3000000, .row 2 (.int .i64)), (3000001, .box 66 [(.box 3000002)]), (3000002, .box 73 [(.sl (.pair (.int .i64) (.pair (.sl (.int .i64)) (.sl (.int .i64))))), (.int .i64), (.int .i64), (.cap (.lit (.fn 87)) (.box 3000003)), (.cap (.lit (.fn 86)) (.box 3000004))]), (3000003, .box 4 [.bool]), (3000004, .box 45 [(.row 3000005)]), (3000005, .row 95 (.pair (.int .i64) (.pair (.int .i64) (.pair (.int .i64) (.int .i64)))))], ren := [] }, res := { temps := [(0, .c (.int .i64))], blocks := [(3000000, .row 2 (.int .i64)), (3000001, .box 66 [(.lit (.ptr 3000002 0 0 0))]), (3000002, .box 73 [(.sl (.pair (.int .i64) (.pair (.sl (.int .i64)) (.sl (.int .i64))))), (.int .i64), (.int .i64), (.cap (.lit (.fn 87)) (.lit (.ptr 3000003 0 0 0))), (.cap (.lit (.fn 86)) (.lit (.ptr 3000004 0 0 0)))]), (3000003, .box 4 [.bool]), (3000004, .box 45 [(.row 4000000)]), (4000000, .row 95 (.pair (.int .i64) (.pair (.int .i64) (.pair (.int .i64) (.int .i64)))))], ren := [(3000000, some 3000000), (3000001, some 3000001), (3000002, some 3000002), (3000003, some 3000003), (3000004, some 3000004)] }, f := fun k v => f100a k v.1.1 v.2.1 v.2.2.2.1.1 v.2.2.2.1.2.1 v.2.2.2.1.2.2.1 v.2.2.2.2.1.1 v.2.2.2.2.2.2.1 }
def gf100a (k : Nat) : Full := { tt := tt, n := 44, fns := [ef52, ef103, ef101a], trunc := [], tails := [], touch := [], opens := [], shapes := [], closes := [], k := k, glob := glob, cuts := [(5, (cf100a_l5 k)), (2, (cf100a_l2 k))], joins := [] }
theorem of100a_l5 (k : Nat) : CutOk (gf100a k) (cf100a_l5 k) (theLoop Try.f100 5) := fun ρ v nx => ⟨by kernel_rfl, fun j => by kernel_rfl⟩
theorem of100a_l2 (k : Nat) : CutOk (gf100a k) (cf100a_l2 k) (theLoop Try.f100 2) := fun ρ v nx => ⟨by kernel_rfl, fun j => by kernel_rfl⟩
theorem qf100a (k : Nat) : AllP (bodyL (gf100a k) Try.f100) := by
  have h : (CutOk (gf100a k) (cf100a_l5 k) (theLoop Try.f100 5) ∧ CutOk (gf100a k) (cf100a_l2 k) (theLoop Try.f100 2) ∧ True) = AllP (bodyL (gf100a k) Try.f100) := by kernel_rfl
  exact Eq.mp h (And.intro (of100a_l5 k) (And.intro (of100a_l2 k) (trivial)))
theorem sf100a : Sound Try.prog glob ef100a := sound_of base (fn := Try.f100) Try.func100 (by kernel_rfl) gf100a (fun _ => ⟨rfl, rfl⟩) (fun k j => ⟨sf52.at j, sf103.at j, sf101a.at j, trivial⟩) qf100a (fun k v => by kernel_rfl)

/-! impl.refute$2 -/
def f87 (k : Nat) (a1 : (List Int)) (a2 : Bool) : Option ((Bool × Unit) × ((Bool × Unit) × Unit)) :=
  some ((false, ()), ((true, ()), ()))
def ef87 : Entry := { id := 87, ar := { temps := [(0, .c (.sl (.int .i64))), (1, .c (.box 3000000))], blocks := [(3000000, .box 4 [.bool])], ren := [] }, res := { temps := [(0, .c .bool)], blocks := [(3000000, .box 4 [.bool])], ren := [(3000000, some 3000000)] }, f := fun k v => f87 k v.1.1 v.2.1.1 }
def gf87 (k : Nat) : Full := { tt := tt, n := 4, fns := [], trunc := [], tails := [], touch := [], opens := [], shapes := [], closes := [], k := k, glob := glob, cuts := [], joins := [] }
theorem qf87 (k : Nat) : AllP (bodyL (gf87 k) Try.f87) := by
  have h : True = AllP (bodyL (gf87 k) Try.f87) := by kernel_rfl
  exact Eq.mp h trivial
theorem sf87 : Sound Try.prog glob ef87 := sound_of base (fn := Try.f87) Try.func87 (by kernel_rfl) gf87 (fun _ => ⟨rfl, rfl⟩) (fun k j => trivial) qf87 (fun k v => by kernel_rfl)

end Go.Proofs.Ytiilgicmdnllbaa.R
