/- Plain twins of functions, with their contracts. Printed by a program of this session. -/
import Derived.Test.YtcijmfodhdigpaaR1F0
set_option linter.unusedVariables false
namespace Go.Proofs.Ytcijmfodhdigpaa.R
open Go.Proofs.Ytcijmfodhdigpaa.R1
/-! impl.Point] -/
def f35 (k : Nat) (a1 : (List ((Int × (Int × Int)) × (Int × (Int × Int))))) : Option (Unit × ((List ((Int × (Int × Int)) × (Int × (Int × Int)))) × Unit)) :=
  (f49 k (wr .u64 (a1.length : Int))).bind fun x3 =>
  (f48 k 0 (a1.length : Int) x3.1.1 a1).bind fun x4 =>
  some ((), (x4.2.1, ()))
def ef35 : Entry := { id := 35, ar := { temps := [(0, .c (.row 3000000)), (1, .c (.lit (.fn 36)))], blocks := [(3000000, .row 44 (.pair (.pair (.int .i64) (.pair (.int .i64) (.int .i64))) (.pair (.int .i64) (.pair (.int .i64) (.int .i64)))))], ren := [] }, res := { temps := [], blocks := [(3000000, .row 44 (.pair (.pair (.int .i64) (.pair (.int .i64) (.int .i64))) (.pair (.int .i64) (.pair (.int .i64) (.int .i64)))))], ren := [(3000000, some 3000000)] }, f := fun k v => f35 k v.2.1 }
def gf35 (k : Nat) : Full := { tt := tt, n := 14, fns := [ef49, ef48], trunc := [], tails := [], k := k, glob := glob, cuts := [], joins := [] }
theorem qf35 (k : Nat) : AllP (bodyL (gf35 k) Try.f35) := by
  have h : True = AllP (bodyL (gf35 k) Try.f35) := by kernel_rfl
  exact Eq.mp h trivial
theorem sf35 : Sound Try.prog glob ef35 := sound_of base (fn := Try.f35) Try.func35 (by kernel_rfl) gf35 (fun _ => ⟨rfl, rfl⟩) (fun k j => ⟨sf49.at j, sf48.at j, trivial⟩) qf35 (fun k v => by kernel_rfl)

/-! impl.Point] -/
def f37_l9 {ρ : Type} (k : Nat) : Nat → Int → Int → Nat → (List ((Int × (Int × Int)) × (Int × (Int × Int)))) → ((((Unit × Int × Unit) × ((List ((Int × (Int × Int)) × (Int × (Int × Int)))) × Unit)) → Option ρ) × Unit) → Option ρ
  | 0, _, _, _, _, _ => none
  | j + 1, v24, v25, v26, v27, nx =>
    let x29 : Bool := (decide (v25 < ((v27.length - v26 : Nat) : Int)))
    bif x29 then
      bif decide (0 ≤ v25) && decide (v25 < ((v27.length - v26 : Nat) : Int)) then
        (v27[(v26 + v25.toNat)]?).bind fun x30 =>
        bif decide (0 ≤ (wr .i64 (v25 - 1))) && decide ((wr .i64 (v25 - 1)) < ((v27.length - v26 : Nat) : Int)) then
          (v27[(v26 + (wr .i64 (v25 - 1)).toNat)]?).bind fun x31 =>
          let x32 : Bool := (!(((x30.1.1 == x31.1.1) && ((x30.1.2.1 == x31.1.2.1) && ((x30.1.2.2 == x31.1.2.2) && true))) && (((x30.2.1 == x31.2.1) && ((x30.2.2.1 == x31.2.2.1) && ((x30.2.2.2 == x31.2.2.2) && true))) && true)))
          bif x32 then
            bif decide (0 ≤ v25) && decide (v25 < ((v27.length - v26 : Nat) : Int)) then
              (v27[(v26 + v25.toNat)]?).bind fun x33 =>
              bif decide (0 ≤ v24) && decide (v24 < (v27.length : Int)) then
                (v27[v24.toNat]?).bind fun _ =>
                f37_l9 k j (wr .i64 (v24 + 1)) (wr .i64 (v25 + 1)) v26 (v27.set v24.toNat x33) nx
              else
                none
            else
              none
          else
            f37_l9 k j v24 (wr .i64 (v25 + 1)) v26 v27 nx
        else
          none
      else
        none
    else
      nx.1 (((), v24, ()), (v27, ()))
def cf37_l9 (k : Nat) : Cut := { sp := { temps := [(0, .c (.lit (.row 3000000))), (3, .c (.int .i64)), (5, .c (.int .i64)), (4, .c (.tail 3000000 6))], blocks := [(3000000, .row 44 (.pair (.pair (.int .i64) (.pair (.int .i64) (.int .i64))) (.pair (.int .i64) (.pair (.int .i64) (.int .i64)))))], ren := [(3000000, some 3000000)] }, outs := [(.exit 2, { temps := [(0, .c (.lit (.row 3000000))), (3, .c (.int .i64))], blocks := [(3000000, .row 44 (.pair (.pair (.int .i64) (.pair (.int .i64) (.int .i64))) (.pair (.int .i64) (.pair (.int .i64) (.int .i64)))))], ren := [(3000000, some 3000000)] })], F := fun ρ j v nx => f37_l9 k j v.1.2.1 v.1.2.2.1 v.1.2.2.2.1 v.2.1 nx }
def f37_l4 {ρ : Type} (k : Nat) : Nat → Int → (List ((Int × (Int × Int)) × (Int × (Int × Int)))) → ((((Unit × Unit) × ((List ((Int × (Int × Int)) × (Int × (Int × Int)))) × Unit)) → Option ρ) × (((Unit × Unit) × ((List ((Int × (Int × Int)) × (Int × (Int × Int)))) × Unit)) → Option ρ) × Unit) → Option ρ
  | 0, _, _, _ => none
  | j + 1, v35, v36, nx =>
    bif (decide (v35 < (v36.length : Int))) then
      bif decide (0 ≤ v35) && decide (v35 < (v36.length : Int)) then
        (v36[v35.toNat]?).bind fun x37 =>
        bif decide (0 ≤ (wr .i64 (v35 - 1))) && decide ((wr .i64 (v35 - 1)) < (v36.length : Int)) then
          (v36[(wr .i64 (v35 - 1)).toNat]?).bind fun x38 =>
          let x39 : Bool := (((x37.1.1 == x38.1.1) && ((x37.1.2.1 == x38.1.2.1) && ((x37.1.2.2 == x38.1.2.2) && true))) && (((x37.2.1 == x38.2.1) && ((x37.2.2.1 == x38.2.2.1) && ((x37.2.2.2 == x38.2.2.2) && true))) && true))
          bif x39 then
            bif decide (0 ≤ v35) && decide (v35 ≤ (v36.length : Int)) then
              f37_l9 k k v35 1 v35.toNat v36
                (fun x41 : ((Unit × Int × Unit) × ((List ((Int × (Int × Int)) × (Int × (Int × Int)))) × Unit)) =>
                  bif decide (0 ≤ x41.1.2.1) && decide (x41.1.2.1 ≤ (x41.2.1.length : Int)) then
                    let x42 : (List ((Int × (Int × Int)) × (Int × (Int × Int)))) := (clearFrom x41.2.1 x41.1.2.1.toNat ((0, (0, 0)), (0, (0, 0))))
                    bif decide (0 ≤ x41.1.2.1) && decide (x41.1.2.1 ≤ (x42.length : Int)) then
                      nx.2.1 (((), ()), ((x42.take x41.1.2.1.toNat), ()))
                    else
                      none
                  else
                    none,
                ())
            else
              none
          else
            f37_l4 k j (wr .i64 (v35 + 1)) v36 nx
        else
          none
      else
        none
    else
      nx.1 (((), ()), (v36, ()))
def cf37_l4 (k : Nat) : Cut := { sp := { temps := [(0, .c (.lit (.row 3000000))), (3, .c (.int .i64))], blocks := [(3000000, .row 44 (.pair (.pair (.int .i64) (.pair (.int .i64) (.int .i64))) (.pair (.int .i64) (.pair (.int .i64) (.int .i64)))))], ren := [(3000000, some 3000000)] }, outs := [(.exit 0, { temps := [(0, .c (.lit (.row 3000000)))], blocks := [(3000000, .row 44 (.pair (.pair (.int .i64) (.pair (.int .i64) (.int .i64))) (.pair (.int .i64) (.pair (.int .i64) (.int .i64)))))], ren := [(3000000, some 3000000)] }), (.ret, { temps := [(2, .c (.row 5000000))], blocks := [(5000000, .row 44 (.pair (.pair (.int .i64) (.pair (.int .i64) (.int .i64))) (.pair (.int .i64) (.pair (.int .i64) (.int .i64)))))], ren := [] })], F := fun ρ j v nx => f37_l4 k j v.1.2.1 v.2.1 nx }
def f37 (k : Nat) (a1 : (List ((Int × (Int × Int)) × (Int × (Int × Int))))) : Option ((Unit × Unit) × ((List ((Int × (Int × Int)) × (Int × (Int × Int)))) × Unit)) :=
  bif (decide ((a1.length : Int) < 2)) then
    some (((), ()), (a1, ()))
  else
    f37_l4 k k 1 a1
      (fun x22 : ((Unit × Unit) × ((List ((Int × (Int × Int)) × (Int × (Int × Int)))) × Unit)) =>
        some (((), ()), (x22.2.1, ())),
      fun x23 : ((Unit × Unit) × ((List ((Int × (Int × Int)) × (Int × (Int × Int)))) × Unit)) =>
        some (((), ()), (x23.2.1, ())),
      ())
def ef37 : Entry := { id := 37, ar := { temps := [(0, .c (.row 3000000))], blocks := [(3000000, .row 44 (.pair (.pair (.int .i64) (.pair (.int .i64) (.int .i64))) (.pair (.int .i64) (.pair (.int .i64) (.int .i64)))))], ren := [] }, res := { temps := [(0, .c (.row 4000000))], blocks := [(4000000, .row 44 (.pair (.pair (.int .i64) (.pair (.int .i64) (.int .i64))) (.pair (.int .i64) (.pair (.int .i64) (.int .i64)))))], ren := [] }, f := fun k v => f37 k v.2.1 }
def gf37 (k : Nat) : Full := { tt := tt, n := 61, fns := [], trunc := [59], tails := [28, 56], k := k, glob := glob, cuts := [(9, (cf37_l9 k)), (4, (cf37_l4 k))], joins := [] }
theorem of37_l9 (k : Nat) : CutOk (gf37 k) (cf37_l9 k) (theLoop Try.f37 9) := fun ρ v nx => ⟨by kernel_rfl, fun j => by kernel_rfl⟩
theorem of37_l4 (k : Nat) : CutOk (gf37 k) (cf37_l4 k) (theLoop Try.f37 4) := fun ρ v nx => ⟨by kernel_rfl, fun j => by kernel_rfl⟩
theorem qf37 (k : Nat) : AllP (bodyL (gf37 k) Try.f37) := by
  have h : (CutOk (gf37 k) (cf37_l9 k) (theLoop Try.f37 9) ∧ CutOk (gf37 k) (cf37_l4 k) (theLoop Try.f37 4) ∧ True) = AllP (bodyL (gf37 k) Try.f37) := by kernel_rfl
  exact Eq.mp h (And.intro (of37_l9 k) (And.intro (of37_l4 k) (trivial)))
theorem sf37 : Sound Try.prog glob ef37 := sound_of base (fn := Try.f37) Try.func37 (by kernel_rfl) gf37 (fun _ => ⟨rfl, rfl⟩) (fun k j => trivial) qf37 (fun k v => by kernel_rfl)

/-! impl.Point] -/
def f38_l2 {ρ : Type} (k : Nat) : Nat → (List ((Int × (Int × Int)) × (Int × (Int × Int)))) → Int → Int → Int → Int → Int → Int → Int → Int → (((Unit × Unit) → Option ρ) × (((Int × Unit) × Unit) → Option ρ) × Unit) → Option ρ
  | 0, _, _, _, _, _, _, _, _, _, _ => none
  | j + 1, v16, v17, v18, v19, v20, v21, v22, v23, v24, nx =>
    bif (decide (v18 < v17)) then
      (getI v16 v18).bind fun x25 =>
      let x26 : Bool := (((v19 == x25.1.1) && ((v20 == x25.1.2.1) && ((v21 == x25.1.2.2) && true))) && (((v22 == x25.2.1) && ((v23 == x25.2.2.1) && ((v24 == x25.2.2.2) && true))) && true))
      bif x26 then
        nx.2.1 ((v18, ()), ())
      else
        f38_l2 k j v16 v17 (wr .i64 (v18 + 1)) v19 v20 v21 v22 v23 v24 nx
    else
      nx.1 ((), ())
def cf38_l2 (k : Nat) : Cut := { sp := { temps := [(0, .c (.sl (.pair (.pair (.int .i64) (.pair (.int .i64) (.int .i64))) (.pair (.int .i64) (.pair (.int .i64) (.int .i64)))))), (3, .c (.box 5000000)), (7, .c (.int .i64)), (8, .c (.int .i64))], blocks := [(5000000, .box 44 [(.int .i64), (.int .i64), (.int .i64), (.int .i64), (.int .i64), (.int .i64)])], ren := [] }, outs := [(.exit 0, { temps := [], blocks := [], ren := [] }), (.ret, { temps := [(4, .c (.int .i64))], blocks := [], ren := [] })], F := fun ρ j v nx => f38_l2 k j v.1.1 v.1.2.2.1 v.1.2.2.2.1 v.2.1.1 v.2.1.2.1 v.2.1.2.2.1 v.2.1.2.2.2.1 v.2.1.2.2.2.2.1 v.2.1.2.2.2.2.2.1 nx }
def f38 (k : Nat) (a1 : (List ((Int × (Int × Int)) × (Int × (Int × Int))))) (a2 : Int) (a3 : Int) (a4 : Int) (a5 : Int) (a6 : Int) (a7 : Int) : Option ((Int × Unit) × Unit) :=
  f38_l2 k k a1 (a1.length : Int) 0 a2 a3 a4 a5 a6 a7
    (fun x14 : (Unit × Unit) =>
      some (((-1), ()), ()),
    fun x15 : ((Int × Unit) × Unit) =>
      some ((x15.1.1, ()), ()),
    ())
def ef38 : Entry := { id := 38, ar := { temps := [(0, .c (.sl (.pair (.pair (.int .i64) (.pair (.int .i64) (.int .i64))) (.pair (.int .i64) (.pair (.int .i64) (.int .i64)))))), (1, .agg [(.int .i64), (.int .i64), (.int .i64), (.int .i64), (.int .i64), (.int .i64)])], blocks := [], ren := [] }, res := { temps := [(0, .c (.int .i64))], blocks := [], ren := [] }, f := fun k v => f38 k v.1.1 v.1.2.1.1 v.1.2.1.2.1 v.1.2.1.2.2.1 v.1.2.1.2.2.2.1 v.1.2.1.2.2.2.2.1 v.1.2.1.2.2.2.2.2.1 }
def gf38 (k : Nat) : Full := { tt := tt, n := 19, fns := [], trunc := [], tails := [], k := k, glob := glob, cuts := [(2, (cf38_l2 k))], joins := [] }
theorem of38_l2 (k : Nat) : CutOk (gf38 k) (cf38_l2 k) (theLoop Try.f38 2) := fun ρ v nx => ⟨by kernel_rfl, fun j => by kernel_rfl⟩
theorem qf38 (k : Nat) : AllP (bodyL (gf38 k) Try.f38) := by
  have h : (CutOk (gf38 k) (cf38_l2 k) (theLoop Try.f38 2) ∧ True) = AllP (bodyL (gf38 k) Try.f38) := by kernel_rfl
  exact Eq.mp h (And.intro (of38_l2 k) (trivial))
theorem sf38 : Sound Try.prog glob ef38 := sound_of base (fn := Try.f38) Try.func38 (by kernel_rfl) gf38 (fun _ => ⟨rfl, rfl⟩) (fun k j => trivial) qf38 (fun k v => by kernel_rfl)

/-! cmp.isNaN[int64] -/
def f51 (k : Nat) (a1 : Int) : Option ((Bool × Unit) × Unit) :=
  some (((a1 != a1), ()), ())
def ef51 : Entry := { id := 51, ar := { temps := [(0, .c (.int .i64))], blocks := [], ren := [] }, res := { temps := [(0, .c .bool)], blocks := [], ren := [] }, f := fun k v => f51 k v.1.1 }
def gf51 (k : Nat) : Full := { tt := tt, n := 6, fns := [], trunc := [], tails := [], k := k, glob := glob, cuts := [], joins := [] }
theorem qf51 (k : Nat) : AllP (bodyL (gf51 k) Try.f51) := by
  have h : True = AllP (bodyL (gf51 k) Try.f51) := by kernel_rfl
  exact Eq.mp h trivial
theorem sf51 : Sound Try.prog glob ef51 := sound_of base (fn := Try.f51) Try.func51 (by kernel_rfl) gf51 (fun _ => ⟨rfl, rfl⟩) (fun k j => trivial) qf51 (fun k v => by kernel_rfl)

/-! cmp.Compare[int64] -/
def f42 (k : Nat) (a1 : Int) (a2 : Int) : Option ((Int × Unit) × Unit) :=
  (f51 k a1).bind fun x3 =>
  (f51 k a2).bind fun x4 =>
  bif x3.1.1 then
    bif x4.1.1 then
      some ((0, ()), ())
    else
      some (((-1), ()), ())
  else
    bif x4.1.1 then
      some ((1, ()), ())
    else
      bif (decide (a1 < a2)) then
        some (((-1), ()), ())
      else
        bif (decide (a1 > a2)) then
          some ((1, ()), ())
        else
          some ((0, ()), ())
def ef42 : Entry := { id := 42, ar := { temps := [(0, .c (.int .i64)), (1, .c (.int .i64))], blocks := [], ren := [] }, res := { temps := [(0, .c (.int .i64))], blocks := [], ren := [] }, f := fun k v => f42 k v.1.1 v.1.2.1 }
def gf42 (k : Nat) : Full := { tt := tt, n := 20, fns := [ef51], trunc := [], tails := [], k := k, glob := glob, cuts := [], joins := [] }
theorem qf42 (k : Nat) : AllP (bodyL (gf42 k) Try.f42) := by
  have h : True = AllP (bodyL (gf42 k) Try.f42) := by kernel_rfl
  exact Eq.mp h trivial
theorem sf42 : Sound Try.prog glob ef42 := sound_of base (fn := Try.f42) Try.func42 (by kernel_rfl) gf42 (fun _ => ⟨rfl, rfl⟩) (fun k j => ⟨sf51.at j, trivial⟩) qf42 (fun k v => by kernel_rfl)

/-! cmp.Or[int] -/
def f41_l3 {ρ : Type} (k : Nat) : Nat → Int → (List Int) → Int → Int → ((((Int × Unit) × Unit) → Option ρ) × (((Int × Unit) × Unit) → Option ρ) × Unit) → Option ρ
  | 0, _, _, _, _, _ => none
  | j + 1, v10, v11, v12, v13, nx =>
    bif (decide (v13 < v12)) then
      (getI v11 v13).bind fun x14 =>
      bif (x14 != v10) then
        nx.2.1 ((x14, ()), ())
      else
        f41_l3 k j v10 v11 v12 (wr .i64 (v13 + 1)) nx
    else
      nx.1 ((v10, ()), ())
def cf41_l3 (k : Nat) : Cut := { sp := { temps := [(3, .c (.int .i64)), (6, .c (.sl (.int .i64))), (7, .c (.int .i64)), (8, .c (.int .i64))], blocks := [], ren := [] }, outs := [(.exit 0, { temps := [(3, .c (.int .i64))], blocks := [], ren := [] }), (.ret, { temps := [(2, .c (.int .i64))], blocks := [], ren := [] })], F := fun ρ j v nx => f41_l3 k j v.1.1 v.1.2.1 v.1.2.2.1 v.1.2.2.2.1 nx }
def f41 (k : Nat) (a1 : (List Int)) : Option ((Int × Unit) × Unit) :=
  f41_l3 k k 0 a1 (a1.length : Int) 0
    (fun x8 : ((Int × Unit) × Unit) =>
      some ((x8.1.1, ()), ()),
    fun x9 : ((Int × Unit) × Unit) =>
      some ((x9.1.1, ()), ()),
    ())
def ef41 : Entry := { id := 41, ar := { temps := [(0, .c (.sl (.int .i64)))], blocks := [], ren := [] }, res := { temps := [(0, .c (.int .i64))], blocks := [], ren := [] }, f := fun k v => f41 k v.1.1 }
def gf41 (k : Nat) : Full := { tt := tt, n := 18, fns := [], trunc := [], tails := [], k := k, glob := glob, cuts := [(3, (cf41_l3 k))], joins := [] }
theorem of41_l3 (k : Nat) : CutOk (gf41 k) (cf41_l3 k) (theLoop Try.f41 3) := fun ρ v nx => ⟨by kernel_rfl, fun j => by kernel_rfl⟩
theorem qf41 (k : Nat) : AllP (bodyL (gf41 k) Try.f41) := by
  have h : (CutOk (gf41 k) (cf41_l3 k) (theLoop Try.f41 3) ∧ True) = AllP (bodyL (gf41 k) Try.f41) := by kernel_rfl
  exact Eq.mp h (And.intro (of41_l3 k) (trivial))
theorem sf41 : Sound Try.prog glob ef41 := sound_of base (fn := Try.f41) Try.func41 (by kernel_rfl) gf41 (fun _ => ⟨rfl, rfl⟩) (fun k j => trivial) qf41 (fun k v => by kernel_rfl)

/-! impl.patternOf$2 -/
def f40 (k : Nat) (a1 : Int) (a2 : Int) (a3 : Int) (a4 : Int) (a5 : Int) (a6 : Int) : Option ((Int × Unit) × Unit) :=
  (f42 k a1 a4).bind fun x4 =>
  (f42 k a2 a5).bind fun x5 =>
  (f41 k ([x4.1.1, x5.1.1])).bind fun x6 =>
  some ((x6.1.1, ()), ())
def ef40 : Entry := { id := 40, ar := { temps := [(0, .agg [(.int .i64), (.int .i64), (.int .i64)]), (1, .agg [(.int .i64), (.int .i64), (.int .i64)])], blocks := [], ren := [] }, res := { temps := [(0, .c (.int .i64))], blocks := [], ren := [] }, f := fun k v => f40 k v.1.1.1 v.1.1.2.1 v.1.1.2.2.1 v.1.2.1.1 v.1.2.1.2.1 v.1.2.1.2.2.1 }
def gf40 (k : Nat) : Full := { tt := tt, n := 17, fns := [ef42, ef41], trunc := [], tails := [], k := k, glob := glob, cuts := [], joins := [] }
theorem qf40 (k : Nat) : AllP (bodyL (gf40 k) Try.f40) := by
  have h : True = AllP (bodyL (gf40 k) Try.f40) := by kernel_rfl
  exact Eq.mp h trivial
theorem sf40 : Sound Try.prog glob ef40 := sound_of base (fn := Try.f40) Try.func40 (by kernel_rfl) gf40 (fun _ => ⟨rfl, rfl⟩) (fun k j => ⟨sf42.at j, sf41.at j, trivial⟩) qf40 (fun k v => by kernel_rfl)

/-! impl.Crease] -/
def f67_l4 {ρ : Type} (k : Nat) : Nat → Int → Int → Int → Int → (List (Int × (Int × Int))) → ((((Unit × Int × Int × Unit × Int × Unit) × ((List (Int × (Int × Int))) × Unit)) → Option ρ) × Unit) → Option ρ
  | 0, _, _, _, _, _, _ => none
  | j + 1, v24, v25, v26, v27, v28, nx =>
    bif (decide (v27 > v24)) then
      bif decide (0 ≤ v27) && decide (v27 < (v28.length : Int)) then
        (v28[v27.toNat]?).bind fun x32 =>
        bif decide (0 ≤ (wr .i64 (v27 - 1))) && decide ((wr .i64 (v27 - 1)) < (v28.length : Int)) then
          (v28[(wr .i64 (v27 - 1)).toNat]?).bind fun x33 =>
          (f40 k x32.1 x32.2.1 x32.2.2 x33.1 x33.2.1 x33.2.2).bind fun x34 =>
          bif (decide (x34.1.1 < 0)) then
            bif decide (0 ≤ (wr .i64 (v27 - 1))) && decide ((wr .i64 (v27 - 1)) < (v28.length : Int)) then
              (v28[(wr .i64 (v27 - 1)).toNat]?).bind fun x35 =>
              bif decide (0 ≤ v27) && decide (v27 < (v28.length : Int)) then
                (v28[v27.toNat]?).bind fun x36 =>
                bif decide (0 ≤ v27) && decide (v27 < (v28.length : Int)) then
                  (v28[v27.toNat]?).bind fun _ =>
                  bif decide (0 ≤ (wr .i64 (v27 - 1))) && decide ((wr .i64 (v27 - 1)) < ((v28.set v27.toNat x35).length : Int)) then
                    ((v28.set v27.toNat x35)[(wr .i64 (v27 - 1)).toNat]?).bind fun _ =>
                    let x39 : (List (Int × (Int × Int))) := ((v28.set v27.toNat x35).set (wr .i64 (v27 - 1)).toNat x36)
                    f67_l4 k j v24 v25 v26 (wr .i64 (v27 - 1)) x39 nx
                  else
                    none
                else
                  none
              else
                none
            else
              none
          else
            nx.1 (((), v24, v25, (), v26, ()), (v28, ()))
        else
          none
      else
        none
    else
      nx.1 (((), v24, v25, (), v26, ()), (v28, ()))
def cf67_l4 (k : Nat) : Cut := { sp := { temps := [(0, .c (.lit (.row 3000000))), (1, .c (.int .i64)), (2, .c (.int .i64)), (3, .c (.lit (.fn 40))), (8, .c (.int .i64)), (9, .c (.int .i64))], blocks := [(3000000, .row 59 (.pair (.int .i64) (.pair (.int .i64) (.int .i64))))], ren := [(3000000, some 3000000)] }, outs := [(.exit 2, { temps := [(0, .c (.lit (.row 3000000))), (1, .c (.int .i64)), (2, .c (.int .i64)), (3, .c (.lit (.fn 40))), (8, .c (.int .i64))], blocks := [(3000000, .row 59 (.pair (.int .i64) (.pair (.int .i64) (.int .i64))))], ren := [(3000000, some 3000000)] })], F := fun ρ j v nx => f67_l4 k j v.1.2.1 v.1.2.2.1 v.1.2.2.2.2.1 v.1.2.2.2.2.2.1 v.2.1 nx }
def f67_l1 {ρ : Type} (k : Nat) : Nat → Int → Int → Int → (List (Int × (Int × Int))) → (((Unit × ((List (Int × (Int × Int))) × Unit)) → Option ρ) × Unit) → Option ρ
  | 0, _, _, _, _, _ => none
  | j + 1, v40, v41, v42, v43, nx =>
    bif (decide (v42 < v41)) then
      f67_l4 k k v40 v41 v42 v42 v43
        (fun x44 : ((Unit × Int × Int × Unit × Int × Unit) × ((List (Int × (Int × Int))) × Unit)) =>
          f67_l1 k j x44.1.2.1 x44.1.2.2.1 (wr .i64 (x44.1.2.2.2.2.1 + 1)) x44.2.1 nx,
        ())
    else
      nx.1 ((), (v43, ()))
def cf67_l1 (k : Nat) : Cut := { sp := { temps := [(0, .c (.lit (.row 3000000))), (1, .c (.int .i64)), (2, .c (.int .i64)), (3, .c (.lit (.fn 40))), (8, .c (.int .i64))], blocks := [(3000000, .row 59 (.pair (.int .i64) (.pair (.int .i64) (.int .i64))))], ren := [(3000000, some 3000000)] }, outs := [(.exit 0, { temps := [], blocks := [(3000000, .row 59 (.pair (.int .i64) (.pair (.int .i64) (.int .i64))))], ren := [(3000000, some 3000000)] })], F := fun ρ j v nx => f67_l1 k j v.1.2.1 v.1.2.2.1 v.1.2.2.2.2.1 v.2.1 nx }
def f67 (k : Nat) (a1 : Int) (a2 : Int) (a3 : (List (Int × (Int × Int)))) : Option (Unit × ((List (Int × (Int × Int))) × Unit)) :=
  f67_l1 k k a1 a2 (wr .i64 (a1 + 1)) a3
    (fun x23 : (Unit × ((List (Int × (Int × Int))) × Unit)) =>
      some ((), (x23.2.1, ())),
    ())
def ef67 : Entry := { id := 67, ar := { temps := [(0, .c (.row 3000000)), (1, .c (.int .i64)), (2, .c (.int .i64)), (3, .c (.lit (.fn 40)))], blocks := [(3000000, .row 59 (.pair (.int .i64) (.pair (.int .i64) (.int .i64))))], ren := [] }, res := { temps := [], blocks := [(3000000, .row 59 (.pair (.int .i64) (.pair (.int .i64) (.int .i64))))], ren := [(3000000, some 3000000)] }, f := fun k v => f67 k v.1.2.1 v.1.2.2.1 v.2.1 }
def gf67 (k : Nat) : Full := { tt := tt, n := 53, fns := [ef40], trunc := [], tails := [], k := k, glob := glob, cuts := [(4, (cf67_l4 k)), (1, (cf67_l1 k))], joins := [] }
theorem of67_l4 (k : Nat) : CutOk (gf67 k) (cf67_l4 k) (theLoop Try.f67 4) := fun ρ v nx => ⟨by kernel_rfl, fun j => by kernel_rfl⟩
theorem of67_l1 (k : Nat) : CutOk (gf67 k) (cf67_l1 k) (theLoop Try.f67 1) := fun ρ v nx => ⟨by kernel_rfl, fun j => by kernel_rfl⟩
theorem qf67 (k : Nat) : AllP (bodyL (gf67 k) Try.f67) := by
  have h : (CutOk (gf67 k) (cf67_l4 k) (theLoop Try.f67 4) ∧ CutOk (gf67 k) (cf67_l1 k) (theLoop Try.f67 1) ∧ True) = AllP (bodyL (gf67 k) Try.f67) := by kernel_rfl
  exact Eq.mp h (And.intro (of67_l4 k) (And.intro (of67_l1 k) (trivial)))
theorem sf67 : Sound Try.prog glob ef67 := sound_of base (fn := Try.f67) Try.func67 (by kernel_rfl) gf67 (fun _ => ⟨rfl, rfl⟩) (fun k j => ⟨sf40.at j, trivial⟩) qf67 (fun k v => by kernel_rfl)

/-! impl.Crease] -/
def f86_j5 {ρ : Type} (k : Nat) (v66 : Int) (v67 : Int) (v68 : Int) (v69 : Int) (v70 : (List (Int × (Int × Int)))) (nx : ((((Unit × Int × Int × Unit × Int × Unit) × ((List (Int × (Int × Int))) × Unit)) → Option ρ) × ((Unit × ((List (Int × (Int × Int))) × Unit)) → Option ρ) × Unit)) : Option ρ :=
  bif decide (0 ≤ (wr .i64 (v67 + v68))) && decide ((wr .i64 (v67 + v68)) < (v70.length : Int)) then
    (v70[(wr .i64 (v67 + v68)).toNat]?).bind fun x74 =>
    bif decide (0 ≤ (wr .i64 (v67 + v69))) && decide ((wr .i64 (v67 + v69)) < (v70.length : Int)) then
      (v70[(wr .i64 (v67 + v69)).toNat]?).bind fun x75 =>
      (f40 k x74.1 x74.2.1 x74.2.2 x75.1 x75.2.1 x75.2.2).bind fun x76 =>
      bif (!(decide (x76.1.1 < 0))) then
        nx.2.1 ((), (v70, ()))
      else
        bif decide (0 ≤ (wr .i64 (v67 + v69))) && decide ((wr .i64 (v67 + v69)) < (v70.length : Int)) then
          (v70[(wr .i64 (v67 + v69)).toNat]?).bind fun x77 =>
          bif decide (0 ≤ (wr .i64 (v67 + v68))) && decide ((wr .i64 (v67 + v68)) < (v70.length : Int)) then
            (v70[(wr .i64 (v67 + v68)).toNat]?).bind fun x78 =>
            bif decide (0 ≤ (wr .i64 (v67 + v68))) && decide ((wr .i64 (v67 + v68)) < (v70.length : Int)) then
              (v70[(wr .i64 (v67 + v68)).toNat]?).bind fun _ =>
              bif decide (0 ≤ (wr .i64 (v67 + v69))) && decide ((wr .i64 (v67 + v69)) < ((v70.set (wr .i64 (v67 + v68)).toNat x77).length : Int)) then
                ((v70.set (wr .i64 (v67 + v68)).toNat x77)[(wr .i64 (v67 + v69)).toNat]?).bind fun _ =>
                let x81 : (List (Int × (Int × Int))) := ((v70.set (wr .i64 (v67 + v68)).toNat x77).set (wr .i64 (v67 + v69)).toNat x78)
                nx.1 (((), v66, v67, (), v69, ()), (x81, ()))
              else
                none
            else
              none
          else
            none
        else
          none
    else
      none
  else
    none
def cf86_j5 : Cut := { sp := { temps := [(0, .c (.lit (.row 3000000))), (2, .c (.int .i64)), (3, .c (.int .i64)), (4, .c (.lit (.fn 40))), (10, .c (.int .i64)), (11, .c (.int .i64))], blocks := [(3000000, .row 59 (.pair (.int .i64) (.pair (.int .i64) (.int .i64))))], ren := [(3000000, some 3000000)] }, outs := [(.normal, { temps := [(0, .c (.lit (.row 3000000))), (2, .c (.int .i64)), (3, .c (.int .i64)), (4, .c (.lit (.fn 40))), (10, .c (.int .i64))], blocks := [(3000000, .row 59 (.pair (.int .i64) (.pair (.int .i64) (.int .i64))))], ren := [(3000000, some 3000000)] }), (.ret, { temps := [], blocks := [(3000000, .row 59 (.pair (.int .i64) (.pair (.int .i64) (.int .i64))))], ren := [(3000000, some 3000000)] })], F := fun ρ k v nx => f86_j5 k v.1.2.1 v.1.2.2.1 v.1.2.2.2.2.1 v.1.2.2.2.2.2.1 v.2.1 nx }
def f86_l1 {ρ : Type} (k : Nat) : Nat → Int → Int → Int → (List (Int × (Int × Int))) → (((Unit × ((List (Int × (Int × Int))) × Unit)) → Option ρ) × ((Unit × ((List (Int × (Int × Int))) × Unit)) → Option ρ) × Unit) → Option ρ
  | 0, _, _, _, _, _ => none
  | j + 1, v47, v48, v49, v50, nx =>
    let x52 : Bool := (decide ((wr .i64 ((wr .i64 (2 * v49)) + 1)) ≥ v47))
    bif x52 then
      nx.1 ((), (v50, ()))
    else
      let x53 : Int := (wr .i64 ((wr .i64 ((wr .i64 (2 * v49)) + 1)) + 1))
      bif (decide (x53 < v47)) then
        let x54 : Int := (wr .i64 (v48 + (wr .i64 ((wr .i64 (2 * v49)) + 1))))
        bif decide (0 ≤ x54) && decide (x54 < (v50.length : Int)) then
          (v50[x54.toNat]?).bind fun x55 =>
          let x56 : Int := (wr .i64 (v48 + (wr .i64 ((wr .i64 (2 * v49)) + 1))))
          bif decide (0 ≤ (wr .i64 (x56 + 1))) && decide ((wr .i64 (x56 + 1)) < (v50.length : Int)) then
            (v50[(wr .i64 (x56 + 1)).toNat]?).bind fun x57 =>
            (f40 k x55.1 x55.2.1 x55.2.2 x57.1 x57.2.1 x57.2.2).bind fun x58 =>
            bif (decide (x58.1.1 < 0)) then
              let x59 : Int := (wr .i64 ((wr .i64 ((wr .i64 (2 * v49)) + 1)) + 1))
              f86_j5 k v47 v48 v49 x59 v50
                (fun x60 : ((Unit × Int × Int × Unit × Int × Unit) × ((List (Int × (Int × Int))) × Unit)) =>
                  f86_l1 k j x60.1.2.1 x60.1.2.2.1 x60.1.2.2.2.2.1 x60.2.1 nx,
                fun x61 : (Unit × ((List (Int × (Int × Int))) × Unit)) =>
                  nx.2.1 ((), (x61.2.1, ())),
                ())
            else
              f86_j5 k v47 v48 v49 (wr .i64 ((wr .i64 (2 * v49)) + 1)) v50
                (fun x62 : ((Unit × Int × Int × Unit × Int × Unit) × ((List (Int × (Int × Int))) × Unit)) =>
                  f86_l1 k j x62.1.2.1 x62.1.2.2.1 x62.1.2.2.2.2.1 x62.2.1 nx,
                fun x63 : (Unit × ((List (Int × (Int × Int))) × Unit)) =>
                  nx.2.1 ((), (x63.2.1, ())),
                ())
          else
            none
        else
          none
      else
        f86_j5 k v47 v48 v49 (wr .i64 ((wr .i64 (2 * v49)) + 1)) v50
          (fun x64 : ((Unit × Int × Int × Unit × Int × Unit) × ((List (Int × (Int × Int))) × Unit)) =>
            f86_l1 k j x64.1.2.1 x64.1.2.2.1 x64.1.2.2.2.2.1 x64.2.1 nx,
          fun x65 : (Unit × ((List (Int × (Int × Int))) × Unit)) =>
            nx.2.1 ((), (x65.2.1, ())),
          ())
def cf86_l1 (k : Nat) : Cut := { sp := { temps := [(0, .c (.lit (.row 3000000))), (2, .c (.int .i64)), (3, .c (.int .i64)), (4, .c (.lit (.fn 40))), (10, .c (.int .i64))], blocks := [(3000000, .row 59 (.pair (.int .i64) (.pair (.int .i64) (.int .i64))))], ren := [(3000000, some 3000000)] }, outs := [(.exit 0, { temps := [], blocks := [(3000000, .row 59 (.pair (.int .i64) (.pair (.int .i64) (.int .i64))))], ren := [(3000000, some 3000000)] }), (.ret, { temps := [], blocks := [(3000000, .row 59 (.pair (.int .i64) (.pair (.int .i64) (.int .i64))))], ren := [(3000000, some 3000000)] })], F := fun ρ j v nx => f86_l1 k j v.1.2.1 v.1.2.2.1 v.1.2.2.2.2.1 v.2.1 nx }
def f86 (k : Nat) (a1 : Int) (a2 : Int) (a3 : Int) (a4 : (List (Int × (Int × Int)))) : Option (Unit × ((List (Int × (Int × Int))) × Unit)) :=
  f86_l1 k k a2 a3 a1 a4
    (fun x45 : (Unit × ((List (Int × (Int × Int))) × Unit)) =>
      some ((), (x45.2.1, ())),
    fun x46 : (Unit × ((List (Int × (Int × Int))) × Unit)) =>
      some ((), (x46.2.1, ())),
    ())
def ef86 : Entry := { id := 86, ar := { temps := [(0, .c (.row 3000000)), (1, .c (.int .i64)), (2, .c (.int .i64)), (3, .c (.int .i64)), (4, .c (.lit (.fn 40)))], blocks := [(3000000, .row 59 (.pair (.int .i64) (.pair (.int .i64) (.int .i64))))], ren := [] }, res := { temps := [], blocks := [(3000000, .row 59 (.pair (.int .i64) (.pair (.int .i64) (.int .i64))))], ren := [(3000000, some 3000000)] }, f := fun k v => f86 k v.1.2.1 v.1.2.2.1 v.1.2.2.2.1 v.2.1 }
def gf86 (k : Nat) : Full := { tt := tt, n := 82, fns := [ef40], trunc := [], tails := [], k := k, glob := glob, cuts := [(1, (cf86_l1 k))], joins := [(5, cf86_j5)] }
theorem of86_j5 (k : Nat) : JoinOk (gf86 k) cf86_j5 (theJoin Try.f86 5) := fun ρ v nx => by kernel_rfl
theorem of86_l1 (k : Nat) : CutOk (gf86 k) (cf86_l1 k) (theLoop Try.f86 1) := fun ρ v nx => ⟨by kernel_rfl, fun j => by kernel_rfl⟩
theorem qf86 (k : Nat) : AllP (bodyL (gf86 k) Try.f86) := by
  have h : (JoinOk (gf86 k) cf86_j5 (theJoin Try.f86 5) ∧ CutOk (gf86 k) (cf86_l1 k) (theLoop Try.f86 1) ∧ True) = AllP (bodyL (gf86 k) Try.f86) := by kernel_rfl
  exact Eq.mp h (And.intro (of86_j5 k) (And.intro (of86_l1 k) (trivial)))
theorem sf86 : Sound Try.prog glob ef86 := sound_of base (fn := Try.f86) Try.func86 (by kernel_rfl) gf86 (fun _ => ⟨rfl, rfl⟩) (fun k j => ⟨sf40.at j, trivial⟩) qf86 (fun k v => by kernel_rfl)

/-! impl.Crease] -/
def f68_l4 {ρ : Type} (k : Nat) : Nat → Int → Int → Int → Int → (List (Int × (Int × Int))) → ((((Unit × Unit × Int × Int × Int × Unit) × ((List (Int × (Int × Int))) × Unit)) → Option ρ) × Unit) → Option ρ
  | 0, _, _, _, _, _, _ => none
  | j + 1, v27, v28, v29, v30, v31, nx =>
    bif (decide (v30 ≥ 0)) then
      (f86 k v30 v29 v27 v31).bind fun x32 =>
      f68_l4 k j v27 v28 v29 (wr .i64 (v30 - 1)) x32.2.1 nx
    else
      nx.1 (((), (), v27, v28, v29, ()), (v31, ()))
def cf68_l4 (k : Nat) : Cut := { sp := { temps := [(0, .c (.lit (.row 3000000))), (3, .c (.lit (.fn 40))), (8, .c (.int .i64)), (9, .c (.int .i64)), (10, .c (.int .i64)), (11, .c (.int .i64))], blocks := [(3000000, .row 59 (.pair (.int .i64) (.pair (.int .i64) (.int .i64))))], ren := [(3000000, some 3000000)] }, outs := [(.exit 0, { temps := [(0, .c (.lit (.row 3000000))), (3, .c (.lit (.fn 40))), (8, .c (.int .i64)), (9, .c (.int .i64)), (10, .c (.int .i64))], blocks := [(3000000, .row 59 (.pair (.int .i64) (.pair (.int .i64) (.int .i64))))], ren := [(3000000, some 3000000)] })], F := fun ρ j v nx => f68_l4 k j v.1.2.2.1 v.1.2.2.2.1 v.1.2.2.2.2.1 v.1.2.2.2.2.2.1 v.2.1 nx }
def f68_l8 {ρ : Type} (k : Nat) : Nat → Int → Int → Int → (List (Int × (Int × Int))) → (((Unit × ((List (Int × (Int × Int))) × Unit)) → Option ρ) × Unit) → Option ρ
  | 0, _, _, _, _, _ => none
  | j + 1, v33, v34, v35, v36, nx =>
    bif (decide (v35 ≥ 0)) then
      bif decide (0 ≤ (wr .i64 (v33 + v35))) && decide ((wr .i64 (v33 + v35)) < (v36.length : Int)) then
        (v36[(wr .i64 (v33 + v35)).toNat]?).bind fun x37 =>
        bif decide (0 ≤ v33) && decide (v33 < (v36.length : Int)) then
          (v36[v33.toNat]?).bind fun x38 =>
          bif decide (0 ≤ v33) && decide (v33 < (v36.length : Int)) then
            (v36[v33.toNat]?).bind fun _ =>
            bif decide (0 ≤ (wr .i64 (v33 + v35))) && decide ((wr .i64 (v33 + v35)) < ((v36.set v33.toNat x37).length : Int)) then
              ((v36.set v33.toNat x37)[(wr .i64 (v33 + v35)).toNat]?).bind fun _ =>
              let x41 : (List (Int × (Int × Int))) := ((v36.set v33.toNat x37).set (wr .i64 (v33 + v35)).toNat x38)
              (f86 k v34 v35 v33 x41).bind fun x42 =>
              f68_l8 k j v33 v34 (wr .i64 (v35 - 1)) x42.2.1 nx
            else
              none
          else
            none
        else
          none
      else
        none
    else
      nx.1 ((), (v36, ()))
def cf68_l8 (k : Nat) : Cut := { sp := { temps := [(0, .c (.lit (.row 3000000))), (3, .c (.lit (.fn 40))), (8, .c (.int .i64)), (9, .c (.int .i64)), (12, .c (.int .i64))], blocks := [(3000000, .row 59 (.pair (.int .i64) (.pair (.int .i64) (.int .i64))))], ren := [(3000000, some 3000000)] }, outs := [(.exit 2, { temps := [], blocks := [(3000000, .row 59 (.pair (.int .i64) (.pair (.int .i64) (.int .i64))))], ren := [(3000000, some 3000000)] })], F := fun ρ j v nx => f68_l8 k j v.1.2.2.1 v.1.2.2.2.1 v.1.2.2.2.2.1 v.2.1 nx }
def f68 (k : Nat) (a1 : Int) (a2 : Int) (a3 : (List (Int × (Int × Int)))) : Option (Unit × ((List (Int × (Int × Int))) × Unit)) :=
  let x24 : Int := (wr .i64 ((wr .i64 ((wr .i64 (a2 - a1)) - 1)).tdiv 2))
  f68_l4 k k a1 0 (wr .i64 (a2 - a1)) x24 a3
    (fun x25 : ((Unit × Unit × Int × Int × Int × Unit) × ((List (Int × (Int × Int))) × Unit)) =>
      f68_l8 k k x25.1.2.2.1 x25.1.2.2.2.1 (wr .i64 (x25.1.2.2.2.2.1 - 1)) x25.2.1
        (fun x26 : (Unit × ((List (Int × (Int × Int))) × Unit)) =>
          some ((), (x26.2.1, ())),
        ()),
    ())
def ef68 : Entry := { id := 68, ar := { temps := [(0, .c (.row 3000000)), (1, .c (.int .i64)), (2, .c (.int .i64)), (3, .c (.lit (.fn 40)))], blocks := [(3000000, .row 59 (.pair (.int .i64) (.pair (.int .i64) (.int .i64))))], ren := [] }, res := { temps := [], blocks := [(3000000, .row 59 (.pair (.int .i64) (.pair (.int .i64) (.int .i64))))], ren := [(3000000, some 3000000)] }, f := fun k v => f68 k v.1.2.1 v.1.2.2.1 v.2.1 }
def gf68 (k : Nat) : Full := { tt := tt, n := 60, fns := [ef86], trunc := [], tails := [], k := k, glob := glob, cuts := [(4, (cf68_l4 k)), (8, (cf68_l8 k))], joins := [] }
theorem of68_l4 (k : Nat) : CutOk (gf68 k) (cf68_l4 k) (theLoop Try.f68 4) := fun ρ v nx => ⟨by kernel_rfl, fun j => by kernel_rfl⟩
theorem of68_l8 (k : Nat) : CutOk (gf68 k) (cf68_l8 k) (theLoop Try.f68 8) := fun ρ v nx => ⟨by kernel_rfl, fun j => by kernel_rfl⟩
theorem qf68 (k : Nat) : AllP (bodyL (gf68 k) Try.f68) := by
  have h : (CutOk (gf68 k) (cf68_l4 k) (theLoop Try.f68 4) ∧ CutOk (gf68 k) (cf68_l8 k) (theLoop Try.f68 8) ∧ True) = AllP (bodyL (gf68 k) Try.f68) := by kernel_rfl
  exact Eq.mp h (And.intro (of68_l4 k) (And.intro (of68_l8 k) (trivial)))
theorem sf68 : Sound Try.prog glob ef68 := sound_of base (fn := Try.f68) Try.func68 (by kernel_rfl) gf68 (fun _ => ⟨rfl, rfl⟩) (fun k j => ⟨sf86.at j, trivial⟩) qf68 (fun k v => by kernel_rfl)

/-! impl.Crease] -/
def f69_j10 {ρ : Type} (k : Nat) (v43 : Int) (v44 : Int) (v45 : Int) (v46 : Int) (v47 : Int) (v48 : (List (Int × (Int × Int)))) (v49 : Int) (nx : ((((Unit × Int × Int × Unit × Int × Int × Unit) × ((List (Int × (Int × Int))) × (Int × Unit) × Unit)) → Option ρ) × Unit)) : Option ρ :=
  bif decide (0 ≤ (wr .i64 (v43 + v47))) && decide ((wr .i64 (v43 + v47)) < (v48.length : Int)) then
    (v48[(wr .i64 (v43 + v47)).toNat]?).bind fun x50 =>
    bif decide (0 ≤ v46) && decide (v46 < (v48.length : Int)) then
      (v48[v46.toNat]?).bind fun x51 =>
      bif decide (0 ≤ v46) && decide (v46 < (v48.length : Int)) then
        (v48[v46.toNat]?).bind fun _ =>
        bif decide (0 ≤ (wr .i64 (v43 + v47))) && decide ((wr .i64 (v43 + v47)) < ((v48.set v46.toNat x50).length : Int)) then
          ((v48.set v46.toNat x50)[(wr .i64 (v43 + v47)).toNat]?).bind fun _ =>
          let x54 : (List (Int × (Int × Int))) := ((v48.set v46.toNat x50).set (wr .i64 (v43 + v47)).toNat x51)
          nx.1 (((), v43, v44, (), v45, v46, ()), (x54, (v49, ()), ()))
        else
          none
      else
        none
    else
      none
  else
    none
def cf69_j10 : Cut := { sp := { temps := [(0, .c (.lit (.row 3000000))), (1, .c (.int .i64)), (8, .c (.int .i64)), (9, .c (.box 5000000)), (10, .c (.int .u64)), (11, .c (.int .i64)), (12, .c (.int .i64))], blocks := [(3000000, .row 59 (.pair (.int .i64) (.pair (.int .i64) (.int .i64)))), (5000000, .box 110 [(.int .u64)])], ren := [(3000000, some 3000000)] }, outs := [(.normal, { temps := [(0, .c (.lit (.row 3000000))), (1, .c (.int .i64)), (8, .c (.int .i64)), (9, .c (.box 5000000)), (10, .c (.int .u64)), (11, .c (.int .i64))], blocks := [(3000000, .row 59 (.pair (.int .i64) (.pair (.int .i64) (.int .i64)))), (5000000, .box 110 [(.int .u64)])], ren := [(3000000, some 3000000)] })], F := fun ρ k v nx => f69_j10 k v.1.2.1 v.1.2.2.1 v.1.2.2.2.2.1 v.1.2.2.2.2.2.1 v.1.2.2.2.2.2.2.1 v.2.1 v.2.2.1.1 nx }
def f69_l5 {ρ : Type} (k : Nat) : Nat → Int → Int → Int → Int → (List (Int × (Int × Int))) → Int → (((Unit × ((List (Int × (Int × Int))) × Unit)) → Option ρ) × Unit) → Option ρ
  | 0, _, _, _, _, _, _, _ => none
  | j + 1, v31, v32, v33, v34, v35, v36, nx =>
    let x38 : Int := (wr .i64 (v31 + (wr .i64 ((wr .i64 (v32.tdiv 4)) * 2))))
    bif (decide (v34 ≤ (wr .i64 (x38 + 1)))) then
      (f83 k v36).bind fun x39 =>
      let x40 : Int := (wr .i64 (iand .u64 x39.1.1 (wr .u64 (v33 - 1))))
      bif (decide (x40 ≥ v32)) then
        f69_j10 k v31 v32 v33 v34 (wr .i64 (x40 - v32)) v35 x39.2.1.1
          (fun x41 : ((Unit × Int × Int × Unit × Int × Int × Unit) × ((List (Int × (Int × Int))) × (Int × Unit) × Unit)) =>
            f69_l5 k j x41.1.2.1 x41.1.2.2.1 x41.1.2.2.2.2.1 (wr .i64 (x41.1.2.2.2.2.2.1 + 1)) x41.2.1 x41.2.2.1.1 nx,
          ())
      else
        f69_j10 k v31 v32 v33 v34 x40 v35 x39.2.1.1
          (fun x42 : ((Unit × Int × Int × Unit × Int × Int × Unit) × ((List (Int × (Int × Int))) × (Int × Unit) × Unit)) =>
            f69_l5 k j x42.1.2.1 x42.1.2.2.1 x42.1.2.2.2.2.1 (wr .i64 (x42.1.2.2.2.2.2.1 + 1)) x42.2.1 x42.2.2.1.1 nx,
          ())
    else
      nx.1 ((), (v35, ()))
def cf69_l5 (k : Nat) : Cut := { sp := { temps := [(0, .c (.lit (.row 3000000))), (1, .c (.int .i64)), (8, .c (.int .i64)), (9, .c (.box 5000000)), (10, .c (.int .u64)), (11, .c (.int .i64))], blocks := [(3000000, .row 59 (.pair (.int .i64) (.pair (.int .i64) (.int .i64)))), (5000000, .box 110 [(.int .u64)])], ren := [(3000000, some 3000000)] }, outs := [(.exit 0, { temps := [], blocks := [(3000000, .row 59 (.pair (.int .i64) (.pair (.int .i64) (.int .i64))))], ren := [(3000000, some 3000000)] })], F := fun ρ j v nx => f69_l5 k j v.1.2.1 v.1.2.2.1 v.1.2.2.2.2.1 v.1.2.2.2.2.2.1 v.2.1 v.2.2.1.1 nx }
def f69 (k : Nat) (a1 : Int) (a2 : Int) (a3 : (List (Int × (Int × Int)))) : Option (Unit × ((List (Int × (Int × Int))) × Unit)) :=
  bif (decide ((wr .i64 (a2 - a1)) ≥ 8)) then
    (f82 k (wr .i64 (a2 - a1))).bind fun x28 =>
    let x29 : Int := (wr .i64 ((wr .i64 ((wr .i64 (a2 - a1)).tdiv 4)) * 2))
    f69_l5 k k a1 (wr .i64 (a2 - a1)) x28.1.1 (wr .i64 ((wr .i64 (a1 + x29)) - 1)) a3 (wr .u64 (wr .i64 (a2 - a1)))
      (fun x30 : (Unit × ((List (Int × (Int × Int))) × Unit)) =>
        some ((), (x30.2.1, ())),
      ())
  else
    some ((), (a3, ()))
def ef69 : Entry := { id := 69, ar := { temps := [(0, .c (.row 3000000)), (1, .c (.int .i64)), (2, .c (.int .i64)), (3, .c (.lit (.fn 40)))], blocks := [(3000000, .row 59 (.pair (.int .i64) (.pair (.int .i64) (.int .i64))))], ren := [] }, res := { temps := [], blocks := [(3000000, .row 59 (.pair (.int .i64) (.pair (.int .i64) (.int .i64))))], ren := [(3000000, some 3000000)] }, f := fun k v => f69 k v.1.2.1 v.1.2.2.1 v.2.1 }
def gf69 (k : Nat) : Full := { tt := tt, n := 67, fns := [ef82, ef83], trunc := [], tails := [], k := k, glob := glob, cuts := [(5, (cf69_l5 k))], joins := [(10, cf69_j10)] }
theorem of69_j10 (k : Nat) : JoinOk (gf69 k) cf69_j10 (theJoin Try.f69 10) := fun ρ v nx => by kernel_rfl
theorem of69_l5 (k : Nat) : CutOk (gf69 k) (cf69_l5 k) (theLoop Try.f69 5) := fun ρ v nx => ⟨by kernel_rfl, fun j => by kernel_rfl⟩
theorem qf69 (k : Nat) : AllP (bodyL (gf69 k) Try.f69) := by
  have h : (JoinOk (gf69 k) cf69_j10 (theJoin Try.f69 10) ∧ CutOk (gf69 k) (cf69_l5 k) (theLoop Try.f69 5) ∧ True) = AllP (bodyL (gf69 k) Try.f69) := by kernel_rfl
  exact Eq.mp h (And.intro (of69_j10 k) (And.intro (of69_l5 k) (trivial)))
theorem sf69 : Sound Try.prog glob ef69 := sound_of base (fn := Try.f69) Try.func69 (by kernel_rfl) gf69 (fun _ => ⟨rfl, rfl⟩) (fun k j => ⟨sf82.at j, sf83.at j, trivial⟩) qf69 (fun k v => by kernel_rfl)

/-! impl.Crease] -/
def f93 (k : Nat) (a1 : (List (Int × (Int × Int)))) (a2 : Int) (a3 : Int) (a4 : Int) : Option ((Int × Int × Unit) × ((Int × Unit) × Unit)) :=
  (getI a1 a3).bind fun x4 =>
  (getI a1 a2).bind fun x5 =>
  (f40 k x4.1 x4.2.1 x4.2.2 x5.1 x5.2.1 x5.2.2).bind fun x6 =>
  bif (decide (x6.1.1 < 0)) then
    some ((a3, a2, ()), (((wr .i64 (a4 + 1)), ()), ()))
  else
    some ((a2, a3, ()), ((a4, ()), ()))
def ef93 : Entry := { id := 93, ar := { temps := [(0, .c (.sl (.pair (.int .i64) (.pair (.int .i64) (.int .i64))))), (1, .c (.int .i64)), (2, .c (.int .i64)), (3, .c (.box 3000000)), (4, .c (.lit (.fn 40)))], blocks := [(3000000, .box 3 [(.int .i64)])], ren := [] }, res := { temps := [(0, .c (.int .i64)), (1, .c (.int .i64))], blocks := [(3000000, .box 3 [(.int .i64)])], ren := [(3000000, some 3000000)] }, f := fun k v => f93 k v.1.1 v.1.2.1 v.1.2.2.1 v.2.1.1 }
def gf93 (k : Nat) : Full := { tt := tt, n := 32, fns := [ef40], trunc := [], tails := [], k := k, glob := glob, cuts := [], joins := [] }
theorem qf93 (k : Nat) : AllP (bodyL (gf93 k) Try.f93) := by
  have h : True = AllP (bodyL (gf93 k) Try.f93) := by kernel_rfl
  exact Eq.mp h trivial
theorem sf93 : Sound Try.prog glob ef93 := sound_of base (fn := Try.f93) Try.func93 (by kernel_rfl) gf93 (fun _ => ⟨rfl, rfl⟩) (fun k j => ⟨sf40.at j, trivial⟩) qf93 (fun k v => by kernel_rfl)

/-! impl.Crease] -/
def f88 (k : Nat) (a1 : (List (Int × (Int × Int)))) (a2 : Int) (a3 : Int) (a4 : Int) (a5 : Int) : Option ((Int × Unit) × ((Int × Unit) × Unit)) :=
  (f93 k a1 a2 a3 a5).bind fun x4 =>
  (f93 k a1 x4.1.2.1 a4 x4.2.1.1).bind fun x5 =>
  (f93 k a1 x4.1.1 x5.1.1 x5.2.1.1).bind fun x6 =>
  some ((x6.1.2.1, ()), ((x6.2.1.1, ()), ()))
def ef88 : Entry := { id := 88, ar := { temps := [(0, .c (.sl (.pair (.int .i64) (.pair (.int .i64) (.int .i64))))), (1, .c (.int .i64)), (2, .c (.int .i64)), (3, .c (.int .i64)), (4, .c (.box 3000000)), (5, .c (.lit (.fn 40)))], blocks := [(3000000, .box 3 [(.int .i64)])], ren := [] }, res := { temps := [(0, .c (.int .i64))], blocks := [(3000000, .box 3 [(.int .i64)])], ren := [(3000000, some 3000000)] }, f := fun k v => f88 k v.1.1 v.1.2.1 v.1.2.2.1 v.1.2.2.2.1 v.2.1.1 }
def gf88 (k : Nat) : Full := { tt := tt, n := 41, fns := [ef93], trunc := [], tails := [], k := k, glob := glob, cuts := [], joins := [] }
theorem qf88 (k : Nat) : AllP (bodyL (gf88 k) Try.f88) := by
  have h : True = AllP (bodyL (gf88 k) Try.f88) := by kernel_rfl
  exact Eq.mp h trivial
theorem sf88 : Sound Try.prog glob ef88 := sound_of base (fn := Try.f88) Try.func88 (by kernel_rfl) gf88 (fun _ => ⟨rfl, rfl⟩) (fun k j => ⟨sf93.at j, trivial⟩) qf88 (fun k v => by kernel_rfl)

/-! impl.Crease] -/
def f87 (k : Nat) (a1 : (List (Int × (Int × Int)))) (a2 : Int) (a3 : Int) : Option ((Int × Unit) × ((Int × Unit) × Unit)) :=
  (f88 k a1 (wr .i64 (a2 - 1)) a2 (wr .i64 (a2 + 1)) a3).bind fun x2 =>
  some ((x2.1.1, ()), ((x2.2.1.1, ()), ()))
def ef87 : Entry := { id := 87, ar := { temps := [(0, .c (.sl (.pair (.int .i64) (.pair (.int .i64) (.int .i64))))), (1, .c (.int .i64)), (2, .c (.box 3000000)), (3, .c (.lit (.fn 40)))], blocks := [(3000000, .box 3 [(.int .i64)])], ren := [] }, res := { temps := [(0, .c (.int .i64))], blocks := [(3000000, .box 3 [(.int .i64)])], ren := [(3000000, some 3000000)] }, f := fun k v => f87 k v.1.1 v.1.2.1 v.2.1.1 }
def gf87 (k : Nat) : Full := { tt := tt, n := 18, fns := [ef88], trunc := [], tails := [], k := k, glob := glob, cuts := [], joins := [] }
theorem qf87 (k : Nat) : AllP (bodyL (gf87 k) Try.f87) := by
  have h : True = AllP (bodyL (gf87 k) Try.f87) := by kernel_rfl
  exact Eq.mp h trivial
theorem sf87 : Sound Try.prog glob ef87 := sound_of base (fn := Try.f87) Try.func87 (by kernel_rfl) gf87 (fun _ => ⟨rfl, rfl⟩) (fun k j => ⟨sf88.at j, trivial⟩) qf87 (fun k v => by kernel_rfl)

/-! impl.Crease] -/
def f70_j12 {ρ : Type} (k : Nat) (v30 : Int) (v31 : Int) (nx : ((((Int × Int × Unit) × Unit) → Option ρ) × Unit)) : Option ρ :=
  bif (v31 == 0) then
    nx.1 ((v30, 1, ()), ())
  else
    bif (v31 == 12) then
      nx.1 ((v30, 2, ()), ())
    else
      nx.1 ((v30, 0, ()), ())
def cf70_j12 : Cut := { sp := { temps := [(11, .c (.box 5000000)), (13, .c (.int .i64))], blocks := [(5000000, .box 3 [(.int .i64)])], ren := [] }, outs := [(.ret, { temps := [(8, .c (.int .i64)), (9, .c (.int .i64))], blocks := [], ren := [] })], F := fun ρ k v nx => f70_j12 k v.1.2.1 v.2.1.1 nx }
def f70 (k : Nat) (a1 : (List (Int × (Int × Int)))) (a2 : Int) (a3 : Int) : Option ((Int × Int × Unit) × Unit) :=
  let x19 : Int := (wr .i64 ((wr .i64 ((wr .i64 (a3 - a2)).tdiv 4)) * 1))
  let x20 : Int := (wr .i64 ((wr .i64 ((wr .i64 (a3 - a2)).tdiv 4)) * 2))
  let x21 : Int := (wr .i64 ((wr .i64 ((wr .i64 (a3 - a2)).tdiv 4)) * 3))
  bif (decide ((wr .i64 (a3 - a2)) ≥ 8)) then
    bif (decide ((wr .i64 (a3 - a2)) ≥ 50)) then
      (f87 k a1 (wr .i64 (a2 + x19)) 0).bind fun x22 =>
      (f87 k a1 (wr .i64 (a2 + x20)) x22.2.1.1).bind fun x23 =>
      (f87 k a1 (wr .i64 (a2 + x21)) x23.2.1.1).bind fun x24 =>
      (f88 k a1 x22.1.1 x23.1.1 x24.1.1 x24.2.1.1).bind fun x25 =>
      f70_j12 k x25.1.1 x25.2.1.1
        (fun x26 : ((Int × Int × Unit) × Unit) =>
          some ((x26.1.1, x26.1.2.1, ()), ()),
        ())
    else
      (f88 k a1 (wr .i64 (a2 + x19)) (wr .i64 (a2 + x20)) (wr .i64 (a2 + x21)) 0).bind fun x27 =>
      f70_j12 k x27.1.1 x27.2.1.1
        (fun x28 : ((Int × Int × Unit) × Unit) =>
          some ((x28.1.1, x28.1.2.1, ()), ()),
        ())
  else
    f70_j12 k (wr .i64 (a2 + x20)) 0
      (fun x29 : ((Int × Int × Unit) × Unit) =>
        some ((x29.1.1, x29.1.2.1, ()), ()),
      ())
def ef70 : Entry := { id := 70, ar := { temps := [(0, .c (.sl (.pair (.int .i64) (.pair (.int .i64) (.int .i64))))), (1, .c (.int .i64)), (2, .c (.int .i64)), (3, .c (.lit (.fn 40)))], blocks := [], ren := [] }, res := { temps := [(0, .c (.int .i64)), (1, .c (.int .i64))], blocks := [], ren := [] }, f := fun k v => f70 k v.1.1 v.1.2.1 v.1.2.2.1 }
def gf70 (k : Nat) : Full := { tt := tt, n := 63, fns := [ef87, ef88], trunc := [], tails := [], k := k, glob := glob, cuts := [], joins := [(12, cf70_j12)] }
theorem of70_j12 (k : Nat) : JoinOk (gf70 k) cf70_j12 (theJoin Try.f70 12) := fun ρ v nx => by kernel_rfl
theorem qf70 (k : Nat) : AllP (bodyL (gf70 k) Try.f70) := by
  have h : (JoinOk (gf70 k) cf70_j12 (theJoin Try.f70 12) ∧ True) = AllP (bodyL (gf70 k) Try.f70) := by kernel_rfl
  exact Eq.mp h (And.intro (of70_j12 k) (trivial))
theorem sf70 : Sound Try.prog glob ef70 := sound_of base (fn := Try.f70) Try.func70 (by kernel_rfl) gf70 (fun _ => ⟨rfl, rfl⟩) (fun k j => ⟨sf87.at j, sf88.at j, trivial⟩) qf70 (fun k v => by kernel_rfl)

/-! impl.Crease] -/
def f71_l2 {ρ : Type} (k : Nat) : Nat → Int → Int → (List (Int × (Int × Int))) → (((Unit × ((List (Int × (Int × Int))) × Unit)) → Option ρ) × Unit) → Option ρ
  | 0, _, _, _, _ => none
  | j + 1, v10, v11, v12, nx =>
    bif (decide (v10 < v11)) then
      bif decide (0 ≤ v11) && decide (v11 < (v12.length : Int)) then
        (v12[v11.toNat]?).bind fun x13 =>
        bif decide (0 ≤ v10) && decide (v10 < (v12.length : Int)) then
          (v12[v10.toNat]?).bind fun x14 =>
          bif decide (0 ≤ v10) && decide (v10 < (v12.length : Int)) then
            (v12[v10.toNat]?).bind fun _ =>
            bif decide (0 ≤ v11) && decide (v11 < ((v12.set v10.toNat x13).length : Int)) then
              ((v12.set v10.toNat x13)[v11.toNat]?).bind fun _ =>
              f71_l2 k j (wr .i64 (v10 + 1)) (wr .i64 (v11 - 1)) ((v12.set v10.toNat x13).set v11.toNat x14) nx
            else
              none
          else
            none
        else
          none
      else
        none
    else
      nx.1 ((), (v12, ()))
def cf71_l2 (k : Nat) : Cut := { sp := { temps := [(0, .c (.lit (.row 3000000))), (8, .c (.int .i64)), (9, .c (.int .i64))], blocks := [(3000000, .row 59 (.pair (.int .i64) (.pair (.int .i64) (.int .i64))))], ren := [(3000000, some 3000000)] }, outs := [(.exit 0, { temps := [], blocks := [(3000000, .row 59 (.pair (.int .i64) (.pair (.int .i64) (.int .i64))))], ren := [(3000000, some 3000000)] })], F := fun ρ j v nx => f71_l2 k j v.1.2.1 v.1.2.2.1 v.2.1 nx }
def f71 (k : Nat) (a1 : Int) (a2 : Int) (a3 : (List (Int × (Int × Int)))) : Option (Unit × ((List (Int × (Int × Int))) × Unit)) :=
  f71_l2 k k a1 (wr .i64 (a2 - 1)) a3
    (fun x9 : (Unit × ((List (Int × (Int × Int))) × Unit)) =>
      some ((), (x9.2.1, ())),
    ())
def ef71 : Entry := { id := 71, ar := { temps := [(0, .c (.row 3000000)), (1, .c (.int .i64)), (2, .c (.int .i64)), (3, .c (.lit (.fn 40)))], blocks := [(3000000, .row 59 (.pair (.int .i64) (.pair (.int .i64) (.int .i64))))], ren := [] }, res := { temps := [], blocks := [(3000000, .row 59 (.pair (.int .i64) (.pair (.int .i64) (.int .i64))))], ren := [(3000000, some 3000000)] }, f := fun k v => f71 k v.1.2.1 v.1.2.2.1 v.2.1 }
def gf71 (k : Nat) : Full := { tt := tt, n := 34, fns := [], trunc := [], tails := [], k := k, glob := glob, cuts := [(2, (cf71_l2 k))], joins := [] }
theorem of71_l2 (k : Nat) : CutOk (gf71 k) (cf71_l2 k) (theLoop Try.f71 2) := fun ρ v nx => ⟨by kernel_rfl, fun j => by kernel_rfl⟩
theorem qf71 (k : Nat) : AllP (bodyL (gf71 k) Try.f71) := by
  have h : (CutOk (gf71 k) (cf71_l2 k) (theLoop Try.f71 2) ∧ True) = AllP (bodyL (gf71 k) Try.f71) := by kernel_rfl
  exact Eq.mp h (And.intro (of71_l2 k) (trivial))
theorem sf71 : Sound Try.prog glob ef71 := sound_of base (fn := Try.f71) Try.func71 (by kernel_rfl) gf71 (fun _ => ⟨rfl, rfl⟩) (fun k j => trivial) qf71 (fun k v => by kernel_rfl)

/-! impl.Crease] -/
def f72_l5 {ρ : Type} (k : Nat) : Nat → Int → Int → Int → Int → (List (Int × (Int × Int))) → ((((Unit × Int × Int × Unit × Int × Int × Unit) × ((List (Int × (Int × Int))) × Unit)) → Option ρ) × Unit) → Option ρ
  | 0, _, _, _, _, _, _ => none
  | j + 1, v73, v74, v75, v76, v77, nx =>
    bif (decide (v75 < v74)) then
      bif decide (0 ≤ v75) && decide (v75 < (v77.length : Int)) then
        (v77[v75.toNat]?).bind fun x78 =>
        bif decide (0 ≤ (wr .i64 (v75 - 1))) && decide ((wr .i64 (v75 - 1)) < (v77.length : Int)) then
          (v77[(wr .i64 (v75 - 1)).toNat]?).bind fun x79 =>
          (f40 k x78.1 x78.2.1 x78.2.2 x79.1 x79.2.1 x79.2.2).bind fun x80 =>
          bif (!(decide (x80.1.1 < 0))) then
            f72_l5 k j v73 v74 (wr .i64 (v75 + 1)) v76 v77 nx
          else
            nx.1 (((), v73, v74, (), v75, v76, ()), (v77, ()))
        else
          none
      else
        none
    else
      nx.1 (((), v73, v74, (), v75, v76, ()), (v77, ()))
def cf72_l5 (k : Nat) : Cut := { sp := { temps := [(0, .c (.lit (.row 3000000))), (1, .c (.int .i64)), (2, .c (.int .i64)), (3, .c (.lit (.fn 40))), (9, .c (.int .i64)), (10, .c (.int .i64))], blocks := [(3000000, .row 59 (.pair (.int .i64) (.pair (.int .i64) (.int .i64))))], ren := [(3000000, some 3000000)] }, outs := [(.exit 2, { temps := [(0, .c (.lit (.row 3000000))), (1, .c (.int .i64)), (2, .c (.int .i64)), (3, .c (.lit (.fn 40))), (9, .c (.int .i64)), (10, .c (.int .i64))], blocks := [(3000000, .row 59 (.pair (.int .i64) (.pair (.int .i64) (.int .i64))))], ren := [(3000000, some 3000000)] })], F := fun ρ j v nx => f72_l5 k j v.1.2.1 v.1.2.2.1 v.1.2.2.2.2.1 v.1.2.2.2.2.2.1 v.2.1 nx }
def f72_l14 {ρ : Type} (k : Nat) : Nat → Int → Int → Int → Int → Int → (List (Int × (Int × Int))) → ((((Unit × Int × Int × Unit × Int × Int × Unit) × ((List (Int × (Int × Int))) × Unit)) → Option ρ) × Unit) → Option ρ
  | 0, _, _, _, _, _, _, _ => none
  | j + 1, v81, v82, v83, v84, v85, v86, nx =>
    bif (decide (v85 ≥ 1)) then
      bif decide (0 ≤ v85) && decide (v85 < (v86.length : Int)) then
        (v86[v85.toNat]?).bind fun x90 =>
        bif decide (0 ≤ (wr .i64 (v85 - 1))) && decide ((wr .i64 (v85 - 1)) < (v86.length : Int)) then
          (v86[(wr .i64 (v85 - 1)).toNat]?).bind fun x91 =>
          (f40 k x90.1 x90.2.1 x90.2.2 x91.1 x91.2.1 x91.2.2).bind fun x92 =>
          bif (!(decide (x92.1.1 < 0))) then
            nx.1 (((), v81, v82, (), v83, v84, ()), (v86, ()))
          else
            bif decide (0 ≤ (wr .i64 (v85 - 1))) && decide ((wr .i64 (v85 - 1)) < (v86.length : Int)) then
              (v86[(wr .i64 (v85 - 1)).toNat]?).bind fun x93 =>
              bif decide (0 ≤ v85) && decide (v85 < (v86.length : Int)) then
                (v86[v85.toNat]?).bind fun x94 =>
                bif decide (0 ≤ v85) && decide (v85 < (v86.length : Int)) then
                  (v86[v85.toNat]?).bind fun _ =>
                  bif decide (0 ≤ (wr .i64 (v85 - 1))) && decide ((wr .i64 (v85 - 1)) < ((v86.set v85.toNat x93).length : Int)) then
                    ((v86.set v85.toNat x93)[(wr .i64 (v85 - 1)).toNat]?).bind fun _ =>
                    let x97 : (List (Int × (Int × Int))) := ((v86.set v85.toNat x93).set (wr .i64 (v85 - 1)).toNat x94)
                    f72_l14 k j v81 v82 v83 v84 (wr .i64 (v85 - 1)) x97 nx
                  else
                    none
                else
                  none
              else
                none
            else
              none
        else
          none
      else
        none
    else
      nx.1 (((), v81, v82, (), v83, v84, ()), (v86, ()))
def cf72_l14 (k : Nat) : Cut := { sp := { temps := [(0, .c (.lit (.row 3000000))), (1, .c (.int .i64)), (2, .c (.int .i64)), (3, .c (.lit (.fn 40))), (9, .c (.int .i64)), (10, .c (.int .i64)), (11, .c (.int .i64))], blocks := [(3000000, .row 59 (.pair (.int .i64) (.pair (.int .i64) (.int .i64))))], ren := [(3000000, some 3000000)] }, outs := [(.exit 4, { temps := [(0, .c (.lit (.row 3000000))), (1, .c (.int .i64)), (2, .c (.int .i64)), (3, .c (.lit (.fn 40))), (9, .c (.int .i64)), (10, .c (.int .i64))], blocks := [(3000000, .row 59 (.pair (.int .i64) (.pair (.int .i64) (.int .i64))))], ren := [(3000000, some 3000000)] })], F := fun ρ j v nx => f72_l14 k j v.1.2.1 v.1.2.2.1 v.1.2.2.2.2.1 v.1.2.2.2.2.2.1 v.1.2.2.2.2.2.2.1 v.2.1 nx }
def f72_l20 {ρ : Type} (k : Nat) : Nat → Int → Int → Int → Int → Int → (List (Int × (Int × Int))) → ((((Unit × Int × Int × Unit × Int × Int × Unit) × ((List (Int × (Int × Int))) × Unit)) → Option ρ) × Unit) → Option ρ
  | 0, _, _, _, _, _, _, _ => none
  | j + 1, v98, v99, v100, v101, v102, v103, nx =>
    bif (decide (v102 < v99)) then
      bif decide (0 ≤ v102) && decide (v102 < (v103.length : Int)) then
        (v103[v102.toNat]?).bind fun x107 =>
        bif decide (0 ≤ (wr .i64 (v102 - 1))) && decide ((wr .i64 (v102 - 1)) < (v103.length : Int)) then
          (v103[(wr .i64 (v102 - 1)).toNat]?).bind fun x108 =>
          (f40 k x107.1 x107.2.1 x107.2.2 x108.1 x108.2.1 x108.2.2).bind fun x109 =>
          bif (!(decide (x109.1.1 < 0))) then
            nx.1 (((), v98, v99, (), v100, v101, ()), (v103, ()))
          else
            bif decide (0 ≤ (wr .i64 (v102 - 1))) && decide ((wr .i64 (v102 - 1)) < (v103.length : Int)) then
              (v103[(wr .i64 (v102 - 1)).toNat]?).bind fun x110 =>
              bif decide (0 ≤ v102) && decide (v102 < (v103.length : Int)) then
                (v103[v102.toNat]?).bind fun x111 =>
                bif decide (0 ≤ v102) && decide (v102 < (v103.length : Int)) then
                  (v103[v102.toNat]?).bind fun _ =>
                  bif decide (0 ≤ (wr .i64 (v102 - 1))) && decide ((wr .i64 (v102 - 1)) < ((v103.set v102.toNat x110).length : Int)) then
                    ((v103.set v102.toNat x110)[(wr .i64 (v102 - 1)).toNat]?).bind fun _ =>
                    let x114 : (List (Int × (Int × Int))) := ((v103.set v102.toNat x110).set (wr .i64 (v102 - 1)).toNat x111)
                    f72_l20 k j v98 v99 v100 v101 (wr .i64 (v102 + 1)) x114 nx
                  else
                    none
                else
                  none
              else
                none
            else
              none
        else
          none
      else
        none
    else
      nx.1 (((), v98, v99, (), v100, v101, ()), (v103, ()))
def cf72_l20 (k : Nat) : Cut := { sp := { temps := [(0, .c (.lit (.row 3000000))), (1, .c (.int .i64)), (2, .c (.int .i64)), (3, .c (.lit (.fn 40))), (9, .c (.int .i64)), (10, .c (.int .i64)), (12, .c (.int .i64))], blocks := [(3000000, .row 59 (.pair (.int .i64) (.pair (.int .i64) (.int .i64))))], ren := [(3000000, some 3000000)] }, outs := [(.exit 6, { temps := [(0, .c (.lit (.row 3000000))), (1, .c (.int .i64)), (2, .c (.int .i64)), (3, .c (.lit (.fn 40))), (9, .c (.int .i64)), (10, .c (.int .i64))], blocks := [(3000000, .row 59 (.pair (.int .i64) (.pair (.int .i64) (.int .i64))))], ren := [(3000000, some 3000000)] })], F := fun ρ j v nx => f72_l20 k j v.1.2.1 v.1.2.2.1 v.1.2.2.2.2.1 v.1.2.2.2.2.2.1 v.1.2.2.2.2.2.2.1 v.2.1 nx }
def f72_j18 {ρ : Type} (k : Nat) (v133 : Int) (v134 : Int) (v135 : Int) (v136 : Int) (v137 : (List (Int × (Int × Int)))) (nx : ((((Unit × Int × Int × Unit × Int × Int × Unit) × ((List (Int × (Int × Int))) × Unit)) → Option ρ) × Unit)) : Option ρ :=
  bif (decide ((wr .i64 (v134 - v135)) ≥ 2)) then
    f72_l20 k k v133 v134 v135 v136 (wr .i64 (v135 + 1)) v137
      (fun x138 : ((Unit × Int × Int × Unit × Int × Int × Unit) × ((List (Int × (Int × Int))) × Unit)) =>
        nx.1 (((), x138.1.2.1, x138.1.2.2.1, (), x138.1.2.2.2.2.1, x138.1.2.2.2.2.2.1, ()), (x138.2.1, ())),
      ())
  else
    nx.1 (((), v133, v134, (), v135, v136, ()), (v137, ()))
def cf72_j18 : Cut := { sp := { temps := [(0, .c (.lit (.row 3000000))), (1, .c (.int .i64)), (2, .c (.int .i64)), (3, .c (.lit (.fn 40))), (9, .c (.int .i64)), (10, .c (.int .i64))], blocks := [(3000000, .row 59 (.pair (.int .i64) (.pair (.int .i64) (.int .i64))))], ren := [(3000000, some 3000000)] }, outs := [(.normal, { temps := [(0, .c (.lit (.row 3000000))), (1, .c (.int .i64)), (2, .c (.int .i64)), (3, .c (.lit (.fn 40))), (9, .c (.int .i64)), (10, .c (.int .i64))], blocks := [(3000000, .row 59 (.pair (.int .i64) (.pair (.int .i64) (.int .i64))))], ren := [(3000000, some 3000000)] })], F := fun ρ k v nx => f72_j18 k v.1.2.1 v.1.2.2.1 v.1.2.2.2.2.1 v.1.2.2.2.2.2.1 v.2.1 nx }
def f72_l3 {ρ : Type} (k : Nat) : Nat → Int → Int → Int → Int → (List (Int × (Int × Int))) → (((Unit × ((List (Int × (Int × Int))) × Unit)) → Option ρ) × (((Bool × Unit) × ((List (Int × (Int × Int))) × Unit)) → Option ρ) × Unit) → Option ρ
  | 0, _, _, _, _, _, _ => none
  | j + 1, v115, v116, v117, v118, v119, nx =>
    bif (decide (v118 < 5)) then
      f72_l5 k k v115 v116 v117 v118 v119
        (fun x121 : ((Unit × Int × Int × Unit × Int × Int × Unit) × ((List (Int × (Int × Int))) × Unit)) =>
          bif (x121.1.2.2.2.2.1 == x121.1.2.2.1) then
            nx.2.1 ((true, ()), (x121.2.1, ()))
          else
            let x123 : Bool := (decide ((wr .i64 (x121.1.2.2.1 - x121.1.2.1)) < 50))
            bif x123 then
              nx.2.1 ((false, ()), (x121.2.1, ()))
            else
              bif decide (0 ≤ (wr .i64 (x121.1.2.2.2.2.1 - 1))) && decide ((wr .i64 (x121.1.2.2.2.2.1 - 1)) < (x121.2.1.length : Int)) then
                (x121.2.1[(wr .i64 (x121.1.2.2.2.2.1 - 1)).toNat]?).bind fun x124 =>
                bif decide (0 ≤ x121.1.2.2.2.2.1) && decide (x121.1.2.2.2.2.1 < (x121.2.1.length : Int)) then
                  (x121.2.1[x121.1.2.2.2.2.1.toNat]?).bind fun x125 =>
                  bif decide (0 ≤ x121.1.2.2.2.2.1) && decide (x121.1.2.2.2.2.1 < (x121.2.1.length : Int)) then
                    (x121.2.1[x121.1.2.2.2.2.1.toNat]?).bind fun _ =>
                    bif decide (0 ≤ (wr .i64 (x121.1.2.2.2.2.1 - 1))) && decide ((wr .i64 (x121.1.2.2.2.2.1 - 1)) < ((x121.2.1.set x121.1.2.2.2.2.1.toNat x124).length : Int)) then
                      ((x121.2.1.set x121.1.2.2.2.2.1.toNat x124)[(wr .i64 (x121.1.2.2.2.2.1 - 1)).toNat]?).bind fun _ =>
                      let x128 : (List (Int × (Int × Int))) := ((x121.2.1.set x121.1.2.2.2.2.1.toNat x124).set (wr .i64 (x121.1.2.2.2.2.1 - 1)).toNat x125)
                      let x129 : Bool := (decide ((wr .i64 (x121.1.2.2.2.2.1 - x121.1.2.1)) ≥ 2))
                      bif x129 then
                        f72_l14 k k x121.1.2.1 x121.1.2.2.1 x121.1.2.2.2.2.1 x121.1.2.2.2.2.2.1 (wr .i64 (x121.1.2.2.2.2.1 - 1)) x128
                          (fun x130 : ((Unit × Int × Int × Unit × Int × Int × Unit) × ((List (Int × (Int × Int))) × Unit)) =>
                            f72_j18 k x130.1.2.1 x130.1.2.2.1 x130.1.2.2.2.2.1 x130.1.2.2.2.2.2.1 x130.2.1
                              (fun x131 : ((Unit × Int × Int × Unit × Int × Int × Unit) × ((List (Int × (Int × Int))) × Unit)) =>
                                f72_l3 k j x131.1.2.1 x131.1.2.2.1 x131.1.2.2.2.2.1 (wr .i64 (x131.1.2.2.2.2.2.1 + 1)) x131.2.1 nx,
                              ()),
                          ())
                      else
                        f72_j18 k x121.1.2.1 x121.1.2.2.1 x121.1.2.2.2.2.1 x121.1.2.2.2.2.2.1 x128
                          (fun x132 : ((Unit × Int × Int × Unit × Int × Int × Unit) × ((List (Int × (Int × Int))) × Unit)) =>
                            f72_l3 k j x132.1.2.1 x132.1.2.2.1 x132.1.2.2.2.2.1 (wr .i64 (x132.1.2.2.2.2.2.1 + 1)) x132.2.1 nx,
                          ())
                    else
                      none
                  else
                    none
                else
                  none
              else
                none,
        ())
    else
      nx.1 ((), (v119, ()))
def cf72_l3 (k : Nat) : Cut := { sp := { temps := [(0, .c (.lit (.row 3000000))), (1, .c (.int .i64)), (2, .c (.int .i64)), (3, .c (.lit (.fn 40))), (9, .c (.int .i64)), (10, .c (.int .i64))], blocks := [(3000000, .row 59 (.pair (.int .i64) (.pair (.int .i64) (.int .i64))))], ren := [(3000000, some 3000000)] }, outs := [(.exit 0, { temps := [], blocks := [(3000000, .row 59 (.pair (.int .i64) (.pair (.int .i64) (.int .i64))))], ren := [(3000000, some 3000000)] }), (.ret, { temps := [(8, .c .bool)], blocks := [(3000000, .row 59 (.pair (.int .i64) (.pair (.int .i64) (.int .i64))))], ren := [(3000000, some 3000000)] })], F := fun ρ j v nx => f72_l3 k j v.1.2.1 v.1.2.2.1 v.1.2.2.2.2.1 v.1.2.2.2.2.2.1 v.2.1 nx }
def f72 (k : Nat) (a1 : Int) (a2 : Int) (a3 : (List (Int × (Int × Int)))) : Option ((Bool × Unit) × ((List (Int × (Int × Int))) × Unit)) :=
  f72_l3 k k a1 a2 (wr .i64 (a1 + 1)) 0 a3
    (fun x71 : (Unit × ((List (Int × (Int × Int))) × Unit)) =>
      some ((false, ()), (x71.2.1, ())),
    fun x72 : ((Bool × Unit) × ((List (Int × (Int × Int))) × Unit)) =>
      some ((x72.1.1, ()), (x72.2.1, ())),
    ())
def ef72 : Entry := { id := 72, ar := { temps := [(0, .c (.row 3000000)), (1, .c (.int .i64)), (2, .c (.int .i64)), (3, .c (.lit (.fn 40)))], blocks := [(3000000, .row 59 (.pair (.int .i64) (.pair (.int .i64) (.int .i64))))], ren := [] }, res := { temps := [(0, .c .bool)], blocks := [(3000000, .row 59 (.pair (.int .i64) (.pair (.int .i64) (.int .i64))))], ren := [(3000000, some 3000000)] }, f := fun k v => f72 k v.1.2.1 v.1.2.2.1 v.2.1 }
def gf72 (k : Nat) : Full := { tt := tt, n := 141, fns := [ef40], trunc := [], tails := [], k := k, glob := glob, cuts := [(5, (cf72_l5 k)), (14, (cf72_l14 k)), (20, (cf72_l20 k)), (3, (cf72_l3 k))], joins := [(18, cf72_j18)] }
theorem of72_l5 (k : Nat) : CutOk (gf72 k) (cf72_l5 k) (theLoop Try.f72 5) := fun ρ v nx => ⟨by kernel_rfl, fun j => by kernel_rfl⟩
theorem of72_l14 (k : Nat) : CutOk (gf72 k) (cf72_l14 k) (theLoop Try.f72 14) := fun ρ v nx => ⟨by kernel_rfl, fun j => by kernel_rfl⟩
theorem of72_l20 (k : Nat) : CutOk (gf72 k) (cf72_l20 k) (theLoop Try.f72 20) := fun ρ v nx => ⟨by kernel_rfl, fun j => by kernel_rfl⟩
theorem of72_j18 (k : Nat) : JoinOk (gf72 k) cf72_j18 (theJoin Try.f72 18) := fun ρ v nx => by kernel_rfl
theorem of72_l3 (k : Nat) : CutOk (gf72 k) (cf72_l3 k) (theLoop Try.f72 3) := fun ρ v nx => ⟨by kernel_rfl, fun j => by kernel_rfl⟩
theorem qf72 (k : Nat) : AllP (bodyL (gf72 k) Try.f72) := by
  have h : (CutOk (gf72 k) (cf72_l5 k) (theLoop Try.f72 5) ∧ CutOk (gf72 k) (cf72_l14 k) (theLoop Try.f72 14) ∧ CutOk (gf72 k) (cf72_l20 k) (theLoop Try.f72 20) ∧ JoinOk (gf72 k) cf72_j18 (theJoin Try.f72 18) ∧ CutOk (gf72 k) (cf72_l3 k) (theLoop Try.f72 3) ∧ True) = AllP (bodyL (gf72 k) Try.f72) := by kernel_rfl
  exact Eq.mp h (And.intro (of72_l5 k) (And.intro (of72_l14 k) (And.intro (of72_l20 k) (And.intro (of72_j18 k) (And.intro (of72_l3 k) (trivial))))))
theorem sf72 : Sound Try.prog glob ef72 := sound_of base (fn := Try.f72) Try.func72 (by kernel_rfl) gf72 (fun _ => ⟨rfl, rfl⟩) (fun k j => ⟨sf40.at j, trivial⟩) qf72 (fun k v => by kernel_rfl)

/-! impl.Crease] -/
def f73_l3 {ρ : Type} (k : Nat) : Nat → Int → Int → Int → (List (Int × (Int × Int))) → ((((Unit × Int × Unit × Int × Int × Unit) × ((List (Int × (Int × Int))) × Unit)) → Option ρ) × Unit) → Option ρ
  | 0, _, _, _, _, _ => none
  | j + 1, v38, v39, v40, v41, nx =>
    bif (decide (v39 ≤ v40)) then
      bif decide (0 ≤ v38) && decide (v38 < (v41.length : Int)) then
        (v41[v38.toNat]?).bind fun x42 =>
        bif decide (0 ≤ v39) && decide (v39 < (v41.length : Int)) then
          (v41[v39.toNat]?).bind fun x43 =>
          (f40 k x42.1 x42.2.1 x42.2.2 x43.1 x43.2.1 x43.2.2).bind fun x44 =>
          bif (!(decide (x44.1.1 < 0))) then
            f73_l3 k j v38 (wr .i64 (v39 + 1)) v40 v41 nx
          else
            nx.1 (((), v38, (), v39, v40, ()), (v41, ()))
        else
          none
      else
        none
    else
      nx.1 (((), v38, (), v39, v40, ()), (v41, ()))
def cf73_l3 (k : Nat) : Cut := { sp := { temps := [(0, .c (.lit (.row 3000000))), (1, .c (.int .i64)), (4, .c (.lit (.fn 40))), (11, .c (.int .i64)), (12, .c (.int .i64))], blocks := [(3000000, .row 59 (.pair (.int .i64) (.pair (.int .i64) (.int .i64))))], ren := [(3000000, some 3000000)] }, outs := [(.exit 2, { temps := [(0, .c (.lit (.row 3000000))), (1, .c (.int .i64)), (4, .c (.lit (.fn 40))), (11, .c (.int .i64)), (12, .c (.int .i64))], blocks := [(3000000, .row 59 (.pair (.int .i64) (.pair (.int .i64) (.int .i64))))], ren := [(3000000, some 3000000)] })], F := fun ρ j v nx => f73_l3 k j v.1.2.1 v.1.2.2.2.1 v.1.2.2.2.2.1 v.2.1 nx }
def f73_l5 {ρ : Type} (k : Nat) : Nat → Int → Int → Int → (List (Int × (Int × Int))) → ((((Unit × Int × Unit × Int × Int × Unit) × ((List (Int × (Int × Int))) × Unit)) → Option ρ) × Unit) → Option ρ
  | 0, _, _, _, _, _ => none
  | j + 1, v45, v46, v47, v48, nx =>
    bif (decide (v46 ≤ v47)) then
      bif decide (0 ≤ v45) && decide (v45 < (v48.length : Int)) then
        (v48[v45.toNat]?).bind fun x49 =>
        bif decide (0 ≤ v47) && decide (v47 < (v48.length : Int)) then
          (v48[v47.toNat]?).bind fun x50 =>
          (f40 k x49.1 x49.2.1 x49.2.2 x50.1 x50.2.1 x50.2.2).bind fun x51 =>
          bif (decide (x51.1.1 < 0)) then
            f73_l5 k j v45 v46 (wr .i64 (v47 - 1)) v48 nx
          else
            nx.1 (((), v45, (), v46, v47, ()), (v48, ()))
        else
          none
      else
        none
    else
      nx.1 (((), v45, (), v46, v47, ()), (v48, ()))
def cf73_l5 (k : Nat) : Cut := { sp := { temps := [(0, .c (.lit (.row 3000000))), (1, .c (.int .i64)), (4, .c (.lit (.fn 40))), (11, .c (.int .i64)), (12, .c (.int .i64))], blocks := [(3000000, .row 59 (.pair (.int .i64) (.pair (.int .i64) (.int .i64))))], ren := [(3000000, some 3000000)] }, outs := [(.exit 4, { temps := [(0, .c (.lit (.row 3000000))), (1, .c (.int .i64)), (4, .c (.lit (.fn 40))), (11, .c (.int .i64)), (12, .c (.int .i64))], blocks := [(3000000, .row 59 (.pair (.int .i64) (.pair (.int .i64) (.int .i64))))], ren := [(3000000, some 3000000)] })], F := fun ρ j v nx => f73_l5 k j v.1.2.1 v.1.2.2.2.1 v.1.2.2.2.2.1 v.2.1 nx }
def f73_l100003 {ρ : Type} (k : Nat) : Nat → Int → Int → Int → (List (Int × (Int × Int))) → ((((Int × Unit) × ((List (Int × (Int × Int))) × Unit)) → Option ρ) × Unit) → Option ρ
  | 0, _, _, _, _, _ => none
  | j + 1, v52, v53, v54, v55, nx =>
    f73_l3 k k v52 v53 v54 v55
      (fun x57 : ((Unit × Int × Unit × Int × Int × Unit) × ((List (Int × (Int × Int))) × Unit)) =>
        f73_l5 k k x57.1.2.1 x57.1.2.2.2.1 x57.1.2.2.2.2.1 x57.2.1
          (fun x59 : ((Unit × Int × Unit × Int × Int × Unit) × ((List (Int × (Int × Int))) × Unit)) =>
            bif (decide (x59.1.2.2.2.1 > x59.1.2.2.2.2.1)) then
              nx.1 ((x59.1.2.2.2.1, ()), (x59.2.1, ()))
            else
              bif decide (0 ≤ x59.1.2.2.2.2.1) && decide (x59.1.2.2.2.2.1 < (x59.2.1.length : Int)) then
                (x59.2.1[x59.1.2.2.2.2.1.toNat]?).bind fun x60 =>
                bif decide (0 ≤ x59.1.2.2.2.1) && decide (x59.1.2.2.2.1 < (x59.2.1.length : Int)) then
                  (x59.2.1[x59.1.2.2.2.1.toNat]?).bind fun x61 =>
                  bif decide (0 ≤ x59.1.2.2.2.1) && decide (x59.1.2.2.2.1 < (x59.2.1.length : Int)) then
                    (x59.2.1[x59.1.2.2.2.1.toNat]?).bind fun _ =>
                    bif decide (0 ≤ x59.1.2.2.2.2.1) && decide (x59.1.2.2.2.2.1 < ((x59.2.1.set x59.1.2.2.2.1.toNat x60).length : Int)) then
                      ((x59.2.1.set x59.1.2.2.2.1.toNat x60)[x59.1.2.2.2.2.1.toNat]?).bind fun _ =>
                      let x64 : (List (Int × (Int × Int))) := ((x59.2.1.set x59.1.2.2.2.1.toNat x60).set x59.1.2.2.2.2.1.toNat x61)
                      f73_l100003 k j x59.1.2.1 (wr .i64 (x59.1.2.2.2.1 + 1)) (wr .i64 (x59.1.2.2.2.2.1 - 1)) x64 nx
                    else
                      none
                  else
                    none
                else
                  none
              else
                none,
          ()),
      ())
def cf73_l100003 (k : Nat) : Cut := { sp := { temps := [(0, .c (.lit (.row 3000000))), (1, .c (.int .i64)), (4, .c (.lit (.fn 40))), (11, .c (.int .i64)), (12, .c (.int .i64))], blocks := [(3000000, .row 59 (.pair (.int .i64) (.pair (.int .i64) (.int .i64))))], ren := [(3000000, some 3000000)] }, outs := [(.exit 0, { temps := [(11, .c (.int .i64))], blocks := [(3000000, .row 59 (.pair (.int .i64) (.pair (.int .i64) (.int .i64))))], ren := [(3000000, some 3000000)] })], F := fun ρ j v nx => f73_l100003 k j v.1.2.1 v.1.2.2.2.1 v.1.2.2.2.2.1 v.2.1 nx }
def f73 (k : Nat) (a1 : Int) (a2 : Int) (a3 : Int) (a4 : (List (Int × (Int × Int)))) : Option ((Int × Unit) × ((List (Int × (Int × Int))) × Unit)) :=
  bif decide (0 ≤ a3) && decide (a3 < (a4.length : Int)) then
    (a4[a3.toNat]?).bind fun x33 =>
    bif decide (0 ≤ a1) && decide (a1 < (a4.length : Int)) then
      (a4[a1.toNat]?).bind fun x34 =>
      bif decide (0 ≤ a1) && decide (a1 < (a4.length : Int)) then
        (a4[a1.toNat]?).bind fun _ =>
        bif decide (0 ≤ a3) && decide (a3 < ((a4.set a1.toNat x33).length : Int)) then
          ((a4.set a1.toNat x33)[a3.toNat]?).bind fun _ =>
          f73_l100003 k k a1 (wr .i64 (a1 + 1)) (wr .i64 (a2 - 1)) ((a4.set a1.toNat x33).set a3.toNat x34)
            (fun x37 : ((Int × Unit) × ((List (Int × (Int × Int))) × Unit)) =>
              some ((x37.1.1, ()), (x37.2.1, ())),
            ())
        else
          none
      else
        none
    else
      none
  else
    none
def ef73 : Entry := { id := 73, ar := { temps := [(0, .c (.row 3000000)), (1, .c (.int .i64)), (2, .c (.int .i64)), (3, .c (.int .i64)), (4, .c (.lit (.fn 40)))], blocks := [(3000000, .row 59 (.pair (.int .i64) (.pair (.int .i64) (.int .i64))))], ren := [] }, res := { temps := [(0, .c (.int .i64))], blocks := [(3000000, .row 59 (.pair (.int .i64) (.pair (.int .i64) (.int .i64))))], ren := [(3000000, some 3000000)] }, f := fun k v => f73 k v.1.2.1 v.1.2.2.1 v.1.2.2.2.1 v.2.1 }
def gf73 (k : Nat) : Full := { tt := tt, n := 90, fns := [ef40], trunc := [], tails := [], k := k, glob := glob, cuts := [(3, (cf73_l3 k)), (5, (cf73_l5 k)), (100003, (cf73_l100003 k))], joins := [] }
theorem of73_l3 (k : Nat) : CutOk (gf73 k) (cf73_l3 k) (theLoop Try.f73 3) := fun ρ v nx => ⟨by kernel_rfl, fun j => by kernel_rfl⟩
theorem of73_l5 (k : Nat) : CutOk (gf73 k) (cf73_l5 k) (theLoop Try.f73 5) := fun ρ v nx => ⟨by kernel_rfl, fun j => by kernel_rfl⟩
theorem of73_l100003 (k : Nat) : CutOk (gf73 k) (cf73_l100003 k) (theLoop Try.f73 100003) := fun ρ v nx => ⟨by kernel_rfl, fun j => by kernel_rfl⟩
theorem qf73 (k : Nat) : AllP (bodyL (gf73 k) Try.f73) := by
  have h : (CutOk (gf73 k) (cf73_l3 k) (theLoop Try.f73 3) ∧ CutOk (gf73 k) (cf73_l5 k) (theLoop Try.f73 5) ∧ CutOk (gf73 k) (cf73_l100003 k) (theLoop Try.f73 100003) ∧ True) = AllP (bodyL (gf73 k) Try.f73) := by kernel_rfl
  exact Eq.mp h (And.intro (of73_l3 k) (And.intro (of73_l5 k) (And.intro (of73_l100003 k) (trivial))))
theorem sf73 : Sound Try.prog glob ef73 := sound_of base (fn := Try.f73) Try.func73 (by kernel_rfl) gf73 (fun _ => ⟨rfl, rfl⟩) (fun k j => ⟨sf40.at j, trivial⟩) qf73 (fun k v => by kernel_rfl)

/-! impl.Crease] -/
def f74_l3 {ρ : Type} (k : Nat) : Nat → Int → Int → Int → (List (Int × (Int × Int))) → ((((Unit × Int × Unit × Int × Int × Unit) × ((List (Int × (Int × Int))) × Unit)) → Option ρ) × Unit) → Option ρ
  | 0, _, _, _, _, _ => none
  | j + 1, v102, v103, v104, v105, nx =>
    bif (decide (v103 ≤ v104)) then
      bif decide (0 ≤ v103) && decide (v103 < (v105.length : Int)) then
        (v105[v103.toNat]?).bind fun x106 =>
        bif decide (0 ≤ v102) && decide (v102 < (v105.length : Int)) then
          (v105[v102.toNat]?).bind fun x107 =>
          (f40 k x106.1 x106.2.1 x106.2.2 x107.1 x107.2.1 x107.2.2).bind fun x108 =>
          bif (decide (x108.1.1 < 0)) then
            f74_l3 k j v102 (wr .i64 (v103 + 1)) v104 v105 nx
          else
            nx.1 (((), v102, (), v103, v104, ()), (v105, ()))
        else
          none
      else
        none
    else
      nx.1 (((), v102, (), v103, v104, ()), (v105, ()))
def cf74_l3 (k : Nat) : Cut := { sp := { temps := [(0, .c (.lit (.row 3000000))), (1, .c (.int .i64)), (4, .c (.lit (.fn 40))), (12, .c (.int .i64)), (13, .c (.int .i64))], blocks := [(3000000, .row 59 (.pair (.int .i64) (.pair (.int .i64) (.int .i64))))], ren := [(3000000, some 3000000)] }, outs := [(.exit 0, { temps := [(0, .c (.lit (.row 3000000))), (1, .c (.int .i64)), (4, .c (.lit (.fn 40))), (12, .c (.int .i64)), (13, .c (.int .i64))], blocks := [(3000000, .row 59 (.pair (.int .i64) (.pair (.int .i64) (.int .i64))))], ren := [(3000000, some 3000000)] })], F := fun ρ j v nx => f74_l3 k j v.1.2.1 v.1.2.2.2.1 v.1.2.2.2.2.1 v.2.1 nx }
def f74_l5 {ρ : Type} (k : Nat) : Nat → Int → Int → Int → (List (Int × (Int × Int))) → ((((Unit × Int × Unit × Int × Int × Unit) × ((List (Int × (Int × Int))) × Unit)) → Option ρ) × Unit) → Option ρ
  | 0, _, _, _, _, _ => none
  | j + 1, v109, v110, v111, v112, nx =>
    bif (decide (v110 ≤ v111)) then
      bif decide (0 ≤ v111) && decide (v111 < (v112.length : Int)) then
        (v112[v111.toNat]?).bind fun x113 =>
        bif decide (0 ≤ v109) && decide (v109 < (v112.length : Int)) then
          (v112[v109.toNat]?).bind fun x114 =>
          (f40 k x113.1 x113.2.1 x113.2.2 x114.1 x114.2.1 x114.2.2).bind fun x115 =>
          bif (!(decide (x115.1.1 < 0))) then
            f74_l5 k j v109 v110 (wr .i64 (v111 - 1)) v112 nx
          else
            nx.1 (((), v109, (), v110, v111, ()), (v112, ()))
        else
          none
      else
        none
    else
      nx.1 (((), v109, (), v110, v111, ()), (v112, ()))
def cf74_l5 (k : Nat) : Cut := { sp := { temps := [(0, .c (.lit (.row 3000000))), (1, .c (.int .i64)), (4, .c (.lit (.fn 40))), (12, .c (.int .i64)), (13, .c (.int .i64))], blocks := [(3000000, .row 59 (.pair (.int .i64) (.pair (.int .i64) (.int .i64))))], ren := [(3000000, some 3000000)] }, outs := [(.exit 2, { temps := [(0, .c (.lit (.row 3000000))), (1, .c (.int .i64)), (4, .c (.lit (.fn 40))), (12, .c (.int .i64)), (13, .c (.int .i64))], blocks := [(3000000, .row 59 (.pair (.int .i64) (.pair (.int .i64) (.int .i64))))], ren := [(3000000, some 3000000)] })], F := fun ρ j v nx => f74_l5 k j v.1.2.1 v.1.2.2.2.1 v.1.2.2.2.2.1 v.2.1 nx }
def f74_l13 {ρ : Type} (k : Nat) : Nat → Int → Int → Int → (List (Int × (Int × Int))) → ((((Unit × Int × Unit × Int × Int × Unit) × ((List (Int × (Int × Int))) × Unit)) → Option ρ) × Unit) → Option ρ
  | 0, _, _, _, _, _ => none
  | j + 1, v116, v117, v118, v119, nx =>
    bif (decide (v117 ≤ v118)) then
      bif decide (0 ≤ v117) && decide (v117 < (v119.length : Int)) then
        (v119[v117.toNat]?).bind fun x120 =>
        bif decide (0 ≤ v116) && decide (v116 < (v119.length : Int)) then
          (v119[v116.toNat]?).bind fun x121 =>
          (f40 k x120.1 x120.2.1 x120.2.2 x121.1 x121.2.1 x121.2.2).bind fun x122 =>
          bif (decide (x122.1.1 < 0)) then
            f74_l13 k j v116 (wr .i64 (v117 + 1)) v118 v119 nx
          else
            nx.1 (((), v116, (), v117, v118, ()), (v119, ()))
        else
          none
      else
        none
    else
      nx.1 (((), v116, (), v117, v118, ()), (v119, ()))
def cf74_l13 (k : Nat) : Cut := { sp := { temps := [(0, .c (.lit (.row 3000000))), (1, .c (.int .i64)), (4, .c (.lit (.fn 40))), (12, .c (.int .i64)), (13, .c (.int .i64))], blocks := [(3000000, .row 59 (.pair (.int .i64) (.pair (.int .i64) (.int .i64))))], ren := [(3000000, some 3000000)] }, outs := [(.exit 6, { temps := [(0, .c (.lit (.row 3000000))), (1, .c (.int .i64)), (4, .c (.lit (.fn 40))), (12, .c (.int .i64)), (13, .c (.int .i64))], blocks := [(3000000, .row 59 (.pair (.int .i64) (.pair (.int .i64) (.int .i64))))], ren := [(3000000, some 3000000)] })], F := fun ρ j v nx => f74_l13 k j v.1.2.1 v.1.2.2.2.1 v.1.2.2.2.2.1 v.2.1 nx }
def f74_l15 {ρ : Type} (k : Nat) : Nat → Int → Int → Int → (List (Int × (Int × Int))) → ((((Unit × Int × Unit × Int × Int × Unit) × ((List (Int × (Int × Int))) × Unit)) → Option ρ) × Unit) → Option ρ
  | 0, _, _, _, _, _ => none
  | j + 1, v123, v124, v125, v126, nx =>
    bif (decide (v124 ≤ v125)) then
      bif decide (0 ≤ v125) && decide (v125 < (v126.length : Int)) then
        (v126[v125.toNat]?).bind fun x127 =>
        bif decide (0 ≤ v123) && decide (v123 < (v126.length : Int)) then
          (v126[v123.toNat]?).bind fun x128 =>
          (f40 k x127.1 x127.2.1 x127.2.2 x128.1 x128.2.1 x128.2.2).bind fun x129 =>
          bif (!(decide (x129.1.1 < 0))) then
            f74_l15 k j v123 v124 (wr .i64 (v125 - 1)) v126 nx
          else
            nx.1 (((), v123, (), v124, v125, ()), (v126, ()))
        else
          none
      else
        none
    else
      nx.1 (((), v123, (), v124, v125, ()), (v126, ()))
def cf74_l15 (k : Nat) : Cut := { sp := { temps := [(0, .c (.lit (.row 3000000))), (1, .c (.int .i64)), (4, .c (.lit (.fn 40))), (12, .c (.int .i64)), (13, .c (.int .i64))], blocks := [(3000000, .row 59 (.pair (.int .i64) (.pair (.int .i64) (.int .i64))))], ren := [(3000000, some 3000000)] }, outs := [(.exit 8, { temps := [(0, .c (.lit (.row 3000000))), (1, .c (.int .i64)), (4, .c (.lit (.fn 40))), (12, .c (.int .i64)), (13, .c (.int .i64))], blocks := [(3000000, .row 59 (.pair (.int .i64) (.pair (.int .i64) (.int .i64))))], ren := [(3000000, some 3000000)] })], F := fun ρ j v nx => f74_l15 k j v.1.2.1 v.1.2.2.2.1 v.1.2.2.2.2.1 v.2.1 nx }
def f74_l100013 {ρ : Type} (k : Nat) : Nat → Int → Int → Int → (List (Int × (Int × Int))) → ((((Unit × Int × Int × Unit) × ((List (Int × (Int × Int))) × Unit)) → Option ρ) × Unit) → Option ρ
  | 0, _, _, _, _, _ => none
  | j + 1, v130, v131, v132, v133, nx =>
    f74_l13 k k v130 v131 v132 v133
      (fun x135 : ((Unit × Int × Unit × Int × Int × Unit) × ((List (Int × (Int × Int))) × Unit)) =>
        f74_l15 k k x135.1.2.1 x135.1.2.2.2.1 x135.1.2.2.2.2.1 x135.2.1
          (fun x137 : ((Unit × Int × Unit × Int × Int × Unit) × ((List (Int × (Int × Int))) × Unit)) =>
            bif (decide (x137.1.2.2.2.1 > x137.1.2.2.2.2.1)) then
              nx.1 (((), x137.1.2.1, x137.1.2.2.2.2.1, ()), (x137.2.1, ()))
            else
              bif decide (0 ≤ x137.1.2.2.2.2.1) && decide (x137.1.2.2.2.2.1 < (x137.2.1.length : Int)) then
                (x137.2.1[x137.1.2.2.2.2.1.toNat]?).bind fun x138 =>
                bif decide (0 ≤ x137.1.2.2.2.1) && decide (x137.1.2.2.2.1 < (x137.2.1.length : Int)) then
                  (x137.2.1[x137.1.2.2.2.1.toNat]?).bind fun x139 =>
                  bif decide (0 ≤ x137.1.2.2.2.1) && decide (x137.1.2.2.2.1 < (x137.2.1.length : Int)) then
                    (x137.2.1[x137.1.2.2.2.1.toNat]?).bind fun _ =>
                    bif decide (0 ≤ x137.1.2.2.2.2.1) && decide (x137.1.2.2.2.2.1 < ((x137.2.1.set x137.1.2.2.2.1.toNat x138).length : Int)) then
                      ((x137.2.1.set x137.1.2.2.2.1.toNat x138)[x137.1.2.2.2.2.1.toNat]?).bind fun _ =>
                      let x142 : (List (Int × (Int × Int))) := ((x137.2.1.set x137.1.2.2.2.1.toNat x138).set x137.1.2.2.2.2.1.toNat x139)
                      f74_l100013 k j x137.1.2.1 (wr .i64 (x137.1.2.2.2.1 + 1)) (wr .i64 (x137.1.2.2.2.2.1 - 1)) x142 nx
                    else
                      none
                  else
                    none
                else
                  none
              else
                none,
          ()),
      ())
def cf74_l100013 (k : Nat) : Cut := { sp := { temps := [(0, .c (.lit (.row 3000000))), (1, .c (.int .i64)), (4, .c (.lit (.fn 40))), (12, .c (.int .i64)), (13, .c (.int .i64))], blocks := [(3000000, .row 59 (.pair (.int .i64) (.pair (.int .i64) (.int .i64))))], ren := [(3000000, some 3000000)] }, outs := [(.exit 4, { temps := [(0, .c (.lit (.row 3000000))), (1, .c (.int .i64)), (13, .c (.int .i64))], blocks := [(3000000, .row 59 (.pair (.int .i64) (.pair (.int .i64) (.int .i64))))], ren := [(3000000, some 3000000)] })], F := fun ρ j v nx => f74_l100013 k j v.1.2.1 v.1.2.2.2.1 v.1.2.2.2.2.1 v.2.1 nx }
def f74 (k : Nat) (a1 : Int) (a2 : Int) (a3 : Int) (a4 : (List (Int × (Int × Int)))) : Option ((Int × Bool × Unit) × ((List (Int × (Int × Int))) × Unit)) :=
  bif decide (0 ≤ a3) && decide (a3 < (a4.length : Int)) then
    (a4[a3.toNat]?).bind fun x72 =>
    bif decide (0 ≤ a1) && decide (a1 < (a4.length : Int)) then
      (a4[a1.toNat]?).bind fun x73 =>
      bif decide (0 ≤ a1) && decide (a1 < (a4.length : Int)) then
        (a4[a1.toNat]?).bind fun _ =>
        bif decide (0 ≤ a3) && decide (a3 < ((a4.set a1.toNat x72).length : Int)) then
          ((a4.set a1.toNat x72)[a3.toNat]?).bind fun _ =>
          f74_l3 k k a1 (wr .i64 (a1 + 1)) (wr .i64 (a2 - 1)) ((a4.set a1.toNat x72).set a3.toNat x73)
            (fun x77 : ((Unit × Int × Unit × Int × Int × Unit) × ((List (Int × (Int × Int))) × Unit)) =>
              f74_l5 k k x77.1.2.1 x77.1.2.2.2.1 x77.1.2.2.2.2.1 x77.2.1
                (fun x79 : ((Unit × Int × Unit × Int × Int × Unit) × ((List (Int × (Int × Int))) × Unit)) =>
                  bif (decide (x79.1.2.2.2.1 > x79.1.2.2.2.2.1)) then
                    bif decide (0 ≤ x79.1.2.1) && decide (x79.1.2.1 < (x79.2.1.length : Int)) then
                      (x79.2.1[x79.1.2.1.toNat]?).bind fun x85 =>
                      bif decide (0 ≤ x79.1.2.2.2.2.1) && decide (x79.1.2.2.2.2.1 < (x79.2.1.length : Int)) then
                        (x79.2.1[x79.1.2.2.2.2.1.toNat]?).bind fun x86 =>
                        bif decide (0 ≤ x79.1.2.2.2.2.1) && decide (x79.1.2.2.2.2.1 < (x79.2.1.length : Int)) then
                          (x79.2.1[x79.1.2.2.2.2.1.toNat]?).bind fun _ =>
                          bif decide (0 ≤ x79.1.2.1) && decide (x79.1.2.1 < ((x79.2.1.set x79.1.2.2.2.2.1.toNat x85).length : Int)) then
                            ((x79.2.1.set x79.1.2.2.2.2.1.toNat x85)[x79.1.2.1.toNat]?).bind fun _ =>
                            let x89 : (List (Int × (Int × Int))) := ((x79.2.1.set x79.1.2.2.2.2.1.toNat x85).set x79.1.2.1.toNat x86)
                            some ((x79.1.2.2.2.2.1, true, ()), (x89, ()))
                          else
                            none
                        else
                          none
                      else
                        none
                    else
                      none
                  else
                    bif decide (0 ≤ x79.1.2.2.2.2.1) && decide (x79.1.2.2.2.2.1 < (x79.2.1.length : Int)) then
                      (x79.2.1[x79.1.2.2.2.2.1.toNat]?).bind fun x90 =>
                      bif decide (0 ≤ x79.1.2.2.2.1) && decide (x79.1.2.2.2.1 < (x79.2.1.length : Int)) then
                        (x79.2.1[x79.1.2.2.2.1.toNat]?).bind fun x91 =>
                        bif decide (0 ≤ x79.1.2.2.2.1) && decide (x79.1.2.2.2.1 < (x79.2.1.length : Int)) then
                          (x79.2.1[x79.1.2.2.2.1.toNat]?).bind fun _ =>
                          bif decide (0 ≤ x79.1.2.2.2.2.1) && decide (x79.1.2.2.2.2.1 < ((x79.2.1.set x79.1.2.2.2.1.toNat x90).length : Int)) then
                            ((x79.2.1.set x79.1.2.2.2.1.toNat x90)[x79.1.2.2.2.2.1.toNat]?).bind fun _ =>
                            let x94 : (List (Int × (Int × Int))) := ((x79.2.1.set x79.1.2.2.2.1.toNat x90).set x79.1.2.2.2.2.1.toNat x91)
                            f74_l100013 k k x79.1.2.1 (wr .i64 (x79.1.2.2.2.1 + 1)) (wr .i64 (x79.1.2.2.2.2.1 - 1)) x94
                              (fun x96 : ((Unit × Int × Int × Unit) × ((List (Int × (Int × Int))) × Unit)) =>
                                bif decide (0 ≤ x96.1.2.1) && decide (x96.1.2.1 < (x96.2.1.length : Int)) then
                                  (x96.2.1[x96.1.2.1.toNat]?).bind fun x97 =>
                                  bif decide (0 ≤ x96.1.2.2.1) && decide (x96.1.2.2.1 < (x96.2.1.length : Int)) then
                                    (x96.2.1[x96.1.2.2.1.toNat]?).bind fun x98 =>
                                    bif decide (0 ≤ x96.1.2.2.1) && decide (x96.1.2.2.1 < (x96.2.1.length : Int)) then
                                      (x96.2.1[x96.1.2.2.1.toNat]?).bind fun _ =>
                                      bif decide (0 ≤ x96.1.2.1) && decide (x96.1.2.1 < ((x96.2.1.set x96.1.2.2.1.toNat x97).length : Int)) then
                                        ((x96.2.1.set x96.1.2.2.1.toNat x97)[x96.1.2.1.toNat]?).bind fun _ =>
                                        let x101 : (List (Int × (Int × Int))) := ((x96.2.1.set x96.1.2.2.1.toNat x97).set x96.1.2.1.toNat x98)
                                        some ((x96.1.2.2.1, false, ()), (x101, ()))
                                      else
                                        none
                                    else
                                      none
                                  else
                                    none
                                else
                                  none,
                              ())
                          else
                            none
                        else
                          none
                      else
                        none
                    else
                      none,
                ()),
            ())
        else
          none
      else
        none
    else
      none
  else
    none
def ef74 : Entry := { id := 74, ar := { temps := [(0, .c (.row 3000000)), (1, .c (.int .i64)), (2, .c (.int .i64)), (3, .c (.int .i64)), (4, .c (.lit (.fn 40)))], blocks := [(3000000, .row 59 (.pair (.int .i64) (.pair (.int .i64) (.int .i64))))], ren := [] }, res := { temps := [(0, .c (.int .i64)), (1, .c .bool)], blocks := [(3000000, .row 59 (.pair (.int .i64) (.pair (.int .i64) (.int .i64))))], ren := [(3000000, some 3000000)] }, f := fun k v => f74 k v.1.2.1 v.1.2.2.1 v.1.2.2.2.1 v.2.1 }
def gf74 (k : Nat) : Full := { tt := tt, n := 178, fns := [ef40], trunc := [], tails := [], k := k, glob := glob, cuts := [(3, (cf74_l3 k)), (5, (cf74_l5 k)), (13, (cf74_l13 k)), (15, (cf74_l15 k)), (100013, (cf74_l100013 k))], joins := [] }
theorem of74_l3 (k : Nat) : CutOk (gf74 k) (cf74_l3 k) (theLoop Try.f74 3) := fun ρ v nx => ⟨by kernel_rfl, fun j => by kernel_rfl⟩
theorem of74_l5 (k : Nat) : CutOk (gf74 k) (cf74_l5 k) (theLoop Try.f74 5) := fun ρ v nx => ⟨by kernel_rfl, fun j => by kernel_rfl⟩
theorem of74_l13 (k : Nat) : CutOk (gf74 k) (cf74_l13 k) (theLoop Try.f74 13) := fun ρ v nx => ⟨by kernel_rfl, fun j => by kernel_rfl⟩
theorem of74_l15 (k : Nat) : CutOk (gf74 k) (cf74_l15 k) (theLoop Try.f74 15) := fun ρ v nx => ⟨by kernel_rfl, fun j => by kernel_rfl⟩
theorem of74_l100013 (k : Nat) : CutOk (gf74 k) (cf74_l100013 k) (theLoop Try.f74 100013) := fun ρ v nx => ⟨by kernel_rfl, fun j => by kernel_rfl⟩
theorem qf74 (k : Nat) : AllP (bodyL (gf74 k) Try.f74) := by
  have h : (CutOk (gf74 k) (cf74_l3 k) (theLoop Try.f74 3) ∧ CutOk (gf74 k) (cf74_l5 k) (theLoop Try.f74 5) ∧ CutOk (gf74 k) (cf74_l13 k) (theLoop Try.f74 13) ∧ CutOk (gf74 k) (cf74_l15 k) (theLoop Try.f74 15) ∧ CutOk (gf74 k) (cf74_l100013 k) (theLoop Try.f74 100013) ∧ True) = AllP (bodyL (gf74 k) Try.f74) := by kernel_rfl
  exact Eq.mp h (And.intro (of74_l3 k) (And.intro (of74_l5 k) (And.intro (of74_l13 k) (And.intro (of74_l15 k) (And.intro (of74_l100013 k) (trivial))))))
theorem sf74 : Sound Try.prog glob ef74 := sound_of base (fn := Try.f74) Try.func74 (by kernel_rfl) gf74 (fun _ => ⟨rfl, rfl⟩) (fun k j => ⟨sf40.at j, trivial⟩) qf74 (fun k v => by kernel_rfl)

/-! impl.Crease] -/
def f50_j20 {ρ : Type} (self : Int → Int → Int → (List (Int × (Int × Int))) → Option (Unit × ((List (Int × (Int × Int))) × Unit))) (k : Nat) (v153 : Int) (v154 : Int) (v155 : Int) (v156 : Int) (v157 : Int) (v158 : (List (Int × (Int × Int)))) (nx : ((((Unit × Int × Int × Int × Unit × Bool × Bool × Unit) × ((List (Int × (Int × Int))) × Unit)) → Option ρ) × Unit)) : Option ρ :=
  (f74 k v153 v154 v157 v158).bind fun x159 =>
  let x160 : Bool := (decide ((wr .i64 (x159.1.1 - v153)) < (wr .i64 (v154 - x159.1.1))))
  bif x160 then
    let x161 : Bool := (decide ((wr .i64 (x159.1.1 - v153)) ≥ (wr .i64 (v156.tdiv 8))))
    (self v153 x159.1.1 v155 x159.2.1).bind fun x162 =>
    nx.1 (((), (wr .i64 (x159.1.1 + 1)), v154, v155, (), x161, x159.1.2.1, ()), (x162.2.1, ()))
  else
    let x163 : Bool := (decide ((wr .i64 (v154 - x159.1.1)) ≥ (wr .i64 (v156.tdiv 8))))
    (self (wr .i64 (x159.1.1 + 1)) v154 v155 x159.2.1).bind fun x164 =>
    nx.1 (((), v153, x159.1.1, v155, (), x163, x159.1.2.1, ()), (x164.2.1, ()))
def cf50_j20 (self : Int → Int → Int → (List (Int × (Int × Int))) → Option (Unit × ((List (Int × (Int × Int))) × Unit))) : Cut := { sp := { temps := [(0, .c (.lit (.row 3000000))), (1, .c (.int .i64)), (2, .c (.int .i64)), (3, .c (.int .i64)), (4, .c (.lit (.fn 40))), (12, .c (.int .i64)), (13, .c (.int .i64))], blocks := [(3000000, .row 59 (.pair (.int .i64) (.pair (.int .i64) (.int .i64))))], ren := [(3000000, some 3000000)] }, outs := [(.normal, { temps := [(0, .c (.lit (.row 3000000))), (1, .c (.int .i64)), (2, .c (.int .i64)), (3, .c (.int .i64)), (4, .c (.lit (.fn 40))), (10, .c .bool), (11, .c .bool)], blocks := [(3000000, .row 59 (.pair (.int .i64) (.pair (.int .i64) (.int .i64))))], ren := [(3000000, some 3000000)] })], F := fun ρ k v nx => f50_j20 self k v.1.2.1 v.1.2.2.1 v.1.2.2.2.1 v.1.2.2.2.2.2.1 v.1.2.2.2.2.2.2.1 v.2.1 nx }
def f50_j17 {ρ : Type} (self : Int → Int → Int → (List (Int × (Int × Int))) → Option (Unit × ((List (Int × (Int × Int))) × Unit))) (k : Nat) (v139 : Int) (v140 : Int) (v141 : Int) (v142 : Bool) (v143 : Bool) (v144 : Int) (v145 : Int) (v146 : (List (Int × (Int × Int)))) (nx : ((((Unit × Int × Int × Int × Unit × Bool × Bool × Unit) × ((List (Int × (Int × Int))) × Unit)) → Option ρ) × (((Unit × Int × Int × Int × Unit × Bool × Bool × Unit) × ((List (Int × (Int × Int))) × Unit)) → Option ρ) × Unit)) : Option ρ :=
  bif (decide (v139 > 0)) then
    bif decide (0 ≤ (wr .i64 (v139 - 1))) && decide ((wr .i64 (v139 - 1)) < (v146.length : Int)) then
      (v146[(wr .i64 (v139 - 1)).toNat]?).bind fun x147 =>
      bif decide (0 ≤ v145) && decide (v145 < (v146.length : Int)) then
        (v146[v145.toNat]?).bind fun x148 =>
        (f40 k x147.1 x147.2.1 x147.2.2 x148.1 x148.2.1 x148.2.2).bind fun x149 =>
        bif (!(decide (x149.1.1 < 0))) then
          (f73 k v139 v140 v145 v146).bind fun x150 =>
          nx.1 (((), x150.1.1, v140, v141, (), v142, v143, ()), (x150.2.1, ()))
        else
          f50_j20 self k v139 v140 v141 v144 v145 v146
            (fun x151 : ((Unit × Int × Int × Int × Unit × Bool × Bool × Unit) × ((List (Int × (Int × Int))) × Unit)) =>
              nx.2.1 (((), x151.1.2.1, x151.1.2.2.1, x151.1.2.2.2.1, (), x151.1.2.2.2.2.2.1, x151.1.2.2.2.2.2.2.1, ()), (x151.2.1, ())),
            ())
      else
        none
    else
      none
  else
    f50_j20 self k v139 v140 v141 v144 v145 v146
      (fun x152 : ((Unit × Int × Int × Int × Unit × Bool × Bool × Unit) × ((List (Int × (Int × Int))) × Unit)) =>
        nx.2.1 (((), x152.1.2.1, x152.1.2.2.1, x152.1.2.2.2.1, (), x152.1.2.2.2.2.2.1, x152.1.2.2.2.2.2.2.1, ()), (x152.2.1, ())),
      ())
def cf50_j17 (self : Int → Int → Int → (List (Int × (Int × Int))) → Option (Unit × ((List (Int × (Int × Int))) × Unit))) : Cut := { sp := { temps := [(0, .c (.lit (.row 3000000))), (1, .c (.int .i64)), (2, .c (.int .i64)), (3, .c (.int .i64)), (4, .c (.lit (.fn 40))), (10, .c .bool), (11, .c .bool), (12, .c (.int .i64)), (13, .c (.int .i64))], blocks := [(3000000, .row 59 (.pair (.int .i64) (.pair (.int .i64) (.int .i64))))], ren := [(3000000, some 3000000)] }, outs := [(.exit 1, { temps := [(0, .c (.lit (.row 3000000))), (1, .c (.int .i64)), (2, .c (.int .i64)), (3, .c (.int .i64)), (4, .c (.lit (.fn 40))), (10, .c .bool), (11, .c .bool)], blocks := [(3000000, .row 59 (.pair (.int .i64) (.pair (.int .i64) (.int .i64))))], ren := [(3000000, some 3000000)] }), (.normal, { temps := [(0, .c (.lit (.row 3000000))), (1, .c (.int .i64)), (2, .c (.int .i64)), (3, .c (.int .i64)), (4, .c (.lit (.fn 40))), (10, .c .bool), (11, .c .bool)], blocks := [(3000000, .row 59 (.pair (.int .i64) (.pair (.int .i64) (.int .i64))))], ren := [(3000000, some 3000000)] })], F := fun ρ k v nx => f50_j17 self k v.1.2.1 v.1.2.2.1 v.1.2.2.2.1 v.1.2.2.2.2.2.1 v.1.2.2.2.2.2.2.1 v.1.2.2.2.2.2.2.2.1 v.1.2.2.2.2.2.2.2.2.1 v.2.1 nx }
def f50_j15 {ρ : Type} (self : Int → Int → Int → (List (Int × (Int × Int))) → Option (Unit × ((List (Int × (Int × Int))) × Unit))) (k : Nat) (v121 : Int) (v122 : Int) (v123 : Int) (v124 : Bool) (v125 : Bool) (v126 : Int) (v127 : Int) (v128 : Int) (v129 : (List (Int × (Int × Int)))) (nx : ((((Unit × Int × Int × Int × Unit × Bool × Bool × Unit) × ((List (Int × (Int × Int))) × Unit)) → Option ρ) × (((Unit × Int × Int × Int × Unit × Bool × Bool × Unit) × ((List (Int × (Int × Int))) × Unit)) → Option ρ) × ((Unit × ((List (Int × (Int × Int))) × Unit)) → Option ρ) × Unit)) : Option ρ :=
  bif v124 then
    bif v125 then
      bif (v128 == 1) then
        (f72 k v121 v122 v129).bind fun x130 =>
        bif x130.1.1 then
          nx.2.2.1 ((), (x130.2.1, ()))
        else
          f50_j17 self k v121 v122 v123 v124 v125 v126 v127 x130.2.1
            (fun x131 : ((Unit × Int × Int × Int × Unit × Bool × Bool × Unit) × ((List (Int × (Int × Int))) × Unit)) =>
              nx.1 (((), x131.1.2.1, x131.1.2.2.1, x131.1.2.2.2.1, (), x131.1.2.2.2.2.2.1, x131.1.2.2.2.2.2.2.1, ()), (x131.2.1, ())),
            fun x132 : ((Unit × Int × Int × Int × Unit × Bool × Bool × Unit) × ((List (Int × (Int × Int))) × Unit)) =>
              nx.2.1 (((), x132.1.2.1, x132.1.2.2.1, x132.1.2.2.2.1, (), x132.1.2.2.2.2.2.1, x132.1.2.2.2.2.2.2.1, ()), (x132.2.1, ())),
            ())
      else
        f50_j17 self k v121 v122 v123 v124 v125 v126 v127 v129
          (fun x133 : ((Unit × Int × Int × Int × Unit × Bool × Bool × Unit) × ((List (Int × (Int × Int))) × Unit)) =>
            nx.1 (((), x133.1.2.1, x133.1.2.2.1, x133.1.2.2.2.1, (), x133.1.2.2.2.2.2.1, x133.1.2.2.2.2.2.2.1, ()), (x133.2.1, ())),
          fun x134 : ((Unit × Int × Int × Int × Unit × Bool × Bool × Unit) × ((List (Int × (Int × Int))) × Unit)) =>
            nx.2.1 (((), x134.1.2.1, x134.1.2.2.1, x134.1.2.2.2.1, (), x134.1.2.2.2.2.2.1, x134.1.2.2.2.2.2.2.1, ()), (x134.2.1, ())),
          ())
    else
      f50_j17 self k v121 v122 v123 v124 v125 v126 v127 v129
        (fun x135 : ((Unit × Int × Int × Int × Unit × Bool × Bool × Unit) × ((List (Int × (Int × Int))) × Unit)) =>
          nx.1 (((), x135.1.2.1, x135.1.2.2.1, x135.1.2.2.2.1, (), x135.1.2.2.2.2.2.1, x135.1.2.2.2.2.2.2.1, ()), (x135.2.1, ())),
        fun x136 : ((Unit × Int × Int × Int × Unit × Bool × Bool × Unit) × ((List (Int × (Int × Int))) × Unit)) =>
          nx.2.1 (((), x136.1.2.1, x136.1.2.2.1, x136.1.2.2.2.1, (), x136.1.2.2.2.2.2.1, x136.1.2.2.2.2.2.2.1, ()), (x136.2.1, ())),
        ())
  else
    f50_j17 self k v121 v122 v123 v124 v125 v126 v127 v129
      (fun x137 : ((Unit × Int × Int × Int × Unit × Bool × Bool × Unit) × ((List (Int × (Int × Int))) × Unit)) =>
        nx.1 (((), x137.1.2.1, x137.1.2.2.1, x137.1.2.2.2.1, (), x137.1.2.2.2.2.2.1, x137.1.2.2.2.2.2.2.1, ()), (x137.2.1, ())),
      fun x138 : ((Unit × Int × Int × Int × Unit × Bool × Bool × Unit) × ((List (Int × (Int × Int))) × Unit)) =>
        nx.2.1 (((), x138.1.2.1, x138.1.2.2.1, x138.1.2.2.2.1, (), x138.1.2.2.2.2.2.1, x138.1.2.2.2.2.2.2.1, ()), (x138.2.1, ())),
      ())
def cf50_j15 (self : Int → Int → Int → (List (Int × (Int × Int))) → Option (Unit × ((List (Int × (Int × Int))) × Unit))) : Cut := { sp := { temps := [(0, .c (.lit (.row 3000000))), (1, .c (.int .i64)), (2, .c (.int .i64)), (3, .c (.int .i64)), (4, .c (.lit (.fn 40))), (10, .c .bool), (11, .c .bool), (12, .c (.int .i64)), (13, .c (.int .i64)), (14, .c (.int .i64))], blocks := [(3000000, .row 59 (.pair (.int .i64) (.pair (.int .i64) (.int .i64))))], ren := [(3000000, some 3000000)] }, outs := [(.exit 1, { temps := [(0, .c (.lit (.row 3000000))), (1, .c (.int .i64)), (2, .c (.int .i64)), (3, .c (.int .i64)), (4, .c (.lit (.fn 40))), (10, .c .bool), (11, .c .bool)], blocks := [(3000000, .row 59 (.pair (.int .i64) (.pair (.int .i64) (.int .i64))))], ren := [(3000000, some 3000000)] }), (.normal, { temps := [(0, .c (.lit (.row 3000000))), (1, .c (.int .i64)), (2, .c (.int .i64)), (3, .c (.int .i64)), (4, .c (.lit (.fn 40))), (10, .c .bool), (11, .c .bool)], blocks := [(3000000, .row 59 (.pair (.int .i64) (.pair (.int .i64) (.int .i64))))], ren := [(3000000, some 3000000)] }), (.ret, { temps := [], blocks := [(3000000, .row 59 (.pair (.int .i64) (.pair (.int .i64) (.int .i64))))], ren := [(3000000, some 3000000)] })], F := fun ρ k v nx => f50_j15 self k v.1.2.1 v.1.2.2.1 v.1.2.2.2.1 v.1.2.2.2.2.2.1 v.1.2.2.2.2.2.2.1 v.1.2.2.2.2.2.2.2.1 v.1.2.2.2.2.2.2.2.2.1 v.1.2.2.2.2.2.2.2.2.2.1 v.2.1 nx }
def f50_j10 {ρ : Type} (self : Int → Int → Int → (List (Int × (Int × Int))) → Option (Unit × ((List (Int × (Int × Int))) × Unit))) (k : Nat) (v105 : Int) (v106 : Int) (v107 : Int) (v108 : Bool) (v109 : Bool) (v110 : Int) (v111 : (List (Int × (Int × Int)))) (nx : ((((Unit × Int × Int × Int × Unit × Bool × Bool × Unit) × ((List (Int × (Int × Int))) × Unit)) → Option ρ) × (((Unit × Int × Int × Int × Unit × Bool × Bool × Unit) × ((List (Int × (Int × Int))) × Unit)) → Option ρ) × ((Unit × ((List (Int × (Int × Int))) × Unit)) → Option ρ) × Unit)) : Option ρ :=
  (f70 k v111 v105 v106).bind fun x112 =>
  bif (x112.1.2.1 == 2) then
    (f71 k v105 v106 v111).bind fun x113 =>
    let x114 : Int := (wr .i64 ((wr .i64 (v106 - 1)) - (wr .i64 (x112.1.1 - v105))))
    f50_j15 self k v105 v106 v107 v108 v109 v110 x114 1 x113.2.1
      (fun x115 : ((Unit × Int × Int × Int × Unit × Bool × Bool × Unit) × ((List (Int × (Int × Int))) × Unit)) =>
        nx.1 (((), x115.1.2.1, x115.1.2.2.1, x115.1.2.2.2.1, (), x115.1.2.2.2.2.2.1, x115.1.2.2.2.2.2.2.1, ()), (x115.2.1, ())),
      fun x116 : ((Unit × Int × Int × Int × Unit × Bool × Bool × Unit) × ((List (Int × (Int × Int))) × Unit)) =>
        nx.2.1 (((), x116.1.2.1, x116.1.2.2.1, x116.1.2.2.2.1, (), x116.1.2.2.2.2.2.1, x116.1.2.2.2.2.2.2.1, ()), (x116.2.1, ())),
      fun x117 : (Unit × ((List (Int × (Int × Int))) × Unit)) =>
        nx.2.2.1 ((), (x117.2.1, ())),
      ())
  else
    f50_j15 self k v105 v106 v107 v108 v109 v110 x112.1.1 x112.1.2.1 v111
      (fun x118 : ((Unit × Int × Int × Int × Unit × Bool × Bool × Unit) × ((List (Int × (Int × Int))) × Unit)) =>
        nx.1 (((), x118.1.2.1, x118.1.2.2.1, x118.1.2.2.2.1, (), x118.1.2.2.2.2.2.1, x118.1.2.2.2.2.2.2.1, ()), (x118.2.1, ())),
      fun x119 : ((Unit × Int × Int × Int × Unit × Bool × Bool × Unit) × ((List (Int × (Int × Int))) × Unit)) =>
        nx.2.1 (((), x119.1.2.1, x119.1.2.2.1, x119.1.2.2.2.1, (), x119.1.2.2.2.2.2.1, x119.1.2.2.2.2.2.2.1, ()), (x119.2.1, ())),
      fun x120 : (Unit × ((List (Int × (Int × Int))) × Unit)) =>
        nx.2.2.1 ((), (x120.2.1, ())),
      ())
def cf50_j10 (self : Int → Int → Int → (List (Int × (Int × Int))) → Option (Unit × ((List (Int × (Int × Int))) × Unit))) : Cut := { sp := { temps := [(0, .c (.lit (.row 3000000))), (1, .c (.int .i64)), (2, .c (.int .i64)), (3, .c (.int .i64)), (4, .c (.lit (.fn 40))), (10, .c .bool), (11, .c .bool), (12, .c (.int .i64))], blocks := [(3000000, .row 59 (.pair (.int .i64) (.pair (.int .i64) (.int .i64))))], ren := [(3000000, some 3000000)] }, outs := [(.exit 1, { temps := [(0, .c (.lit (.row 3000000))), (1, .c (.int .i64)), (2, .c (.int .i64)), (3, .c (.int .i64)), (4, .c (.lit (.fn 40))), (10, .c .bool), (11, .c .bool)], blocks := [(3000000, .row 59 (.pair (.int .i64) (.pair (.int .i64) (.int .i64))))], ren := [(3000000, some 3000000)] }), (.normal, { temps := [(0, .c (.lit (.row 3000000))), (1, .c (.int .i64)), (2, .c (.int .i64)), (3, .c (.int .i64)), (4, .c (.lit (.fn 40))), (10, .c .bool), (11, .c .bool)], blocks := [(3000000, .row 59 (.pair (.int .i64) (.pair (.int .i64) (.int .i64))))], ren := [(3000000, some 3000000)] }), (.ret, { temps := [], blocks := [(3000000, .row 59 (.pair (.int .i64) (.pair (.int .i64) (.int .i64))))], ren := [(3000000, some 3000000)] })], F := fun ρ k v nx => f50_j10 self k v.1.2.1 v.1.2.2.1 v.1.2.2.2.1 v.1.2.2.2.2.2.1 v.1.2.2.2.2.2.2.1 v.1.2.2.2.2.2.2.2.1 v.2.1 nx }
def f50_l2 {ρ : Type} (self : Int → Int → Int → (List (Int × (Int × Int))) → Option (Unit × ((List (Int × (Int × Int))) × Unit))) (k : Nat) : Nat → Int → Int → Int → Bool → Bool → (List (Int × (Int × Int))) → (((Unit × ((List (Int × (Int × Int))) × Unit)) → Option ρ) × Unit) → Option ρ
  | 0, _, _, _, _, _, _, _ => none
  | j + 1, v88, v89, v90, v91, v92, v93, nx =>
    bif (decide ((wr .i64 (v89 - v88)) ≤ 12)) then
      (f67 k v88 v89 v93).bind fun x95 =>
      nx.1 ((), (x95.2.1, ()))
    else
      bif (v90 == 0) then
        (f68 k v88 v89 v93).bind fun x97 =>
        nx.1 ((), (x97.2.1, ()))
      else
        bif (!v91) then
          (f69 k v88 v89 v93).bind fun x98 =>
          f50_j10 self k v88 v89 (wr .i64 (v90 - 1)) v91 v92 (wr .i64 (v89 - v88)) x98.2.1
            (fun x99 : ((Unit × Int × Int × Int × Unit × Bool × Bool × Unit) × ((List (Int × (Int × Int))) × Unit)) =>
              f50_l2 self k j x99.1.2.1 x99.1.2.2.1 x99.1.2.2.2.1 x99.1.2.2.2.2.2.1 x99.1.2.2.2.2.2.2.1 x99.2.1 nx,
            fun x100 : ((Unit × Int × Int × Int × Unit × Bool × Bool × Unit) × ((List (Int × (Int × Int))) × Unit)) =>
              f50_l2 self k j x100.1.2.1 x100.1.2.2.1 x100.1.2.2.2.1 x100.1.2.2.2.2.2.1 x100.1.2.2.2.2.2.2.1 x100.2.1 nx,
            fun x101 : (Unit × ((List (Int × (Int × Int))) × Unit)) =>
              nx.1 ((), (x101.2.1, ())),
            ())
        else
          f50_j10 self k v88 v89 v90 v91 v92 (wr .i64 (v89 - v88)) v93
            (fun x102 : ((Unit × Int × Int × Int × Unit × Bool × Bool × Unit) × ((List (Int × (Int × Int))) × Unit)) =>
              f50_l2 self k j x102.1.2.1 x102.1.2.2.1 x102.1.2.2.2.1 x102.1.2.2.2.2.2.1 x102.1.2.2.2.2.2.2.1 x102.2.1 nx,
            fun x103 : ((Unit × Int × Int × Int × Unit × Bool × Bool × Unit) × ((List (Int × (Int × Int))) × Unit)) =>
              f50_l2 self k j x103.1.2.1 x103.1.2.2.1 x103.1.2.2.2.1 x103.1.2.2.2.2.2.1 x103.1.2.2.2.2.2.2.1 x103.2.1 nx,
            fun x104 : (Unit × ((List (Int × (Int × Int))) × Unit)) =>
              nx.1 ((), (x104.2.1, ())),
            ())
def cf50_l2 (self : Int → Int → Int → (List (Int × (Int × Int))) → Option (Unit × ((List (Int × (Int × Int))) × Unit))) (k : Nat) : Cut := { sp := { temps := [(0, .c (.lit (.row 3000000))), (1, .c (.int .i64)), (2, .c (.int .i64)), (3, .c (.int .i64)), (4, .c (.lit (.fn 40))), (10, .c .bool), (11, .c .bool)], blocks := [(3000000, .row 59 (.pair (.int .i64) (.pair (.int .i64) (.int .i64))))], ren := [(3000000, some 3000000)] }, outs := [(.ret, { temps := [], blocks := [(3000000, .row 59 (.pair (.int .i64) (.pair (.int .i64) (.int .i64))))], ren := [(3000000, some 3000000)] })], F := fun ρ j v nx => f50_l2 self k j v.1.2.1 v.1.2.2.1 v.1.2.2.2.1 v.1.2.2.2.2.2.1 v.1.2.2.2.2.2.2.1 v.2.1 nx }
def f50 : Nat → Int → Int → Int → (List (Int × (Int × Int))) → Option (Unit × ((List (Int × (Int × Int))) × Unit))
  | 0, _, _, _, _ => none
  | k + 1, a1, a2, a3, a4 =>
    f50_l2 (f50 k) k k a1 a2 a3 true true a4
      (fun x87 : (Unit × ((List (Int × (Int × Int))) × Unit)) =>
        some ((), (x87.2.1, ())),
      ())
def ef50 : Entry := { id := 50, ar := { temps := [(0, .c (.row 3000000)), (1, .c (.int .i64)), (2, .c (.int .i64)), (3, .c (.int .i64)), (4, .c (.lit (.fn 40)))], blocks := [(3000000, .row 59 (.pair (.int .i64) (.pair (.int .i64) (.int .i64))))], ren := [] }, res := { temps := [], blocks := [(3000000, .row 59 (.pair (.int .i64) (.pair (.int .i64) (.int .i64))))], ren := [(3000000, some 3000000)] }, f := fun k v => f50 k v.1.2.1 v.1.2.2.1 v.1.2.2.2.1 v.2.1 }
def gf50 (k : Nat) : Full := { tt := tt, n := 148, fns := [ef67, ef68, ef69, ef70, ef71, ef72, ef40, ef73, ef74, ef50], trunc := [], tails := [], k := k, glob := glob, cuts := [(2, (cf50_l2 (f50 k) k))], joins := [(20, (cf50_j20 (f50 k))), (17, (cf50_j17 (f50 k))), (15, (cf50_j15 (f50 k))), (10, (cf50_j10 (f50 k)))] }
theorem of50_j20 (k : Nat) : JoinOk (gf50 k) (cf50_j20 (f50 k)) (theJoin Try.f50 20) := fun ρ v nx => by kernel_rfl
theorem of50_j17 (k : Nat) : JoinOk (gf50 k) (cf50_j17 (f50 k)) (theJoin Try.f50 17) := fun ρ v nx => by kernel_rfl
theorem of50_j15 (k : Nat) : JoinOk (gf50 k) (cf50_j15 (f50 k)) (theJoin Try.f50 15) := fun ρ v nx => by kernel_rfl
theorem of50_j10 (k : Nat) : JoinOk (gf50 k) (cf50_j10 (f50 k)) (theJoin Try.f50 10) := fun ρ v nx => by kernel_rfl
theorem of50_l2 (k : Nat) : CutOk (gf50 k) (cf50_l2 (f50 k) k) (theLoop Try.f50 2) := fun ρ v nx => ⟨by kernel_rfl, fun j => by kernel_rfl⟩
theorem qf50 (k : Nat) : AllP (bodyL (gf50 k) Try.f50) := by
  have h : (JoinOk (gf50 k) (cf50_j20 (f50 k)) (theJoin Try.f50 20) ∧ JoinOk (gf50 k) (cf50_j17 (f50 k)) (theJoin Try.f50 17) ∧ JoinOk (gf50 k) (cf50_j15 (f50 k)) (theJoin Try.f50 15) ∧ JoinOk (gf50 k) (cf50_j10 (f50 k)) (theJoin Try.f50 10) ∧ CutOk (gf50 k) (cf50_l2 (f50 k) k) (theLoop Try.f50 2) ∧ True) = AllP (bodyL (gf50 k) Try.f50) := by kernel_rfl
  exact Eq.mp h (And.intro (of50_j20 k) (And.intro (of50_j17 k) (And.intro (of50_j15 k) (And.intro (of50_j10 k) (And.intro (of50_l2 k) (trivial))))))
theorem sf50 : Sound Try.prog glob ef50 := sound_rec base (fn := Try.f50) Try.func50 (by kernel_rfl) gf50 (fun _ => ⟨rfl, rfl, rfl⟩) (fun k j h => ⟨sf67.at j, sf68.at j, sf69.at j, sf70.at j, sf71.at j, sf72.at j, sf40.at j, sf73.at j, sf74.at j, h, trivial⟩) qf50 (fun v => by kernel_rfl) (fun k v => by kernel_rfl)

/-! impl.Crease] -/
def f39 (k : Nat) (a1 : (List (Int × (Int × Int)))) : Option (Unit × ((List (Int × (Int × Int))) × Unit)) :=
  (f49 k (wr .u64 (a1.length : Int))).bind fun x3 =>
  (f50 k 0 (a1.length : Int) x3.1.1 a1).bind fun x4 =>
  some ((), (x4.2.1, ()))
def ef39 : Entry := { id := 39, ar := { temps := [(0, .c (.row 3000000)), (1, .c (.lit (.fn 40)))], blocks := [(3000000, .row 59 (.pair (.int .i64) (.pair (.int .i64) (.int .i64))))], ren := [] }, res := { temps := [], blocks := [(3000000, .row 59 (.pair (.int .i64) (.pair (.int .i64) (.int .i64))))], ren := [(3000000, some 3000000)] }, f := fun k v => f39 k v.2.1 }
def gf39 (k : Nat) : Full := { tt := tt, n := 14, fns := [ef49, ef50], trunc := [], tails := [], k := k, glob := glob, cuts := [], joins := [] }
theorem qf39 (k : Nat) : AllP (bodyL (gf39 k) Try.f39) := by
  have h : True = AllP (bodyL (gf39 k) Try.f39) := by kernel_rfl
  exact Eq.mp h trivial
theorem sf39 : Sound Try.prog glob ef39 := sound_of base (fn := Try.f39) Try.func39 (by kernel_rfl) gf39 (fun _ => ⟨rfl, rfl⟩) (fun k j => ⟨sf49.at j, sf50.at j, trivial⟩) qf39 (fun k v => by kernel_rfl)

/-! impl.patternOf -/
def f27_l3 {ρ : Type} (k : Nat) : Nat → (List (((Int × (Int × Int)) × (Int × (Int × Int))) × (((Int × (Int × Int)) × (Int × (Int × Int))) × Int))) → (List (((Int × (Int × Int)) × (Int × (Int × Int))) × (((Int × (Int × Int)) × (Int × (Int × Int))) × Int))) → Int → Int → (List ((Int × (Int × Int)) × (Int × (Int × Int)))) → (((((List (((Int × (Int × Int)) × (Int × (Int × Int))) × (((Int × (Int × Int)) × (Int × (Int × Int))) × Int))) × Unit × Unit × Unit) × ((Unit × Unit × Unit) × (Unit × Unit × Unit) × (List ((Int × (Int × Int)) × (Int × (Int × Int)))) × Unit)) → Option ρ) × Unit) → Option ρ
  | 0, _, _, _, _, _, _ => none
  | j + 1, v39, v40, v41, v42, v43, nx =>
    bif (decide (v42 < v41)) then
      (getI v40 v42).bind fun x44 =>
      bif decide ((v43.length + [x44.1, x44.2.1].length) * 48 ≤ roomy) then
        f27_l3 k j v39 v40 v41 (wr .i64 (v42 + 1)) (v43 ++ [x44.1, x44.2.1]) nx
      else
        none
    else
      nx.1 ((v39, (), (), ()), (((), (), ()), ((), (), ()), v43, ()))
def cf27_l3 (k : Nat) : Cut := { sp := { temps := [(0, .c (.sl (.pair (.pair (.pair (.int .i64) (.pair (.int .i64) (.int .i64))) (.pair (.int .i64) (.pair (.int .i64) (.int .i64)))) (.pair (.pair (.pair (.int .i64) (.pair (.int .i64) (.int .i64))) (.pair (.int .i64) (.pair (.int .i64) (.int .i64)))) (.int .i64))))), (2, .c (.box 5000000)), (3, .c (.box 5000001)), (8, .c (.sl (.pair (.pair (.pair (.int .i64) (.pair (.int .i64) (.int .i64))) (.pair (.int .i64) (.pair (.int .i64) (.int .i64)))) (.pair (.pair (.pair (.int .i64) (.pair (.int .i64) (.int .i64))) (.pair (.int .i64) (.pair (.int .i64) (.int .i64)))) (.int .i64))))), (9, .c (.int .i64)), (10, .c (.int .i64))], blocks := [(5000000, .box 25 [(.lit .nils), (.lit .nils)]), (5000001, .box 25 [(.row 5000002), (.lit .nils)]), (5000002, .row 44 (.pair (.pair (.int .i64) (.pair (.int .i64) (.int .i64))) (.pair (.int .i64) (.pair (.int .i64) (.int .i64)))))], ren := [] }, outs := [(.exit 0, { temps := [(0, .c (.sl (.pair (.pair (.pair (.int .i64) (.pair (.int .i64) (.int .i64))) (.pair (.int .i64) (.pair (.int .i64) (.int .i64)))) (.pair (.pair (.pair (.int .i64) (.pair (.int .i64) (.int .i64))) (.pair (.int .i64) (.pair (.int .i64) (.int .i64)))) (.int .i64))))), (2, .c (.box 5000000)), (3, .c (.box 5000001))], blocks := [(5000000, .box 25 [(.lit .nils), (.lit .nils)]), (5000001, .box 25 [(.row 5000002), (.lit .nils)]), (5000002, .row 44 (.pair (.pair (.int .i64) (.pair (.int .i64) (.int .i64))) (.pair (.int .i64) (.pair (.int .i64) (.int .i64)))))], ren := [] })], F := fun ρ j v nx => f27_l3 k j v.1.1 v.1.2.2.2.1 v.1.2.2.2.2.1 v.1.2.2.2.2.2.1 v.2.2.2.1 nx }
def f27_l10 {ρ : Type} (k : Nat) : Nat → (List (((Int × (Int × Int)) × (Int × (Int × Int))) × (((Int × (Int × Int)) × (Int × (Int × Int))) × Int))) → Int → Int → (List ((Int × (Int × Int)) × (Int × (Int × Int)))) → (List (Int × (Int × Int))) → ((((Unit × Unit × Unit) × ((Unit × Unit × Unit) × (Unit × Unit × Unit) × (List ((Int × (Int × Int)) × (Int × (Int × Int)))) × (List (Int × (Int × Int))) × Unit)) → Option ρ) × Unit) → Option ρ
  | 0, _, _, _, _, _, _ => none
  | j + 1, v45, v46, v47, v48, v49, nx =>
    bif (decide (v47 < v46)) then
      (getI v45 v47).bind fun x50 =>
      (f38 k v48 x50.1.1.1 x50.1.1.2.1 x50.1.1.2.2 x50.1.2.1 x50.1.2.2.1 x50.1.2.2.2).bind fun x51 =>
      (f38 k v48 x50.2.1.1.1 x50.2.1.1.2.1 x50.2.1.1.2.2 x50.2.1.2.1 x50.2.1.2.2.1 x50.2.1.2.2.2).bind fun x52 =>
      bif decide ((v49.length + [(x51.1.1, (x52.1.1, x50.2.2))].length) * 24 ≤ roomy) then
        f27_l10 k j v45 v46 (wr .i64 (v47 + 1)) v48 (v49 ++ [(x51.1.1, (x52.1.1, x50.2.2))]) nx
      else
        none
    else
      nx.1 (((), (), ()), (((), (), ()), ((), (), ()), v48, v49, ()))
def cf27_l10 (k : Nat) : Cut := { sp := { temps := [(2, .c (.box 5000000)), (3, .c (.box 5000001)), (31, .c (.sl (.pair (.pair (.pair (.int .i64) (.pair (.int .i64) (.int .i64))) (.pair (.int .i64) (.pair (.int .i64) (.int .i64)))) (.pair (.pair (.pair (.int .i64) (.pair (.int .i64) (.int .i64))) (.pair (.int .i64) (.pair (.int .i64) (.int .i64)))) (.int .i64))))), (32, .c (.int .i64)), (33, .c (.int .i64))], blocks := [(5000000, .box 25 [(.lit .nils), (.lit .nils)]), (5000001, .box 25 [(.row 5000002), (.row 5000003)]), (5000002, .row 44 (.pair (.pair (.int .i64) (.pair (.int .i64) (.int .i64))) (.pair (.int .i64) (.pair (.int .i64) (.int .i64))))), (5000003, .row 59 (.pair (.int .i64) (.pair (.int .i64) (.int .i64))))], ren := [] }, outs := [(.exit 2, { temps := [(2, .c (.box 5000000)), (3, .c (.box 5000001))], blocks := [(5000000, .box 25 [(.lit .nils), (.lit .nils)]), (5000001, .box 25 [(.row 5000002), (.row 5000003)]), (5000002, .row 44 (.pair (.pair (.int .i64) (.pair (.int .i64) (.int .i64))) (.pair (.int .i64) (.pair (.int .i64) (.int .i64))))), (5000003, .row 59 (.pair (.int .i64) (.pair (.int .i64) (.int .i64))))], ren := [] })], F := fun ρ j v nx => f27_l10 k j v.1.2.2.1 v.1.2.2.2.1 v.1.2.2.2.2.1 v.2.2.2.1 v.2.2.2.2.1 nx }
def f27 (k : Nat) (a1 : (List (((Int × (Int × Int)) × (Int × (Int × Int))) × (((Int × (Int × Int)) × (Int × (Int × Int))) × Int)))) : Option (((Unit × Unit × Unit) × Unit) × ((List ((Int × (Int × Int)) × (Int × (Int × Int)))) × (List (Int × (Int × Int))) × Unit)) :=
  f27_l3 k k a1 a1 (a1.length : Int) 0 ([] : List ((Int × (Int × Int)) × (Int × (Int × Int))))
    (fun x34 : (((List (((Int × (Int × Int)) × (Int × (Int × Int))) × (((Int × (Int × Int)) × (Int × (Int × Int))) × Int))) × Unit × Unit × Unit) × ((Unit × Unit × Unit) × (Unit × Unit × Unit) × (List ((Int × (Int × Int)) × (Int × (Int × Int)))) × Unit)) =>
      (f35 k x34.2.2.2.1).bind fun x35 =>
      (f37 k x35.2.1).bind fun x36 =>
      f27_l10 k k x34.1.1 (x34.1.1.length : Int) 0 x36.2.1 ([] : List (Int × (Int × Int)))
        (fun x37 : ((Unit × Unit × Unit) × ((Unit × Unit × Unit) × (Unit × Unit × Unit) × (List ((Int × (Int × Int)) × (Int × (Int × Int)))) × (List (Int × (Int × Int))) × Unit)) =>
          (f39 k x37.2.2.2.2.1).bind fun x38 =>
          some ((((), (), ()), ()), (x37.2.2.2.1, x38.2.1, ())),
        ()),
    ())
def ef27 : Entry := { id := 27, ar := { temps := [(0, .c (.sl (.pair (.pair (.pair (.int .i64) (.pair (.int .i64) (.int .i64))) (.pair (.int .i64) (.pair (.int .i64) (.int .i64)))) (.pair (.pair (.pair (.int .i64) (.pair (.int .i64) (.int .i64))) (.pair (.int .i64) (.pair (.int .i64) (.int .i64)))) (.int .i64)))))], blocks := [], ren := [] }, res := { temps := [(0, .agg [(.row 4000000), (.row 4000001)])], blocks := [(4000000, .row 44 (.pair (.pair (.int .i64) (.pair (.int .i64) (.int .i64))) (.pair (.int .i64) (.pair (.int .i64) (.int .i64))))), (4000001, .row 59 (.pair (.int .i64) (.pair (.int .i64) (.int .i64))))], ren := [] }, f := fun k v => f27 k v.1.1 }
def gf27 (k : Nat) : Full := { tt := tt, n := 60, fns := [ef35, ef37, ef38, ef39], trunc := [], tails := [], k := k, glob := glob, cuts := [(3, (cf27_l3 k)), (10, (cf27_l10 k))], joins := [] }
theorem of27_l3 (k : Nat) : CutOk (gf27 k) (cf27_l3 k) (theLoop Try.f27 3) := fun ρ v nx => ⟨by kernel_rfl, fun j => by kernel_rfl⟩
theorem of27_l10 (k : Nat) : CutOk (gf27 k) (cf27_l10 k) (theLoop Try.f27 10) := fun ρ v nx => ⟨by kernel_rfl, fun j => by kernel_rfl⟩
theorem qf27 (k : Nat) : AllP (bodyL (gf27 k) Try.f27) := by
  have h : (CutOk (gf27 k) (cf27_l3 k) (theLoop Try.f27 3) ∧ CutOk (gf27 k) (cf27_l10 k) (theLoop Try.f27 10) ∧ True) = AllP (bodyL (gf27 k) Try.f27) := by kernel_rfl
  exact Eq.mp h (And.intro (of27_l3 k) (And.intro (of27_l10 k) (trivial)))
theorem sf27 : Sound Try.prog glob ef27 := sound_of base (fn := Try.f27) Try.func27 (by kernel_rfl) gf27 (fun _ => ⟨rfl, rfl⟩) (fun k j => ⟨sf35.at j, sf37.at j, sf38.at j, sf39.at j, trivial⟩) qf27 (fun k v => by kernel_rfl)

/-! impl.square -/
def f12_l3 {ρ : Type} (k : Nat) : Nat → (List ((Int × (Int × Int)) × (Int × (Int × Int)))) → (List ((Int × (Int × Int)) × (Int × (Int × Int)))) → Int → Int → (List (((Int × (Int × Int)) × (Int × (Int × Int))) × (((Int × (Int × Int)) × (Int × (Int × Int))) × Int))) → ((((Unit × Unit × Unit) × ((Unit × Unit × Unit) × (List (((Int × (Int × Int)) × (Int × (Int × Int))) × (((Int × (Int × Int)) × (Int × (Int × Int))) × Int))) × Unit)) → Option ρ) × Unit) → Option ρ
  | 0, _, _, _, _, _, _ => none
  | j + 1, v21, v22, v23, v24, v25, nx =>
    bif (decide (v24 < v23)) then
      (getI v22 v24).bind fun x26 =>
      bif decide ((v21.length : Int) = 0) then
        none
      else
        let x27 : Int := ((wr .i64 (v24 + 1)).tmod (v21.length : Int))
        (getI v21 x27).bind fun x28 =>
        (f26 k x26.1.1 x26.1.2.1 x26.1.2.2 x26.2.1 x26.2.2.1 x26.2.2.2 x28.1.1 x28.1.2.1 x28.1.2.2 x28.2.1 x28.2.2.1 x28.2.2.2 1).bind fun x29 =>
        bif decide ((v25.length + [(((x29.1.1.1, (x29.1.1.2.1, x29.1.1.2.2.1)), (x29.1.1.2.2.2.1, (x29.1.1.2.2.2.2.1, x29.1.1.2.2.2.2.2.1))), (((x29.1.1.2.2.2.2.2.2.1, (x29.1.1.2.2.2.2.2.2.2.1, x29.1.1.2.2.2.2.2.2.2.2.1)), (x29.1.1.2.2.2.2.2.2.2.2.2.1, (x29.1.1.2.2.2.2.2.2.2.2.2.2.1, x29.1.1.2.2.2.2.2.2.2.2.2.2.2.1))), x29.1.1.2.2.2.2.2.2.2.2.2.2.2.2.1))].length) * 104 ≤ roomy) then
          let x30 : (List (((Int × (Int × Int)) × (Int × (Int × Int))) × (((Int × (Int × Int)) × (Int × (Int × Int))) × Int))) := (v25 ++ [(((x29.1.1.1, (x29.1.1.2.1, x29.1.1.2.2.1)), (x29.1.1.2.2.2.1, (x29.1.1.2.2.2.2.1, x29.1.1.2.2.2.2.2.1))), (((x29.1.1.2.2.2.2.2.2.1, (x29.1.1.2.2.2.2.2.2.2.1, x29.1.1.2.2.2.2.2.2.2.2.1)), (x29.1.1.2.2.2.2.2.2.2.2.2.1, (x29.1.1.2.2.2.2.2.2.2.2.2.2.1, x29.1.1.2.2.2.2.2.2.2.2.2.2.2.1))), x29.1.1.2.2.2.2.2.2.2.2.2.2.2.2.1))])
          f12_l3 k j v21 v22 v23 (wr .i64 (v24 + 1)) x30 nx
        else
          none
    else
      nx.1 (((), (), ()), (((), (), ()), v25, ()))
def cf12_l3 (k : Nat) : Cut := { sp := { temps := [(0, .c (.sl (.pair (.pair (.int .i64) (.pair (.int .i64) (.int .i64))) (.pair (.int .i64) (.pair (.int .i64) (.int .i64)))))), (2, .c (.box 5000000)), (3, .c (.row 5000001)), (6, .c (.sl (.pair (.pair (.int .i64) (.pair (.int .i64) (.int .i64))) (.pair (.int .i64) (.pair (.int .i64) (.int .i64)))))), (7, .c (.int .i64)), (8, .c (.int .i64))], blocks := [(5000000, .box 25 [(.lit .nils), (.lit .nils)]), (5000001, .row 53 (.pair (.pair (.pair (.int .i64) (.pair (.int .i64) (.int .i64))) (.pair (.int .i64) (.pair (.int .i64) (.int .i64)))) (.pair (.pair (.pair (.int .i64) (.pair (.int .i64) (.int .i64))) (.pair (.int .i64) (.pair (.int .i64) (.int .i64)))) (.int .i64))))], ren := [] }, outs := [(.exit 0, { temps := [(2, .c (.box 5000000)), (3, .c (.row 5000001))], blocks := [(5000000, .box 25 [(.lit .nils), (.lit .nils)]), (5000001, .row 53 (.pair (.pair (.pair (.int .i64) (.pair (.int .i64) (.int .i64))) (.pair (.int .i64) (.pair (.int .i64) (.int .i64)))) (.pair (.pair (.pair (.int .i64) (.pair (.int .i64) (.int .i64))) (.pair (.int .i64) (.pair (.int .i64) (.int .i64)))) (.int .i64))))], ren := [] })], F := fun ρ j v nx => f12_l3 k j v.1.1 v.1.2.2.2.1 v.1.2.2.2.2.1 v.1.2.2.2.2.2.1 v.2.2.1 nx }
def f12 (k : Nat) (a1 : (List ((Int × (Int × Int)) × (Int × (Int × Int))))) : Option (((Unit × Unit × Unit) × Unit) × ((List ((Int × (Int × Int)) × (Int × (Int × Int)))) × (List (Int × (Int × Int))) × Unit)) :=
  f12_l3 k k a1 a1 (a1.length : Int) 0 ([] : List (((Int × (Int × Int)) × (Int × (Int × Int))) × (((Int × (Int × Int)) × (Int × (Int × Int))) × Int)))
    (fun x19 : ((Unit × Unit × Unit) × ((Unit × Unit × Unit) × (List (((Int × (Int × Int)) × (Int × (Int × Int))) × (((Int × (Int × Int)) × (Int × (Int × Int))) × Int))) × Unit)) =>
      (f27 k x19.2.2.1).bind fun x20 =>
      some ((((), (), ()), ()), (x20.2.1, x20.2.2.1, ())),
    ())
def ef12 : Entry := { id := 12, ar := { temps := [(0, .c (.sl (.pair (.pair (.int .i64) (.pair (.int .i64) (.int .i64))) (.pair (.int .i64) (.pair (.int .i64) (.int .i64))))))], blocks := [], ren := [] }, res := { temps := [(0, .agg [(.row 4000000), (.row 4000001)])], blocks := [(4000000, .row 44 (.pair (.pair (.int .i64) (.pair (.int .i64) (.int .i64))) (.pair (.int .i64) (.pair (.int .i64) (.int .i64))))), (4000001, .row 59 (.pair (.int .i64) (.pair (.int .i64) (.int .i64))))], ren := [] }, f := fun k v => f12 k v.1.1 }
def gf12 (k : Nat) : Full := { tt := tt, n := 29, fns := [ef26, ef27], trunc := [], tails := [], k := k, glob := glob, cuts := [(3, (cf12_l3 k))], joins := [] }
theorem of12_l3 (k : Nat) : CutOk (gf12 k) (cf12_l3 k) (theLoop Try.f12 3) := fun ρ v nx => ⟨by kernel_rfl, fun j => by kernel_rfl⟩
theorem qf12 (k : Nat) : AllP (bodyL (gf12 k) Try.f12) := by
  have h : (CutOk (gf12 k) (cf12_l3 k) (theLoop Try.f12 3) ∧ True) = AllP (bodyL (gf12 k) Try.f12) := by kernel_rfl
  exact Eq.mp h (And.intro (of12_l3 k) (trivial))
theorem sf12 : Sound Try.prog glob ef12 := sound_of base (fn := Try.f12) Try.func12 (by kernel_rfl) gf12 (fun _ => ⟨rfl, rfl⟩) (fun k j => ⟨sf26.at j, sf27.at j, trivial⟩) qf12 (fun k v => by kernel_rfl)

/-! impl.SquarePattern -/
def f5 (k : Nat) (a1 : Int) : Option (((Unit × Unit × Unit) × Int × Unit) × ((List ((Int × (Int × Int)) × (Int × (Int × Int)))) × (List (Int × (Int × Int))) × Unit)) :=
  (f11 k a1).bind fun x3 =>
  bif (!x3.1.2.1) then
    some ((((), (), ()), 2, ()), (([] : List ((Int × (Int × Int)) × (Int × (Int × Int)))), ([] : List (Int × (Int × Int))), ()))
  else
    (f12 k x3.2.1).bind fun x4 =>
    some ((((), (), ()), 0, ()), (x4.2.1, x4.2.2.1, ()))
def ef5 : Entry := { id := 5, ar := { temps := [(0, .c (.int .i64))], blocks := [], ren := [] }, res := { temps := [(0, .agg [(.row 4000000), (.row 4000001)]), (1, .c (.int .i64))], blocks := [(4000000, .row 44 (.pair (.pair (.int .i64) (.pair (.int .i64) (.int .i64))) (.pair (.int .i64) (.pair (.int .i64) (.int .i64))))), (4000001, .row 59 (.pair (.int .i64) (.pair (.int .i64) (.int .i64))))], ren := [] }, f := fun k v => f5 k v.1.1 }
def gf5 (k : Nat) : Full := { tt := tt, n := 16, fns := [ef11, ef12], trunc := [], tails := [], k := k, glob := glob, cuts := [], joins := [] }
theorem qf5 (k : Nat) : AllP (bodyL (gf5 k) Try.f5) := by
  have h : True = AllP (bodyL (gf5 k) Try.f5) := by kernel_rfl
  exact Eq.mp h trivial
theorem sf5 : Sound Try.prog glob ef5 := sound_of base (fn := Try.f5) Try.func5 (by kernel_rfl) gf5 (fun _ => ⟨rfl, rfl⟩) (fun k j => ⟨sf11.at j, sf12.at j, trivial⟩) qf5 (fun k v => by kernel_rfl)

/-! laws.eqNum -/
def f43 (k : Nat) (a1 : Int) (a2 : Int) (a3 : Int) (a4 : Int) (a5 : Int) (a6 : Int) : Option ((Bool × Unit) × Unit) :=
  bif (a1 != a4) then
    some ((false, ()), ())
  else
    bif (a2 != a5) then
      some ((false, ()), ())
    else
      bif (a3 != a6) then
        some ((false, ()), ())
      else
        some ((true, ()), ())
def ef43 : Entry := { id := 43, ar := { temps := [(0, .agg [(.int .i64), (.int .i64), (.int .i64)]), (1, .agg [(.int .i64), (.int .i64), (.int .i64)])], blocks := [], ren := [] }, res := { temps := [(0, .c .bool)], blocks := [], ren := [] }, f := fun k v => f43 k v.1.1.1 v.1.1.2.1 v.1.1.2.2.1 v.1.2.1.1 v.1.2.1.2.1 v.1.2.1.2.2.1 }
def gf43 (k : Nat) : Full := { tt := tt, n := 20, fns := [], trunc := [], tails := [], k := k, glob := glob, cuts := [], joins := [] }
theorem qf43 (k : Nat) : AllP (bodyL (gf43 k) Try.f43) := by
  have h : True = AllP (bodyL (gf43 k) Try.f43) := by kernel_rfl
  exact Eq.mp h trivial
theorem sf43 : Sound Try.prog glob ef43 := sound_of base (fn := Try.f43) Try.func43 (by kernel_rfl) gf43 (fun _ => ⟨rfl, rfl⟩) (fun k j => trivial) qf43 (fun k v => by kernel_rfl)

/-! laws.eqPoint -/
def f28 (k : Nat) (a1 : Int) (a2 : Int) (a3 : Int) (a4 : Int) (a5 : Int) (a6 : Int) (a7 : Int) (a8 : Int) (a9 : Int) (a10 : Int) (a11 : Int) (a12 : Int) : Option ((Bool × Unit) × Unit) :=
  (f43 k a1 a2 a3 a7 a8 a9).bind fun x5 =>
  bif (!x5.1.1) then
    some ((false, ()), ())
  else
    (f43 k a4 a5 a6 a10 a11 a12).bind fun x6 =>
    bif (!x6.1.1) then
      some ((false, ()), ())
    else
      some ((true, ()), ())
def ef28 : Entry := { id := 28, ar := { temps := [(0, .agg [(.int .i64), (.int .i64), (.int .i64), (.int .i64), (.int .i64), (.int .i64)]), (1, .agg [(.int .i64), (.int .i64), (.int .i64), (.int .i64), (.int .i64), (.int .i64)])], blocks := [], ren := [] }, res := { temps := [(0, .c .bool)], blocks := [], ren := [] }, f := fun k v => f28 k v.1.1.1 v.1.1.2.1 v.1.1.2.2.1 v.1.1.2.2.2.1 v.1.1.2.2.2.2.1 v.1.1.2.2.2.2.2.1 v.1.2.1.1 v.1.2.1.2.1 v.1.2.1.2.2.1 v.1.2.1.2.2.2.1 v.1.2.1.2.2.2.2.1 v.1.2.1.2.2.2.2.2.1 }
def gf28 (k : Nat) : Full := { tt := tt, n := 17, fns := [ef43], trunc := [], tails := [], k := k, glob := glob, cuts := [], joins := [] }
theorem qf28 (k : Nat) : AllP (bodyL (gf28 k) Try.f28) := by
  have h : True = AllP (bodyL (gf28 k) Try.f28) := by kernel_rfl
  exact Eq.mp h trivial
theorem sf28 : Sound Try.prog glob ef28 := sound_of base (fn := Try.f28) Try.func28 (by kernel_rfl) gf28 (fun _ => ⟨rfl, rfl⟩) (fun k j => ⟨sf43.at j, trivial⟩) qf28 (fun k v => by kernel_rfl)

/-! laws.eqPointS -/
def f13_l4 {ρ : Type} (k : Nat) : Nat → (List ((Int × (Int × Int)) × (Int × (Int × Int)))) → (List ((Int × (Int × Int)) × (Int × (Int × Int)))) → Int → (((Unit × Unit) → Option ρ) × (((Bool × Unit) × Unit) → Option ρ) × Unit) → Option ρ
  | 0, _, _, _, _ => none
  | j + 1, v11, v12, v13, nx =>
    bif (decide (v13 < (v11.length : Int))) then
      (getI v11 v13).bind fun x14 =>
      (getI v12 v13).bind fun x15 =>
      (f28 k x14.1.1 x14.1.2.1 x14.1.2.2 x14.2.1 x14.2.2.1 x14.2.2.2 x15.1.1 x15.1.2.1 x15.1.2.2 x15.2.1 x15.2.2.1 x15.2.2.2).bind fun x16 =>
      bif (!x16.1.1) then
        nx.2.1 ((false, ()), ())
      else
        f13_l4 k j v11 v12 (wr .i64 (v13 + 1)) nx
    else
      nx.1 ((), ())
def cf13_l4 (k : Nat) : Cut := { sp := { temps := [(0, .c (.sl (.pair (.pair (.int .i64) (.pair (.int .i64) (.int .i64))) (.pair (.int .i64) (.pair (.int .i64) (.int .i64)))))), (1, .c (.sl (.pair (.pair (.int .i64) (.pair (.int .i64) (.int .i64))) (.pair (.int .i64) (.pair (.int .i64) (.int .i64)))))), (5, .c (.int .i64))], blocks := [], ren := [] }, outs := [(.exit 0, { temps := [], blocks := [], ren := [] }), (.ret, { temps := [(4, .c .bool)], blocks := [], ren := [] })], F := fun ρ j v nx => f13_l4 k j v.1.1 v.1.2.1 v.1.2.2.1 nx }
def f13 (k : Nat) (a1 : (List ((Int × (Int × Int)) × (Int × (Int × Int))))) (a2 : (List ((Int × (Int × Int)) × (Int × (Int × Int))))) : Option ((Bool × Unit) × Unit) :=
  bif ((a1.length : Int) != (a2.length : Int)) then
    some ((false, ()), ())
  else
    f13_l4 k k a1 a2 0
      (fun x9 : (Unit × Unit) =>
        some ((true, ()), ()),
      fun x10 : ((Bool × Unit) × Unit) =>
        some ((x10.1.1, ()), ()),
      ())
def ef13 : Entry := { id := 13, ar := { temps := [(0, .c (.sl (.pair (.pair (.int .i64) (.pair (.int .i64) (.int .i64))) (.pair (.int .i64) (.pair (.int .i64) (.int .i64)))))), (1, .c (.sl (.pair (.pair (.int .i64) (.pair (.int .i64) (.int .i64))) (.pair (.int .i64) (.pair (.int .i64) (.int .i64))))))], blocks := [], ren := [] }, res := { temps := [(0, .c .bool)], blocks := [], ren := [] }, f := fun k v => f13 k v.1.1 v.1.2.1 }
def gf13 (k : Nat) : Full := { tt := tt, n := 27, fns := [ef28], trunc := [], tails := [], k := k, glob := glob, cuts := [(4, (cf13_l4 k))], joins := [] }
theorem of13_l4 (k : Nat) : CutOk (gf13 k) (cf13_l4 k) (theLoop Try.f13 4) := fun ρ v nx => ⟨by kernel_rfl, fun j => by kernel_rfl⟩
theorem qf13 (k : Nat) : AllP (bodyL (gf13 k) Try.f13) := by
  have h : (CutOk (gf13 k) (cf13_l4 k) (theLoop Try.f13 4) ∧ True) = AllP (bodyL (gf13 k) Try.f13) := by kernel_rfl
  exact Eq.mp h (And.intro (of13_l4 k) (trivial))
theorem sf13 : Sound Try.prog glob ef13 := sound_of base (fn := Try.f13) Try.func13 (by kernel_rfl) gf13 (fun _ => ⟨rfl, rfl⟩) (fun k j => ⟨sf28.at j, trivial⟩) qf13 (fun k v => by kernel_rfl)

/-! laws.eqCrease -/
def f29 (k : Nat) (a1 : Int) (a2 : Int) (a3 : Int) (a4 : Int) (a5 : Int) (a6 : Int) : Option ((Bool × Unit) × Unit) :=
  bif (a1 != a4) then
    some ((false, ()), ())
  else
    bif (a2 != a5) then
      some ((false, ()), ())
    else
      bif (a3 != a6) then
        some ((false, ()), ())
      else
        some ((true, ()), ())
def ef29 : Entry := { id := 29, ar := { temps := [(0, .agg [(.int .i64), (.int .i64), (.int .i64)]), (1, .agg [(.int .i64), (.int .i64), (.int .i64)])], blocks := [], ren := [] }, res := { temps := [(0, .c .bool)], blocks := [], ren := [] }, f := fun k v => f29 k v.1.1.1 v.1.1.2.1 v.1.1.2.2.1 v.1.2.1.1 v.1.2.1.2.1 v.1.2.1.2.2.1 }
def gf29 (k : Nat) : Full := { tt := tt, n := 20, fns := [], trunc := [], tails := [], k := k, glob := glob, cuts := [], joins := [] }
theorem qf29 (k : Nat) : AllP (bodyL (gf29 k) Try.f29) := by
  have h : True = AllP (bodyL (gf29 k) Try.f29) := by kernel_rfl
  exact Eq.mp h trivial
theorem sf29 : Sound Try.prog glob ef29 := sound_of base (fn := Try.f29) Try.func29 (by kernel_rfl) gf29 (fun _ => ⟨rfl, rfl⟩) (fun k j => trivial) qf29 (fun k v => by kernel_rfl)

/-! laws.eqCreaseS -/
def f14_l4 {ρ : Type} (k : Nat) : Nat → (List (Int × (Int × Int))) → (List (Int × (Int × Int))) → Int → (((Unit × Unit) → Option ρ) × (((Bool × Unit) × Unit) → Option ρ) × Unit) → Option ρ
  | 0, _, _, _, _ => none
  | j + 1, v11, v12, v13, nx =>
    bif (decide (v13 < (v11.length : Int))) then
      (getI v11 v13).bind fun x14 =>
      (getI v12 v13).bind fun x15 =>
      (f29 k x14.1 x14.2.1 x14.2.2 x15.1 x15.2.1 x15.2.2).bind fun x16 =>
      bif (!x16.1.1) then
        nx.2.1 ((false, ()), ())
      else
        f14_l4 k j v11 v12 (wr .i64 (v13 + 1)) nx
    else
      nx.1 ((), ())
def cf14_l4 (k : Nat) : Cut := { sp := { temps := [(0, .c (.sl (.pair (.int .i64) (.pair (.int .i64) (.int .i64))))), (1, .c (.sl (.pair (.int .i64) (.pair (.int .i64) (.int .i64))))), (5, .c (.int .i64))], blocks := [], ren := [] }, outs := [(.exit 0, { temps := [], blocks := [], ren := [] }), (.ret, { temps := [(4, .c .bool)], blocks := [], ren := [] })], F := fun ρ j v nx => f14_l4 k j v.1.1 v.1.2.1 v.1.2.2.1 nx }
def f14 (k : Nat) (a1 : (List (Int × (Int × Int)))) (a2 : (List (Int × (Int × Int)))) : Option ((Bool × Unit) × Unit) :=
  bif ((a1.length : Int) != (a2.length : Int)) then
    some ((false, ()), ())
  else
    f14_l4 k k a1 a2 0
      (fun x9 : (Unit × Unit) =>
        some ((true, ()), ()),
      fun x10 : ((Bool × Unit) × Unit) =>
        some ((x10.1.1, ()), ()),
      ())
def ef14 : Entry := { id := 14, ar := { temps := [(0, .c (.sl (.pair (.int .i64) (.pair (.int .i64) (.int .i64))))), (1, .c (.sl (.pair (.int .i64) (.pair (.int .i64) (.int .i64)))))], blocks := [], ren := [] }, res := { temps := [(0, .c .bool)], blocks := [], ren := [] }, f := fun k v => f14 k v.1.1 v.1.2.1 }
def gf14 (k : Nat) : Full := { tt := tt, n := 27, fns := [ef29], trunc := [], tails := [], k := k, glob := glob, cuts := [(4, (cf14_l4 k))], joins := [] }
theorem of14_l4 (k : Nat) : CutOk (gf14 k) (cf14_l4 k) (theLoop Try.f14 4) := fun ρ v nx => ⟨by kernel_rfl, fun j => by kernel_rfl⟩
theorem qf14 (k : Nat) : AllP (bodyL (gf14 k) Try.f14) := by
  have h : (CutOk (gf14 k) (cf14_l4 k) (theLoop Try.f14 4) ∧ True) = AllP (bodyL (gf14 k) Try.f14) := by kernel_rfl
  exact Eq.mp h (And.intro (of14_l4 k) (trivial))
theorem sf14 : Sound Try.prog glob ef14 := sound_of base (fn := Try.f14) Try.func14 (by kernel_rfl) gf14 (fun _ => ⟨rfl, rfl⟩) (fun k j => ⟨sf29.at j, trivial⟩) qf14 (fun k v => by kernel_rfl)

/-! laws.eqPattern -/
def f6 (k : Nat) (a1 : (List ((Int × (Int × Int)) × (Int × (Int × Int))))) (a2 : (List (Int × (Int × Int)))) (a3 : (List ((Int × (Int × Int)) × (Int × (Int × Int))))) (a4 : (List (Int × (Int × Int)))) : Option ((Bool × Unit) × Unit) :=
  (f13 k a1 a3).bind fun x5 =>
  bif (!x5.1.1) then
    some ((false, ()), ())
  else
    (f14 k a2 a4).bind fun x6 =>
    bif (!x6.1.1) then
      some ((false, ()), ())
    else
      some ((true, ()), ())
def ef6 : Entry := { id := 6, ar := { temps := [(0, .agg [(.sl (.pair (.pair (.int .i64) (.pair (.int .i64) (.int .i64))) (.pair (.int .i64) (.pair (.int .i64) (.int .i64))))), (.sl (.pair (.int .i64) (.pair (.int .i64) (.int .i64))))]), (1, .agg [(.sl (.pair (.pair (.int .i64) (.pair (.int .i64) (.int .i64))) (.pair (.int .i64) (.pair (.int .i64) (.int .i64))))), (.sl (.pair (.int .i64) (.pair (.int .i64) (.int .i64))))])], blocks := [], ren := [] }, res := { temps := [(0, .c .bool)], blocks := [], ren := [] }, f := fun k v => f6 k v.1.1.1 v.1.1.2.1 v.1.2.1.1 v.1.2.1.2.1 }
def gf6 (k : Nat) : Full := { tt := tt, n := 17, fns := [ef13, ef14], trunc := [], tails := [], k := k, glob := glob, cuts := [], joins := [] }
theorem qf6 (k : Nat) : AllP (bodyL (gf6 k) Try.f6) := by
  have h : True = AllP (bodyL (gf6 k) Try.f6) := by kernel_rfl
  exact Eq.mp h trivial
theorem sf6 : Sound Try.prog glob ef6 := sound_of base (fn := Try.f6) Try.func6 (by kernel_rfl) gf6 (fun _ => ⟨rfl, rfl⟩) (fun k j => ⟨sf13.at j, sf14.at j, trivial⟩) qf6 (fun k v => by kernel_rfl)

/-! laws.markPointS -/
def f15_l2 {ρ : Type} (k : Nat) : Nat → Int → Int → (List ((Int × (Int × Int)) × (Int × (Int × Int)))) → ((((Int × Unit) × ((List ((Int × (Int × Int)) × (Int × (Int × Int)))) × Unit)) → Option ρ) × Unit) → Option ρ
  | 0, _, _, _, _ => none
  | j + 1, v18, v19, v20, nx =>
    bif (decide (v19 < (v20.length : Int))) then
      bif decide (0 ≤ v19) && decide (v19 < (v20.length : Int)) then
        (v20[v19.toNat]?).bind fun x21 =>
        bif decide (0 ≤ v19) && decide (v19 < ((v20.set v19.toNat ((v18, x21.1.2), x21.2)).length : Int)) then
          ((v20.set v19.toNat ((v18, x21.1.2), x21.2))[v19.toNat]?).bind fun x22 =>
          let x23 : (List ((Int × (Int × Int)) × (Int × (Int × Int)))) := ((v20.set v19.toNat ((v18, x21.1.2), x21.2)).set v19.toNat ((x22.1.1, ((wr .i64 (v18 + 1)), x22.1.2.2)), x22.2))
          bif decide (0 ≤ v19) && decide (v19 < (x23.length : Int)) then
            (x23[v19.toNat]?).bind fun x24 =>
            let x25 : (List ((Int × (Int × Int)) × (Int × (Int × Int)))) := (x23.set v19.toNat ((x24.1.1, (x24.1.2.1, (wr .i64 ((wr .i64 (v18 + 1)) + 1)))), x24.2))
            let x26 : Int := (wr .i64 ((wr .i64 ((wr .i64 (v18 + 1)) + 1)) + 1))
            bif decide (0 ≤ v19) && decide (v19 < (x25.length : Int)) then
              (x25[v19.toNat]?).bind fun x27 =>
              bif decide (0 ≤ v19) && decide (v19 < ((x25.set v19.toNat (x27.1, (x26, x27.2.2))).length : Int)) then
                ((x25.set v19.toNat (x27.1, (x26, x27.2.2)))[v19.toNat]?).bind fun x28 =>
                let x29 : (List ((Int × (Int × Int)) × (Int × (Int × Int)))) := ((x25.set v19.toNat (x27.1, (x26, x27.2.2))).set v19.toNat (x28.1, (x28.2.1, ((wr .i64 (x26 + 1)), x28.2.2.2))))
                bif decide (0 ≤ v19) && decide (v19 < (x29.length : Int)) then
                  (x29[v19.toNat]?).bind fun x30 =>
                  let x31 : (List ((Int × (Int × Int)) × (Int × (Int × Int)))) := (x29.set v19.toNat (x30.1, (x30.2.1, (x30.2.2.1, (wr .i64 ((wr .i64 (x26 + 1)) + 1))))))
                  let x32 : Int := (wr .i64 ((wr .i64 ((wr .i64 (x26 + 1)) + 1)) + 1))
                  f15_l2 k j x32 (wr .i64 (v19 + 1)) x31 nx
                else
                  none
              else
                none
            else
              none
          else
            none
        else
          none
      else
        none
    else
      nx.1 ((v18, ()), (v20, ()))
def cf15_l2 (k : Nat) : Cut := { sp := { temps := [(0, .c (.lit (.row 3000000))), (1, .c (.int .i64)), (5, .c (.int .i64))], blocks := [(3000000, .row 44 (.pair (.pair (.int .i64) (.pair (.int .i64) (.int .i64))) (.pair (.int .i64) (.pair (.int .i64) (.int .i64)))))], ren := [(3000000, some 3000000)] }, outs := [(.exit 0, { temps := [(1, .c (.int .i64))], blocks := [(3000000, .row 44 (.pair (.pair (.int .i64) (.pair (.int .i64) (.int .i64))) (.pair (.int .i64) (.pair (.int .i64) (.int .i64)))))], ren := [(3000000, some 3000000)] })], F := fun ρ j v nx => f15_l2 k j v.1.2.1 v.1.2.2.1 v.2.1 nx }
def f15 (k : Nat) (a1 : Int) (a2 : (List ((Int × (Int × Int)) × (Int × (Int × Int))))) : Option ((Int × Unit) × ((List ((Int × (Int × Int)) × (Int × (Int × Int)))) × Unit)) :=
  f15_l2 k k a1 0 a2
    (fun x17 : ((Int × Unit) × ((List ((Int × (Int × Int)) × (Int × (Int × Int)))) × Unit)) =>
      some ((x17.1.1, ()), (x17.2.1, ())),
    ())
def ef15 : Entry := { id := 15, ar := { temps := [(0, .c (.row 3000000)), (1, .c (.int .i64))], blocks := [(3000000, .row 44 (.pair (.pair (.int .i64) (.pair (.int .i64) (.int .i64))) (.pair (.int .i64) (.pair (.int .i64) (.int .i64)))))], ren := [] }, res := { temps := [(0, .c (.int .i64))], blocks := [(3000000, .row 44 (.pair (.pair (.int .i64) (.pair (.int .i64) (.int .i64))) (.pair (.int .i64) (.pair (.int .i64) (.int .i64)))))], ren := [(3000000, some 3000000)] }, f := fun k v => f15 k v.1.2.1 v.2.1 }
def gf15 (k : Nat) : Full := { tt := tt, n := 61, fns := [], trunc := [], tails := [], k := k, glob := glob, cuts := [(2, (cf15_l2 k))], joins := [] }
theorem of15_l2 (k : Nat) : CutOk (gf15 k) (cf15_l2 k) (theLoop Try.f15 2) := fun ρ v nx => ⟨by kernel_rfl, fun j => by kernel_rfl⟩
theorem qf15 (k : Nat) : AllP (bodyL (gf15 k) Try.f15) := by
  have h : (CutOk (gf15 k) (cf15_l2 k) (theLoop Try.f15 2) ∧ True) = AllP (bodyL (gf15 k) Try.f15) := by kernel_rfl
  exact Eq.mp h (And.intro (of15_l2 k) (trivial))
theorem sf15 : Sound Try.prog glob ef15 := sound_of base (fn := Try.f15) Try.func15 (by kernel_rfl) gf15 (fun _ => ⟨rfl, rfl⟩) (fun k j => trivial) qf15 (fun k v => by kernel_rfl)

/-! laws.markCreaseS -/
def f16_l2 {ρ : Type} (k : Nat) : Nat → Int → Int → (List (Int × (Int × Int))) → ((((Int × Unit) × ((List (Int × (Int × Int))) × Unit)) → Option ρ) × Unit) → Option ρ
  | 0, _, _, _, _ => none
  | j + 1, v12, v13, v14, nx =>
    bif (decide (v13 < (v14.length : Int))) then
      bif decide (0 ≤ v13) && decide (v13 < (v14.length : Int)) then
        (v14[v13.toNat]?).bind fun x15 =>
        bif decide (0 ≤ v13) && decide (v13 < ((v14.set v13.toNat (v12, x15.2)).length : Int)) then
          ((v14.set v13.toNat (v12, x15.2))[v13.toNat]?).bind fun x16 =>
          let x17 : (List (Int × (Int × Int))) := ((v14.set v13.toNat (v12, x15.2)).set v13.toNat (x16.1, ((wr .i64 (v12 + 1)), x16.2.2)))
          bif decide (0 ≤ v13) && decide (v13 < (x17.length : Int)) then
            (x17[v13.toNat]?).bind fun x18 =>
            let x19 : (List (Int × (Int × Int))) := (x17.set v13.toNat (x18.1, (x18.2.1, (wr .i64 ((wr .i64 (v12 + 1)) + 1)))))
            let x20 : Int := (wr .i64 ((wr .i64 ((wr .i64 (v12 + 1)) + 1)) + 1))
            f16_l2 k j x20 (wr .i64 (v13 + 1)) x19 nx
          else
            none
        else
          none
      else
        none
    else
      nx.1 ((v12, ()), (v14, ()))
def cf16_l2 (k : Nat) : Cut := { sp := { temps := [(0, .c (.lit (.row 3000000))), (1, .c (.int .i64)), (5, .c (.int .i64))], blocks := [(3000000, .row 59 (.pair (.int .i64) (.pair (.int .i64) (.int .i64))))], ren := [(3000000, some 3000000)] }, outs := [(.exit 0, { temps := [(1, .c (.int .i64))], blocks := [(3000000, .row 59 (.pair (.int .i64) (.pair (.int .i64) (.int .i64))))], ren := [(3000000, some 3000000)] })], F := fun ρ j v nx => f16_l2 k j v.1.2.1 v.1.2.2.1 v.2.1 nx }
def f16 (k : Nat) (a1 : Int) (a2 : (List (Int × (Int × Int)))) : Option ((Int × Unit) × ((List (Int × (Int × Int))) × Unit)) :=
  f16_l2 k k a1 0 a2
    (fun x11 : ((Int × Unit) × ((List (Int × (Int × Int))) × Unit)) =>
      some ((x11.1.1, ()), (x11.2.1, ())),
    ())
def ef16 : Entry := { id := 16, ar := { temps := [(0, .c (.row 3000000)), (1, .c (.int .i64))], blocks := [(3000000, .row 59 (.pair (.int .i64) (.pair (.int .i64) (.int .i64))))], ren := [] }, res := { temps := [(0, .c (.int .i64))], blocks := [(3000000, .row 59 (.pair (.int .i64) (.pair (.int .i64) (.int .i64))))], ren := [(3000000, some 3000000)] }, f := fun k v => f16 k v.1.2.1 v.2.1 }
def gf16 (k : Nat) : Full := { tt := tt, n := 34, fns := [], trunc := [], tails := [], k := k, glob := glob, cuts := [(2, (cf16_l2 k))], joins := [] }
theorem of16_l2 (k : Nat) : CutOk (gf16 k) (cf16_l2 k) (theLoop Try.f16 2) := fun ρ v nx => ⟨by kernel_rfl, fun j => by kernel_rfl⟩
theorem qf16 (k : Nat) : AllP (bodyL (gf16 k) Try.f16) := by
  have h : (CutOk (gf16 k) (cf16_l2 k) (theLoop Try.f16 2) ∧ True) = AllP (bodyL (gf16 k) Try.f16) := by kernel_rfl
  exact Eq.mp h (And.intro (of16_l2 k) (trivial))
theorem sf16 : Sound Try.prog glob ef16 := sound_of base (fn := Try.f16) Try.func16 (by kernel_rfl) gf16 (fun _ => ⟨rfl, rfl⟩) (fun k j => trivial) qf16 (fun k v => by kernel_rfl)

/-! laws.markPattern -/
def f7 (k : Nat) (a1 : Int) (a2 : (List ((Int × (Int × Int)) × (Int × (Int × Int))))) (a3 : (List (Int × (Int × Int)))) : Option ((Int × Unit) × ((List ((Int × (Int × Int)) × (Int × (Int × Int)))) × (List (Int × (Int × Int))) × Unit)) :=
  (f15 k a1 a2).bind fun x3 =>
  (f16 k x3.1.1 a3).bind fun x4 =>
  some ((x4.1.1, ()), (x3.2.1, x4.2.1, ()))
def ef7 : Entry := { id := 7, ar := { temps := [(0, .agg [(.row 3000000), (.row 3000001)]), (1, .c (.int .i64))], blocks := [(3000000, .row 44 (.pair (.pair (.int .i64) (.pair (.int .i64) (.int .i64))) (.pair (.int .i64) (.pair (.int .i64) (.int .i64))))), (3000001, .row 59 (.pair (.int .i64) (.pair (.int .i64) (.int .i64))))], ren := [] }, res := { temps := [(0, .c (.int .i64))], blocks := [(3000000, .row 44 (.pair (.pair (.int .i64) (.pair (.int .i64) (.int .i64))) (.pair (.int .i64) (.pair (.int .i64) (.int .i64))))), (3000001, .row 59 (.pair (.int .i64) (.pair (.int .i64) (.int .i64))))], ren := [(3000000, some 3000000), (3000001, some 3000001)] }, f := fun k v => f7 k v.1.2.1 v.2.1 v.2.2.1 }
def gf7 (k : Nat) : Full := { tt := tt, n := 14, fns := [ef15, ef16], trunc := [], tails := [], k := k, glob := glob, cuts := [], joins := [] }
theorem qf7 (k : Nat) : AllP (bodyL (gf7 k) Try.f7) := by
  have h : True = AllP (bodyL (gf7 k) Try.f7) := by kernel_rfl
  exact Eq.mp h trivial
theorem sf7 : Sound Try.prog glob ef7 := sound_of base (fn := Try.f7) Try.func7 (by kernel_rfl) gf7 (fun _ => ⟨rfl, rfl⟩) (fun k j => ⟨sf15.at j, sf16.at j, trivial⟩) qf7 (fun k v => by kernel_rfl)

/-! laws.heldPointS -/
def f17_l2 {ρ : Type} (k : Nat) : Nat → (List ((Int × (Int × Int)) × (Int × (Int × Int)))) → Int → Int → ((((Int × Unit) × Unit) → Option ρ) × (((Int × Unit) × Unit) → Option ρ) × Unit) → Option ρ
  | 0, _, _, _, _ => none
  | j + 1, v24, v25, v26, nx =>
    bif (decide (v26 < (v24.length : Int))) then
      (getI v24 v26).bind fun x28 =>
      bif (x28.1.1 != v25) then
        nx.2.1 (((-1), ()), ())
      else
        (getI v24 v26).bind fun x30 =>
        bif (x30.1.2.1 != (wr .i64 (v25 + 1))) then
          nx.2.1 (((-1), ()), ())
        else
          (getI v24 v26).bind fun x33 =>
          let x34 : Bool := (x33.1.2.2 != (wr .i64 ((wr .i64 (v25 + 1)) + 1)))
          bif x34 then
            nx.2.1 (((-1), ()), ())
          else
            let x35 : Int := (wr .i64 ((wr .i64 ((wr .i64 (v25 + 1)) + 1)) + 1))
            (getI v24 v26).bind fun x37 =>
            bif (x37.2.1 != x35) then
              nx.2.1 (((-1), ()), ())
            else
              (getI v24 v26).bind fun x39 =>
              bif (x39.2.2.1 != (wr .i64 (x35 + 1))) then
                nx.2.1 (((-1), ()), ())
              else
                (getI v24 v26).bind fun x40 =>
                let x41 : Bool := (x40.2.2.2 != (wr .i64 ((wr .i64 (x35 + 1)) + 1)))
                bif x41 then
                  nx.2.1 (((-1), ()), ())
                else
                  let x42 : Int := (wr .i64 ((wr .i64 ((wr .i64 (x35 + 1)) + 1)) + 1))
                  f17_l2 k j v24 x42 (wr .i64 (v26 + 1)) nx
    else
      nx.1 ((v25, ()), ())
def cf17_l2 (k : Nat) : Cut := { sp := { temps := [(0, .c (.sl (.pair (.pair (.int .i64) (.pair (.int .i64) (.int .i64))) (.pair (.int .i64) (.pair (.int .i64) (.int .i64)))))), (1, .c (.int .i64)), (5, .c (.int .i64))], blocks := [], ren := [] }, outs := [(.exit 0, { temps := [(1, .c (.int .i64))], blocks := [], ren := [] }), (.ret, { temps := [(4, .c (.int .i64))], blocks := [], ren := [] })], F := fun ρ j v nx => f17_l2 k j v.1.1 v.1.2.1 v.1.2.2.1 nx }
def f17 (k : Nat) (a1 : (List ((Int × (Int × Int)) × (Int × (Int × Int))))) (a2 : Int) : Option ((Int × Unit) × Unit) :=
  f17_l2 k k a1 a2 0
    (fun x22 : ((Int × Unit) × Unit) =>
      some ((x22.1.1, ()), ()),
    fun x23 : ((Int × Unit) × Unit) =>
      some ((x23.1.1, ()), ()),
    ())
def ef17 : Entry := { id := 17, ar := { temps := [(0, .c (.sl (.pair (.pair (.int .i64) (.pair (.int .i64) (.int .i64))) (.pair (.int .i64) (.pair (.int .i64) (.int .i64)))))), (1, .c (.int .i64))], blocks := [], ren := [] }, res := { temps := [(0, .c (.int .i64))], blocks := [], ren := [] }, f := fun k v => f17 k v.1.1 v.1.2.1 }
def gf17 (k : Nat) : Full := { tt := tt, n := 73, fns := [], trunc := [], tails := [], k := k, glob := glob, cuts := [(2, (cf17_l2 k))], joins := [] }
theorem of17_l2 (k : Nat) : CutOk (gf17 k) (cf17_l2 k) (theLoop Try.f17 2) := fun ρ v nx => ⟨by kernel_rfl, fun j => by kernel_rfl⟩
theorem qf17 (k : Nat) : AllP (bodyL (gf17 k) Try.f17) := by
  have h : (CutOk (gf17 k) (cf17_l2 k) (theLoop Try.f17 2) ∧ True) = AllP (bodyL (gf17 k) Try.f17) := by kernel_rfl
  exact Eq.mp h (And.intro (of17_l2 k) (trivial))
theorem sf17 : Sound Try.prog glob ef17 := sound_of base (fn := Try.f17) Try.func17 (by kernel_rfl) gf17 (fun _ => ⟨rfl, rfl⟩) (fun k j => trivial) qf17 (fun k v => by kernel_rfl)

/-! laws.heldCreaseS -/
def f18_l2 {ρ : Type} (k : Nat) : Nat → (List (Int × (Int × Int))) → Int → Int → ((((Int × Unit) × Unit) → Option ρ) × (((Int × Unit) × Unit) → Option ρ) × Unit) → Option ρ
  | 0, _, _, _, _ => none
  | j + 1, v15, v16, v17, nx =>
    bif (decide (v17 < (v15.length : Int))) then
      (getI v15 v17).bind fun x19 =>
      bif (x19.1 != v16) then
        nx.2.1 (((-1), ()), ())
      else
        (getI v15 v17).bind fun x21 =>
        bif (x21.2.1 != (wr .i64 (v16 + 1))) then
          nx.2.1 (((-1), ()), ())
        else
          (getI v15 v17).bind fun x22 =>
          let x23 : Bool := (x22.2.2 != (wr .i64 ((wr .i64 (v16 + 1)) + 1)))
          bif x23 then
            nx.2.1 (((-1), ()), ())
          else
            let x24 : Int := (wr .i64 ((wr .i64 ((wr .i64 (v16 + 1)) + 1)) + 1))
            f18_l2 k j v15 x24 (wr .i64 (v17 + 1)) nx
    else
      nx.1 ((v16, ()), ())
def cf18_l2 (k : Nat) : Cut := { sp := { temps := [(0, .c (.sl (.pair (.int .i64) (.pair (.int .i64) (.int .i64))))), (1, .c (.int .i64)), (5, .c (.int .i64))], blocks := [], ren := [] }, outs := [(.exit 0, { temps := [(1, .c (.int .i64))], blocks := [], ren := [] }), (.ret, { temps := [(4, .c (.int .i64))], blocks := [], ren := [] })], F := fun ρ j v nx => f18_l2 k j v.1.1 v.1.2.1 v.1.2.2.1 nx }
def f18 (k : Nat) (a1 : (List (Int × (Int × Int)))) (a2 : Int) : Option ((Int × Unit) × Unit) :=
  f18_l2 k k a1 a2 0
    (fun x13 : ((Int × Unit) × Unit) =>
      some ((x13.1.1, ()), ()),
    fun x14 : ((Int × Unit) × Unit) =>
      some ((x14.1.1, ()), ()),
    ())
def ef18 : Entry := { id := 18, ar := { temps := [(0, .c (.sl (.pair (.int .i64) (.pair (.int .i64) (.int .i64))))), (1, .c (.int .i64))], blocks := [], ren := [] }, res := { temps := [(0, .c (.int .i64))], blocks := [], ren := [] }, f := fun k v => f18 k v.1.1 v.1.2.1 }
def gf18 (k : Nat) : Full := { tt := tt, n := 40, fns := [], trunc := [], tails := [], k := k, glob := glob, cuts := [(2, (cf18_l2 k))], joins := [] }
theorem of18_l2 (k : Nat) : CutOk (gf18 k) (cf18_l2 k) (theLoop Try.f18 2) := fun ρ v nx => ⟨by kernel_rfl, fun j => by kernel_rfl⟩
theorem qf18 (k : Nat) : AllP (bodyL (gf18 k) Try.f18) := by
  have h : (CutOk (gf18 k) (cf18_l2 k) (theLoop Try.f18 2) ∧ True) = AllP (bodyL (gf18 k) Try.f18) := by kernel_rfl
  exact Eq.mp h (And.intro (of18_l2 k) (trivial))
theorem sf18 : Sound Try.prog glob ef18 := sound_of base (fn := Try.f18) Try.func18 (by kernel_rfl) gf18 (fun _ => ⟨rfl, rfl⟩) (fun k j => trivial) qf18 (fun k v => by kernel_rfl)

/-! laws.heldPattern -/
def f8 (k : Nat) (a1 : (List ((Int × (Int × Int)) × (Int × (Int × Int))))) (a2 : (List (Int × (Int × Int)))) (a3 : Int) : Option ((Int × Unit) × Unit) :=
  (f17 k a1 a3).bind fun x3 =>
  bif (decide (x3.1.1 < 0)) then
    some (((-1), ()), ())
  else
    (f18 k a2 x3.1.1).bind fun x4 =>
    bif (decide (x4.1.1 < 0)) then
      some (((-1), ()), ())
    else
      some ((x4.1.1, ()), ())
def ef8 : Entry := { id := 8, ar := { temps := [(0, .agg [(.sl (.pair (.pair (.int .i64) (.pair (.int .i64) (.int .i64))) (.pair (.int .i64) (.pair (.int .i64) (.int .i64))))), (.sl (.pair (.int .i64) (.pair (.int .i64) (.int .i64))))]), (1, .c (.int .i64))], blocks := [], ren := [] }, res := { temps := [(0, .c (.int .i64))], blocks := [], ren := [] }, f := fun k v => f8 k v.1.1.1 v.1.1.2.1 v.1.2.1 }
def gf8 (k : Nat) : Full := { tt := tt, n := 18, fns := [ef17, ef18], trunc := [], tails := [], k := k, glob := glob, cuts := [], joins := [] }
theorem qf8 (k : Nat) : AllP (bodyL (gf8 k) Try.f8) := by
  have h : True = AllP (bodyL (gf8 k) Try.f8) := by kernel_rfl
  exact Eq.mp h trivial
theorem sf8 : Sound Try.prog glob ef8 := sound_of base (fn := Try.f8) Try.func8 (by kernel_rfl) gf8 (fun _ => ⟨rfl, rfl⟩) (fun k j => ⟨sf17.at j, sf18.at j, trivial⟩) qf8 (fun k v => by kernel_rfl)

/-! laws.FnExactSquarePattern -/
def f3 (k : Nat) (a1 : Int) : Option ((Bool × Unit) × Unit) :=
  (f4 k a1).bind fun x11 =>
  (f5 k a1).bind fun x12 =>
  (f6 k x12.2.1 x12.2.2.1 x11.1.1.1 x11.2.1).bind fun x14 =>
  bif (!x14.1.1) then
    some ((false, ()), ())
  else
    bif (x12.1.2.1 != x11.1.2.1) then
      some ((false, ()), ())
    else
      (f7 k 1 x12.2.1 x12.2.2.1).bind fun x15 =>
      (f8 k x15.2.1 x15.2.2.1 1).bind fun x16 =>
      bif (decide (x16.1.1 < 0)) then
        some ((false, ()), ())
      else
        bif (x16.1.1 != x15.1.1) then
          some ((false, ()), ())
        else
          (f5 k a1).bind fun x17 =>
          (f6 k x17.2.1 x17.2.2.1 x11.1.1.1 x11.2.1).bind fun x19 =>
          bif (!x19.1.1) then
            some ((false, ()), ())
          else
            bif (x17.1.2.1 != x11.1.2.1) then
              some ((false, ()), ())
            else
              (f8 k x15.2.1 x15.2.2.1 1).bind fun x20 =>
              bif (decide (x20.1.1 < 0)) then
                some ((false, ()), ())
              else
                bif (x20.1.1 != x15.1.1) then
                  some ((false, ()), ())
                else
                  some ((true, ()), ())
def ef3 : Entry := { id := 3, ar := { temps := [(0, .c (.int .i64))], blocks := [], ren := [] }, res := { temps := [(0, .c .bool)], blocks := [], ren := [] }, f := fun k v => f3 k v.1.1 }
def gf3 (k : Nat) : Full := { tt := tt, n := 63, fns := [ef4, ef5, ef6, ef7, ef8], trunc := [], tails := [], k := k, glob := glob, cuts := [], joins := [] }
theorem qf3 (k : Nat) : AllP (bodyL (gf3 k) Try.f3) := by
  have h : True = AllP (bodyL (gf3 k) Try.f3) := by kernel_rfl
  exact Eq.mp h trivial
theorem sf3 : Sound Try.prog glob ef3 := sound_of base (fn := Try.f3) Try.func3 (by kernel_rfl) gf3 (fun _ => ⟨rfl, rfl⟩) (fun k j => ⟨sf4.at j, sf5.at j, sf6.at j, sf7.at j, sf8.at j, trivial⟩) qf3 (fun k v => by kernel_rfl)

end Go.Proofs.Ytcijmfodhdigpaa.R
