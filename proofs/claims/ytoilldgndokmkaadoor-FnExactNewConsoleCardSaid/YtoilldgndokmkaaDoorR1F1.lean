/- Plain twins of functions, with their contracts. Printed by a program of this session. -/
import Derived.Test.YtoilldgndokmkaaDoorR1F0
set_option linter.unusedVariables false
namespace Go.Proofs.YtoilldgndokmkaaDoor.R
open Go.Proofs.YtoilldgndokmkaaDoor.R1
/-! laws.heldStateS -/
def f17_l2 {ρ : Type} (k : Nat) : Nat → (List ((List ((Int × (Int × Int)) × (Int × (Int × Int)))) × ((List ((List ((Int × (Int × Int)) × (Int × (Int × Int)))) × (Int × (Bool × ((Int × (Int × Int)) × (Int × (Int × Int))))))) × (List Int)))) → Int → Int → ((((Int × Unit) × Unit) → Option ρ) × (((Int × Unit) × Unit) → Option ρ) × Unit) → Option ρ
  | 0, _, _, _, _ => none
  | j + 1, v14, v15, v16, nx =>
    bif (decide (v16 < (v14.length : Int))) then
      (getI v14 v16).bind fun x17 =>
      (f29 k x17.1 v15).bind fun x18 =>
      bif (decide (x18.1.1 < 0)) then
        nx.2.1 (((-1), ()), ())
      else
        (getI v14 v16).bind fun x19 =>
        (f30 k x19.2.1 x18.1.1).bind fun x20 =>
        bif (decide (x20.1.1 < 0)) then
          nx.2.1 (((-1), ()), ())
        else
          (getI v14 v16).bind fun x21 =>
          (f31 k x21.2.2 x20.1.1).bind fun x22 =>
          bif (decide (x22.1.1 < 0)) then
            nx.2.1 (((-1), ()), ())
          else
            f17_l2 k j v14 x22.1.1 (wr .i64 (v16 + 1)) nx
    else
      nx.1 ((v15, ()), ())
def cf17_l2 (k : Nat) : Cut := { sp := { temps := [(0, .c (.sl (.pair (.sl (.pair (.pair (.int .i64) (.pair (.int .i64) (.int .i64))) (.pair (.int .i64) (.pair (.int .i64) (.int .i64))))) (.pair (.sl (.pair (.sl (.pair (.pair (.int .i64) (.pair (.int .i64) (.int .i64))) (.pair (.int .i64) (.pair (.int .i64) (.int .i64))))) (.pair (.int .i64) (.pair .bool (.pair (.pair (.int .i64) (.pair (.int .i64) (.int .i64))) (.pair (.int .i64) (.pair (.int .i64) (.int .i64)))))))) (.sl (.int .i64)))))), (1, .c (.int .i64)), (5, .c (.int .i64))], blocks := [], ren := [] }, outs := [(.exit 0, { temps := [(1, .c (.int .i64))], blocks := [], ren := [] }), (.ret, { temps := [(4, .c (.int .i64))], blocks := [], ren := [] })], F := fun ρ j v nx => f17_l2 k j v.1.1 v.1.2.1 v.1.2.2.1 nx }
def f17 (k : Nat) (a1 : (List ((List ((Int × (Int × Int)) × (Int × (Int × Int)))) × ((List ((List ((Int × (Int × Int)) × (Int × (Int × Int)))) × (Int × (Bool × ((Int × (Int × Int)) × (Int × (Int × Int))))))) × (List Int))))) (a2 : Int) : Option ((Int × Unit) × Unit) :=
  f17_l2 k k a1 a2 0
    (fun x12 : ((Int × Unit) × Unit) =>
      some ((x12.1.1, ()), ()),
    fun x13 : ((Int × Unit) × Unit) =>
      some ((x13.1.1, ()), ()),
    ())
def ef17 : Entry := { id := 17, ar := { temps := [(0, .c (.sl (.pair (.sl (.pair (.pair (.int .i64) (.pair (.int .i64) (.int .i64))) (.pair (.int .i64) (.pair (.int .i64) (.int .i64))))) (.pair (.sl (.pair (.sl (.pair (.pair (.int .i64) (.pair (.int .i64) (.int .i64))) (.pair (.int .i64) (.pair (.int .i64) (.int .i64))))) (.pair (.int .i64) (.pair .bool (.pair (.pair (.int .i64) (.pair (.int .i64) (.int .i64))) (.pair (.int .i64) (.pair (.int .i64) (.int .i64)))))))) (.sl (.int .i64)))))), (1, .c (.int .i64))], blocks := [], ren := [] }, res := { temps := [(0, .c (.int .i64))], blocks := [], ren := [] }, f := fun k v => f17 k v.1.1 v.1.2.1 }
def gf17 (k : Nat) : Full := { tt := tt, n := 40, fns := [ef29, ef30, ef31], trunc := [], tails := [], touch := [], opens := [], shapes := [], closes := [], k := k, glob := glob, cuts := [(2, (cf17_l2 k))], joins := [] }
theorem of17_l2 (k : Nat) : CutOk (gf17 k) (cf17_l2 k) (theLoop Tryd.f17 2) := fun ρ v nx => ⟨by kernel_rfl, fun j => by kernel_rfl⟩
theorem qf17 (k : Nat) : AllP (bodyL (gf17 k) Tryd.f17) := by
  have h : (CutOk (gf17 k) (cf17_l2 k) (theLoop Tryd.f17 2) ∧ True) = AllP (bodyL (gf17 k) Tryd.f17) := by kernel_rfl
  exact Eq.mp h (And.intro (of17_l2 k) (trivial))
theorem sf17 : Sound Tryd.prog glob ef17 := sound_of base (fn := Tryd.f17) Tryd.func17 (by kernel_rfl) gf17 (fun _ => ⟨rfl, rfl⟩) (fun k j => ⟨sf29.at j, sf30.at j, sf31.at j, trivial⟩) qf17 (fun k v => by kernel_rfl)

/-! laws.heldMarkS -/
def f18_l2 {ρ : Type} (k : Nat) : Nat → (List (ByteArray × (Int × (Int × (Int × Int))))) → Int → Int → ((((Int × Unit) × Unit) → Option ρ) × (((Int × Unit) × Unit) → Option ρ) × Unit) → Option ρ
  | 0, _, _, _, _ => none
  | j + 1, v22, v23, v24, nx =>
    bif (decide (v24 < (v22.length : Int))) then
      (getI v22 v24).bind fun x27 =>
      (f28 k v23).bind fun x28 =>
      bif (!(x27.1.toList == x28.1.1.toList)) then
        nx.2.1 (((-1), ()), ())
      else
        (getI v22 v24).bind fun x30 =>
        bif (x30.2.1 != (wr .i64 (v23 + 1))) then
          nx.2.1 (((-1), ()), ())
        else
          (getI v22 v24).bind fun x33 =>
          let x34 : Bool := (x33.2.2.1 != (wr .i64 ((wr .i64 (v23 + 1)) + 1)))
          bif x34 then
            nx.2.1 (((-1), ()), ())
          else
            let x35 : Int := (wr .i64 ((wr .i64 ((wr .i64 (v23 + 1)) + 1)) + 1))
            (getI v22 v24).bind fun x37 =>
            bif (x37.2.2.2.1 != x35) then
              nx.2.1 (((-1), ()), ())
            else
              (getI v22 v24).bind fun x38 =>
              bif (x38.2.2.2.2 != (wr .i64 (x35 + 1))) then
                nx.2.1 (((-1), ()), ())
              else
                f18_l2 k j v22 (wr .i64 ((wr .i64 (x35 + 1)) + 1)) (wr .i64 (v24 + 1)) nx
    else
      nx.1 ((v23, ()), ())
def cf18_l2 (k : Nat) : Cut := { sp := { temps := [(0, .c (.sl (.pair .str (.pair (.int .i64) (.pair (.int .i64) (.pair (.int .i64) (.int .i64))))))), (1, .c (.int .i64)), (5, .c (.int .i64))], blocks := [], ren := [] }, outs := [(.exit 0, { temps := [(1, .c (.int .i64))], blocks := [], ren := [] }), (.ret, { temps := [(4, .c (.int .i64))], blocks := [], ren := [] })], F := fun ρ j v nx => f18_l2 k j v.1.1 v.1.2.1 v.1.2.2.1 nx }
def f18 (k : Nat) (a1 : (List (ByteArray × (Int × (Int × (Int × Int)))))) (a2 : Int) : Option ((Int × Unit) × Unit) :=
  f18_l2 k k a1 a2 0
    (fun x20 : ((Int × Unit) × Unit) =>
      some ((x20.1.1, ()), ()),
    fun x21 : ((Int × Unit) × Unit) =>
      some ((x21.1.1, ()), ()),
    ())
def ef18 : Entry := { id := 18, ar := { temps := [(0, .c (.sl (.pair .str (.pair (.int .i64) (.pair (.int .i64) (.pair (.int .i64) (.int .i64))))))), (1, .c (.int .i64))], blocks := [], ren := [] }, res := { temps := [(0, .c (.int .i64))], blocks := [], ren := [] }, f := fun k v => f18 k v.1.1 v.1.2.1 }
def gf18 (k : Nat) : Full := { tt := tt, n := 66, fns := [ef28], trunc := [], tails := [], touch := [], opens := [], shapes := [], closes := [], k := k, glob := glob, cuts := [(2, (cf18_l2 k))], joins := [] }
theorem of18_l2 (k : Nat) : CutOk (gf18 k) (cf18_l2 k) (theLoop Tryd.f18 2) := fun ρ v nx => ⟨by kernel_rfl, fun j => by kernel_rfl⟩
theorem qf18 (k : Nat) : AllP (bodyL (gf18 k) Tryd.f18) := by
  have h : (CutOk (gf18 k) (cf18_l2 k) (theLoop Tryd.f18 2) ∧ True) = AllP (bodyL (gf18 k) Tryd.f18) := by kernel_rfl
  exact Eq.mp h (And.intro (of18_l2 k) (trivial))
theorem sf18 : Sound Tryd.prog glob ef18 := sound_of base (fn := Tryd.f18) Tryd.func18 (by kernel_rfl) gf18 (fun _ => ⟨rfl, rfl⟩) (fun k j => ⟨sf28.at j, trivial⟩) qf18 (fun k v => by kernel_rfl)

/-! laws.heldRun -/
def f8 (k : Nat) (a1 : (List ((List ((Int × (Int × Int)) × (Int × (Int × Int)))) × ((List ((List ((Int × (Int × Int)) × (Int × (Int × Int)))) × (Int × (Bool × ((Int × (Int × Int)) × (Int × (Int × Int))))))) × (List Int))))) (a2 : (List (ByteArray × (Int × (Int × (Int × Int)))))) (a3 : Int) : Option ((Int × Unit) × Unit) :=
  (f17 k a1 a3).bind fun x3 =>
  bif (decide (x3.1.1 < 0)) then
    some (((-1), ()), ())
  else
    (f18 k a2 x3.1.1).bind fun x4 =>
    bif (decide (x4.1.1 < 0)) then
      some (((-1), ()), ())
    else
      some ((x4.1.1, ()), ())
def ef8 : Entry := { id := 8, ar := { temps := [(0, .agg [(.sl (.pair (.sl (.pair (.pair (.int .i64) (.pair (.int .i64) (.int .i64))) (.pair (.int .i64) (.pair (.int .i64) (.int .i64))))) (.pair (.sl (.pair (.sl (.pair (.pair (.int .i64) (.pair (.int .i64) (.int .i64))) (.pair (.int .i64) (.pair (.int .i64) (.int .i64))))) (.pair (.int .i64) (.pair .bool (.pair (.pair (.int .i64) (.pair (.int .i64) (.int .i64))) (.pair (.int .i64) (.pair (.int .i64) (.int .i64)))))))) (.sl (.int .i64))))), (.sl (.pair .str (.pair (.int .i64) (.pair (.int .i64) (.pair (.int .i64) (.int .i64))))))]), (1, .c (.int .i64))], blocks := [], ren := [] }, res := { temps := [(0, .c (.int .i64))], blocks := [], ren := [] }, f := fun k v => f8 k v.1.1.1 v.1.1.2.1 v.1.2.1 }
def gf8 (k : Nat) : Full := { tt := tt, n := 18, fns := [ef17, ef18], trunc := [], tails := [], touch := [], opens := [], shapes := [], closes := [], k := k, glob := glob, cuts := [], joins := [] }
theorem qf8 (k : Nat) : AllP (bodyL (gf8 k) Tryd.f8) := by
  have h : True = AllP (bodyL (gf8 k) Tryd.f8) := by kernel_rfl
  exact Eq.mp h trivial
theorem sf8 : Sound Tryd.prog glob ef8 := sound_of base (fn := Tryd.f8) Tryd.func8 (by kernel_rfl) gf8 (fun _ => ⟨rfl, rfl⟩) (fun k j => ⟨sf17.at j, sf18.at j, trivial⟩) qf8 (fun k v => by kernel_rfl)

/-! laws.FnExactNewConsole -/
def f3 (k : Nat) : Option ((Bool × Unit) × Unit) :=
  (f4 k).bind fun x11 =>
  (f5 k).bind fun x12 =>
  (f6 k x12.2.1 ([] : List (ByteArray × (Int × (Int × (Int × Int))))) x11.2.1 ([] : List (ByteArray × (Int × (Int × (Int × Int)))))).bind fun x14 =>
  bif (!x14.1.1) then
    some ((false, ()), ())
  else
    (f7 k 1 x12.2.1 ([] : List (ByteArray × (Int × (Int × (Int × Int)))))).bind fun x15 =>
    (f8 k x15.2.1 ([] : List (ByteArray × (Int × (Int × (Int × Int))))) 1).bind fun x16 =>
    bif (decide (x16.1.1 < 0)) then
      some ((false, ()), ())
    else
      bif (x16.1.1 != x15.1.1) then
        some ((false, ()), ())
      else
        (f5 k).bind fun x17 =>
        (f6 k x17.2.1 ([] : List (ByteArray × (Int × (Int × (Int × Int))))) x11.2.1 ([] : List (ByteArray × (Int × (Int × (Int × Int)))))).bind fun x19 =>
        bif (!x19.1.1) then
          some ((false, ()), ())
        else
          (f8 k x15.2.1 ([] : List (ByteArray × (Int × (Int × (Int × Int))))) 1).bind fun x20 =>
          bif (decide (x20.1.1 < 0)) then
            some ((false, ()), ())
          else
            bif (x20.1.1 != x15.1.1) then
              some ((false, ()), ())
            else
              some ((true, ()), ())
def ef3 : Entry := { id := 3, ar := { temps := [], blocks := [], ren := [] }, res := { temps := [(0, .c .bool)], blocks := [], ren := [] }, f := fun k v => f3 k }
def gf3 (k : Nat) : Full := { tt := tt, n := 36, fns := [ef4, ef5, ef6, ef7, ef8], trunc := [], tails := [], touch := [], opens := [], shapes := [], closes := [], k := k, glob := glob, cuts := [], joins := [] }
theorem qf3 (k : Nat) : AllP (bodyL (gf3 k) Tryd.f3) := by
  have h : True = AllP (bodyL (gf3 k) Tryd.f3) := by kernel_rfl
  exact Eq.mp h trivial
theorem sf3 : Sound Tryd.prog glob ef3 := sound_of base (fn := Tryd.f3) Tryd.func3 (by kernel_rfl) gf3 (fun _ => ⟨rfl, rfl⟩) (fun k j => ⟨sf4.at j, sf5.at j, sf6.at j, sf7.at j, sf8.at j, trivial⟩) qf3 (fun k v => by kernel_rfl)

end Go.Proofs.YtoilldgndokmkaaDoor.R
