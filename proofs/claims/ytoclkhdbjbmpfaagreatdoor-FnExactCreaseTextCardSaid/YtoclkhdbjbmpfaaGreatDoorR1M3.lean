/- Plain twins of functions, with their contracts. Printed by a program of this session. | Plain twins of functions, with their contracts. Printed by a program of this session. | What is to be shown of the plain twin of the law FnExactCreaseText. | Helpers for plain laws: reckonings without overflow, places of lists. | Numbers a + b r, r the square root of 2: their signs. -/
import Derived.Test.YtoclkhdbjbmpfaaGreatDoorProg
import Derived.Test.YtoclkhdbjbmpfaaGreatDoorR1M2
set_option linter.unusedVariables false
set_option linter.unusedVariables false
namespace Go.Proofs.YtoclkhdbjbmpfaaGreatDoor.R
open Go.Proofs.YtoclkhdbjbmpfaaGreatDoor.R1
def tt : TT := [
 (2, { k := (.int .i64), size := 1, bytes := 8, zero := [.int .i64 0], u := (.int .i64) }),
 (3, { k := (.int .i64), size := 1, bytes := 8, zero := [.int .i64 0], u := (.int .i64) }),
 (4, { k := .bool, size := 1, bytes := 1, zero := [.bool false], u := .bool }),
 (5, { k := (.int .u8), size := 1, bytes := 1, zero := [.int .u8 0], u := (.int .u8) }),
 (9, { k := .str, size := 1, bytes := 16, zero := [.str ByteArray.empty], u := .str }),
 (22, { k := (.sl 59), size := 1, bytes := 24, zero := [.nils], u := (.sl (.pair (.pair (.int .i64) (.pair (.int .i64) (.int .i64))) (.pair (.int .i64) (.pair (.int .i64) (.int .i64))))) }),
 (23, { k := (.sl 61), size := 1, bytes := 24, zero := [.nils], u := (.sl (.pair (.int .i64) (.pair (.int .i64) (.int .i64)))) }),
 (25, { k := (.struct [(0, 22), (1, 23)]), size := 2, bytes := 48, zero := [.nils, .nils], u := (.pair (.sl (.pair (.pair (.int .i64) (.pair (.int .i64) (.int .i64))) (.pair (.int .i64) (.pair (.int .i64) (.int .i64))))) (.sl (.pair (.int .i64) (.pair (.int .i64) (.int .i64))))) }),
 (28, { k := (.sl 55), size := 1, bytes := 24, zero := [.nils], u := (.sl (.pair (.pair (.int .i64) (.pair (.int .i64) (.int .i64))) (.pair (.int .i64) (.pair (.int .i64) (.int .i64))))) }),
 (29, { k := (.sl 45), size := 1, bytes := 24, zero := [.nils], u := (.sl (.pair (.int .i64) (.pair (.int .i64) (.int .i64)))) }),
 (31, { k := (.struct [(0, 28), (1, 29)]), size := 2, bytes := 48, zero := [.nils, .nils], u := (.pair (.sl (.pair (.pair (.int .i64) (.pair (.int .i64) (.int .i64))) (.pair (.int .i64) (.pair (.int .i64) (.int .i64))))) (.sl (.pair (.int .i64) (.pair (.int .i64) (.int .i64))))) }),
 (45, { k := (.struct [(0, 2), (1, 2), (2, 2)]), size := 3, bytes := 24, zero := [.int .i64 0, .int .i64 0, .int .i64 0], u := (.pair (.int .i64) (.pair (.int .i64) (.int .i64))) }),
 (50, { k := (.sl 9), size := 1, bytes := 24, zero := [.nils], u := (.sl .str) }),
 (53, { k := (.struct [(0, 2), (1, 2), (2, 2)]), size := 3, bytes := 24, zero := [.int .i64 0, .int .i64 0, .int .i64 0], u := (.pair (.int .i64) (.pair (.int .i64) (.int .i64))), eq := true }),
 (55, { k := (.struct [(0, 53), (3, 53)]), size := 6, bytes := 48, zero := [.int .i64 0, .int .i64 0, .int .i64 0, .int .i64 0, .int .i64 0, .int .i64 0], u := (.pair (.pair (.int .i64) (.pair (.int .i64) (.int .i64))) (.pair (.int .i64) (.pair (.int .i64) (.int .i64)))) }),
 (57, { k := (.struct [(0, 2), (1, 2), (2, 2)]), size := 3, bytes := 24, zero := [.int .i64 0, .int .i64 0, .int .i64 0], u := (.pair (.int .i64) (.pair (.int .i64) (.int .i64))) }),
 (59, { k := (.struct [(0, 57), (3, 57)]), size := 6, bytes := 48, zero := [.int .i64 0, .int .i64 0, .int .i64 0, .int .i64 0, .int .i64 0, .int .i64 0], u := (.pair (.pair (.int .i64) (.pair (.int .i64) (.int .i64))) (.pair (.int .i64) (.pair (.int .i64) (.int .i64)))) }),
 (61, { k := (.struct [(0, 2), (1, 2), (2, 2)]), size := 3, bytes := 24, zero := [.int .i64 0, .int .i64 0, .int .i64 0], u := (.pair (.int .i64) (.pair (.int .i64) (.int .i64))) }),
 (70, { k := (.sl 2), size := 1, bytes := 24, zero := [.nils], u := (.sl (.int .i64)) }),
 (83, { k := (.sl 4), size := 1, bytes := 24, zero := [.nils], u := (.sl .bool) }),
 (94, { k := (.struct [(0, 2), (1, 53)]), size := 4, bytes := 32, zero := [.int .i64 0, .int .i64 0, .int .i64 0, .int .i64 0], u := (.pair (.int .i64) (.pair (.int .i64) (.pair (.int .i64) (.int .i64)))) }),
 (100, { k := (.sl 137), size := 1, bytes := 24, zero := [.nils], u := (.sl (.pair (.pair (.pair (.int .i64) (.pair (.int .i64) (.int .i64))) (.pair (.int .i64) (.pair (.int .i64) (.int .i64)))) (.pair (.pair (.pair (.int .i64) (.pair (.int .i64) (.int .i64))) (.pair (.int .i64) (.pair (.int .i64) (.int .i64)))) (.int .i64)))) }),
 (110, { k := (.int .u64), size := 1, bytes := 8, zero := [.int .u64 0], u := (.int .u64) }),
 (116, { k := (.sl 3), size := 1, bytes := 24, zero := [.nils], u := (.sl (.int .i64)) }),
 (122, { k := (.map 2 70), size := 1, bytes := 8, zero := [.nilm], u := .unit }),
 (124, { k := (.sl 28), size := 1, bytes := 24, zero := [.nils], u := (.sl (.sl (.pair (.pair (.int .i64) (.pair (.int .i64) (.int .i64))) (.pair (.int .i64) (.pair (.int .i64) (.int .i64)))))) }),
 (129, { k := (.arr 8 55), size := 48, bytes := 384, zero := [.int .i64 0, .int .i64 0, .int .i64 0, .int .i64 0, .int .i64 0, .int .i64 0, .int .i64 0, .int .i64 0, .int .i64 0, .int .i64 0, .int .i64 0, .int .i64 0, .int .i64 0, .int .i64 0, .int .i64 0, .int .i64 0, .int .i64 0, .int .i64 0, .int .i64 0, .int .i64 0, .int .i64 0, .int .i64 0, .int .i64 0, .int .i64 0, .int .i64 0, .int .i64 0, .int .i64 0, .int .i64 0, .int .i64 0, .int .i64 0, .int .i64 0, .int .i64 0, .int .i64 0, .int .i64 0, .int .i64 0, .int .i64 0, .int .i64 0, .int .i64 0, .int .i64 0, .int .i64 0, .int .i64 0, .int .i64 0, .int .i64 0, .int .i64 0, .int .i64 0, .int .i64 0, .int .i64 0, .int .i64 0], u := (.pair (.pair (.pair (.int .i64) (.pair (.int .i64) (.int .i64))) (.pair (.int .i64) (.pair (.int .i64) (.int .i64)))) (.pair (.pair (.pair (.int .i64) (.pair (.int .i64) (.int .i64))) (.pair (.int .i64) (.pair (.int .i64) (.int .i64)))) (.pair (.pair (.pair (.int .i64) (.pair (.int .i64) (.int .i64))) (.pair (.int .i64) (.pair (.int .i64) (.int .i64)))) (.pair (.pair (.pair (.int .i64) (.pair (.int .i64) (.int .i64))) (.pair (.int .i64) (.pair (.int .i64) (.int .i64)))) (.pair (.pair (.pair (.int .i64) (.pair (.int .i64) (.int .i64))) (.pair (.int .i64) (.pair (.int .i64) (.int .i64)))) (.pair (.pair (.pair (.int .i64) (.pair (.int .i64) (.int .i64))) (.pair (.int .i64) (.pair (.int .i64) (.int .i64)))) (.pair (.pair (.pair (.int .i64) (.pair (.int .i64) (.int .i64))) (.pair (.int .i64) (.pair (.int .i64) (.int .i64)))) (.pair (.pair (.int .i64) (.pair (.int .i64) (.int .i64))) (.pair (.int .i64) (.pair (.int .i64) (.int .i64))))))))))) }),
 (133, { k := (.struct [(0, 2), (1, 2), (2, 2)]), size := 3, bytes := 24, zero := [.int .i64 0, .int .i64 0, .int .i64 0], u := (.pair (.int .i64) (.pair (.int .i64) (.int .i64))) }),
 (135, { k := (.struct [(0, 133), (3, 133)]), size := 6, bytes := 48, zero := [.int .i64 0, .int .i64 0, .int .i64 0, .int .i64 0, .int .i64 0, .int .i64 0], u := (.pair (.pair (.int .i64) (.pair (.int .i64) (.int .i64))) (.pair (.int .i64) (.pair (.int .i64) (.int .i64)))) }),
 (137, { k := (.struct [(0, 135), (6, 135), (12, 2)]), size := 13, bytes := 104, zero := [.int .i64 0, .int .i64 0, .int .i64 0, .int .i64 0, .int .i64 0, .int .i64 0, .int .i64 0, .int .i64 0, .int .i64 0, .int .i64 0, .int .i64 0, .int .i64 0, .int .i64 0], u := (.pair (.pair (.pair (.int .i64) (.pair (.int .i64) (.int .i64))) (.pair (.int .i64) (.pair (.int .i64) (.int .i64)))) (.pair (.pair (.pair (.int .i64) (.pair (.int .i64) (.int .i64))) (.pair (.int .i64) (.pair (.int .i64) (.int .i64)))) (.int .i64))) }),
 (147, { k := (.sl 135), size := 1, bytes := 24, zero := [.nils], u := (.sl (.pair (.pair (.int .i64) (.pair (.int .i64) (.int .i64))) (.pair (.int .i64) (.pair (.int .i64) (.int .i64))))) }),
 (151, { k := (.sl 5), size := 1, bytes := 24, zero := [.nils], u := (.sl (.int .u8)) }),
 (164, { k := (.struct [(0, 2), (1, 133)]), size := 4, bytes := 32, zero := [.int .i64 0, .int .i64 0, .int .i64 0, .int .i64 0], u := (.pair (.int .i64) (.pair (.int .i64) (.pair (.int .i64) (.int .i64)))) }),
 (174, { k := (.sl 133), size := 1, bytes := 24, zero := [.nils], u := (.sl (.pair (.int .i64) (.pair (.int .i64) (.int .i64)))) }),
 (176, { k := (.int .u64), size := 1, bytes := 8, zero := [.int .u64 0], u := (.int .u64) })]
theorem MS : bw Tryz.prog tt := yy (by kernel_rfl)
theorem base : Fy Tryz.prog tt ah := ⟨Jk (by kernel_rfl), MS, pP (by kernel_rfl)⟩
def fl (k n : Nat) (fns : List ab) (cuts : List (Nat × Cut) := []) (joins : List (Nat × Cut) := []) (trunc : List Nat := []) (tails : List Nat := []) (touch : List (Nat × List (Nat × List Nat)) := []) (opens : List Nat := []) (shapes : List (Nat × O) := []) (dJ : List (Nat × List Nat) := []) (whole : Bool := false) (boxes : List Nat := []) (takes : List Nat := []) (melts : List Nat := []) : Full :=
 { tt := tt, n := n, fns := fns, trunc := trunc, tails := tails, touch := touch, opens := opens, shapes := shapes, dJ := dJ, whole := whole, boxes := boxes, takes := takes, melts := melts, k := k, ah := ah, cuts := cuts, joins := joins }
abbrev ee (id : Nat) (a r : List (Nat × VK)) (f : Nat → (Go.Proofs.YtoclkhdbjbmpfaaGreatDoor.R1.Spec.mk a [] []).V → Option (Go.Proofs.YtoclkhdbjbmpfaaGreatDoor.R1.Spec.mk r [] []).V) : ab := ⟨id, ⟨a, [], []⟩, ⟨r, [], []⟩, f⟩
abbrev SN (e : ab) : Prop := gx Tryz.prog ah e
theorem so {fn : Func} {e : ab} (hf : Tryz.prog.funcs[e.id]? = some fn) (cfg : Nat → Full) (hfn : ∀ k j, lp Tryz.prog ah j (cfg k).fns) (hev : ∀ k v, e.f k v = sR (cfg k) fn e.ar e.res (e.ar.st ah v) some) (hob : ∀ k, nW (pd (cfg k) fn) := by exact fun k => Eq.mpr (by kernel_rfl) trivial) (hc : (pc fn && e.ar.blocks.all (fun b => eK b.1)) = true := by kernel_rfl)
    (h1 : ∀ k, (cfg k).tt = tt ∧ (cfg k).ah = ah := by exact fun _ => ⟨rfl, rfl⟩) : SN e := ET base hf hc cfg h1 hfn hob hev
theorem sr {fn : Func} {e : ab} (hf : Tryz.prog.funcs[e.id]? = some fn) (cfg : Nat → Full) (hfn : ∀ k j, (eW Tryz.prog e ∧ dW Tryz.prog ah j e) → lp Tryz.prog ah j (cfg k).fns) (h0 : ∀ v, e.f 0 v = none) (hev : ∀ k v, e.f (k + 1) v = sR (cfg k) fn e.ar e.res (e.ar.st ah v) some) (hob : ∀ k, nW (pd (cfg k) fn) := by exact fun k => Eq.mpr (by kernel_rfl) trivial) (hc : (pc fn && e.ar.blocks.all (fun b => eK b.1)) = true := by kernel_rfl)
    (h1 : ∀ k, (cfg k).tt = tt ∧ (cfg k).ah = ah ∧ (cfg k).k = k := by exact fun _ => ⟨rfl, rfl, rfl⟩) : SN e := Cc base hf hc cfg h1 hfn hob h0 hev
abbrev T0 : Type := Int × Unit
abbrev T1 : Type := Unit × Unit
abbrev T2 : Type := Bool × Unit
abbrev T3 : Type := ByteArray × Unit
abbrev T4 : Type := Int × (Int × Int)
abbrev T5 : Type := List (T4 × T4)
abbrev T6 : Type := T5 × (List T4)
abbrev T7 : Type := (T4 × T4) × Int
abbrev T8 : Type := (T4 × T4) × T7
abbrev T9 : Type := T1 × (T5 × Unit)
abbrev T10 : Type := (List Int) × Unit
abbrev T11 : Type := Unit × Bool × Unit
abbrev T12 : Type := Int × Int × Int × Unit
abbrev T13 : Type := T12 × Unit
abbrev T14 : Type := T12 × T12 × Unit
abbrev T15 : Type := Unit × Unit × Bool × Unit
abbrev T16 : Type := (Int × Int × Unit) × Unit
abbrev T17 : Type := Int × Int × Int × Int × Unit
abbrev T18 : Type := Int × Int × Int × Int × Int × Int × Unit
abbrev T19 : Type := (T18 × Unit) × Unit
abbrev T20 : Type := T5 × Int × Unit × Unit × Bool × Int × Unit
abbrev T21 : Type := T5 × Int × Unit × Unit × Bool × T5 × Int × Int × Unit
abbrev T22 : Type := (Unit × Unit × Unit × Unit) × (T12 × T12 × T12 × Unit)
abbrev u0 : U := (.pair (.int .i64) (.int .i64))
abbrev u1 : U := (.pair (.int .i64) u0)
abbrev u2 : U := (.pair (.pair u1 u1) (.int .i64))
abbrev u3 : U := (.pair (.pair u1 u1) u2)
abbrev u4 : U := (.pair (.sl (.pair u1 u1)) (.sl u1))
abbrev k0 : List CK := [(.int .i64), (.int .i64), (.int .i64)]
abbrev k1 : List CK := [(.int .i64), (.int .i64), (.int .i64), (.int .i64), (.int .i64), (.int .i64)]
abbrev k2 : List CK := [(.sl (.pair u1 u1)), (.sl u1)]
abbrev k3 : List CK := [(.int .i64), (.int .i64), (.int .i64), (.int .i64)]
def f9 (k : Nat) (a1 : T5) (a2 : Int) : Option (T0 × Unit) :=
 let x2 : Bool := (decide ((wr .i64 (a2 - (a1.length : Int))) < 0))
 bif x2 then
  some (((-1), ()), ())
 else
  some (((wr .i64 (a2 - (a1.length : Int))), ()), ())
def ef9 : ab := ee 9 [(0, .c (.sl (.pair u1 u1))), (1, .c (.int .i64))] [(0, .c (.int .i64))] fun k v => f9 k v.1.1 v.1.2.1
def gf9 (k : Nat) : Full := fl k 12 []
theorem sf9 : SN ef9 := so Tryz.func9 gf9 (fun _ _ => trivial) (fun _ _ => by kernel_rfl)
def f10 (k : Nat) (a1 : (List T4)) (a2 : Int) : Option (T0 × Unit) :=
 let x2 : Bool := (decide ((wr .i64 (a2 - (a1.length : Int))) < 0))
 bif x2 then
  some (((-1), ()), ())
 else
  some (((wr .i64 (a2 - (a1.length : Int))), ()), ())
def J4 : ab := ee 10 [(0, .c (.sl u1)), (1, .c (.int .i64))] [(0, .c (.int .i64))] fun k v => f10 k v.1.1 v.1.2.1
def Ni (k : Nat) : Full := fl k 12 []
theorem M8 : SN J4 := so Tryz.func10 Ni (fun _ _ => trivial) (fun _ _ => by kernel_rfl)
def f4 (k : Nat) (a1 : T5) (a2 : (List T4)) (a3 : Int) : Option (T0 × Unit) :=
 (f9 k a1 a3).bind fun x3 =>
 bif (decide (x3.1.1 < 0)) then
  some (((-1), ()), ())
 else
  (f10 k a2 x3.1.1).bind fun x4 =>
  bif (decide (x4.1.1 < 0)) then
   some (((-1), ()), ())
  else
   some ((x4.1.1, ()), ())
def ef4 : ab := ee 4 [(0, .agg k2), (1, .c (.int .i64))] [(0, .c (.int .i64))] fun k v => f4 k v.1.1.1 v.1.1.2.1 v.1.2.1
def gf4 (k : Nat) : Full := fl k 18 [ef9, J4]
theorem sf4 : SN ef4 := so Tryz.func4 gf4 (fun _ j => ⟨sf9.at j, M8.at j, trivial⟩) (fun _ _ => by kernel_rfl)
def f40 (k : Nat) (a1 a2 a3 : Int) : Option (T13 × Unit) :=
 some (((a1, a2, a3, ()), ()), ())
def J7 : ab := ee 40 [(0, .agg k0)] [(0, .agg k0)] fun k v => f40 k v.1.1.1 v.1.1.2.1 v.1.1.2.2.1
def MB (k : Nat) : Full := fl k 14 []
theorem Mh : SN J7 := so Tryz.func40 MB (fun _ _ => trivial) (fun _ _ => by kernel_rfl)
def f24 (k : Nat) (a1 a2 a3 a4 a5 a6 : Int) : Option T19 :=
 (f40 k a1 a2 a3).bind fun x3 =>
 (f40 k a4 a5 a6).bind fun x4 =>
 some (((x3.1.1.1, x3.1.1.2.1, x3.1.1.2.2.1, x4.1.1.1, x4.1.1.2.1, x4.1.1.2.2.1, ()), ()), ())
def Ix : ab := ee 24 [(0, .agg k1)] [(0, .agg k1)] fun k v => f24 k v.1.1.1 v.1.1.2.1 v.1.1.2.2.1 v.1.1.2.2.2.1 v.1.1.2.2.2.2.1 v.1.1.2.2.2.2.2.1
def N0 (k : Nat) : Full := fl k 13 [J7]
theorem L5 : SN Ix := so Tryz.func24 N0 (fun _ j => ⟨Mh.at j, trivial⟩) (fun _ _ => by kernel_rfl)
def lW {ρ : Type} (k : Nat) : Nat → T5 → Int → T5 → ((T9 → Option ρ) × Unit) → Option ρ
 | 0, _, _, _, _ => none
 | j + 1, v12, v13, v14, nx =>
  bif (decide (v13 < (v12.length : Int))) then
   (ak v12 v13).bind fun x15 =>
   (f24 k x15.1.1 x15.1.2.1 x15.1.2.2 x15.2.1 x15.2.2.1 x15.2.2.2).bind fun x16 =>
   bif decide (0 ≤ v13) && decide (v13 < (v14.length : Int)) then
    (v14[v13.toNat]?).bind fun _ =>
    let x18 : T5 := (v14.set v13.toNat ((x16.1.1.1, (x16.1.1.2.1, x16.1.1.2.2.1)), (x16.1.1.2.2.2.1, (x16.1.1.2.2.2.2.1, x16.1.1.2.2.2.2.2.1))))
    lW k j v12 (wr .i64 (v13 + 1)) x18 nx
   else
    none
  else
   nx.1 (((), ()), (v14, ()))
def zo (k : Nat) : Cut := ⟨⟨[(0, .c (.sl (.pair u1 u1))), (3, .c (.row 5000000)), (4, .c (.int .i64))], [(5000000, .row 55 (.pair u1 u1))], []⟩, [(.exit 0, ⟨[(3, .c (.row 5000000))], [(5000000, .row 55 (.pair u1 u1))], []⟩)], fun ρ j v nx => lW k j v.1.1 v.1.2.2.1 v.2.1 nx⟩
def f14 (k : Nat) (a1 : T5) : Option T9 :=
 bif decide ((a1.length : Int) = (a1.length : Int)) && decide (0 ≤ (a1.length : Int)) && decide ((a1.length : Int) * 48 ≤ roomy) then
  let x10 : T5 := (List.replicate (a1.length : Int).toNat ((0, (0, 0)), (0, (0, 0))))
  lW k k a1 0 x10
   (fun x11 : T9 =>
    some (((), ()), (x11.2.1, ())),
   ())
 else
  none
def I0 : ab := ⟨14, ⟨[(0, .c (.sl (.pair u1 u1)))], [], []⟩, ⟨[(0, .c (.row 4000000))], [(4000000, .row 55 (.pair u1 u1))], []⟩, fun k v => f14 k v.1.1⟩
def Kz (k : Nat) : Full := fl k 23 [Ix] (cuts := [(3, (zo k))])
theorem Hi (k : Nat) : aO (Kz k) (zo k) (ax Tryz.f14 3) := fun ρ v nx => ⟨by kernel_rfl, fun j => by kernel_rfl⟩
theorem L9 : SN I0 := so Tryz.func14 Kz (fun _ j => ⟨L5.at j, trivial⟩) (fun _ _ => by kernel_rfl) (hob := fun k => Eq.mpr (by kernel_rfl) (And.intro (Hi k) (trivial)))
def f25 (k : Nat) (a1 a2 a3 : Int) : Option (T13 × Unit) :=
 some (((a1, a2, a3, ()), ()), ())
def J8 : ab := ee 25 [(0, .agg k0)] [(0, .agg k0)] fun k v => f25 k v.1.1.1 v.1.1.2.1 v.1.1.2.2.1
def Ob (k : Nat) : Full := fl k 14 []
theorem N1 : SN J8 := so Tryz.func25 Ob (fun _ _ => trivial) (fun _ _ => by kernel_rfl)
def lV {ρ : Type} (k : Nat) : Nat → (List T4) → Int → (List T4) → (((T1 × ((List T4) × Unit)) → Option ρ) × Unit) → Option ρ
 | 0, _, _, _, _ => none
 | j + 1, v12, v13, v14, nx =>
  bif (decide (v13 < (v12.length : Int))) then
   (ak v12 v13).bind fun x15 =>
   (f25 k x15.1 x15.2.1 x15.2.2).bind fun x16 =>
   bif decide (0 ≤ v13) && decide (v13 < (v14.length : Int)) then
    (v14[v13.toNat]?).bind fun _ =>
    let x18 : (List T4) := (v14.set v13.toNat (x16.1.1.1, (x16.1.1.2.1, x16.1.1.2.2.1)))
    lV k j v12 (wr .i64 (v13 + 1)) x18 nx
   else
    none
  else
   nx.1 (((), ()), (v14, ()))
def zw (k : Nat) : Cut := ⟨⟨[(0, .c (.sl u1)), (3, .c (.row 5000000)), (4, .c (.int .i64))], [(5000000, .row 45 u1)], []⟩, [(.exit 0, ⟨[(3, .c (.row 5000000))], [(5000000, .row 45 u1)], []⟩)], fun ρ j v nx => lV k j v.1.1 v.1.2.2.1 v.2.1 nx⟩
def f15 (k : Nat) (a1 : (List T4)) : Option (T1 × ((List T4) × Unit)) :=
 bif decide ((a1.length : Int) = (a1.length : Int)) && decide (0 ≤ (a1.length : Int)) && decide ((a1.length : Int) * 24 ≤ roomy) then
  let x10 : (List T4) := (List.replicate (a1.length : Int).toNat (0, (0, 0)))
  lV k k a1 0 x10
   (fun x11 : (T1 × ((List T4) × Unit)) =>
    some (((), ()), (x11.2.1, ())),
   ())
 else
  none
def JB : ab := ⟨15, ⟨[(0, .c (.sl u1))], [], []⟩, ⟨[(0, .c (.row 4000000))], [(4000000, .row 45 u1)], []⟩, fun k v => f15 k v.1.1⟩
def IH (k : Nat) : Full := fl k 23 [J8] (cuts := [(3, (zw k))])
theorem Ik (k : Nat) : aO (IH k) (zw k) (ax Tryz.f15 3) := fun ρ v nx => ⟨by kernel_rfl, fun j => by kernel_rfl⟩
theorem NT : SN JB := so Tryz.func15 IH (fun _ j => ⟨N1.at j, trivial⟩) (fun _ _ => by kernel_rfl) (hob := fun k => Eq.mpr (by kernel_rfl) (And.intro (Ik k) (trivial)))
def f6 (k : Nat) (a1 : T5) (a2 : (List T4)) : Option (((Unit × Unit × Unit) × Unit) × (T5 × (List T4) × Unit)) :=
 (f14 k a1).bind fun x3 =>
 (f15 k a2).bind fun x4 =>
 some ((((), (), ()), ()), (x3.2.1, x4.2.1, ()))
def ef6 : ab := ⟨6, ⟨[(0, .agg k2)], [], []⟩, ⟨[(0, .agg [(.row 4000000), (.row 4000001)])], [(4000000, .row 55 (.pair u1 u1)), (4000001, .row 45 u1)], []⟩, fun k v => f6 k v.1.1.1 v.1.1.2.1⟩
def gf6 (k : Nat) : Full := fl k 13 [I0, JB]
theorem sf6 : SN ef6 := so Tryz.func6 gf6 (fun _ j => ⟨L9.at j, NT.at j, trivial⟩) (fun _ _ => by kernel_rfl)
def f12 (k : Nat) (a1 a2 a3 : Int) : Option (T2 × Unit) :=
 bif (decide (a1 ≥ a2)) then
  some (((decide (a1 ≤ a3)), ()), ())
 else
  some ((false, ()), ())
def xd : ab := ee 12 [(0, .c (.int .i64)), (1, .c (.int .i64)), (2, .c (.int .i64))] [(0, .c .bool)] fun k v => f12 k v.1.1 v.1.2.1 v.1.2.2.1
def MD (k : Nat) : Full := fl k 15 []
theorem AO : SN xd := so Tryz.func12 MD (fun _ _ => trivial) (fun _ _ => by kernel_rfl)
def f125 (k : Nat) (a1 a2 a3 : Int) : Option (T2 × Unit) :=
 (f12 k a1 (-131072) 131072).bind fun x10 =>
 bif (!x10.1.1) then
  some ((false, ()), ())
 else
  (f12 k a2 (-131072) 131072).bind fun x11 =>
  bif (!x11.1.1) then
   some ((false, ()), ())
  else
   (f12 k a3 0 10).bind fun x12 =>
   bif (!x12.1.1) then
    some ((false, ()), ())
   else
    bif (a3 == 0) then
     some ((true, ()), ())
    else
     bif ((a1.tmod 2) != 0) then
      some ((true, ()), ())
     else
      some ((((a2.tmod 2) != 0), ()), ())
def F8 : ab := ee 125 [(0, .agg k0)] [(0, .c .bool)] fun k v => f125 k v.1.1.1 v.1.1.2.1 v.1.1.2.2.1
def KS (k : Nat) : Full := fl k 34 [xd]
theorem LC : SN F8 := so Tryz.func125 KS (fun _ j => ⟨AO.at j, trivial⟩) (fun _ _ => by kernel_rfl)
def f97 (k : Nat) (a1 a2 a3 a4 a5 a6 : Int) : Option (T2 × Unit) :=
 (f125 k a1 a2 a3).bind fun x3 =>
 bif x3.1.1 then
  (f125 k a4 a5 a6).bind fun x4 =>
  some ((x4.1.1, ()), ())
 else
  some ((false, ()), ())
def D7 : ab := ee 97 [(0, .agg k1)] [(0, .c .bool)] fun k v => f97 k v.1.1.1 v.1.1.2.1 v.1.1.2.2.1 v.1.1.2.2.2.1 v.1.1.2.2.2.2.1 v.1.1.2.2.2.2.2.1
def Mn (k : Nat) : Full := fl k 11 [F8]
theorem JR : SN D7 := so Tryz.func97 Mn (fun _ j => ⟨LC.at j, trivial⟩) (fun _ _ => by kernel_rfl)
def f134 (k : Nat) (a1 a2 a3 : Int) : Option (T13 × Unit) :=
 some (((a1, a2, a3, ()), ()), ())
def AV : ab := ee 134 [(0, .agg k0)] [(0, .agg k0)] fun k v => f134 k v.1.1.1 v.1.1.2.1 v.1.1.2.2.1
def Lm (k : Nat) : Full := fl k 10 []
theorem G6 : SN AV := so Tryz.func134 Lm (fun _ _ => trivial) (fun _ _ => by kernel_rfl)
def f150 (k : Nat) (a1 a2 a3 : Int) : Option (T13 × Unit) :=
 some ((((wr .i64 (0 - a1)), (wr .i64 (0 - a2)), a3, ()), ()), ())
def GC : ab := ee 150 [(0, .agg k0)] [(0, .agg k0)] fun k v => f150 k v.1.1.1 v.1.1.2.1 v.1.1.2.2.1
def KD (k : Nat) : Full := fl k 12 []
theorem K9 : SN GC := so Tryz.func150 KD (fun _ _ => trivial) (fun _ _ => by kernel_rfl)
def eZ {ρ : Type} (k : Nat) : Nat → Int → Int → Int → Int → Int → Int → ((((Unit × Unit × Unit) × T14) → Option ρ) × Unit) → Option ρ
 | 0, _, _, _, _, _, _, _ => none
 | j + 1, v18, v19, v20, v21, v22, v23, nx =>
  bif (decide (v20 > 0)) then
   bif ((v18.tmod 2) == 0) then
    bif ((v19.tmod 2) == 0) then
     eZ k j (wr .i64 (v18.tdiv 2)) (wr .i64 (v19.tdiv 2)) (wr .i64 (v20 - 1)) v21 v22 v23 nx
    else
     nx.1 (((), (), ()), ((v18, v19, v20, ()), (v21, v22, v23, ()), ()))
   else
    nx.1 (((), (), ()), ((v18, v19, v20, ()), (v21, v22, v23, ()), ()))
  else
   nx.1 (((), (), ()), ((v18, v19, v20, ()), (v21, v22, v23, ()), ()))
def xj (k : Nat) : Cut := ⟨⟨[(1, .c (.box 5000000)), (2, .c (.box 5000001))], [(5000000, .box 133 k0), (5000001, .box 133 k0)], []⟩, [(.exit 0, ⟨[(1, .c (.box 5000000)), (2, .c (.box 5000001))], [(5000000, .box 133 k0), (5000001, .box 133 k0)], []⟩)], fun ρ j v nx => eZ k j v.2.1.1 v.2.1.2.1 v.2.1.2.2.1 v.2.2.1.1 v.2.2.1.2.1 v.2.2.1.2.2.1 nx⟩
def lU {ρ : Type} (k : Nat) (v24 v25 v26 v27 v28 v29 : Int) (nx : (((T1 × T13) → Option ρ) × Unit)) : Option ρ :=
 eZ k k v24 v25 v26 v27 v28 v29
  (fun x30 : ((Unit × Unit × Unit) × T14) =>
   nx.1 (((), ()), ((x30.2.1.1, x30.2.1.2.1, x30.2.1.2.2.1, ()), ())),
  ())
def wL : Cut := ⟨⟨[(1, .c (.box 5000000)), (2, .c (.box 5000001))], [(5000000, .box 133 k0), (5000001, .box 133 k0)], []⟩, [(.ret, ⟨[(2, .c (.box 5000000))], [(5000000, .box 133 k0)], []⟩)], fun ρ k v nx => lU k v.2.1.1 v.2.1.2.1 v.2.1.2.2.1 v.2.2.1.1 v.2.2.1.2.1 v.2.2.1.2.2.1 nx⟩
def f156 (k : Nat) (a1 a2 a3 : Int) : Option (T13 × Unit) :=
 bif (a1 == 0) then
  bif (a2 == 0) then
   some (((0, 0, 0, ()), ()), ())
  else
   lU k a1 a2 a3 0 0 0
    (fun x16 : (T1 × T13) =>
     some (((x16.2.1.1, x16.2.1.2.1, x16.2.1.2.2.1, ()), ()), ()),
    ())
 else
  lU k a1 a2 a3 0 0 0
   (fun x17 : (T1 × T13) =>
    some (((x17.2.1.1, x17.2.1.2.1, x17.2.1.2.2.1, ()), ()), ()),
   ())
def vd : ab := ee 156 [(0, .agg k0)] [(0, .agg k0)] fun k v => f156 k v.1.1.1 v.1.1.2.1 v.1.1.2.2.1
def BO (k : Nat) : Full := fl k 40 [] (cuts := [(3, (xj k))]) (joins := [(3, wL)])
theorem DR (k : Nat) : aO (BO k) (xj k) (ax Tryz.f156 3) := fun ρ v nx => ⟨by kernel_rfl, fun j => by kernel_rfl⟩
theorem Eo (k : Nat) : df (BO k) wL (db Tryz.f156 3) := fun ρ v nx => by kernel_rfl
theorem A4 : SN vd := so Tryz.func156 BO (fun _ _ => trivial) (fun _ _ => by kernel_rfl) (hob := fun k => Eq.mpr (by kernel_rfl) (And.intro (DR k) (And.intro (Eo k) (trivial))))
def kb {ρ : Type} (k : Nat) : Nat → Int → Int → Int → Int → Int → Int → Int → Int → Int → ((T22 → Option ρ) × Unit) → Option ρ
 | 0, _, _, _, _, _, _, _, _, _, _ => none
 | j + 1, v29, v30, v31, v32, v33, v34, v35, v36, v37, nx =>
  bif (decide (v31 < v34)) then
   kb k j (wr .i64 (v29 * 2)) (wr .i64 (v30 * 2)) (wr .i64 (v31 + 1)) v32 v33 v34 v35 v36 v37 nx
  else
   nx.1 (((), (), (), ()), ((v29, v30, v31, ()), (v32, v33, v34, ()), (v35, v36, v37, ()), ()))
def wk (k : Nat) : Cut := ⟨⟨[(2, .c (.box 5000000)), (3, .c (.box 5000001)), (4, .c (.box 5000002))], [(5000000, .box 133 k0), (5000001, .box 133 k0), (5000002, .box 133 k0)], []⟩, [(.exit 0, ⟨[(2, .c (.box 5000000)), (3, .c (.box 5000001)), (4, .c (.box 5000002))], [(5000000, .box 133 k0), (5000001, .box 133 k0), (5000002, .box 133 k0)], []⟩)], fun ρ j v nx => kb k j v.2.1.1 v.2.1.2.1 v.2.1.2.2.1 v.2.2.1.1 v.2.2.1.2.1 v.2.2.1.2.2.1 v.2.2.2.1.1 v.2.2.2.1.2.1 v.2.2.2.1.2.2.1 nx⟩
def kc {ρ : Type} (k : Nat) : Nat → Int → Int → Int → Int → Int → Int → Int → Int → Int → ((T22 → Option ρ) × Unit) → Option ρ
 | 0, _, _, _, _, _, _, _, _, _, _ => none
 | j + 1, v38, v39, v40, v41, v42, v43, v44, v45, v46, nx =>
  bif (decide (v43 < v40)) then
   kc k j v38 v39 v40 (wr .i64 (v41 * 2)) (wr .i64 (v42 * 2)) (wr .i64 (v43 + 1)) v44 v45 v46 nx
  else
   nx.1 (((), (), (), ()), ((v38, v39, v40, ()), (v41, v42, v43, ()), (v44, v45, v46, ()), ()))
def vH (k : Nat) : Cut := ⟨⟨[(2, .c (.box 5000000)), (3, .c (.box 5000001)), (4, .c (.box 5000002))], [(5000000, .box 133 k0), (5000001, .box 133 k0), (5000002, .box 133 k0)], []⟩, [(.exit 2, ⟨[(2, .c (.box 5000000)), (3, .c (.box 5000001)), (4, .c (.box 5000002))], [(5000000, .box 133 k0), (5000001, .box 133 k0), (5000002, .box 133 k0)], []⟩)], fun ρ j v nx => kc k j v.2.1.1 v.2.1.2.1 v.2.1.2.2.1 v.2.2.1.1 v.2.2.1.2.1 v.2.2.1.2.2.1 v.2.2.2.1.1 v.2.2.2.1.2.1 v.2.2.2.1.2.2.1 nx⟩
def f147 (k : Nat) (a1 a2 a3 a4 a5 a6 : Int) : Option (T13 × Unit) :=
 kb k k a1 a2 a3 a4 a5 a6 0 0 0
  (fun x25 : T22 =>
   kc k k x25.2.1.1 x25.2.1.2.1 x25.2.1.2.2.1 x25.2.2.1.1 x25.2.2.1.2.1 x25.2.2.1.2.2.1 x25.2.2.2.1.1 x25.2.2.2.1.2.1 x25.2.2.2.1.2.2.1
    (fun x27 : T22 =>
     (f156 k (wr .i64 (x27.2.1.1 + x27.2.2.1.1)) (wr .i64 (x27.2.1.2.1 + x27.2.2.1.2.1)) x27.2.1.2.2.1).bind fun x28 =>
     some (((x28.1.1.1, x28.1.1.2.1, x28.1.1.2.2.1, ()), ()), ()),
    ()),
  ())
def BQ : ab := ee 147 [(0, .agg k0), (1, .agg k0)] [(0, .agg k0)] fun k v => f147 k v.1.1.1 v.1.1.2.1 v.1.1.2.2.1 v.1.2.1.1 v.1.2.1.2.1 v.1.2.1.2.2.1
def A9 (k : Nat) : Full := fl k 53 [vd] (cuts := [(1, (wk k)), (5, (vH k))])
theorem FW (k : Nat) : aO (A9 k) (wk k) (ax Tryz.f147 1) := fun ρ v nx => ⟨by kernel_rfl, fun j => by kernel_rfl⟩
theorem FH (k : Nat) : aO (A9 k) (vH k) (ax Tryz.f147 5) := fun ρ v nx => ⟨by kernel_rfl, fun j => by kernel_rfl⟩
theorem G4 : SN BQ := so Tryz.func147 A9 (fun _ j => ⟨A4.at j, trivial⟩) (fun _ _ => by kernel_rfl) (hob := fun k => Eq.mpr (by kernel_rfl) (And.intro (FW k) (And.intro (FH k) (trivial))))
def f133 (k : Nat) (a1 a2 a3 a4 a5 a6 : Int) : Option (T13 × Unit) :=
 (f150 k a4 a5 a6).bind fun x3 =>
 (f147 k a1 a2 a3 x3.1.1.1 x3.1.1.2.1 x3.1.1.2.2.1).bind fun x4 =>
 some (((x4.1.1.1, x4.1.1.2.1, x4.1.1.2.2.1, ()), ()), ())
def jU : ab := ee 133 [(0, .agg k0), (1, .agg k0)] [(0, .agg k0)] fun k v => f133 k v.1.1.1 v.1.1.2.1 v.1.1.2.2.1 v.1.2.1.1 v.1.2.1.2.1 v.1.2.1.2.2.1
def Ls (k : Nat) : Full := fl k 9 [GC, BQ] (touch := [(1, [(4, [4])])])
theorem lf : SN jU := so Tryz.func133 Ls (fun _ j => ⟨K9.at j, G4.at j, trivial⟩) (fun _ _ => by kernel_rfl)
def nf {ρ : Type} (k : Nat) (v24 v25 v26 : Int) (nx : ((T16 → Option ρ) × Unit)) : Option ρ :=
 nx.1 (((wr .u64 ((wr .u64 (v24 * v24)) + v26)), v25, ()), ())
def ue : Cut := ⟨⟨[(6, .c (.int .u64)), (8, .c (.int .u64)), (9, .c (.int .u64))], [], []⟩, [(.ret, ⟨[(2, .c (.int .u64)), (3, .c (.int .u64))], [], []⟩)], fun ρ k v nx => nf k v.1.1 v.1.2.1 v.1.2.2.1 nx⟩
def lS {ρ : Type} (k : Nat) (v17 : Int) (nx : ((T16 → Option ρ) × Unit)) : Option ρ :=
 let x18 : Int := (wr .u64 ((wr .u64 (2 * (dN .u64 v17 4294967295))) * (fm .u64 v17 32)))
 let x19 : Int := (wr .u64 ((dN .u64 v17 4294967295) * (dN .u64 v17 4294967295)))
 let x20 : Int := (wr .u64 ((dN .u64 v17 4294967295) * (dN .u64 v17 4294967295)))
 let x21 : Bool := (decide ((wr .u64 (x19 + (cP .u64 x18 32))) < x20))
 bif x21 then
  nf k (fm .u64 v17 32) (wr .u64 (x19 + (cP .u64 x18 32))) (wr .u64 ((fm .u64 x18 32) + 1))
   (fun x22 : T16 =>
    nx.1 ((x22.1.1, x22.1.2.1, ()), ()),
   ())
 else
  nf k (fm .u64 v17 32) (wr .u64 (x19 + (cP .u64 x18 32))) (fm .u64 x18 32)
   (fun x23 : T16 =>
    nx.1 ((x23.1.1, x23.1.2.1, ()), ()),
   ())
def wU : Cut := ⟨⟨[(4, .c (.int .u64))], [], []⟩, [(.ret, ⟨[(2, .c (.int .u64)), (3, .c (.int .u64))], [], []⟩)], fun ρ k v nx => lS k v.1.1 nx⟩
def f157 (k : Nat) (a1 : Int) : Option T16 :=
 bif (decide (a1 < 0)) then
  lS k (wr .u64 (wr .i64 (0 - a1)))
   (fun x15 : T16 =>
    some ((x15.1.1, x15.1.2.1, ()), ()),
   ())
 else
  lS k (wr .u64 a1)
   (fun x16 : T16 =>
    some ((x16.1.1, x16.1.2.1, ()), ()),
   ())
def Gt : ab := ee 157 [(0, .c (.int .i64))] [(0, .c (.int .u64)), (1, .c (.int .u64))] fun k v => f157 k v.1.1
def BS (k : Nat) : Full := fl k 46 [] (joins := [(11, ue), (4, wU)])
theorem Da (k : Nat) : df (BS k) ue (db Tryz.f157 11) := fun ρ v nx => by kernel_rfl
theorem Ea (k : Nat) : df (BS k) wU (db Tryz.f157 4) := fun ρ v nx => by kernel_rfl
theorem L0 : SN Gt := so Tryz.func157 BS (fun _ _ => trivial) (fun _ _ => by kernel_rfl) (hob := fun k => Eq.mpr (by kernel_rfl) (And.intro (Da k) (And.intro (Ea k) (trivial))))
def f149 (k : Nat) (a1 a2 : Int) : Option (T2 × Unit) :=
 (f157 k a1).bind fun x5 =>
 (f157 k a2).bind fun x6 =>
 let x7 : Int := (wr .u64 ((wr .u64 (x6.1.1 * 2)) + (fm .u64 x6.1.2.1 63)))
 bif (decide (x5.1.1 < x7)) then
  some ((true, ()), ())
 else
  bif (x5.1.1 == x7) then
   let x8 : Bool := (decide (x5.1.2.1 < (wr .u64 (x6.1.2.1 * 2))))
   some ((x8, ()), ())
  else
   some ((false, ()), ())
def GH : ab := ee 149 [(0, .c (.int .i64)), (1, .c (.int .i64))] [(0, .c .bool)] fun k v => f149 k v.1.1 v.1.2.1
def Lk (k : Nat) : Full := fl k 39 [Gt]
theorem Lc : SN GH := so Tryz.func149 Lk (fun _ j => ⟨L0.at j, trivial⟩) (fun _ _ => by kernel_rfl)
def f132 (k : Nat) (a1 a2 a3 : Int) : Option (T0 × Unit) :=
 bif (a1 == 0) then
  bif (a2 == 0) then
   some ((0, ()), ())
  else
   bif (decide (a1 ≥ 0)) then
    bif (decide (a2 ≥ 0)) then
     some ((1, ()), ())
    else
     bif (decide (a1 ≤ 0)) then
      bif (decide (a2 ≤ 0)) then
       some (((-1), ()), ())
      else
       (f149 k a1 a2).bind fun x9 =>
       bif (x9.1.1 == (decide (a2 > 0))) then
        some ((1, ()), ())
       else
        some (((-1), ()), ())
     else
      (f149 k a1 a2).bind fun x10 =>
      bif (x10.1.1 == (decide (a2 > 0))) then
       some ((1, ()), ())
      else
       some (((-1), ()), ())
   else
    bif (decide (a1 ≤ 0)) then
     bif (decide (a2 ≤ 0)) then
      some (((-1), ()), ())
     else
      (f149 k a1 a2).bind fun x11 =>
      bif (x11.1.1 == (decide (a2 > 0))) then
       some ((1, ()), ())
      else
       some (((-1), ()), ())
    else
     (f149 k a1 a2).bind fun x12 =>
     bif (x12.1.1 == (decide (a2 > 0))) then
      some ((1, ()), ())
     else
      some (((-1), ()), ())
 else
  bif (decide (a1 ≥ 0)) then
   bif (decide (a2 ≥ 0)) then
    some ((1, ()), ())
   else
    bif (decide (a1 ≤ 0)) then
     bif (decide (a2 ≤ 0)) then
      some (((-1), ()), ())
     else
      (f149 k a1 a2).bind fun x13 =>
      bif (x13.1.1 == (decide (a2 > 0))) then
       some ((1, ()), ())
      else
       some (((-1), ()), ())
    else
     (f149 k a1 a2).bind fun x14 =>
     bif (x14.1.1 == (decide (a2 > 0))) then
      some ((1, ()), ())
     else
      some (((-1), ()), ())
  else
   bif (decide (a1 ≤ 0)) then
    bif (decide (a2 ≤ 0)) then
     some (((-1), ()), ())
    else
     (f149 k a1 a2).bind fun x15 =>
     bif (x15.1.1 == (decide (a2 > 0))) then
      some ((1, ()), ())
     else
      some (((-1), ()), ())
   else
    (f149 k a1 a2).bind fun x16 =>
    bif (x16.1.1 == (decide (a2 > 0))) then
     some ((1, ()), ())
    else
     some (((-1), ()), ())
def jO : ab := ee 132 [(0, .agg k0)] [(0, .c (.int .i64))] fun k v => f132 k v.1.1.1 v.1.1.2.1 v.1.1.2.2.1
def L2 (k : Nat) : Full := fl k 40 [GH]
theorem lm : SN jO := so Tryz.func132 L2 (fun _ j => ⟨Lc.at j, trivial⟩) (fun _ _ => by kernel_rfl)
def f126 (k : Nat) (a1 a2 a3 a4 a5 a6 : Int) : Option (T0 × Unit) :=
 (f134 k a1 a2 a3).bind fun x5 =>
 (f134 k a4 a5 a6).bind fun x6 =>
 (f133 k x5.1.1.1 x5.1.1.2.1 x5.1.1.2.2.1 x6.1.1.1 x6.1.1.2.1 x6.1.1.2.2.1).bind fun x7 =>
 (f132 k x7.1.1.1 x7.1.1.2.1 x7.1.1.2.2.1).bind fun x8 =>
 some ((x8.1.1, ()), ())
def GA : ab := ee 126 [(0, .agg k0), (1, .agg k0)] [(0, .c (.int .i64))] fun k v => f126 k v.1.1.1 v.1.1.2.1 v.1.1.2.2.1 v.1.2.1.1 v.1.2.1.2.1 v.1.2.1.2.2.1
def Lz (k : Nat) : Full := fl k 11 [AV, jU, jO]
theorem LV : SN GA := so Tryz.func126 Lz (fun _ j => ⟨G6.at j, lf.at j, lm.at j, trivial⟩) (fun _ _ => by kernel_rfl)
def f98 (k : Nat) (a1 a2 a3 a4 a5 a6 a7 a8 a9 a10 a11 a12 : Int) : Option (T0 × Unit) :=
 (f126 k a1 a2 a3 a7 a8 a9).bind fun x3 =>
 bif (x3.1.1 != 0) then
  some ((x3.1.1, ()), ())
 else
  (f126 k a4 a5 a6 a10 a11 a12).bind fun x4 =>
  some ((x4.1.1, ()), ())
def Au : ab := ee 98 [(0, .agg k1), (1, .agg k1)] [(0, .c (.int .i64))] fun k v => f98 k v.1.1.1 v.1.1.2.1 v.1.1.2.2.1 v.1.1.2.2.2.1 v.1.1.2.2.2.2.1 v.1.1.2.2.2.2.2.1 v.1.2.1.1 v.1.2.1.2.1 v.1.2.1.2.2.1 v.1.2.1.2.2.2.1 v.1.2.1.2.2.2.2.1 v.1.2.1.2.2.2.2.2.1
def Nj (k : Nat) : Full := fl k 19 [GA]
theorem DY : SN Au := so Tryz.func98 Nj (fun _ j => ⟨LV.at j, trivial⟩) (fun _ _ => by kernel_rfl)
def kr {ρ : Type} (k : Nat) : Nat → T6 → Int → Int → ((((T6 × Int × Unit) × Unit) → Option ρ) × ((T2 × Unit) → Option ρ) × Unit) → Option ρ
 | 0, _, _, _, _ => none
 | j + 1, v34, v35, v36, nx =>
  bif (decide (v36 < (v34.1.length : Int))) then
   (ak v34.1 v36).bind fun x37 =>
   (f97 k x37.1.1 x37.1.2.1 x37.1.2.2 x37.2.1 x37.2.2.1 x37.2.2.2).bind fun x38 =>
   bif (!x38.1.1) then
    nx.2.1 ((false, ()), ())
   else
    bif (decide (v36 > 0)) then
     (ak v34.1 (wr .i64 (v36 - 1))).bind fun x39 =>
     (ak v34.1 v36).bind fun x40 =>
     (f98 k x39.1.1 x39.1.2.1 x39.1.2.2 x39.2.1 x39.2.2.1 x39.2.2.2 x40.1.1 x40.1.2.1 x40.1.2.2 x40.2.1 x40.2.2.1 x40.2.2.2).bind fun x41 =>
     bif (decide (x41.1.1 ≥ 0)) then
      nx.2.1 ((false, ()), ())
     else
      kr k j v34 v35 (wr .i64 (v36 + 1)) nx
    else
     kr k j v34 v35 (wr .i64 (v36 + 1)) nx
  else
   nx.1 ((v34, v35, ()), ())
def zG (k : Nat) : Cut := ⟨⟨[(0, .c (.dp u4)), (3, .c (.int .i64)), (4, .c (.int .i64))], [], []⟩, [(.exit 0, ⟨[(0, .c (.dp u4)), (3, .c (.int .i64))], [], []⟩), (.ret, ⟨[(2, .c .bool)], [], []⟩)], fun ρ j v nx => kr k j v.1.1 v.1.2.1 v.1.2.2.1 nx⟩
def gm {ρ : Type} (k : Nat) : Nat → T6 → Int → Int → ((T1 → Option ρ) × ((T2 × Unit) → Option ρ) × Unit) → Option ρ
 | 0, _, _, _, _ => none
 | j + 1, v42, v43, v44, nx =>
  bif (decide (v44 < (v42.2.length : Int))) then
   (ak v42.2 v44).bind fun x45 =>
   (f12 k x45.1 0 (wr .i64 (v43 - 1))).bind fun x49 =>
   bif (!x49.1.1) then
    nx.2.1 ((false, ()), ())
   else
    (f12 k x45.2.1 (wr .i64 (x45.1 + 1)) (wr .i64 (v43 - 1))).bind fun x50 =>
    bif (!x50.1.1) then
     nx.2.1 ((false, ()), ())
    else
     (f12 k x45.2.2 1 4).bind fun x51 =>
     bif (!x51.1.1) then
      nx.2.1 ((false, ()), ())
     else
      bif (decide (v44 > 0)) then
       (ak v42.2 (wr .i64 (v44 - 1))).bind fun x52 =>
       bif (decide (x52.1 > x45.1)) then
        nx.2.1 ((false, ()), ())
       else
        (ak v42.2 (wr .i64 (v44 - 1))).bind fun x53 =>
        bif (x53.1 == x45.1) then
         (ak v42.2 (wr .i64 (v44 - 1))).bind fun x54 =>
         bif (decide (x54.2.1 ≥ x45.2.1)) then
          nx.2.1 ((false, ()), ())
         else
          gm k j v42 v43 (wr .i64 (v44 + 1)) nx
        else
         gm k j v42 v43 (wr .i64 (v44 + 1)) nx
      else
       gm k j v42 v43 (wr .i64 (v44 + 1)) nx
  else
   nx.1 ((), ())
def xO (k : Nat) : Cut := ⟨⟨[(0, .c (.dp u4)), (3, .c (.int .i64)), (5, .c (.int .i64))], [], []⟩, [(.exit 2, ⟨[], [], []⟩), (.ret, ⟨[(2, .c .bool)], [], []⟩)], fun ρ j v nx => gm k j v.1.1 v.1.2.1 v.1.2.2.1 nx⟩
def f62 (k : Nat) (a1 : T6) : Option (T2 × Unit) :=
 bif (decide ((a1.1.length : Int) > 40)) then
  some ((false, ()), ())
 else
  bif (decide ((a1.2.length : Int) > 70)) then
   some ((false, ()), ())
  else
   kr k k a1 (a1.1.length : Int) 0
    (fun x30 : ((T6 × Int × Unit) × Unit) =>
     gm k k x30.1.1 x30.1.2.1 0
      (fun x31 : T1 =>
       some ((true, ()), ()),
      fun x32 : (T2 × Unit) =>
       some ((x32.1.1, ()), ()),
      ()),
    fun x33 : (T2 × Unit) =>
     some ((x33.1.1, ()), ()),
    ())
def It : ab := ee 62 [(0, .c (.dp u4))] [(0, .c .bool)] fun k v => f62 k v.1.1
def FB (k : Nat) : Full := fl k 146 [D7, Au, xd] (cuts := [(5, (zG k)), (10, (xO k))])
theorem HW (k : Nat) : aO (FB k) (zG k) (ax Tryz.f62 5) := fun ρ v nx => ⟨by kernel_rfl, fun j => by kernel_rfl⟩
theorem D9 (k : Nat) : aO (FB k) (xO k) (ax Tryz.f62 10) := fun ρ v nx => ⟨by kernel_rfl, fun j => by kernel_rfl⟩
theorem MO : SN It := so Tryz.func62 FB (fun _ j => ⟨JR.at j, DY.at j, AO.at j, trivial⟩) (fun _ _ => by kernel_rfl) (hob := fun k => Eq.mpr (by kernel_rfl) (And.intro (HW k) (And.intro (D9 k) (trivial))))
def f104 (k : Nat) (a1 a2 a3 a4 a5 a6 : Int) : Option T19 :=
 (f134 k a1 a2 a3).bind fun x3 =>
 (f134 k a4 a5 a6).bind fun x4 =>
 some (((x3.1.1.1, x3.1.1.2.1, x3.1.1.2.2.1, x4.1.1.1, x4.1.1.2.1, x4.1.1.2.2.1, ()), ()), ())
def pg : ab := ee 104 [(0, .agg k1)] [(0, .agg k1)] fun k v => f104 k v.1.1.1 v.1.1.2.1 v.1.1.2.2.1 v.1.1.2.2.2.1 v.1.1.2.2.2.2.1 v.1.1.2.2.2.2.2.1
def KN (k : Nat) : Full := fl k 10 [AV] (touch := [(1, [(7, [2])])])
theorem qA : SN pg := so Tryz.func104 KN (fun _ j => ⟨G6.at j, trivial⟩) (fun _ _ => by kernel_rfl)
def f106 (k : Nat) (a1 a2 a3 a4 a5 a6 a7 a8 a9 a10 a11 a12 : Int) : Option T19 :=
 (f133 k a1 a2 a3 a7 a8 a9).bind fun x3 =>
 (f133 k a4 a5 a6 a10 a11 a12).bind fun x4 =>
 some (((x3.1.1.1, x3.1.1.2.1, x3.1.1.2.2.1, x4.1.1.1, x4.1.1.2.1, x4.1.1.2.2.1, ()), ()), ())
def nj : ab := ee 106 [(0, .agg k1), (1, .agg k1)] [(0, .agg k1)] fun k v => f106 k v.1.1.1 v.1.1.2.1 v.1.1.2.2.1 v.1.1.2.2.2.1 v.1.1.2.2.2.2.1 v.1.1.2.2.2.2.2.1 v.1.2.1.1 v.1.2.1.2.1 v.1.2.1.2.2.1 v.1.2.1.2.2.2.1 v.1.2.1.2.2.2.2.1 v.1.2.1.2.2.2.2.2.1
def Ly (k : Nat) : Full := fl k 16 [jU] (touch := [(1, [(11, [4])])])
theorem po : SN nj := so Tryz.func106 Ly (fun _ j => ⟨lf.at j, trivial⟩) (fun _ _ => by kernel_rfl)
def f109 (k : Nat) (a1 : Int) : Option (T0 × Unit) :=
 some ((((wr .i64 ((a1.tmod 16) + 16)).tmod 16), ()), ())
def u7 : ab := ee 109 [(0, .c (.int .i64))] [(0, .c (.int .i64))] fun k v => f109 k v.1.1
def Lb (k : Nat) : Full := fl k 7 []
theorem Bj : SN u7 := so Tryz.func109 Lb (fun _ _ => trivial) (fun _ _ => by kernel_rfl)
def f146 (k : Nat) (a1 : Int) : Option T19 :=
 (f109 k a1).bind fun x3 =>
 bif decide (0 ≤ (x3.1.1.tmod 8)) && decide ((x3.1.1.tmod 8) < ([((1, (0, 0)), (0, (0, 0))), ((1, (0, 0)), ((-1), (1, 0))), ((1, (0, 0)), (1, (0, 0))), (((-1), (1, 0)), (1, (0, 0))), ((0, (0, 0)), (1, (0, 0))), ((1, ((-1), 0)), (1, (0, 0))), (((-1), (0, 0)), (1, (0, 0))), (((-1), (0, 0)), ((-1), (1, 0)))].length : Int)) then
  ([((1, (0, 0)), (0, (0, 0))), ((1, (0, 0)), ((-1), (1, 0))), ((1, (0, 0)), (1, (0, 0))), (((-1), (1, 0)), (1, (0, 0))), ((0, (0, 0)), (1, (0, 0))), ((1, ((-1), 0)), (1, (0, 0))), (((-1), (0, 0)), (1, (0, 0))), (((-1), (0, 0)), ((-1), (1, 0)))][(x3.1.1.tmod 8).toNat]?).bind fun x4 =>
  bif (decide (x3.1.1 ≥ 8)) then
   some ((((wr .i64 (0 - x4.1.1)), (wr .i64 (0 - x4.1.2.1)), 0, (wr .i64 (0 - x4.2.1)), (wr .i64 (0 - x4.2.2.1)), 0, ()), ()), ())
  else
   some (((x4.1.1, x4.1.2.1, x4.1.2.2, x4.2.1, x4.2.2.1, x4.2.2.2, ()), ()), ())
 else
  none
def AZ : ab := ee 146 [(0, .c (.int .i64))] [(0, .agg k1)] fun k v => f146 k v.1.1
def KM (k : Nat) : Full := fl k 57 [u7]
theorem Gs : SN AZ := so Tryz.func146 KM (fun _ j => ⟨Bj.at j, trivial⟩) (fun _ _ => by kernel_rfl)
def f148 (k : Nat) (a1 a2 a3 a4 a5 a6 : Int) : Option (T13 × Unit) :=
 let x4 : Int := (wr .i64 ((wr .i64 (a1 * a4)) + (wr .i64 ((wr .i64 (2 * a2)) * a5))))
 let x5 : Int := (wr .i64 ((wr .i64 (a1 * a5)) + (wr .i64 (a2 * a4))))
 (f156 k x4 x5 (wr .i64 (a3 + a6))).bind fun x6 =>
 some (((x6.1.1.1, x6.1.1.2.1, x6.1.1.2.2.1, ()), ()), ())
def BY : ab := ee 148 [(0, .agg k0), (1, .agg k0)] [(0, .agg k0)] fun k v => f148 k v.1.1.1 v.1.1.2.1 v.1.1.2.2.1 v.1.2.1.1 v.1.2.1.2.1 v.1.2.1.2.2.1
def LZ (k : Nat) : Full := fl k 35 [vd]
theorem Ha : SN BY := so Tryz.func148 LZ (fun _ j => ⟨A4.at j, trivial⟩) (fun _ _ => by kernel_rfl)
def f130 (k : Nat) (a1 a2 a3 a4 a5 a6 a7 : Int) : Option (T13 × Unit) :=
 (f146 k a1).bind fun x6 =>
 (f104 k x6.1.1.1 x6.1.1.2.1 x6.1.1.2.2.1 x6.1.1.2.2.2.1 x6.1.1.2.2.2.2.1 x6.1.1.2.2.2.2.2.1).bind fun x7 =>
 (f148 k x7.1.1.1 x7.1.1.2.1 x7.1.1.2.2.1 a2 a3 a4).bind fun x8 =>
 (f148 k x7.1.1.2.2.2.1 x7.1.1.2.2.2.2.1 x7.1.1.2.2.2.2.2.1 a5 a6 a7).bind fun x9 =>
 (f147 k x8.1.1.1 x8.1.1.2.1 x8.1.1.2.2.1 x9.1.1.1 x9.1.1.2.1 x9.1.1.2.2.1).bind fun x10 =>
 some (((x10.1.1.1, x10.1.1.2.1, x10.1.1.2.2.1, ()), ()), ())
def mU : ab := ee 130 [(0, .c (.int .i64)), (1, .agg k1)] [(0, .agg k0)] fun k v => f130 k v.1.1 v.1.2.1.1 v.1.2.1.2.1 v.1.2.1.2.2.1 v.1.2.1.2.2.2.1 v.1.2.1.2.2.2.2.1 v.1.2.1.2.2.2.2.2.1
def LG (k : Nat) : Full := fl k 20 [AZ, pg, BY, BQ] (touch := [(2, [(11, [4])])])
theorem o5 : SN mU := so Tryz.func130 LG (fun _ j => ⟨Gs.at j, qA.at j, Ha.at j, G4.at j, trivial⟩) (fun _ _ => by kernel_rfl)
def f135 (k : Nat) (a1 a2 a3 : Int) : Option (T2 × Unit) :=
 bif (a1 == 0) then
  some (((a2 == 0), ()), ())
 else
  some ((false, ()), ())
def GS : ab := ee 135 [(0, .agg k0)] [(0, .c .bool)] fun k v => f135 k v.1.1.1 v.1.1.2.1 v.1.1.2.2.1
def KW (k : Nat) : Full := fl k 11 []
theorem LN : SN GS := so Tryz.func135 KW (fun _ _ => trivial) (fun _ _ => by kernel_rfl)
def iT {ρ : Type} (k : Nat) : Nat → Int → Int → Int → Int → Int → Int → Int → ((T1 → Option ρ) × ((T0 × Unit) → Option ρ) × Unit) → Option ρ
 | 0, _, _, _, _, _, _, _, _ => none
 | j + 1, v16, v17, v18, v19, v20, v21, v22, nx =>
  bif (decide (v16 < 16)) then
   (f130 k (wr .i64 (v16 + 4)) v17 v18 v19 v20 v21 v22).bind fun x23 =>
   (f135 k x23.1.1.1 x23.1.1.2.1 x23.1.1.2.2.1).bind fun x24 =>
   bif x24.1.1 then
    (f130 k v16 v17 v18 v19 v20 v21 v22).bind fun x25 =>
    (f132 k x25.1.1.1 x25.1.1.2.1 x25.1.1.2.2.1).bind fun x26 =>
    bif (decide (x26.1.1 > 0)) then
     nx.2.1 ((v16, ()), ())
    else
     iT k j (wr .i64 (v16 + 1)) v17 v18 v19 v20 v21 v22 nx
   else
    iT k j (wr .i64 (v16 + 1)) v17 v18 v19 v20 v21 v22 nx
  else
   nx.1 ((), ())
def xI (k : Nat) : Cut := ⟨⟨[(1, .c (.box 5000000)), (3, .c (.int .i64))], [(5000000, .box 135 k1)], []⟩, [(.exit 0, ⟨[], [], []⟩), (.ret, ⟨[(2, .c (.int .i64))], [], []⟩)], fun ρ j v nx => iT k j v.1.2.1 v.2.1.1 v.2.1.2.1 v.2.1.2.2.1 v.2.1.2.2.2.1 v.2.1.2.2.2.2.1 v.2.1.2.2.2.2.2.1 nx⟩
def f105 (k : Nat) (a1 a2 a3 a4 a5 a6 : Int) : Option (T0 × Unit) :=
 iT k k 0 a1 a2 a3 a4 a5 a6
  (fun x14 : T1 =>
   some (((-1), ()), ()),
  fun x15 : (T0 × Unit) =>
   some ((x15.1.1, ()), ()),
  ())
def pq : ab := ee 105 [(0, .agg k1)] [(0, .c (.int .i64))] fun k v => f105 k v.1.1.1 v.1.1.2.1 v.1.1.2.2.1 v.1.1.2.2.2.1 v.1.1.2.2.2.2.1 v.1.1.2.2.2.2.2.1
def F9 (k : Nat) : Full := fl k 21 [mU, GS, jO] (cuts := [(2, (xI k))])
theorem EN (k : Nat) : aO (F9 k) (xI k) (ax Tryz.f105 2) := fun ρ v nx => ⟨by kernel_rfl, fun j => by kernel_rfl⟩
theorem rO : SN pq := so Tryz.func105 F9 (fun _ j => ⟨o5.at j, LN.at j, lm.at j, trivial⟩) (fun _ _ => by kernel_rfl) (hob := fun k => Eq.mpr (by kernel_rfl) (And.intro (EN k) (trivial)))
def f99 (k : Nat) (a1 a2 a3 a4 a5 a6 a7 a8 a9 a10 a11 a12 : Int) : Option (((Int × Int × Int × Int × Int × Int × Int × Int × Int × Int × Int × Int × Int × Unit) × Unit) × Unit) :=
 (f104 k a1 a2 a3 a4 a5 a6).bind fun x5 =>
 (f104 k a7 a8 a9 a10 a11 a12).bind fun x6 =>
 (f106 k x6.1.1.1 x6.1.1.2.1 x6.1.1.2.2.1 x6.1.1.2.2.2.1 x6.1.1.2.2.2.2.1 x6.1.1.2.2.2.2.2.1 x5.1.1.1 x5.1.1.2.1 x5.1.1.2.2.1 x5.1.1.2.2.2.1 x5.1.1.2.2.2.2.1 x5.1.1.2.2.2.2.2.1).bind fun x7 =>
 (f105 k x7.1.1.1 x7.1.1.2.1 x7.1.1.2.2.1 x7.1.1.2.2.2.1 x7.1.1.2.2.2.2.1 x7.1.1.2.2.2.2.2.1).bind fun x8 =>
 some (((x5.1.1.1, x5.1.1.2.1, x5.1.1.2.2.1, x5.1.1.2.2.2.1, x5.1.1.2.2.2.2.1, x5.1.1.2.2.2.2.2.1, x6.1.1.1, x6.1.1.2.1, x6.1.1.2.2.1, x6.1.1.2.2.2.1, x6.1.1.2.2.2.2.1, x6.1.1.2.2.2.2.2.1, x8.1.1, ()), ()), ())
def Jy : ab := ee 99 [(0, .agg k1), (1, .agg k1)] [(0, .agg [(.int .i64), (.int .i64), (.int .i64), (.int .i64), (.int .i64), (.int .i64), (.int .i64), (.int .i64), (.int .i64), (.int .i64), (.int .i64), (.int .i64), (.int .i64)])] fun k v => f99 k v.1.1.1 v.1.1.2.1 v.1.1.2.2.1 v.1.1.2.2.2.1 v.1.1.2.2.2.2.1 v.1.1.2.2.2.2.2.1 v.1.2.1.1 v.1.2.1.2.1 v.1.2.1.2.2.1 v.1.2.1.2.2.2.1 v.1.2.1.2.2.2.2.1 v.1.2.1.2.2.2.2.2.1
def M5 (k : Nat) : Full := fl k 18 [pg, nj, pq] (touch := [(3, [(7, [4])])])
theorem Oc : SN Jy := so Tryz.func99 M5 (fun _ j => ⟨qA.at j, po.at j, rO.at j, trivial⟩) (fun _ _ => by kernel_rfl)
def mo {ρ : Type} (k : Nat) : Nat → T6 → Int → (List T8) → (((T1 × ((List T8) × Unit)) → Option ρ) × ((T11 × Unit) → Option ρ) × Unit) → Option ρ
 | 0, _, _, _, _ => none
 | j + 1, v15, v16, v17, nx =>
  bif (decide (v16 < (v15.2.length : Int))) then
   (ak v15.2 v16).bind fun x18 =>
   (ak v15.1 x18.1).bind fun x19 =>
   (ak v15.2 v16).bind fun x20 =>
   (ak v15.1 x20.2.1).bind fun x21 =>
   (f99 k x19.1.1 x19.1.2.1 x19.1.2.2 x19.2.1 x19.2.2.1 x19.2.2.2 x21.1.1 x21.1.2.1 x21.1.2.2 x21.2.1 x21.2.2.1 x21.2.2.2).bind fun x22 =>
   let x23 : Bool := (decide (x22.1.1.2.2.2.2.2.2.2.2.2.2.2.2.1 < 0))
   bif x23 then
    nx.2.1 (((), false, ()), ())
   else
    bif decide ((v17.length + [(((x22.1.1.1, (x22.1.1.2.1, x22.1.1.2.2.1)), (x22.1.1.2.2.2.1, (x22.1.1.2.2.2.2.1, x22.1.1.2.2.2.2.2.1))), (((x22.1.1.2.2.2.2.2.2.1, (x22.1.1.2.2.2.2.2.2.2.1, x22.1.1.2.2.2.2.2.2.2.2.1)), (x22.1.1.2.2.2.2.2.2.2.2.2.1, (x22.1.1.2.2.2.2.2.2.2.2.2.2.1, x22.1.1.2.2.2.2.2.2.2.2.2.2.2.1))), x22.1.1.2.2.2.2.2.2.2.2.2.2.2.2.1))].length) * 104 ≤ roomy) then
     let x24 : (List T8) := (v17 ++ [(((x22.1.1.1, (x22.1.1.2.1, x22.1.1.2.2.1)), (x22.1.1.2.2.2.1, (x22.1.1.2.2.2.2.1, x22.1.1.2.2.2.2.2.1))), (((x22.1.1.2.2.2.2.2.2.1, (x22.1.1.2.2.2.2.2.2.2.1, x22.1.1.2.2.2.2.2.2.2.2.1)), (x22.1.1.2.2.2.2.2.2.2.2.2.1, (x22.1.1.2.2.2.2.2.2.2.2.2.2.1, x22.1.1.2.2.2.2.2.2.2.2.2.2.2.1))), x22.1.1.2.2.2.2.2.2.2.2.2.2.2.2.1))])
     mo k j v15 (wr .i64 (v16 + 1)) x24 nx
    else
     none
  else
   nx.1 (((), ()), (v17, ()))
def yI (k : Nat) : Cut := ⟨⟨[(0, .c (.dp u4)), (4, .c (.row 5000000)), (5, .c (.int .i64))], [(5000000, .row 137 u3)], []⟩, [(.exit 0, ⟨[(4, .c (.row 5000000))], [(5000000, .row 137 u3)], []⟩), (.ret, ⟨[(2, .c (.lit .nils)), (3, .c .bool)], [], []⟩)], fun ρ j v nx => mo k j v.1.1 v.1.2.2.1 v.2.1 nx⟩
def f63 (k : Nat) (a1 : T6) : Option (T11 × ((List T8) × Unit)) :=
 mo k k a1 0 ([] : List T8)
  (fun x13 : (T1 × ((List T8) × Unit)) =>
   some (((), true, ()), (x13.2.1, ())),
  fun x14 : (T11 × Unit) =>
   some (((), x14.1.2.1, ()), (([] : List T8), ())),
  ())
def Ka : ab := ⟨63, ⟨[(0, .c (.dp u4))], [], []⟩, ⟨[(0, .c (.row 4000000)), (1, .c .bool)], [(4000000, .row 137 u3)], []⟩, fun k v => f63 k v.1.1⟩
def Iy (k : Nat) : Full := fl k 54 [Jy] (cuts := [(3, (yI k))]) (touch := [(5, [(30, [6])])])
theorem HR (k : Nat) : aO (Iy k) (yI k) (ax Tryz.f63 3) := fun ρ v nx => ⟨by kernel_rfl, fun j => by kernel_rfl⟩
theorem NS : SN Ka := so Tryz.func63 Iy (fun _ j => ⟨Oc.at j, trivial⟩) (fun _ _ => by kernel_rfl) (hob := fun k => Eq.mpr (by kernel_rfl) (And.intro (HR k) (trivial)))
def f100 (k : Nat) (a1 a2 a3 a4 : Int) : Option (T0 × Unit) :=
 some (((wr .i64 ((wr .i64 (a1 + a2)) - a4)), ()), ())
def G7 : ab := ee 100 [(0, .agg k0), (1, .c (.int .i64))] [(0, .c (.int .i64))] fun k v => f100 k v.1.1.1 v.1.1.2.1 v.1.1.2.2.1 v.1.2.1
def K1 (k : Nat) : Full := fl k 12 []
theorem LD : SN G7 := so Tryz.func100 K1 (fun _ _ => trivial) (fun _ _ => by kernel_rfl)
def jw {ρ : Type} (k : Nat) : Nat → T6 → Int → Int → (List Int) → ((((T6 × Int × Unit × Unit) × T10) → Option ρ) × Unit) → Option ρ
 | 0, _, _, _, _, _ => none
 | j + 1, v56, v57, v58, v59, nx =>
  bif (decide (v58 < (v56.2.length : Int))) then
   (ak v56.2 v58).bind fun x60 =>
   bif (x60.2.2 == 1) then
    (ak v56.2 v58).bind fun x61 =>
    bif decide (0 ≤ x61.1) && decide (x61.1 < (v59.length : Int)) then
     (v59[x61.1.toNat]?).bind fun x62 =>
     bif decide (0 ≤ x61.1) && decide (x61.1 < (v59.length : Int)) then
      (v59[x61.1.toNat]?).bind fun _ =>
      (ak v56.2 v58).bind fun x64 =>
      bif decide (0 ≤ x64.2.1) && decide (x64.2.1 < ((v59.set x61.1.toNat (wr .i64 (x62 + 1))).length : Int)) then
       ((v59.set x61.1.toNat (wr .i64 (x62 + 1)))[x64.2.1.toNat]?).bind fun x65 =>
       bif decide (0 ≤ x64.2.1) && decide (x64.2.1 < ((v59.set x61.1.toNat (wr .i64 (x62 + 1))).length : Int)) then
        ((v59.set x61.1.toNat (wr .i64 (x62 + 1)))[x64.2.1.toNat]?).bind fun _ =>
        let x67 : (List Int) := ((v59.set x61.1.toNat (wr .i64 (x62 + 1))).set x64.2.1.toNat (wr .i64 (x65 + 1)))
        jw k j v56 (wr .i64 (v57 + 1)) (wr .i64 (v58 + 1)) x67 nx
       else
        none
      else
       none
     else
      none
    else
     none
   else
    jw k j v56 v57 (wr .i64 (v58 + 1)) v59 nx
  else
   nx.1 ((v56, v57, (), ()), (v59, ()))
def zZ (k : Nat) : Cut := ⟨⟨[(0, .c (.dp u4)), (4, .c (.int .i64)), (5, .c (.row 5000000)), (6, .c (.int .i64))], [(5000000, .row 2 (.int .i64))], []⟩, [(.exit 0, ⟨[(0, .c (.dp u4)), (4, .c (.int .i64)), (5, .c (.row 5000000))], [(5000000, .row 2 (.int .i64))], []⟩)], fun ρ j v nx => jw k j v.1.1 v.1.2.1 v.1.2.2.2.1 v.2.1 nx⟩
def hO {ρ : Type} (k : Nat) : Nat → T6 → Int → Int → (List Int) → ((((T6 × Int × Unit × Unit) × T10) → Option ρ) × ((T11 × Unit) → Option ρ) × Unit) → Option ρ
 | 0, _, _, _, _, _ => none
 | j + 1, v68, v69, v70, v71, nx =>
  bif (decide (v70 < (v71.length : Int))) then
   bif decide (0 ≤ v70) && decide (v70 < (v71.length : Int)) then
    (v71[v70.toNat]?).bind fun x72 =>
    bif (x72 != 0) then
     bif decide (0 ≤ v70) && decide (v70 < (v71.length : Int)) then
      (v71[v70.toNat]?).bind fun x73 =>
      bif (x73 != 2) then
       nx.2.1 (((), false, ()), ())
      else
       hO k j v68 v69 (wr .i64 (v70 + 1)) v71 nx
     else
      none
    else
     hO k j v68 v69 (wr .i64 (v70 + 1)) v71 nx
   else
    none
  else
   nx.1 ((v68, v69, (), ()), (v71, ()))
def xf (k : Nat) : Cut := ⟨⟨[(0, .c (.dp u4)), (4, .c (.int .i64)), (5, .c (.row 5000000)), (7, .c (.int .i64))], [(5000000, .row 2 (.int .i64))], []⟩, [(.exit 2, ⟨[(0, .c (.dp u4)), (4, .c (.int .i64)), (5, .c (.row 5000000))], [(5000000, .row 2 (.int .i64))], []⟩), (.ret, ⟨[(2, .c (.lit .nils)), (3, .c .bool)], [], []⟩)], fun ρ j v nx => hO k j v.1.1 v.1.2.1 v.1.2.2.2.1 v.2.1 nx⟩
def dm {ρ : Type} (k : Nat) : Nat → T6 → Int → Int → Int → Int → Int → (List Int) → ((((T6 × Int × Unit × Int × Int × Unit) × T10) → Option ρ) × Unit) → Option ρ
 | 0, _, _, _, _, _, _, _, _ => none
 | j + 1, v74, v75, v76, v77, v78, v79, v80, nx =>
  bif (decide (v79 < (v74.2.length : Int))) then
   (ak v74.2 v79).bind fun x81 =>
   bif (x81.2.2 == 1) then
    bif (v79 != v76) then
     bif (x81.1 == v77) then
      bif (decide (v78 < 0)) then
       dm k j v74 v75 v76 v77 v79 (wr .i64 (v79 + 1)) v80 nx
      else
       dm k j v74 v75 v76 v77 v78 (wr .i64 (v79 + 1)) v80 nx
     else
      bif (x81.2.1 == v77) then
       bif (decide (v78 < 0)) then
        dm k j v74 v75 v76 v77 v79 (wr .i64 (v79 + 1)) v80 nx
       else
        dm k j v74 v75 v76 v77 v78 (wr .i64 (v79 + 1)) v80 nx
      else
       dm k j v74 v75 v76 v77 v78 (wr .i64 (v79 + 1)) v80 nx
    else
     dm k j v74 v75 v76 v77 v78 (wr .i64 (v79 + 1)) v80 nx
   else
    dm k j v74 v75 v76 v77 v78 (wr .i64 (v79 + 1)) v80 nx
  else
   nx.1 ((v74, v75, (), v77, v78, ()), (v80, ()))
def xN (k : Nat) : Cut := ⟨⟨[(0, .c (.dp u4)), (4, .c (.int .i64)), (8, .c (.row 5000000)), (9, .c (.int .i64)), (10, .c (.int .i64)), (11, .c (.int .i64)), (12, .c (.int .i64))], [(5000000, .row 2 (.int .i64))], []⟩, [(.exit 6, ⟨[(0, .c (.dp u4)), (4, .c (.int .i64)), (8, .c (.row 5000000)), (10, .c (.int .i64)), (11, .c (.int .i64))], [(5000000, .row 2 (.int .i64))], []⟩)], fun ρ j v nx => dm k j v.1.1 v.1.2.1 v.1.2.2.2.1 v.1.2.2.2.2.1 v.1.2.2.2.2.2.1 v.1.2.2.2.2.2.2.1 v.2.1 nx⟩
def hI {ρ : Type} (k : Nat) : Nat → T6 → Int → Int → (List Int) → ((((Int × Unit × Unit) × T10) → Option ρ) × Unit) → Option ρ
 | 0, _, _, _, _, _ => none
 | j + 1, v82, v83, v84, v85, nx =>
  bif decide (0 ≤ (wr .i64 ((v85.length : Int) - 1))) && decide ((wr .i64 ((v85.length : Int) - 1)) < (v85.length : Int)) then
   (v85[(wr .i64 ((v85.length : Int) - 1)).toNat]?).bind fun x86 =>
   dm k k v82 v83 v84 x86 (-1) 0 v85
    (fun x88 : ((T6 × Int × Unit × Int × Int × Unit) × T10) =>
     (ak x88.1.1.2 x88.1.2.2.2.2.1).bind fun x89 =>
     (f100 k x89.1 x89.2.1 x89.2.2 x88.1.2.2.2.1).bind fun x90 =>
     bif (x90.1.1 == 0) then
      nx.1 ((x88.1.2.1, (), ()), (x88.2.1, ()))
     else
      bif decide ((x88.2.1.length + [x90.1.1].length) * 8 ≤ roomy) then
       hI k j x88.1.1 x88.1.2.1 x88.1.2.2.2.2.1 (x88.2.1 ++ [x90.1.1]) nx
      else
       none,
    ())
  else
   none
def vU (k : Nat) : Cut := ⟨⟨[(0, .c (.dp u4)), (4, .c (.int .i64)), (8, .c (.row 5000000)), (9, .c (.int .i64))], [(5000000, .row 2 (.int .i64))], []⟩, [(.exit 4, ⟨[(4, .c (.int .i64)), (8, .c (.row 5000000))], [(5000000, .row 2 (.int .i64))], []⟩)], fun ρ j v nx => hI k j v.1.1 v.1.2.1 v.1.2.2.2.1 v.2.1 nx⟩
def f64 (k : Nat) (a1 : T6) : Option (T11 × T10) :=
 bif decide ((a1.1.length : Int) = (a1.1.length : Int)) && decide (0 ≤ (a1.1.length : Int)) && decide ((a1.1.length : Int) * 8 ≤ roomy) then
  let x46 : (List Int) := (List.replicate (a1.1.length : Int).toNat (0 : Int))
  jw k k a1 0 0 x46
   (fun x48 : ((T6 × Int × Unit × Unit) × T10) =>
    hO k k x48.1.1 x48.1.2.1 0 x48.2.1
     (fun x51 : ((T6 × Int × Unit × Unit) × T10) =>
      bif ((x51.2.1.length : Int) == 0) then
       some (((), false, ()), (([] : List Int), ()))
      else
       bif decide (0 ≤ 0) && decide (0 < (x51.2.1.length : Int)) then
        (x51.2.1[0]?).bind fun x53 =>
        bif (x53 != 2) then
         some (((), false, ()), (([] : List Int), ()))
        else
         hI k k x51.1.1 x51.1.2.1 (-1) ([(0 : Int)])
          (fun x54 : ((Int × Unit × Unit) × T10) =>
           some (((), ((x54.2.1.length : Int) == x54.1.1), ()), (x54.2.1, ())),
          ())
       else
        none,
     fun x55 : (T11 × Unit) =>
      some (((), x55.1.2.1, ()), (([] : List Int), ())),
     ()),
   ())
 else
  none
def JI : ab := ⟨64, ⟨[(0, .c (.dp u4))], [], []⟩, ⟨[(0, .c (.row 4000000)), (1, .c .bool)], [(4000000, .row 2 (.int .i64))], []⟩, fun k v => f64 k v.1.1⟩
def vZ (k : Nat) : Full := fl k 163 [G7] (cuts := [(4, (zZ k)), (11, (xf k)), (22, (xN k)), (19, (vU k))])
theorem He (k : Nat) : aO (vZ k) (zZ k) (ax Tryz.f64 4) := fun ρ v nx => ⟨by kernel_rfl, fun j => by kernel_rfl⟩
theorem FL (k : Nat) : aO (vZ k) (xf k) (ax Tryz.f64 11) := fun ρ v nx => ⟨by kernel_rfl, fun j => by kernel_rfl⟩
theorem Fz (k : Nat) : aO (vZ k) (xN k) (ax Tryz.f64 22) := fun ρ v nx => ⟨by kernel_rfl, fun j => by kernel_rfl⟩
theorem FY (k : Nat) : aO (vZ k) (vU k) (ax Tryz.f64 19) := fun ρ v nx => ⟨by kernel_rfl, fun j => by kernel_rfl⟩
theorem Nd : SN JI := so Tryz.func64 vZ (fun _ j => ⟨LD.at j, trivial⟩) (fun _ _ => by kernel_rfl) (hob := fun k => Eq.mpr (by kernel_rfl) (And.intro (He k) (And.intro (FL k) (And.intro (Fz k) (And.intro (FY k) (trivial))))))
def f102 (k : Nat) (a1 a2 a3 a4 a5 a6 : Int) : Option (T2 × Unit) :=
 bif (a1 == a4) then
  some ((true, ()), ())
 else
  bif (a1 == a5) then
   some ((true, ()), ())
  else
   bif (a2 == a4) then
    some ((true, ()), ())
   else
    some (((a2 == a5), ()), ())
def GL : ab := ee 102 [(0, .agg k0), (1, .agg k0)] [(0, .c .bool)] fun k v => f102 k v.1.1.1 v.1.1.2.1 v.1.1.2.2.1 v.1.2.1.1 v.1.2.1.2.1 v.1.2.1.2.2.1
def Lv (k : Nat) : Full := fl k 31 []
theorem K2 : SN GL := so Tryz.func102 Lv (fun _ _ => trivial) (fun _ _ => by kernel_rfl)
def f136 (k : Nat) (a1 a2 a3 a4 a5 a6 a7 : Int) : Option ((T17 × Unit) × Unit) :=
 (f109 k a7).bind fun x3 =>
 (f130 k (wr .i64 ((x3.1.1.tmod 8) + 4)) a1 a2 a3 a4 a5 a6).bind fun x4 =>
 some ((((x3.1.1.tmod 8), x4.1.1.1, x4.1.1.2.1, x4.1.1.2.2.1, ()), ()), ())
def ve : ab := ee 136 [(0, .agg k1), (1, .c (.int .i64))] [(0, .agg k3)] fun k v => f136 k v.1.1.1 v.1.1.2.1 v.1.1.2.2.1 v.1.1.2.2.2.1 v.1.1.2.2.2.2.1 v.1.1.2.2.2.2.2.1 v.1.2.1
def KH (k : Nat) : Full := fl k 14 [u7, mU]
theorem BG : SN ve := so Tryz.func136 KH (fun _ j => ⟨Bj.at j, o5.at j, trivial⟩) (fun _ _ => by kernel_rfl)
def f127 (k : Nat) (a1 : T8) : Option ((T17 × Unit) × Unit) :=
 (f136 k a1.1.1.1 a1.1.1.2.1 a1.1.1.2.2 a1.1.2.1 a1.1.2.2.1 a1.1.2.2.2 a1.2.2).bind fun x2 =>
 some (((x2.1.1.1, x2.1.1.2.1, x2.1.1.2.2.1, x2.1.1.2.2.2.1, ()), ()), ())
def GY : ab := ee 127 [(0, .c (.dp u3))] [(0, .agg k3)] fun k v => f127 k v.1.1
def Lr (k : Nat) : Full := fl k 12 [ve] (touch := [(1, [(9, [2])])])
theorem KA : SN GY := so Tryz.func127 Lr (fun _ j => ⟨BG.at j, trivial⟩) (fun _ _ => by kernel_rfl)
def f128 (k : Nat) (a1 a2 a3 a4 a5 a6 a7 a8 a9 a10 : Int) : Option (T0 × Unit) :=
 (f130 k (wr .i64 (a1 + 4)) a5 a6 a7 a8 a9 a10).bind fun x4 =>
 (f133 k x4.1.1.1 x4.1.1.2.1 x4.1.1.2.2.1 a2 a3 a4).bind fun x5 =>
 (f132 k x5.1.1.1 x5.1.1.2.1 x5.1.1.2.2.1).bind fun x6 =>
 some ((x6.1.1, ()), ())
def uW : ab := ee 128 [(0, .agg k3), (1, .agg k1)] [(0, .c (.int .i64))] fun k v => f128 k v.1.1.1 v.1.1.2.1 v.1.1.2.2.1 v.1.1.2.2.2.1 v.1.2.1.1 v.1.2.1.2.1 v.1.2.1.2.2.1 v.1.2.1.2.2.2.1 v.1.2.1.2.2.2.2.1 v.1.2.1.2.2.2.2.2.1
def L1 (k : Nat) : Full := fl k 14 [mU, jU, jO]
theorem AM : SN uW := so Tryz.func128 L1 (fun _ j => ⟨o5.at j, lf.at j, lm.at j, trivial⟩) (fun _ _ => by kernel_rfl)
def f131 (k : Nat) (a1 a2 a3 a4 a5 a6 : Int) : Option (T13 × Unit) :=
 (f133 k a1 a2 a3 a4 a5 a6).bind fun x3 =>
 (f132 k x3.1.1.1 x3.1.1.2.1 x3.1.1.2.2.1).bind fun x4 =>
 bif (decide (x4.1.1 < 0)) then
  some (((a1, a2, a3, ()), ()), ())
 else
  some (((a4, a5, a6, ()), ()), ())
def Be : ab := ee 131 [(0, .agg k0), (1, .agg k0)] [(0, .agg k0)] fun k v => f131 k v.1.1.1 v.1.1.2.1 v.1.1.2.2.1 v.1.2.1.1 v.1.2.1.2.1 v.1.2.1.2.2.1
def KB (k : Nat) : Full := fl k 12 [jU, jO]
theorem Gr : SN Be := so Tryz.func131 KB (fun _ j => ⟨lf.at j, lm.at j, trivial⟩) (fun _ _ => by kernel_rfl)
def f129 (k : Nat) (a1 a2 a3 a4 a5 a6 : Int) : Option (T13 × Unit) :=
 (f133 k a1 a2 a3 a4 a5 a6).bind fun x3 =>
 (f132 k x3.1.1.1 x3.1.1.2.1 x3.1.1.2.2.1).bind fun x4 =>
 bif (decide (x4.1.1 > 0)) then
  some (((a1, a2, a3, ()), ()), ())
 else
  some (((a4, a5, a6, ()), ()), ())
def BU : ab := ee 129 [(0, .agg k0), (1, .agg k0)] [(0, .agg k0)] fun k v => f129 k v.1.1.1 v.1.1.2.1 v.1.1.2.2.1 v.1.2.1.1 v.1.2.1.2.1 v.1.2.1.2.2.1
def Lj (k : Nat) : Full := fl k 12 [jU, jO]
theorem Gl : SN BU := so Tryz.func129 Lj (fun _ j => ⟨lf.at j, lm.at j, trivial⟩) (fun _ _ => by kernel_rfl)
def f101 (k : Nat) (a1 a2 : T8) (a3 : Bool) : Option (T2 × Unit) :=
 bif ((a1.2.2.tmod 8) != (a2.2.2.tmod 8)) then
  (f127 k a1).bind fun x35 =>
  (f127 k a2).bind fun x36 =>
  bif (!a3) then
   (f128 k x35.1.1.1 x35.1.1.2.1 x35.1.1.2.2.1 x35.1.1.2.2.2.1 a2.1.1.1 a2.1.1.2.1 a2.1.1.2.2 a2.1.2.1 a2.1.2.2.1 a2.1.2.2.2).bind fun x37 =>
   (f128 k x35.1.1.1 x35.1.1.2.1 x35.1.1.2.2.1 x35.1.1.2.2.2.1 a2.2.1.1.1 a2.2.1.1.2.1 a2.2.1.1.2.2 a2.2.1.2.1 a2.2.1.2.2.1 a2.2.1.2.2.2).bind fun x38 =>
   bif (decide ((wr .i64 (x37.1.1 * x38.1.1)) ≤ 0)) then
    (f128 k x36.1.1.1 x36.1.1.2.1 x36.1.1.2.2.1 x36.1.1.2.2.2.1 a1.1.1.1 a1.1.1.2.1 a1.1.1.2.2 a1.1.2.1 a1.1.2.2.1 a1.1.2.2.2).bind fun x39 =>
    (f128 k x36.1.1.1 x36.1.1.2.1 x36.1.1.2.2.1 x36.1.1.2.2.2.1 a1.2.1.1.1 a1.2.1.1.2.1 a1.2.1.1.2.2 a1.2.1.2.1 a1.2.1.2.2.1 a1.2.1.2.2.2).bind fun x40 =>
    some (((decide ((wr .i64 (x39.1.1 * x40.1.1)) ≤ 0)), ()), ())
   else
    some ((false, ()), ())
  else
   some ((false, ()), ())
 else
  (f127 k a1).bind fun x43 =>
  (f128 k x43.1.1.1 x43.1.1.2.1 x43.1.1.2.2.1 x43.1.1.2.2.2.1 a2.1.1.1 a2.1.1.2.1 a2.1.1.2.2 a2.1.2.1 a2.1.2.2.1 a2.1.2.2.2).bind fun x44 =>
  bif (x44.1.1 != 0) then
   some ((false, ()), ())
  else
   (f130 k a1.2.2 a1.1.1.1 a1.1.1.2.1 a1.1.1.2.2 a1.1.2.1 a1.1.2.2.1 a1.1.2.2.2).bind fun x45 =>
   (f130 k a1.2.2 a2.1.1.1 a2.1.1.2.1 a2.1.1.2.2 a2.1.2.1 a2.1.2.2.1 a2.1.2.2.2).bind fun x46 =>
   (f130 k a1.2.2 a2.2.1.1.1 a2.2.1.1.2.1 a2.2.1.1.2.2 a2.2.1.2.1 a2.2.1.2.2.1 a2.2.1.2.2.2).bind fun x47 =>
   (f131 k x46.1.1.1 x46.1.1.2.1 x46.1.1.2.2.1 x47.1.1.1 x47.1.1.2.1 x47.1.1.2.2.1).bind fun x48 =>
   (f129 k x45.1.1.1 x45.1.1.2.1 x45.1.1.2.2.1 x48.1.1.1 x48.1.1.2.1 x48.1.1.2.2.1).bind fun x49 =>
   (f130 k a1.2.2 a1.2.1.1.1 a1.2.1.1.2.1 a1.2.1.1.2.2 a1.2.1.2.1 a1.2.1.2.2.1 a1.2.1.2.2.2).bind fun x50 =>
   (f130 k a1.2.2 a2.1.1.1 a2.1.1.2.1 a2.1.1.2.2 a2.1.2.1 a2.1.2.2.1 a2.1.2.2.2).bind fun x51 =>
   (f130 k a1.2.2 a2.2.1.1.1 a2.2.1.1.2.1 a2.2.1.1.2.2 a2.2.1.2.1 a2.2.1.2.2.1 a2.2.1.2.2.2).bind fun x52 =>
   (f129 k x51.1.1.1 x51.1.1.2.1 x51.1.1.2.2.1 x52.1.1.1 x52.1.1.2.1 x52.1.1.2.2.1).bind fun x53 =>
   (f131 k x50.1.1.1 x50.1.1.2.1 x50.1.1.2.2.1 x53.1.1.1 x53.1.1.2.1 x53.1.1.2.2.1).bind fun x54 =>
   (f133 k x54.1.1.1 x54.1.1.2.1 x54.1.1.2.2.1 x49.1.1.1 x49.1.1.2.1 x49.1.1.2.2.1).bind fun x55 =>
   (f132 k x55.1.1.1 x55.1.1.2.1 x55.1.1.2.2.1).bind fun x56 =>
   bif (decide (x56.1.1 > 0)) then
    some ((true, ()), ())
   else
    bif (x56.1.1 == 0) then
     some (((!a3), ()), ())
    else
     some ((false, ()), ())
def GO : ab := ee 101 [(0, .c (.dp u3)), (1, .c (.dp u3)), (2, .c .bool)] [(0, .c .bool)] fun k v => f101 k v.1.1 v.1.2.1 v.1.2.2.1
def Lh (k : Nat) : Full := fl k 128 [GY, uW, mU, Be, BU, jU, jO] (touch := [(8, [(21, [10])]), (9, [(21, [11])])])
theorem LQ : SN GO := so Tryz.func101 Lh (fun _ j => ⟨KA.at j, AM.at j, o5.at j, Gr.at j, Gl.at j, lf.at j, lm.at j, trivial⟩) (fun _ _ => by kernel_rfl)
def mI {ρ : Type} (k : Nat) : Nat → T6 → (List T8) → Int → Int → ((((T6 × (List T8) × Int × Unit) × Unit) → Option ρ) × ((T2 × Unit) → Option ρ) × Unit) → Option ρ
 | 0, _, _, _, _, _ => none
 | j + 1, v20, v21, v22, v23, nx =>
  bif (decide (v23 < v22)) then
   (ak v21 v22).bind fun x24 =>
   (ak v21 v23).bind fun x25 =>
   (ak v20.2 v22).bind fun x26 =>
   (ak v20.2 v23).bind fun x27 =>
   (f102 k x26.1 x26.2.1 x26.2.2 x27.1 x27.2.1 x27.2.2).bind fun x28 =>
   (f101 k x24 x25 x28.1.1).bind fun x29 =>
   bif x29.1.1 then
    nx.2.1 ((false, ()), ())
   else
    mI k j v20 v21 v22 (wr .i64 (v23 + 1)) nx
  else
   nx.1 ((v20, v21, v22, ()), ())
def yZ (k : Nat) : Cut := ⟨⟨[(0, .c (.dp u4)), (1, .c (.sl u3)), (5, .c (.int .i64)), (6, .c (.int .i64))], [], []⟩, [(.exit 2, ⟨[(0, .c (.dp u4)), (1, .c (.sl u3)), (5, .c (.int .i64))], [], []⟩), (.ret, ⟨[(4, .c .bool)], [], []⟩)], fun ρ j v nx => mI k j v.1.1 v.1.2.1 v.1.2.2.1 v.1.2.2.2.1 nx⟩
def kj {ρ : Type} (k : Nat) : Nat → T6 → (List T8) → Int → ((T1 → Option ρ) × ((T2 × Unit) → Option ρ) × Unit) → Option ρ
 | 0, _, _, _, _ => none
 | j + 1, v30, v31, v32, nx =>
  bif (decide (v32 < (v31.length : Int))) then
   mI k k v30 v31 v32 0
    (fun x33 : ((T6 × (List T8) × Int × Unit) × Unit) =>
     kj k j x33.1.1 x33.1.2.1 (wr .i64 (x33.1.2.2.1 + 1)) nx,
    fun x34 : (T2 × Unit) =>
     nx.2.1 ((x34.1.1, ()), ()),
    ())
  else
   nx.1 ((), ())
def zz (k : Nat) : Cut := ⟨⟨[(0, .c (.dp u4)), (1, .c (.sl u3)), (5, .c (.int .i64))], [], []⟩, [(.exit 0, ⟨[], [], []⟩), (.ret, ⟨[(4, .c .bool)], [], []⟩)], fun ρ j v nx => kj k j v.1.1 v.1.2.1 v.1.2.2.1 nx⟩
def f65 (k : Nat) (a1 : T6) (a2 : (List T8)) : Option (T2 × Unit) :=
 kj k k a1 a2 0
  (fun x18 : T1 =>
   some ((true, ()), ()),
  fun x19 : (T2 × Unit) =>
   some ((x19.1.1, ()), ()),
  ())
def J6 : ab := ee 65 [(0, .c (.dp u4)), (1, .c (.sl u3))] [(0, .c .bool)] fun k v => f65 k v.1.1 v.1.2.1
def Fl (k : Nat) : Full := fl k 40 [GL, GO] (cuts := [(5, (yZ k)), (2, (zz k))])
theorem Hu (k : Nat) : aO (Fl k) (yZ k) (ax Tryz.f65 5) := fun ρ v nx => ⟨by kernel_rfl, fun j => by kernel_rfl⟩
theorem HN (k : Nat) : aO (Fl k) (zz k) (ax Tryz.f65 2) := fun ρ v nx => ⟨by kernel_rfl, fun j => by kernel_rfl⟩
theorem L7 : SN J6 := so Tryz.func65 Fl (fun _ j => ⟨K2.at j, LQ.at j, trivial⟩) (fun _ _ => by kernel_rfl) (hob := fun k => Eq.mpr (by kernel_rfl) (And.intro (Hu k) (And.intro (HN k) (trivial))))
def j5 {ρ : Type} (k : Nat) : Nat → (List Int) → Int → Int → ((T1 → Option ρ) × ((T2 × Unit) → Option ρ) × Unit) → Option ρ
 | 0, _, _, _, _ => none
 | j + 1, v9, v10, v11, nx =>
  bif (decide (v11 < (v9.length : Int))) then
   (ak v9 v11).bind fun x12 =>
   bif (x12 == v10) then
    nx.2.1 ((true, ()), ())
   else
    j5 k j v9 v10 (wr .i64 (v11 + 1)) nx
  else
   nx.1 ((), ())
def vO (k : Nat) : Cut := ⟨⟨[(0, .c (.sl (.int .i64))), (1, .c (.int .i64)), (5, .c (.int .i64))], [], []⟩, [(.exit 0, ⟨[], [], []⟩), (.ret, ⟨[(4, .c .bool)], [], []⟩)], fun ρ j v nx => j5 k j v.1.1 v.1.2.1 v.1.2.2.1 nx⟩
def f103 (k : Nat) (a1 : (List Int)) (a2 : Int) : Option (T2 × Unit) :=
 j5 k k a1 a2 0
  (fun x7 : T1 =>
   some ((false, ()), ()),
  fun x8 : (T2 × Unit) =>
   some ((x8.1.1, ()), ()),
  ())
def GK : ab := ee 103 [(0, .c (.sl (.int .i64))), (1, .c (.int .i64))] [(0, .c .bool)] fun k v => f103 k v.1.1 v.1.2.1
def GG (k : Nat) : Full := fl k 18 [] (cuts := [(2, (vO k))])
theorem E5 (k : Nat) : aO (GG k) (vO k) (ax Tryz.f103 2) := fun ρ v nx => ⟨by kernel_rfl, fun j => by kernel_rfl⟩
theorem LP : SN GK := so Tryz.func103 GG (fun _ _ => trivial) (fun _ _ => by kernel_rfl) (hob := fun k => Eq.mpr (by kernel_rfl) (And.intro (E5 k) (trivial)))
def j8 {ρ : Type} (k : Nat) (v46 : T6) (v47 v48 : Int) (v49 : (List Int)) (v50 v51 v52 : Int) (nx : ((((T6 × Unit × Int × Int × Unit) × T10) → Option ρ) × Unit)) : Option ρ :=
 bif decide (0 ≤ v47) && decide (v47 < (v49.length : Int)) then
  (v49[v47.toNat]?).bind fun x53 =>
  bif (v51 == x53) then
   (f103 k v49 v50).bind fun x54 =>
   bif (!x54.1.1) then
    bif decide ((v49.length + [v50].length) * 8 ≤ roomy) then
     nx.1 ((v46, (), v47, v48, ()), ((v49 ++ [v50]), ()))
    else
     none
   else
    nx.1 ((v46, (), v47, v48, ()), (v49, ()))
  else
   nx.1 ((v46, (), v47, v48, ()), (v49, ()))
 else
  none
def wN : Cut := ⟨⟨[(0, .c (.dp u4)), (3, .c (.row 5000000)), (4, .c (.int .i64)), (5, .c (.int .i64)), (6, .c (.box 5000001))], [(5000000, .row 2 (.int .i64)), (5000001, .box 45 k0)], []⟩, [(.normal, ⟨[(0, .c (.dp u4)), (3, .c (.row 5000000)), (4, .c (.int .i64)), (5, .c (.int .i64))], [(5000000, .row 2 (.int .i64))], []⟩)], fun ρ k v nx => j8 k v.1.1 v.1.2.2.1 v.1.2.2.2.1 v.2.1 v.2.2.1.1 v.2.2.1.2.1 v.2.2.1.2.2.1 nx⟩
def jA {ρ : Type} (k : Nat) : Nat → T6 → Int → Int → (List Int) → ((((T6 × Unit × Int × Unit) × T10) → Option ρ) × Unit) → Option ρ
 | 0, _, _, _, _, _ => none
 | j + 1, v32, v33, v34, v35, nx =>
  bif (decide (v34 < (v32.2.length : Int))) then
   (ak v32.2 v34).bind fun x36 =>
   bif decide (0 ≤ v33) && decide (v33 < (v35.length : Int)) then
    (v35[v33.toNat]?).bind fun x37 =>
    bif (x36.1 == x37) then
     (f103 k v35 x36.2.1).bind fun x38 =>
     bif (!x38.1.1) then
      bif decide ((v35.length + [x36.2.1].length) * 8 ≤ roomy) then
       j8 k v32 v33 v34 (v35 ++ [x36.2.1]) x36.1 x36.2.1 x36.2.2
        (fun x39 : ((T6 × Unit × Int × Int × Unit) × T10) =>
         jA k j x39.1.1 x39.1.2.2.1 (wr .i64 (x39.1.2.2.2.1 + 1)) x39.2.1 nx,
        ())
      else
       none
     else
      j8 k v32 v33 v34 v35 x36.1 x36.2.1 x36.2.2
       (fun x40 : ((T6 × Unit × Int × Int × Unit) × T10) =>
        jA k j x40.1.1 x40.1.2.2.1 (wr .i64 (x40.1.2.2.2.1 + 1)) x40.2.1 nx,
       ())
    else
     j8 k v32 v33 v34 v35 x36.1 x36.2.1 x36.2.2
      (fun x41 : ((T6 × Unit × Int × Int × Unit) × T10) =>
       jA k j x41.1.1 x41.1.2.2.1 (wr .i64 (x41.1.2.2.2.1 + 1)) x41.2.1 nx,
      ())
   else
    none
  else
   nx.1 ((v32, (), v33, ()), (v35, ()))
def Ag (k : Nat) : Cut := ⟨⟨[(0, .c (.dp u4)), (3, .c (.row 5000000)), (4, .c (.int .i64)), (5, .c (.int .i64))], [(5000000, .row 2 (.int .i64))], []⟩, [(.exit 2, ⟨[(0, .c (.dp u4)), (3, .c (.row 5000000)), (4, .c (.int .i64))], [(5000000, .row 2 (.int .i64))], []⟩)], fun ρ j v nx => jA k j v.1.1 v.1.2.2.1 v.1.2.2.2.1 v.2.1 nx⟩
def js {ρ : Type} (k : Nat) : Nat → T6 → Int → (List Int) → ((((T6 × Unit × Unit) × T10) → Option ρ) × Unit) → Option ρ
 | 0, _, _, _, _ => none
 | j + 1, v42, v43, v44, nx =>
  bif (decide (v43 < (v44.length : Int))) then
   jA k k v42 v43 0 v44
    (fun x45 : ((T6 × Unit × Int × Unit) × T10) =>
     js k j x45.1.1 (wr .i64 (x45.1.2.2.1 + 1)) x45.2.1 nx,
    ())
  else
   nx.1 ((v42, (), ()), (v44, ()))
def zM (k : Nat) : Cut := ⟨⟨[(0, .c (.dp u4)), (3, .c (.row 5000000)), (4, .c (.int .i64))], [(5000000, .row 2 (.int .i64))], []⟩, [(.exit 0, ⟨[(0, .c (.dp u4)), (3, .c (.row 5000000))], [(5000000, .row 2 (.int .i64))], []⟩)], fun ρ j v nx => js k j v.1.1 v.1.2.2.1 v.2.1 nx⟩
def f66 (k : Nat) (a1 : T6) : Option (T2 × Unit) :=
 js k k a1 0 ([(0 : Int)])
  (fun x30 : ((T6 × Unit × Unit) × T10) =>
   let x31 : Bool := ((x30.2.1.length : Int) == (x30.1.1.1.length : Int))
   some ((x31, ()), ()),
  ())
def J3 : ab := ee 66 [(0, .c (.dp u4))] [(0, .c .bool)] fun k v => f66 k v.1.1
def By (k : Nat) : Full := fl k 76 [GK] (cuts := [(6, (Ag k)), (3, (zM k))]) (joins := [(11, wN)])
theorem Ez (k : Nat) : df (By k) wN (db Tryz.f66 11) := fun ρ v nx => by kernel_rfl
theorem Ig (k : Nat) : aO (By k) (Ag k) (ax Tryz.f66 6) := fun ρ v nx => ⟨by kernel_rfl, fun j => by kernel_rfl⟩
theorem H0 (k : Nat) : aO (By k) (zM k) (ax Tryz.f66 3) := fun ρ v nx => ⟨by kernel_rfl, fun j => by kernel_rfl⟩
theorem MU : SN J3 := so Tryz.func66 By (fun _ j => ⟨LP.at j, trivial⟩) (fun _ _ => by kernel_rfl) (hob := fun k => Eq.mpr (by kernel_rfl) (And.intro (Ez k) (And.intro (Ig k) (And.intro (H0 k) (trivial)))))
def kt {ρ : Type} (k : Nat) : Nat → T6 → (List Int) → Int → Int → T5 → ((T9 → Option ρ) × Unit) → Option ρ
 | 0, _, _, _, _, _, _ => none
 | j + 1, v24, v25, v26, v27, v28, nx =>
  bif (decide (v27 < v26)) then
   (ak v25 v27).bind fun x29 =>
   (ak v24.1 x29).bind fun x30 =>
   (f104 k x30.1.1 x30.1.2.1 x30.1.2.2 x30.2.1 x30.2.2.1 x30.2.2.2).bind fun x31 =>
   bif decide (v26 = 0) then
    none
   else
    let x32 : Int := ((wr .i64 ((wr .i64 (v27 + v26)) - 1)).tmod v26)
    (ak v25 x32).bind fun x33 =>
    (ak v24.1 x33).bind fun x34 =>
    (f104 k x34.1.1 x34.1.2.1 x34.1.2.2 x34.2.1 x34.2.2.1 x34.2.2.2).bind fun x35 =>
    (f106 k x31.1.1.1 x31.1.1.2.1 x31.1.1.2.2.1 x31.1.1.2.2.2.1 x31.1.1.2.2.2.2.1 x31.1.1.2.2.2.2.2.1 x35.1.1.1 x35.1.1.2.1 x35.1.1.2.2.1 x35.1.1.2.2.2.1 x35.1.1.2.2.2.2.1 x35.1.1.2.2.2.2.2.1).bind fun x36 =>
    (f105 k x36.1.1.1 x36.1.1.2.1 x36.1.1.2.2.1 x36.1.1.2.2.2.1 x36.1.1.2.2.2.2.1 x36.1.1.2.2.2.2.2.1).bind fun x37 =>
    bif decide (v26 = 0) then
     none
    else
     (ak v25 ((wr .i64 (v27 + 1)).tmod v26)).bind fun x38 =>
     (ak v24.1 x38).bind fun x39 =>
     (f104 k x39.1.1 x39.1.2.1 x39.1.2.2 x39.2.1 x39.2.2.1 x39.2.2.2).bind fun x40 =>
     (f106 k x40.1.1.1 x40.1.1.2.1 x40.1.1.2.2.1 x40.1.1.2.2.2.1 x40.1.1.2.2.2.2.1 x40.1.1.2.2.2.2.2.1 x31.1.1.1 x31.1.1.2.1 x31.1.1.2.2.1 x31.1.1.2.2.2.1 x31.1.1.2.2.2.2.1 x31.1.1.2.2.2.2.2.1).bind fun x41 =>
     (f105 k x41.1.1.1 x41.1.1.2.1 x41.1.1.2.2.1 x41.1.1.2.2.2.1 x41.1.1.2.2.2.2.1 x41.1.1.2.2.2.2.2.1).bind fun x42 =>
     bif (x37.1.1 != x42.1.1) then
      (ak v25 v27).bind fun x43 =>
      (ak v24.1 x43).bind fun x44 =>
      bif decide ((v28.length + [x44].length) * 48 ≤ roomy) then
       kt k j v24 v25 v26 (wr .i64 (v27 + 1)) (v28 ++ [x44]) nx
      else
       none
     else
      kt k j v24 v25 v26 (wr .i64 (v27 + 1)) v28 nx
  else
   nx.1 (((), ()), (v28, ()))
def zE (k : Nat) : Cut := ⟨⟨[(0, .c (.dp u4)), (1, .c (.sl (.int .i64))), (5, .c (.row 5000000)), (6, .c (.int .i64)), (7, .c (.int .i64))], [(5000000, .row 55 (.pair u1 u1))], []⟩, [(.exit 0, ⟨[(5, .c (.row 5000000))], [(5000000, .row 55 (.pair u1 u1))], []⟩)], fun ρ j v nx => kt k j v.1.1 v.1.2.1 v.1.2.2.2.1 v.1.2.2.2.2.1 v.2.1 nx⟩
def f67 (k : Nat) (a1 : T6) (a2 : (List Int)) : Option T9 :=
 kt k k a1 a2 (a2.length : Int) 0 ([] : List (T4 × T4))
  (fun x23 : T9 =>
   some (((), ()), (x23.2.1, ())),
  ())
def JP : ab := ⟨67, ⟨[(0, .c (.dp u4)), (1, .c (.sl (.int .i64)))], [], []⟩, ⟨[(0, .c (.row 4000000))], [(4000000, .row 55 (.pair u1 u1))], []⟩, fun k v => f67 k v.1.1 v.1.2.1⟩
def Iz (k : Nat) : Full := fl k 83 [pg, nj, pq] (cuts := [(4, (zE k))]) (touch := [(6, [(12, [8])]), (10, [(12, [5000000])])])
theorem H7 (k : Nat) : aO (Iz k) (zE k) (ax Tryz.f67 4) := fun ρ v nx => ⟨by kernel_rfl, fun j => by kernel_rfl⟩
theorem MH : SN JP := so Tryz.func67 Iz (fun _ j => ⟨qA.at j, po.at j, rO.at j, trivial⟩) (fun _ _ => by kernel_rfl) (hob := fun k => Eq.mpr (by kernel_rfl) (And.intro (H7 k) (trivial)))
def kQ {ρ : Type} (k : Nat) : Nat → T5 → Int → Int → ((((T5 × Int × Unit) × Unit) → Option ρ) × Unit) → Option ρ
 | 0, _, _, _, _ => none
 | j + 1, v14, v15, v16, nx =>
  bif (decide (v16 < (v14.length : Int))) then
   (ak v14 v16).bind fun x17 =>
   (ak v14 v15).bind fun x18 =>
   (f98 k x17.1.1 x17.1.2.1 x17.1.2.2 x17.2.1 x17.2.2.1 x17.2.2.2 x18.1.1 x18.1.2.1 x18.1.2.2 x18.2.1 x18.2.2.1 x18.2.2.2).bind fun x19 =>
   bif (decide (x19.1.1 < 0)) then
    kQ k j v14 v16 (wr .i64 (v16 + 1)) nx
   else
    kQ k j v14 v15 (wr .i64 (v16 + 1)) nx
  else
   nx.1 ((v14, v15, ()), ())
def Ab (k : Nat) : Cut := ⟨⟨[(0, .c (.sl (.pair u1 u1))), (3, .c (.int .i64)), (4, .c (.int .i64))], [], []⟩, [(.exit 0, ⟨[(0, .c (.sl (.pair u1 u1))), (3, .c (.int .i64))], [], []⟩)], fun ρ j v nx => kQ k j v.1.1 v.1.2.1 v.1.2.2.1 nx⟩
def f68 (k : Nat) (a1 : T5) : Option T9 :=
 kQ k k a1 0 1
  (fun x11 : ((T5 × Int × Unit) × Unit) =>
   bif decide (0 ≤ x11.1.2.1) && decide (x11.1.2.1 ≤ (x11.1.1.length : Int)) && decide ((x11.1.1.length : Int) ≤ (x11.1.1.length : Int)) then
    let x12 : T5 := (sub x11.1.1 x11.1.2.1 (x11.1.1.length : Int))
    bif decide ((([] : List (T4 × T4)).length + x12.length) * 48 ≤ roomy) then
     let x13 : T5 := (([] : List (T4 × T4)) ++ x12)
     bif decide (0 ≤ 0) && decide (0 ≤ x11.1.2.1) && decide (x11.1.2.1 ≤ (x11.1.1.length : Int)) then
      bif decide ((x13.length + (sub x11.1.1 0 x11.1.2.1).length) * 48 ≤ roomy) then
       some (((), ()), ((x13 ++ (sub x11.1.1 0 x11.1.2.1)), ()))
      else
       none
     else
      none
    else
     none
   else
    none,
  ())
def Jt : ab := ⟨68, ⟨[(0, .c (.sl (.pair u1 u1)))], [], []⟩, ⟨[(0, .c (.row 4000000))], [(4000000, .row 55 (.pair u1 u1))], []⟩, fun k v => f68 k v.1.1⟩
def I8 (k : Nat) : Full := fl k 33 [Au] (cuts := [(3, (Ab k))])
theorem HK (k : Nat) : aO (I8 k) (Ab k) (ax Tryz.f68 3) := fun ρ v nx => ⟨by kernel_rfl, fun j => by kernel_rfl⟩
theorem NZ : SN Jt := so Tryz.func68 I8 (fun _ j => ⟨DY.at j, trivial⟩) (fun _ _ => by kernel_rfl) (hob := fun k => Eq.mpr (by kernel_rfl) (And.intro (HK k) (trivial)))
def kf {ρ : Type} (k : Nat) : Nat → T5 → Int → T5 → ((T9 → Option ρ) × Unit) → Option ρ
 | 0, _, _, _, _ => none
 | j + 1, v9, v10, v11, nx =>
  bif (decide (v10 < (v9.length : Int))) then
   (ak v9 v10).bind fun x12 =>
   (f104 k x12.1.1 x12.1.2.1 x12.1.2.2 x12.2.1 x12.2.2.1 x12.2.2.2).bind fun x13 =>
   bif decide ((v11.length + [((x13.1.1.1, (x13.1.1.2.1, x13.1.1.2.2.1)), (x13.1.1.2.2.2.1, (x13.1.1.2.2.2.2.1, x13.1.1.2.2.2.2.2.1)))].length) * 48 ≤ roomy) then
    let x14 : T5 := (v11 ++ [((x13.1.1.1, (x13.1.1.2.1, x13.1.1.2.2.1)), (x13.1.1.2.2.2.1, (x13.1.1.2.2.2.2.1, x13.1.1.2.2.2.2.2.1)))])
    kf k j v9 (wr .i64 (v10 + 1)) x14 nx
   else
    none
  else
   nx.1 (((), ()), (v11, ()))
def wH (k : Nat) : Cut := ⟨⟨[(0, .c (.sl (.pair u1 u1))), (3, .c (.row 5000000)), (4, .c (.int .i64))], [(5000000, .row 135 (.pair u1 u1))], []⟩, [(.exit 0, ⟨[(3, .c (.row 5000000))], [(5000000, .row 135 (.pair u1 u1))], []⟩)], fun ρ j v nx => kf k j v.1.1 v.1.2.2.1 v.2.1 nx⟩
def f108 (k : Nat) (a1 : T5) : Option T9 :=
 kf k k a1 0 ([] : List (T4 × T4))
  (fun x8 : T9 =>
   some (((), ()), (x8.2.1, ())),
  ())
def As : ab := ⟨108, ⟨[(0, .c (.sl (.pair u1 u1)))], [], []⟩, ⟨[(0, .c (.row 4000000))], [(4000000, .row 135 (.pair u1 u1))], []⟩, fun k v => f108 k v.1.1⟩
def Gv (k : Nat) : Full := fl k 21 [pg] (cuts := [(3, (wH k))])
theorem FP (k : Nat) : aO (Gv k) (wH k) (ax Tryz.f108 3) := fun ρ v nx => ⟨by kernel_rfl, fun j => by kernel_rfl⟩
theorem Gh : SN As := so Tryz.func108 Gv (fun _ j => ⟨qA.at j, trivial⟩) (fun _ _ => by kernel_rfl) (hob := fun k => Eq.mpr (by kernel_rfl) (And.intro (FP k) (trivial)))
def j7 {ρ : Type} (k : Nat) : Nat → T5 → Int → (List Int) → (((T1 × T10) → Option ρ) × ((T11 × Unit) → Option ρ) × Unit) → Option ρ
 | 0, _, _, _, _ => none
 | j + 1, v12, v13, v14, nx =>
  bif (decide (v13 < (v12.length : Int))) then
   bif decide ((v12.length : Int) = 0) then
    none
   else
    let x15 : Int := ((wr .i64 (v13 + 1)).tmod (v12.length : Int))
    (ak v12 x15).bind fun x16 =>
    (ak v12 v13).bind fun x17 =>
    (f106 k x16.1.1 x16.1.2.1 x16.1.2.2 x16.2.1 x16.2.2.1 x16.2.2.2 x17.1.1 x17.1.2.1 x17.1.2.2 x17.2.1 x17.2.2.1 x17.2.2.2).bind fun x18 =>
    (f105 k x18.1.1.1 x18.1.1.2.1 x18.1.1.2.2.1 x18.1.1.2.2.2.1 x18.1.1.2.2.2.2.1 x18.1.1.2.2.2.2.2.1).bind fun x19 =>
    bif (decide (x19.1.1 < 0)) then
     nx.2.1 (((), false, ()), ())
    else
     bif decide ((v14.length + [x19.1.1].length) * 8 ≤ roomy) then
      j7 k j v12 (wr .i64 (v13 + 1)) (v14 ++ [x19.1.1]) nx
     else
      none
  else
   nx.1 (((), ()), (v14, ()))
def wB (k : Nat) : Cut := ⟨⟨[(0, .c (.sl (.pair u1 u1))), (4, .c (.row 5000000)), (5, .c (.int .i64))], [(5000000, .row 2 (.int .i64))], []⟩, [(.exit 0, ⟨[(4, .c (.row 5000000))], [(5000000, .row 2 (.int .i64))], []⟩), (.ret, ⟨[(2, .c (.lit .nils)), (3, .c .bool)], [], []⟩)], fun ρ j v nx => j7 k j v.1.1 v.1.2.2.1 v.2.1 nx⟩
def f107 (k : Nat) (a1 : T5) : Option (T11 × T10) :=
 j7 k k a1 0 ([] : List Int)
  (fun x10 : (T1 × T10) =>
   some (((), true, ()), (x10.2.1, ())),
  fun x11 : (T11 × Unit) =>
   some (((), x11.1.2.1, ()), (([] : List Int), ())),
  ())
def Bw : ab := ⟨107, ⟨[(0, .c (.sl (.pair u1 u1)))], [], []⟩, ⟨[(0, .c (.row 4000000)), (1, .c .bool)], [(4000000, .row 2 (.int .i64))], []⟩, fun k v => f107 k v.1.1⟩
def Gk (k : Nat) : Full := fl k 35 [nj, pq] (cuts := [(3, (wB k))])
theorem E2 (k : Nat) : aO (Gk k) (wB k) (ax Tryz.f107 3) := fun ρ v nx => ⟨by kernel_rfl, fun j => by kernel_rfl⟩
theorem G9 : SN Bw := so Tryz.func107 Gk (fun _ j => ⟨po.at j, rO.at j, trivial⟩) (fun _ _ => by kernel_rfl) (hob := fun k => Eq.mpr (by kernel_rfl) (And.intro (E2 k) (trivial)))
def km {ρ : Type} (k : Nat) : Nat → T5 → Int → Int → ((((T5 × Int × Unit) × Unit) → Option ρ) × ((T2 × Unit) → Option ρ) × Unit) → Option ρ
 | 0, _, _, _, _ => none
 | j + 1, v33, v34, v35, nx =>
  bif (decide (v35 < v34)) then
   (ak v33 v35).bind fun x36 =>
   (f97 k x36.1.1 x36.1.2.1 x36.1.2.2 x36.2.1 x36.2.2.1 x36.2.2.2).bind fun x37 =>
   bif (!x37.1.1) then
    nx.2.1 ((false, ()), ())
   else
    bif (decide (v35 > 0)) then
     (ak v33 0).bind fun x38 =>
     (ak v33 v35).bind fun x39 =>
     (f98 k x38.1.1 x38.1.2.1 x38.1.2.2 x38.2.1 x38.2.2.1 x38.2.2.2 x39.1.1 x39.1.2.1 x39.1.2.2 x39.2.1 x39.2.2.1 x39.2.2.2).bind fun x40 =>
     bif (decide (x40.1.1 ≥ 0)) then
      nx.2.1 ((false, ()), ())
     else
      km k j v33 v34 (wr .i64 (v35 + 1)) nx
    else
     km k j v33 v34 (wr .i64 (v35 + 1)) nx
  else
   nx.1 ((v33, v34, ()), ())
def zR (k : Nat) : Cut := ⟨⟨[(0, .c (.sl (.pair u1 u1))), (3, .c (.int .i64)), (4, .c (.int .i64))], [], []⟩, [(.exit 0, ⟨[(0, .c (.sl (.pair u1 u1))), (3, .c (.int .i64))], [], []⟩), (.ret, ⟨[(2, .c .bool)], [], []⟩)], fun ρ j v nx => km k j v.1.1 v.1.2.1 v.1.2.2.1 nx⟩
def im {ρ : Type} (k : Nat) : Nat → Int → Int → Int → (List Int) → (((T0 × Unit) → Option ρ) × ((T2 × Unit) → Option ρ) × Unit) → Option ρ
 | 0, _, _, _, _, _ => none
 | j + 1, v41, v42, v43, v44, nx =>
  bif (decide (v43 < v41)) then
   bif decide (v41 = 0) then
    none
   else
    bif decide (0 ≤ ((wr .i64 (v43 + 1)).tmod v41)) && decide (((wr .i64 (v43 + 1)).tmod v41) < (v44.length : Int)) then
     (v44[((wr .i64 (v43 + 1)).tmod v41).toNat]?).bind fun x45 =>
     bif decide (0 ≤ v43) && decide (v43 < (v44.length : Int)) then
      (v44[v43.toNat]?).bind fun x46 =>
      (f109 k (wr .i64 (x45 - x46))).bind fun x47 =>
      (f12 k x47.1.1 1 7).bind fun x48 =>
      bif (!x48.1.1) then
       nx.2.1 ((false, ()), ())
      else
       im k j v41 (wr .i64 (v42 + x47.1.1)) (wr .i64 (v43 + 1)) v44 nx
     else
      none
    else
     none
  else
   nx.1 ((v42, ()), ())
def vE (k : Nat) : Cut := ⟨⟨[(3, .c (.int .i64)), (5, .c (.row 5000000)), (7, .c (.int .i64)), (8, .c (.int .i64))], [(5000000, .row 2 (.int .i64))], []⟩, [(.exit 2, ⟨[(7, .c (.int .i64))], [], []⟩), (.ret, ⟨[(2, .c .bool)], [], []⟩)], fun ρ j v nx => im k j v.1.1 v.1.2.2.1 v.1.2.2.2.1 v.2.1 nx⟩
def f69 (k : Nat) (a1 : T5) : Option (T2 × Unit) :=
 bif (decide ((a1.length : Int) < 3)) then
  some ((false, ()), ())
 else
  bif (decide ((a1.length : Int) > 16)) then
   some ((false, ()), ())
  else
   km k k a1 (a1.length : Int) 0
    (fun x27 : ((T5 × Int × Unit) × Unit) =>
     (f108 k x27.1.1).bind fun x28 =>
     (f107 k x28.2.1).bind fun x29 =>
     bif (!x29.1.2.1) then
      some ((false, ()), ())
     else
      im k k x27.1.2.1 0 0 x29.2.1
       (fun x30 : (T0 × Unit) =>
        some (((x30.1.1 == 16), ()), ()),
       fun x31 : (T2 × Unit) =>
        some ((x31.1.1, ()), ()),
       ()),
    fun x32 : (T2 × Unit) =>
     some ((x32.1.1, ()), ()),
    ())
def Js : ab := ee 69 [(0, .c (.sl (.pair u1 u1)))] [(0, .c .bool)] fun k v => f69 k v.1.1
def E9 (k : Nat) : Full := fl k 78 [D7, Au, As, Bw, u7, xd] (cuts := [(5, (zR k)), (14, (vE k))])
theorem HX (k : Nat) : aO (E9 k) (zR k) (ax Tryz.f69 5) := fun ρ v nx => ⟨by kernel_rfl, fun j => by kernel_rfl⟩
theorem E7 (k : Nat) : aO (E9 k) (vE k) (ax Tryz.f69 14) := fun ρ v nx => ⟨by kernel_rfl, fun j => by kernel_rfl⟩
theorem N8 : SN Js := so Tryz.func69 E9 (fun _ j => ⟨JR.at j, DY.at j, Gh.at j, G9.at j, Bj.at j, AO.at j, trivial⟩) (fun _ _ => by kernel_rfl) (hob := fun k => Eq.mpr (by kernel_rfl) (And.intro (HX k) (And.intro (E7 k) (trivial))))
def my {ρ : Type} (k : Nat) : Nat → (List Int) → Int → (List Int) → (((T1 × T10) → Option ρ) × Unit) → Option ρ
 | 0, _, _, _, _ => none
 | j + 1, v9, v10, v11, nx =>
  bif (decide (v10 > 0)) then
   (ak v9 v10).bind fun x12 =>
   bif decide ((v11.length + [x12].length) * 8 ≤ roomy) then
    my k j v9 (wr .i64 (v10 - 1)) (v11 ++ [x12]) nx
   else
    none
  else
   nx.1 (((), ()), (v11, ()))
def Ae (k : Nat) : Cut := ⟨⟨[(0, .c (.sl (.int .i64))), (3, .c (.row 5000000)), (4, .c (.int .i64))], [(5000000, .row 2 (.int .i64))], []⟩, [(.exit 0, ⟨[(3, .c (.row 5000000))], [(5000000, .row 2 (.int .i64))], []⟩)], fun ρ j v nx => my k j v.1.1 v.1.2.2.1 v.2.1 nx⟩
def f70 (k : Nat) (a1 : (List Int)) : Option (T1 × T10) :=
 (ak a1 0).bind fun x7 =>
 my k k a1 (wr .i64 ((a1.length : Int) - 1)) ([x7])
  (fun x8 : (T1 × T10) =>
   some (((), ()), (x8.2.1, ())),
  ())
def IQ : ab := ⟨70, ⟨[(0, .c (.sl (.int .i64)))], [], []⟩, ⟨[(0, .c (.row 4000000))], [(4000000, .row 2 (.int .i64))], []⟩, fun k v => f70 k v.1.1⟩
def Jo (k : Nat) : Full := fl k 24 [] (cuts := [(3, (Ae k))])
theorem HA (k : Nat) : aO (Jo k) (Ae k) (ax Tryz.f70 3) := fun ρ v nx => ⟨by kernel_rfl, fun j => by kernel_rfl⟩
theorem Mo : SN IQ := so Tryz.func70 Jo (fun _ _ => trivial) (fun _ _ => by kernel_rfl) (hob := fun k => Eq.mpr (by kernel_rfl) (And.intro (HA k) (trivial)))
def ml {ρ : Type} (k : Nat) : Nat → T5 → Int → T5 → ((T9 → Option ρ) × Unit) → Option ρ
 | 0, _, _, _, _ => none
 | j + 1, v7, v8, v9, nx =>
  bif (decide (v8 ≥ 0)) then
   (ak v7 v8).bind fun x10 =>
   bif decide ((v9.length + [x10].length) * 48 ≤ roomy) then
    ml k j v7 (wr .i64 (v8 - 1)) (v9 ++ [x10]) nx
   else
    none
  else
   nx.1 (((), ()), (v9, ()))
def zr (k : Nat) : Cut := ⟨⟨[(0, .c (.sl (.pair u1 u1))), (3, .c (.row 5000000)), (4, .c (.int .i64))], [(5000000, .row 55 (.pair u1 u1))], []⟩, [(.exit 0, ⟨[(3, .c (.row 5000000))], [(5000000, .row 55 (.pair u1 u1))], []⟩)], fun ρ j v nx => ml k j v.1.1 v.1.2.2.1 v.2.1 nx⟩
def f71 (k : Nat) (a1 : T5) : Option T9 :=
 ml k k a1 (wr .i64 ((a1.length : Int) - 1)) ([] : List (T4 × T4))
  (fun x6 : T9 =>
   some (((), ()), (x6.2.1, ())),
  ())
def JE : ab := ⟨71, ⟨[(0, .c (.sl (.pair u1 u1)))], [], []⟩, ⟨[(0, .c (.row 4000000))], [(4000000, .row 55 (.pair u1 u1))], []⟩, fun k v => f71 k v.1.1⟩
def Kd (k : Nat) : Full := fl k 21 [] (cuts := [(3, (zr k))])
theorem Iq (k : Nat) : aO (Kd k) (zr k) (ax Tryz.f71 3) := fun ρ v nx => ⟨by kernel_rfl, fun j => by kernel_rfl⟩
theorem MF : SN JE := so Tryz.func71 Kd (fun _ _ => trivial) (fun _ _ => by kernel_rfl) (hob := fun k => Eq.mpr (by kernel_rfl) (And.intro (Iq k) (trivial)))
def ja {ρ : Type} (k : Nat) : Nat → T5 → (List Int) → Int → Int → Int → Int → Int → Int → Int → Int → (((T0 × Unit) → Option ρ) × Unit) → Option ρ
 | 0, _, _, _, _, _, _, _, _, _, _, _ => none
 | j + 1, v18, v19, v20, v21, v22, v23, v24, v25, v26, v27, nx =>
  bif (decide (v21 < (v18.length : Int))) then
   (ak v19 v21).bind fun x28 =>
   (ak v18 v21).bind fun x29 =>
   (f106 k v22 v23 v24 v25 v26 v27 x29.1.1 x29.1.2.1 x29.1.2.2 x29.2.1 x29.2.2.1 x29.2.2.2).bind fun x30 =>
   (f130 k (wr .i64 (x28 + 4)) x30.1.1.1 x30.1.1.2.1 x30.1.1.2.2.1 x30.1.1.2.2.2.1 x30.1.1.2.2.2.2.1 x30.1.1.2.2.2.2.2.1).bind fun x31 =>
   (f132 k x31.1.1.1 x31.1.1.2.1 x31.1.1.2.2.1).bind fun x32 =>
   bif (decide (x32.1.1 < v20)) then
    ja k j v18 v19 x32.1.1 (wr .i64 (v21 + 1)) v22 v23 v24 v25 v26 v27 nx
   else
    ja k j v18 v19 v20 (wr .i64 (v21 + 1)) v22 v23 v24 v25 v26 v27 nx
  else
   nx.1 ((v20, ()), ())
def vN (k : Nat) : Cut := ⟨⟨[(0, .c (.sl (.pair u1 u1))), (1, .c (.sl (.int .i64))), (5, .c (.box 5000000)), (7, .c (.int .i64)), (8, .c (.int .i64))], [(5000000, .box 135 k1)], []⟩, [(.exit 0, ⟨[(7, .c (.int .i64))], [], []⟩)], fun ρ j v nx => ja k j v.1.1 v.1.2.1 v.1.2.2.2.1 v.1.2.2.2.2.1 v.2.1.1 v.2.1.2.1 v.2.1.2.2.1 v.2.1.2.2.2.1 v.2.1.2.2.2.2.1 v.2.1.2.2.2.2.2.1 nx⟩
def f110 (k : Nat) (a1 : T5) (a2 : (List Int)) (a3 a4 a5 a6 a7 a8 : Int) : Option (T0 × Unit) :=
 ja k k a1 a2 1 0 a3 a4 a5 a6 a7 a8
  (fun x17 : (T0 × Unit) =>
   some ((x17.1.1, ()), ()),
  ())
def GF : ab := ee 110 [(0, .c (.sl (.pair u1 u1))), (1, .c (.sl (.int .i64))), (2, .agg k1)] [(0, .c (.int .i64))] fun k v => f110 k v.1.1 v.1.2.1 v.1.2.2.1.1 v.1.2.2.1.2.1 v.1.2.2.1.2.2.1 v.1.2.2.1.2.2.2.1 v.1.2.2.1.2.2.2.2.1 v.1.2.2.1.2.2.2.2.2.1
def Gi (k : Nat) : Full := fl k 34 [nj, mU, jO] (cuts := [(3, (vN k))])
theorem Fh (k : Nat) : aO (Gi k) (vN k) (ax Tryz.f110 3) := fun ρ v nx => ⟨by kernel_rfl, fun j => by kernel_rfl⟩
theorem KF : SN GF := so Tryz.func110 Gi (fun _ j => ⟨po.at j, o5.at j, lm.at j, trivial⟩) (fun _ _ => by kernel_rfl) (hob := fun k => Eq.mpr (by kernel_rfl) (And.intro (Fh k) (trivial)))
def ke {ρ : Type} (k : Nat) : Nat → Int → Int → Int → Int → Int → Int → Int → Int → Int → Int → ((((Unit × Unit × Int × Unit × Unit) × (T12 × T12 × T12 × Unit)) → Option ρ) × Unit) → Option ρ
 | 0, _, _, _, _, _, _, _, _, _, _, _ => none
 | j + 1, v32, v33, v34, v35, v36, v37, v38, v39, v40, v41, nx =>
  bif ((v32.tmod 2) == 0) then
   ke k j (wr .i64 (v32.tdiv 2)) v33 v34 v35 v36 v37 v38 v39 v40 (wr .i64 (v41 + 1)) nx
  else
   nx.1 (((), (), v32, (), ()), ((v33, v34, v35, ()), (v36, v37, v38, ()), (v39, v40, v41, ()), ()))
def xF (k : Nat) : Cut := ⟨⟨[(3, .c (.box 5000000)), (4, .c (.box 5000001)), (6, .c (.int .i64)), (7, .c (.box 5000002))], [(5000000, .box 133 k0), (5000001, .box 133 k0), (5000002, .box 133 k0)], []⟩, [(.exit 0, ⟨[(3, .c (.box 5000000)), (4, .c (.box 5000001)), (6, .c (.int .i64)), (7, .c (.box 5000002))], [(5000000, .box 133 k0), (5000001, .box 133 k0), (5000002, .box 133 k0)], []⟩)], fun ρ j v nx => ke k j v.1.2.2.1 v.2.1.1 v.2.1.2.1 v.2.1.2.2.1 v.2.2.1.1 v.2.2.1.2.1 v.2.2.1.2.2.1 v.2.2.2.1.1 v.2.2.2.1.2.1 v.2.2.2.1.2.2.1 nx⟩
def iR {ρ : Type} (k : Nat) : Nat → Int → Int → Int → Int → Int → Int → Int → ((((Unit × Unit × Unit) × T14) → Option ρ) × Unit) → Option ρ
 | 0, _, _, _, _, _, _, _, _ => none
 | j + 1, v42, v43, v44, v45, v46, v47, v48, nx =>
  bif (decide (v42 > 0)) then
   bif (decide (v48 > 0)) then
    iR k j (wr .i64 (v42 - 1)) v43 v44 v45 v46 v47 (wr .i64 (v48 - 1)) nx
   else
    iR k j (wr .i64 (v42 - 1)) v43 v44 v45 (wr .i64 (v46 * 2)) (wr .i64 (v47 * 2)) v48 nx
  else
   nx.1 (((), (), ()), ((v43, v44, v45, ()), (v46, v47, v48, ()), ()))
def tK (k : Nat) : Cut := ⟨⟨[(4, .c (.box 5000000)), (7, .c (.box 5000001)), (8, .c (.int .i64))], [(5000000, .box 133 k0), (5000001, .box 133 k0)], []⟩, [(.exit 2, ⟨[(4, .c (.box 5000000)), (7, .c (.box 5000001))], [(5000000, .box 133 k0), (5000001, .box 133 k0)], []⟩)], fun ρ j v nx => iR k j v.1.2.2.1 v.2.1.1 v.2.1.2.1 v.2.1.2.2.1 v.2.2.1.1 v.2.2.1.2.1 v.2.2.1.2.2.1 nx⟩
def f151 (k : Nat) (a1 a2 a3 a4 a5 a6 : Int) : Option ((T12 × Bool × Unit) × Unit) :=
 let x25 : Int := (wr .i64 ((wr .i64 (a4 * a4)) - (wr .i64 ((wr .i64 (2 * a5)) * a5))))
 bif (x25 == 0) then
  some (((0, 0, 0, ()), false, ()), ())
 else
  let x26 : Int := (wr .i64 ((wr .i64 (a1 * a4)) - (wr .i64 ((wr .i64 (2 * a2)) * a5))))
  let x27 : Int := (wr .i64 ((wr .i64 (a2 * a4)) - (wr .i64 (a1 * a5))))
  ke k k x25 a4 a5 a6 0 0 0 x26 x27 a3
   (fun x29 : ((Unit × Unit × Int × Unit × Unit) × (T12 × T12 × T12 × Unit)) =>
    bif decide (x29.1.2.2.1 = 0) then
     none
    else
     bif ((x29.2.2.2.1.1.tmod x29.1.2.2.1) != 0) then
      some (((0, 0, 0, ()), false, ()), ())
     else
      bif decide (x29.1.2.2.1 = 0) then
       none
      else
       bif ((x29.2.2.2.1.2.1.tmod x29.1.2.2.1) != 0) then
        some (((0, 0, 0, ()), false, ()), ())
       else
        bif decide (x29.1.2.2.1 = 0) then
         none
        else
         bif decide (x29.1.2.2.1 = 0) then
          none
         else
          iR k k x29.2.1.2.2.1 x29.2.2.1.1 x29.2.2.1.2.1 x29.2.2.1.2.2.1 (wr .i64 (x29.2.2.2.1.1.tdiv x29.1.2.2.1)) (wr .i64 (x29.2.2.2.1.2.1.tdiv x29.1.2.2.1)) x29.2.2.2.1.2.2.1
           (fun x30 : ((Unit × Unit × Unit) × T14) =>
            (f156 k x30.2.2.1.1 x30.2.2.1.2.1 x30.2.2.1.2.2.1).bind fun x31 =>
            some (((x31.1.1.1, x31.1.1.2.1, x31.1.1.2.2.1, ()), true, ()), ()),
           ()),
   ())
def Gc : ab := ee 151 [(0, .agg k0), (1, .agg k0)] [(0, .agg k0), (1, .c .bool)] fun k v => f151 k v.1.1.1 v.1.1.2.1 v.1.1.2.2.1 v.1.2.1.1 v.1.2.1.2.1 v.1.2.1.2.2.1
def Bn (k : Nat) : Full := fl k 105 [vd] (cuts := [(5, (xF k)), (13, (tK k))])
theorem EU (k : Nat) : aO (Bn k) (xF k) (ax Tryz.f151 5) := fun ρ v nx => ⟨by kernel_rfl, fun j => by kernel_rfl⟩
theorem Db (k : Nat) : aO (Bn k) (tK k) (ax Tryz.f151 13) := fun ρ v nx => ⟨by kernel_rfl, fun j => by kernel_rfl⟩
theorem Ll : SN Gc := so Tryz.func151 Bn (fun _ j => ⟨A4.at j, trivial⟩) (fun _ _ => by kernel_rfl) (hob := fun k => Eq.mpr (by kernel_rfl) (And.intro (EU k) (And.intro (Db k) (trivial))))
def f138 (k : Nat) (a1 a2 a3 a4 a5 a6 a7 a8 : Int) : Option T19 :=
 (f146 k (wr .i64 (a1 + 4))).bind fun x16 =>
 (f104 k x16.1.1.1 x16.1.1.2.1 x16.1.1.2.2.1 x16.1.1.2.2.2.1 x16.1.1.2.2.2.2.1 x16.1.1.2.2.2.2.2.1).bind fun x17 =>
 (f146 k (wr .i64 (a5 + 4))).bind fun x18 =>
 (f104 k x18.1.1.1 x18.1.1.2.1 x18.1.1.2.2.1 x18.1.1.2.2.2.1 x18.1.1.2.2.2.2.1 x18.1.1.2.2.2.2.2.1).bind fun x19 =>
 (f148 k x17.1.1.1 x17.1.1.2.1 x17.1.1.2.2.1 x19.1.1.2.2.2.1 x19.1.1.2.2.2.2.1 x19.1.1.2.2.2.2.2.1).bind fun x20 =>
 (f148 k x17.1.1.2.2.2.1 x17.1.1.2.2.2.2.1 x17.1.1.2.2.2.2.2.1 x19.1.1.1 x19.1.1.2.1 x19.1.1.2.2.1).bind fun x21 =>
 (f133 k x20.1.1.1 x20.1.1.2.1 x20.1.1.2.2.1 x21.1.1.1 x21.1.1.2.1 x21.1.1.2.2.1).bind fun x22 =>
 (f148 k a2 a3 a4 x19.1.1.2.2.2.1 x19.1.1.2.2.2.2.1 x19.1.1.2.2.2.2.2.1).bind fun x23 =>
 (f148 k a6 a7 a8 x17.1.1.2.2.2.1 x17.1.1.2.2.2.2.1 x17.1.1.2.2.2.2.2.1).bind fun x24 =>
 (f133 k x23.1.1.1 x23.1.1.2.1 x23.1.1.2.2.1 x24.1.1.1 x24.1.1.2.1 x24.1.1.2.2.1).bind fun x25 =>
 (f151 k x25.1.1.1 x25.1.1.2.1 x25.1.1.2.2.1 x22.1.1.1 x22.1.1.2.1 x22.1.1.2.2.1).bind fun x26 =>
 (f148 k a6 a7 a8 x17.1.1.1 x17.1.1.2.1 x17.1.1.2.2.1).bind fun x27 =>
 (f148 k a2 a3 a4 x19.1.1.1 x19.1.1.2.1 x19.1.1.2.2.1).bind fun x28 =>
 (f133 k x27.1.1.1 x27.1.1.2.1 x27.1.1.2.2.1 x28.1.1.1 x28.1.1.2.1 x28.1.1.2.2.1).bind fun x29 =>
 (f151 k x29.1.1.1 x29.1.1.2.1 x29.1.1.2.2.1 x22.1.1.1 x22.1.1.2.1 x22.1.1.2.2.1).bind fun x30 =>
 some (((x26.1.1.1, x26.1.1.2.1, x26.1.1.2.2.1, x30.1.1.1, x30.1.1.2.1, x30.1.1.2.2.1, ()), ()), ())
def AI : ab := ee 138 [(0, .agg k3), (1, .agg k3)] [(0, .agg k1)] fun k v => f138 k v.1.1.1 v.1.1.2.1 v.1.1.2.2.1 v.1.1.2.2.2.1 v.1.2.1.1 v.1.2.1.2.1 v.1.2.1.2.2.1 v.1.2.1.2.2.2.1
def Lq (k : Nat) : Full := fl k 68 [AZ, pg, BY, jU, Gc] (touch := [(3, [(12, [7])]), (4, [(17, [8])]), (5, [(17, [10])])])
theorem Gd : SN AI := so Tryz.func138 Lq (fun _ j => ⟨Gs.at j, qA.at j, Ha.at j, lf.at j, Ll.at j, trivial⟩) (fun _ _ => by kernel_rfl)
def jc {ρ : Type} (k : Nat) (v112 : T5) (v113 : Int) (v114 : Bool) (v115 v116 v117 v118 v119 v120 v121 : Int) (v122 : T5) (v123 v124 v125 v126 v127 v128 v129 v130 v131 v132 v133 v134 : Int) (nx : (((T20 × (T17 × T5 × Unit)) → Option ρ) × Unit)) : Option ρ :=
 bif (decide ((wr .i64 (v116 * v117)) < 0)) then
  (f106 k v129 v130 v131 v132 v133 v134 v123 v124 v125 v126 v127 v128).bind fun x135 =>
  (f105 k x135.1.1.1 x135.1.1.2.1 x135.1.1.2.2.1 x135.1.1.2.2.2.1 x135.1.1.2.2.2.2.1 x135.1.1.2.2.2.2.2.1).bind fun x136 =>
  (f136 k v123 v124 v125 v126 v127 v128 x136.1.1).bind fun x137 =>
  (f138 k x137.1.1.1 x137.1.1.2.1 x137.1.1.2.2.1 x137.1.1.2.2.2.1 v118 v119 v120 v121).bind fun x138 =>
  bif decide ((v122.length + [((x138.1.1.1, (x138.1.1.2.1, x138.1.1.2.2.1)), (x138.1.1.2.2.2.1, (x138.1.1.2.2.2.2.1, x138.1.1.2.2.2.2.2.1)))].length) * 48 ≤ roomy) then
   let x139 : T5 := (v122 ++ [((x138.1.1.1, (x138.1.1.2.1, x138.1.1.2.2.1)), (x138.1.1.2.2.2.1, (x138.1.1.2.2.2.2.1, x138.1.1.2.2.2.2.2.1)))])
   nx.1 ((v112, v113, (), (), v114, v115, ()), ((v118, v119, v120, v121, ()), x139, ()))
  else
   none
 else
  nx.1 ((v112, v113, (), (), v114, v115, ()), ((v118, v119, v120, v121, ()), v122, ()))
def tM : Cut := ⟨⟨[(0, .c (.sl (.pair u1 u1))), (2, .c (.int .i64)), (4, .c (.box 5000000)), (7, .c (.row 5000001)), (8, .c .bool), (9, .c (.int .i64)), (10, .c (.box 5000002)), (11, .c (.box 5000003)), (12, .c (.int .i64)), (13, .c (.int .i64))], [(5000000, .box 164 k3), (5000001, .row 135 (.pair u1 u1)), (5000002, .box 135 k1), (5000003, .box 135 k1)], []⟩, [(.normal, ⟨[(0, .c (.sl (.pair u1 u1))), (2, .c (.int .i64)), (4, .c (.box 5000000)), (7, .c (.row 5000001)), (8, .c .bool), (9, .c (.int .i64))], [(5000000, .box 164 k3), (5000001, .row 135 (.pair u1 u1))], []⟩)], fun ρ k v nx => jc k v.1.1 v.1.2.1 v.1.2.2.2.2.1 v.1.2.2.2.2.2.1 v.1.2.2.2.2.2.2.2.2.1 v.1.2.2.2.2.2.2.2.2.2.1 v.2.1.1 v.2.1.2.1 v.2.1.2.2.1 v.2.1.2.2.2.1 v.2.2.1 v.2.2.2.1.1 v.2.2.2.1.2.1 v.2.2.2.1.2.2.1 v.2.2.2.1.2.2.2.1 v.2.2.2.1.2.2.2.2.1 v.2.2.2.1.2.2.2.2.2.1 v.2.2.2.2.1.1 v.2.2.2.2.1.2.1 v.2.2.2.2.1.2.2.1 v.2.2.2.2.1.2.2.2.1 v.2.2.2.2.1.2.2.2.2.1 v.2.2.2.2.1.2.2.2.2.2.1 nx⟩
def kF {ρ : Type} (k : Nat) (v87 : T5) (v88 : Int) (v89 : Bool) (v90 v91 v92 v93 v94 v95 v96 : Int) (v97 : T5) (v98 v99 v100 v101 v102 v103 v104 v105 v106 v107 v108 v109 : Int) (nx : (((T20 × (T17 × T5 × Unit)) → Option ρ) × Unit)) : Option ρ :=
 bif v89 then
  jc k v87 v88 true v90 v91 v92 v93 v94 v95 v96 v97 v98 v99 v100 v101 v102 v103 v104 v105 v106 v107 v108 v109
   (fun x110 : (T20 × (T17 × T5 × Unit)) =>
    nx.1 ((x110.1.1, x110.1.2.1, (), (), x110.1.2.2.2.2.1, x110.1.2.2.2.2.2.1, ()), ((x110.2.1.1, x110.2.1.2.1, x110.2.1.2.2.1, x110.2.1.2.2.2.1, ()), x110.2.2.1, ())),
   ())
 else
  jc k v87 v88 (decide (v91 > 0)) v90 v91 v92 v93 v94 v95 v96 v97 v98 v99 v100 v101 v102 v103 v104 v105 v106 v107 v108 v109
   (fun x111 : (T20 × (T17 × T5 × Unit)) =>
    nx.1 ((x111.1.1, x111.1.2.1, (), (), x111.1.2.2.2.2.1, x111.1.2.2.2.2.2.1, ()), ((x111.2.1.1, x111.2.1.2.1, x111.2.1.2.2.1, x111.2.1.2.2.2.1, ()), x111.2.2.1, ())),
   ())
def ul : Cut := ⟨⟨[(0, .c (.sl (.pair u1 u1))), (2, .c (.int .i64)), (4, .c (.box 5000000)), (7, .c (.row 5000001)), (8, .c .bool), (9, .c (.int .i64)), (10, .c (.box 5000002)), (11, .c (.box 5000003)), (12, .c (.int .i64)), (13, .c (.int .i64))], [(5000000, .box 164 k3), (5000001, .row 135 (.pair u1 u1)), (5000002, .box 135 k1), (5000003, .box 135 k1)], []⟩, [(.normal, ⟨[(0, .c (.sl (.pair u1 u1))), (2, .c (.int .i64)), (4, .c (.box 5000000)), (7, .c (.row 5000001)), (8, .c .bool), (9, .c (.int .i64))], [(5000000, .box 164 k3), (5000001, .row 135 (.pair u1 u1))], []⟩)], fun ρ k v nx => kF k v.1.1 v.1.2.1 v.1.2.2.2.2.1 v.1.2.2.2.2.2.1 v.1.2.2.2.2.2.2.2.2.1 v.1.2.2.2.2.2.2.2.2.2.1 v.2.1.1 v.2.1.2.1 v.2.1.2.2.1 v.2.1.2.2.2.1 v.2.2.1 v.2.2.2.1.1 v.2.2.2.1.2.1 v.2.2.2.1.2.2.1 v.2.2.2.1.2.2.2.1 v.2.2.2.1.2.2.2.2.1 v.2.2.2.1.2.2.2.2.2.1 v.2.2.2.2.1.1 v.2.2.2.2.1.2.1 v.2.2.2.2.1.2.2.1 v.2.2.2.2.1.2.2.2.1 v.2.2.2.2.1.2.2.2.2.1 v.2.2.2.2.1.2.2.2.2.2.1 nx⟩
def hZ {ρ : Type} (k : Nat) : Nat → T5 → Int → Bool → Int → Int → Int → Int → Int → T5 → (((T11 × (T5 × Unit)) → Option ρ) × Unit) → Option ρ
 | 0, _, _, _, _, _, _, _, _, _, _ => none
 | j + 1, v71, v72, v73, v74, v75, v76, v77, v78, v79, nx =>
  bif (decide (v74 < (v71.length : Int))) then
   (ak v71 v74).bind fun x80 =>
   bif decide ((v71.length : Int) = 0) then
    none
   else
    let x81 : Int := ((wr .i64 (v74 + 1)).tmod (v71.length : Int))
    (ak v71 x81).bind fun x82 =>
    (f128 k v75 v76 v77 v78 x80.1.1 x80.1.2.1 x80.1.2.2 x80.2.1 x80.2.2.1 x80.2.2.2).bind fun x83 =>
    (f128 k v75 v76 v77 v78 x82.1.1 x82.1.2.1 x82.1.2.2 x82.2.1 x82.2.2.1 x82.2.2.2).bind fun x84 =>
    bif (decide ((wr .i64 (v72 * x83.1.1)) ≥ 0)) then
     bif decide ((v79.length + [x80].length) * 48 ≤ roomy) then
      kF k v71 v72 v73 v74 (wr .i64 (v72 * x83.1.1)) (wr .i64 (v72 * x84.1.1)) v75 v76 v77 v78 (v79 ++ [x80]) x80.1.1 x80.1.2.1 x80.1.2.2 x80.2.1 x80.2.2.1 x80.2.2.2 x82.1.1 x82.1.2.1 x82.1.2.2 x82.2.1 x82.2.2.1 x82.2.2.2
       (fun x85 : (T20 × (T17 × T5 × Unit)) =>
        hZ k j x85.1.1 x85.1.2.1 x85.1.2.2.2.2.1 (wr .i64 (x85.1.2.2.2.2.2.1 + 1)) x85.2.1.1 x85.2.1.2.1 x85.2.1.2.2.1 x85.2.1.2.2.2.1 x85.2.2.1 nx,
       ())
     else
      none
    else
     kF k v71 v72 v73 v74 (wr .i64 (v72 * x83.1.1)) (wr .i64 (v72 * x84.1.1)) v75 v76 v77 v78 v79 x80.1.1 x80.1.2.1 x80.1.2.2 x80.2.1 x80.2.2.1 x80.2.2.2 x82.1.1 x82.1.2.1 x82.1.2.2 x82.2.1 x82.2.2.1 x82.2.2.2
      (fun x86 : (T20 × (T17 × T5 × Unit)) =>
       hZ k j x86.1.1 x86.1.2.1 x86.1.2.2.2.2.1 (wr .i64 (x86.1.2.2.2.2.2.1 + 1)) x86.2.1.1 x86.2.1.2.1 x86.2.1.2.2.1 x86.2.1.2.2.2.1 x86.2.2.1 nx,
      ())
  else
   nx.1 (((), v73, ()), (v79, ()))
def xK (k : Nat) : Cut := ⟨⟨[(0, .c (.sl (.pair u1 u1))), (2, .c (.int .i64)), (4, .c (.box 5000000)), (7, .c (.row 5000001)), (8, .c .bool), (9, .c (.int .i64))], [(5000000, .box 164 k3), (5000001, .row 135 (.pair u1 u1))], []⟩, [(.exit 0, ⟨[(7, .c (.row 5000000)), (8, .c .bool)], [(5000000, .row 135 (.pair u1 u1))], []⟩)], fun ρ j v nx => hZ k j v.1.1 v.1.2.1 v.1.2.2.2.2.1 v.1.2.2.2.2.2.1 v.2.1.1 v.2.1.2.1 v.2.1.2.2.1 v.2.1.2.2.2.1 v.2.2.1 nx⟩
def f137 (k : Nat) (a1 : T5) (a2 a3 a4 a5 a6 : Int) : Option T9 :=
 hZ k k a1 a6 false 0 a2 a3 a4 a5 ([] : List (T4 × T4))
  (fun x70 : (T11 × (T5 × Unit)) =>
   bif (!x70.1.2.1) then
    some (((), ()), (([] : List (T4 × T4)), ()))
   else
    some (((), ()), (x70.2.1, ())),
  ())
def Gf : ab := ⟨137, ⟨[(0, .c (.sl (.pair u1 u1))), (1, .agg k3), (2, .c (.int .i64))], [], []⟩, ⟨[(0, .c (.row 4000000))], [(4000000, .row 135 (.pair u1 u1))], []⟩, fun k v => f137 k v.1.1 v.1.2.1.1 v.1.2.1.2.1 v.1.2.1.2.2.1 v.1.2.1.2.2.2.1 v.1.2.2.1⟩
def uY (k : Nat) : Full := fl k 73 [uW, nj, pq, ve, AI] (cuts := [(4, (xK k))]) (joins := [(13, tM), (12, ul)]) (touch := [(14, [(10, [5000001])])])
theorem CA (k : Nat) : df (uY k) tM (db Tryz.f137 13) := fun ρ v nx => by kernel_rfl
theorem Dw (k : Nat) : df (uY k) ul (db Tryz.f137 12) := fun ρ v nx => by kernel_rfl
theorem EJ (k : Nat) : aO (uY k) (xK k) (ax Tryz.f137 4) := fun ρ v nx => ⟨by kernel_rfl, fun j => by kernel_rfl⟩
theorem KO : SN Gf := so Tryz.func137 uY (fun _ j => ⟨AM.at j, po.at j, rO.at j, BG.at j, Gd.at j, trivial⟩) (fun _ _ => by kernel_rfl) (hob := fun k => Eq.mpr (by kernel_rfl) (And.intro (CA k) (And.intro (Dw k) (And.intro (EJ k) (trivial)))))
def je {ρ : Type} (k : Nat) (v142 : T5) (v143 v144 v145 v146 v147 v148 v149 v150 v151 v152 v153 v154 v155 v156 v157 v158 v159 v160 v161 v162 : Int) (v163 : (List T4)) (v164 v165 v166 v167 v168 v169 v170 v171 v172 v173 v174 v175 : Int) (nx : ((((T5 × Unit × Unit × Int × Unit × Unit × Int × Unit) × (T18 × T18 × T17 × (List T4) × Unit)) → Option ρ) × Unit)) : Option ρ :=
 bif (decide ((wr .i64 (v145 * v146)) < 0)) then
  (f106 k v170 v171 v172 v173 v174 v175 v164 v165 v166 v167 v168 v169).bind fun x176 =>
  (f105 k x176.1.1.1 x176.1.1.2.1 x176.1.1.2.2.1 x176.1.1.2.2.2.1 x176.1.1.2.2.2.2.1 x176.1.1.2.2.2.2.2.1).bind fun x177 =>
  (f136 k v164 v165 v166 v167 v168 v169 x177.1.1).bind fun x178 =>
  (f138 k x178.1.1.1 x178.1.1.2.1 x178.1.1.2.2.1 x178.1.1.2.2.2.1 v159 v160 v161 v162).bind fun x179 =>
  (f130 k v143 x179.1.1.1 x179.1.1.2.1 x179.1.1.2.2.1 x179.1.1.2.2.2.1 x179.1.1.2.2.2.2.1 x179.1.1.2.2.2.2.2.1).bind fun x180 =>
  bif decide ((v163.length + [(x180.1.1.1, (x180.1.1.2.1, x180.1.1.2.2.1))].length) * 24 ≤ roomy) then
   let x181 : (List T4) := (v163 ++ [(x180.1.1.1, (x180.1.1.2.1, x180.1.1.2.2.1))])
   nx.1 ((v142, (), (), v143, (), (), v144, ()), ((v147, v148, v149, v150, v151, v152, ()), (v153, v154, v155, v156, v157, v158, ()), (v159, v160, v161, v162, ()), x181, ()))
  else
   none
 else
  nx.1 ((v142, (), (), v143, (), (), v144, ()), ((v147, v148, v149, v150, v151, v152, ()), (v153, v154, v155, v156, v157, v158, ()), (v159, v160, v161, v162, ()), v163, ()))
def tF : Cut := ⟨⟨[(0, .c (.sl (.pair u1 u1))), (4, .c (.box 5000000)), (5, .c (.box 5000001)), (7, .c (.int .i64)), (8, .c (.box 5000002)), (9, .c (.row 5000003)), (10, .c (.int .i64)), (11, .c (.box 5000004)), (12, .c (.box 5000005)), (13, .c (.int .i64)), (14, .c (.int .i64))], [(5000000, .box 135 k1), (5000001, .box 135 k1), (5000002, .box 164 k3), (5000003, .row 133 u1), (5000004, .box 135 k1), (5000005, .box 135 k1)], []⟩, [(.normal, ⟨[(0, .c (.sl (.pair u1 u1))), (4, .c (.box 5000000)), (5, .c (.box 5000001)), (7, .c (.int .i64)), (8, .c (.box 5000002)), (9, .c (.row 5000003)), (10, .c (.int .i64))], [(5000000, .box 135 k1), (5000001, .box 135 k1), (5000002, .box 164 k3), (5000003, .row 133 u1)], []⟩)], fun ρ k v nx => je k v.1.1 v.1.2.2.2.1 v.1.2.2.2.2.2.2.1 v.1.2.2.2.2.2.2.2.2.2.1 v.1.2.2.2.2.2.2.2.2.2.2.1 v.2.1.1 v.2.1.2.1 v.2.1.2.2.1 v.2.1.2.2.2.1 v.2.1.2.2.2.2.1 v.2.1.2.2.2.2.2.1 v.2.2.1.1 v.2.2.1.2.1 v.2.2.1.2.2.1 v.2.2.1.2.2.2.1 v.2.2.1.2.2.2.2.1 v.2.2.1.2.2.2.2.2.1 v.2.2.2.1.1 v.2.2.2.1.2.1 v.2.2.2.1.2.2.1 v.2.2.2.1.2.2.2.1 v.2.2.2.2.1 v.2.2.2.2.2.1.1 v.2.2.2.2.2.1.2.1 v.2.2.2.2.2.1.2.2.1 v.2.2.2.2.2.1.2.2.2.1 v.2.2.2.2.2.1.2.2.2.2.1 v.2.2.2.2.2.1.2.2.2.2.2.1 v.2.2.2.2.2.2.1.1 v.2.2.2.2.2.2.1.2.1 v.2.2.2.2.2.2.1.2.2.1 v.2.2.2.2.2.2.1.2.2.2.1 v.2.2.2.2.2.2.1.2.2.2.2.1 v.2.2.2.2.2.2.1.2.2.2.2.2.1 nx⟩
def hJ {ρ : Type} (k : Nat) : Nat → T5 → Int → Int → Int → Int → Int → Int → Int → Int → Int → Int → Int → Int → Int → Int → Int → Int → Int → Int → (List T4) → ((((Unit × Unit × Int × Unit × Unit) × (T18 × T18 × (List T4) × Unit)) → Option ρ) × Unit) → Option ρ
 | 0, _, _, _, _, _, _, _, _, _, _, _, _, _, _, _, _, _, _, _, _, _ => none
 | j + 1, v113, v114, v115, v116, v117, v118, v119, v120, v121, v122, v123, v124, v125, v126, v127, v128, v129, v130, v131, v132, nx =>
  bif (decide (v115 < (v113.length : Int))) then
   (ak v113 v115).bind fun x133 =>
   bif decide ((v113.length : Int) = 0) then
    none
   else
    let x134 : Int := ((wr .i64 (v115 + 1)).tmod (v113.length : Int))
    (ak v113 x134).bind fun x135 =>
    (f128 k v128 v129 v130 v131 x133.1.1 x133.1.2.1 x133.1.2.2 x133.2.1 x133.2.2.1 x133.2.2.2).bind fun x136 =>
    (f128 k v128 v129 v130 v131 x135.1.1 x135.1.2.1 x135.1.2.2 x135.2.1 x135.2.2.1 x135.2.2.2).bind fun x137 =>
    bif (x136.1.1 == 0) then
     (f130 k v114 x133.1.1 x133.1.2.1 x133.1.2.2 x133.2.1 x133.2.2.1 x133.2.2.2).bind fun x138 =>
     bif decide ((v132.length + [(x138.1.1.1, (x138.1.1.2.1, x138.1.1.2.2.1))].length) * 24 ≤ roomy) then
      let x139 : (List T4) := (v132 ++ [(x138.1.1.1, (x138.1.1.2.1, x138.1.1.2.2.1))])
      je k v113 v114 v115 x136.1.1 x137.1.1 v116 v117 v118 v119 v120 v121 v122 v123 v124 v125 v126 v127 v128 v129 v130 v131 x139 x133.1.1 x133.1.2.1 x133.1.2.2 x133.2.1 x133.2.2.1 x133.2.2.2 x135.1.1 x135.1.2.1 x135.1.2.2 x135.2.1 x135.2.2.1 x135.2.2.2
       (fun x140 : ((T5 × Unit × Unit × Int × Unit × Unit × Int × Unit) × (T18 × T18 × T17 × (List T4) × Unit)) =>
        hJ k j x140.1.1 x140.1.2.2.2.1 (wr .i64 (x140.1.2.2.2.2.2.2.1 + 1)) x140.2.1.1 x140.2.1.2.1 x140.2.1.2.2.1 x140.2.1.2.2.2.1 x140.2.1.2.2.2.2.1 x140.2.1.2.2.2.2.2.1 x140.2.2.1.1 x140.2.2.1.2.1 x140.2.2.1.2.2.1 x140.2.2.1.2.2.2.1 x140.2.2.1.2.2.2.2.1 x140.2.2.1.2.2.2.2.2.1 x140.2.2.2.1.1 x140.2.2.2.1.2.1 x140.2.2.2.1.2.2.1 x140.2.2.2.1.2.2.2.1 x140.2.2.2.2.1 nx,
       ())
     else
      none
    else
     je k v113 v114 v115 x136.1.1 x137.1.1 v116 v117 v118 v119 v120 v121 v122 v123 v124 v125 v126 v127 v128 v129 v130 v131 v132 x133.1.1 x133.1.2.1 x133.1.2.2 x133.2.1 x133.2.2.1 x133.2.2.2 x135.1.1 x135.1.2.1 x135.1.2.2 x135.2.1 x135.2.2.1 x135.2.2.2
      (fun x141 : ((T5 × Unit × Unit × Int × Unit × Unit × Int × Unit) × (T18 × T18 × T17 × (List T4) × Unit)) =>
       hJ k j x141.1.1 x141.1.2.2.2.1 (wr .i64 (x141.1.2.2.2.2.2.2.1 + 1)) x141.2.1.1 x141.2.1.2.1 x141.2.1.2.2.1 x141.2.1.2.2.2.1 x141.2.1.2.2.2.2.1 x141.2.1.2.2.2.2.2.1 x141.2.2.1.1 x141.2.2.1.2.1 x141.2.2.1.2.2.1 x141.2.2.1.2.2.2.1 x141.2.2.1.2.2.2.2.1 x141.2.2.1.2.2.2.2.2.1 x141.2.2.2.1.1 x141.2.2.2.1.2.1 x141.2.2.2.1.2.2.1 x141.2.2.2.1.2.2.2.1 x141.2.2.2.2.1 nx,
      ())
  else
   nx.1 (((), (), v114, (), ()), ((v116, v117, v118, v119, v120, v121, ()), (v122, v123, v124, v125, v126, v127, ()), v132, ()))
def wZ (k : Nat) : Cut := ⟨⟨[(0, .c (.sl (.pair u1 u1))), (4, .c (.box 5000000)), (5, .c (.box 5000001)), (7, .c (.int .i64)), (8, .c (.box 5000002)), (9, .c (.row 5000003)), (10, .c (.int .i64))], [(5000000, .box 135 k1), (5000001, .box 135 k1), (5000002, .box 164 k3), (5000003, .row 133 u1)], []⟩, [(.exit 0, ⟨[(4, .c (.box 5000000)), (5, .c (.box 5000001)), (7, .c (.int .i64)), (9, .c (.row 5000002))], [(5000000, .box 135 k1), (5000001, .box 135 k1), (5000002, .row 133 u1)], []⟩)], fun ρ j v nx => hJ k j v.1.1 v.1.2.2.2.1 v.1.2.2.2.2.2.2.1 v.2.1.1 v.2.1.2.1 v.2.1.2.2.1 v.2.1.2.2.2.1 v.2.1.2.2.2.2.1 v.2.1.2.2.2.2.2.1 v.2.2.1.1 v.2.2.1.2.1 v.2.2.1.2.2.1 v.2.2.1.2.2.2.1 v.2.2.1.2.2.2.2.1 v.2.2.1.2.2.2.2.2.1 v.2.2.2.1.1 v.2.2.2.1.2.1 v.2.2.2.1.2.2.1 v.2.2.2.1.2.2.2.1 v.2.2.2.2.1 nx⟩
def f111 (k : Nat) (a1 : T5) (a2 a3 a4 a5 a6 a7 a8 a9 a10 a11 a12 a13 : Int) : Option (T2 × Unit) :=
 (f106 k a8 a9 a10 a11 a12 a13 a2 a3 a4 a5 a6 a7).bind fun x92 =>
 (f105 k x92.1.1.1 x92.1.1.2.1 x92.1.1.2.2.1 x92.1.1.2.2.2.1 x92.1.1.2.2.2.2.1 x92.1.1.2.2.2.2.2.1).bind fun x93 =>
 bif (decide (x93.1.1 < 0)) then
  some ((false, ()), ())
 else
  (f136 k a2 a3 a4 a5 a6 a7 x93.1.1).bind fun x94 =>
  (f137 k a1 x94.1.1.1 x94.1.1.2.1 x94.1.1.2.2.1 x94.1.1.2.2.2.1 1).bind fun x97 =>
  bif ((x97.2.1.length : Int) == 0) then
   some ((false, ()), ())
  else
   (f137 k a1 x94.1.1.1 x94.1.1.2.1 x94.1.1.2.2.1 x94.1.1.2.2.2.1 (-1)).bind fun x98 =>
   bif ((x98.2.1.length : Int) == 0) then
    some ((false, ()), ())
   else
    hJ k k a1 x93.1.1 0 a2 a3 a4 a5 a6 a7 a8 a9 a10 a11 a12 a13 x94.1.1.1 x94.1.1.2.1 x94.1.1.2.2.1 x94.1.1.2.2.2.1 ([] : List T4)
     (fun x100 : ((Unit × Unit × Int × Unit × Unit) × (T18 × T18 × (List T4) × Unit)) =>
      bif decide (0 ≤ 0) && decide (0 < (x100.2.2.2.1.length : Int)) then
       (x100.2.2.2.1[0]?).bind fun x101 =>
       bif decide (0 ≤ 1) && decide (1 < (x100.2.2.2.1.length : Int)) then
        (x100.2.2.2.1[1]?).bind fun x102 =>
        (f131 k x101.1 x101.2.1 x101.2.2 x102.1 x102.2.1 x102.2.2).bind fun x103 =>
        (f130 k x100.1.2.2.1 x100.2.1.1 x100.2.1.2.1 x100.2.1.2.2.1 x100.2.1.2.2.2.1 x100.2.1.2.2.2.2.1 x100.2.1.2.2.2.2.2.1).bind fun x104 =>
        (f129 k x103.1.1.1 x103.1.1.2.1 x103.1.1.2.2.1 x104.1.1.1 x104.1.1.2.1 x104.1.1.2.2.1).bind fun x105 =>
        bif decide (0 ≤ 0) && decide (0 < (x100.2.2.2.1.length : Int)) then
         (x100.2.2.2.1[0]?).bind fun x106 =>
         bif decide (0 ≤ 1) && decide (1 < (x100.2.2.2.1.length : Int)) then
          (x100.2.2.2.1[1]?).bind fun x107 =>
          (f129 k x106.1 x106.2.1 x106.2.2 x107.1 x107.2.1 x107.2.2).bind fun x108 =>
          (f130 k x100.1.2.2.1 x100.2.2.1.1 x100.2.2.1.2.1 x100.2.2.1.2.2.1 x100.2.2.1.2.2.2.1 x100.2.2.1.2.2.2.2.1 x100.2.2.1.2.2.2.2.2.1).bind fun x109 =>
          (f131 k x108.1.1.1 x108.1.1.2.1 x108.1.1.2.2.1 x109.1.1.1 x109.1.1.2.1 x109.1.1.2.2.1).bind fun x110 =>
          (f133 k x110.1.1.1 x110.1.1.2.1 x110.1.1.2.2.1 x105.1.1.1 x105.1.1.2.1 x105.1.1.2.2.1).bind fun x111 =>
          (f132 k x111.1.1.1 x111.1.1.2.1 x111.1.1.2.2.1).bind fun x112 =>
          some (((decide (x112.1.1 > 0)), ()), ())
         else
          none
        else
         none
       else
        none
      else
       none,
     ())
def Gy : ab := ee 111 [(0, .c (.sl (.pair u1 u1))), (1, .agg k1), (2, .agg k1)] [(0, .c .bool)] fun k v => f111 k v.1.1 v.1.2.1.1 v.1.2.1.2.1 v.1.2.1.2.2.1 v.1.2.1.2.2.2.1 v.1.2.1.2.2.2.2.1 v.1.2.1.2.2.2.2.2.1 v.1.2.2.1.1 v.1.2.2.1.2.1 v.1.2.2.1.2.2.1 v.1.2.2.1.2.2.2.1 v.1.2.2.1.2.2.2.2.1 v.1.2.2.1.2.2.2.2.2.1
def Bo (k : Nat) : Full := fl k 115 [nj, pq, ve, Gf, uW, mU, AI, Be, BU, jU, jO] (cuts := [(9, (wZ k))]) (joins := [(17, tF)]) (touch := [(18, [(12, [5000003])]), (19, [(12, [15])]), (20, [(12, [16])])])
theorem DK (k : Nat) : df (Bo k) tF (db Tryz.f111 17) := fun ρ v nx => by kernel_rfl
theorem DV (k : Nat) : aO (Bo k) (wZ k) (ax Tryz.f111 9) := fun ρ v nx => ⟨by kernel_rfl, fun j => by kernel_rfl⟩
theorem Lp : SN Gy := so Tryz.func111 Bo (fun _ j => ⟨po.at j, rO.at j, BG.at j, KO.at j, AM.at j, o5.at j, Gd.at j, Gr.at j, Gl.at j, lf.at j, lm.at j, trivial⟩) (fun _ _ => by kernel_rfl) (hob := fun k => Eq.mpr (by kernel_rfl) (And.intro (DK k) (And.intro (DV k) (trivial))))
def ko {ρ : Type} (k : Nat) : Nat → T6 → (List T8) → Int → T5 → (List Int) → ((T1 → Option ρ) × ((T2 × Unit) → Option ρ) × Unit) → Option ρ
 | 0, _, _, _, _, _, _ => none
 | j + 1, v23, v24, v25, v26, v27, nx =>
  bif (decide (v25 < (v24.length : Int))) then
   (ak v23.2 v25).bind fun x29 =>
   bif (x29.2.2 == 1) then
    ko k j v23 v24 (wr .i64 (v25 + 1)) v26 v27 nx
   else
    (ak v24 v25).bind fun x30 =>
    (f110 k v26 v27 x30.1.1.1 x30.1.1.2.1 x30.1.1.2.2 x30.1.2.1 x30.1.2.2.1 x30.1.2.2.2).bind fun x31 =>
    bif (decide (x31.1.1 < 0)) then
     nx.2.1 ((false, ()), ())
    else
     (ak v24 v25).bind fun x32 =>
     (f110 k v26 v27 x32.2.1.1.1 x32.2.1.1.2.1 x32.2.1.1.2.2 x32.2.1.2.1 x32.2.1.2.2.1 x32.2.1.2.2.2).bind fun x33 =>
     bif (decide (x33.1.1 < 0)) then
      nx.2.1 ((false, ()), ())
     else
      (ak v24 v25).bind fun x34 =>
      (ak v24 v25).bind fun x35 =>
      (f111 k v26 x34.1.1.1 x34.1.1.2.1 x34.1.1.2.2 x34.1.2.1 x34.1.2.2.1 x34.1.2.2.2 x35.2.1.1.1 x35.2.1.1.2.1 x35.2.1.1.2.2 x35.2.1.2.1 x35.2.1.2.2.1 x35.2.1.2.2.2).bind fun x36 =>
      bif (!x36.1.1) then
       nx.2.1 ((false, ()), ())
      else
       ko k j v23 v24 (wr .i64 (v25 + 1)) v26 v27 nx
  else
   nx.1 ((), ())
def zf (k : Nat) : Cut := ⟨⟨[(0, .c (.dp u4)), (1, .c (.sl u3)), (7, .c (.row 5000000)), (8, .c (.row 5000001)), (10, .c (.int .i64))], [(5000000, .row 135 (.pair u1 u1)), (5000001, .row 2 (.int .i64))], []⟩, [(.exit 0, ⟨[], [], []⟩), (.ret, ⟨[(6, .c .bool)], [], []⟩)], fun ρ j v nx => ko k j v.1.1 v.1.2.1 v.1.2.2.2.2.1 v.2.1 v.2.2.1 nx⟩
def f72 (k : Nat) (a1 : T6) (a2 : (List T8)) (a3 : T5) : Option (T2 × Unit) :=
 (f108 k a3).bind fun x19 =>
 (f107 k x19.2.1).bind fun x20 =>
 ko k k a1 a2 0 x19.2.1 x20.2.1
  (fun x21 : T1 =>
   some ((true, ()), ()),
  fun x22 : (T2 × Unit) =>
   some ((x22.1.1, ()), ()),
  ())
def IR : ab := ee 72 [(0, .c (.dp u4)), (1, .c (.sl u3)), (2, .c (.sl (.pair u1 u1)))] [(0, .c .bool)] fun k v => f72 k v.1.1 v.1.2.1 v.1.2.2.1
def I5 (k : Nat) : Full := fl k 68 [As, Bw, GF, Gy] (cuts := [(4, (zf k))])
theorem Hv (k : Nat) : aO (I5 k) (zf k) (ax Tryz.f72 4) := fun ρ v nx => ⟨by kernel_rfl, fun j => by kernel_rfl⟩
theorem N2 : SN IR := so Tryz.func72 I5 (fun _ j => ⟨Gh.at j, G9.at j, KF.at j, Lp.at j, trivial⟩) (fun _ _ => by kernel_rfl) (hob := fun k => Eq.mpr (by kernel_rfl) (And.intro (Hv k) (trivial)))
def mi {ρ : Type} (k : Nat) (v43 : T6) (v44 : (List T8)) (v45 : (List Int)) (v46 : T5) (nx : (((T15 × (T5 × (List Int) × Unit)) → Option ρ) × Unit)) : Option ρ :=
 (f69 k v46).bind fun x47 =>
 bif (!x47.1.1) then
  nx.1 (((), (), false, ()), (([] : List (T4 × T4)), ([] : List Int), ()))
 else
  (f72 k v43 v44 v46).bind fun x48 =>
  bif (!x48.1.1) then
   nx.1 (((), (), false, ()), (([] : List (T4 × T4)), ([] : List Int), ()))
  else
   nx.1 (((), (), true, ()), (v46, v45, ()))
def xo : Cut := ⟨⟨[(0, .c (.dp u4)), (5, .c (.row 5000000)), (7, .c (.row 5000001)), (9, .c (.row 5000002))], [(5000000, .row 137 u3), (5000001, .row 2 (.int .i64)), (5000002, .row 55 (.pair u1 u1))], []⟩, [(.ret, ⟨[(2, .c (.row 5000000)), (3, .c (.row 5000001)), (4, .c .bool)], [(5000000, .row 55 (.pair u1 u1)), (5000001, .row 2 (.int .i64))], []⟩)], fun ρ k v nx => mi k v.1.1 v.2.1 v.2.2.1 v.2.2.2.1 nx⟩
def f38 (k : Nat) (a1 : T6) : Option (T15 × (T5 × (List Int) × Unit)) :=
 (f62 k a1).bind fun x28 =>
 bif (!x28.1.1) then
  some (((), (), false, ()), (([] : List (T4 × T4)), ([] : List Int), ()))
 else
  (f63 k a1).bind fun x29 =>
  bif (!x29.1.2.1) then
   some (((), (), false, ()), (([] : List (T4 × T4)), ([] : List Int), ()))
  else
   (f64 k a1).bind fun x30 =>
   bif (!x30.1.2.1) then
    some (((), (), false, ()), (([] : List (T4 × T4)), ([] : List Int), ()))
   else
    (f65 k a1 x29.2.1).bind fun x33 =>
    bif (!x33.1.1) then
     some (((), (), false, ()), (([] : List (T4 × T4)), ([] : List Int), ()))
    else
     (f66 k a1).bind fun x34 =>
     bif (!x34.1.1) then
      some (((), (), false, ()), (([] : List (T4 × T4)), ([] : List Int), ()))
     else
      (f67 k a1 x30.2.1).bind fun x35 =>
      (f68 k x35.2.1).bind fun x36 =>
      (f69 k x36.2.1).bind fun x37 =>
      bif (!x37.1.1) then
       (f70 k x30.2.1).bind fun x38 =>
       (f71 k x35.2.1).bind fun x39 =>
       (f68 k x39.2.1).bind fun x40 =>
       mi k a1 x29.2.1 x38.2.1 x40.2.1
        (fun x41 : (T15 × (T5 × (List Int) × Unit)) =>
         some (((), (), x41.1.2.2.1, ()), (x41.2.1, x41.2.2.1, ())),
        ())
      else
       mi k a1 x29.2.1 x30.2.1 x36.2.1
        (fun x42 : (T15 × (T5 × (List Int) × Unit)) =>
         some (((), (), x42.1.2.2.1, ()), (x42.2.1, x42.2.2.1, ())),
        ())
def IG : ab := ⟨38, ⟨[(0, .c (.dp u4))], [], []⟩, ⟨[(0, .c (.row 4000000)), (1, .c (.row 4000001)), (2, .c .bool)], [(4000000, .row 55 (.pair u1 u1)), (4000001, .row 2 (.int .i64))], []⟩, fun k v => f38 k v.1.1⟩
def JT (k : Nat) : Full := fl k 63 [It, Ka, JI, J6, J3, JP, Jt, Js, IQ, JE, IR] (joins := [(14, xo)])
theorem Fp (k : Nat) : df (JT k) xo (db Tryz.f38 14) := fun ρ v nx => by kernel_rfl
theorem Nu : SN IG := so Tryz.func38 JT (fun _ j => ⟨MO.at j, NS.at j, Nd.at j, L7.at j, MU.at j, MH.at j, NZ.at j, N8.at j, Mo.at j, MF.at j, N2.at j, trivial⟩) (fun _ _ => by kernel_rfl) (hob := fun k => Eq.mpr (by kernel_rfl) (And.intro (Fp k) (trivial)))
def f22 (k : Nat) (a1 : T6) : Option (T2 × Unit) :=
 (f38 k a1).bind fun x2 =>
 some ((x2.1.2.2.1, ()), ())
def Kq : ab := ee 22 [(0, .c (.dp u4))] [(0, .c .bool)] fun k v => f22 k v.1.1
def Mk (k : Nat) : Full := fl k 13 [IG]
theorem NE : SN Kq := so Tryz.func22 Mk (fun _ j => ⟨Nu.at j, trivial⟩) (fun _ _ => by kernel_rfl)
def f11 (k : Nat) (a1 : T5) (a2 : (List T4)) : Option (T2 × Unit) :=
 (f22 k (a1, a2)).bind fun x2 =>
 some ((x2.1.1, ()), ())
def Ks : ab := ee 11 [(0, .agg k2)] [(0, .c .bool)] fun k v => f11 k v.1.1.1 v.1.1.2.1
def ND (k : Nat) : Full := fl k 4 [Kq]
theorem N9 : SN Ks := so Tryz.func11 ND (fun _ j => ⟨NE.at j, trivial⟩) (fun _ _ => by kernel_rfl)
def n7 {ρ : Type} (bT : Int → Option (T3 × Unit)) (k : Nat) (v15 : Int) (nx : (((T3 × Unit) → Option ρ) × Unit)) : Option ρ :=
 bif (decide (v15 < 0)) then
  (bT (wr .i64 (v15.tdiv 10))).bind fun x18 =>
  (bT (wr .i64 (0 - (v15.tmod 10)))).bind fun x19 =>
  bif decide (((x18.1.1.size + x19.1.1.size : Nat) : Int) > 9223372036854775807) then
   none
  else
   nx.1 (((x18.1.1 ++ x19.1.1), ()), ())
 else
  bif (decide (v15 < 10)) then
   nx.1 (((fu ([(wr .u8 (wr .i64 (48 + v15)))])), ()), ())
  else
   (bT (wr .i64 (v15.tdiv 10))).bind fun x20 =>
   let x21 : ByteArray := (fu ([(wr .u8 (wr .i64 (48 + (v15.tmod 10))))]))
   bif decide (((x20.1.1.size + x21.size : Nat) : Int) > 9223372036854775807) then
    none
   else
    nx.1 (((x20.1.1 ++ x21), ()), ())
def yY (bT : Int → Option (T3 × Unit)) : Cut := ⟨⟨[(0, .c (.int .i64))], [], []⟩, [(.ret, ⟨[(2, .c .str)], [], []⟩)], fun ρ k v nx => n7 bT k v.1.1 nx⟩
def f73 : Nat → Int → Option (T3 × Unit)
 | 0, _ => none
 | k + 1, a1 =>
  bif (decide (a1 < 0)) then
   bif (decide (a1 > (-10))) then
    (f73 k (wr .i64 (0 - a1))).bind fun x12 =>
    bif decide ((((ByteArray.mk #[45]).size + x12.1.1.size : Nat) : Int) > 9223372036854775807) then
     none
    else
     some ((((ByteArray.mk #[45]) ++ x12.1.1), ()), ())
   else
    n7 (f73 k) k a1
     (fun x13 : (T3 × Unit) =>
      some ((x13.1.1, ()), ()),
     ())
  else
   n7 (f73 k) k a1
    (fun x14 : (T3 × Unit) =>
     some ((x14.1.1, ()), ()),
    ())
def E3 : ab := ee 73 [(0, .c (.int .i64))] [(0, .c .str)] fun k v => f73 k v.1.1
def Jm (k : Nat) : Full := fl k 40 [E3] (joins := [(3, (yY (f73 k)))])
theorem Hn (k : Nat) : df (Jm k) (yY (f73 k)) (db Tryz.f73 3) := fun ρ v nx => by kernel_rfl
theorem Me : SN E3 := sr Tryz.func73 Jm (fun k j h => ⟨h, trivial⟩) (fun _ => by kernel_rfl) (fun _ _ => by kernel_rfl) (hob := fun k => Eq.mpr (by kernel_rfl) (And.intro (Hn k) (trivial)))
def j6 {ρ : Type} (k : Nat) (v55 : ByteArray) (v56 v57 v58 : Int) (nx : (((T3 × Unit) → Option ρ) × Unit)) : Option ρ :=
 bif decide (((v55.size + (ByteArray.mk #[47]).size : Nat) : Int) > 9223372036854775807) then
  none
 else
  bif decide ((wr .u64 v58) < 0) then
   none
  else
   (f73 k (cP .i64 1 (wr .u64 v58))).bind fun x59 =>
   bif decide ((((v55 ++ (ByteArray.mk #[47])).size + x59.1.1.size : Nat) : Int) > 9223372036854775807) then
    none
   else
    nx.1 ((((v55 ++ (ByteArray.mk #[47])) ++ x59.1.1), ()), ())
def wz : Cut := ⟨⟨[(1, .c (.box 5000000)), (3, .c .str)], [(5000000, .box 53 k0)], []⟩, [(.ret, ⟨[(2, .c .str)], [], []⟩)], fun ρ k v nx => j6 k v.1.2.1 v.2.1.1 v.2.1.2.1 v.2.1.2.2.1 nx⟩
def kP {ρ : Type} (k : Nat) (v47 : ByteArray) (v48 v49 v50 : Int) (nx : (((T3 × Unit) → Option ρ) × Unit)) : Option ρ :=
 bif (v50 == 0) then
  nx.1 ((v47, ()), ())
 else
  bif (v48 != 0) then
   bif (v49 != 0) then
    bif decide ((((ByteArray.mk #[40]).size + v47.size : Nat) : Int) > 9223372036854775807) then
     none
    else
     bif decide (((((ByteArray.mk #[40]) ++ v47).size + (ByteArray.mk #[41]).size : Nat) : Int) > 9223372036854775807) then
      none
     else
      let x51 : ByteArray := (((ByteArray.mk #[40]) ++ v47) ++ (ByteArray.mk #[41]))
      j6 k x51 v48 v49 v50
       (fun x52 : (T3 × Unit) =>
        nx.1 ((x52.1.1, ()), ()),
       ())
   else
    j6 k v47 v48 v49 v50
     (fun x53 : (T3 × Unit) =>
      nx.1 ((x53.1.1, ()), ()),
     ())
  else
   j6 k v47 v48 v49 v50
    (fun x54 : (T3 × Unit) =>
     nx.1 ((x54.1.1, ()), ()),
    ())
def zn : Cut := ⟨⟨[(1, .c (.box 5000000)), (3, .c .str)], [(5000000, .box 53 k0)], []⟩, [(.ret, ⟨[(2, .c .str)], [], []⟩)], fun ρ k v nx => kP k v.1.2.1 v.2.1.1 v.2.1.2.1 v.2.1.2.2.1 nx⟩
def f39 (k : Nat) (a1 a2 a3 : Int) : Option (T3 × Unit) :=
 bif (a2 == 0) then
  (f73 k a1).bind fun x35 =>
  kP k x35.1.1 a1 a2 a3
   (fun x36 : (T3 × Unit) =>
    some ((x36.1.1, ()), ()),
   ())
 else
  bif (a1 == 0) then
   (f73 k a2).bind fun x37 =>
   bif decide (((x37.1.1.size + (ByteArray.mk #[114]).size : Nat) : Int) > 9223372036854775807) then
    none
   else
    kP k (x37.1.1 ++ (ByteArray.mk #[114])) a1 a2 a3
     (fun x38 : (T3 × Unit) =>
      some ((x38.1.1, ()), ()),
     ())
  else
   bif (decide (a2 > 0)) then
    (f73 k a1).bind fun x39 =>
    bif decide (((x39.1.1.size + (ByteArray.mk #[43]).size : Nat) : Int) > 9223372036854775807) then
     none
    else
     (f73 k a2).bind fun x40 =>
     bif decide ((((x39.1.1 ++ (ByteArray.mk #[43])).size + x40.1.1.size : Nat) : Int) > 9223372036854775807) then
      none
     else
      let x41 : ByteArray := ((x39.1.1 ++ (ByteArray.mk #[43])) ++ x40.1.1)
      bif decide (((x41.size + (ByteArray.mk #[114]).size : Nat) : Int) > 9223372036854775807) then
       none
      else
       kP k (x41 ++ (ByteArray.mk #[114])) a1 a2 a3
        (fun x42 : (T3 × Unit) =>
         some ((x42.1.1, ()), ()),
        ())
   else
    (f73 k a1).bind fun x43 =>
    (f73 k a2).bind fun x44 =>
    bif decide (((x43.1.1.size + x44.1.1.size : Nat) : Int) > 9223372036854775807) then
     none
    else
     bif decide ((((x43.1.1 ++ x44.1.1).size + (ByteArray.mk #[114]).size : Nat) : Int) > 9223372036854775807) then
      none
     else
      let x45 : ByteArray := ((x43.1.1 ++ x44.1.1) ++ (ByteArray.mk #[114]))
      kP k x45 a1 a2 a3
       (fun x46 : (T3 × Unit) =>
        some ((x46.1.1, ()), ()),
       ())
def Km : ab := ee 39 [(0, .agg k0)] [(0, .c .str)] fun k v => f39 k v.1.1.1 v.1.1.2.1 v.1.1.2.2.1
def Ed (k : Nat) : Full := fl k 63 [E3] (joins := [(13, wz), (9, zn)])
theorem EV (k : Nat) : df (Ed k) wz (db Tryz.f39 13) := fun ρ v nx => by kernel_rfl
theorem Hl (k : Nat) : df (Ed k) zn (db Tryz.f39 9) := fun ρ v nx => by kernel_rfl
theorem Nw : SN Km := so Tryz.func39 Ed (fun _ j => ⟨Me.at j, trivial⟩) (fun _ _ => by kernel_rfl) (hob := fun k => Eq.mpr (by kernel_rfl) (And.intro (EV k) (And.intro (Hl k) (trivial))))
def f23 (k : Nat) (a1 a2 a3 a4 a5 a6 : Int) : Option (T3 × Unit) :=
 (f39 k a1 a2 a3).bind fun x4 =>
 bif decide ((((ByteArray.mk #[40]).size + x4.1.1.size : Nat) : Int) > 9223372036854775807) then
  none
 else
  bif decide (((((ByteArray.mk #[40]) ++ x4.1.1).size + (ByteArray.mk #[44]).size : Nat) : Int) > 9223372036854775807) then
   none
  else
   let x5 : ByteArray := (((ByteArray.mk #[40]) ++ x4.1.1) ++ (ByteArray.mk #[44]))
   (f39 k a4 a5 a6).bind fun x6 =>
   bif decide (((x5.size + x6.1.1.size : Nat) : Int) > 9223372036854775807) then
    none
   else
    bif decide ((((x5 ++ x6.1.1).size + (ByteArray.mk #[41]).size : Nat) : Int) > 9223372036854775807) then
     none
    else
     some ((((x5 ++ x6.1.1) ++ (ByteArray.mk #[41])), ()), ())
def J5 : ab := ee 23 [(0, .agg k1)] [(0, .c .str)] fun k v => f23 k v.1.1.1 v.1.1.2.1 v.1.1.2.2.1 v.1.1.2.2.2.1 v.1.1.2.2.2.2.1 v.1.1.2.2.2.2.2.1
def NC (k : Nat) : Full := fl k 13 [Km]
theorem Nk : SN J5 := so Tryz.func23 NC (fun _ j => ⟨Nw.at j, trivial⟩) (fun _ _ => by kernel_rfl)
def f13 (k : Nat) (a1 : T6) (a2 : Int) : Option (T3 × Unit) :=
 (ak a1.2 a2).bind fun x8 =>
 (ak a1.1 x8.1).bind fun x9 =>
 (f23 k x9.1.1 x9.1.2.1 x9.1.2.2 x9.2.1 x9.2.2.1 x9.2.2.2).bind fun x10 =>
 bif decide (((x10.1.1.size + (ByteArray.mk #[32]).size : Nat) : Int) > 9223372036854775807) then
  none
 else
  (ak a1.1 x8.2.1).bind fun x11 =>
  (f23 k x11.1.1 x11.1.2.1 x11.1.2.2 x11.2.1 x11.2.2.1 x11.2.2.2).bind fun x12 =>
  bif decide ((((x10.1.1 ++ (ByteArray.mk #[32])).size + x12.1.1.size : Nat) : Int) > 9223372036854775807) then
   none
  else
   let x13 : ByteArray := ((x10.1.1 ++ (ByteArray.mk #[32])) ++ x12.1.1)
   bif decide (((x13.size + (ByteArray.mk #[32]).size : Nat) : Int) > 9223372036854775807) then
    none
   else
    bif decide (0 ≤ x8.2.2) && decide (x8.2.2 < ([ByteArray.empty, (ByteArray.mk #[98, 111, 114, 100, 101, 114]), (ByteArray.mk #[109, 111, 117, 110, 116, 97, 105, 110]), (ByteArray.mk #[118, 97, 108, 108, 101, 121]), (ByteArray.mk #[111, 112, 101, 110])].length : Int)) then
     ([ByteArray.empty, (ByteArray.mk #[98, 111, 114, 100, 101, 114]), (ByteArray.mk #[109, 111, 117, 110, 116, 97, 105, 110]), (ByteArray.mk #[118, 97, 108, 108, 101, 121]), (ByteArray.mk #[111, 112, 101, 110])][x8.2.2.toNat]?).bind fun x14 =>
     bif decide ((((x13 ++ (ByteArray.mk #[32])).size + x14.size : Nat) : Int) > 9223372036854775807) then
      none
     else
      some ((((x13 ++ (ByteArray.mk #[32])) ++ x14), ()), ())
    else
     none
def I6 : ab := ee 13 [(0, .c (.dp u4)), (1, .c (.int .i64))] [(0, .c .str)] fun k v => f13 k v.1.1 v.1.2.1
def MV (k : Nat) : Full := fl k 42 [J5]
theorem M2 : SN I6 := so Tryz.func13 MV (fun _ j => ⟨Nk.at j, trivial⟩) (fun _ _ => by kernel_rfl)
def f5 (k : Nat) (a1 : T5) (a2 : (List T4)) (a3 : Int) : Option (T3 × Unit) :=
 (f11 k a1 a2).bind fun x4 =>
 bif (!x4.1.1) then
  some ((ByteArray.empty, ()), ())
 else
  (f12 k a3 0 (wr .i64 ((a2.length : Int) - 1))).bind fun x5 =>
  bif (!x5.1.1) then
   some ((ByteArray.empty, ()), ())
  else
   (f13 k (a1, a2) a3).bind fun x6 =>
   some ((x6.1.1, ()), ())
def ef5 : ab := ee 5 [(0, .agg k2), (1, .c (.int .i64))] [(0, .c .str)] fun k v => f5 k v.1.1.1 v.1.1.2.1 v.1.2.1
def gf5 (k : Nat) : Full := fl k 19 [Ks, xd, I6]
theorem sf5 : SN ef5 := so Tryz.func5 gf5 (fun _ j => ⟨N9.at j, AO.at j, M2.at j, trivial⟩) (fun _ _ => by kernel_rfl)
def f17 (k : Nat) (a1 a2 a3 : Int) : Option (T2 × Unit) :=
 bif (decide (a1 ≥ a2)) then
  some (((decide (a1 ≤ a3)), ()), ())
 else
  some ((false, ()), ())
def th : ab := ee 17 [(0, .c (.int .i64)), (1, .c (.int .i64)), (2, .c (.int .i64))] [(0, .c .bool)] fun k v => f17 k v.1.1 v.1.2.1 v.1.2.2.1
def MP (k : Nat) : Full := fl k 15 []
theorem wI : SN th := so Tryz.func17 MP (fun _ _ => trivial) (fun _ _ => by kernel_rfl)
def f74 (k : Nat) (a1 a2 a3 : Int) : Option (T2 × Unit) :=
 (f17 k a1 (-131072) 131072).bind fun x4 =>
 bif x4.1.1 then
  (f17 k a2 (-131072) 131072).bind fun x5 =>
  bif x5.1.1 then
   (f17 k a3 0 10).bind fun x6 =>
   bif x6.1.1 then
    bif (a3 == 0) then
     some ((true, ()), ())
    else
     bif ((dN .i64 a1 1) == 1) then
      some ((true, ()), ())
     else
      some ((((dN .i64 a2 1) == 1), ()), ())
   else
    some ((false, ()), ())
  else
   some ((false, ()), ())
 else
  some ((false, ()), ())
def I4 : ab := ee 74 [(0, .agg k0)] [(0, .c .bool)] fun k v => f74 k v.1.1.1 v.1.1.2.1 v.1.1.2.2.1
def Of (k : Nat) : Full := fl k 33 [th]
theorem ME : SN I4 := so Tryz.func74 Of (fun _ j => ⟨wI.at j, trivial⟩) (fun _ _ => by kernel_rfl)
def f41 (k : Nat) (a1 a2 a3 a4 a5 a6 : Int) : Option (T2 × Unit) :=
 (f74 k a1 a2 a3).bind fun x3 =>
 bif x3.1.1 then
  (f74 k a4 a5 a6).bind fun x4 =>
  some ((x4.1.1, ()), ())
 else
  some ((false, ()), ())
def FX : ab := ee 41 [(0, .agg k1)] [(0, .c .bool)] fun k v => f41 k v.1.1.1 v.1.1.2.1 v.1.1.2.2.1 v.1.1.2.2.2.1 v.1.1.2.2.2.2.1 v.1.1.2.2.2.2.2.1
def NR (k : Nat) : Full := fl k 11 [I4]
theorem J1 : SN FX := so Tryz.func41 NR (fun _ j => ⟨ME.at j, trivial⟩) (fun _ _ => by kernel_rfl)
def f94 (k : Nat) (a1 a2 a3 : Int) : Option (T13 × Unit) :=
 some ((((wr .i64 (0 - a1)), (wr .i64 (0 - a2)), a3, ()), ()), ())
def E4 : ab := ee 94 [(0, .agg k0)] [(0, .agg k0)] fun k v => f94 k v.1.1.1 v.1.1.2.1 v.1.1.2.2.1
def Og (k : Nat) : Full := fl k 12 []
theorem Ju : SN E4 := so Tryz.func94 Og (fun _ _ => trivial) (fun _ _ => by kernel_rfl)
def dG {ρ : Type} (k : Nat) : Nat → Int → Int → Int → Int → Int → Int → ((((Unit × Unit × Unit) × T14) → Option ρ) × Unit) → Option ρ
 | 0, _, _, _, _, _, _, _ => none
 | j + 1, v9, v10, v11, v12, v13, v14, nx =>
  bif (decide (v11 > 0)) then
   bif ((dN .i64 v9 1) == 0) then
    bif ((dN .i64 v10 1) == 0) then
     bif ((wr .i64 (v9.tdiv 2)) == 0) then
      bif ((wr .i64 (v10.tdiv 2)) == 0) then
       dG k j (wr .i64 (v9.tdiv 2)) (wr .i64 (v10.tdiv 2)) 0 v12 v13 v14 nx
      else
       dG k j (wr .i64 (v9.tdiv 2)) (wr .i64 (v10.tdiv 2)) (wr .i64 (v11 - 1)) v12 v13 v14 nx
     else
      dG k j (wr .i64 (v9.tdiv 2)) (wr .i64 (v10.tdiv 2)) (wr .i64 (v11 - 1)) v12 v13 v14 nx
    else
     nx.1 (((), (), ()), ((v9, v10, v11, ()), (v12, v13, v14, ()), ()))
   else
    nx.1 (((), (), ()), ((v9, v10, v11, ()), (v12, v13, v14, ()), ()))
  else
   nx.1 (((), (), ()), ((v9, v10, v11, ()), (v12, v13, v14, ()), ()))
def xQ (k : Nat) : Cut := ⟨⟨[(1, .c (.box 5000000)), (2, .c (.box 5000001))], [(5000000, .box 53 k0), (5000001, .box 53 k0)], []⟩, [(.exit 0, ⟨[(1, .c (.box 5000000)), (2, .c (.box 5000001))], [(5000000, .box 53 k0), (5000001, .box 53 k0)], []⟩)], fun ρ j v nx => dG k j v.2.1.1 v.2.1.2.1 v.2.1.2.2.1 v.2.2.1.1 v.2.2.1.2.1 v.2.2.1.2.2.1 nx⟩
def f139 (k : Nat) (a1 a2 a3 : Int) : Option (T13 × Unit) :=
 dG k k a1 a2 a3 0 0 0
  (fun x8 : ((Unit × Unit × Unit) × T14) =>
   some (((x8.2.1.1, x8.2.1.2.1, x8.2.1.2.2.1, ()), ()), ()),
  ())
def vg : ab := ee 139 [(0, .agg k0)] [(0, .agg k0)] fun k v => f139 k v.1.1.1 v.1.1.2.1 v.1.1.2.2.1
def GD (k : Nat) : Full := fl k 40 [] (cuts := [(1, (xQ k))])
theorem EX (k : Nat) : aO (GD k) (xQ k) (ax Tryz.f139 1) := fun ρ v nx => ⟨by kernel_rfl, fun j => by kernel_rfl⟩
theorem AU : SN vg := so Tryz.func139 GD (fun _ _ => trivial) (fun _ _ => by kernel_rfl) (hob := fun k => Eq.mpr (by kernel_rfl) (And.intro (EX k) (trivial)))
def f114 (k : Nat) (a1 a2 a3 a4 a5 a6 : Int) : Option (T13 × Unit) :=
 let x8 : Int := (wr .i64 ((bif decide (a6 > a3) then a6 else a3) - a3))
 bif decide (x8 < 0) then
  none
 else
  let x9 : Int := (wr .i64 ((bif decide (a6 > a3) then a6 else a3) - a6))
  bif decide (x9 < 0) then
   none
  else
   let x10 : Int := (wr .i64 ((cP .i64 a1 x8) + (cP .i64 a4 x9)))
   let x11 : Int := (wr .i64 ((bif decide (a6 > a3) then a6 else a3) - a3))
   bif decide (x11 < 0) then
    none
   else
    let x12 : Int := (wr .i64 ((bif decide (a6 > a3) then a6 else a3) - a6))
    bif decide (x12 < 0) then
     none
    else
     let x13 : Int := (wr .i64 ((cP .i64 a2 x11) + (cP .i64 a5 x12)))
     (f139 k x10 x13 (bif decide (a6 > a3) then a6 else a3)).bind fun x14 =>
     some (((x14.1.1.1, x14.1.1.2.1, x14.1.1.2.2.1, ()), ()), ())
def AC : ab := ee 114 [(0, .agg k0), (1, .agg k0)] [(0, .agg k0)] fun k v => f114 k v.1.1.1 v.1.1.2.1 v.1.1.2.2.1 v.1.2.1.1 v.1.2.1.2.1 v.1.2.1.2.2.1
def LH (k : Nat) : Full := fl k 44 [vg] (touch := [(2, [(33, [4])])])
theorem GI : SN AC := so Tryz.func114 LH (fun _ j => ⟨AU.at j, trivial⟩) (fun _ _ => by kernel_rfl)
def f112 (k : Nat) (a1 a2 a3 a4 a5 a6 : Int) : Option (T13 × Unit) :=
 (f94 k a4 a5 a6).bind fun x3 =>
 (f114 k a1 a2 a3 x3.1.1.1 x3.1.1.2.1 x3.1.1.2.2.1).bind fun x4 =>
 some (((x4.1.1.1, x4.1.1.2.1, x4.1.1.2.2.1, ()), ()), ())
def pn : ab := ee 112 [(0, .agg k0), (1, .agg k0)] [(0, .agg k0)] fun k v => f112 k v.1.1.1 v.1.1.2.1 v.1.1.2.2.1 v.1.2.1.1 v.1.2.1.2.1 v.1.2.1.2.2.1
def LM (k : Nat) : Full := fl k 9 [E4, AC] (touch := [(1, [(4, [4])])])
theorem qE : SN pn := so Tryz.func112 LM (fun _ j => ⟨Ju.at j, GI.at j, trivial⟩) (fun _ _ => by kernel_rfl)
def f115 (k : Nat) (a1 : Int) : Option (T0 × Unit) :=
 let x2 : Int := (bif decide ((bif decide (a1 < 1) then a1 else 1) > (-1)) then (bif decide (a1 < 1) then a1 else 1) else (-1))
 some ((x2, ()), ())
def GP : ab := ee 115 [(0, .c (.int .i64))] [(0, .c (.int .i64))] fun k v => f115 k v.1.1
def KI (k : Nat) : Full := fl k 6 []
theorem Lu : SN GP := so Tryz.func115 KI (fun _ _ => trivial) (fun _ _ => by kernel_rfl)
def f96 (k : Nat) (a1 : Int) : Option (T0 × Unit) :=
 let x2 : Int := (bif decide ((wr .i64 (0 - a1)) > a1) then (wr .i64 (0 - a1)) else a1)
 some ((x2, ()), ())
def En : ab := ee 96 [(0, .c (.int .i64))] [(0, .c (.int .i64))] fun k v => f96 k v.1.1
def Mi (k : Nat) : Full := fl k 7 []
theorem Kh : SN En := so Tryz.func96 Mi (fun _ _ => trivial) (fun _ _ => by kernel_rfl)
def f140 (k : Nat) (a1 a2 : Int) : Option T16 :=
 let x8 : Int := (wr .u64 ((dN .u64 a1 4294967295) * (dN .u64 a2 4294967295)))
 let x9 : Int := (wr .u64 ((fm .u64 a1 32) * (dN .u64 a2 4294967295)))
 let x10 : Int := (dN .u64 (wr .u64 (x9 + (fm .u64 x8 32))) 4294967295)
 let x11 : Int := (fm .u64 (wr .u64 (x9 + (fm .u64 x8 32))) 32)
 let x12 : Int := (wr .u64 ((dN .u64 a1 4294967295) * (fm .u64 a2 32)))
 let x13 : Int := (wr .u64 ((fm .u64 a1 32) * (fm .u64 a2 32)))
 let x14 : Int := (wr .u64 ((wr .u64 (x13 + x11)) + (fm .u64 (wr .u64 (x10 + x12)) 32)))
 some ((x14, (wr .u64 (a1 * a2)), ()), ())
def Gq : ab := ee 140 [(0, .c (.int .u64)), (1, .c (.int .u64))] [(0, .c (.int .u64)), (1, .c (.int .u64))] fun k v => f140 k v.1.1 v.1.2.1
def Lf (k : Nat) : Full := fl k 51 []
theorem K8 : SN Gq := so Tryz.func140 Lf (fun _ _ => trivial) (fun _ _ => by kernel_rfl)
def f116 (k : Nat) (a1 a2 : Int) : Option (T2 × Unit) :=
 (f96 k a1).bind fun x8 =>
 (f96 k a1).bind fun x9 =>
 (f140 k (wr .u64 x8.1.1) (wr .u64 x9.1.1)).bind fun x10 =>
 (f96 k a2).bind fun x11 =>
 (f96 k a2).bind fun x12 =>
 (f140 k (wr .u64 x11.1.1) (wr .u64 x12.1.1)).bind fun x13 =>
 let x14 : Int := (ior .u64 (cP .u64 x13.1.1 1) (fm .u64 x13.1.2.1 63))
 bif (decide (x10.1.1 > x14)) then
  some ((true, ()), ())
 else
  bif (x10.1.1 == x14) then
   let x15 : Bool := (decide (x10.1.2.1 > (cP .u64 x13.1.2.1 1)))
   some ((x15, ()), ())
  else
   some ((false, ()), ())
def Ge : ab := ee 116 [(0, .c (.int .i64)), (1, .c (.int .i64))] [(0, .c .bool)] fun k v => f116 k v.1.1 v.1.2.1
def KX (k : Nat) : Full := fl k 49 [En, Gq]
theorem KV : SN Ge := so Tryz.func116 KX (fun _ j => ⟨Kh.at j, K8.at j, trivial⟩) (fun _ _ => by kernel_rfl)
def f79 (k : Nat) (a1 a2 a3 : Int) : Option (T0 × Unit) :=
 (f115 k a1).bind fun x4 =>
 (f115 k a2).bind fun x5 =>
 bif (x4.1.1 == x5.1.1) then
  some ((x4.1.1, ()), ())
 else
  bif (x5.1.1 == 0) then
   some ((x4.1.1, ()), ())
  else
   bif (x4.1.1 == 0) then
    some ((x5.1.1, ()), ())
   else
    (f116 k a1 a2).bind fun x6 =>
    bif (!x6.1.1) then
     some ((x5.1.1, ()), ())
    else
     some ((x4.1.1, ()), ())
def sL : ab := ee 79 [(0, .agg k0)] [(0, .c (.int .i64))] fun k v => f79 k v.1.1.1 v.1.1.2.1 v.1.1.2.2.1
def Oa (k : Nat) : Full := fl k 33 [GP, Ge]
theorem vC : SN sL := so Tryz.func79 Oa (fun _ j => ⟨Lu.at j, KV.at j, trivial⟩) (fun _ _ => by kernel_rfl)
def f75 (k : Nat) (a1 a2 a3 a4 a5 a6 : Int) : Option (T0 × Unit) :=
 (f112 k a1 a2 a3 a4 a5 a6).bind fun x3 =>
 (f79 k x3.1.1.1 x3.1.1.2.1 x3.1.1.2.2.1).bind fun x4 =>
 some ((x4.1.1, ()), ())
def Bg : ab := ee 75 [(0, .agg k0), (1, .agg k0)] [(0, .c (.int .i64))] fun k v => f75 k v.1.1.1 v.1.1.2.1 v.1.1.2.2.1 v.1.2.1.1 v.1.2.1.2.1 v.1.2.1.2.2.1
def NM (k : Nat) : Full := fl k 9 [pn, sL]
theorem ES : SN Bg := so Tryz.func75 NM (fun _ j => ⟨qE.at j, vC.at j, trivial⟩) (fun _ _ => by kernel_rfl)
def f42 (k : Nat) (a1 a2 a3 a4 a5 a6 a7 a8 a9 a10 a11 a12 : Int) : Option (T0 × Unit) :=
 (f75 k a1 a2 a3 a7 a8 a9).bind fun x3 =>
 bif (x3.1.1 != 0) then
  some ((x3.1.1, ()), ())
 else
  (f75 k a4 a5 a6 a10 a11 a12).bind fun x4 =>
  some ((x4.1.1, ()), ())
def EG : ab := ee 42 [(0, .agg k1), (1, .agg k1)] [(0, .c (.int .i64))] fun k v => f42 k v.1.1.1 v.1.1.2.1 v.1.1.2.2.1 v.1.1.2.2.2.1 v.1.1.2.2.2.2.1 v.1.1.2.2.2.2.2.1 v.1.2.1.1 v.1.2.1.2.1 v.1.2.1.2.2.1 v.1.2.1.2.2.2.1 v.1.2.1.2.2.2.2.1 v.1.2.1.2.2.2.2.2.1
def L6 (k : Nat) : Full := fl k 19 [Bg]
theorem Ky : SN EG := so Tryz.func42 L6 (fun _ j => ⟨ES.at j, trivial⟩) (fun _ _ => by kernel_rfl)
def kq {ρ : Type} (k : Nat) : Nat → T5 → Int → Int → T5 → (List T4) → (((T1 × ((T5 × (List T4) × Unit) × Unit)) → Option ρ) × ((T2 × Unit) → Option ρ) × Unit) → Option ρ
 | 0, _, _, _, _, _, _ => none
 | j + 1, v14, v15, v16, v17, v18, nx =>
  bif (decide (v16 < v15)) then
   (ak v14 v16).bind fun x19 =>
   (f41 k x19.1.1 x19.1.2.1 x19.1.2.2 x19.2.1 x19.2.2.1 x19.2.2.2).bind fun x20 =>
   bif (!x20.1.1) then
    nx.2.1 ((false, ()), ())
   else
    bif (decide (v16 > 0)) then
     (ak v17 (wr .i64 (v16 - 1))).bind fun x21 =>
     (f42 k x21.1.1 x21.1.2.1 x21.1.2.2 x21.2.1 x21.2.2.1 x21.2.2.2 x19.1.1 x19.1.2.1 x19.1.2.2 x19.2.1 x19.2.2.1 x19.2.2.2).bind fun x22 =>
     bif (decide (x22.1.1 ≥ 0)) then
      nx.2.1 ((false, ()), ())
     else
      kq k j v14 v15 (wr .i64 (v16 + 1)) v17 v18 nx
    else
     kq k j v14 v15 (wr .i64 (v16 + 1)) v17 v18 nx
  else
   nx.1 (((), ()), ((v17, v18, ()), ()))
def zm (k : Nat) : Cut := ⟨⟨[(1, .c (.box 5000000)), (6, .c (.sl (.pair u1 u1))), (7, .c (.int .i64)), (8, .c (.int .i64))], [(5000000, .box 31 k2)], []⟩, [(.exit 0, ⟨[(1, .c (.box 5000000))], [(5000000, .box 31 k2)], []⟩), (.ret, ⟨[(2, .c .bool)], [], []⟩)], fun ρ j v nx => kq k j v.1.2.1 v.1.2.2.1 v.1.2.2.2.1 v.2.1.1 v.2.1.2.1 nx⟩
def f26 (k : Nat) (a1 : T5) (a2 : (List T4)) : Option (T2 × Unit) :=
 kq k k a1 (a1.length : Int) 0 a1 a2
  (fun x12 : (T1 × ((T5 × (List T4) × Unit) × Unit)) =>
   some (((decide ((x12.2.1.1.length : Int) ≤ 40)), ()), ()),
  fun x13 : (T2 × Unit) =>
   some ((x13.1.1, ()), ()),
  ())
def JF : ab := ee 26 [(0, .agg k2)] [(0, .c .bool)] fun k v => f26 k v.1.1.1 v.1.1.2.1
def IL (k : Nat) : Full := fl k 36 [FX, EG] (cuts := [(2, (zm k))])
theorem HF (k : Nat) : aO (IL k) (zm k) (ax Tryz.f26 2) := fun ρ v nx => ⟨by kernel_rfl, fun j => by kernel_rfl⟩
theorem Ns : SN JF := so Tryz.func26 IL (fun _ j => ⟨J1.at j, Ky.at j, trivial⟩) (fun _ _ => by kernel_rfl) (hob := fun k => Eq.mpr (by kernel_rfl) (And.intro (HF k) (trivial)))
def f43 (k : Nat) (a1 : T5) : Option (T0 × Unit) :=
 some (((a1.length : Int), ()), ())
def FD : ab := ee 43 [(0, .c (.sl (.pair u1 u1)))] [(0, .c (.int .i64))] fun k v => f43 k v.1.1
def Ma (k : Nat) : Full := fl k 5 []
theorem Kg : SN FD := so Tryz.func43 Ma (fun _ _ => trivial) (fun _ _ => by kernel_rfl)
def f31 (k : Nat) (a1 : T5) (a2 : (List T4)) (a3 a4 a5 : Int) : Option T19 :=
 (ak a1 a3).bind fun x2 =>
 some (((x2.1.1, x2.1.2.1, x2.1.2.2, x2.2.1, x2.2.2.1, x2.2.2.2, ()), ()), ())
def wW : ab := ee 31 [(0, .agg k2), (1, .agg k0)] [(0, .agg k1)] fun k v => f31 k v.1.1.1 v.1.1.2.1 v.1.2.1.1 v.1.2.1.2.1 v.1.2.1.2.2.1
def MW (k : Nat) : Full := fl k 11 []
theorem Bx : SN wW := so Tryz.func31 MW (fun _ _ => trivial) (fun _ _ => by kernel_rfl)
def f32 (k : Nat) (a1 : T5) (a2 : (List T4)) (a3 a4 a5 : Int) : Option T19 :=
 (ak a1 a4).bind fun x2 =>
 some (((x2.1.1, x2.1.2.1, x2.1.2.2, x2.2.1, x2.2.2.1, x2.2.2.2, ()), ()), ())
def wm : ab := ee 32 [(0, .agg k2), (1, .agg k0)] [(0, .agg k1)] fun k v => f32 k v.1.1.1 v.1.1.2.1 v.1.2.1.1 v.1.2.1.2.1 v.1.2.1.2.2.1
def MX (k : Nat) : Full := fl k 11 []
theorem At : SN wm := so Tryz.func32 MX (fun _ _ => trivial) (fun _ _ => by kernel_rfl)
def f76 (k : Nat) (a1 a2 a3 a4 a5 a6 a7 a8 a9 a10 a11 a12 : Int) : Option T19 :=
 (f112 k a1 a2 a3 a7 a8 a9).bind fun x3 =>
 (f112 k a4 a5 a6 a10 a11 a12).bind fun x4 =>
 some (((x3.1.1.1, x3.1.1.2.1, x3.1.1.2.2.1, x4.1.1.1, x4.1.1.2.1, x4.1.1.2.2.1, ()), ()), ())
def Ay : ab := ee 76 [(0, .agg k1), (1, .agg k1)] [(0, .agg k1)] fun k v => f76 k v.1.1.1 v.1.1.2.1 v.1.1.2.2.1 v.1.1.2.2.2.1 v.1.1.2.2.2.2.1 v.1.1.2.2.2.2.2.1 v.1.2.1.1 v.1.2.1.2.1 v.1.2.1.2.2.1 v.1.2.1.2.2.2.1 v.1.2.1.2.2.2.2.1 v.1.2.1.2.2.2.2.2.1
def L8 (k : Nat) : Full := fl k 16 [pn] (touch := [(1, [(11, [4])])])
theorem Ep : SN Ay := so Tryz.func76 L8 (fun _ j => ⟨qE.at j, trivial⟩) (fun _ _ => by kernel_rfl)
def f59 (k : Nat) (a1 : Int) : Option T19 :=
 bif (decide (a1 ≥ 8)) then
  bif decide (0 ≤ (wr .i64 (a1 - 8))) && decide ((wr .i64 (a1 - 8)) < (8 : Int)) then
   (EL[(wr .i64 (a1 - 8)).toNat]?).bind fun x5 =>
   (f94 k x5.1.1 x5.1.2.1 x5.1.2.2).bind fun x6 =>
   (f94 k x5.2.1 x5.2.2.1 x5.2.2.2).bind fun x7 =>
   some (((x6.1.1.1, x6.1.1.2.1, x6.1.1.2.2.1, x7.1.1.1, x7.1.1.2.1, x7.1.1.2.2.1, ()), ()), ())
  else
   none
 else
  bif decide (0 ≤ a1) && decide (a1 < (8 : Int)) then
   (EL[a1.toNat]?).bind fun x8 =>
   some (((x8.1.1, x8.1.2.1, x8.1.2.2, x8.2.1, x8.2.2.1, x8.2.2.2, ()), ()), ())
  else
   none
def Ap : ab := ee 59 [(0, .c (.int .i64))] [(0, .agg k1)] fun k v => f59 k v.1.1
def M7 (k : Nat) : Full := fl k 20 [E4] (touch := [(3, [(7, [2])])])
theorem Fk : SN Ap := so Tryz.func59 M7 (fun _ j => ⟨Ju.at j, trivial⟩) (fun _ _ => by kernel_rfl)
def f113 (k : Nat) (a1 a2 a3 a4 a5 a6 : Int) : Option (T13 × Unit) :=
 let x4 : Int := (wr .i64 ((wr .i64 (a1 * a4)) + (wr .i64 ((wr .i64 (2 * a2)) * a5))))
 let x5 : Int := (wr .i64 ((wr .i64 (a1 * a5)) + (wr .i64 (a2 * a4))))
 (f139 k x4 x5 (wr .i64 (a3 + a6))).bind fun x6 =>
 some (((x6.1.1.1, x6.1.1.2.1, x6.1.1.2.2.1, ()), ()), ())
def rE : ab := ee 113 [(0, .agg k0), (1, .agg k0)] [(0, .agg k0)] fun k v => f113 k v.1.1.1 v.1.1.2.1 v.1.1.2.2.1 v.1.2.1.1 v.1.2.1.2.1 v.1.2.1.2.2.1
def KR (k : Nat) : Full := fl k 35 [vg]
theorem vc : SN rE := so Tryz.func113 KR (fun _ j => ⟨AU.at j, trivial⟩) (fun _ _ => by kernel_rfl)
def f77 (k : Nat) (a1 a2 a3 a4 a5 a6 a7 a8 a9 a10 a11 a12 : Int) : Option (T13 × Unit) :=
 (f113 k a1 a2 a3 a10 a11 a12).bind fun x4 =>
 (f113 k a4 a5 a6 a7 a8 a9).bind fun x5 =>
 (f112 k x4.1.1.1 x4.1.1.2.1 x4.1.1.2.2.1 x5.1.1.1 x5.1.1.2.1 x5.1.1.2.2.1).bind fun x6 =>
 some (((x6.1.1.1, x6.1.1.2.1, x6.1.1.2.2.1, ()), ()), ())
def Bz : ab := ee 77 [(0, .agg k1), (1, .agg k1)] [(0, .agg k0)] fun k v => f77 k v.1.1.1 v.1.1.2.1 v.1.1.2.2.1 v.1.1.2.2.2.1 v.1.1.2.2.2.2.1 v.1.1.2.2.2.2.2.1 v.1.2.1.1 v.1.2.1.2.1 v.1.2.1.2.2.1 v.1.2.1.2.2.2.1 v.1.2.1.2.2.2.2.1 v.1.2.1.2.2.2.2.2.1
def Od (k : Nat) : Full := fl k 16 [rE, pn] (touch := [(1, [(11, [4])])])
theorem EC : SN Bz := so Tryz.func77 Od (fun _ j => ⟨vc.at j, qE.at j, trivial⟩) (fun _ _ => by kernel_rfl)
def f78 (k : Nat) (a1 a2 a3 a4 a5 a6 a7 a8 a9 a10 a11 a12 : Int) : Option (T13 × Unit) :=
 (f113 k a1 a2 a3 a7 a8 a9).bind fun x4 =>
 (f113 k a4 a5 a6 a10 a11 a12).bind fun x5 =>
 (f114 k x4.1.1.1 x4.1.1.2.1 x4.1.1.2.2.1 x5.1.1.1 x5.1.1.2.1 x5.1.1.2.2.1).bind fun x6 =>
 some (((x6.1.1.1, x6.1.1.2.1, x6.1.1.2.2.1, ()), ()), ())
def sZ : ab := ee 78 [(0, .agg k1), (1, .agg k1)] [(0, .agg k0)] fun k v => f78 k v.1.1.1 v.1.1.2.1 v.1.1.2.2.1 v.1.1.2.2.2.1 v.1.1.2.2.2.2.1 v.1.1.2.2.2.2.2.1 v.1.2.1.1 v.1.2.1.2.1 v.1.2.1.2.2.1 v.1.2.1.2.2.2.1 v.1.2.1.2.2.2.2.1 v.1.2.1.2.2.2.2.2.1
def NK (k : Nat) : Full := fl k 16 [rE, AC] (touch := [(1, [(11, [4])])])
theorem wX : SN sZ := so Tryz.func78 NK (fun _ j => ⟨vc.at j, GI.at j, trivial⟩) (fun _ _ => by kernel_rfl)
def kX {ρ : Type} (k : Nat) : Nat → Int → Int → Int → Int → Int → Int → Int → ((T1 → Option ρ) × ((T0 × Unit) → Option ρ) × Unit) → Option ρ
 | 0, _, _, _, _, _, _, _, _ => none
 | j + 1, v19, v20, v21, v22, v23, v24, v25, nx =>
  bif (decide (v19 < 16)) then
   (f59 k v19).bind fun x26 =>
   (f77 k x26.1.1.1 x26.1.1.2.1 x26.1.1.2.2.1 x26.1.1.2.2.2.1 x26.1.1.2.2.2.2.1 x26.1.1.2.2.2.2.2.1 v20 v21 v22 v23 v24 v25).bind fun x27 =>
   let x28 : Bool := ((x27.1.1.1 == 0) && ((x27.1.1.2.1 == 0) && ((x27.1.1.2.2.1 == 0) && true)))
   bif x28 then
    (f78 k x26.1.1.1 x26.1.1.2.1 x26.1.1.2.2.1 x26.1.1.2.2.2.1 x26.1.1.2.2.2.2.1 x26.1.1.2.2.2.2.2.1 v20 v21 v22 v23 v24 v25).bind fun x29 =>
    (f79 k x29.1.1.1 x29.1.1.2.1 x29.1.1.2.2.1).bind fun x30 =>
    bif (decide (x30.1.1 > 0)) then
     nx.2.1 ((v19, ()), ())
    else
     kX k j (wr .i64 (v19 + 1)) v20 v21 v22 v23 v24 v25 nx
   else
    kX k j (wr .i64 (v19 + 1)) v20 v21 v22 v23 v24 v25 nx
  else
   nx.1 ((), ())
def Am (k : Nat) : Cut := ⟨⟨[(5, .c (.box 5000000)), (11, .c (.int .i64))], [(5000000, .box 55 k1)], []⟩, [(.exit 0, ⟨[], [], []⟩), (.ret, ⟨[(4, .c (.int .i64))], [], []⟩)], fun ρ j v nx => kX k j v.1.2.1 v.2.1.1 v.2.1.2.1 v.2.1.2.2.1 v.2.1.2.2.2.1 v.2.1.2.2.2.2.1 v.2.1.2.2.2.2.2.1 nx⟩
def f44 (k : Nat) (a1 a2 a3 a4 a5 a6 a7 a8 a9 a10 a11 a12 : Int) : Option (T0 × Unit) :=
 (f76 k a7 a8 a9 a10 a11 a12 a1 a2 a3 a4 a5 a6).bind fun x16 =>
 kX k k 0 x16.1.1.1 x16.1.1.2.1 x16.1.1.2.2.1 x16.1.1.2.2.2.1 x16.1.1.2.2.2.2.1 x16.1.1.2.2.2.2.2.1
  (fun x17 : T1 =>
   some (((-1), ()), ()),
  fun x18 : (T0 × Unit) =>
   some ((x18.1.1, ()), ()),
  ())
def sw : ab := ee 44 [(0, .agg k1), (1, .agg k1)] [(0, .c (.int .i64))] fun k v => f44 k v.1.1.1 v.1.1.2.1 v.1.1.2.2.1 v.1.1.2.2.2.1 v.1.1.2.2.2.2.1 v.1.1.2.2.2.2.2.1 v.1.2.1.1 v.1.2.1.2.1 v.1.2.1.2.2.1 v.1.2.1.2.2.2.1 v.1.2.1.2.2.2.2.1 v.1.2.1.2.2.2.2.2.1
def JU (k : Nat) : Full := fl k 30 [Ay, Ap, Bz, sZ, sL] (cuts := [(3, (Am k))])
theorem H5 (k : Nat) : aO (JU k) (Am k) (ax Tryz.f44 3) := fun ρ v nx => ⟨by kernel_rfl, fun j => by kernel_rfl⟩
theorem wv : SN sw := so Tryz.func44 JU (fun _ j => ⟨Ep.at j, Fk.at j, EC.at j, wX.at j, vC.at j, trivial⟩) (fun _ _ => by kernel_rfl) (hob := fun k => Eq.mpr (by kernel_rfl) (And.intro (H5 k) (trivial)))
def f80 (k : Nat) (a1 : Int) : Option (T2 × Unit) :=
 some (((a1 != a1), ()), ())
def IV : ab := ee 80 [(0, .c (.int .i64))] [(0, .c .bool)] fun k v => f80 k v.1.1
def Mj (k : Nat) : Full := fl k 6 []
theorem MQ : SN IV := so Tryz.func80 Mj (fun _ _ => trivial) (fun _ _ => by kernel_rfl)
def f46 (k : Nat) (a1 a2 : Int) : Option (T0 × Unit) :=
 (f80 k a1).bind fun x3 =>
 (f80 k a2).bind fun x4 =>
 bif x3.1.1 then
  bif x4.1.1 then
   some ((0, ()), ())
  else
   some (((-1), ()), ())
 else
  bif x4.1.1 then
   some ((1, ()), ())
  else
   bif (decide (a1 < a2)) then
    some (((-1), ()), ())
   else
    bif (decide (a1 > a2)) then
     some ((1, ()), ())
    else
     some ((0, ()), ())
def JW : ab := ee 46 [(0, .c (.int .i64)), (1, .c (.int .i64))] [(0, .c (.int .i64))] fun k v => f46 k v.1.1 v.1.2.1
def NV (k : Nat) : Full := fl k 20 [IV]
theorem MR : SN JW := so Tryz.func46 NV (fun _ j => ⟨MQ.at j, trivial⟩) (fun _ _ => by kernel_rfl)
def lQ {ρ : Type} (k : Nat) : Nat → Int → (List Int) → Int → Int → (((T0 × Unit) → Option ρ) × ((T0 × Unit) → Option ρ) × Unit) → Option ρ
 | 0, _, _, _, _, _ => none
 | j + 1, v10, v11, v12, v13, nx =>
  bif (decide (v13 < v12)) then
   (ak v11 v13).bind fun x14 =>
   bif (x14 != v10) then
    nx.2.1 ((x14, ()), ())
   else
    lQ k j v10 v11 v12 (wr .i64 (v13 + 1)) nx
  else
   nx.1 ((v10, ()), ())
def y9 (k : Nat) : Cut := ⟨⟨[(3, .c (.int .i64)), (6, .c (.sl (.int .i64))), (7, .c (.int .i64)), (8, .c (.int .i64))], [], []⟩, [(.exit 0, ⟨[(3, .c (.int .i64))], [], []⟩), (.ret, ⟨[(2, .c (.int .i64))], [], []⟩)], fun ρ j v nx => lQ k j v.1.1 v.1.2.1 v.1.2.2.1 v.1.2.2.2.1 nx⟩
def f45 (k : Nat) (a1 : (List Int)) : Option (T0 × Unit) :=
 lQ k k 0 a1 (a1.length : Int) 0
  (fun x8 : (T0 × Unit) =>
   some ((x8.1.1, ()), ()),
  fun x9 : (T0 × Unit) =>
   some ((x9.1.1, ()), ()),
  ())
def JY : ab := ee 45 [(0, .c (.sl (.int .i64)))] [(0, .c (.int .i64))] fun k v => f45 k v.1.1
def JG (k : Nat) : Full := fl k 18 [] (cuts := [(3, (y9 k))])
theorem Ia (k : Nat) : aO (JG k) (y9 k) (ax Tryz.f45 3) := fun ρ v nx => ⟨by kernel_rfl, fun j => by kernel_rfl⟩
theorem NN : SN JY := so Tryz.func45 JG (fun _ _ => trivial) (fun _ _ => by kernel_rfl) (hob := fun k => Eq.mpr (by kernel_rfl) (And.intro (Ia k) (trivial)))
def kJ {ρ : Type} (k : Nat) : Nat → Int → (List T4) → Int → Int → T5 → (List T4) → (((T1 × ((T5 × (List T4) × Unit) × Unit)) → Option ρ) × ((T2 × Unit) → Option ρ) × Unit) → Option ρ
 | 0, _, _, _, _, _, _, _ => none
 | j + 1, v31, v32, v33, v34, v35, v36, nx =>
  bif (decide (v34 < v33)) then
   (ak v32 v34).bind fun x37 =>
   (f17 k x37.1 0 (wr .i64 (v31 - 1))).bind fun x44 =>
   bif (!x44.1.1) then
    nx.2.1 ((false, ()), ())
   else
    (f17 k x37.2.1 (wr .i64 (x37.1 + 1)) (wr .i64 (v31 - 1))).bind fun x45 =>
    bif (!x45.1.1) then
     nx.2.1 ((false, ()), ())
    else
     (f17 k x37.2.2 1 4).bind fun x46 =>
     bif (!x46.1.1) then
      nx.2.1 ((false, ()), ())
     else
      (f31 k v35 v36 x37.1 x37.2.1 x37.2.2).bind fun x47 =>
      (f32 k v35 v36 x37.1 x37.2.1 x37.2.2).bind fun x48 =>
      (f44 k x47.1.1.1 x47.1.1.2.1 x47.1.1.2.2.1 x47.1.1.2.2.2.1 x47.1.1.2.2.2.2.1 x47.1.1.2.2.2.2.2.1 x48.1.1.1 x48.1.1.2.1 x48.1.1.2.2.1 x48.1.1.2.2.2.1 x48.1.1.2.2.2.2.1 x48.1.1.2.2.2.2.2.1).bind fun x49 =>
      bif (decide (x49.1.1 < 0)) then
       nx.2.1 ((false, ()), ())
      else
       bif (decide (v34 > 0)) then
        (ak v36 (wr .i64 (v34 - 1))).bind fun x50 =>
        (f46 k x50.1 x37.1).bind fun x51 =>
        (ak v36 (wr .i64 (v34 - 1))).bind fun x52 =>
        (f46 k x52.2.1 x37.2.1).bind fun x53 =>
        (f45 k ([x51.1.1, x53.1.1])).bind fun x54 =>
        bif (decide (x54.1.1 ≥ 0)) then
         nx.2.1 ((false, ()), ())
        else
         kJ k j v31 v32 v33 (wr .i64 (v34 + 1)) v35 v36 nx
       else
        kJ k j v31 v32 v33 (wr .i64 (v34 + 1)) v35 v36 nx
  else
   nx.1 (((), ()), ((v35, v36, ()), ()))
def yL (k : Nat) : Cut := ⟨⟨[(1, .c (.box 5000000)), (3, .c (.int .i64)), (10, .c (.sl u1)), (11, .c (.int .i64)), (12, .c (.int .i64))], [(5000000, .box 31 k2)], []⟩, [(.exit 0, ⟨[(1, .c (.box 5000000))], [(5000000, .box 31 k2)], []⟩), (.ret, ⟨[(2, .c .bool)], [], []⟩)], fun ρ j v nx => kJ k j v.1.2.1 v.1.2.2.1 v.1.2.2.2.1 v.1.2.2.2.2.1 v.2.1.1 v.2.1.2.1 nx⟩
def f27 (k : Nat) (a1 : T5) (a2 : (List T4)) : Option (T2 × Unit) :=
 (f43 k a1).bind fun x28 =>
 kJ k k x28.1.1 a2 (a2.length : Int) 0 a1 a2
  (fun x29 : (T1 × ((T5 × (List T4) × Unit) × Unit)) =>
   some (((decide ((x29.2.1.2.1.length : Int) ≤ 70)), ()), ()),
  fun x30 : (T2 × Unit) =>
   some ((x30.1.1, ()), ()),
  ())
def Ji : ab := ee 27 [(0, .agg k2)] [(0, .c .bool)] fun k v => f27 k v.1.1.1 v.1.1.2.1
def Kt (k : Nat) : Full := fl k 82 [FD, th, wW, wm, sw, JW, JY] (cuts := [(3, (yL k))])
theorem HB (k : Nat) : aO (Kt k) (yL k) (ax Tryz.f27 3) := fun ρ v nx => ⟨by kernel_rfl, fun j => by kernel_rfl⟩
theorem Mr : SN Ji := so Tryz.func27 Kt (fun _ j => ⟨Kg.at j, wI.at j, Bx.at j, At.at j, wv.at j, MR.at j, NN.at j, trivial⟩) (fun _ _ => by kernel_rfl) (hob := fun k => Eq.mpr (by kernel_rfl) (And.intro (HB k) (trivial)))
def f55 (k : Nat) (a1 a2 a3 a4 a5 a6 a7 a8 a9 a10 a11 a12 a13 a14 a15 a16 a17 a18 : Int) : Option (T0 × Unit) :=
 (f76 k a7 a8 a9 a10 a11 a12 a1 a2 a3 a4 a5 a6).bind fun x5 =>
 (f76 k a13 a14 a15 a16 a17 a18 a1 a2 a3 a4 a5 a6).bind fun x6 =>
 (f77 k x5.1.1.1 x5.1.1.2.1 x5.1.1.2.2.1 x5.1.1.2.2.2.1 x5.1.1.2.2.2.2.1 x5.1.1.2.2.2.2.2.1 x6.1.1.1 x6.1.1.2.1 x6.1.1.2.2.1 x6.1.1.2.2.2.1 x6.1.1.2.2.2.2.1 x6.1.1.2.2.2.2.2.1).bind fun x7 =>
 (f79 k x7.1.1.1 x7.1.1.2.1 x7.1.1.2.2.1).bind fun x8 =>
 some ((x8.1.1, ()), ())
def Ba : ab := ee 55 [(0, .agg k1), (1, .agg k1), (2, .agg k1)] [(0, .c (.int .i64))] fun k v => f55 k v.1.1.1 v.1.1.2.1 v.1.1.2.2.1 v.1.1.2.2.2.1 v.1.1.2.2.2.2.1 v.1.1.2.2.2.2.2.1 v.1.2.1.1 v.1.2.1.2.1 v.1.2.1.2.2.1 v.1.2.1.2.2.2.1 v.1.2.1.2.2.2.2.1 v.1.2.1.2.2.2.2.2.1 v.1.2.2.1.1 v.1.2.2.1.2.1 v.1.2.2.1.2.2.1 v.1.2.2.1.2.2.2.1 v.1.2.2.1.2.2.2.2.1 v.1.2.2.1.2.2.2.2.2.1
def Mb (k : Nat) : Full := fl k 15 [Ay, Bz, sL]
theorem EA : SN Ba := so Tryz.func55 Mb (fun _ j => ⟨Ep.at j, EC.at j, vC.at j, trivial⟩) (fun _ _ => by kernel_rfl)
def f82 (k : Nat) (a1 a2 a3 a4 a5 a6 a7 a8 a9 a10 a11 a12 a13 a14 a15 a16 a17 a18 : Int) : Option (T2 × Unit) :=
 (f55 k a1 a2 a3 a4 a5 a6 a7 a8 a9 a10 a11 a12 a13 a14 a15 a16 a17 a18).bind fun x6 =>
 bif (x6.1.1 == 0) then
  (f76 k a13 a14 a15 a16 a17 a18 a1 a2 a3 a4 a5 a6).bind fun x7 =>
  (f76 k a13 a14 a15 a16 a17 a18 a7 a8 a9 a10 a11 a12).bind fun x8 =>
  (f78 k x7.1.1.1 x7.1.1.2.1 x7.1.1.2.2.1 x7.1.1.2.2.2.1 x7.1.1.2.2.2.2.1 x7.1.1.2.2.2.2.2.1 x8.1.1.1 x8.1.1.2.1 x8.1.1.2.2.1 x8.1.1.2.2.2.1 x8.1.1.2.2.2.2.1 x8.1.1.2.2.2.2.2.1).bind fun x9 =>
  (f79 k x9.1.1.1 x9.1.1.2.1 x9.1.1.2.2.1).bind fun x10 =>
  some (((decide (x10.1.1 ≤ 0)), ()), ())
 else
  some ((false, ()), ())
def EM : ab := ee 82 [(0, .agg k1), (1, .agg k1), (2, .agg k1)] [(0, .c .bool)] fun k v => f82 k v.1.1.1 v.1.1.2.1 v.1.1.2.2.1 v.1.1.2.2.2.1 v.1.1.2.2.2.2.1 v.1.1.2.2.2.2.2.1 v.1.2.1.1 v.1.2.1.2.1 v.1.2.1.2.2.1 v.1.2.1.2.2.2.1 v.1.2.1.2.2.2.2.1 v.1.2.1.2.2.2.2.2.1 v.1.2.2.1.1 v.1.2.2.1.2.1 v.1.2.2.1.2.2.1 v.1.2.2.1.2.2.2.1 v.1.2.2.1.2.2.2.2.1 v.1.2.2.1.2.2.2.2.2.1
def Mu (k : Nat) : Full := fl k 23 [Ba, Ay, sZ, sL]
theorem IZ : SN EM := so Tryz.func82 Mu (fun _ j => ⟨EA.at j, Ep.at j, wX.at j, vC.at j, trivial⟩) (fun _ _ => by kernel_rfl)
def f83 (k : Nat) (a1 a2 a3 a4 a5 a6 a7 a8 a9 a10 a11 a12 a13 a14 a15 a16 a17 a18 a19 a20 a21 a22 a23 a24 : Int) : Option (T2 × Unit) :=
 (f82 k a1 a2 a3 a4 a5 a6 a7 a8 a9 a10 a11 a12 a13 a14 a15 a16 a17 a18).bind fun x17 =>
 bif x17.1.1 then
  some ((true, ()), ())
 else
  (f82 k a1 a2 a3 a4 a5 a6 a7 a8 a9 a10 a11 a12 a19 a20 a21 a22 a23 a24).bind fun x18 =>
  bif x18.1.1 then
   some ((true, ()), ())
  else
   (f82 k a13 a14 a15 a16 a17 a18 a19 a20 a21 a22 a23 a24 a1 a2 a3 a4 a5 a6).bind fun x19 =>
   bif x19.1.1 then
    some ((true, ()), ())
   else
    (f82 k a13 a14 a15 a16 a17 a18 a19 a20 a21 a22 a23 a24 a7 a8 a9 a10 a11 a12).bind fun x20 =>
    bif x20.1.1 then
     some ((true, ()), ())
    else
     (f55 k a1 a2 a3 a4 a5 a6 a7 a8 a9 a10 a11 a12 a13 a14 a15 a16 a17 a18).bind fun x21 =>
     (f55 k a1 a2 a3 a4 a5 a6 a7 a8 a9 a10 a11 a12 a19 a20 a21 a22 a23 a24).bind fun x22 =>
     bif (decide ((wr .i64 (x21.1.1 * x22.1.1)) < 0)) then
      (f55 k a13 a14 a15 a16 a17 a18 a19 a20 a21 a22 a23 a24 a1 a2 a3 a4 a5 a6).bind fun x23 =>
      (f55 k a13 a14 a15 a16 a17 a18 a19 a20 a21 a22 a23 a24 a7 a8 a9 a10 a11 a12).bind fun x24 =>
      some (((decide ((wr .i64 (x23.1.1 * x24.1.1)) < 0)), ()), ())
     else
      some ((false, ()), ())
def I2 : ab := ee 83 [(0, .agg k1), (1, .agg k1), (2, .agg k1), (3, .agg k1)] [(0, .c .bool)] fun k v => f83 k v.1.1.1 v.1.1.2.1 v.1.1.2.2.1 v.1.1.2.2.2.1 v.1.1.2.2.2.2.1 v.1.1.2.2.2.2.2.1 v.1.2.1.1 v.1.2.1.2.1 v.1.2.1.2.2.1 v.1.2.1.2.2.2.1 v.1.2.1.2.2.2.2.1 v.1.2.1.2.2.2.2.2.1 v.1.2.2.1.1 v.1.2.2.1.2.1 v.1.2.2.1.2.2.1 v.1.2.2.1.2.2.2.1 v.1.2.2.1.2.2.2.2.1 v.1.2.2.1.2.2.2.2.2.1 v.1.2.2.2.1.1 v.1.2.2.2.1.2.1 v.1.2.2.2.1.2.2.1 v.1.2.2.2.1.2.2.2.1 v.1.2.2.2.1.2.2.2.2.1 v.1.2.2.2.1.2.2.2.2.2.1
def Mc (k : Nat) : Full := fl k 53 [EM, Ba]
theorem MI : SN I2 := so Tryz.func83 Mc (fun _ j => ⟨IZ.at j, EA.at j, trivial⟩) (fun _ _ => by kernel_rfl)
def f49 (k : Nat) (a1 : T5) (a2 : (List T4)) (a3 a4 a5 a6 a7 a8 : Int) : Option (T2 × Unit) :=
 (f31 k a1 a2 a3 a4 a5).bind fun x14 =>
 (f32 k a1 a2 a3 a4 a5).bind fun x15 =>
 (f31 k a1 a2 a6 a7 a8).bind fun x16 =>
 (f32 k a1 a2 a6 a7 a8).bind fun x17 =>
 bif (a3 == a6) then
  (f82 k x14.1.1.1 x14.1.1.2.1 x14.1.1.2.2.1 x14.1.1.2.2.2.1 x14.1.1.2.2.2.2.1 x14.1.1.2.2.2.2.2.1 x15.1.1.1 x15.1.1.2.1 x15.1.1.2.2.1 x15.1.1.2.2.2.1 x15.1.1.2.2.2.2.1 x15.1.1.2.2.2.2.2.1 x17.1.1.1 x17.1.1.2.1 x17.1.1.2.2.1 x17.1.1.2.2.2.1 x17.1.1.2.2.2.2.1 x17.1.1.2.2.2.2.2.1).bind fun x18 =>
  bif (!x18.1.1) then
   (f82 k x16.1.1.1 x16.1.1.2.1 x16.1.1.2.2.1 x16.1.1.2.2.2.1 x16.1.1.2.2.2.2.1 x16.1.1.2.2.2.2.2.1 x17.1.1.1 x17.1.1.2.1 x17.1.1.2.2.1 x17.1.1.2.2.2.1 x17.1.1.2.2.2.2.1 x17.1.1.2.2.2.2.2.1 x15.1.1.1 x15.1.1.2.1 x15.1.1.2.2.1 x15.1.1.2.2.2.1 x15.1.1.2.2.2.2.1 x15.1.1.2.2.2.2.2.1).bind fun x19 =>
   some (((!x19.1.1), ()), ())
  else
   some ((false, ()), ())
 else
  bif (a4 == a7) then
   (f82 k x14.1.1.1 x14.1.1.2.1 x14.1.1.2.2.1 x14.1.1.2.2.2.1 x14.1.1.2.2.2.2.1 x14.1.1.2.2.2.2.2.1 x15.1.1.1 x15.1.1.2.1 x15.1.1.2.2.1 x15.1.1.2.2.2.1 x15.1.1.2.2.2.2.1 x15.1.1.2.2.2.2.2.1 x16.1.1.1 x16.1.1.2.1 x16.1.1.2.2.1 x16.1.1.2.2.2.1 x16.1.1.2.2.2.2.1 x16.1.1.2.2.2.2.2.1).bind fun x20 =>
   bif (!x20.1.1) then
    (f82 k x16.1.1.1 x16.1.1.2.1 x16.1.1.2.2.1 x16.1.1.2.2.2.1 x16.1.1.2.2.2.2.1 x16.1.1.2.2.2.2.2.1 x17.1.1.1 x17.1.1.2.1 x17.1.1.2.2.1 x17.1.1.2.2.2.1 x17.1.1.2.2.2.2.1 x17.1.1.2.2.2.2.2.1 x14.1.1.1 x14.1.1.2.1 x14.1.1.2.2.1 x14.1.1.2.2.2.1 x14.1.1.2.2.2.2.1 x14.1.1.2.2.2.2.2.1).bind fun x21 =>
    some (((!x21.1.1), ()), ())
   else
    some ((false, ()), ())
  else
   bif (a3 == a7) then
    (f82 k x14.1.1.1 x14.1.1.2.1 x14.1.1.2.2.1 x14.1.1.2.2.2.1 x14.1.1.2.2.2.2.1 x14.1.1.2.2.2.2.2.1 x15.1.1.1 x15.1.1.2.1 x15.1.1.2.2.1 x15.1.1.2.2.2.1 x15.1.1.2.2.2.2.1 x15.1.1.2.2.2.2.2.1 x16.1.1.1 x16.1.1.2.1 x16.1.1.2.2.1 x16.1.1.2.2.2.1 x16.1.1.2.2.2.2.1 x16.1.1.2.2.2.2.2.1).bind fun x22 =>
    bif (!x22.1.1) then
     (f82 k x16.1.1.1 x16.1.1.2.1 x16.1.1.2.2.1 x16.1.1.2.2.2.1 x16.1.1.2.2.2.2.1 x16.1.1.2.2.2.2.2.1 x17.1.1.1 x17.1.1.2.1 x17.1.1.2.2.1 x17.1.1.2.2.2.1 x17.1.1.2.2.2.2.1 x17.1.1.2.2.2.2.2.1 x15.1.1.1 x15.1.1.2.1 x15.1.1.2.2.1 x15.1.1.2.2.2.1 x15.1.1.2.2.2.2.1 x15.1.1.2.2.2.2.2.1).bind fun x23 =>
     some (((!x23.1.1), ()), ())
    else
     some ((false, ()), ())
   else
    bif (a4 == a6) then
     (f82 k x14.1.1.1 x14.1.1.2.1 x14.1.1.2.2.1 x14.1.1.2.2.2.1 x14.1.1.2.2.2.2.1 x14.1.1.2.2.2.2.2.1 x15.1.1.1 x15.1.1.2.1 x15.1.1.2.2.1 x15.1.1.2.2.2.1 x15.1.1.2.2.2.2.1 x15.1.1.2.2.2.2.2.1 x17.1.1.1 x17.1.1.2.1 x17.1.1.2.2.1 x17.1.1.2.2.2.1 x17.1.1.2.2.2.2.1 x17.1.1.2.2.2.2.2.1).bind fun x24 =>
     bif (!x24.1.1) then
      (f82 k x16.1.1.1 x16.1.1.2.1 x16.1.1.2.2.1 x16.1.1.2.2.2.1 x16.1.1.2.2.2.2.1 x16.1.1.2.2.2.2.2.1 x17.1.1.1 x17.1.1.2.1 x17.1.1.2.2.1 x17.1.1.2.2.2.1 x17.1.1.2.2.2.2.1 x17.1.1.2.2.2.2.2.1 x14.1.1.1 x14.1.1.2.1 x14.1.1.2.2.1 x14.1.1.2.2.2.1 x14.1.1.2.2.2.2.1 x14.1.1.2.2.2.2.2.1).bind fun x25 =>
      some (((!x25.1.1), ()), ())
     else
      some ((false, ()), ())
    else
     (f83 k x14.1.1.1 x14.1.1.2.1 x14.1.1.2.2.1 x14.1.1.2.2.2.1 x14.1.1.2.2.2.2.1 x14.1.1.2.2.2.2.2.1 x15.1.1.1 x15.1.1.2.1 x15.1.1.2.2.1 x15.1.1.2.2.2.1 x15.1.1.2.2.2.2.1 x15.1.1.2.2.2.2.2.1 x16.1.1.1 x16.1.1.2.1 x16.1.1.2.2.1 x16.1.1.2.2.2.1 x16.1.1.2.2.2.2.1 x16.1.1.2.2.2.2.2.1 x17.1.1.1 x17.1.1.2.1 x17.1.1.2.2.1 x17.1.1.2.2.2.1 x17.1.1.2.2.2.2.1 x17.1.1.2.2.2.2.2.1).bind fun x26 =>
     some (((!x26.1.1), ()), ())
def IJ : ab := ee 49 [(0, .agg k2), (1, .agg k0), (2, .agg k0)] [(0, .c .bool)] fun k v => f49 k v.1.1.1 v.1.1.2.1 v.1.2.1.1 v.1.2.1.2.1 v.1.2.1.2.2.1 v.1.2.2.1.1 v.1.2.2.1.2.1 v.1.2.2.1.2.2.1
def Np (k : Nat) : Full := fl k 101 [wW, wm, EM, I2] (touch := [(1, [(16, [7]), (17, [8]), (18, [9]), (19, [10])])])
theorem Nc : SN IJ := so Tryz.func49 Np (fun _ j => ⟨Bx.at j, At.at j, IZ.at j, MI.at j, trivial⟩) (fun _ _ => by kernel_rfl)
def f48 (k : Nat) (a1 a2 a3 : Int) (a4 : T6) (a5 : T4) : Option (T2 × Unit) :=
 (f49 k a4.1 a4.2 a5.1 a5.2.1 a5.2.2 a1 a2 a3).bind fun x2 =>
 some (((!x2.1.1), ()), ())
def Jj : ab := ee 48 [(0, .agg k0), (1, .c (.dp u4)), (2, .c (.dp u1))] [(0, .c .bool)] fun k v => f48 k v.1.1.1 v.1.1.2.1 v.1.1.2.2.1 v.1.2.1 v.1.2.2.1
def Nr (k : Nat) : Full := fl k 10 [IJ]
theorem NQ : SN Jj := so Tryz.func48 Nr (fun _ j => ⟨Nc.at j, trivial⟩) (fun _ _ => by kernel_rfl)
def mH {ρ : Type} (k : Nat) : Nat → (List T4) → T6 → T4 → Int → Int → ((T1 → Option ρ) × ((T0 × Unit) → Option ρ) × Unit) → Option ρ
 | 0, _, _, _, _, _, _ => none
 | j + 1, v12, v13, v14, v15, v16, nx =>
  bif (decide (v16 < v15)) then
   (ak v12 v16).bind fun x17 =>
   (f48 k x17.1 x17.2.1 x17.2.2 v13 v14).bind fun x18 =>
   bif x18.1.1 then
    nx.2.1 ((v16, ()), ())
   else
    mH k j v12 v13 v14 v15 (wr .i64 (v16 + 1)) nx
  else
   nx.1 ((), ())
def yV (k : Nat) : Cut := ⟨⟨[(0, .c (.sl u1)), (1, .c (.cap (.cap (.lit (.fn 48)) (.dp u4)) (.dp u1))), (7, .c (.int .i64)), (8, .c (.int .i64))], [], []⟩, [(.exit 0, ⟨[], [], []⟩), (.ret, ⟨[(4, .c (.int .i64))], [], []⟩)], fun ρ j v nx => mH k j v.1.1 v.1.2.1.1.2 v.1.2.1.2 v.1.2.2.1 v.1.2.2.2.1 nx⟩
def f81 (k : Nat) (a1 : (List T4)) (a2 : T6) (a3 : T4) : Option (T0 × Unit) :=
 mH k k a1 a2 a3 (a1.length : Int) 0
  (fun x10 : T1 =>
   some (((-1), ()), ()),
  fun x11 : (T0 × Unit) =>
   some ((x11.1.1, ()), ()),
  ())
def Kp : ab := ee 81 [(0, .c (.sl u1)), (1, .c (.cap (.cap (.lit (.fn 48)) (.dp u4)) (.dp u1)))] [(0, .c (.int .i64))] fun k v => f81 k v.1.1 v.1.2.1.1.2 v.1.2.1.2
def Iu (k : Nat) : Full := fl k 19 [Jj] (cuts := [(2, (yV k))])
theorem Hw (k : Nat) : aO (Iu k) (yV k) (ax Tryz.f81 2) := fun ρ v nx => ⟨by kernel_rfl, fun j => by kernel_rfl⟩
theorem ML : SN Kp := so Tryz.func81 Iu (fun _ j => ⟨NQ.at j, trivial⟩) (fun _ _ => by kernel_rfl) (hob := fun k => Eq.mpr (by kernel_rfl) (And.intro (Hw k) (trivial)))
def f47 (k : Nat) (a1 : (List T4)) (a2 : T6) (a3 : T4) : Option (T2 × Unit) :=
 (f81 k a1 a2 a3).bind fun x2 =>
 some (((decide (x2.1.1 ≥ 0)), ()), ())
def Jc : ab := ee 47 [(0, .c (.sl u1)), (1, .c (.cap (.cap (.lit (.fn 48)) (.dp u4)) (.dp u1)))] [(0, .c .bool)] fun k v => f47 k v.1.1 v.1.2.1.1.2 v.1.2.1.2
def NG (k : Nat) : Full := fl k 9 [Kp]
theorem Nv : SN Jc := so Tryz.func47 NG (fun _ j => ⟨ML.at j, trivial⟩) (fun _ _ => by kernel_rfl)
def mK {ρ : Type} (k : Nat) : Nat → (List T4) → Int → Int → T5 → (List T4) → ((T1 → Option ρ) × ((T2 × Unit) → Option ρ) × Unit) → Option ρ
 | 0, _, _, _, _, _, _ => none
 | j + 1, v12, v13, v14, v15, v16, nx =>
  bif (decide (v14 < v13)) then
   (ak v12 v14).bind fun x17 =>
   bif decide (0 ≤ 0) && decide (0 ≤ v14) && decide (v14 ≤ (v16.length : Int)) then
    (f47 k (sub v16 0 v14) (v15, v16) x17).bind fun x18 =>
    bif x18.1.1 then
     nx.2.1 ((false, ()), ())
    else
     mK k j v12 v13 (wr .i64 (v14 + 1)) v15 v16 nx
   else
    none
  else
   nx.1 ((), ())
def zN (k : Nat) : Cut := ⟨⟨[(1, .c (.box 5000000)), (6, .c (.sl u1)), (7, .c (.int .i64)), (8, .c (.int .i64))], [(5000000, .box 31 k2)], []⟩, [(.exit 0, ⟨[], [], []⟩), (.ret, ⟨[(2, .c .bool)], [], []⟩)], fun ρ j v nx => mK k j v.1.2.1 v.1.2.2.1 v.1.2.2.2.1 v.2.1.1 v.2.1.2.1 nx⟩
def f28 (k : Nat) (a1 : T5) (a2 : (List T4)) : Option (T2 × Unit) :=
 mK k k a2 (a2.length : Int) 0 a1 a2
  (fun x10 : T1 =>
   some ((true, ()), ()),
  fun x11 : (T2 × Unit) =>
   some ((x11.1.1, ()), ()),
  ())
def IF : ab := ee 28 [(0, .agg k2)] [(0, .c .bool)] fun k v => f28 k v.1.1.1 v.1.1.2.1
def JQ (k : Nat) : Full := fl k 20 [Jc] (cuts := [(2, (zN k))])
theorem Hr (k : Nat) : aO (JQ k) (zN k) (ax Tryz.f28 2) := fun ρ v nx => ⟨by kernel_rfl, fun j => by kernel_rfl⟩
theorem No : SN IF := so Tryz.func28 JQ (fun _ j => ⟨Nv.at j, trivial⟩) (fun _ _ => by kernel_rfl) (hob := fun k => Eq.mpr (by kernel_rfl) (And.intro (Hr k) (trivial)))
def mD {ρ : Type} (k : Nat) : Nat → (List Bool) → Bool → Int → Int → ((T1 → Option ρ) × ((T0 × Unit) → Option ρ) × Unit) → Option ρ
 | 0, _, _, _, _, _ => none
 | j + 1, v10, v11, v12, v13, nx =>
  bif (decide (v13 < v12)) then
   (ak v10 v13).bind fun x14 =>
   bif (v11 == x14) then
    nx.2.1 ((v13, ()), ())
   else
    mD k j v10 v11 v12 (wr .i64 (v13 + 1)) nx
  else
   nx.1 ((), ())
def zW (k : Nat) : Cut := ⟨⟨[(0, .c (.sl .bool)), (1, .c .bool), (7, .c (.int .i64)), (8, .c (.int .i64))], [], []⟩, [(.exit 0, ⟨[], [], []⟩), (.ret, ⟨[(4, .c (.int .i64))], [], []⟩)], fun ρ j v nx => mD k j v.1.1 v.1.2.1 v.1.2.2.1 v.1.2.2.2.1 nx⟩
def f84 (k : Nat) (a1 : (List Bool)) (a2 : Bool) : Option (T0 × Unit) :=
 mD k k a1 a2 (a1.length : Int) 0
  (fun x8 : T1 =>
   some (((-1), ()), ()),
  fun x9 : (T0 × Unit) =>
   some ((x9.1.1, ()), ()),
  ())
def IE : ab := ee 84 [(0, .c (.sl .bool)), (1, .c .bool)] [(0, .c (.int .i64))] fun k v => f84 k v.1.1 v.1.2.1
def JM (k : Nat) : Full := fl k 19 [] (cuts := [(2, (zW k))])
theorem Hk (k : Nat) : aO (JM k) (zW k) (ax Tryz.f84 2) := fun ρ v nx => ⟨by kernel_rfl, fun j => by kernel_rfl⟩
theorem NU : SN IE := so Tryz.func84 JM (fun _ _ => trivial) (fun _ _ => by kernel_rfl) (hob := fun k => Eq.mpr (by kernel_rfl) (And.intro (Hk k) (trivial)))
def f50 (k : Nat) (a1 : (List Bool)) (a2 : Bool) : Option (T2 × Unit) :=
 (f84 k a1 a2).bind fun x2 =>
 some (((decide (x2.1.1 ≥ 0)), ()), ())
def Kw : ab := ee 50 [(0, .c (.sl .bool)), (1, .c .bool)] [(0, .c .bool)] fun k v => f50 k v.1.1 v.1.2.1
def M0 (k : Nat) : Full := fl k 9 [IE]
theorem MJ : SN Kw := so Tryz.func50 M0 (fun _ j => ⟨NU.at j, trivial⟩) (fun _ _ => by kernel_rfl)
def kA {ρ : Type} (k : Nat) : Nat → Bool → (List T4) → Int → Int → T5 → (List T4) → (List Bool) → (((T15 × ((T5 × (List T4) × Unit) × (List Bool) × Unit)) → Option ρ) × Unit) → Option ρ
 | 0, _, _, _, _, _, _, _, _ => none
 | j + 1, v27, v28, v29, v30, v31, v32, v33, nx =>
  bif (decide (v30 < v29)) then
   (ak v28 v30).bind fun x34 =>
   bif decide (0 ≤ x34.1) && decide (x34.1 < (v33.length : Int)) then
    (v33[x34.1.toNat]?).bind fun x35 =>
    bif decide (0 ≤ x34.2.1) && decide (x34.2.1 < (v33.length : Int)) then
     (v33[x34.2.1.toNat]?).bind fun x36 =>
     bif (!(x35 == x36)) then
      bif decide (0 ≤ x34.1) && decide (x34.1 < (v33.length : Int)) then
       (v33[x34.1.toNat]?).bind fun _ =>
       bif decide (0 ≤ x34.2.1) && decide (x34.2.1 < ((v33.set x34.1.toNat true).length : Int)) then
        ((v33.set x34.1.toNat true)[x34.2.1.toNat]?).bind fun _ =>
        let x39 : (List Bool) := ((v33.set x34.1.toNat true).set x34.2.1.toNat true)
        kA k j true v28 v29 (wr .i64 (v30 + 1)) v31 v32 x39 nx
       else
        none
      else
       none
     else
      kA k j v27 v28 v29 (wr .i64 (v30 + 1)) v31 v32 v33 nx
    else
     none
   else
    none
  else
   nx.1 (((), (), v27, ()), ((v31, v32, ()), v33, ()))
def zy (k : Nat) : Cut := ⟨⟨[(1, .c (.box 5000000)), (3, .c (.row 5000001)), (4, .c .bool), (19, .c (.sl u1)), (20, .c (.int .i64)), (21, .c (.int .i64))], [(5000000, .box 31 k2), (5000001, .row 4 .bool)], []⟩, [(.exit 2, ⟨[(1, .c (.box 5000000)), (3, .c (.row 5000001)), (4, .c .bool)], [(5000000, .box 31 k2), (5000001, .row 4 .bool)], []⟩)], fun ρ j v nx => kA k j v.1.2.2.1 v.1.2.2.2.1 v.1.2.2.2.2.1 v.1.2.2.2.2.2.1 v.2.1.1 v.2.1.2.1 v.2.2.1 nx⟩
def gH {ρ : Type} (k : Nat) : Nat → Bool → T5 → (List T4) → (List Bool) → (((T1 × ((List Bool) × Unit)) → Option ρ) × Unit) → Option ρ
 | 0, _, _, _, _, _ => none
 | j + 1, v40, v41, v42, v43, nx =>
  bif v40 then
   kA k k false v42 (v42.length : Int) 0 v41 v42 v43
    (fun x44 : (T15 × ((T5 × (List T4) × Unit) × (List Bool) × Unit)) =>
     gH k j x44.1.2.2.1 x44.2.1.1 x44.2.1.2.1 x44.2.2.1 nx,
    ())
  else
   nx.1 (((), ()), (v43, ()))
def y8 (k : Nat) : Cut := ⟨⟨[(1, .c (.box 5000000)), (3, .c (.row 5000001)), (4, .c .bool)], [(5000000, .box 31 k2), (5000001, .row 4 .bool)], []⟩, [(.exit 0, ⟨[(3, .c (.row 5000000))], [(5000000, .row 4 .bool)], []⟩)], fun ρ j v nx => gH k j v.1.2.2.1 v.2.1.1 v.2.1.2.1 v.2.2.1 nx⟩
def f29 (k : Nat) (a1 : T5) (a2 : (List T4)) : Option (T2 × Unit) :=
 bif ((a1.length : Int) == 0) then
  some ((true, ()), ())
 else
  bif decide ((a1.length : Int) = (a1.length : Int)) && decide (0 ≤ (a1.length : Int)) && decide ((a1.length : Int) * 1 ≤ roomy) then
   let x23 : (List Bool) := (List.replicate (a1.length : Int).toNat false)
   bif decide (0 ≤ 0) && decide (0 < (x23.length : Int)) then
    (x23[0]?).bind fun _ =>
    gH k k true a1 a2 (x23.set 0 true)
     (fun x25 : (T1 × ((List Bool) × Unit)) =>
      (f50 k x25.2.1 false).bind fun x26 =>
      some (((!x26.1.1), ()), ()),
     ())
   else
    none
  else
   none
def IM : ab := ee 29 [(0, .agg k2)] [(0, .c .bool)] fun k v => f29 k v.1.1.1 v.1.1.2.1
def Eh (k : Nat) : Full := fl k 48 [Kw] (cuts := [(9, (zy k)), (6, (y8 k))]) (touch := [(12, [(7, [5000001]), (9, [5000001])])])
theorem HO (k : Nat) : aO (Eh k) (zy k) (ax Tryz.f29 9) := fun ρ v nx => ⟨by kernel_rfl, fun j => by kernel_rfl⟩
theorem HG (k : Nat) : aO (Eh k) (y8 k) (ax Tryz.f29 6) := fun ρ v nx => ⟨by kernel_rfl, fun j => by kernel_rfl⟩
theorem Nz : SN IM := so Tryz.func29 Eh (fun _ j => ⟨MJ.at j, trivial⟩) (fun _ _ => by kernel_rfl) (hob := fun k => Eq.mpr (by kernel_rfl) (And.intro (HO k) (And.intro (HG k) (trivial))))
def jv {ρ : Type} (k : Nat) : Nat → Bool → Int → (List T4) → Int → Int → (List (Int × Option (List Int))) → ((((Bool × Int × Unit) × ((List (Int × Option (List Int))) × Unit)) → Option ρ) × Unit) → Option ρ
 | 0, _, _, _, _, _, _, _ => none
 | j + 1, v54, v55, v56, v57, v58, v59, nx =>
  bif (decide (v58 < v57)) then
   (ak v56 v58).bind fun x60 =>
   bif (x60.2.2 == 1) then
    (cn (fun (a b : Int) => a == b) x60.1 v59).bind fun x61 =>
    bif decide ((x61.1.length + [x60.2.1].length) * 8 ≤ roomy) then
     bif v54 then
      none
     else
      let x62 : (List (Int × Option (List Int))) := (br (fun (a b : Int) => a == b) x60.1 (some (x61.1 ++ [x60.2.1])) x61.2)
      (cn (fun (a b : Int) => a == b) x60.2.1 x62).bind fun x63 =>
      bif decide ((x63.1.length + [x60.1].length) * 8 ≤ roomy) then
       bif v54 then
        none
       else
        let x64 : (List (Int × Option (List Int))) := (br (fun (a b : Int) => a == b) x60.2.1 (some (x63.1 ++ [x60.1])) x63.2)
        jv k j v54 (wr .i64 (v55 + 1)) v56 v57 (wr .i64 (v58 + 1)) x64 nx
      else
       none
    else
     none
   else
    jv k j v54 v55 v56 v57 (wr .i64 (v58 + 1)) v59 nx
  else
   nx.1 ((v54, v55, ()), (v59, ()))
def yN (k : Nat) : Cut := ⟨⟨[(4, .c (.mapr 5000000)), (5, .c (.int .i64)), (14, .c (.sl u1)), (15, .c (.int .i64)), (16, .c (.int .i64))], [(5000000, .mr 122 false (.int .i64) 2 (.int .i64))], []⟩, [(.exit 0, ⟨[(4, .c (.mapr 5000000)), (5, .c (.int .i64))], [(5000000, .mr 122 false (.int .i64) 2 (.int .i64))], []⟩)], fun ρ j v nx => jv k j v.1.1 v.1.2.1 v.1.2.2.1 v.1.2.2.2.1 v.1.2.2.2.2.1 v.2.1 nx⟩
def gu {ρ : Type} (k : Nat) : Nat → Bool → Int → Int → Int → (List (Int × (List Int))) → (List Int) → ((((Int × Unit × Unit) × T10) → Option ρ) × ((T11 × Unit) → Option ρ) × Unit) → Option ρ
 | 0, _, _, _, _, _, _, _ => none
 | j + 1, v65, v66, v67, v68, v69, v70, nx =>
  bif (v68 != 0) then
   let x73 : (Option (List Int)) := (bk (fun (a b : Int) => a == b) v68 v69)
   let x74 : Bool := (((x73.getD ([] : List Int)).length : Int) != 2)
   bif x74 then
    nx.2.1 (((), false, ()), ())
   else
    bif (decide ((v70.length : Int) > v66)) then
     nx.2.1 (((), false, ()), ())
    else
     bif decide ((v70.length + [v68].length) * 8 ≤ roomy) then
      let x75 : (Option (List Int)) := (bk (fun (a b : Int) => a == b) v68 v69)
      (ak (x75.getD ([] : List Int)) 0).bind fun x76 =>
      bif (x76 == v67) then
       let x77 : (Option (List Int)) := (bk (fun (a b : Int) => a == b) v68 v69)
       (ak (x77.getD ([] : List Int)) 1).bind fun x78 =>
       gu k j v65 v66 v68 x78 v69 (v70 ++ [v68]) nx
      else
       gu k j v65 v66 v68 x76 v69 (v70 ++ [v68]) nx
     else
      none
  else
   nx.1 ((v66, (), ()), (v70, ()))
def vP (k : Nat) : Cut := ⟨⟨[(4, .c (.mapr 5000000)), (5, .c (.int .i64)), (8, .c (.row 5000001)), (9, .c (.int .i64)), (10, .c (.int .i64))], [(5000000, .mp 122 false false (.int .i64) (.sl (.int .i64))), (5000001, .row 2 (.int .i64))], []⟩, [(.exit 2, ⟨[(5, .c (.int .i64)), (8, .c (.row 5000000))], [(5000000, .row 2 (.int .i64))], []⟩), (.ret, ⟨[(2, .c (.lit .nils)), (3, .c .bool)], [], []⟩)], fun ρ j v nx => gu k j v.1.1 v.1.2.1 v.1.2.2.2.1 v.1.2.2.2.2.1 v.2.1 v.2.2.1 nx⟩
def f51 (k : Nat) (a1 : T5) (a2 : (List T4)) : Option (T11 × T10) :=
 jv k k false 0 a2 (a2.length : Int) 0 ([] : List (Int × Option (List Int)))
  (fun x41 : ((Bool × Int × Unit) × ((List (Int × Option (List Int))) × Unit)) =>
   (jn x41.2.1).bind fun x45 =>
   let x46 : (Option (List Int)) := (bk (fun (a b : Int) => a == b) 0 x45)
   let x47 : Bool := (((x46.getD ([] : List Int)).length : Int) != 2)
   bif x47 then
    some (((), false, ()), (([] : List Int), ()))
   else
    let x48 : (Option (List Int)) := (bk (fun (a b : Int) => a == b) 0 x45)
    (ak (x48.getD ([] : List Int)) 0).bind fun x49 =>
    gu k k x41.1.1 x41.1.2.1 0 x49 x45 ([(0 : Int)])
     (fun x52 : ((Int × Unit × Unit) × T10) =>
      bif ((x52.2.1.length : Int) == x52.1.1) then
       some (((), (decide (x52.1.1 ≥ 3)), ()), (x52.2.1, ()))
      else
       some (((), false, ()), (x52.2.1, ())),
     fun x53 : (T11 × Unit) =>
      some (((), x53.1.2.1, ()), (([] : List Int), ())),
     ()),
  ())
def Ke : ab := ⟨51, ⟨[(0, .agg k2)], [], []⟩, ⟨[(0, .c (.row 4000000)), (1, .c .bool)], [(4000000, .row 2 (.int .i64))], []⟩, fun k v => f51 k v.1.1.1 v.1.1.2.1⟩
def EW (k : Nat) : Full := fl k 98 [] (cuts := [(4, (yN k)), (15, (vP k))]) (touch := [(7, [(6, [5000000]), (10, [29]), (11, [33, 5000000])]), (8, [(6, [5000000]), (10, [40]), (11, [44, 5000000])])]) (takes := [12, 29, 40]) (melts := [49])
theorem HP (k : Nat) : aO (EW k) (yN k) (ax Tryz.f51 4) := fun ρ v nx => ⟨by kernel_rfl, fun j => by kernel_rfl⟩
theorem E1 (k : Nat) : aO (EW k) (vP k) (ax Tryz.f51 15) := fun ρ v nx => ⟨by kernel_rfl, fun j => by kernel_rfl⟩
theorem MK : SN Ke := so Tryz.func51 EW (fun _ _ => trivial) (fun _ _ => by kernel_rfl) (hob := fun k => Eq.mpr (by kernel_rfl) (And.intro (HP k) (And.intro (E1 k) (trivial))))
def lR {ρ : Type} (k : Nat) : Nat → (List Int) → Int → Int → T5 → (List T4) → T5 → ((T9 → Option ρ) × Unit) → Option ρ
 | 0, _, _, _, _, _, _, _ => none
 | j + 1, v18, v19, v20, v21, v22, v23, nx =>
  bif (decide (v20 < v19)) then
   (ak v18 v20).bind fun x24 =>
   (ak v21 x24).bind fun x25 =>
   bif decide ((v23.length + [x25].length) * 48 ≤ roomy) then
    lR k j v18 v19 (wr .i64 (v20 + 1)) v21 v22 (v23 ++ [x25]) nx
   else
    none
  else
   nx.1 (((), ()), (v23, ()))
def zU (k : Nat) : Cut := ⟨⟨[(2, .c (.box 5000000)), (5, .c (.row 5000001)), (8, .c (.sl (.int .i64))), (9, .c (.int .i64)), (10, .c (.int .i64))], [(5000000, .box 31 k2), (5000001, .row 55 (.pair u1 u1))], []⟩, [(.exit 0, ⟨[(5, .c (.row 5000000))], [(5000000, .row 55 (.pair u1 u1))], []⟩)], fun ρ j v nx => lR k j v.1.2.2.1 v.1.2.2.2.1 v.1.2.2.2.2.1 v.2.1.1 v.2.1.2.1 v.2.2.1 nx⟩
def f54 (k : Nat) (a1 : T5) (a2 : (List T4)) (a3 : (List Int)) : Option T9 :=
 lR k k a3 (a3.length : Int) 0 a1 a2 ([] : List (T4 × T4))
  (fun x17 : T9 =>
   some (((), ()), (x17.2.1, ())),
  ())
def JN : ab := ⟨54, ⟨[(0, .agg k2), (1, .c (.sl (.int .i64)))], [], []⟩, ⟨[(0, .c (.row 4000000))], [(4000000, .row 55 (.pair u1 u1))], []⟩, fun k v => f54 k v.1.1.1 v.1.1.2.1 v.1.2.1⟩
def Jd (k : Nat) : Full := fl k 24 [] (cuts := [(3, (zU k))])
theorem H2 (k : Nat) : aO (Jd k) (zU k) (ax Tryz.f54 3) := fun ρ v nx => ⟨by kernel_rfl, fun j => by kernel_rfl⟩
theorem MZ : SN JN := so Tryz.func54 Jd (fun _ _ => trivial) (fun _ _ => by kernel_rfl) (hob := fun k => Eq.mpr (by kernel_rfl) (And.intro (H2 k) (trivial)))
def kz {ρ : Type} (k : Nat) : Nat → T5 → Int → T5 → Int → Int → T5 → ((T9 → Option ρ) × Unit) → Option ρ
 | 0, _, _, _, _, _, _, _ => none
 | j + 1, v26, v27, v28, v29, v30, v31, nx =>
  bif (decide (v30 < v29)) then
   (ak v28 v30).bind fun x32 =>
   bif decide (v27 = 0) then
    none
   else
    let x33 : Int := ((wr .i64 ((wr .i64 (v30 + v27)) - 1)).tmod v27)
    (ak v26 x33).bind fun x34 =>
    (f44 k x34.1.1 x34.1.2.1 x34.1.2.2 x34.2.1 x34.2.2.1 x34.2.2.2 x32.1.1 x32.1.2.1 x32.1.2.2 x32.2.1 x32.2.2.1 x32.2.2.2).bind fun x35 =>
    bif decide (v27 = 0) then
     none
    else
     (ak v26 ((wr .i64 (v30 + 1)).tmod v27)).bind fun x36 =>
     (f44 k x32.1.1 x32.1.2.1 x32.1.2.2 x32.2.1 x32.2.2.1 x32.2.2.2 x36.1.1 x36.1.2.1 x36.1.2.2 x36.2.1 x36.2.2.1 x36.2.2.2).bind fun x37 =>
     bif (x35.1.1 != x37.1.1) then
      bif decide ((v31.length + [x32].length) * 48 ≤ roomy) then
       kz k j v26 v27 v28 v29 (wr .i64 (v30 + 1)) (v31 ++ [x32]) nx
      else
       none
     else
      kz k j v26 v27 v28 v29 (wr .i64 (v30 + 1)) v31 nx
  else
   nx.1 (((), ()), (v31, ()))
def ze (k : Nat) : Cut := ⟨⟨[(0, .c (.sl (.pair u1 u1))), (3, .c (.int .i64)), (4, .c (.row 5000000)), (9, .c (.sl (.pair u1 u1))), (10, .c (.int .i64)), (11, .c (.int .i64))], [(5000000, .row 55 (.pair u1 u1))], []⟩, [(.exit 0, ⟨[(4, .c (.row 5000000))], [(5000000, .row 55 (.pair u1 u1))], []⟩)], fun ρ j v nx => kz k j v.1.1 v.1.2.1 v.1.2.2.2.1 v.1.2.2.2.2.1 v.1.2.2.2.2.2.1 v.2.1 nx⟩
def f53 (k : Nat) (a1 : T5) : Option T9 :=
 kz k k a1 (a1.length : Int) a1 (a1.length : Int) 0 ([] : List (T4 × T4))
  (fun x25 : T9 =>
   some (((), ()), (x25.2.1, ())),
  ())
def IW : ab := ⟨53, ⟨[(0, .c (.sl (.pair u1 u1)))], [], []⟩, ⟨[(0, .c (.row 4000000))], [(4000000, .row 55 (.pair u1 u1))], []⟩, fun k v => f53 k v.1.1⟩
def IN (k : Nat) : Full := fl k 43 [sw] (cuts := [(4, (ze k))])
theorem Hm (k : Nat) : aO (IN k) (ze k) (ax Tryz.f53 4) := fun ρ v nx => ⟨by kernel_rfl, fun j => by kernel_rfl⟩
theorem NY : SN IW := so Tryz.func53 IN (fun _ j => ⟨wv.at j, trivial⟩) (fun _ _ => by kernel_rfl) (hob := fun k => Eq.mpr (by kernel_rfl) (And.intro (Hm k) (trivial)))
def f118 (k : Nat) (a1 a2 a3 a4 a5 a6 : Int) : Option (T2 × Unit) :=
 (f41 k a1 a2 a3 a4 a5 a6).bind fun x2 =>
 some (((!x2.1.1), ()), ())
def G0 : ab := ee 118 [(0, .agg k1)] [(0, .c .bool)] fun k v => f118 k v.1.1.1 v.1.1.2.1 v.1.1.2.2.1 v.1.1.2.2.2.1 v.1.1.2.2.2.2.1 v.1.1.2.2.2.2.2.1
def KG (k : Nat) : Full := fl k 6 [FX]
theorem Lo : SN G0 := so Tryz.func118 KG (fun _ j => ⟨J1.at j, trivial⟩) (fun _ _ => by kernel_rfl)
def jZ {ρ : Type} (k : Nat) : Nat → T5 → Int → Int → ((T1 → Option ρ) × ((T0 × Unit) → Option ρ) × Unit) → Option ρ
 | 0, _, _, _, _ => none
 | j + 1, v10, v11, v12, nx =>
  bif (decide (v12 < v11)) then
   (ak v10 v12).bind fun x13 =>
   (f118 k x13.1.1 x13.1.2.1 x13.1.2.2 x13.2.1 x13.2.2.1 x13.2.2.2).bind fun x14 =>
   bif x14.1.1 then
    nx.2.1 ((v12, ()), ())
   else
    jZ k j v10 v11 (wr .i64 (v12 + 1)) nx
  else
   nx.1 ((), ())
def wa (k : Nat) : Cut := ⟨⟨[(0, .c (.sl (.pair u1 u1))), (1, .c (.lit (.fn 118))), (7, .c (.int .i64)), (8, .c (.int .i64))], [], []⟩, [(.exit 0, ⟨[], [], []⟩), (.ret, ⟨[(4, .c (.int .i64))], [], []⟩)], fun ρ j v nx => jZ k j v.1.1 v.1.2.2.1 v.1.2.2.2.1 nx⟩
def f141 (k : Nat) (a1 : T5) : Option (T0 × Unit) :=
 jZ k k a1 (a1.length : Int) 0
  (fun x8 : T1 =>
   some (((-1), ()), ()),
  fun x9 : (T0 × Unit) =>
   some ((x9.1.1, ()), ()),
  ())
def Gz : ab := ee 141 [(0, .c (.sl (.pair u1 u1))), (1, .c (.lit (.fn 118)))] [(0, .c (.int .i64))] fun k v => f141 k v.1.1
def GX (k : Nat) : Full := fl k 19 [G0] (cuts := [(2, (wa k))])
theorem DT (k : Nat) : aO (GX k) (wa k) (ax Tryz.f141 2) := fun ρ v nx => ⟨by kernel_rfl, fun j => by kernel_rfl⟩
theorem KU : SN Gz := so Tryz.func141 GX (fun _ j => ⟨Lo.at j, trivial⟩) (fun _ _ => by kernel_rfl) (hob := fun k => Eq.mpr (by kernel_rfl) (And.intro (DT k) (trivial)))
def f117 (k : Nat) (a1 : T5) : Option (T2 × Unit) :=
 (f141 k a1).bind fun x2 =>
 some (((decide (x2.1.1 ≥ 0)), ()), ())
def F7 : ab := ee 117 [(0, .c (.sl (.pair u1 u1))), (1, .c (.lit (.fn 118)))] [(0, .c .bool)] fun k v => f117 k v.1.1
def LU (k : Nat) : Full := fl k 9 [Gz]
theorem K5 : SN F7 := so Tryz.func117 LU (fun _ j => ⟨KU.at j, trivial⟩) (fun _ _ => by kernel_rfl)
def f85 (k : Nat) (a1 : T5) : Option (T2 × Unit) :=
 (f117 k a1).bind fun x2 =>
 some (((!x2.1.1), ()), ())
def Eu : ab := ee 85 [(0, .c (.sl (.pair u1 u1)))] [(0, .c .bool)] fun k v => f85 k v.1.1
def NP (k : Nat) : Full := fl k 6 [F7]
theorem Je : SN Eu := so Tryz.func85 NP (fun _ j => ⟨K5.at j, trivial⟩) (fun _ _ => by kernel_rfl)
def f86 (k : Nat) (a1 : T5) : Option T9 :=
 bif decide ((([] : List (T4 × T4)).length + a1.length) * 48 ≤ roomy) then
  let x2 : T5 := (([] : List (T4 × T4)) ++ a1)
  some (((), ()), (x2, ()))
 else
  none
def N4 : ab := ⟨86, ⟨[(0, .c (.slx (.pair u1 u1)))], [], []⟩, ⟨[(0, .c (.row 4000000))], [(4000000, .row 55 (.pair u1 u1))], []⟩, fun k v => f86 k v.1.1⟩
def NW (k : Nat) : Full := fl k 8 []
theorem My : SN N4 := so Tryz.func86 NW (fun _ _ => trivial) (fun _ _ => by kernel_rfl)
def Ey (k : Nat) : Option T9 :=
 some (((), ()), (([] : List (T4 × T4)), ()))
def KY : ab := ⟨86, ⟨[(0, .c (.lit .nils))], [], []⟩, ⟨[(0, .c (.row 4000000))], [(4000000, .row 55 (.pair u1 u1))], []⟩, fun k v => Ey k⟩
def K7 (k : Nat) : Full := fl k 8 []
theorem Lg : SN KY := so Tryz.func86 K7 (fun _ _ => trivial) (fun _ _ => by kernel_rfl)
def GR : ab := ⟨86, ⟨[(0, .c (.sl (.pair u1 u1)))], [], []⟩, ⟨[(0, .c (.row 4000000))], [(4000000, .row 55 (.pair u1 u1))], []⟩, fun k v => f86 k v.1.1⟩
theorem LI (k : Nat) : Ey k = f86 k [] := by kernel_rfl
theorem KP : gx Tryz.prog ah GR := Cs (ah := ah) (id := 86) (u := (.pair u1 u1)) (res := ⟨[(0, .c (.row 4000000))], [(4000000, .row 55 (.pair u1 u1))], []⟩) (fN := fun k v => Ey k) (fX := fun k v => f86 k v.1.1) (fS := fun k v => f86 k v.1.1) Lg My fun k l o (h : f86 k l = some o) => ⟨h, fun e => (LI k).trans ((congrArg (f86 k) e).symm.trans h)⟩
end Go.Proofs.YtoclkhdbjbmpfaaGreatDoor.R
set_option linter.unusedVariables false
namespace Go.Proofs.YtoclkhdbjbmpfaaGreatDoor.R
open Go.Proofs.YtoclkhdbjbmpfaaGreatDoor.R1
def lX {ρ : Type} (k : Nat) : Nat → Int → Int → T5 → (((Unit × (T5 × Unit)) → Option ρ) × Unit) → Option ρ
 | 0, _, _, _, _ => none
 | j + 1, v10, v11, v12, nx =>
  bif (decide (v10 < v11)) then
   bif decide (0 ≤ v11) && decide (v11 < (v12.length : Int)) then
    (v12[v11.toNat]?).bind fun x13 =>
    bif decide (0 ≤ v10) && decide (v10 < (v12.length : Int)) then
     (v12[v10.toNat]?).bind fun x14 =>
     bif decide (0 ≤ v10) && decide (v10 < (v12.length : Int)) then
      (v12[v10.toNat]?).bind fun _ =>
      bif decide (0 ≤ v11) && decide (v11 < ((v12.set v10.toNat x13).length : Int)) then
       ((v12.set v10.toNat x13)[v11.toNat]?).bind fun _ =>
       lX k j (wr .i64 (v10 + 1)) (wr .i64 (v11 - 1)) ((v12.set v10.toNat x13).set v11.toNat x14) nx
      else
       none
     else
      none
    else
     none
   else
    none
  else
   nx.1 ((), (v12, ()))
def zj (k : Nat) : Cut := ⟨⟨[(0, .c (.lit (.row 3000000))), (2, .c (.int .i64)), (3, .c (.int .i64))], [(3000000, .row 55 (.pair u1 u1))], [(3000000, some 3000000)]⟩, [(.exit 0, ⟨[], [(3000000, .row 55 (.pair u1 u1))], [(3000000, some 3000000)]⟩)], fun ρ j v nx => lX k j v.1.2.1 v.1.2.2.1 v.2.1 nx⟩
def f87 (k : Nat) (a1 : T5) : Option (Unit × (T5 × Unit)) :=
 lX k k 0 (wr .i64 ((a1.length : Int) - 1)) a1
  (fun x9 : (Unit × (T5 × Unit)) =>
   some ((), (x9.2.1, ())),
  ())
def Jw : ab := ⟨87, ⟨[(0, .c (.row 3000000))], [(3000000, .row 55 (.pair u1 u1))], []⟩, ⟨[], [(3000000, .row 55 (.pair u1 u1))], [(3000000, some 3000000)]⟩, fun k v => f87 k v.2.1⟩
def JL (k : Nat) : Full := fl k 28 [] (cuts := [(1, (zj k))]) (touch := [(3, [(13, [3000000]), (15, [3000000])])])
theorem Im (k : Nat) : aO (JL k) (zj k) (ax Tryz.f87 1) := fun ρ v nx => ⟨by kernel_rfl, fun j => by kernel_rfl⟩
theorem Md : SN Jw := so Tryz.func87 JL (fun _ _ => trivial) (fun _ _ => by kernel_rfl) (hob := fun k => Eq.mpr (by kernel_rfl) (And.intro (Im k) (trivial)))
def fE {ρ : Type} (k : Nat) : Nat → T5 → Int → T5 → Int → Int → (((T0 × Unit) → Option ρ) × Unit) → Option ρ
 | 0, _, _, _, _, _, _ => none
 | j + 1, v11, v12, v13, v14, v15, nx =>
  bif (decide (v15 < v14)) then
   (ak v13 v15).bind fun x16 =>
   (ak v11 v12).bind fun x17 =>
   (f42 k x16.1.1 x16.1.2.1 x16.1.2.2 x16.2.1 x16.2.2.1 x16.2.2.2 x17.1.1 x17.1.2.1 x17.1.2.2 x17.2.1 x17.2.2.1 x17.2.2.2).bind fun x18 =>
   bif (decide (x18.1.1 < 0)) then
    fE k j v11 v15 v13 v14 (wr .i64 (v15 + 1)) nx
   else
    fE k j v11 v12 v13 v14 (wr .i64 (v15 + 1)) nx
  else
   nx.1 ((v12, ()), ())
def xD (k : Nat) : Cut := ⟨⟨[(0, .c (.sl (.pair u1 u1))), (3, .c (.int .i64)), (6, .c (.sl (.pair u1 u1))), (7, .c (.int .i64)), (8, .c (.int .i64))], [], []⟩, [(.exit 0, ⟨[(3, .c (.int .i64))], [], []⟩)], fun ρ j v nx => fE k j v.1.1 v.1.2.1 v.1.2.2.1 v.1.2.2.2.1 v.1.2.2.2.2.1 nx⟩
def f119 (k : Nat) (a1 : T5) : Option (T0 × Unit) :=
 fE k k a1 0 a1 (a1.length : Int) 0
  (fun x10 : (T0 × Unit) =>
   some ((x10.1.1, ()), ()),
  ())
def BX : ab := ee 119 [(0, .c (.sl (.pair u1 u1)))] [(0, .c (.int .i64))] fun k v => f119 k v.1.1
def F6 (k : Nat) : Full := fl k 23 [EG] (cuts := [(3, (xD k))])
theorem Fa (k : Nat) : aO (F6 k) (xD k) (ax Tryz.f119 3) := fun ρ v nx => ⟨by kernel_rfl, fun j => by kernel_rfl⟩
theorem Gg : SN BX := so Tryz.func119 F6 (fun _ j => ⟨Ky.at j, trivial⟩) (fun _ _ => by kernel_rfl) (hob := fun k => Eq.mpr (by kernel_rfl) (And.intro (Fa k) (trivial)))
def f142 (k : Nat) (a1 : Int) : Option T9 :=
 bif (decide (a1 < 0)) then
  none
 else
  let x3 : Bool := (decide ((wr .i64 (a1 - (wr .i64 (0 - 0)))) > 0))
  bif x3 then
   bif decide (0 ≤ (wr .i64 (a1 - (wr .i64 (0 - 0))))) && decide ((wr .i64 (a1 - (wr .i64 (0 - 0)))) * 48 ≤ roomy) then
    let x4 : T5 := (List.replicate (wr .i64 (a1 - (wr .i64 (0 - 0)))).toNat ((0, (0, 0)), (0, (0, 0))))
    bif decide (0 ≤ 0) && decide (0 ≤ (x4.length : Int)) then
     some (((), ()), ((x4.take 0), ()))
    else
     none
   else
    none
  else
   some (((), ()), (([] : List (T4 × T4)), ()))
def GU : ab := ⟨142, ⟨[(0, .c (.lit .nils)), (1, .c (.int .i64))], [], []⟩, ⟨[(0, .c (.row 4000000))], [(4000000, .row 55 (.pair u1 u1))], []⟩, fun k v => f142 k v.1.2.1⟩
def Lt (k : Nat) : Full := fl k 27 [] (trunc := [25])
theorem KJ : SN GU := so Tryz.func142 Lt (fun _ _ => trivial) (fun _ _ => by kernel_rfl)
def jY {ρ : Type} (k : Nat) : Nat → (List T5) → Int → (List T5) → Int → Int → (((((List T5) × Int × Unit) × Unit) → Option ρ) × Unit) → Option ρ
 | 0, _, _, _, _, _, _ => none
 | j + 1, v21, v22, v23, v24, v25, nx =>
  bif (decide (v25 < v24)) then
   (ak v23 v25).bind fun x26 =>
   let x27 : Bool := (decide ((wr .i64 (v22 + (x26.length : Int))) < 0))
   bif x27 then
    none
   else
    jY k j v21 (wr .i64 (v22 + (x26.length : Int))) v23 v24 (wr .i64 (v25 + 1)) nx
  else
   nx.1 ((v21, v22, ()), ())
def w7 (k : Nat) : Cut := ⟨⟨[(0, .c (.sl (.sl (.pair u1 u1)))), (3, .c (.int .i64)), (9, .c (.sl (.sl (.pair u1 u1)))), (10, .c (.int .i64)), (11, .c (.int .i64))], [], []⟩, [(.exit 0, ⟨[(0, .c (.sl (.sl (.pair u1 u1)))), (3, .c (.int .i64))], [], []⟩)], fun ρ j v nx => jY k j v.1.1 v.1.2.1 v.1.2.2.1 v.1.2.2.2.1 v.1.2.2.2.2.1 nx⟩
def iX {ρ : Type} (k : Nat) : Nat → (List T5) → Int → Int → T5 → ((T9 → Option ρ) × Unit) → Option ρ
 | 0, _, _, _, _, _ => none
 | j + 1, v28, v29, v30, v31, nx =>
  bif (decide (v30 < v29)) then
   (ak v28 v30).bind fun x32 =>
   bif decide ((v31.length + x32.length) * 48 ≤ roomy) then
    iX k j v28 v29 (wr .i64 (v30 + 1)) (v31 ++ x32) nx
   else
    none
  else
   nx.1 (((), ()), (v31, ()))
def ud (k : Nat) : Cut := ⟨⟨[(6, .c (.row 5000000)), (25, .c (.sl (.sl (.pair u1 u1)))), (26, .c (.int .i64)), (27, .c (.int .i64))], [(5000000, .row 55 (.pair u1 u1))], []⟩, [(.exit 2, ⟨[(6, .c (.row 5000000))], [(5000000, .row 55 (.pair u1 u1))], []⟩)], fun ρ j v nx => iX k j v.1.2.1 v.1.2.2.1 v.1.2.2.2.1 v.2.1 nx⟩
def f120 (k : Nat) (a1 : (List T5)) : Option T9 :=
 jY k k a1 0 a1 (a1.length : Int) 0
  (fun x18 : (((List T5) × Int × Unit) × Unit) =>
   (f142 k x18.1.2.1).bind fun x19 =>
   iX k k x18.1.1 (x18.1.1.length : Int) 0 x19.2.1
    (fun x20 : T9 =>
     some (((), ()), (x20.2.1, ())),
    ()),
  ())
def Gn : ab := ⟨120, ⟨[(0, .c (.sl (.sl (.pair u1 u1))))], [], []⟩, ⟨[(0, .c (.row 4000000))], [(4000000, .row 55 (.pair u1 u1))], []⟩, fun k v => f120 k v.1.1⟩
def A8 (k : Nat) : Full := fl k 36 [GU] (cuts := [(3, (w7 k)), (11, (ud k))])
theorem EB (k : Nat) : aO (A8 k) (w7 k) (ax Tryz.f120 3) := fun ρ v nx => ⟨by kernel_rfl, fun j => by kernel_rfl⟩
theorem DD (k : Nat) : aO (A8 k) (ud k) (ax Tryz.f120 11) := fun ρ v nx => ⟨by kernel_rfl, fun j => by kernel_rfl⟩
theorem Li : SN Gn := so Tryz.func120 A8 (fun _ j => ⟨KJ.at j, trivial⟩) (fun _ _ => by kernel_rfl) (hob := fun k => Eq.mpr (by kernel_rfl) (And.intro (EB k) (And.intro (DD k) (trivial))))
def f88 (k : Nat) (a1 : T5) : Option T9 :=
 bif ((a1.length : Int) == 0) then
  some (((), ()), (([] : List (T4 × T4)), ()))
 else
  (f119 k a1).bind fun x3 =>
  bif decide (0 ≤ x3.1.1) && decide (x3.1.1 ≤ (a1.length : Int)) && decide ((a1.length : Int) ≤ (a1.length : Int)) then
   bif decide (0 ≤ 0) && decide (0 ≤ x3.1.1) && decide (x3.1.1 ≤ (a1.length : Int)) then
    (f120 k ([(sub a1 x3.1.1 (a1.length : Int)), (sub a1 0 x3.1.1)])).bind fun x4 =>
    some (((), ()), (x4.2.1, ()))
   else
    none
  else
   none
def D4 : ab := ⟨88, ⟨[(0, .c (.sl (.pair u1 u1)))], [], []⟩, ⟨[(0, .c (.row 4000000))], [(4000000, .row 55 (.pair u1 u1))], []⟩, fun k v => f88 k v.1.1⟩
def Nb (k : Nat) : Full := fl k 17 [BX, Gn]
theorem Jg : SN D4 := so Tryz.func88 Nb (fun _ j => ⟨Gg.at j, Li.at j, trivial⟩) (fun _ _ => by kernel_rfl)
def f143 (k : Nat) (a1 : Int) : Option (T0 × Unit) :=
 some (((dN .i64 a1 15), ()), ())
def GV : ab := ee 143 [(0, .c (.int .i64))] [(0, .c (.int .i64))] fun k v => f143 k v.1.1
def L3 (k : Nat) : Full := fl k 5 []
theorem Lw : SN GV := so Tryz.func143 L3 (fun _ _ => trivial) (fun _ _ => by kernel_rfl)
def iY {ρ : Type} (k : Nat) : Nat → T5 → Int → Int → Int → T5 → Int → Int → (((T0 × Unit) → Option ρ) × ((T2 × Unit) → Option ρ) × Unit) → Option ρ
 | 0, _, _, _, _, _, _, _, _ => none
 | j + 1, v23, v24, v25, v26, v27, v28, v29, nx =>
  bif (decide (v29 < v28)) then
   (ak v27 v29).bind fun x30 =>
   bif decide (v24 = 0) then
    none
   else
    (ak v23 ((wr .i64 (v29 + 1)).tmod v24)).bind fun x31 =>
    (f44 k x30.1.1 x30.1.2.1 x30.1.2.2 x30.2.1 x30.2.2.1 x30.2.2.2 x31.1.1 x31.1.2.1 x31.1.2.2 x31.2.1 x31.2.2.1 x31.2.2.2).bind fun x32 =>
    (f143 k (wr .i64 (x32.1.1 - v26))).bind fun x33 =>
    bif (decide (x32.1.1 < 0)) then
     nx.2.1 ((false, ()), ())
    else
     bif (decide (v26 < 0)) then
      nx.2.1 ((false, ()), ())
     else
      (f17 k x33.1.1 1 7).bind fun x34 =>
      bif (!x34.1.1) then
       nx.2.1 ((false, ()), ())
      else
       iY k j v23 v24 (wr .i64 (v25 + x33.1.1)) x32.1.1 v27 v28 (wr .i64 (v29 + 1)) nx
  else
   nx.1 ((v25, ()), ())
def xi (k : Nat) : Cut := ⟨⟨[(0, .c (.sl (.pair u1 u1))), (3, .c (.int .i64)), (4, .c (.int .i64)), (5, .c (.int .i64)), (23, .c (.sl (.pair u1 u1))), (24, .c (.int .i64)), (25, .c (.int .i64))], [], []⟩, [(.exit 0, ⟨[(4, .c (.int .i64))], [], []⟩), (.ret, ⟨[(2, .c .bool)], [], []⟩)], fun ρ j v nx => iY k j v.1.1 v.1.2.1 v.1.2.2.1 v.1.2.2.2.1 v.1.2.2.2.2.1 v.1.2.2.2.2.2.1 v.1.2.2.2.2.2.2.1 nx⟩
def f121 (k : Nat) (a1 : T5) : Option (T2 × Unit) :=
 bif (decide ((a1.length : Int) < 3)) then
  some ((false, ()), ())
 else
  (ak a1 (wr .i64 ((a1.length : Int) - 1))).bind fun x18 =>
  (ak a1 0).bind fun x19 =>
  (f44 k x18.1.1 x18.1.2.1 x18.1.2.2 x18.2.1 x18.2.2.1 x18.2.2.2 x19.1.1 x19.1.2.1 x19.1.2.2 x19.2.1 x19.2.2.1 x19.2.2.2).bind fun x20 =>
  iY k k a1 (a1.length : Int) 0 x20.1.1 a1 (a1.length : Int) 0
   (fun x21 : (T0 × Unit) =>
    some (((x21.1.1 == 16), ()), ()),
   fun x22 : (T2 × Unit) =>
    some ((x22.1.1, ()), ()),
   ())
def GB : ab := ee 121 [(0, .c (.sl (.pair u1 u1)))] [(0, .c .bool)] fun k v => f121 k v.1.1
def Gx (k : Nat) : Full := fl k 61 [sw, GV, th] (cuts := [(7, (xi k))])
theorem EP (k : Nat) : aO (Gx k) (xi k) (ax Tryz.f121 7) := fun ρ v nx => ⟨by kernel_rfl, fun j => by kernel_rfl⟩
theorem LR : SN GB := so Tryz.func121 Gx (fun _ j => ⟨wv.at j, Lw.at j, wI.at j, trivial⟩) (fun _ _ => by kernel_rfl) (hob := fun k => Eq.mpr (by kernel_rfl) (And.intro (EP k) (trivial)))
def f89 (k : Nat) (a1 : T5) : Option (T2 × Unit) :=
 (f43 k a1).bind fun x6 =>
 (f17 k x6.1.1 3 16).bind fun x7 =>
 bif x7.1.1 then
  (f85 k a1).bind fun x8 =>
  bif x8.1.1 then
   (f121 k a1).bind fun x9 =>
   bif x9.1.1 then
    (f119 k a1).bind fun x10 =>
    some (((x10.1.1 == 0), ()), ())
   else
    some ((false, ()), ())
  else
   some ((false, ()), ())
 else
  some ((false, ()), ())
def I9 : ab := ee 89 [(0, .c (.sl (.pair u1 u1)))] [(0, .c .bool)] fun k v => f89 k v.1.1
def Oe (k : Nat) : Full := fl k 19 [FD, th, Eu, GB, BX]
theorem Nx : SN I9 := so Tryz.func89 Oe (fun _ j => ⟨Kg.at j, wI.at j, Je.at j, LR.at j, Gg.at j, trivial⟩) (fun _ _ => by kernel_rfl)
def kn {ρ : Type} (k : Nat) : Nat → Int → Int → (List T5) → ((T1 → Option ρ) × ((T11 × (T5 × Unit)) → Option ρ) × Unit) → Option ρ
 | 0, _, _, _, _ => none
 | j + 1, v19, v20, v21, nx =>
  bif (decide (v20 < v19)) then
   bif decide (0 ≤ v20) && decide (v20 < (v21.length : Int)) then
    (v21[v20.toNat]?).bind fun x22 =>
    (f88 k x22).bind fun x23 =>
    (f89 k x23.2.1).bind fun x24 =>
    bif x24.1.1 then
     nx.2.1 (((), true, ()), (x23.2.1, ()))
    else
     kn k j v19 (wr .i64 (v20 + 1)) v21 nx
   else
    none
  else
   nx.1 ((), ())
def zx (k : Nat) : Cut := ⟨⟨[(22, .c (.row 5000000)), (23, .c (.int .i64)), (24, .c (.int .i64))], [(5000000, .row 28 (.sl (.pair u1 u1)))], []⟩, [(.exit 0, ⟨[], [], []⟩), (.ret, ⟨[(2, .c (.row 5000000)), (3, .c .bool)], [(5000000, .row 55 (.pair u1 u1))], []⟩)], fun ρ j v nx => kn k j v.1.2.1 v.1.2.2.1 v.2.1 nx⟩
def f52 (k : Nat) (a1 : T5) : Option (T11 × (T5 × Unit)) :=
 (f85 k a1).bind fun x14 =>
 bif (!x14.1.1) then
  some (((), false, ()), (([] : List (T4 × T4)), ()))
 else
  bif (decide ((a1.length : Int) > 16)) then
   some (((), false, ()), (([] : List (T4 × T4)), ()))
  else
   (f86 k a1).bind fun x15 =>
   (f87 k x15.2.1).bind fun x16 =>
   kn k k ([a1, x16.2.1].length : Int) 0 ([a1, x16.2.1])
    (fun x17 : T1 =>
     some (((), false, ()), (([] : List (T4 × T4)), ())),
    fun x18 : (T11 × (T5 × Unit)) =>
     some (((), x18.1.2.1, ()), (x18.2.1, ())),
    ())
def Kr : ab := ⟨52, ⟨[(0, .c (.sl (.pair u1 u1)))], [], []⟩, ⟨[(0, .c (.row 4000000)), (1, .c .bool)], [(4000000, .row 55 (.pair u1 u1))], []⟩, fun k v => f52 k v.1.1⟩
def JJ (k : Nat) : Full := fl k 34 [Eu, GR, Jw, D4, I9] (cuts := [(6, (zx k))])
theorem Hx (k : Nat) : aO (JJ k) (zx k) (ax Tryz.f52 6) := fun ρ v nx => ⟨by kernel_rfl, fun j => by kernel_rfl⟩
theorem MY : SN Kr := so Tryz.func52 JJ (fun _ j => ⟨Je.at j, KP.at j, Md.at j, Jg.at j, Nx.at j, trivial⟩) (fun _ _ => by kernel_rfl) (hob := fun k => Eq.mpr (by kernel_rfl) (And.intro (Hx k) (trivial)))
def f30 (k : Nat) (a1 : T5) (a2 : (List T4)) : Option (T11 × (T5 × Unit)) :=
 (f51 k a1 a2).bind fun x5 =>
 bif (!x5.1.2.1) then
  some (((), false, ()), (([] : List (T4 × T4)), ()))
 else
  (f54 k a1 a2 x5.2.1).bind fun x6 =>
  (f53 k x6.2.1).bind fun x7 =>
  (f52 k x7.2.1).bind fun x8 =>
  some (((), x8.1.2.1, ()), (x8.2.1, ()))
def ID : ab := ⟨30, ⟨[(0, .agg k2)], [], []⟩, ⟨[(0, .c (.row 4000000)), (1, .c .bool)], [(4000000, .row 55 (.pair u1 u1))], []⟩, fun k v => f30 k v.1.1.1 v.1.1.2.1⟩
def NX (k : Nat) : Full := fl k 20 [Ke, JN, IW, Kr]
theorem N5 : SN ID := so Tryz.func30 NX (fun _ j => ⟨MK.at j, MZ.at j, NY.at j, MY.at j, trivial⟩) (fun _ _ => by kernel_rfl)
def me {ρ : Type} (k : Nat) : Nat → T5 → Int → T5 → Int → Int → Int → Int → Int → Int → Int → Int → (((T0 × Unit) → Option ρ) × Unit) → Option ρ
 | 0, _, _, _, _, _, _, _, _, _, _, _, _ => none
 | j + 1, v18, v19, v20, v21, v22, v23, v24, v25, v26, v27, v28, nx =>
  bif (decide (v22 < v21)) then
   (ak v20 v22).bind fun x29 =>
   bif decide ((v18.length : Int) = 0) then
    none
   else
    let x30 : Int := ((wr .i64 (v22 + 1)).tmod (v18.length : Int))
    (ak v18 x30).bind fun x31 =>
    (f55 k x29.1.1 x29.1.2.1 x29.1.2.2 x29.2.1 x29.2.2.1 x29.2.2.2 x31.1.1 x31.1.2.1 x31.1.2.2 x31.2.1 x31.2.2.1 x31.2.2.2 v23 v24 v25 v26 v27 v28).bind fun x32 =>
    let x33 : Int := (bif decide (x32.1.1 < v19) then x32.1.1 else v19)
    me k j v18 x33 v20 v21 (wr .i64 (v22 + 1)) v23 v24 v25 v26 v27 v28 nx
  else
   nx.1 ((v19, ()), ())
def zH (k : Nat) : Cut := ⟨⟨[(0, .c (.sl (.pair u1 u1))), (3, .c (.box 5000000)), (5, .c (.int .i64)), (8, .c (.sl (.pair u1 u1))), (9, .c (.int .i64)), (10, .c (.int .i64))], [(5000000, .box 55 k1)], []⟩, [(.exit 0, ⟨[(5, .c (.int .i64))], [], []⟩)], fun ρ j v nx => me k j v.1.1 v.1.2.2.1 v.1.2.2.2.1 v.1.2.2.2.2.1 v.1.2.2.2.2.2.1 v.2.1.1 v.2.1.2.1 v.2.1.2.2.1 v.2.1.2.2.2.1 v.2.1.2.2.2.2.1 v.2.1.2.2.2.2.2.1 nx⟩
def f33 (k : Nat) (a1 : T5) (a2 a3 a4 a5 a6 a7 : Int) : Option (T0 × Unit) :=
 me k k a1 1 a1 (a1.length : Int) 0 a2 a3 a4 a5 a6 a7
  (fun x17 : (T0 × Unit) =>
   some ((x17.1.1, ()), ()),
  ())
def Kj : ab := ee 33 [(0, .c (.sl (.pair u1 u1))), (1, .agg k1)] [(0, .c (.int .i64))] fun k v => f33 k v.1.1 v.1.2.1.1 v.1.2.1.2.1 v.1.2.1.2.2.1 v.1.2.1.2.2.2.1 v.1.2.1.2.2.2.2.1 v.1.2.1.2.2.2.2.2.1
def Jh (k : Nat) : Full := fl k 30 [Ba] (cuts := [(3, (zH k))])
theorem Io (k : Nat) : aO (Jh k) (zH k) (ax Tryz.f33 3) := fun ρ v nx => ⟨by kernel_rfl, fun j => by kernel_rfl⟩
theorem Mv : SN Kj := so Tryz.func33 Jh (fun _ j => ⟨EA.at j, trivial⟩) (fun _ _ => by kernel_rfl) (hob := fun k => Eq.mpr (by kernel_rfl) (And.intro (Io k) (trivial)))
def f92 (k : Nat) (a1 a2 a3 a4 : Int) : Option T19 :=
 (f59 k (wr .i64 (a1 + 4))).bind fun x2 =>
 some (((x2.1.1.1, x2.1.1.2.1, x2.1.1.2.2.1, x2.1.1.2.2.2.1, x2.1.1.2.2.2.2.1, x2.1.1.2.2.2.2.2.1, ()), ()), ())
def BN : ab := ee 92 [(0, .agg k3)] [(0, .agg k1)] fun k v => f92 k v.1.1.1 v.1.1.2.1 v.1.1.2.2.1 v.1.1.2.2.2.1
def MM (k : Nat) : Full := fl k 7 [Ap]
theorem Eb : SN BN := so Tryz.func92 MM (fun _ j => ⟨Fk.at j, trivial⟩) (fun _ _ => by kernel_rfl)
def f57 (k : Nat) (a1 a2 a3 a4 a5 a6 a7 : Int) : Option ((T17 × Unit) × Unit) :=
 (f92 k a7 0 0 0).bind fun x3 =>
 (f78 k x3.1.1.1 x3.1.1.2.1 x3.1.1.2.2.1 x3.1.1.2.2.2.1 x3.1.1.2.2.2.2.1 x3.1.1.2.2.2.2.2.1 a1 a2 a3 a4 a5 a6).bind fun x4 =>
 some (((a7, x4.1.1.1, x4.1.1.2.1, x4.1.1.2.2.1, ()), ()), ())
def Fw : ab := ee 57 [(0, .agg k1), (1, .c (.int .i64))] [(0, .agg k3)] fun k v => f57 k v.1.1.1 v.1.1.2.1 v.1.1.2.2.1 v.1.1.2.2.2.1 v.1.1.2.2.2.2.1 v.1.1.2.2.2.2.2.1 v.1.2.1
def Mq (k : Nat) : Full := fl k 14 [BN, sZ] (touch := [(2, [(5, [5])])])
theorem Jp : SN Fw := so Tryz.func57 Mq (fun _ j => ⟨Eb.at j, wX.at j, trivial⟩) (fun _ _ => by kernel_rfl)
def f91 (k : Nat) (a1 a2 a3 a4 a5 a6 a7 a8 a9 a10 : Int) : Option (T0 × Unit) :=
 (f92 k a1 a2 a3 a4).bind fun x5 =>
 (f78 k x5.1.1.1 x5.1.1.2.1 x5.1.1.2.2.1 x5.1.1.2.2.2.1 x5.1.1.2.2.2.2.1 x5.1.1.2.2.2.2.2.1 a5 a6 a7 a8 a9 a10).bind fun x6 =>
 (f112 k x6.1.1.1 x6.1.1.2.1 x6.1.1.2.2.1 a2 a3 a4).bind fun x7 =>
 (f79 k x7.1.1.1 x7.1.1.2.1 x7.1.1.2.2.1).bind fun x8 =>
 some ((x8.1.1, ()), ())
def EH : ab := ee 91 [(0, .agg k3), (1, .agg k1)] [(0, .c (.int .i64))] fun k v => f91 k v.1.1.1 v.1.1.2.1 v.1.1.2.2.1 v.1.1.2.2.2.1 v.1.2.1.1 v.1.2.1.2.1 v.1.2.1.2.2.1 v.1.2.1.2.2.2.1 v.1.2.1.2.2.2.2.1 v.1.2.1.2.2.2.2.2.1
def MN (k : Nat) : Full := fl k 13 [BN, sZ, pn, sL]
theorem Kf : SN EH := so Tryz.func91 MN (fun _ j => ⟨Eb.at j, wX.at j, qE.at j, vC.at j, trivial⟩) (fun _ _ => by kernel_rfl)
def f122 (k : Nat) (a1 a2 a3 a4 a5 a6 a7 a8 a9 a10 a11 a12 : Int) : Option ((T17 × Bool × Unit) × Unit) :=
 (f44 k a1 a2 a3 a4 a5 a6 a7 a8 a9 a10 a11 a12).bind fun x3 =>
 (f57 k a1 a2 a3 a4 a5 a6 (x3.1.1.tmod 8)).bind fun x4 =>
 some (((x4.1.1.1, x4.1.1.2.1, x4.1.1.2.2.1, x4.1.1.2.2.2.1, ()), (decide (x3.1.1 < 8)), ()), ())
def GN : ab := ee 122 [(0, .agg k1), (1, .agg k1)] [(0, .agg k3), (1, .c .bool)] fun k v => f122 k v.1.1.1 v.1.1.2.1 v.1.1.2.2.1 v.1.1.2.2.2.1 v.1.1.2.2.2.2.1 v.1.1.2.2.2.2.2.1 v.1.2.1.1 v.1.2.1.2.1 v.1.2.1.2.2.1 v.1.2.1.2.2.2.1 v.1.2.1.2.2.2.2.1 v.1.2.1.2.2.2.2.2.1
def LY (k : Nat) : Full := fl k 16 [sw, Fw]
theorem K4 : SN GN := so Tryz.func122 LY (fun _ j => ⟨wv.at j, Jp.at j, trivial⟩) (fun _ _ => by kernel_rfl)
def jX {ρ : Type} (k : Nat) : Nat → Int → Int → Int → Int → Int → Int → Int → ((((Unit × Int × Unit × Unit) × T14) → Option ρ) × Unit) → Option ρ
 | 0, _, _, _, _, _, _, _, _ => none
 | j + 1, v24, v25, v26, v27, v28, v29, v30, nx =>
  bif ((dN .i64 v24 1) == 0) then
   jX k j (wr .i64 (v24.tdiv 2)) v25 v26 v27 v28 v29 (wr .i64 (v30 + 1)) nx
  else
   nx.1 (((), v24, (), ()), ((v25, v26, v27, ()), (v28, v29, v30, ()), ()))
def wc (k : Nat) : Cut := ⟨⟨[(4, .c (.box 5000000)), (6, .c (.int .i64)), (7, .c (.box 5000001))], [(5000000, .box 53 k0), (5000001, .box 53 k0)], []⟩, [(.exit 0, ⟨[(4, .c (.box 5000000)), (6, .c (.int .i64)), (7, .c (.box 5000001))], [(5000000, .box 53 k0), (5000001, .box 53 k0)], []⟩)], fun ρ j v nx => jX k j v.1.2.1 v.2.1.1 v.2.1.2.1 v.2.1.2.2.1 v.2.2.1.1 v.2.2.1.2.1 v.2.2.1.2.2.1 nx⟩
def f144 (k : Nat) (a1 a2 a3 a4 a5 a6 : Int) : Option ((T12 × Bool × Unit) × Unit) :=
 let x16 : Int := (wr .i64 ((wr .i64 (a4 * a4)) - (wr .i64 ((wr .i64 (2 * a5)) * a5))))
 bif (x16 == 0) then
  some (((0, 0, 0, ()), false, ()), ())
 else
  (f113 k a1 a2 a3 a4 (wr .i64 (0 - a5)) 0).bind fun x17 =>
  jX k k x16 0 0 0 x17.1.1.1 x17.1.1.2.1 (wr .i64 (x17.1.1.2.2.1 - a6))
   (fun x19 : ((Unit × Int × Unit × Unit) × T14) =>
    bif decide (x19.1.2.1 = 0) then
     none
    else
     bif ((x19.2.2.1.1.tmod x19.1.2.1) != 0) then
      some (((0, 0, 0, ()), false, ()), ())
     else
      bif decide (x19.1.2.1 = 0) then
       none
      else
       bif ((x19.2.2.1.2.1.tmod x19.1.2.1) != 0) then
        some (((0, 0, 0, ()), false, ()), ())
       else
        bif decide (x19.1.2.1 = 0) then
         none
        else
         bif decide (x19.1.2.1 = 0) then
          none
         else
          bif (decide (x19.2.2.1.2.2.1 < 0)) then
           bif decide ((wr .i64 (0 - x19.2.2.1.2.2.1)) < 0) then
            none
           else
            let x20 : Int := (cP .i64 (wr .i64 (x19.2.2.1.1.tdiv x19.1.2.1)) (wr .i64 (0 - x19.2.2.1.2.2.1)))
            bif decide ((wr .i64 (0 - x19.2.2.1.2.2.1)) < 0) then
             none
            else
             let x21 : Int := (cP .i64 (wr .i64 (x19.2.2.1.2.1.tdiv x19.1.2.1)) (wr .i64 (0 - x19.2.2.1.2.2.1)))
             (f139 k x20 x21 0).bind fun x22 =>
             some (((x22.1.1.1, x22.1.1.2.1, x22.1.1.2.2.1, ()), true, ()), ())
          else
           (f139 k (wr .i64 (x19.2.2.1.1.tdiv x19.1.2.1)) (wr .i64 (x19.2.2.1.2.1.tdiv x19.1.2.1)) x19.2.2.1.2.2.1).bind fun x23 =>
           some (((x23.1.1.1, x23.1.1.2.1, x23.1.1.2.2.1, ()), true, ()), ()),
   ())
def Gj : ab := ee 144 [(0, .agg k0), (1, .agg k0)] [(0, .agg k0), (1, .c .bool)] fun k v => f144 k v.1.1.1 v.1.1.2.1 v.1.1.2.2.1 v.1.2.1.1 v.1.2.1.2.1 v.1.2.1.2.2.1
def GW (k : Nat) : Full := fl k 89 [rE, vg] (cuts := [(6, (wc k))]) (touch := [(11, [(9, [5000001]), (11, [5000001])]), (13, [(13, [5000001]), (15, [5000001]), (17, [5000001])])])
theorem D6 (k : Nat) : aO (GW k) (wc k) (ax Tryz.f144 6) := fun ρ v nx => ⟨by kernel_rfl, fun j => by kernel_rfl⟩
theorem KT : SN Gj := so Tryz.func144 GW (fun _ j => ⟨vc.at j, AU.at j, trivial⟩) (fun _ _ => by kernel_rfl) (hob := fun k => Eq.mpr (by kernel_rfl) (And.intro (D6 k) (trivial)))
def f123 (k : Nat) (a1 a2 a3 a4 a5 a6 a7 a8 : Int) : Option ((T18 × Bool × Unit) × Unit) :=
 (f92 k a1 a2 a3 a4).bind fun x12 =>
 (f92 k a5 a6 a7 a8).bind fun x13 =>
 (f77 k x12.1.1.1 x12.1.1.2.1 x12.1.1.2.2.1 x12.1.1.2.2.2.1 x12.1.1.2.2.2.2.1 x12.1.1.2.2.2.2.2.1 x13.1.1.1 x13.1.1.2.1 x13.1.1.2.2.1 x13.1.1.2.2.2.1 x13.1.1.2.2.2.2.1 x13.1.1.2.2.2.2.2.1).bind fun x14 =>
 (f113 k a2 a3 a4 x13.1.1.2.2.2.1 x13.1.1.2.2.2.2.1 x13.1.1.2.2.2.2.2.1).bind fun x15 =>
 (f113 k a6 a7 a8 x12.1.1.2.2.2.1 x12.1.1.2.2.2.2.1 x12.1.1.2.2.2.2.2.1).bind fun x16 =>
 (f112 k x15.1.1.1 x15.1.1.2.1 x15.1.1.2.2.1 x16.1.1.1 x16.1.1.2.1 x16.1.1.2.2.1).bind fun x17 =>
 (f144 k x17.1.1.1 x17.1.1.2.1 x17.1.1.2.2.1 x14.1.1.1 x14.1.1.2.1 x14.1.1.2.2.1).bind fun x18 =>
 (f113 k a6 a7 a8 x12.1.1.1 x12.1.1.2.1 x12.1.1.2.2.1).bind fun x19 =>
 (f113 k a2 a3 a4 x13.1.1.1 x13.1.1.2.1 x13.1.1.2.2.1).bind fun x20 =>
 (f112 k x19.1.1.1 x19.1.1.2.1 x19.1.1.2.2.1 x20.1.1.1 x20.1.1.2.1 x20.1.1.2.2.1).bind fun x21 =>
 (f144 k x21.1.1.1 x21.1.1.2.1 x21.1.1.2.2.1 x14.1.1.1 x14.1.1.2.1 x14.1.1.2.2.1).bind fun x22 =>
 bif x18.1.2.1 then
  some (((x18.1.1.1, x18.1.1.2.1, x18.1.1.2.2.1, x22.1.1.1, x22.1.1.2.1, x22.1.1.2.2.1, ()), x22.1.2.1, ()), ())
 else
  some (((x18.1.1.1, x18.1.1.2.1, x18.1.1.2.2.1, x22.1.1.1, x22.1.1.2.1, x22.1.1.2.2.1, ()), false, ()), ())
def Gp : ab := ee 123 [(0, .agg k3), (1, .agg k3)] [(0, .agg k1), (1, .c .bool)] fun k v => f123 k v.1.1.1 v.1.1.2.1 v.1.1.2.2.1 v.1.1.2.2.2.1 v.1.2.1.1 v.1.2.1.2.1 v.1.2.1.2.2.1 v.1.2.1.2.2.2.1
def KL (k : Nat) : Full := fl k 59 [BN, Bz, rE, pn, Gj] (touch := [(1, [(6, [6]), (7, [7])]), (3, [(17, [9])]), (4, [(17, [11])])])
theorem LO : SN Gp := so Tryz.func123 KL (fun _ j => ⟨Eb.at j, EC.at j, vc.at j, qE.at j, KT.at j, trivial⟩) (fun _ _ => by kernel_rfl)
def iU {ρ : Type} (k : Nat) (v116 : T5) (v117 : Int) (v118 : Bool) (v119 v120 : Int) (v121 : T5) (v122 v123 v124 v125 v126 v127 : Int) (v128 : T5) (v129 v130 v131 v132 v133 v134 v135 v136 v137 v138 v139 v140 : Int) (nx : (((T21 × (T17 × T5 × Unit)) → Option ρ) × Unit)) : Option ρ :=
 bif (decide ((wr .i64 (v119 * v120)) < 0)) then
  (f122 k v129 v130 v131 v132 v133 v134 v135 v136 v137 v138 v139 v140).bind fun x141 =>
  (f123 k x141.1.1.1 x141.1.1.2.1 x141.1.1.2.2.1 x141.1.1.2.2.2.1 v124 v125 v126 v127).bind fun x142 =>
  bif decide ((v128.length + [((x142.1.1.1, (x142.1.1.2.1, x142.1.1.2.2.1)), (x142.1.1.2.2.2.1, (x142.1.1.2.2.2.2.1, x142.1.1.2.2.2.2.2.1)))].length) * 48 ≤ roomy) then
   let x143 : T5 := (v128 ++ [((x142.1.1.1, (x142.1.1.2.1, x142.1.1.2.2.1)), (x142.1.1.2.2.2.1, (x142.1.1.2.2.2.2.1, x142.1.1.2.2.2.2.2.1)))])
   nx.1 ((v116, v117, (), (), v118, v121, v122, v123, ()), ((v124, v125, v126, v127, ()), x143, ()))
  else
   none
 else
  nx.1 ((v116, v117, (), (), v118, v121, v122, v123, ()), ((v124, v125, v126, v127, ()), v128, ()))
def xC : Cut := ⟨⟨[(0, .c (.sl (.pair u1 u1))), (2, .c (.int .i64)), (4, .c (.box 5000000)), (7, .c (.row 5000001)), (8, .c .bool), (10, .c (.box 5000002)), (11, .c (.box 5000003)), (12, .c (.int .i64)), (13, .c (.int .i64)), (18, .c (.sl (.pair u1 u1))), (19, .c (.int .i64)), (20, .c (.int .i64))], [(5000000, .box 94 k3), (5000001, .row 55 (.pair u1 u1)), (5000002, .box 55 k1), (5000003, .box 55 k1)], []⟩, [(.normal, ⟨[(0, .c (.sl (.pair u1 u1))), (2, .c (.int .i64)), (4, .c (.box 5000000)), (7, .c (.row 5000001)), (8, .c .bool), (18, .c (.sl (.pair u1 u1))), (19, .c (.int .i64)), (20, .c (.int .i64))], [(5000000, .box 94 k3), (5000001, .row 55 (.pair u1 u1))], []⟩)], fun ρ k v nx => iU k v.1.1 v.1.2.1 v.1.2.2.2.2.1 v.1.2.2.2.2.2.2.2.1 v.1.2.2.2.2.2.2.2.2.1 v.1.2.2.2.2.2.2.2.2.2.1 v.1.2.2.2.2.2.2.2.2.2.2.1 v.1.2.2.2.2.2.2.2.2.2.2.2.1 v.2.1.1 v.2.1.2.1 v.2.1.2.2.1 v.2.1.2.2.2.1 v.2.2.1 v.2.2.2.1.1 v.2.2.2.1.2.1 v.2.2.2.1.2.2.1 v.2.2.2.1.2.2.2.1 v.2.2.2.1.2.2.2.2.1 v.2.2.2.1.2.2.2.2.2.1 v.2.2.2.2.1.1 v.2.2.2.2.1.2.1 v.2.2.2.2.1.2.2.1 v.2.2.2.2.1.2.2.2.1 v.2.2.2.2.1.2.2.2.2.1 v.2.2.2.2.1.2.2.2.2.2.1 nx⟩
def iK {ρ : Type} (k : Nat) : Nat → T5 → Int → Bool → T5 → Int → Int → Int → Int → Int → Int → T5 → (((T11 × (T5 × Unit)) → Option ρ) × Unit) → Option ρ
 | 0, _, _, _, _, _, _, _, _, _, _, _, _ => none
 | j + 1, v97, v98, v99, v100, v101, v102, v103, v104, v105, v106, v107, nx =>
  bif (decide (v102 < v101)) then
   (ak v100 v102).bind fun x108 =>
   bif decide ((v97.length : Int) = 0) then
    none
   else
    let x109 : Int := ((wr .i64 (v102 + 1)).tmod (v97.length : Int))
    (ak v97 x109).bind fun x110 =>
    (f91 k v103 v104 v105 v106 x108.1.1 x108.1.2.1 x108.1.2.2 x108.2.1 x108.2.2.1 x108.2.2.2).bind fun x111 =>
    (f91 k v103 v104 v105 v106 x110.1.1 x110.1.2.1 x110.1.2.2 x110.2.1 x110.2.2.1 x110.2.2.2).bind fun x112 =>
    bif (decide ((wr .i64 (v98 * x111.1.1)) ≥ 0)) then
     bif decide ((v107.length + [x108].length) * 48 ≤ roomy) then
      bif v99 then
       iU k v97 v98 true (wr .i64 (v98 * x111.1.1)) (wr .i64 (v98 * x112.1.1)) v100 v101 v102 v103 v104 v105 v106 (v107 ++ [x108]) x108.1.1 x108.1.2.1 x108.1.2.2 x108.2.1 x108.2.2.1 x108.2.2.2 x110.1.1 x110.1.2.1 x110.1.2.2 x110.2.1 x110.2.2.1 x110.2.2.2
        (fun x113 : (T21 × (T17 × T5 × Unit)) =>
         iK k j x113.1.1 x113.1.2.1 x113.1.2.2.2.2.1 x113.1.2.2.2.2.2.1 x113.1.2.2.2.2.2.2.1 (wr .i64 (x113.1.2.2.2.2.2.2.2.1 + 1)) x113.2.1.1 x113.2.1.2.1 x113.2.1.2.2.1 x113.2.1.2.2.2.1 x113.2.2.1 nx,
        ())
      else
       iU k v97 v98 (decide ((wr .i64 (v98 * x111.1.1)) > 0)) (wr .i64 (v98 * x111.1.1)) (wr .i64 (v98 * x112.1.1)) v100 v101 v102 v103 v104 v105 v106 (v107 ++ [x108]) x108.1.1 x108.1.2.1 x108.1.2.2 x108.2.1 x108.2.2.1 x108.2.2.2 x110.1.1 x110.1.2.1 x110.1.2.2 x110.2.1 x110.2.2.1 x110.2.2.2
        (fun x114 : (T21 × (T17 × T5 × Unit)) =>
         iK k j x114.1.1 x114.1.2.1 x114.1.2.2.2.2.1 x114.1.2.2.2.2.2.1 x114.1.2.2.2.2.2.2.1 (wr .i64 (x114.1.2.2.2.2.2.2.2.1 + 1)) x114.2.1.1 x114.2.1.2.1 x114.2.1.2.2.1 x114.2.1.2.2.2.1 x114.2.2.1 nx,
        ())
     else
      none
    else
     iU k v97 v98 v99 (wr .i64 (v98 * x111.1.1)) (wr .i64 (v98 * x112.1.1)) v100 v101 v102 v103 v104 v105 v106 v107 x108.1.1 x108.1.2.1 x108.1.2.2 x108.2.1 x108.2.2.1 x108.2.2.2 x110.1.1 x110.1.2.1 x110.1.2.2 x110.2.1 x110.2.2.1 x110.2.2.2
      (fun x115 : (T21 × (T17 × T5 × Unit)) =>
       iK k j x115.1.1 x115.1.2.1 x115.1.2.2.2.2.1 x115.1.2.2.2.2.2.1 x115.1.2.2.2.2.2.2.1 (wr .i64 (x115.1.2.2.2.2.2.2.2.1 + 1)) x115.2.1.1 x115.2.1.2.1 x115.2.1.2.2.1 x115.2.1.2.2.2.1 x115.2.2.1 nx,
      ())
  else
   nx.1 (((), v99, ()), (v107, ()))
def Af (k : Nat) : Cut := ⟨⟨[(0, .c (.sl (.pair u1 u1))), (2, .c (.int .i64)), (4, .c (.box 5000000)), (7, .c (.row 5000001)), (8, .c .bool), (18, .c (.sl (.pair u1 u1))), (19, .c (.int .i64)), (20, .c (.int .i64))], [(5000000, .box 94 k3), (5000001, .row 55 (.pair u1 u1))], []⟩, [(.exit 0, ⟨[(7, .c (.row 5000000)), (8, .c .bool)], [(5000000, .row 55 (.pair u1 u1))], []⟩)], fun ρ j v nx => iK k j v.1.1 v.1.2.1 v.1.2.2.2.2.1 v.1.2.2.2.2.2.1 v.1.2.2.2.2.2.2.1 v.1.2.2.2.2.2.2.2.1 v.2.1.1 v.2.1.2.1 v.2.1.2.2.1 v.2.1.2.2.2.1 v.2.2.1 nx⟩
def f90 (k : Nat) (a1 : T5) (a2 a3 a4 a5 a6 : Int) : Option T9 :=
 iK k k a1 a6 false a1 (a1.length : Int) 0 a2 a3 a4 a5 ([] : List (T4 × T4))
  (fun x95 : (T11 × (T5 × Unit)) =>
   bif (!x95.1.2.1) then
    some (((), ()), (([] : List (T4 × T4)), ()))
   else
    (f88 k x95.2.1).bind fun x96 =>
    some (((), ()), (x96.2.1, ())),
  ())
def IK : ab := ⟨90, ⟨[(0, .c (.sl (.pair u1 u1))), (1, .agg k3), (2, .c (.int .i64))], [], []⟩, ⟨[(0, .c (.row 4000000))], [(4000000, .row 55 (.pair u1 u1))], []⟩, fun k v => f90 k v.1.1 v.1.2.1.1 v.1.2.1.2.1 v.1.2.1.2.2.1 v.1.2.1.2.2.2.1 v.1.2.2.1⟩
def Eg (k : Nat) : Full := fl k 79 [EH, GN, Gp, D4] (cuts := [(4, (Af k))]) (joins := [(11, xC)])
theorem FV (k : Nat) : df (Eg k) xC (db Tryz.f90 11) := fun ρ v nx => by kernel_rfl
theorem HJ (k : Nat) : aO (Eg k) (Af k) (ax Tryz.f90 4) := fun ρ v nx => ⟨by kernel_rfl, fun j => by kernel_rfl⟩
theorem L4 : SN IK := so Tryz.func90 Eg (fun _ j => ⟨Kf.at j, K4.at j, LO.at j, Jg.at j, trivial⟩) (fun _ _ => by kernel_rfl) (hob := fun k => Eq.mpr (by kernel_rfl) (And.intro (FV k) (And.intro (HJ k) (trivial))))
def ki {ρ : Type} (k : Nat) : Nat → Int → Int → Int → Int → Int → Int → Int → Int → Int → Int → Int → Int → Int → Int → Int → Int → Int → Int → T5 → T5 → ((((Unit × Unit × Unit × Unit) × (T18 × T18 × T5 × Unit)) → Option ρ) × Unit) → Option ρ
 | 0, _, _, _, _, _, _, _, _, _, _, _, _, _, _, _, _, _, _, _, _, _ => none
 | j + 1, v64, v65, v66, v67, v68, v69, v70, v71, v72, v73, v74, v75, v76, v77, v78, v79, v80, v81, v82, v83, nx =>
  bif (decide (v65 < v64)) then
   bif decide (0 ≤ v65) && decide (v65 < (v83.length : Int)) then
    (v83[v65.toNat]?).bind fun x84 =>
    (f91 k v66 v67 v68 v69 x84.1.1 x84.1.2.1 x84.1.2.2 x84.2.1 x84.2.2.1 x84.2.2.2).bind fun x85 =>
    bif (x85.1.1 == 0) then
     bif decide ((v82.length + [x84].length) * 48 ≤ roomy) then
      ki k j v64 (wr .i64 (v65 + 1)) v66 v67 v68 v69 v70 v71 v72 v73 v74 v75 v76 v77 v78 v79 v80 v81 (v82 ++ [x84]) v83 nx
     else
      none
    else
     ki k j v64 (wr .i64 (v65 + 1)) v66 v67 v68 v69 v70 v71 v72 v73 v74 v75 v76 v77 v78 v79 v80 v81 v82 v83 nx
   else
    none
  else
   nx.1 (((), (), (), ()), ((v70, v71, v72, v73, v74, v75, ()), (v76, v77, v78, v79, v80, v81, ()), v82, ()))
def zp (k : Nat) : Cut := ⟨⟨[(3, .c (.box 5000000)), (4, .c (.box 5000001)), (5, .c (.box 5000002)), (7, .c (.row 5000003)), (26, .c (.row 5000004)), (27, .c (.int .i64)), (28, .c (.int .i64))], [(5000000, .box 94 k3), (5000001, .box 55 k1), (5000002, .box 55 k1), (5000003, .row 55 (.pair u1 u1)), (5000004, .row 55 (.pair u1 u1))], []⟩, [(.exit 0, ⟨[(4, .c (.box 5000000)), (5, .c (.box 5000001)), (7, .c (.row 5000002))], [(5000000, .box 55 k1), (5000001, .box 55 k1), (5000002, .row 55 (.pair u1 u1))], []⟩)], fun ρ j v nx => ki k j v.1.2.2.2.2.2.1 v.1.2.2.2.2.2.2.1 v.2.1.1 v.2.1.2.1 v.2.1.2.2.1 v.2.1.2.2.2.1 v.2.2.1.1 v.2.2.1.2.1 v.2.2.1.2.2.1 v.2.2.1.2.2.2.1 v.2.2.1.2.2.2.2.1 v.2.2.1.2.2.2.2.2.1 v.2.2.2.1.1 v.2.2.2.1.2.1 v.2.2.2.1.2.2.1 v.2.2.2.1.2.2.2.1 v.2.2.2.1.2.2.2.2.1 v.2.2.2.1.2.2.2.2.2.1 v.2.2.2.2.1 v.2.2.2.2.2.1 nx⟩
def f56 (k : Nat) (a1 : T5) (a2 a3 a4 a5 : Int) : Option ((T18 × T18 × Bool × Unit) × Unit) :=
 (f90 k a1 a2 a3 a4 a5 1).bind fun x56 =>
 bif ((x56.2.1.length : Int) == 0) then
  some (((0, 0, 0, 0, 0, 0, ()), (0, 0, 0, 0, 0, 0, ()), false, ()), ())
 else
  (f90 k a1 a2 a3 a4 a5 (-1)).bind fun x57 =>
  bif ((x57.2.1.length : Int) == 0) then
   some (((0, 0, 0, 0, 0, 0, ()), (0, 0, 0, 0, 0, 0, ()), false, ()), ())
  else
   (f90 k a1 a2 a3 a4 a5 1).bind fun x60 =>
   ki k k (x60.2.1.length : Int) 0 a2 a3 a4 a5 0 0 0 0 0 0 0 0 0 0 0 0 ([] : List (T4 × T4)) x60.2.1
    (fun x61 : ((Unit × Unit × Unit × Unit) × (T18 × T18 × T5 × Unit)) =>
     bif decide (0 ≤ 0) && decide (0 < (x61.2.2.2.1.length : Int)) then
      (x61.2.2.2.1[0]?).bind fun x62 =>
      bif decide (0 ≤ (wr .i64 ((x61.2.2.2.1.length : Int) - 1))) && decide ((wr .i64 ((x61.2.2.2.1.length : Int) - 1)) < (x61.2.2.2.1.length : Int)) then
       (x61.2.2.2.1[(wr .i64 ((x61.2.2.2.1.length : Int) - 1)).toNat]?).bind fun x63 =>
       some (((x62.1.1, x62.1.2.1, x62.1.2.2, x62.2.1, x62.2.2.1, x62.2.2.2, ()), (x63.1.1, x63.1.2.1, x63.1.2.2, x63.2.1, x63.2.2.1, x63.2.2.2, ()), true, ()), ())
      else
       none
     else
      none,
    ())
def Kb : ab := ee 56 [(0, .c (.sl (.pair u1 u1))), (1, .agg k3)] [(0, .agg k1), (1, .agg k1), (2, .c .bool)] fun k v => f56 k v.1.1 v.1.2.1.1 v.1.2.1.2.1 v.1.2.1.2.2.1 v.1.2.1.2.2.2.1
def IP (k : Nat) : Full := fl k 50 [IK, EH] (cuts := [(5, (zp k))]) (touch := [(10, [(9, [5000000]), (10, [5000001])])])
theorem HI (k : Nat) : aO (IP k) (zp k) (ax Tryz.f56 5) := fun ρ v nx => ⟨by kernel_rfl, fun j => by kernel_rfl⟩
theorem Mz : SN Kb := so Tryz.func56 IP (fun _ j => ⟨L4.at j, Kf.at j, trivial⟩) (fun _ _ => by kernel_rfl) (hob := fun k => Eq.mpr (by kernel_rfl) (And.intro (HI k) (trivial)))
def f93 (k : Nat) (a1 a2 a3 a4 a5 a6 a7 a8 a9 a10 a11 a12 a13 a14 a15 a16 a17 a18 : Int) : Option (T14 × Unit) :=
 (f78 k a1 a2 a3 a4 a5 a6 a7 a8 a9 a10 a11 a12).bind fun x4 =>
 (f78 k a1 a2 a3 a4 a5 a6 a13 a14 a15 a16 a17 a18).bind fun x5 =>
 (f75 k x4.1.1.1 x4.1.1.2.1 x4.1.1.2.2.1 x5.1.1.1 x5.1.1.2.1 x5.1.1.2.2.1).bind fun x6 =>
 bif (decide (x6.1.1 > 0)) then
  some (((x5.1.1.1, x5.1.1.2.1, x5.1.1.2.2.1, ()), (x4.1.1.1, x4.1.1.2.1, x4.1.1.2.2.1, ()), ()), ())
 else
  some (((x4.1.1.1, x4.1.1.2.1, x4.1.1.2.2.1, ()), (x5.1.1.1, x5.1.1.2.1, x5.1.1.2.2.1, ()), ()), ())
def JZ : ab := ee 93 [(0, .agg k1), (1, .agg k1), (2, .agg k1)] [(0, .agg k0), (1, .agg k0)] fun k v => f93 k v.1.1.1 v.1.1.2.1 v.1.1.2.2.1 v.1.1.2.2.2.1 v.1.1.2.2.2.2.1 v.1.1.2.2.2.2.2.1 v.1.2.1.1 v.1.2.1.2.1 v.1.2.1.2.2.1 v.1.2.1.2.2.2.1 v.1.2.1.2.2.2.2.1 v.1.2.1.2.2.2.2.2.1 v.1.2.2.1.1 v.1.2.2.1.2.1 v.1.2.2.1.2.2.1 v.1.2.2.1.2.2.2.1 v.1.2.2.1.2.2.2.2.1 v.1.2.2.1.2.2.2.2.2.1
def NI (k : Nat) : Full := fl k 24 [sZ, Bg] (touch := [(1, [(8, [8]), (9, [9])]), (4, [(2, [6]), (3, [7])])])
theorem Nl : SN JZ := so Tryz.func93 NI (fun _ j => ⟨wX.at j, ES.at j, trivial⟩) (fun _ _ => by kernel_rfl)
def ot {ρ : Type} (k : Nat) (v62 v63 v64 v65 v66 v67 v68 v69 v70 v71 v72 v73 : Int) (nx : (((T15 × T14) → Option ρ) × Unit)) : Option ρ :=
 (f75 k v68 v69 v70 v71 v72 v73).bind fun x74 =>
 nx.1 (((), (), (decide (x74.1.1 < 0)), ()), ((v68, v69, v70, ()), (v71, v72, v73, ()), ()))
def Ad : Cut := ⟨⟨[(10, .c (.box 5000000)), (11, .c (.box 5000001)), (13, .c (.box 5000002)), (14, .c (.box 5000003))], [(5000000, .box 53 k0), (5000001, .box 53 k0), (5000002, .box 53 k0), (5000003, .box 53 k0)], []⟩, [(.ret, ⟨[(10, .c (.box 5000000)), (11, .c (.box 5000001)), (12, .c .bool)], [(5000000, .box 53 k0), (5000001, .box 53 k0)], []⟩)], fun ρ k v nx => ot k v.2.1.1 v.2.1.2.1 v.2.1.2.2.1 v.2.2.1.1 v.2.2.1.2.1 v.2.2.1.2.2.1 v.2.2.2.1.1 v.2.2.2.1.2.1 v.2.2.2.1.2.2.1 v.2.2.2.2.1.1 v.2.2.2.2.1.2.1 v.2.2.2.2.1.2.2.1 nx⟩
def kv {ρ : Type} (k : Nat) (v44 v45 v46 v47 v48 v49 v50 v51 v52 v53 v54 v55 v56 v57 v58 : Int) (nx : (((T15 × T14) → Option ρ) × Unit)) : Option ρ :=
 (f75 k v56 v57 v58 v53 v54 v55).bind fun x59 =>
 bif (decide (x59.1.1 < 0)) then
  ot k v44 v45 v46 v47 v48 v49 v50 v51 v52 v56 v57 v58
   (fun x60 : (T15 × T14) =>
    nx.1 (((), (), x60.1.2.2.1, ()), ((x60.2.1.1, x60.2.1.2.1, x60.2.1.2.2.1, ()), (x60.2.2.1.1, x60.2.2.1.2.1, x60.2.2.1.2.2.1, ()), ())),
   ())
 else
  ot k v44 v45 v46 v47 v48 v49 v50 v51 v52 v53 v54 v55
   (fun x61 : (T15 × T14) =>
    nx.1 (((), (), x61.1.2.2.1, ()), ((x61.2.1.1, x61.2.1.2.1, x61.2.1.2.2.1, ()), (x61.2.2.1.1, x61.2.2.1.2.1, x61.2.2.1.2.2.1, ()), ())),
   ())
def yU : Cut := ⟨⟨[(10, .c (.box 5000000)), (11, .c (.box 5000001)), (13, .c (.box 5000002)), (14, .c (.box 5000003)), (16, .c (.box 5000004))], [(5000000, .box 53 k0), (5000001, .box 53 k0), (5000002, .box 53 k0), (5000003, .box 53 k0), (5000004, .box 53 k0)], []⟩, [(.ret, ⟨[(10, .c (.box 5000000)), (11, .c (.box 5000001)), (12, .c .bool)], [(5000000, .box 53 k0), (5000001, .box 53 k0)], []⟩)], fun ρ k v nx => kv k v.2.1.1 v.2.1.2.1 v.2.1.2.2.1 v.2.2.1.1 v.2.2.1.2.1 v.2.2.1.2.2.1 v.2.2.2.1.1 v.2.2.2.1.2.1 v.2.2.2.1.2.2.1 v.2.2.2.2.1.1 v.2.2.2.2.1.2.1 v.2.2.2.2.1.2.2.1 v.2.2.2.2.2.1.1 v.2.2.2.2.2.1.2.1 v.2.2.2.2.2.1.2.2.1 nx⟩
def f58 (k : Nat) (a1 a2 a3 a4 a5 a6 a7 a8 a9 a10 a11 a12 a13 a14 a15 a16 a17 a18 a19 a20 a21 a22 a23 a24 a25 a26 a27 a28 a29 a30 : Int) : Option ((T12 × T12 × Bool × Unit) × Unit) :=
 (f93 k a1 a2 a3 a4 a5 a6 a7 a8 a9 a10 a11 a12 a13 a14 a15 a16 a17 a18).bind fun x39 =>
 (f93 k a1 a2 a3 a4 a5 a6 a19 a20 a21 a22 a23 a24 a25 a26 a27 a28 a29 a30).bind fun x40 =>
 (f75 k x40.1.1.1 x40.1.1.2.1 x40.1.1.2.2.1 x39.1.1.1 x39.1.1.2.1 x39.1.1.2.2.1).bind fun x41 =>
 bif (decide (x41.1.1 > 0)) then
  kv k 0 0 0 0 0 0 x40.1.1.1 x40.1.1.2.1 x40.1.1.2.2.1 x39.1.2.1.1 x39.1.2.1.2.1 x39.1.2.1.2.2.1 x40.1.2.1.1 x40.1.2.1.2.1 x40.1.2.1.2.2.1
   (fun x42 : (T15 × T14) =>
    some (((x42.2.1.1, x42.2.1.2.1, x42.2.1.2.2.1, ()), (x42.2.2.1.1, x42.2.2.1.2.1, x42.2.2.1.2.2.1, ()), x42.1.2.2.1, ()), ()),
   ())
 else
  kv k 0 0 0 0 0 0 x39.1.1.1 x39.1.1.2.1 x39.1.1.2.2.1 x39.1.2.1.1 x39.1.2.1.2.1 x39.1.2.1.2.2.1 x40.1.2.1.1 x40.1.2.1.2.1 x40.1.2.1.2.2.1
   (fun x43 : (T15 × T14) =>
    some (((x43.2.1.1, x43.2.1.2.1, x43.2.1.2.2.1, ()), (x43.2.2.1.1, x43.2.2.1.2.1, x43.2.2.1.2.2.1, ()), x43.1.2.2.1, ()), ()),
   ())
def JS : ab := ee 58 [(0, .agg k1), (1, .agg k1), (2, .agg k1), (3, .agg k1), (4, .agg k1)] [(0, .agg k0), (1, .agg k0), (2, .c .bool)] fun k v => f58 k v.1.1.1 v.1.1.2.1 v.1.1.2.2.1 v.1.1.2.2.2.1 v.1.1.2.2.2.2.1 v.1.1.2.2.2.2.2.1 v.1.2.1.1 v.1.2.1.2.1 v.1.2.1.2.2.1 v.1.2.1.2.2.2.1 v.1.2.1.2.2.2.2.1 v.1.2.1.2.2.2.2.2.1 v.1.2.2.1.1 v.1.2.2.1.2.1 v.1.2.2.1.2.2.1 v.1.2.2.1.2.2.2.1 v.1.2.2.1.2.2.2.2.1 v.1.2.2.1.2.2.2.2.2.1 v.1.2.2.2.1.1 v.1.2.2.2.1.2.1 v.1.2.2.2.1.2.2.1 v.1.2.2.2.1.2.2.2.1 v.1.2.2.2.1.2.2.2.2.1 v.1.2.2.2.1.2.2.2.2.2.1 v.1.2.2.2.2.1.1 v.1.2.2.2.2.1.2.1 v.1.2.2.2.2.1.2.2.1 v.1.2.2.2.2.1.2.2.2.1 v.1.2.2.2.2.1.2.2.2.2.1 v.1.2.2.2.2.1.2.2.2.2.2.1
def Ew (k : Nat) : Full := fl k 47 [JZ, Bg] (joins := [(7, Ad), (5, yU)]) (touch := [(7, [(6, [5000000]), (7, [5000001])])])
theorem H3 (k : Nat) : df (Ew k) Ad (db Tryz.f58 7) := fun ρ v nx => by kernel_rfl
theorem Ic (k : Nat) : df (Ew k) yU (db Tryz.f58 5) := fun ρ v nx => by kernel_rfl
theorem Mw : SN JS := so Tryz.func58 Ew (fun _ j => ⟨Nl.at j, ES.at j, trivial⟩) (fun _ _ => by kernel_rfl) (hob := fun k => Eq.mpr (by kernel_rfl) (And.intro (H3 k) (And.intro (Ic k) (trivial))))
def f34 (k : Nat) (a1 : T5) (a2 a3 a4 a5 a6 a7 a8 a9 a10 a11 a12 a13 : Int) : Option (T2 × Unit) :=
 (f44 k a2 a3 a4 a5 a6 a7 a8 a9 a10 a11 a12 a13).bind fun x6 =>
 bif (decide (x6.1.1 < 0)) then
  some ((false, ()), ())
 else
  (f57 k a2 a3 a4 a5 a6 a7 (x6.1.1.tmod 8)).bind fun x7 =>
  (f56 k a1 x7.1.1.1 x7.1.1.2.1 x7.1.1.2.2.1 x7.1.1.2.2.2.1).bind fun x8 =>
  bif (!x8.1.2.2.1) then
   some ((false, ()), ())
  else
   (f59 k x6.1.1).bind fun x9 =>
   (f58 k x9.1.1.1 x9.1.1.2.1 x9.1.1.2.2.1 x9.1.1.2.2.2.1 x9.1.1.2.2.2.2.1 x9.1.1.2.2.2.2.2.1 a2 a3 a4 a5 a6 a7 a8 a9 a10 a11 a12 a13 x8.1.1.1 x8.1.1.2.1 x8.1.1.2.2.1 x8.1.1.2.2.2.1 x8.1.1.2.2.2.2.1 x8.1.1.2.2.2.2.2.1 x8.1.2.1.1 x8.1.2.1.2.1 x8.1.2.1.2.2.1 x8.1.2.1.2.2.2.1 x8.1.2.1.2.2.2.2.1 x8.1.2.1.2.2.2.2.2.1).bind fun x10 =>
   some ((x10.1.2.2.1, ()), ())
def JK : ab := ee 34 [(0, .c (.sl (.pair u1 u1))), (1, .agg k1), (2, .agg k1)] [(0, .c .bool)] fun k v => f34 k v.1.1 v.1.2.1.1 v.1.2.1.2.1 v.1.2.1.2.2.1 v.1.2.1.2.2.2.1 v.1.2.1.2.2.2.2.1 v.1.2.1.2.2.2.2.2.1 v.1.2.2.1.1 v.1.2.2.1.2.1 v.1.2.2.1.2.2.1 v.1.2.2.1.2.2.2.1 v.1.2.2.1.2.2.2.2.1 v.1.2.2.1.2.2.2.2.2.1
def MC (k : Nat) : Full := fl k 40 [sw, Fw, Kb, Ap, JS]
theorem NA : SN JK := so Tryz.func34 MC (fun _ j => ⟨wv.at j, Jp.at j, Mz.at j, Fk.at j, Mw.at j, trivial⟩) (fun _ _ => by kernel_rfl)
def iG {ρ : Type} (k : Nat) : Nat → (List T4) → Int → Int → T5 → (List T4) → T5 → ((T1 → Option ρ) × ((T2 × Unit) → Option ρ) × Unit) → Option ρ
 | 0, _, _, _, _, _, _, _ => none
 | j + 1, v35, v36, v37, v38, v39, v40, nx =>
  bif (decide (v37 < v36)) then
   (ak v35 v37).bind fun x41 =>
   bif (x41.2.2 == 1) then
    iG k j v35 v36 (wr .i64 (v37 + 1)) v38 v39 v40 nx
   else
    (f31 k v38 v39 x41.1 x41.2.1 x41.2.2).bind fun x42 =>
    (f32 k v38 v39 x41.1 x41.2.1 x41.2.2).bind fun x43 =>
    (f33 k v40 x42.1.1.1 x42.1.1.2.1 x42.1.1.2.2.1 x42.1.1.2.2.2.1 x42.1.1.2.2.2.2.1 x42.1.1.2.2.2.2.2.1).bind fun x44 =>
    bif (decide (x44.1.1 < 0)) then
     nx.2.1 ((false, ()), ())
    else
     (f33 k v40 x43.1.1.1 x43.1.1.2.1 x43.1.1.2.2.1 x43.1.1.2.2.2.1 x43.1.1.2.2.2.2.1 x43.1.1.2.2.2.2.2.1).bind fun x45 =>
     bif (decide (x45.1.1 < 0)) then
      nx.2.1 ((false, ()), ())
     else
      (f34 k v40 x42.1.1.1 x42.1.1.2.1 x42.1.1.2.2.1 x42.1.1.2.2.2.1 x42.1.1.2.2.2.2.1 x42.1.1.2.2.2.2.2.1 x43.1.1.1 x43.1.1.2.1 x43.1.1.2.2.1 x43.1.1.2.2.2.1 x43.1.1.2.2.2.2.1 x43.1.1.2.2.2.2.2.1).bind fun x46 =>
      bif (!x46.1.1) then
       nx.2.1 ((false, ()), ())
      else
       iG k j v35 v36 (wr .i64 (v37 + 1)) v38 v39 v40 nx
  else
   nx.1 ((), ())
def Ak (k : Nat) : Cut := ⟨⟨[(1, .c (.box 5000000)), (3, .c (.row 5000001)), (35, .c (.sl u1)), (36, .c (.int .i64)), (37, .c (.int .i64))], [(5000000, .box 31 k2), (5000001, .row 55 (.pair u1 u1))], []⟩, [(.exit 0, ⟨[], [], []⟩), (.ret, ⟨[(2, .c .bool)], [], []⟩)], fun ρ j v nx => iG k j v.1.2.2.1 v.1.2.2.2.1 v.1.2.2.2.2.1 v.2.1.1 v.2.1.2.1 v.2.2.1 nx⟩
def f16 (k : Nat) (a1 : T5) (a2 : (List T4)) : Option (T2 × Unit) :=
 (f26 k a1 a2).bind fun x28 =>
 bif (!x28.1.1) then
  some ((false, ()), ())
 else
  (f27 k a1 a2).bind fun x29 =>
  bif (!x29.1.1) then
   some ((false, ()), ())
  else
   (f28 k a1 a2).bind fun x30 =>
   bif (!x30.1.1) then
    some ((false, ()), ())
   else
    (f29 k a1 a2).bind fun x31 =>
    bif (!x31.1.1) then
     some ((false, ()), ())
    else
     (f30 k a1 a2).bind fun x32 =>
     bif (!x32.1.2.1) then
      some ((false, ()), ())
     else
      iG k k a2 (a2.length : Int) 0 a1 a2 x32.2.1
       (fun x33 : T1 =>
        some ((true, ()), ()),
       fun x34 : (T2 × Unit) =>
        some ((x34.1.1, ()), ()),
       ())
def IA : ab := ee 16 [(0, .agg k2)] [(0, .c .bool)] fun k v => f16 k v.1.1.1 v.1.1.2.1
def Kk (k : Nat) : Full := fl k 68 [JF, Ji, IF, IM, ID, wW, wm, Kj, JK] (cuts := [(7, (Ak k))]) (touch := [(10, [(8, [7]), (9, [8])])])
theorem Ih (k : Nat) : aO (Kk k) (Ak k) (ax Tryz.f16 7) := fun ρ v nx => ⟨by kernel_rfl, fun j => by kernel_rfl⟩
theorem Mg : SN IA := so Tryz.func16 Kk (fun _ j => ⟨Ns.at j, Mr.at j, No.at j, Nz.at j, N5.at j, Bx.at j, At.at j, Mv.at j, NA.at j, trivial⟩) (fun _ _ => by kernel_rfl) (hob := fun k => Eq.mpr (by kernel_rfl) (And.intro (Ih k) (trivial)))
def f18 (k : Nat) (a1 : (List T4)) : Option (T0 × Unit) :=
 some (((a1.length : Int), ()), ())
def Kn : ab := ee 18 [(0, .c (.sl u1))] [(0, .c (.int .i64))] fun k v => f18 k v.1.1
def NH (k : Nat) : Full := fl k 5 []
theorem Mm : SN Kn := so Tryz.func18 NH (fun _ _ => trivial) (fun _ _ => by kernel_rfl)
def f95 (k : Nat) (a1 : Int) : Option (T3 × Unit) := nh a1
def J9 : ab := ⟨95, ⟨[(0, .c (.int .i64))], [], []⟩, ⟨[(0, .c .str)], [], []⟩, fun k v => f95 k v.1.1⟩
theorem Ny : gx Tryz.prog ah J9 := sE
def kh {ρ : Type} (k : Nat) (v46 v47 : ByteArray) (v48 v49 v50 : Int) (nx : ((((Unit × ByteArray × Unit) × T13) → Option ρ) × Unit)) : Option ρ :=
 (f96 k v49).bind fun x51 =>
 (f95 k x51.1.1).bind fun x52 =>
 bif decide (((v47.size + x52.1.1.size : Nat) : Int) > 9223372036854775807) then
  none
 else
  bif decide ((((v47 ++ x52.1.1).size + (ByteArray.mk #[114]).size : Nat) : Int) > 9223372036854775807) then
   none
  else
   bif decide (((v46.size + ((v47 ++ x52.1.1) ++ (ByteArray.mk #[114])).size : Nat) : Int) > 9223372036854775807) then
    none
   else
    let x53 : ByteArray := (v46 ++ ((v47 ++ x52.1.1) ++ (ByteArray.mk #[114])))
    bif (v50 != 0) then
     bif decide ((((ByteArray.mk #[40]).size + x53.size : Nat) : Int) > 9223372036854775807) then
      none
     else
      bif decide (((((ByteArray.mk #[40]) ++ x53).size + (ByteArray.mk #[41]).size : Nat) : Int) > 9223372036854775807) then
       none
      else
       let x54 : ByteArray := (((ByteArray.mk #[40]) ++ x53) ++ (ByteArray.mk #[41]))
       nx.1 (((), x54, ()), ((v48, v49, v50, ()), ()))
    else
     nx.1 (((), x53, ()), ((v48, v49, v50, ()), ()))
def yS : Cut := ⟨⟨[(1, .c (.box 5000000)), (3, .c .str), (4, .c .str)], [(5000000, .box 53 k0)], []⟩, [(.normal, ⟨[(1, .c (.box 5000000)), (3, .c .str)], [(5000000, .box 53 k0)], []⟩)], fun ρ k v nx => kh k v.1.2.1 v.1.2.2.1 v.2.1.1 v.2.1.2.1 v.2.1.2.2.1 nx⟩
def fF {ρ : Type} (k : Nat) (v55 : ByteArray) (v56 v57 v58 : Int) (nx : (((T3 × Unit) → Option ρ) × Unit)) : Option ρ :=
 bif (v58 != 0) then
  bif decide (v58 < 0) then
   none
  else
   (f95 k (cP .i64 1 v58)).bind fun x59 =>
   bif decide ((((ByteArray.mk #[47]).size + x59.1.1.size : Nat) : Int) > 9223372036854775807) then
    none
   else
    bif decide (((v55.size + ((ByteArray.mk #[47]) ++ x59.1.1).size : Nat) : Int) > 9223372036854775807) then
     none
    else
     nx.1 (((v55 ++ ((ByteArray.mk #[47]) ++ x59.1.1)), ()), ())
 else
  nx.1 ((v55, ()), ())
def wQ : Cut := ⟨⟨[(1, .c (.box 5000000)), (3, .c .str)], [(5000000, .box 53 k0)], []⟩, [(.ret, ⟨[(2, .c .str)], [], []⟩)], fun ρ k v nx => fF k v.1.2.1 v.2.1.1 v.2.1.2.1 v.2.1.2.2.1 nx⟩
def f60 (k : Nat) (a1 a2 a3 : Int) : Option (T3 × Unit) :=
 (f95 k a1).bind fun x33 =>
 bif (a1 == 0) then
  bif (a2 != 0) then
   (f95 k a2).bind fun x34 =>
   bif decide (((x34.1.1.size + (ByteArray.mk #[114]).size : Nat) : Int) > 9223372036854775807) then
    none
   else
    fF k (x34.1.1 ++ (ByteArray.mk #[114])) a1 a2 a3
     (fun x35 : (T3 × Unit) =>
      some ((x35.1.1, ()), ()),
     ())
  else
   bif (a2 != 0) then
    bif (decide (a2 < 0)) then
     kh k x33.1.1 (ByteArray.mk #[45]) a1 a2 a3
      (fun x36 : ((Unit × ByteArray × Unit) × T13) =>
       fF k x36.1.2.1 x36.2.1.1 x36.2.1.2.1 x36.2.1.2.2.1
        (fun x37 : (T3 × Unit) =>
         some ((x37.1.1, ()), ()),
        ()),
      ())
    else
     kh k x33.1.1 (ByteArray.mk #[43]) a1 a2 a3
      (fun x38 : ((Unit × ByteArray × Unit) × T13) =>
       fF k x38.1.2.1 x38.2.1.1 x38.2.1.2.1 x38.2.1.2.2.1
        (fun x39 : (T3 × Unit) =>
         some ((x39.1.1, ()), ()),
        ()),
      ())
   else
    fF k x33.1.1 a1 a2 a3
     (fun x40 : (T3 × Unit) =>
      some ((x40.1.1, ()), ()),
     ())
 else
  bif (a2 != 0) then
   bif (decide (a2 < 0)) then
    kh k x33.1.1 (ByteArray.mk #[45]) a1 a2 a3
     (fun x41 : ((Unit × ByteArray × Unit) × T13) =>
      fF k x41.1.2.1 x41.2.1.1 x41.2.1.2.1 x41.2.1.2.2.1
       (fun x42 : (T3 × Unit) =>
        some ((x42.1.1, ()), ()),
       ()),
     ())
   else
    kh k x33.1.1 (ByteArray.mk #[43]) a1 a2 a3
     (fun x43 : ((Unit × ByteArray × Unit) × T13) =>
      fF k x43.1.2.1 x43.2.1.1 x43.2.1.2.1 x43.2.1.2.2.1
       (fun x44 : (T3 × Unit) =>
        some ((x44.1.1, ()), ()),
       ()),
     ())
  else
   fF k x33.1.1 a1 a2 a3
    (fun x45 : (T3 × Unit) =>
     some ((x45.1.1, ()), ()),
    ())
def IX : ab := ee 60 [(0, .agg k0)] [(0, .c .str)] fun k v => f60 k v.1.1.1 v.1.1.2.1 v.1.1.2.2.1
def EZ (k : Nat) : Full := fl k 54 [J9, En] (joins := [(8, yS), (11, wQ)])
theorem Hq (k : Nat) : df (EZ k) yS (db Tryz.f60 8) := fun ρ v nx => by kernel_rfl
theorem FN (k : Nat) : df (EZ k) wQ (db Tryz.f60 11) := fun ρ v nx => by kernel_rfl
theorem Na : SN IX := so Tryz.func60 EZ (fun _ j => ⟨Ny.at j, Kh.at j, trivial⟩) (fun _ _ => by kernel_rfl) (hob := fun k => Eq.mpr (by kernel_rfl) (And.intro (Hq k) (And.intro (FN k) (trivial))))
def f35 (k : Nat) (a1 a2 a3 a4 a5 a6 : Int) : Option (T3 × Unit) :=
 (f60 k a1 a2 a3).bind fun x4 =>
 bif decide ((((ByteArray.mk #[40]).size + x4.1.1.size : Nat) : Int) > 9223372036854775807) then
  none
 else
  bif decide (((((ByteArray.mk #[40]) ++ x4.1.1).size + (ByteArray.mk #[44]).size : Nat) : Int) > 9223372036854775807) then
   none
  else
   let x5 : ByteArray := (((ByteArray.mk #[40]) ++ x4.1.1) ++ (ByteArray.mk #[44]))
   (f60 k a4 a5 a6).bind fun x6 =>
   bif decide (((x5.size + x6.1.1.size : Nat) : Int) > 9223372036854775807) then
    none
   else
    bif decide ((((x5 ++ x6.1.1).size + (ByteArray.mk #[41]).size : Nat) : Int) > 9223372036854775807) then
     none
    else
     some ((((x5 ++ x6.1.1) ++ (ByteArray.mk #[41])), ()), ())
def JA : ab := ee 35 [(0, .agg k1)] [(0, .c .str)] fun k v => f35 k v.1.1.1 v.1.1.2.1 v.1.1.2.2.1 v.1.1.2.2.2.1 v.1.1.2.2.2.2.1 v.1.1.2.2.2.2.2.1
def Nf (k : Nat) : Full := fl k 13 [IX]
theorem N6 : SN JA := so Tryz.func35 Nf (fun _ j => ⟨Na.at j, trivial⟩) (fun _ _ => by kernel_rfl)
def f19 (k : Nat) (a1 : T5) (a2 : (List T4)) (a3 a4 a5 : Int) : Option (T3 × Unit) :=
 bif decide (0 ≤ (wr .i64 (a5 - 1))) && decide ((wr .i64 (a5 - 1)) < ([(ByteArray.mk #[98, 111, 114, 100, 101, 114]), (ByteArray.mk #[109, 111, 117, 110, 116, 97, 105, 110]), (ByteArray.mk #[118, 97, 108, 108, 101, 121]), (ByteArray.mk #[111, 112, 101, 110])].length : Int)) then
  ([(ByteArray.mk #[98, 111, 114, 100, 101, 114]), (ByteArray.mk #[109, 111, 117, 110, 116, 97, 105, 110]), (ByteArray.mk #[118, 97, 108, 108, 101, 121]), (ByteArray.mk #[111, 112, 101, 110])][(wr .i64 (a5 - 1)).toNat]?).bind fun x7 =>
  (f31 k a1 a2 a3 a4 a5).bind fun x8 =>
  (f35 k x8.1.1.1 x8.1.1.2.1 x8.1.1.2.2.1 x8.1.1.2.2.2.1 x8.1.1.2.2.2.2.1 x8.1.1.2.2.2.2.2.1).bind fun x9 =>
  bif decide (((x9.1.1.size + (ByteArray.mk #[32]).size : Nat) : Int) > 9223372036854775807) then
   none
  else
   (f32 k a1 a2 a3 a4 a5).bind fun x10 =>
   (f35 k x10.1.1.1 x10.1.1.2.1 x10.1.1.2.2.1 x10.1.1.2.2.2.1 x10.1.1.2.2.2.2.1 x10.1.1.2.2.2.2.2.1).bind fun x11 =>
   bif decide ((((x9.1.1 ++ (ByteArray.mk #[32])).size + x11.1.1.size : Nat) : Int) > 9223372036854775807) then
    none
   else
    let x12 : ByteArray := ((x9.1.1 ++ (ByteArray.mk #[32])) ++ x11.1.1)
    bif decide (((x12.size + (ByteArray.mk #[32]).size : Nat) : Int) > 9223372036854775807) then
     none
    else
     bif decide ((((x12 ++ (ByteArray.mk #[32])).size + x7.size : Nat) : Int) > 9223372036854775807) then
      none
     else
      some ((((x12 ++ (ByteArray.mk #[32])) ++ x7), ()), ())
 else
  none
def Kc : ab := ee 19 [(0, .agg k2), (1, .agg k0)] [(0, .c .str)] fun k v => f19 k v.1.1.1 v.1.1.2.1 v.1.2.1.1 v.1.2.1.2.1 v.1.2.1.2.2.1
def M4 (k : Nat) : Full := fl k 25 [wW, JA, wm]
theorem Mx : SN Kc := so Tryz.func19 M4 (fun _ j => ⟨Bx.at j, N6.at j, At.at j, trivial⟩) (fun _ _ => by kernel_rfl)
def f7 (k : Nat) (a1 : T5) (a2 : (List T4)) (a3 : Int) : Option (T3 × Unit) :=
 (f16 k a1 a2).bind fun x12 =>
 bif (!x12.1.1) then
  some ((ByteArray.empty, ()), ())
 else
  (f18 k a2).bind fun x13 =>
  (f17 k a3 0 (wr .i64 (x13.1.1 - 1))).bind fun x14 =>
  bif (!x14.1.1) then
   some ((ByteArray.empty, ()), ())
  else
   (ak a2 a3).bind fun x15 =>
   (f19 k a1 a2 x15.1 x15.2.1 x15.2.2).bind fun x16 =>
   some ((x16.1.1, ()), ())
def ef7 : ab := ee 7 [(0, .agg k2), (1, .c (.int .i64))] [(0, .c .str)] fun k v => f7 k v.1.1.1 v.1.1.2.1 v.1.2.1
def gf7 (k : Nat) : Full := fl k 24 [IA, Kn, th, Kc]
theorem sf7 : SN ef7 := so Tryz.func7 gf7 (fun _ j => ⟨Mg.at j, Mm.at j, wI.at j, Mx.at j, trivial⟩) (fun _ _ => by kernel_rfl)
def f61 (k : Nat) (a1 a2 a3 a4 a5 a6 : Int) : Option (T2 × Unit) :=
 bif (a1 != a4) then
  some ((false, ()), ())
 else
  bif (a2 != a5) then
   some ((false, ()), ())
  else
   bif (a3 != a6) then
    some ((false, ()), ())
   else
    some ((true, ()), ())
def I1 : ab := ee 61 [(0, .agg k0), (1, .agg k0)] [(0, .c .bool)] fun k v => f61 k v.1.1.1 v.1.1.2.1 v.1.1.2.2.1 v.1.2.1.1 v.1.2.1.2.1 v.1.2.1.2.2.1
def NF (k : Nat) : Full := fl k 20 []
theorem NL : SN I1 := so Tryz.func61 NF (fun _ _ => trivial) (fun _ _ => by kernel_rfl)
def f36 (k : Nat) (a1 a2 a3 a4 a5 a6 a7 a8 a9 a10 a11 a12 : Int) : Option (T2 × Unit) :=
 (f61 k a1 a2 a3 a7 a8 a9).bind fun x5 =>
 bif (!x5.1.1) then
  some ((false, ()), ())
 else
  (f61 k a4 a5 a6 a10 a11 a12).bind fun x6 =>
  bif (!x6.1.1) then
   some ((false, ()), ())
  else
   some ((true, ()), ())
def I3 : ab := ee 36 [(0, .agg k1), (1, .agg k1)] [(0, .c .bool)] fun k v => f36 k v.1.1.1 v.1.1.2.1 v.1.1.2.2.1 v.1.1.2.2.2.1 v.1.1.2.2.2.2.1 v.1.1.2.2.2.2.2.1 v.1.2.1.1 v.1.2.1.2.1 v.1.2.1.2.2.1 v.1.2.1.2.2.2.1 v.1.2.1.2.2.2.2.1 v.1.2.1.2.2.2.2.2.1
def NB (k : Nat) : Full := fl k 17 [I1]
theorem Ms : SN I3 := so Tryz.func36 NB (fun _ j => ⟨NL.at j, trivial⟩) (fun _ _ => by kernel_rfl)
def mf {ρ : Type} (k : Nat) : Nat → T5 → T5 → Int → ((T1 → Option ρ) × ((T2 × Unit) → Option ρ) × Unit) → Option ρ
 | 0, _, _, _, _ => none
 | j + 1, v11, v12, v13, nx =>
  bif (decide (v13 < (v11.length : Int))) then
   (ak v11 v13).bind fun x14 =>
   (ak v12 v13).bind fun x15 =>
   (f36 k x14.1.1 x14.1.2.1 x14.1.2.2 x14.2.1 x14.2.2.1 x14.2.2.2 x15.1.1 x15.1.2.1 x15.1.2.2 x15.2.1 x15.2.2.1 x15.2.2.2).bind fun x16 =>
   bif (!x16.1.1) then
    nx.2.1 ((false, ()), ())
   else
    mf k j v11 v12 (wr .i64 (v13 + 1)) nx
  else
   nx.1 ((), ())
def zK (k : Nat) : Cut := ⟨⟨[(0, .c (.sl (.pair u1 u1))), (1, .c (.sl (.pair u1 u1))), (5, .c (.int .i64))], [], []⟩, [(.exit 0, ⟨[], [], []⟩), (.ret, ⟨[(4, .c .bool)], [], []⟩)], fun ρ j v nx => mf k j v.1.1 v.1.2.1 v.1.2.2.1 nx⟩
def f20 (k : Nat) (a1 a2 : T5) : Option (T2 × Unit) :=
 bif ((a1.length : Int) != (a2.length : Int)) then
  some ((false, ()), ())
 else
  mf k k a1 a2 0
   (fun x9 : T1 =>
    some ((true, ()), ()),
   fun x10 : (T2 × Unit) =>
    some ((x10.1.1, ()), ()),
   ())
def Kv : ab := ee 20 [(0, .c (.sl (.pair u1 u1))), (1, .c (.sl (.pair u1 u1)))] [(0, .c .bool)] fun k v => f20 k v.1.1 v.1.2.1
def J2 (k : Nat) : Full := fl k 27 [I3] (cuts := [(4, (zK k))])
theorem HS (k : Nat) : aO (J2 k) (zK k) (ax Tryz.f20 4) := fun ρ v nx => ⟨by kernel_rfl, fun j => by kernel_rfl⟩
theorem Mt : SN Kv := so Tryz.func20 J2 (fun _ j => ⟨Ms.at j, trivial⟩) (fun _ _ => by kernel_rfl) (hob := fun k => Eq.mpr (by kernel_rfl) (And.intro (HS k) (trivial)))
def f37 (k : Nat) (a1 a2 a3 a4 a5 a6 : Int) : Option (T2 × Unit) :=
 bif (a1 != a4) then
  some ((false, ()), ())
 else
  bif (a2 != a5) then
   some ((false, ()), ())
  else
   bif (a3 != a6) then
    some ((false, ()), ())
   else
    some ((true, ()), ())
def JH : ab := ee 37 [(0, .agg k0), (1, .agg k0)] [(0, .c .bool)] fun k v => f37 k v.1.1.1 v.1.1.2.1 v.1.1.2.2.1 v.1.2.1.1 v.1.2.1.2.1 v.1.2.1.2.2.1
def Nt (k : Nat) : Full := fl k 20 []
theorem NO : SN JH := so Tryz.func37 Nt (fun _ _ => trivial) (fun _ _ => by kernel_rfl)
def mv {ρ : Type} (k : Nat) : Nat → (List T4) → (List T4) → Int → ((T1 → Option ρ) × ((T2 × Unit) → Option ρ) × Unit) → Option ρ
 | 0, _, _, _, _ => none
 | j + 1, v11, v12, v13, nx =>
  bif (decide (v13 < (v11.length : Int))) then
   (ak v11 v13).bind fun x14 =>
   (ak v12 v13).bind fun x15 =>
   (f37 k x14.1 x14.2.1 x14.2.2 x15.1 x15.2.1 x15.2.2).bind fun x16 =>
   bif (!x16.1.1) then
    nx.2.1 ((false, ()), ())
   else
    mv k j v11 v12 (wr .i64 (v13 + 1)) nx
  else
   nx.1 ((), ())
def yM (k : Nat) : Cut := ⟨⟨[(0, .c (.sl u1)), (1, .c (.sl u1)), (5, .c (.int .i64))], [], []⟩, [(.exit 0, ⟨[], [], []⟩), (.ret, ⟨[(4, .c .bool)], [], []⟩)], fun ρ j v nx => mv k j v.1.1 v.1.2.1 v.1.2.2.1 nx⟩
def f21 (k : Nat) (a1 a2 : (List T4)) : Option (T2 × Unit) :=
 bif ((a1.length : Int) != (a2.length : Int)) then
  some ((false, ()), ())
 else
  mv k k a1 a2 0
   (fun x9 : T1 =>
    some ((true, ()), ()),
   fun x10 : (T2 × Unit) =>
    some ((x10.1.1, ()), ()),
   ())
def IB : ab := ee 21 [(0, .c (.sl u1)), (1, .c (.sl u1))] [(0, .c .bool)] fun k v => f21 k v.1.1 v.1.2.1
def Jb (k : Nat) : Full := fl k 27 [JH] (cuts := [(4, (yM k))])
theorem H4 (k : Nat) : aO (Jb k) (yM k) (ax Tryz.f21 4) := fun ρ v nx => ⟨by kernel_rfl, fun j => by kernel_rfl⟩
theorem Mf : SN IB := so Tryz.func21 Jb (fun _ j => ⟨NO.at j, trivial⟩) (fun _ _ => by kernel_rfl) (hob := fun k => Eq.mpr (by kernel_rfl) (And.intro (H4 k) (trivial)))
def f8 (k : Nat) (a1 : T5) (a2 : (List T4)) (a3 : T5) (a4 : (List T4)) : Option (T2 × Unit) :=
 (f20 k a1 a3).bind fun x5 =>
 bif (!x5.1.1) then
  some ((false, ()), ())
 else
  (f21 k a2 a4).bind fun x6 =>
  bif (!x6.1.1) then
   some ((false, ()), ())
  else
   some ((true, ()), ())
def ef8 : ab := ee 8 [(0, .agg k2), (1, .agg k2)] [(0, .c .bool)] fun k v => f8 k v.1.1.1 v.1.1.2.1 v.1.2.1.1 v.1.2.1.2.1
def gf8 (k : Nat) : Full := fl k 17 [Kv, IB]
theorem sf8 : SN ef8 := so Tryz.func8 gf8 (fun _ j => ⟨Mt.at j, Mf.at j, trivial⟩) (fun _ _ => by kernel_rfl)
def f3 (k : Nat) (a1 : T5) (a2 : (List T4)) (a3 : Int) : Option (T2 × Unit) :=
 (f4 k a1 a2 1048576).bind fun x8 =>
 bif (decide (x8.1.1 < 0)) then
  some ((true, ()), ())
 else
  (f6 k a1 a2).bind fun x9 =>
  (f5 k x9.2.1 x9.2.2.1 a3).bind fun x10 =>
  (f6 k a1 a2).bind fun x11 =>
  (f7 k x11.2.1 x11.2.2.1 a3).bind fun x12 =>
  bif (!(x12.1.1.toList == x10.1.1.toList)) then
   some ((false, ()), ())
  else
   (f6 k a1 a2).bind fun x13 =>
   (f8 k x11.2.1 x11.2.2.1 x13.2.1 x13.2.2.1).bind fun x14 =>
   bif (!x14.1.1) then
    some ((false, ()), ())
   else
    some ((true, ()), ())
def ef3 : ab := ee 3 [(0, .agg k2), (1, .c (.int .i64))] [(0, .c .bool)] fun k v => f3 k v.1.1.1 v.1.1.2.1 v.1.2.1
def gf3 (k : Nat) : Full := fl k 31 [ef4, ef6, ef5, ef7, ef8]
theorem sf3 : SN ef3 := so Tryz.func3 gf3 (fun _ j => ⟨sf4.at j, sf6.at j, sf5.at j, sf7.at j, sf8.at j, trivial⟩) (fun _ _ => by kernel_rfl)
end Go.Proofs.YtoclkhdbjbmpfaaGreatDoor.R
namespace Go.Proofs.YtoclkhdbjbmpfaaGreatDoor.R
open Go.Proofs.YtoclkhdbjbmpfaaGreatDoor.R1
def ma : Prop := ∀ (x0 : ((List ((Int × (Int × Int)) × (Int × (Int × Int)))) × (List (Int × (Int × Int))))), Ok (.pair (.sl (.pair (.pair (.int .i64) (.pair (.int .i64) (.int .i64))) (.pair (.int .i64) (.pair (.int .i64) (.int .i64))))) (.sl (.pair (.int .i64) (.pair (.int .i64) (.int .i64))))) x0 → ∀ (x1 : Int), Ok (.int .i64) x1 → ∃ k, f3 k x0.1 x0.2 x1 = some ((true, ()), ())
end Go.Proofs.YtoclkhdbjbmpfaaGreatDoor.R
namespace Go.Proofs.YtoclkhdbjbmpfaaGreatDoor.R1
theorem ai {x : Int} (h1 : -4611686018427387904 ≤ x) (h2 : x ≤ 4611686018427387904) : wr .i64 x = x := by
 unfold wr; rw [IntKind.wrap_i64]; omega
theorem az {i : Nat} (h : i < 4611686018427387904) : wr .i64 ((i : Int) + 1) = ((i + 1 : Nat) : Int) := by
 rw [ai (by omega) (by omega)]; rfl
theorem ec {α : Type} (l : List α) (i : Nat) : ak l (i : Int) = l[i]? := by
 unfold ak; rw [if_pos (Int.natCast_nonneg i)]; rfl
theorem aA {α : Type} {l r : List α} {i : Nat} {x : α} (h : l.drop i = x :: r) : ak l (i : Int) = some x := by
 rw [ec]
 have := congrArg (·[0]?) h
 simpa using this
theorem aP {α : Type} {l r : List α} {i : Nat} {x : α} (h : l.drop i = x :: r) : l[i]? = some x := by rw [← ec, aA h]
theorem aE {α : Type} {l r : List α} {i : Nat} {x : α} (h : l.drop i = x :: r) : i < l.length := by
 rcases Nat.lt_or_ge i l.length with q | q
 · exact q
 · rw [List.drop_eq_nil_of_le q] at h; cases h
theorem an {α : Type} {l r : List α} {i : Nat} {x : α} (h : l.drop i = x :: r) : l.drop (i + 1) = r := by
 rw [← List.drop_drop, h]; rfl
theorem iJ {α : Type} {l : List α} {i : Nat} (h : l.drop i = []) : l.length ≤ i := List.drop_eq_nil_iff.1 h
theorem dlt {a b : Int} (h : a < b) : decide (a < b) = true := decide_eq_true h
theorem ga {a b : Int} (h : b ≤ a) : decide (a < b) = false := decide_eq_false (by omega)
theorem dle {a b : Int} (h : a ≤ b) : decide (a ≤ b) = true := decide_eq_true h
theorem aI {α : Type} {l r : List α} {i : Nat} {x : α} (h : l.drop i = x :: r) : decide ((i : Int) < (l.length : Int)) = true := dlt (by have := aE h; omega)
theorem aQ {α : Type} {l : List α} {i : Nat} (h : l.drop i = []) : decide ((i : Int) < (l.length : Int)) = false := ga (by have := iJ h; omega)
theorem bnd {i n : Nat} (h : i < n) : (decide (0 ≤ (i : Int)) && decide ((i : Int) < (n : Int))) = true := by
 rw [dle (by omega), dlt (by omega)]; rfl
theorem p5 {i : Int} {n : Nat} (h0 : 0 ≤ i) (h : i < n) : (decide (0 ≤ i) && decide (i < (n : Int))) = true := by
 rw [dle h0, dlt h]; rfl
theorem hP {α : Type} {l : List α} {i : Int} (h0 : 0 ≤ i) (h : i < l.length) : ∃ x, ak l i = some x ∧ l[i.toNat]? = some x := by
 have : i.toNat < l.length := by omega
 refine ⟨l[i.toNat], ?_, List.getElem?_eq_getElem this⟩
 unfold ak; rw [if_pos h0, List.getElem?_eq_getElem this]
end Go.Proofs.YtoclkhdbjbmpfaaGreatDoor.R1
namespace Go.Proofs.YtoclkhdbjbmpfaaGreatDoor.R
open Go.Proofs.YtoclkhdbjbmpfaaGreatDoor.R1
abbrev Z2 := Int × Int
namespace Z2
def add (x y : Z2) : Z2 := (x.1 + y.1, x.2 + y.2)
def sub (x y : Z2) : Z2 := (x.1 - y.1, x.2 - y.2)
def neg (x : Z2) : Z2 := (-x.1, -x.2)
def mul (x y : Z2) : Z2 := (x.1 * y.1 + 2 * (x.2 * y.2), x.1 * y.2 + x.2 * y.1)
def nm (x : Z2) : Int := x.1 * x.1 - 2 * (x.2 * x.2)
def P (x : Z2) : Prop := (0 < x.nm ∧ 0 < x.1) ∨ (x.nm < 0 ∧ 0 < x.2)
end Z2
open Z2
theorem mJ {a : Int} (h : a ≠ 0) : 0 < a * a := by
 rcases Int.lt_or_gt_of_ne h with h | h
 · exact Int.mul_pos_of_neg_of_neg h h
 · exact Int.mul_pos h h
theorem sq_nonneg (a : Int) : 0 ≤ a * a := by
 by_cases h : a = 0
 · subst h; simp
 · exact Int.le_of_lt (mJ h)
theorem lF {p q r s : Int} (h0 : 0 ≤ p) (h1 : p < q) (h2 : 0 ≤ r) (h3 : r < s) : p * r < q * s := by
 have a : p * r ≤ q * r := Int.mul_le_mul_of_nonneg_right (Int.le_of_lt h1) h2
 have b : q * r < q * s := Int.mul_lt_mul_of_pos_left h3 (by omega)
 omega
theorem BZ {x y : Int} (h0 : 0 ≤ y) (h : x * x < y * y) : x < y ∧ -x < y := by
 constructor
 · rcases (by omega : x < y ∨ y ≤ x) with q | q
   · exact q
   · have := Int.mul_le_mul q q h0 (by omega : 0 ≤ x); omega
 · rcases (by omega : -x < y ∨ y ≤ -x) with q | q
   · exact q
   · have := Int.mul_le_mul q q h0 (by omega : 0 ≤ -x)
     rw [Int.neg_mul_neg] at this; omega
theorem rM {a : Int} (h : (a * a) % 2 = 0) : a % 2 = 0 := by
 rcases (by omega : a % 2 = 0 ∨ a % 2 = 1) with q | q
 · exact q
 · rw [Int.mul_emod, q] at h; simp at h
theorem irr : ∀ (n : Nat) (a b : Int), a.natAbs ≤ n → a * a = 2 * (b * b) → a = 0 ∧ b = 0
 | 0, a, b, hn, h => by
  have : a = 0 := by omega
  subst this
  refine ⟨rfl, ?_⟩
  by_cases hb : b = 0
  · exact hb
  · have := mJ hb; omega
 | n + 1, a, b, hn, h => by
  have ha : a % 2 = 0 := rM (by rw [h]; omega)
  obtain ⟨c, hc⟩ : ∃ c, a = 2 * c := ⟨a / 2, by omega⟩
  have hb : b * b = 2 * (c * c) := by
   have : a * a = 4 * (c * c) := by rw [hc]; grind
   omega
  by_cases hz : a = 0
  · subst hz
    refine ⟨rfl, ?_⟩
    by_cases hb0 : b = 0
    · exact hb0
    · have := mJ hb0; omega
  · have hb2 : b % 2 = 0 := rM (by rw [hb]; omega)
    obtain ⟨e, he⟩ : ∃ e, b = 2 * e := ⟨b / 2, by omega⟩
    have hc2 : c * c = 2 * (e * e) := by
     have : b * b = 4 * (e * e) := by rw [he]; grind
     omega
    have := irr n c e (by omega) hc2
    omega
theorem HY {x : Z2} (h : x.nm = 0) : x = (0, 0) := by
 have := irr x.1.natAbs x.1 x.2 (Nat.le_refl _) (by unfold Z2.nm at h; omega)
 exact Prod.ext this.1 this.2
theorem I7 (x y : Z2) : (x.mul y).nm = x.nm * y.nm := by
 simp only [Z2.nm, Z2.mul]; grind
theorem xS (x : Z2) : x.neg.nm = x.nm := by simp only [Z2.nm, Z2.neg]; grind
theorem lA {x : Z2} (h : x.P) : ¬ x.neg.P := by
 unfold Z2.P at *
 rw [xS]
 simp only [Z2.neg]
 omega
theorem tri (x : Z2) : x.P ∨ x = (0, 0) ∨ x.neg.P := by
 by_cases h0 : x.nm = 0
 · exact .inr (.inl (HY h0))
 · unfold Z2.P
   rw [xS]
   simp only [Z2.neg]
   rcases Int.lt_or_gt_of_ne h0 with h | h
   · have : x.2 ≠ 0 := by
      intro q
      have := sq_nonneg x.1
      unfold Z2.nm at h; rw [q] at h; omega
     omega
   · have : x.1 ≠ 0 := by
      intro q
      have := sq_nonneg x.2
      unfold Z2.nm at h; rw [q] at h; omega
     omega
theorem Jv {a b c d : Int} (h1 : 2 * (b * b) < a * a) (ha : 0 < a) (h2 : 2 * (d * d) < c * c) (hc : 0 < c) : 2 * (b * d) < a * c ∧ -(2 * (b * d)) < a * c := by
 have h := lF (by have := sq_nonneg b; omega) h1 (by have := sq_nonneg d; omega) h2
 exact BZ (Int.le_of_lt (Int.mul_pos ha hc)) (by grind)
theorem Ja {a b c d : Int} (h1 : a * a < 2 * (b * b)) (hb : 0 < b) (h2 : c * c < 2 * (d * d)) (hd : 0 < d) : a * c < 2 * (b * d) ∧ -(a * c) < 2 * (b * d) := by
 have h := lF (sq_nonneg a) h1 (sq_nonneg c) h2
 have := Int.mul_pos hb hd
 exact BZ (by omega) (by grind)
theorem IT {a b c d : Int} (h1 : 2 * (b * b) < a * a) (ha : 0 < a) (h2 : c * c < 2 * (d * d)) (hd : 0 < d) : b * c < a * d ∧ -(b * c) < a * d := by
 have h := lF (by have := sq_nonneg b; omega) h1 (sq_nonneg c) h2
 exact BZ (Int.le_of_lt (Int.mul_pos ha hd)) (by grind)
theorem vf {x y : Z2} (hx : x.P) (hy : y.P) : (x.mul y).P := by
 have hn := I7 x y
 unfold Z2.P at *
 rw [hn]
 rcases hx with ⟨h1, h2⟩ | ⟨h1, h2⟩ <;> rcases hy with ⟨h3, h4⟩ | ⟨h3, h4⟩
 · have := Jv (a := x.1) (b := x.2) (c := y.1) (d := y.2) (by unfold Z2.nm at h1; omega) h2 (by unfold Z2.nm at h3; omega) h4
   exact .inl ⟨Int.mul_pos h1 h3, by simp only [Z2.mul]; omega⟩
 · have := IT (a := x.1) (b := x.2) (c := y.1) (d := y.2) (by unfold Z2.nm at h1; omega) h2 (by unfold Z2.nm at h3; omega) h4
   exact .inr ⟨Int.mul_neg_of_pos_of_neg h1 h3, by simp only [Z2.mul]; omega⟩
 · have := IT (a := y.1) (b := y.2) (c := x.1) (d := x.2) (by unfold Z2.nm at h3; omega) h4 (by unfold Z2.nm at h1; omega) h2
   refine .inr ⟨Int.mul_neg_of_neg_of_pos h1 h3, ?_⟩
   simp only [Z2.mul]
   rw [Int.mul_comm x.1 y.2, Int.mul_comm x.2 y.1, Int.mul_comm y.2 x.1]
   rw [Int.mul_comm y.2 x.1] at this
   grind
 · have := Ja (a := x.1) (b := x.2) (c := y.1) (d := y.2) (by unfold Z2.nm at h1; omega) h2 (by unfold Z2.nm at h3; omega) h4
   exact .inl ⟨Int.mul_pos_of_neg_of_neg h1 h3, by simp only [Z2.mul]; omega⟩
theorem vG {x y : Z2} (hx : 0 < x.nm ∧ 0 < x.1) (hy : 0 < y.nm ∧ 0 < y.1) : (x.add y).P := by
 have := Jv (a := x.1) (b := x.2) (c := y.1) (d := y.2) (by have := hx.1; unfold Z2.nm at this; omega) hx.2 (by have := hy.1; unfold Z2.nm at this; omega) hy.2
 refine .inl ⟨?_, by simp only [Z2.add]; omega⟩
 have e : (x.add y).nm = x.nm + y.nm + 2 * (x.1 * y.1 - 2 * (x.2 * y.2)) := by simp only [Z2.nm, Z2.add]; grind
 rw [e]; omega
theorem vD {x y : Z2} (hx : x.nm < 0 ∧ 0 < x.2) (hy : y.nm < 0 ∧ 0 < y.2) : (x.add y).P := by
 have := Ja (a := x.1) (b := x.2) (c := y.1) (d := y.2) (by have := hx.1; unfold Z2.nm at this; omega) hx.2 (by have := hy.1; unfold Z2.nm at this; omega) hy.2
 refine .inr ⟨?_, by simp only [Z2.add]; omega⟩
 have e : (x.add y).nm = x.nm + y.nm + 2 * (x.1 * y.1 - 2 * (x.2 * y.2)) := by simp only [Z2.nm, Z2.add]; grind
 rw [e]; omega
theorem LK {x y : Z2} (hx : x.P) (hy : y.P) : (x.add y).P := by
 rcases tri (x.add y) with h | h | h
 · exact h
 · have : y = x.neg := by
    have h1 := congrArg Prod.fst h
    have h2 := congrArg Prod.snd h
    simp only [Z2.add] at h1 h2
    exact Prod.ext (by simp only [Z2.neg]; omega) (by simp only [Z2.neg]; omega)
   rw [this] at hy
   exact absurd hy (lA hx)
 ·
  generalize hz : (x.add y).neg = z at h
  have e1 : x.add y = z.neg := by rw [← hz]; simp only [Z2.add, Z2.neg]; simp
  have e2 : x.add z = y.neg := by rw [← hz]; simp only [Z2.add, Z2.neg]; exact Prod.ext (by simp; omega) (by simp; omega)
  have e3 : y.add z = x.neg := by rw [← hz]; simp only [Z2.add, Z2.neg]; exact Prod.ext (by simp; omega) (by simp; omega)
  have no1 : ¬ (x.add y).P := by rw [e1]; exact lA h
  have no2 : ¬ (x.add z).P := by rw [e2]; exact lA hy
  have no3 : ¬ (y.add z).P := by rw [e3]; exact lA hx
  rcases hx with hx | hx <;> rcases hy with hy | hy
  · exact absurd (vG hx hy) no1
  · rcases h with h | h
    · exact absurd (vG hx h) no2
    · exact absurd (vD hy h) no3
  · rcases h with h | h
    · exact absurd (vG hy h) no3
    · exact absurd (vD hx h) no2
  · exact absurd (vD hx hy) no1
def Z2.sg (x : Z2) : Int := if 0 < x.nm then x.1.sign else if x.nm < 0 then x.2.sign else 0
theorem gF {x : Z2} : x.sg = 1 ↔ x.P := by
 unfold Z2.sg Z2.P
 by_cases h : 0 < x.nm
 · rw [if_pos h, Int.sign_eq_one_iff_pos]; omega
 · rw [if_neg h]
   by_cases h' : x.nm < 0
   · rw [if_pos h', Int.sign_eq_one_iff_pos]; omega
   · rw [if_neg h']; omega
theorem cV (x : Z2) : x.neg.sg = -x.sg := by
 unfold Z2.sg
 rw [xS]
 simp only [Z2.neg, Int.sign_neg]
 split
 · rfl
 · split <;> rfl
theorem bI {x : Z2} : x.sg = 0 ↔ x = (0, 0) := by
 constructor
 · intro h
   rcases tri x with q | q | q
   · rw [gF.2 q] at h; omega
   · exact q
   · have := gF.2 q; rw [cV] at this; omega
 · rintro rfl; rfl
theorem KE {x : Z2} : x.sg = -1 ↔ x.neg.P := by
 rw [← gF, cV]; omega
theorem fO (x : Z2) : (x.sg = 1 ∧ x.P) ∨ (x.sg = 0 ∧ x = (0, 0)) ∨ (x.sg = -1 ∧ x.neg.P) := by
 rcases tri x with q | q | q
 · exact .inl ⟨gF.2 q, q⟩
 · exact .inr (.inl ⟨bI.2 q, q⟩)
 · exact .inr (.inr ⟨KE.2 q, q⟩)
theorem FF (x : Z2) : x.neg.neg = x := by simp [Z2.neg]
theorem oB (x y : Z2) : x.neg.mul y = (x.mul y).neg := by simp only [Z2.mul, Z2.neg]; exact Prod.ext (by grind) (by grind)
theorem ub (x y : Z2) : x.mul y.neg = (x.mul y).neg := by simp only [Z2.mul, Z2.neg]; exact Prod.ext (by grind) (by grind)
theorem mW (y : Z2) : Z2.mul (0, 0) y = (0, 0) := by simp [Z2.mul]
theorem sj (x : Z2) : Z2.mul x (0, 0) = (0, 0) := by simp [Z2.mul]
theorem oP (x y : Z2) : (x.mul y).sg = x.sg * y.sg := by
 rcases fO x with ⟨e, h⟩ | ⟨e, h⟩ | ⟨e, h⟩
 · rcases fO y with ⟨e', h'⟩ | ⟨e', h'⟩ | ⟨e', h'⟩
   · rw [e, e', gF.2 (vf h h')]; rfl
   · subst h'; rw [sj, e, e']; rfl
   · have := gF.2 (vf h h')
     rw [ub, cV] at this
     rw [e, e']; omega
 · subst h; rw [mW, e]; simp [bI.2]
 · rcases fO y with ⟨e', h'⟩ | ⟨e', h'⟩ | ⟨e', h'⟩
   · have := gF.2 (vf h h')
     rw [oB, cV] at this
     rw [e, e']; omega
   · subst h'; rw [sj, e, e']; rfl
   · have := gF.2 (vf h h')
     rw [ub, oB, FF] at this
     rw [e, e', this]; rfl
theorem Jf {x y : Z2} (hx : 0 ≤ x.sg) (hy : 0 ≤ y.sg) : 0 ≤ (x.add y).sg ∧ ((x.add y).sg = 0 → x.sg = 0 ∧ y.sg = 0) := by
 rcases fO x with ⟨e, h⟩ | ⟨e, h⟩ | ⟨e, h⟩
 · rcases fO y with ⟨e', h'⟩ | ⟨e', h'⟩ | ⟨e', h'⟩
   · have := gF.2 (LK h h'); omega
   · subst h'
     have : x.add (0, 0) = x := by simp [Z2.add]
     rw [this]; omega
   · omega
 · subst h
   have : Z2.add (0, 0) y = y := by simp [Z2.add]
   rw [this]; exact ⟨hy, fun q => ⟨e, q⟩⟩
 · omega
theorem cb (x : Z2) : -1 ≤ x.sg ∧ x.sg ≤ 1 := by
 rcases fO x with ⟨e, _⟩ | ⟨e, _⟩ | ⟨e, _⟩ <;> omega
end Go.Proofs.YtoclkhdbjbmpfaaGreatDoor.R
