/- Library functions by the shelf's contracts: what they ask of package variables, and that they are sound. (Printed by gvn.py.) -/
import Derived.Test.YtkimeoknckohfaaDoorShelf
import Derived.Test.YtkimeoknckohfaaDoorR1Given
import Derived.Test.YtkimeoknckohfaaDoorR1Tools
import Derived.Lib.SmallJoins
import Derived.Lib.SplitLaws
import Derived.Lib.AtoiErrMem
import Derived.Lib.AppendIntMem
import Derived.WalkKit
import Derived.KernelRfl
import Derived.RowKit3
import Derived.OwnWalk
namespace Go.Proofs.YtkimeoknckohfaaDoor.R
open Go.Proofs.YtkimeoknckohfaaDoor.R1 Go.RowKit

/-- internal/bytealg.MaxLen holds some number; strconv's table of powers and its two errors stand as they were laid. -/
def LaidW (w : World) : Prop := (∃ m, w.cell? ⟨0, 0, none⟩ = some (.int .i64 m)) ∧ Go.Lib.TabIs Tryd.prog w "internal/strconv.uint64pow10" .u64 Go.Lib.pow10Tab ∧
  (∃ tp p, w.var? Tryd.prog "strconv.ErrSyntax" = some #[.iface tp p]) ∧ ∃ tp p, w.var? Tryd.prog "strconv.ErrRange" = some #[.iface tp p]

theorem LaidW.below {w w' : World} (h : LaidW w) (hb : Below w.heap.size w w') : LaidW w' := by
  obtain ⟨⟨m, hm⟩, ht, ⟨tp, p, h1⟩, tq, q, h2⟩ := h
  exact ⟨⟨m, (hb.cell (World.block_lt_of_cell? _ _ hm)).trans hm⟩, Go.Joins.tab_stays (g := 5) (by kernel_rfl) ht hb (Nat.le_refl _),
    ⟨tp, p, Go.Joins.var_stays (g := 1) (by kernel_rfl) h1 hb (Nat.le_refl _)⟩, tq, q, Go.Joins.var_stays (g := 2) (by kernel_rfl) h2 hb (Nat.le_refl _)⟩

def isNum : Value → Prop := fun v => ∃ m, v = .int .i64 m
def isTab : Array Value → Prop := fun cs => cs = (Go.Lib.pow10Tab.map fun z => Value.int .u64 z).toArray
def isErr : Array Value → Prop := fun cs => ∃ tp p, cs = #[.iface tp p]

def gl : List (Nat × B) := [(1000000, .glo (CellsAre fun cs => ∃ v, cs[0]? = some v ∧ isNum v)), (1000000 + 5, .glo (CellsAre isTab)), (1000000 + 1, .glo (CellsAre isErr)), (1000000 + 2, .glo (CellsAre isErr))]
def glob : Nat → B := globOf gl

theorem globs_of {w : World} (h : LaidW w) : GlobsAt w gl := by
  obtain ⟨⟨m, hm⟩, ht, ⟨tp, p, h1⟩, tq, q, h2⟩ := h
  exact ⟨⟨by kernel_rfl, of_cell hm ⟨m, rfl⟩⟩, ⟨by kernel_rfl, of_var (P := Tryd.prog) (by kernel_rfl) ht rfl⟩, ⟨by kernel_rfl, of_var (P := Tryd.prog) (by kernel_rfl) h1 ⟨tp, p, rfl⟩⟩, ⟨by kernel_rfl, of_var (P := Tryd.prog) (by kernel_rfl) h2 ⟨tq, q, rfl⟩⟩, trivial⟩

theorem laid_of (cx : Cx) (φ : Nat → Value) (S : Nat → Prop) (w : World) (m : RelH cx φ S glob w) : LaidW w := by
  obtain ⟨v, hv, n, rfl⟩ := cell_of (p := isNum) (m.glo (g := 0) (by kernel_rfl) (show glob (gname 0) = _ by kernel_rfl))
  obtain ⟨cs, h1, rfl⟩ := var_of (P := Tryd.prog) (name := "internal/strconv.uint64pow10") (p := isTab) (g := 5) (by kernel_rfl) (m.glo (g := 5) (by kernel_rfl) (show glob (gname 5) = _ by kernel_rfl))
  obtain ⟨cs, h2, tp, p, rfl⟩ := var_of (P := Tryd.prog) (name := "strconv.ErrSyntax") (p := isErr) (g := 1) (by kernel_rfl) (m.glo (g := 1) (by kernel_rfl) (show glob (gname 1) = _ by kernel_rfl))
  obtain ⟨cs, h3, tq, q, rfl⟩ := var_of (P := Tryd.prog) (name := "strconv.ErrRange") (p := isErr) (g := 2) (by kernel_rfl) (m.glo (g := 2) (by kernel_rfl) (show glob (gname 2) = _ by kernel_rfl))
  exact ⟨⟨n, hv⟩, h1, ⟨tp, p, h2⟩, tq, q, h3⟩

theorem glob_mut (n : Nat) : (glob n).mut = false := by
  unfold glob globOf gl
  simp only [assoc]
  cases Nat.beq 1000000 n <;> cases Nat.beq (1000000 + 5) n <;> cases Nat.beq (1000000 + 1) n <;> cases Nat.beq (1000000 + 2) n <;> rfl

theorem args1 {args : Array Value} {x : Value} (hs : args.size = 1) (h : args.getD 0 undef = x) : args = #[x] := by
  obtain ⟨l⟩ := args
  match l, hs with
  | [y], _ => subst h; rfl

theorem args2 {args : Array Value} {x y : Value} (hs : args.size = 2) (h : args.getD 0 undef = x) (h' : args.getD 1 undef = y) : args = #[x, y] := by
  obtain ⟨l⟩ := args
  match l, hs with
  | [a, b], _ => subst h; subst h'; rfl

/-! ### decimal -/
theorem decimal_calls (v : Int) (h0 : -9223372036854775808 ≤ v) (h1 : v ≤ 9223372036854775807) (w : World) (hL : LaidW w) :
    Calls Tryd.prog 30 #[.int .i64 v] w fun e w' => e = .returned (.string ⟨(Go.Lib.itoa v).toArray⟩) ∧ Below w.heap.size w w' := by
  have htab := hL.2.1
  go_enter Tryd.func30, Tryd.ntmps30
  go_wp2_with (first | (go_at_call 43; refine (Go.Proofs.Tryd.strconv_FormatInt_10 v h0 h1 _ htab).mono ?_; rintro e w1 ⟨rfl, k, os, rfl⟩))
  go_ret
  exact ⟨rfl, Go.Lib.below_grow _ _ (Nat.le_refl _) _ _⟩

def gDecimal (a : Int) : Option ((ByteArray × Unit) × Unit) := if -9223372036854775808 ≤ a ∧ a ≤ 9223372036854775807 then some ((⟨(Go.Lib.itoa a).toArray⟩, ()), ()) else none

theorem gDecimal_sound : Sound Tryd.prog glob ⟨30, ⟨[(0, .c (.int .i64))], [], []⟩, ⟨[(0, .c .str)], [], []⟩, fun _ v => gDecimal v.1.1⟩ := by
  refine ⟨entryFn_of Tryd.func30 (by kernel_rfl), fun k => given_flat laid_of fun v o h S φ w args hL ht hs => ?_⟩
  unfold gDecimal at h
  split at h
  case isFalse => cases h
  rename_i c
  injection h with h; subst h
  obtain rfl := args1 hs (ht 0)
  refine (decimal_calls v.1.1 c.1 c.2 w hL).mono ?_
  rintro e w' ⟨rfl, hb⟩
  exact ⟨_, rfl, hb, fun S' φ' hh => rfl⟩

/-! ### readNumber -/
theorem readNumber_range (l : List UInt8) (v : Int) (h : Go.Lib.parseIntB 64 l = .ok v) : -9223372036854775808 ≤ v ∧ v ≤ 9223372036854775807 := by
  unfold Go.Lib.parseIntB at h
  split at h
  · cases h
  · simp only at h
    split at h
    · cases h
    · cases h
    · split at h
      · cases h
      · split at h
        · cases h
        · rename_i h1 h2
          injection h with h
          subst h
          split
          · rename_i h3
            simp only [h3, true_and] at h2
            omega
          · rename_i h3
            simp only [h3, not_false_eq_true, true_and] at h1
            omega

def numOf (a : ByteArray) : Int × Bool := match Go.Lib.parseIntB 64 a.data.toList with | .ok v => (v, ((⟨(Go.Lib.itoa v).toArray⟩ : ByteArray).toList == a.toList)) | .range => (Go.Lib.intSat 64 a.data.toList, false) | _ => (0, false)

set_option maxHeartbeats 8000000 in
set_option maxRecDepth 100000 in
theorem readNumber_calls (a0 : ByteArray) (c : a0.size < 4294967281) (w : World) (hL : LaidW w) :
    Calls Tryd.prog 17 #[.string a0] w fun e w' => e = .returned (.tuple #[.int .i64 (numOf a0).1, .bool (numOf a0).2]) ∧ Below w.heap.size w w' := by
  unfold numOf
  cases hp : Go.Lib.parseIntB 64 a0.data.toList with
  | ok v =>
    obtain ⟨h0, h1⟩ := readNumber_range _ _ hp
    go_enter Tryd.func17, Tryd.ntmps17
    go_wp2_with (first | (go_at_call 29; refine (Go.Proofs.Tryd.strconv_ParseInt_10_at64_ok a0 (by omega) v hp _).mono ?_; rintro e w1 ⟨rfl, hw1⟩; have hb1 : Below w.heap.size w w1 := (by rcases hw1 with rfl | ⟨t, rfl⟩; exact Below.refl _ _; exact Go.Lib.bytesWorld_below _ _ _); clear hw1) | (go_at_call 30; refine (decimal_calls v h0 h1 _ (LaidW.below hL hb1)).mono ?_; rintro e w2 ⟨rfl, hb2⟩))
    go_ret2
    exact ⟨by first | rfl | (simp; done), hb1.trans ⟨hb2.os, hb2.tape, hb2.output, hb2.size, fun k hk => hb2.block k (Nat.lt_of_lt_of_le hk hb1.size)⟩⟩
  | range =>
    obtain ⟨_, _, _, tp, p, hv⟩ := hL
    go_enter Tryd.func17, Tryd.ntmps17
    go_wp2_with (first | (go_at_call 29; refine (Go.Proofs.Tryd.strconv_ParseInt_10_at64_range_var a0 (by omega) hp tp p _ hv).mono ?_; rintro e w1 ⟨N, rfl, _, _, hb1⟩))
    go_ret2
    exact ⟨by first | rfl | (simp; done), hb1⟩
  | _ =>
    have hq : (∀ v, Go.Lib.parseIntB 64 a0.data.toList ≠ .ok v) ∧ Go.Lib.parseIntB 64 a0.data.toList ≠ .range := ⟨fun v e => (by rw [hp] at e; cases e), fun e => (by rw [hp] at e; cases e)⟩
    obtain ⟨_, _, ⟨tp, p, hv⟩, _⟩ := hL
    go_enter Tryd.func17, Tryd.ntmps17
    go_wp2_with (first | (go_at_call 29; refine (Go.Proofs.Tryd.strconv_ParseInt_10_at64_syntax_var a0 (by omega) hq tp p _ hv).mono ?_; rintro e w1 ⟨N, rfl, _, _, hb1⟩))
    go_ret2
    exact ⟨by first | rfl | (simp; done), hb1⟩

def gReadNumber (a : ByteArray) : Option ((Int × Bool × Unit) × Unit) := if a.size < 4294967281 then some (((numOf a).1, (numOf a).2, ()), ()) else none

theorem gReadNumber_sound : Sound Tryd.prog glob ⟨17, ⟨[(0, .c .str)], [], []⟩, ⟨[(0, .c (.int .i64)), (1, .c .bool)], [], []⟩, fun _ v => gReadNumber v.1.1⟩ := by
  refine ⟨entryFn_of Tryd.func17 (by kernel_rfl), fun k => given_flat laid_of fun v o h S φ w args hL ht hs => ?_⟩
  unfold gReadNumber at h
  split at h
  case isFalse => cases h
  rename_i c
  injection h with h; subst h
  obtain rfl := args1 hs (ht 0)
  refine (readNumber_calls v.1.1 c w hL).mono ?_
  rintro e w' ⟨rfl, hb⟩
  exact ⟨_, rfl, hb, fun S' φ' hh => ⟨_, rfl, rfl, rfl, trivial⟩⟩

/-! ### Cut, Split -/
def gCut (a b : ByteArray) : Option ((ByteArray × ByteArray × Bool × Unit) × Unit) := if a.size < 4294967281 then some ((⟨(Go.Lib.cut a.data.toList b.data.toList).1.toArray⟩, ⟨(Go.Lib.cut a.data.toList b.data.toList).2.1.toArray⟩, (Go.Lib.cut a.data.toList b.data.toList).2.2, ()), ()) else none

theorem gCut_sound : Sound Tryd.prog glob ⟨18, ⟨[(0, .c .str), (1, .c .str)], [], []⟩, ⟨[(0, .c .str), (1, .c .str), (2, .c .bool)], [], []⟩, fun _ v => gCut v.1.1 v.1.2.1⟩ := by
  refine ⟨entryFn_of Tryd.func18 (by kernel_rfl), fun k => given_flat laid_of fun v o h S φ w args hL ht hs => ?_⟩
  unfold gCut at h
  split at h
  case isFalse => cases h
  rename_i c
  injection h with h; subst h
  obtain rfl := args2 hs (ht 0) (ht 1)
  obtain ⟨⟨m, hm⟩, _⟩ := hL
  refine (Go.Proofs.Tryd.strings_Cut v.1.1 v.1.2.1 m w c hm).mono ?_
  rintro e w' ⟨rfl, n, rfl⟩
  exact ⟨_, rfl, ⟨rfl, rfl, rfl, Nat.le_refl _, fun _ _ => rfl⟩, fun S' φ' hh => ⟨_, rfl, rfl, rfl, rfl, trivial⟩⟩

def gSplit (a b : ByteArray) : Option ((List ByteArray × Unit) × Unit) := if a.size < 4294967281 ∧ 1 ≤ b.size then some ((Go.Lib.splitB b 0 (Go.Lib.countB a b) a, ()), ()) else none

theorem rep_strs {S : Nat → Prop} {w : World} : ∀ l : List ByteArray, RepL (Rep S w .str) l (l.map Value.string)
  | [] => rfl
  | x :: l => ⟨[.string x], l.map Value.string, rfl, rfl, rep_strs l⟩

theorem gSplit_sound : Sound Tryd.prog glob ⟨16, ⟨[(0, .c .str), (1, .c .str)], [], []⟩, ⟨[(0, .c (.sl .str))], [], []⟩, fun _ v => gSplit v.1.1 v.1.2.1⟩ := by
  refine ⟨entryFn_of Tryd.func16 (by kernel_rfl), fun k => given_data laid_of glob_mut fun v l h S φ w args hL ht hs => ?_⟩
  unfold gSplit at h
  split at h
  case isFalse => cases h
  rename_i c
  injection h with h; injection h with h _; injection h with h _; subst h
  obtain rfl := args2 hs (ht 0) (ht 1)
  obtain ⟨⟨m, hm⟩, _⟩ := hL
  have hl := Go.Lib.splitB_all v.1.2.1 c.2 0 (Go.Lib.countB v.1.1 v.1.2.1) v.1.1 rfl
  refine (Go.Proofs.Tryd.strings_Split v.1.1 v.1.2.1 m w c.1 hm c.2).mono ?_
  rintro e w' ⟨rfl, rfl⟩
  refine ⟨_, rfl, Go.Joins.below_alloc1 _ _, some ⟨w.heap.size, 0, none⟩, Go.Lib.countB v.1.1 v.1.2.1 + 1, (Go.Lib.splitB v.1.2.1 0 (Go.Lib.countB v.1.1 v.1.2.1) v.1.1).map Value.string, ?_, ?_, rep_strs _, ?_⟩
  · rw [hl]
  · rw [hl]; exact Nat.le_refl _
  · refine ⟨fun j x hx => ?_, fun _ => ⟨Nat.le_refl _, by simp⟩⟩
    rw [add_at, Nat.zero_add]
    simp only [World.cell?, heap_alloc_new]
    simpa using hx
end Go.Proofs.YtkimeoknckohfaaDoor.R
