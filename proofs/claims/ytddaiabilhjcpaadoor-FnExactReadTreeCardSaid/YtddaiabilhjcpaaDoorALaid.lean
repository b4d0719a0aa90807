/- The library's variables, as they were laid: what is asked of them, and that it stays. -/
import Derived.Test.YtddaiabilhjcpaaDoorAWC
import Derived.Test.YtddaiabilhjcpaaDoorShelf
import Derived.Lib.SmallJoins
import Derived.Lib.SplitLaws
import Derived.Lib.AtoiErrMem
import Derived.Lib.AppendIntMem
namespace Go.Proofs.YtddaiabilhjcpaaDoor.A
open Go.RowKit Go.Proofs.YtddaiabilhjcpaaDoorW.PrintWords

/-- internal/bytealg.MaxLen holds some number; strconv's table of powers and its two errors stand as they were laid. -/
def LaidW (w : World) : Prop := (∃ m, w.cell? ⟨0, 0, none⟩ = some (.int .i64 m)) ∧ Go.Lib.TabIs Tryd.prog w "internal/strconv.uint64pow10" .u64 Go.Lib.pow10Tab ∧
  (∃ tp p, w.var? Tryd.prog "strconv.ErrSyntax" = some #[.iface tp p]) ∧ ∃ tp p, w.var? Tryd.prog "strconv.ErrRange" = some #[.iface tp p]

theorem LaidW.below {w w' : World} (h : LaidW w) (hb : Below w.heap.size w w') : LaidW w' := by
  obtain ⟨⟨m, hm⟩, ht, ⟨tp, p, h1⟩, tq, q, h2⟩ := h
  exact ⟨⟨m, (hb.cell (World.block_lt_of_cell? _ _ hm)).trans hm⟩, Go.Joins.tab_stays (g := (Tryd.prog.globalNamed "internal/strconv.uint64pow10").getD 0) (by kernel_rfl) ht hb (Nat.le_refl _),
    ⟨tp, p, Go.Joins.var_stays (g := (Tryd.prog.globalNamed "strconv.ErrSyntax").getD 0) (by kernel_rfl) h1 hb (Nat.le_refl _)⟩, tq, q, Go.Joins.var_stays (g := (Tryd.prog.globalNamed "strconv.ErrRange").getD 0) (by kernel_rfl) h2 hb (Nat.le_refl _)⟩

end Go.Proofs.YtddaiabilhjcpaaDoor.A
