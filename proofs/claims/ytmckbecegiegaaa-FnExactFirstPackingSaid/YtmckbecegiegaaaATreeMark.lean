/- Marks that a law puts into a tree. -/
import Derived.Test.YtmckbecegiegaaaATreeLaw
import Derived.Test.YtmckbecegiegaaaAx16
namespace Go.Proofs.YtmckbecegiegaaaAT
open Go.RowKit Go.Proofs.Ytmckbecegiegaaa.A Go.Proofs.YtmckbecegiegaaaW.PrintWords Go.Proofs.YtmckbecegiegaaaM

theorem markE_loop : ∀ (d i : Nat) (L : List S75) (v : Int), i + d = L.length → L.length ≤ 1048576 → 0 ≤ v → v + 3 * d ≤ 1000000000 → ∃ w m, Ev (fun k => laws_markTreeEdgeS.l0 k L v (i : Int)) (w, m) ∧ 0 ≤ w ∧ w ≤ v + 3 * d
  | 0, i, L, v, hi, hl, h0, h1 => by
    refine ⟨v, L, ev_succ ?_, h0, by omega⟩
    simp only [laws_markTreeEdgeS.l0]
    exact ev_neg (by omega) (Ev.now _)
  | d + 1, i, L, v, hi, hl, h0, h1 => by
    obtain ⟨w, m, h, hw⟩ := markE_loop d (i + 1) (((L.set i ⟨v, (rd_T75 L i).f1, (rd_T75 L i).f2⟩).set i ⟨(rd_T75 (L.set i ⟨v, (rd_T75 L i).f1, (rd_T75 L i).f2⟩) i).f0, v + 1, (rd_T75 (L.set i ⟨v, (rd_T75 L i).f1, (rd_T75 L i).f2⟩) i).f2⟩).set i ⟨(rd_T75 ((L.set i ⟨v, (rd_T75 L i).f1, (rd_T75 L i).f2⟩).set i ⟨(rd_T75 (L.set i ⟨v, (rd_T75 L i).f1, (rd_T75 L i).f2⟩) i).f0, v + 1, (rd_T75 (L.set i ⟨v, (rd_T75 L i).f1, (rd_T75 L i).f2⟩) i).f2⟩) i).f0, (rd_T75 ((L.set i ⟨v, (rd_T75 L i).f1, (rd_T75 L i).f2⟩).set i ⟨(rd_T75 (L.set i ⟨v, (rd_T75 L i).f1, (rd_T75 L i).f2⟩) i).f0, v + 1, (rd_T75 (L.set i ⟨v, (rd_T75 L i).f1, (rd_T75 L i).f2⟩) i).f2⟩) i).f1, v + 1 + 1⟩) (v + 1 + 1 + 1) (by simp; omega) (by simp; omega) (by omega) (by omega)
    refine ⟨w, m, ev_succ ?_, hw.1, by omega⟩
    simp only [laws_markTreeEdgeS.l0]
    refine ev_pos (by omega) (ev_pos (by omega) ?_)
    rw [w64 (i := v + 1) (by omega) (by omega), w64 (i := v + 1 + 1) (by omega) (by omega), w64 (i := v + 1 + 1 + 1) (by omega) (by omega), wnext i (by omega)]
    simp only [Option.bind_some, Int.toNat_natCast]
    exact h

theorem markT (a : Int) (L : List S75) (hl : L.length ≤ 1048576) : ∃ w m, Ev (fun k => laws_markTree.f k a L 1) (w, m) ∧ 0 ≤ w ∧ w ≤ 3145729 := by
  obtain ⟨w, m, h, hw⟩ := markE_loop L.length 0 L 1 (by omega) hl (by omega) (by omega)
  refine ⟨w, m, ?_, hw.1, by omega⟩
  unfold laws_markTree.f laws_markTreeEdgeS.f
  exact Ev.bind h (Ev.now _)

end Go.Proofs.YtmckbecegiegaaaAT
