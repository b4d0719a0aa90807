/- What the laws' parameters read as: one lemma a record type. Written by this session's own program (myprint.py). -/
import Derived.Test.YtmckbecegiegaaaAx0
import Derived.Test.YtmckbecegiegaaaAMOpen
namespace Go.Proofs.Ytmckbecegiegaaa.A
open Go.RowKit Go.Deep Go.WideShapes Go.Proofs.YtmckbecegiegaaaW.PrintWords Go.Proofs.YtmckbecegiegaaaM
set_option linter.unusedVariables false
def ok96 (x : S96) : Prop := ((Lit.int .i64 x.f0).wf = true) ∧ ((Lit.int .i64 x.f1).wf = true) ∧ ((Lit.int .i64 x.f2).wf = true)
set_option maxRecDepth 100000 in
theorem opn96 : Opn Try.prog 96 k96 ok96 := by
  intro H enc w base spare held fuel cs x h
  obtain ⟨xs, n, _, _, hlen, hxl, hf⟩ := DataW.trod_struct Try.underlying96 h
  have hcz : Try.prog.cellsOf 96 = 3 := by kernel_rfl
  rw [hcz] at hlen
  obtain ⟨c0, c1, c2, rfl⟩ := list3 hlen
  have e0 : DataW.trod enc Try.prog w base spare held n 2 (([c0, c1, c2].drop 0).take (Try.prog.cellsOf 2)) = some _ := (hf 0 _ rfl).trans (List.getElem?_eq_getElem (by rw [hxl]; decide))
  rw [show Try.prog.cellsOf 2 = 1 from by kernel_rfl] at e0
  obtain ⟨a0, h0, o0⟩ := (opn_int Try.underlying2) enc w base spare held n [c0] _ e0
  have e1 : DataW.trod enc Try.prog w base spare held n 2 (([c0, c1, c2].drop 1).take (Try.prog.cellsOf 2)) = some _ := (hf 1 _ rfl).trans (List.getElem?_eq_getElem (by rw [hxl]; decide))
  rw [show Try.prog.cellsOf 2 = 1 from by kernel_rfl] at e1
  obtain ⟨a1, h1, o1⟩ := (opn_int Try.underlying2) enc w base spare held n [c1] _ e1
  have e2 : DataW.trod enc Try.prog w base spare held n 2 (([c0, c1, c2].drop 2).take (Try.prog.cellsOf 2)) = some _ := (hf 2 _ rfl).trans (List.getElem?_eq_getElem (by rw [hxl]; decide))
  rw [show Try.prog.cellsOf 2 = 1 from by kernel_rfl] at e2
  obtain ⟨a2, h2, o2⟩ := (opn_int Try.underlying2) enc w base spare held n [c2] _ e2
  exact ⟨⟨a0, a1, a2⟩, ⟨[c0], [c1, c2], rfl, h0, ⟨[c1], [c2], rfl, h1, h2⟩⟩, ⟨o0, o1, o2⟩⟩
def ok42 (x : S42) : Prop := ((Lit.int .i64 x.f0).wf = true) ∧ (x.f1.length ≤ maxLen ∧ ∀ y ∈ x.f1, ok96 y)
set_option maxRecDepth 100000 in
theorem opn42 : Opn Try.prog 42 k42 ok42 := by
  intro H enc w base spare held fuel cs x h
  obtain ⟨xs, n, _, _, hlen, hxl, hf⟩ := DataW.trod_struct Try.underlying42 h
  have hcz : Try.prog.cellsOf 42 = 2 := by kernel_rfl
  rw [hcz] at hlen
  obtain ⟨c0, c1, rfl⟩ := list2 hlen
  have e0 : DataW.trod enc Try.prog w base spare held n 2 (([c0, c1].drop 0).take (Try.prog.cellsOf 2)) = some _ := (hf 0 _ rfl).trans (List.getElem?_eq_getElem (by rw [hxl]; decide))
  rw [show Try.prog.cellsOf 2 = 1 from by kernel_rfl] at e0
  obtain ⟨a0, h0, o0⟩ := (opn_int Try.underlying2) enc w base spare held n [c0] _ e0
  have e1 : DataW.trod enc Try.prog w base spare held n 40 (([c0, c1].drop 1).take (Try.prog.cellsOf 40)) = some _ := (hf 1 _ rfl).trans (List.getElem?_eq_getElem (by rw [hxl]; decide))
  rw [show Try.prog.cellsOf 40 = 1 from by kernel_rfl] at e1
  obtain ⟨a1, h1, o1⟩ := (opn_slice Try.underlying40 opn96 (by kernel_rfl)) enc w base spare held n [c1] _ e1
  exact ⟨⟨a0, a1⟩, ⟨[c0], [c1], rfl, h0, h1⟩, ⟨o0, o1⟩⟩
end Go.Proofs.Ytmckbecegiegaaa.A
