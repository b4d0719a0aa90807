/- A tree is read from its text: by both programs the same. -/
import Derived.Test.YtddaiabilhjcpaaDoorATreeSplit
import Derived.Test.YtddaiabilhjcpaaDoorAx5
import Derived.Test.YtddaiabilhjcpaaDoorAx10
namespace Go.Proofs.YtddaiabilhjcpaaDoorAT
open Go.RowKit Go.Proofs.YtddaiabilhjcpaaDoor.A Go.Proofs.YtddaiabilhjcpaaDoorW.PrintWords Go.Proofs.YtddaiabilhjcpaaDoorM

/-! the text of a valid tree, in pieces -/
def body (e : S52) : List UInt8 := (dec e.f0.toNat).data.toList ++ 45 :: ((dec e.f1.toNat).data.toList ++ 58 :: (dec e.f2.toNat).data.toList)
theorem edgeTxt_data (e : S52) : (edgeTxt e).data.toList = 32 :: body e := by
  unfold edgeTxt body
  simp only [ByteArray.data_append, Array.toList_append, List.append_assoc, List.cons_append, List.nil_append]
theorem txtFrom_data (L : List S52) : ∀ (d i : Nat) (acc : ByteArray), i + d = L.length → (txtFrom L d i acc).data.toList = acc.data.toList ++ (((L.drop i).map body).map (32 :: ·)).flatten
  | 0, i, acc, hi => by
    rw [List.drop_of_length_le (by omega)]
    simp [txtFrom]
  | d + 1, i, acc, hi => by
    obtain ⟨e, he, hm, hd⟩ := at_edge L i (by omega)
    rw [txtFrom, txtFrom_data L d (i + 1) _ (by omega), he, hd]
    simp [edgeTxt_data]
theorem treeTxt_data (n : Nat) (L : List S52) : (treeTxt n L).data.toList = glue 32 (dec n).data.toList (L.map body) := by
  unfold treeTxt glue
  rw [txtFrom_data L L.length 0 _ (by omega), List.drop_zero]

theorem body_no (n : Nat) (hn : n ≤ 16) (e : S52) (g : GE n e) : (32 : UInt8) ∉ body e := by
  obtain ⟨g0, g1, g2, g3, g4⟩ := g
  have a := dec_no e.f0.toNat (by omega) 32 (by decide)
  have b := dec_no e.f1.toNat (by omega) 32 (by decide)
  have c := dec_no e.f2.toNat (by omega) 32 (by decide)
  unfold body
  simp only [List.mem_append, List.mem_cons]
  rintro (h | h | h | h | h)
  · exact a h
  · exact absurd h (by decide)
  · exact b h
  · exact absurd h (by decide)
  · exact c h

theorem ba_ext {a b : ByteArray} (h : a.data.toList = b.data.toList) : a = b := ByteArray.ext (Array.toList_inj.1 h)

theorem ba_tl {a b : ByteArray} (h : a.toList = b.toList) : a = b := by
  apply ba_ext
  obtain ⟨⟨l⟩⟩ := a
  obtain ⟨⟨m⟩⟩ := b
  have e : (ByteArray.mk l.toArray).toList = (ByteArray.mk m.toArray).toList := h
  rw [ByteArray.toList_mk, ByteArray.toList_mk] at e
  exact e

/-- Is it the text of this valid tree? -/
def Good (s : ByteArray) (a : Int) (L : List S52) : Prop := vT a L = true ∧ treeTxt a.toNat L = s

/-! the program -/
def cutB (w : ByteArray) (c : UInt8) : ByteArray × ByteArray := (⟨(Go.Lib.cut w.data.toList [c]).1.toArray⟩, ⟨(Go.Lib.cut w.data.toList [c]).2.1.toArray⟩)
def parseE (w : ByteArray) : S52 := ⟨rn (cutB (cutB w 58).1 45).1, rn (cutB (cutB w 58).1 45).2, rn (cutB w 58).2⟩
theorem cutB_size (w : ByteArray) (c : UInt8) : (cutB w c).1.size ≤ w.size ∧ (cutB w c).2.size ≤ w.size := by
  have := cut_sizes w.data.toList [c]
  simp only [cutB, Go.Lib.size_eq]
  exact this
theorem cut_ev (w : ByteArray) (c : UInt8) (h : w.size < 4294967281) : ∃ o, strings_Cut.f w ⟨#[c]⟩ = some ((cutB w c).1, (cutB w c).2, o) := by
  unfold strings_Cut.f
  rw [if_pos h]
  exact ⟨_, rfl⟩

theorem parseE_body (n : Nat) (hn : n ≤ 16) (e : S52) (g : GE n e) (w : ByteArray) (hw : w.data.toList = body e) : parseE w = e := by
  obtain ⟨g0, g1, g2, g3, g4⟩ := g
  have a1 := dec_no e.f0.toNat (by omega) 58 (by decide)
  have b1 := dec_no e.f1.toNat (by omega) 58 (by decide)
  have a2 := dec_no e.f0.toNat (by omega) 45 (by decide)
  have h58 : (58 : UInt8) ∉ (dec e.f0.toNat).data.toList ++ 45 :: (dec e.f1.toNat).data.toList := by
    simp only [List.mem_append, List.mem_cons]
    rintro (h | h | h)
    · exact a1 h
    · exact absurd h (by decide)
    · exact b1 h
  have hb : body e = ((dec e.f0.toNat).data.toList ++ 45 :: (dec e.f1.toNat).data.toList) ++ 58 :: (dec e.f2.toNat).data.toList := by simp [body]
  have c1 : Go.Lib.cut w.data.toList [58] = ((dec e.f0.toNat).data.toList ++ 45 :: (dec e.f1.toNat).data.toList, (dec e.f2.toNat).data.toList, true) := by rw [hw, hb]; exact cut_hit1 58 _ _ h58
  have e1 : (cutB w 58).1.data.toList = (dec e.f0.toNat).data.toList ++ 45 :: (dec e.f1.toNat).data.toList := by simp [cutB, c1]
  have e2 : (cutB w 58).2 = dec e.f2.toNat := ba_ext (by simp [cutB, c1])
  have c2 : Go.Lib.cut (cutB w 58).1.data.toList [45] = ((dec e.f0.toNat).data.toList, (dec e.f1.toNat).data.toList, true) := by rw [e1]; exact cut_hit1 45 _ _ a2
  have e3 : (cutB (cutB w 58).1 45).1 = dec e.f0.toNat := ba_ext (by rw [cutB]; simp [c2])
  have e4 : (cutB (cutB w 58).1 45).2 = dec e.f1.toNat := ba_ext (by rw [cutB]; simp [c2])
  unfold parseE
  rw [e2, e3, e4, rn_dec _ (by omega) (by omega), rn_dec _ (by omega) (by omega), rn_dec _ (by omega) (by omega)]

theorem implRead_loop (s : ByteArray) (W y : List ByteArray) (hy : y.length ≤ 1048576) (hs : ∀ p ∈ y, p.size ≤ 1048576) (a : Int) (R : Int × List S52 × Bool) (h : Ev (fun k => (impl_ValidTree.f k a (y.map parseE)).bind fun t193 => (if t193 = true then ((impl_treeText.f k a (y.map parseE)).bind fun t194 => (if t194.toList = s.toList then (some (a, (y.map parseE), true)) else (some (0, ([] : List (S52)), false)))) else (some (0, ([] : List (S52)), false)))) R) :
    ∀ (d i : Nat), i + d = y.length → Ev (fun k => impl_ReadTree.l0 k s W y (y.length : Int) (i : Int) a ((y.take i).map parseE)) R
  | 0, i, hi => by
    refine ev_succ ?_
    simp only [impl_ReadTree.l0]
    rw [List.take_of_length_le (by omega)]
    exact ev_neg (by omega) h
  | d + 1, i, hi => by
    have hlt : i < y.length := by omega
    have hr : rdOf ByteArray.empty y (i : Int) = y[i] := by simp [rdOf, hlt]
    have hz := hs _ (List.getElem_mem hlt)
    have z1 := cutB_size y[i] 58
    have z2 := cutB_size (cutB y[i] 58).1 45
    obtain ⟨o1, q1⟩ := cut_ev y[i] 58 (by omega)
    obtain ⟨o2, q2⟩ := cut_ev (cutB y[i] 58).1 45 (by omega)
    obtain ⟨o3, q3⟩ := readNumber_ev (cutB (cutB y[i] 58).1 45).1 (by omega)
    obtain ⟨o4, q4⟩ := readNumber_ev (cutB (cutB y[i] 58).1 45).2 (by omega)
    obtain ⟨o5, q5⟩ := readNumber_ev (cutB y[i] 58).2 (by omega)
    have e : (y.take i).map parseE ++ [(⟨rn (cutB (cutB y[i] 58).1 45).1, rn (cutB (cutB y[i] 58).1 45).2, rn (cutB y[i] 58).2⟩ : S52)] = (y.take (i + 1)).map parseE := by
      rw [List.take_succ_eq_append_getElem hlt, List.map_append]; rfl
    refine ev_succ ?_
    simp only [impl_ReadTree.l0, hr, wnext i (by omega)]
    refine ev_pos (by omega) (ev_pos (by omega) (ev_pos (by omega) (ev_bindc q1 (ev_bindc q2 (ev_bindc q3 (ev_bindc q4 (ev_bindc q5 (ev_pos (by simp only [List.length_map, List.length_take]; omega) ?_))))))))
    simp only
    rw [e]
    exact implRead_loop s W y hy hs a R h d (i + 1) (by omega)

theorem impl_read (s : ByteArray) (hs : s.size ≤ 1048576) : ∃ a L, L.length ≤ 1048576 ∧ Ev (fun k => impl_ReadTree.f k s) (if vT a L = true ∧ treeTxt a.toNat L = s then (a, L, true) else (0, [], false)) ∧ ∀ a' L', Good s a' L' → a = a' ∧ L = L' := by
  have h1 : (1 : Nat) ≤ (⟨#[32]⟩ : ByteArray).size := Nat.le_refl _
  have hc := Go.Lib.countB_le ⟨#[32]⟩ h1 s.size s (Nat.le_refl _)
  have hl := Go.Lib.splitB_all ⟨#[32]⟩ h1 0 (Go.Lib.countB s ⟨#[32]⟩) s rfl
  have hz := splitB_sizes ⟨#[32]⟩ (Go.Lib.countB s ⟨#[32]⟩) s
  have hg := fun ps p => split_glue 32 ps p s
  have hf : strings_Split.f s ⟨#[32]⟩ = some (Go.Lib.splitB ⟨#[32]⟩ 0 (Go.Lib.countB s ⟨#[32]⟩) s) := by
    unfold strings_Split.f; rw [if_pos ⟨by omega, h1⟩]
  generalize Go.Lib.splitB ⟨#[32]⟩ 0 (Go.Lib.countB s ⟨#[32]⟩) s = W at *
  match W, hl with
  | w :: y, hl =>
    simp only [List.length_cons] at hl
    have hw := hz w List.mem_cons_self
    obtain ⟨o, q⟩ := readNumber_ev w (by omega)
    refine ⟨rn w, y.map parseE, by simp; omega, ?_, fun a' L' ⟨v, t⟩ => ?_⟩
    · unfold impl_ReadTree.f
      have hr : rdOf ByteArray.empty (w :: y) 0 = w := rfl
      refine ev_bindc hf (ev_pos (by first | (simp; done) | (simp; omega)) ?_)
      rw [hr]
      refine ev_bindc q (ev_pos (by first | (simp; done) | (simp; omega)) (ev_bindc rfl ?_))
      have L0 := implRead_loop s (w :: y) y (by omega) (fun p hp => by have := hz p (List.mem_cons_of_mem _ hp); omega) (rn w) (if vT (rn w) (y.map parseE) = true ∧ treeTxt (rn w).toNat (y.map parseE) = s then (rn w, y.map parseE, true) else (0, [], false)) ?_ y.length 0 (by omega)
      · exact L0
      · refine Ev.bind (impl_ok (rn w) (y.map parseE) (by simp; omega)) ?_
        cases hv : vT (rn w) (y.map parseE) with
        | false =>
          refine ev_neg (by simp) ?_
          rw [if_neg (by simp)]
          exact Ev.now _
        | true =>
          obtain ⟨n, hn, h0, h1, _, hL, _⟩ := vT_out hv
          refine ev_pos rfl ?_
          rw [hn]
          refine Ev.bind (impl_txt n h0 h1 (y.map parseE) (by simp; omega) hL) ?_
          simp only [Int.toNat_natCast, true_and]
          by_cases c : treeTxt n (y.map parseE) = s
          · rw [if_pos c]; exact ev_pos (by rw [c]) (Ev.now _)
          · rw [if_neg c]
            refine ev_neg (fun e => c ?_) (Ev.now _)
            exact ba_tl e
    · obtain ⟨n, rfl, h0, h1, h2, hL, _⟩ := vT_out v
      simp only [Int.toNat_natCast] at t
      have d := treeTxt_data n L'
      rw [t] at d
      have m := hg (L'.map body) (dec n).data.toList d (dec_no n (by omega) 32 (by decide)) (fun p hp => by
        obtain ⟨e, he, rfl⟩ := List.mem_map.1 hp
        exact body_no n h1 e (hL e he))
      simp only [List.map_cons, List.cons.injEq] at m
      refine ⟨?_, ?_⟩
      · rw [show w = dec n from ba_ext m.1]
        have := rn_dec (n : Int) (by omega) (by omega)
        simpa using this
      · apply List.ext_getElem?
        intro j
        have mj := congrArg (·[j]?) m.2
        simp only [List.getElem?_map] at mj ⊢
        cases hj : L'[j]? with
        | none =>
          rw [hj] at mj
          cases hy : y[j]? with
          | none => rfl
          | some p => rw [hy] at mj; cases mj
        | some e =>
          rw [hj] at mj
          cases hy : y[j]? with
          | none => rw [hy] at mj; cases mj
          | some p =>
            rw [hy] at mj
            simp only [Option.map_some, Option.some.injEq] at mj ⊢
            exact parseE_body n h1 e (hL e (List.mem_of_getElem? hj)) p mj

end Go.Proofs.YtddaiabilhjcpaaDoorAT
