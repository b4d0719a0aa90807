/- The trees that a law draws are valid. -/
import Derived.Test.YtmckbecegiegaaaATreeOk
import Derived.Laws.Bits64b
import Derived.Test.YtmckbecegiegaaaAx20
namespace Go.Proofs.YtmckbecegiegaaaAT
open Go.RowKit Go.Proofs.Ytmckbecegiegaaa.A Go.Proofs.YtmckbecegiegaaaW.PrintWords Go.Proofs.YtmckbecegiegaaaM

theorem u64_b (i : Int) : 0 ≤ IntKind.u64.wrap i ∧ IntKind.u64.wrap i < 18446744073709551616 := by
  have h : IntKind.u64.wrap i = i % 18446744073709551616 := rfl
  rw [h]; omega

theorem and255 (x : Int) (h0 : 0 ≤ x) (h1 : x < 18446744073709551616) : 0 ≤ Go.bits .and .u64 x 255 ∧ Go.bits .and .u64 x 255 ≤ 255 := by
  have h := bits_and_u64_nat x.toNat 255 (by omega) (by omega)
  rw [Int.toNat_of_nonneg h0] at h
  have e : Go.bits .and .u64 x 255 = ((x.toNat &&& 255 : Nat) : Int) := h
  have := Nat.and_le_right (n := x.toNat) (m := 255)
  rw [e]
  omega

def byt (i : Int) : Int := wrap64 (Go.bits .and .u64 ((IntKind.u64.wrap i) / 1099511627776) 255)
theorem byt_b (i : Int) : 0 ≤ byt i ∧ byt i ≤ 255 := by
  have h := u64_b i
  have g := and255 (IntKind.u64.wrap i / 1099511627776) (by omega) (by omega)
  unfold byt
  rw [w64 (by omega) (by omega)]
  exact g

theorem rd_b (s : List Int) (hs : ∀ x ∈ s, 0 ≤ x ∧ x ≤ 255) (a : Int) (h0 : 0 ≤ a) (h1 : a < s.length) : 0 ≤ rd s a ∧ rd s a ≤ 255 := by
  have hlt : a.toNat < s.length := by omega
  have e : rd s a = s[a.toNat] := by simp [rd, hlt]
  rw [e]; exact hs _ (List.getElem_mem hlt)

theorem next_ev (s : List Int) (hs : ∀ x ∈ s, 0 ≤ x ∧ x ≤ 255) (a : Int) (h0 : 0 ≤ a) (h1 : a ≤ 1000000) (g : Int) : ∃ r g', spec_l00Src_next.f s a g = some (r, a + 1, g') ∧ 0 ≤ r ∧ r ≤ 255 := by
  unfold spec_l00Src_next.f
  rw [w64 (i := a + 1) (by omega) (by omega)]
  by_cases q : a < (s.length : Int)
  · have hb := rd_b s hs a h0 q
    rw [if_pos q, if_pos h0]
    by_cases q2 : a + 1 ≤ (s.length : Int)
    · rw [if_pos q2, w64 (i := rd s a) (by omega) (by omega)]
      exact ⟨_, _, rfl, hb⟩
    · rw [if_neg q2]
      exact ⟨byt _, _, rfl, byt_b _⟩
  · rw [if_neg q]
    by_cases q2 : a + 1 ≤ (s.length : Int)
    · rw [if_pos q2]
      exact ⟨_, _, rfl, by omega⟩
    · rw [if_neg q2]
      exact ⟨byt _, _, rfl, byt_b _⟩

theorem pick_ev (s : List Int) (hs : ∀ x ∈ s, 0 ≤ x ∧ x ≤ 255) (a : Int) (h0 : 0 ≤ a) (h1 : a ≤ 1000000) (g n : Int) (hn : 1 ≤ n) (hn2 : n ≤ 200) : ∃ r a' g', spec_l00Src_pick.f s a g n = some (r, a', g') ∧ 0 ≤ r ∧ r < n ∧ a ≤ a' ∧ a' ≤ a + 1 := by
  unfold spec_l00Src_pick.f
  by_cases q : n ≤ 1
  · rw [if_pos q]
    exact ⟨_, _, _, rfl, by omega, by omega, by omega, by omega⟩
  · obtain ⟨r, g', e, hr⟩ := next_ev s hs a h0 h1 g
    rw [if_neg q, e]
    simp only [Option.bind_some]
    rw [if_neg (by omega), if_neg (by omega)]
    refine ⟨_, _, _, rfl, ?_, ?_, by omega, by omega⟩
    · rw [Int.tmod_eq_emod_of_nonneg hr.1]; exact Int.emod_nonneg _ (by omega)
    · rw [Int.tmod_eq_emod_of_nonneg hr.1]; exact Int.emod_lt_of_pos _ (by omega)

/-! a tree's edges in their order -/
theorem ltE_iff (a b : S75) : ltE a b = true ↔ a.f0 < b.f0 ∨ (a.f0 = b.f0 ∧ a.f1 < b.f1) := by
  unfold ltE; simp
theorem ltE_trans {a b c : S75} (h : ltE a b = true) (g : ltE b c = true) : ltE a c = true := by
  rw [ltE_iff] at *; omega
theorem ltE_total {a b : S75} (h : a.f1 ≠ b.f1) (g : ltE b a = false) : ltE a b = true := by
  rw [Bool.eq_false_iff, Ne, ltE_iff] at g
  rw [ltE_iff]; omega

def Sorted (L : List S75) : Prop := L.Pairwise (fun a b => ltE a b = true)

theorem sorted_get {L : List S75} (h : Sorted L) (i j : Nat) (hij : i < j) (hj : j < L.length) : ltE (L[i]'(by omega)) L[j] = true := (List.pairwise_iff_getElem.1 h) i j (by omega) hj hij

theorem put_sorted {L : List S75} (h : Sorted L) (e : S75) (hne : ∀ x ∈ L, x.f1 ≠ e.f1) (i : Nat) (hi : i ≤ L.length) (h1 : ∀ j (hj : j < L.length), j + 1 = i → ltE e L[j] = false) (h2 : ∀ j (hj : j < L.length), i ≤ j → ltE e L[j] = true) : Sorted (L.take i ++ [e] ++ L.drop i) := by
  have hs : (L.take i ++ L.drop i).Pairwise (fun a b => ltE a b = true) := by rw [List.take_append_drop]; exact h
  rw [List.pairwise_append] at hs
  unfold Sorted
  rw [List.pairwise_append, List.pairwise_append]
  refine ⟨⟨hs.1, List.pairwise_singleton _ _, ?_⟩, hs.2.1, ?_⟩
  · intro x hx y hy
    rw [List.mem_singleton.1 hy]
    obtain ⟨j, hj, rfl⟩ := List.getElem_of_mem hx
    have hj' : j < i := by simp at hj; omega
    have hjl : j < L.length := by omega
    rw [List.getElem_take]
    have hlast : ltE (L[i - 1]'(by omega)) e = true := ltE_total (hne _ (List.getElem_mem _)) (h1 (i - 1) (by omega) (by omega))
    by_cases q : j = i - 1
    · subst q; exact hlast
    · exact ltE_trans (sorted_get h j (i - 1) (by omega) (by omega)) hlast
  · intro x hx y hy
    rcases List.mem_append.1 hx with hx | hx
    · exact hs.2.2 x hx y hy
    · rw [List.mem_singleton.1 hx]
      obtain ⟨j, hj, rfl⟩ := List.getElem_of_mem hy
      rw [List.getElem_drop]
      exact h2 _ _ (by omega)

theorem wprev (i : Nat) (h : i ≤ 1000000) : wrap64 (((i + 1 : Nat) : Int) - 1) = (i : Int) := by rw [w64 (by omega) (by omega)]; omega

theorem put_loop (L : List S75) (hl : L.length ≤ 1000) (e : S75) : ∀ (i : Nat), i ≤ L.length → (∀ j (hj : j < L.length), i ≤ j → ltE e L[j] = true) →
    ∃ p, p ≤ L.length ∧ (∀ j (hj : j < L.length), j + 1 = p → ltE e L[j] = false) ∧ (∀ j (hj : j < L.length), p ≤ j → ltE e L[j] = true) ∧ Ev (fun k => spec_l30Put.l0 k L (i : Int) e.f0 e.f1 e.f2) (L.take p ++ [e] ++ L.drop p)
  | 0, hi, h => by
    refine ⟨0, hi, fun j hj q => by omega, h, ev_succ ?_⟩
    simp only [spec_l30Put.l0]
    refine ev_neg (by omega) (ev_bindc rfl (ev_pos (by omega) (ev_pos (by omega) (ev_bindc rfl (ev_pos ?_ (ev_bindc rfl (ev_pos ?_ (ev_bindc rfl (ev_bindc rfl (ev_pos ?_ ?_)))))))))) <;> simp only [Int.toNat_natCast, List.nil_append, List.length_nil, List.length_append, List.length_take, List.length_drop, List.length_cons] <;> first | exact Ev.now _ | omega
  | i + 1, hi, h => by
    have hr := rd71 L i (by omega)
    cases q : ltE e L[i] with
    | true =>
      obtain ⟨p, h1, h2, h3, h4⟩ := put_loop L hl e i (by omega) (fun j hj g => by
        by_cases c : j = i
        · subst c; exact q
        · exact h j hj (by omega))
      refine ⟨p, h1, h2, h3, ev_succ ?_⟩
      simp only [spec_l30Put.l0, wprev i (by omega), hr]
      exact ev_pos (by omega) (ev_pos (by omega) (ev_pos (by omega) (ev_bindc ((less_iff e L[i]).trans (by rw [q])) (ev_pos rfl h4))))
    | false =>
      refine ⟨i + 1, hi, fun j hj c => ?_, h, ev_succ ?_⟩
      · have : j = i := by omega
        subst this; exact q
      simp only [spec_l30Put.l0, wprev i (by omega), hr]
      refine ev_pos (by omega) (ev_pos (by omega) (ev_pos (by omega) (ev_bindc ((less_iff e L[i]).trans (by rw [q])) (ev_neg (by simp) (ev_bindc rfl (ev_pos (by omega) (ev_pos (by omega) (ev_bindc rfl (ev_pos ?_ (ev_bindc rfl (ev_pos ?_ (ev_bindc rfl (ev_bindc rfl (ev_pos ?_ ?_)))))))))))))) <;> simp only [Int.toNat_natCast, List.nil_append, List.length_nil, List.length_append, List.length_take, List.length_drop, List.length_cons] <;> first | exact Ev.now _ | omega

theorem put_ev (L : List S75) (hl : L.length ≤ 1000) (h : Sorted L) (e : S75) (hne : ∀ x ∈ L, x.f1 ≠ e.f1) : ∃ M, Ev (fun k => spec_l30Put.f k L e.f0 e.f1 e.f2) M ∧ Sorted M ∧ M.length = L.length + 1 ∧ ∀ x, x ∈ M ↔ x = e ∨ x ∈ L := by
  obtain ⟨p, h1, h2, h3, h4⟩ := put_loop L hl e L.length (Nat.le_refl _) (fun j hj g => by omega)
  refine ⟨_, h4, put_sorted h e hne p h1 h2 h3, ?_, fun x => ?_⟩
  · simp; omega
  · have : x ∈ L ↔ x ∈ L.take p ∨ x ∈ L.drop p := by rw [← List.mem_append, List.take_append_drop]
    rw [this]
    simp only [List.mem_append, List.mem_singleton]
    constructor
    · rintro ((h | h) | h)
      · exact .inr (.inl h)
      · exact .inl h
      · exact .inr (.inr h)
    · rintro (h | h | h)
      · exact .inl (.inr h)
      · exact .inl (.inl h)
      · exact .inr h

structure Grown (k : Nat) (L : List S75) : Prop where
  len : L.length + 1 = k
  srt : Sorted L
  ok : ∀ x ∈ L, 0 ≤ x.f0 ∧ x.f0 < x.f1 ∧ x.f1 < k ∧ 1 ≤ x.f2 ∧ x.f2 ≤ 20
  all : ∀ v : Nat, 1 ≤ v → v < k → ∃ x ∈ L, x.f1 = v

theorem draw_loop (s : List Int) (hs : ∀ x ∈ s, 0 ≤ x ∧ x ≤ 255) (n : Nat) (hn : n ≤ 16) : ∀ (d k : Nat) (L : List S75) (a g : Int), k + d = n → 1 ≤ k → Grown k L → 0 ≤ a → a + 2 * d ≤ 1000 →
    ∃ M a' g', Ev (fun j => spec_l30Draw.l0 j 3 (k : Int) s a g (n : Int) L) ((n : Int), M, a', g') ∧ Grown n M
  | 0, k, L, a, g, hk, h1, h, h0, ha => by
    have e : k = n := by omega
    subst e
    refine ⟨L, a, g, ev_succ ?_, h⟩
    simp only [spec_l30Draw.l0]
    exact ev_neg (by omega) (Ev.now _)
  | d + 1, k, L, a, g, hk, h1, h, h0, ha => by
    obtain ⟨r, a1, g1, e1, r0, r1, b0, b1⟩ := pick_ev s hs a h0 (by omega) g (k : Int) (by omega) (by omega)
    obtain ⟨t, a2, g2, e2, t0, t1, c0, c1⟩ := pick_ev s hs a1 (by omega) (by omega) g1 3 (by omega) (by omega)
    obtain ⟨M, m1, m2, m3, m4⟩ := put_ev L (by have := h.len; omega) h.srt ⟨r, (k : Int), 1 + t⟩ (fun x hx => by have := (h.ok x hx).2.2.1; simp only; omega)
    have G : Grown (k + 1) M := by
      refine ⟨by have := h.len; omega, m2, fun x hx => ?_, fun v v0 v1 => ?_⟩
      · rcases (m4 x).1 hx with rfl | hx
        · simp only; omega
        · have := h.ok x hx; omega
      · by_cases q : v = k
        · subst q; exact ⟨_, (m4 _).2 (.inl rfl), rfl⟩
        · obtain ⟨x, hx, e⟩ := h.all v v0 (by omega)
          exact ⟨x, (m4 x).2 (.inr hx), e⟩
    obtain ⟨M', a', g', i1, i2⟩ := draw_loop s hs n hn d (k + 1) M a2 g2 (by omega) (by omega) G (by omega) (by omega)
    refine ⟨M', a', g', ev_succ ?_, i2⟩
    simp only [spec_l30Draw.l0, wnext k (by omega)]
    refine ev_pos (by omega) (ev_bindc e1 (ev_bindc e2 ?_))
    rw [w64 (i := 1 + t) (by omega) (by omega)]
    exact Ev.bind m1 i1

theorem grown_valid (n : Nat) (h2 : 2 ≤ n) (hn : n ≤ 16) (L : List S75) (h : Grown n L) : vT (n : Int) L = true := by
  have hl := h.len
  have hL : ∀ e ∈ L, GE n e := fun e he => by have := h.ok e he; unfold GE; omega
  have hok : ∀ d i, i + d = L.length → okFrom n L d i = true := by
    intro d
    induction d with
    | zero => intro i _; rfl
    | succ d ih =>
      intro i hi
      have hlt : i < L.length := by omega
      simp only [okFrom, Bool.and_eq_true, Bool.or_eq_true, decide_eq_true_iff]
      refine ⟨by rw [rd71 L i hlt]; exact (gE_iff n _).2 (hL _ (List.getElem_mem hlt)), ?_, ih (i + 1) (by omega)⟩
      by_cases q : i = 0
      · exact .inl q
      · right
        rw [rd71 L i hlt, rd71 L (i - 1) (by omega)]
        exact sorted_get h.srt (i - 1) i (by omega) hlt
  have hr : reachB n L = true := by
    refine (reachB_iff n L (by omega) hL).2 ?_
    have d := tab_done n L 0 (by omega) (by omega) hL
    have : ∀ v : Nat, v < n → 0 ≤ rd (tab n L 0).1 (v : Int) := by
      intro v
      induction v using Nat.strongRecOn with
      | _ v ih =>
        intro hv
        by_cases q : v = 0
        · subst q
          have := d.st.root
          rw [show ((0 : Nat) : Int) = 0 from rfl, this]
          omega
        · obtain ⟨x, hx, e⟩ := h.all v (by omega) hv
          have ho := h.ok x hx
          have := ih x.f0.toNat (by omega) (by omega)
          rw [Int.toNat_of_nonneg ho.1] at this
          rw [← e]
          exact (d.shut x hx).1 this
    intro i i0 i1
    have := this i.toNat (by omega)
    rw [Int.toNat_of_nonneg i0] at this
    exact this
  unfold vT valB
  simp only [Int.toNat_natCast, Bool.and_eq_true, decide_eq_true_iff]
  exact ⟨by omega, by omega, by omega, hok _ 0 (by omega), hr⟩

theorem a2tree (s : List Int) (hs : ∀ x ∈ s, 0 ≤ x ∧ x ≤ 255) : ∃ (n : Nat) (L : List S75), 2 ≤ n ∧ n ≤ 6 ∧ L.length ≤ 16 ∧ vT (n : Int) L = true ∧ Ev (fun k => spec_A2Tree.f k s 6 3) ((n : Int), L) := by
  have w5 : wrap64 (6 - 1) = 5 := by rw [w64 (by omega) (by omega)]; rfl
  obtain ⟨r, a, g, e, r0, r1, b0, b1⟩ := pick_ev s hs 0 (by omega) (by omega) 0 5 (by omega) (by omega)
  have hn : wrap64 (2 + r) = (((2 + r).toNat : Nat) : Int) := by rw [w64 (by omega) (by omega)]; omega
  obtain ⟨M, a', g', h1, h2⟩ := draw_loop s hs (2 + r).toNat (by omega) ((2 + r).toNat - 1) 1 [] a g (by omega) (by omega) ⟨rfl, List.Pairwise.nil, fun x hx => (by cases hx), fun v v0 v1 => by omega⟩ (by omega) (by omega)
  refine ⟨(2 + r).toNat, M, by omega, by omega, by have := h2.len; omega, grown_valid _ (by omega) (by omega) M h2, ?_⟩
  unfold spec_A2Tree.f spec_l00From.f
  refine ev_bindc rfl (Ev.bind (a := ((((2 + r).toNat : Nat) : Int), M, a', g')) ?_ (Ev.now _))
  unfold spec_l30Draw.f
  rw [w5]
  refine ev_bindc e ?_
  rw [hn]
  exact h1

end Go.Proofs.YtmckbecegiegaaaAT
