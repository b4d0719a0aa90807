/- A tree is read from its text: the reference's reader. -/
import Derived.Test.YtddaiabilhjcpaaDoorATreeRead
namespace Go.Proofs.YtddaiabilhjcpaaDoorAT
open Go.RowKit Go.Proofs.YtddaiabilhjcpaaDoor.A Go.Proofs.YtddaiabilhjcpaaDoorW.PrintWords Go.Proofs.YtddaiabilhjcpaaDoorM

def textOf (a : Int) (L : List S52) : ByteArray := if vT a L = true then treeTxt a.toNat L else ⟨#[]⟩

theorem spec_textOf (a : Int) (L : List S52) (hl : L.length ≤ 1048576) : Ev (fun k => spec_TreeText.f k a L) (textOf a L) := by
  unfold spec_TreeText.f textOf
  refine Ev.bind (spec_ok a L hl) ?_
  cases h : vT a L with
  | false => simp only [Bool.false_eq_true, if_false]; exact Ev.now _
  | true =>
    obtain ⟨n, rfl, h0, h1, _, hL, _⟩ := vT_out h
    simp only [if_true, Int.toNat_natCast]
    exact Ev.bind (spec_txt n h0 h1 L hl hL) (Ev.now _)

/-- What the reader may answer: a failure, or the tree that the text is of. -/
def Ans (s : ByteArray) (R : Int × List S52 × Bool) : Prop := R = (0, [], false) ∨ ∃ a L, Good s a L ∧ R = (a, L, true)

theorem read_end (s : ByteArray) (a : Int) (L : List S52) (hl : L.length ≤ 1048576) : ∃ R, Ev (fun k => if s.toList = ([] : List UInt8) then (some (0, ([] : List (S52)), false)) else ((spec_TreeText.f k a L).bind fun t275 => (if t275.toList = s.toList then (some (a, L, true)) else (some (0, ([] : List (S52)), false))))) R ∧ Ans s R := by
  by_cases c : s.toList = []
  · exact ⟨_, ev_pos c (Ev.now _), .inl rfl⟩
  · by_cases q : (textOf a L).toList = s.toList
    · refine ⟨_, ev_neg c (Ev.bind (spec_textOf a L hl) (ev_pos q (Ev.now _))), .inr ⟨a, L, ?_, rfl⟩⟩
      have e := ba_tl q
      unfold textOf at e
      cases hv : vT a L with
      | false => rw [hv] at e; exact absurd (by rw [← e, if_neg (by simp), ByteArray.toList_eq]) c
      | true => rw [hv] at e; exact ⟨hv, by simpa using e⟩
    · exact ⟨_, ev_neg c (Ev.bind (spec_textOf a L hl) (ev_neg q (Ev.now _))), .inl rfl⟩

theorem mem_size {W : List ByteArray} {c : UInt8} {s : ByteArray} (e : W.map (·.data.toList) = sp c s.data.toList) : W.length ≤ s.size + 1 ∧ 0 < W.length ∧ ∀ w ∈ W, w.size ≤ s.size := by
  have ⟨h1, h2⟩ := sp_size c s.data.toList
  have h3 := sp_ne c s.data.toList
  rw [← e] at h1 h2 h3
  simp only [Go.Lib.size_eq]
  refine ⟨by simpa using h1, ?_, fun w hw => h2 _ (List.mem_map_of_mem hw)⟩
  cases W with
  | nil => simp at h3
  | cons _ _ => simp

theorem rdOf_get (W : List ByteArray) (i : Nat) (h : i < W.length) : rdOf ByteArray.empty W (i : Int) = W[i] := by simp [rdOf, h]

theorem read_loop (s : ByteArray) (W : List ByteArray) (hW : ∀ w ∈ W, w.size ≤ 1048576) (hn : W.length ≤ 1048577) (a : Int) : ∀ (d i : Nat) (acc : List S52), i + d = 17 → acc.length ≤ i →
    ∃ R, Ev (fun k => spec_ReadTree.l0 k s W (i : Int) a acc) R ∧ Ans s R
  | 0, i, acc, hi, ha => by
    obtain ⟨R, h1, h2⟩ := read_end s a acc (by omega)
    have J : Ev (fun k => spec_ReadTree.j1 k s W (i : Int) false a acc) R := ev_succ (by simp only [spec_ReadTree.j1]; exact ev_neg (by simp) h1)
    refine ⟨R, ev_succ ?_, h2⟩
    simp only [spec_ReadTree.l0]
    rw [show decide ((i : Int) < 17) = false by simp; omega]
    by_cases c : (i : Int) < (W.length : Int)
    · exact ev_pos c J
    · exact ev_neg c J
  | d + 1, i, acc, hi, ha => by
    by_cases c : (i : Int) < (W.length : Int)
    · have hlt : i < W.length := by omega
      have hr := rdOf_get W i hlt
      have hz := hW _ (List.getElem_mem hlt)
      obtain ⟨T, t1, t2⟩ := l02_ev W[i] hz 58
      obtain ⟨t3, t4, t5⟩ := mem_size t2
      have hr0 := rdOf_get T 0 t4
      have hz0 := t5 _ (List.getElem_mem t4)
      obtain ⟨U, u1, u2⟩ := l02_ev T[0] (by omega) 45
      obtain ⟨u3, u4, u5⟩ := mem_size u2
      have A : ∀ b : Bool, (b = false → T.length = 2 ∧ U.length = 2) → ∃ R, Ev (fun k => spec_ReadTree.j2 k s W (i : Int) T U b a acc) R ∧ Ans s R := by
        intro b hb
        cases b with
        | true => exact ⟨_, ev_succ (by simp only [spec_ReadTree.j2]; exact ev_pos (by first | rfl | trivial) (Ev.now _)), .inl rfl⟩
        | false =>
          obtain ⟨b1, b2⟩ := hb rfl
          obtain ⟨x, hx⟩ := l27_any (rdOf ByteArray.empty U 0)
          obtain ⟨y, hy⟩ := l27_any (rdOf ByteArray.empty U 1)
          obtain ⟨z, hz⟩ := l27_any (rdOf ByteArray.empty T 1)
          obtain ⟨R, r1, r2⟩ := read_loop s W hW hn a d (i + 1) (acc ++ [(⟨x, y, z⟩ : S52)]) (by omega) (by simp; omega)
          refine ⟨R, ev_succ ?_, r2⟩
          simp only [spec_ReadTree.j2, wnext i (by omega)]
          exact ev_neg (by simp) (ev_pos (by omega) (Ev.bind hx (ev_pos (by omega) (Ev.bind hy (ev_pos (by omega) (Ev.bind hz (ev_pos (by omega) r1)))))))
      have hd : decide ((i : Int) < 17) = true := by simp; omega
      by_cases q : (T.length : Int) = 2
      · obtain ⟨R, r1, r2⟩ := A ((U.length : Int) != 2) (fun e => ⟨by omega, by simp at e; omega⟩)
        refine ⟨R, ev_succ ?_, r2⟩
        simp only [spec_ReadTree.l0, hd]
        refine ev_pos c (ev_succ ?_)
        simp only [spec_ReadTree.j1, hr]
        refine ev_pos (by first | rfl | trivial) (ev_pos (by omega) (ev_pos c (Ev.bind t1 (ev_pos (by omega) ?_))))
        have hr0' : rdOf ByteArray.empty T 0 = T[0] := hr0
        rw [hr0']
        exact Ev.bind u1 (ev_pos q r1)
      · obtain ⟨R, r1, r2⟩ := A true (fun e => by simp at e)
        refine ⟨R, ev_succ ?_, r2⟩
        simp only [spec_ReadTree.l0, hd]
        refine ev_pos c (ev_succ ?_)
        simp only [spec_ReadTree.j1, hr]
        refine ev_pos (by first | rfl | trivial) (ev_pos (by omega) (ev_pos c (Ev.bind t1 (ev_pos (by omega) ?_))))
        have hr0' : rdOf ByteArray.empty T 0 = T[0] := hr0
        rw [hr0']
        exact Ev.bind u1 (ev_neg q r1)
    · obtain ⟨R, h1, h2⟩ := read_end s a acc (by omega)
      refine ⟨R, ev_succ ?_, h2⟩
      simp only [spec_ReadTree.l0]
      exact ev_neg c (ev_succ (by simp only [spec_ReadTree.j1]; exact ev_neg (by simp) h1))

theorem read_any (s : ByteArray) (hs : s.size ≤ 1048576) : ∃ R, Ev (fun k => spec_ReadTree.f k s) R ∧ Ans s R := by
  obtain ⟨W, w1, w2⟩ := l02_ev s hs 32
  obtain ⟨w3, w4, w5⟩ := mem_size w2
  obtain ⟨a, ha⟩ := l27_any (rdOf ByteArray.empty W 0)
  obtain ⟨R, r1, r2⟩ := read_loop s W (fun w hw => by have := w5 w hw; omega) (by omega) a 16 1 [] (by omega) (by simp)
  refine ⟨R, ?_, r2⟩
  unfold spec_ReadTree.f
  exact Ev.bind w1 (ev_pos (by omega) (Ev.bind ha r1))

theorem dec_pos_all : ∀ u : Fin 100, (dec u.val).data.toList.isEmpty = false := by decide +kernel
theorem dec_pos (u : Nat) (h : u < 100) : (dec u).data.toList ≠ [] := by
  intro e
  have q := dec_pos_all ⟨u, h⟩
  simp only [e] at q
  cases q

/-! a text that is of a tree is read -/
theorem words2 {T : List ByteArray} {p q : List UInt8} (h : T.map (·.data.toList) = [p, q]) : ∃ x y, T = [x, y] ∧ x.data.toList = p ∧ y.data.toList = q := by
  match T, h with
  | [x, y], h => simp at h; exact ⟨x, y, rfl, h.1, h.2⟩

theorem good_loop (s : ByteArray) (n : Nat) (L : List S52) (hg : Good s (n : Int) L) (W : List ByteArray) (w0 : ByteArray) (hW : W.map (·.data.toList) = L.map body) (hz : ∀ w ∈ W, w.size ≤ 1048576) : ∀ (d i : Nat), i + d = L.length →
    Ev (fun k => spec_ReadTree.l0 k s (w0 :: W) ((i + 1 : Nat) : Int) (n : Int) (L.take i)) ((n : Int), L, true)
  | 0, i, hi => by
    obtain ⟨v, t⟩ := hg
    obtain ⟨n', hn, h0, h1, h2, hL, _⟩ := vT_out v
    have hl : W.length = L.length := by simpa using congrArg List.length hW
    have T0 : textOf (n : Int) L = s := by unfold textOf; rw [if_pos v]; exact t
    have ne : ¬ s.toList = [] := by
      intro e
      have h := treeTxt_data (n : Int).toNat L
      rw [t, ← ByteArray.toList_eq, e] at h
      have := dec_pos (n : Int).toNat (by omega)
      unfold glue at h
      simp at h
      exact this (by simpa using h.1)
    refine ev_succ ?_
    simp only [spec_ReadTree.l0]
    refine ev_neg (by simp; omega) (ev_succ ?_)
    simp only [spec_ReadTree.j1]
    refine ev_neg (by simp) (ev_neg ne ?_)
    rw [List.take_of_length_le (by omega)]
    exact Ev.bind (spec_textOf _ L (by omega)) (ev_pos (by rw [T0]) (Ev.now _))
  | d + 1, i, hi => by
    have ih := good_loop s n L hg W w0 hW hz d (i + 1) (by omega)
    obtain ⟨v, t⟩ := hg
    obtain ⟨n', hn, h0, h1, h2, hL, _⟩ := vT_out v
    have hn' : n = n' := by omega
    subst hn'
    have hl : W.length = L.length := by simpa using congrArg List.length hW
    have hlt : i < L.length := by omega
    have hlw : i < W.length := by omega
    have hb : W[i].data.toList = body L[i] := by
      have := congrArg (·[i]?) hW
      simpa [hlt, hlw] using this
    have g := hL _ (List.getElem_mem hlt)
    have ht : L.take (i + 1) = L.take i ++ [L[i]] := List.take_succ_eq_append_getElem hlt
    rw [ht] at ih
    generalize L[i] = e at *
    obtain ⟨g0, g1, g2, g3, g4⟩ := g
    have a1 := dec_no e.f0.toNat (by omega) 58 (by decide)
    have b1 := dec_no e.f1.toNat (by omega) 58 (by decide)
    have c1 := dec_no e.f2.toNat (by omega) 58 (by decide)
    have a2 := dec_no e.f0.toNat (by omega) 45 (by decide)
    have b2 := dec_no e.f1.toNat (by omega) 45 (by decide)
    obtain ⟨T, t1, t2⟩ := l02_ev W[i] (hz _ (List.getElem_mem hlw)) 58
    have t3 := mem_size t2
    have h58 : (58 : UInt8) ∉ (dec e.f0.toNat).data.toList ++ 45 :: (dec e.f1.toNat).data.toList := by
      simp only [List.mem_append, List.mem_cons]
      rintro (h | h | h)
      · exact a1 h
      · exact absurd h (by decide)
      · exact b1 h
    rw [hb, show body e = ((dec e.f0.toNat).data.toList ++ 45 :: (dec e.f1.toNat).data.toList) ++ 58 :: (dec e.f2.toNat).data.toList by simp [body], sp_hit _ _ _ h58, sp_none _ _ c1] at t2
    obtain ⟨x, y, rfl, hx, hy⟩ := words2 t2
    have zx : x.size ≤ 1048576 := Nat.le_trans (t3.2.2 x (by simp)) (hz _ (List.getElem_mem hlw))
    obtain ⟨U, u1, u2⟩ := l02_ev x zx 45
    rw [hx, sp_hit _ _ _ a2, sp_none _ _ b2] at u2
    obtain ⟨p, q, rfl, hp, hq⟩ := words2 u2
    have hr : rdOf ByteArray.empty (w0 :: W) ((i + 1 : Nat) : Int) = W[i] := by rw [rdOf_get _ _ (by simp; omega)]; simp
    refine ev_succ ?_
    simp only [spec_ReadTree.l0]
    rw [show decide (((i + 1 : Nat) : Int) < 17) = true by simp; omega]
    refine ev_pos (by simp; omega) (ev_succ ?_)
    simp only [spec_ReadTree.j1, hr]
    refine ev_pos (by first | rfl | trivial) (ev_pos (by omega) (ev_pos (by simp; omega) (Ev.bind t1 (ev_pos (by simp) ?_))))
    have r0 : rdOf ByteArray.empty [x, y] 0 = x := rfl
    rw [r0]
    refine Ev.bind u1 (ev_pos (by simp) (ev_succ ?_))
    have r1 : rdOf ByteArray.empty [x, y] 1 = y := rfl
    have r2 : rdOf ByteArray.empty [p, q] 0 = p := rfl
    have r3 : rdOf ByteArray.empty [p, q] 1 = q := rfl
    simp only [spec_ReadTree.j2, r1, r2, r3, wnext (i + 1) (by omega)]
    rw [show p = dec e.f0.toNat from ba_ext hp, show q = dec e.f1.toNat from ba_ext hq, show y = dec e.f2.toNat from ba_ext hy]
    refine ev_neg (by simp) (ev_pos (by simp) (Ev.bind (l27_dec e.f0 (by omega) (by omega)) (ev_pos (by simp) (Ev.bind (l27_dec e.f1 (by omega) (by omega)) (ev_pos (by simp) (Ev.bind (l27_dec e.f2 (by omega) (by omega)) (ev_pos (by simp; omega) ih)))))))

theorem read_good (s : ByteArray) (hs : s.size ≤ 1048576) (a : Int) (L : List S52) (hg : Good s a L) : Ev (fun k => spec_ReadTree.f k s) (a, L, true) := by
  obtain ⟨n, rfl, h0, h1, h2, hL, _⟩ := vT_out hg.1
  obtain ⟨W, w1, w2⟩ := l02_ev s hs 32
  obtain ⟨w3, w4, w5⟩ := mem_size w2
  have d := treeTxt_data n L
  have t := hg.2
  simp only [Int.toNat_natCast] at t
  rw [t] at d
  rw [d, sp_glue 32 _ _ (dec_no n (by omega) 32 (by decide)) (fun p hp => by
    obtain ⟨e, he, rfl⟩ := List.mem_map.1 hp
    exact body_no n h1 e (hL e he))] at w2
  match W, w2 with
  | w0 :: W, w2 =>
    simp only [List.map_cons, List.cons.injEq] at w2
    have e0 : w0 = dec n := ba_ext w2.1
    have g := good_loop s n L hg W w0 w2.2 (fun w hw => by have := w5 w (List.mem_cons_of_mem _ hw); omega) L.length 0 (by omega)
    unfold spec_ReadTree.f
    refine Ev.bind w1 (ev_pos (by omega) ?_)
    have r0 : rdOf ByteArray.empty (w0 :: W) 0 = w0 := rfl
    rw [r0, e0]
    have q := l27_dec (n : Int) (by omega) (by omega)
    simp only [Int.toNat_natCast] at q
    rw [e0] at g
    exact Ev.bind q g

/-- Both readers, at every text. -/
theorem read_both (s : ByteArray) (hs : s.size ≤ 1048576) : ∃ R, Ev (fun k => spec_ReadTree.f k s) R ∧ Ev (fun k => impl_ReadTree.f k s) R ∧ Ans s R ∧ R.2.1.length ≤ 1048576 := by
  obtain ⟨a, L, hl, h1, h2⟩ := impl_read s hs
  by_cases c : vT a L = true ∧ treeTxt a.toNat L = s
  · rw [if_pos c] at h1
    exact ⟨_, read_good s hs a L c, h1, .inr ⟨a, L, c, rfl⟩, hl⟩
  · rw [if_neg c] at h1
    obtain ⟨R, r1, r2⟩ := read_any s hs
    rcases r2 with rfl | ⟨a', L', g, rfl⟩
    · exact ⟨_, r1, h1, .inl rfl, by simp⟩
    · obtain ⟨rfl, rfl⟩ := h2 a' L' g
      exact absurd g c

end Go.Proofs.YtddaiabilhjcpaaDoorAT
