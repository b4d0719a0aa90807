/- Texts divided at a byte, and numbers read: what both programs' readers do. -/
import Derived.Test.YtddaiabilhjcpaaDoorATreeText
import Derived.Test.YtddaiabilhjcpaaDoorAx5
import Derived.Test.YtddaiabilhjcpaaDoorAx6
import Derived.Test.YtddaiabilhjcpaaDoorAx1
import Derived.Lib.IndexMore
import Derived.Lib.SplitLaws
namespace Go.Proofs.YtddaiabilhjcpaaDoorAT
open Go.RowKit Go.Proofs.YtddaiabilhjcpaaDoor.A Go.Proofs.YtddaiabilhjcpaaDoorW.PrintWords Go.Proofs.YtddaiabilhjcpaaDoorM

/-- A text divided at a byte. -/
def sp (c : UInt8) : List UInt8 → List (List UInt8)
  | [] => [[]]
  | x :: r => if x = c then [] :: sp c r else match sp c r with
    | [] => [[x]]
    | h :: t => (x :: h) :: t

theorem sp_none (c : UInt8) : ∀ a : List UInt8, c ∉ a → sp c a = [a]
  | [], _ => rfl
  | x :: r, h => by
    have h1 : x ≠ c := fun e => h (by rw [e]; exact List.mem_cons_self)
    have h2 : c ∉ r := fun e => h (List.mem_cons_of_mem _ e)
    simp only [sp, if_neg h1, sp_none c r h2]
theorem sp_hit (c : UInt8) (r : List UInt8) : ∀ a : List UInt8, c ∉ a → sp c (a ++ c :: r) = a :: sp c r
  | [], _ => by simp [sp]
  | x :: a, h => by
    have h1 : x ≠ c := fun e => h (by rw [e]; exact List.mem_cons_self)
    have h2 : c ∉ a := fun e => h (List.mem_cons_of_mem _ e)
    simp only [List.cons_append, sp, if_neg h1, sp_hit c r a h2]
theorem sp_ne (c : UInt8) (l : List UInt8) : sp c l ≠ [] := by
  cases l with
  | nil => simp [sp]
  | cons x r =>
    unfold sp
    split
    · simp
    · split <;> simp
theorem sp_size (c : UInt8) : ∀ l : List UInt8, (sp c l).length ≤ l.length + 1 ∧ ∀ p ∈ sp c l, p.length ≤ l.length
  | [] => by simp [sp]
  | x :: r => by
    have ⟨h1, h2⟩ := sp_size c r
    unfold sp
    split
    · refine ⟨by simp; omega, fun p hp => ?_⟩
      rcases List.mem_cons.1 hp with rfl | hp
      · simp
      · have := h2 p hp; simp; omega
    · split
      · simp
      · rename_i h t e
        rw [e] at h1 h2
        refine ⟨by simp at h1 ⊢; omega, fun p hp => ?_⟩
        rcases List.mem_cons.1 hp with rfl | hp
        · have := h2 h List.mem_cons_self; simp; omega
        · have := h2 p (List.mem_cons_of_mem _ hp); simp; omega

/-- Pieces behind one another, with a byte between them. -/
def glue (c : UInt8) (p : List UInt8) (ps : List (List UInt8)) : List UInt8 := p ++ (ps.map (c :: ·)).flatten
theorem glue_cons (c : UInt8) (p q : List UInt8) (ps : List (List UInt8)) : glue c p (q :: ps) = p ++ c :: glue c q ps := by simp [glue]
theorem sp_glue (c : UInt8) : ∀ (ps : List (List UInt8)) (p : List UInt8), c ∉ p → (∀ q ∈ ps, c ∉ q) → sp c (glue c p ps) = p :: ps
  | [], p, h, _ => by simp [glue, sp_none c p h]
  | q :: ps, p, h, g => by
    rw [glue_cons, sp_hit c _ p h, sp_glue c ps q (g q List.mem_cons_self) (fun x hx => g x (List.mem_cons_of_mem _ hx))]

theorem index_hit1 (c : UInt8) (r : List UInt8) : ∀ a : List UInt8, c ∉ a → Go.Lib.index (a ++ c :: r) [c] = a.length
  | [], _ => by simp [Go.Lib.index]
  | x :: a, h => by
    have h1 : ¬ c = x := fun e => h (by rw [e]; exact List.mem_cons_self)
    have h2 : c ∉ a := fun e => h (List.mem_cons_of_mem _ e)
    have ih := index_hit1 c r a h2
    have e : (((a.length : Nat) : Int) == -1) = false := by rw [beq_eq_false_iff_ne]; omega
    have p : List.isPrefixOf [c] (x :: (a ++ c :: r)) = false := by simp [List.isPrefixOf, h1]
    simp only [List.cons_append, Go.Lib.index, ih, p, e, Bool.false_eq_true, if_false, List.length_cons]
    omega
theorem index_miss1 (c : UInt8) : ∀ a : List UInt8, c ∉ a → Go.Lib.index a [c] = -1
  | [], _ => by simp [Go.Lib.index]
  | x :: a, h => by
    have h1 : ¬ c = x := fun e => h (by rw [e]; exact List.mem_cons_self)
    have h2 : c ∉ a := fun e => h (List.mem_cons_of_mem _ e)
    have p : List.isPrefixOf [c] (x :: a) = false := by simp [List.isPrefixOf, h1]
    simp only [Go.Lib.index, index_miss1 c a h2, p, Bool.false_eq_true, if_false]
    rfl
theorem cut_hit1 (c : UInt8) (a r : List UInt8) (h : c ∉ a) : Go.Lib.cut (a ++ c :: r) [c] = (a, r, true) := by
  unfold Go.Lib.cut
  rw [index_hit1 c r a h, if_pos (by omega)]
  simp only [Int.toNat_natCast, List.take_left, List.length_singleton]
  rw [← List.drop_drop, List.drop_left]
  rfl

/-- The library's division, at a text of pieces. -/
theorem split_glue (c : UInt8) : ∀ (ps : List (List UInt8)) (p : List UInt8) (s : ByteArray), s.data.toList = glue c p ps → c ∉ p → (∀ q ∈ ps, c ∉ q) →
    (Go.Lib.splitB ⟨#[c]⟩ 0 (Go.Lib.countB s ⟨#[c]⟩) s).map (·.data.toList) = p :: ps
  | [], p, s, hs, h, _ => by
    have hs' : s.data.toList = p := by rw [hs]; simp [glue]
    have hi : Go.Lib.indexB s ⟨#[c]⟩ = -1 := by
      show Go.Lib.index s.data.toList [c] = -1
      rw [hs']; exact index_miss1 c p h
    rw [Go.Lib.splitB_miss _ _ _ _ hi]
    simp [hs']
  | q :: ps, p, s, hs, h, g => by
    rw [glue_cons] at hs
    have hi : Go.Lib.indexB s ⟨#[c]⟩ = (p.length : Nat) := by
      show Go.Lib.index s.data.toList [c] = _
      rw [hs]; exact index_hit1 c _ p h
    have hn : (⟨#[c]⟩ : ByteArray).size = 1 := rfl
    rw [Go.Lib.countB_hit s ⟨#[c]⟩ p.length (by rw [hn]; omega) hi, Nat.add_comm, Go.Lib.splitB_hit _ _ _ _ p.length hi, List.map_cons]
    have e1 : (s.extract 0 (p.length + 0)).data.toList = p := by rw [Go.Lib.extract_data, hs]; simp
    have e2 : (s.extract (p.length + (⟨#[c]⟩ : ByteArray).size) s.size).data.toList = glue c q ps := by
      rw [Go.Lib.extract_to_end, hs, hn, ← List.drop_drop, List.drop_left]; rfl
    rw [e1, split_glue c ps q _ e2 (g q List.mem_cons_self) (fun x hx => g x (List.mem_cons_of_mem _ hx))]

theorem splitB_sizes (sep : ByteArray) : ∀ (k : Nat) (s : ByteArray), ∀ p ∈ Go.Lib.splitB sep 0 k s, p.size ≤ s.size
  | 0, s, p, hp => by rw [Go.Lib.splitB_zero] at hp; rw [List.mem_singleton.1 hp]; exact Nat.le_refl _
  | k + 1, s, p, hp => by
    unfold Go.Lib.splitB at hp
    split at hp
    · rw [List.mem_singleton.1 hp]; exact Nat.le_refl _
    · rcases List.mem_cons.1 hp with rfl | hp
      · simp only [Go.Lib.size_eq, Go.Lib.extract_data, List.length_take, List.length_drop]; omega
      · have := splitB_sizes sep k _ p hp
        simp only [Go.Lib.size_eq, Go.Lib.extract_data, List.length_take, List.length_drop] at this ⊢
        omega

theorem cut_sizes (l sep : List UInt8) : (Go.Lib.cut l sep).1.length ≤ l.length ∧ (Go.Lib.cut l sep).2.1.length ≤ l.length := by
  unfold Go.Lib.cut
  split
  · simp only [List.length_take, List.length_drop]; omega
  · simp

/-! numbers -/
def rn (b : ByteArray) : Int := match Go.Lib.parseIntB 64 b.data.toList with | .ok v => v | .range => Go.Lib.intSat 64 b.data.toList | _ => 0
theorem readNumber_ev (b : ByteArray) (h : b.size < 4294967281) : ∃ o, impl_readNumber.f b = some (rn b, o) := by
  unfold impl_readNumber.f rn
  rw [if_pos h]
  cases Go.Lib.parseIntB 64 b.data.toList with
  | ok v => exact ⟨_, rfl⟩
  | range => exact ⟨_, rfl⟩
  | _ => exact ⟨_, rfl⟩
theorem rn_dec_all : ∀ u : Fin 100, rn (dec u.val) = ((u.val : Nat) : Int) := by decide +kernel
theorem rn_dec (x : Int) (h0 : 0 ≤ x) (h1 : x < 100) : rn (dec x.toNat) = x := by
  have e := rn_dec_all ⟨x.toNat, by omega⟩
  simp only at e
  rw [e]; omega
theorem dec_digits_all : ∀ u : Fin 100, (dec u.val).data.toList.all (fun x => decide (48 ≤ x.toNat) && decide (x.toNat ≤ 57)) = true := by decide +kernel
theorem dec_no (u : Nat) (h : u < 100) (c : UInt8) (hc : c.toNat < 48 ∨ 57 < c.toNat) : c ∉ (dec u).data.toList := by
  intro hm
  have e := List.all_eq_true.1 (dec_digits_all ⟨u, h⟩) c hm
  simp only [Bool.and_eq_true, decide_eq_true_iff] at e
  omega
theorem l27_dec_all : ∀ u : Fin 100, spec_l27Number.f 4 (dec u.val) = some ((u.val : Nat) : Int) := by decide +kernel
theorem l27_dec (x : Int) (h0 : 0 ≤ x) (h1 : x < 100) : Ev (fun k => spec_l27Number.f k (dec x.toNat)) x := by
  have e := l27_dec_all ⟨x.toNat, by omega⟩
  simp only at e
  rw [show ((x.toNat : Nat) : Int) = x by omega] at e
  exact Ev.of_mono (fun k => spec_l27Number.mono _ k) e

/-- The reference's reader comes to some number at every text. -/
theorem l27_any (b : ByteArray) : ∃ v, Ev (fun k => spec_l27Number.f k b) v := by
  have third : ∀ n : Int, ∃ v, Ev (fun k => spec_l27Number.l0 k b n 2) v := by
    intro n
    by_cases c : (2 : Int) < (b.size : Int)
    · by_cases c1 : bt b 2 < 48
      · exact ⟨-1, ev_succ (by simp only [spec_l27Number.l0]; exact ev_pos c (ev_pos (by omega) (ev_pos c1 (Ev.now _))))⟩
      · by_cases c2 : bt b 2 > 57
        · exact ⟨-1, ev_succ (by simp only [spec_l27Number.l0]; exact ev_pos c (ev_pos (by omega) (ev_neg c1 (ev_pos c2 (Ev.now _)))))⟩
        · exact ⟨-1, ev_succ (by simp only [spec_l27Number.l0]; exact ev_pos c (ev_pos (by omega) (ev_neg c1 (ev_neg c2 (ev_pos (by omega) (Ev.now _))))))⟩
    · exact ⟨n, ev_succ (by simp only [spec_l27Number.l0]; exact ev_neg c (Ev.now _))⟩
  have w2 : wrap64 (1 + 1) = 2 := by rw [w64 (by omega) (by omega)]; rfl
  have w1 : wrap64 (0 + 1) = 1 := by rw [w64 (by omega) (by omega)]; rfl
  have second : ∀ n : Int, ∃ v, Ev (fun k => spec_l27Number.l0 k b n 1) v := by
    intro n
    by_cases c : (1 : Int) < (b.size : Int)
    · by_cases c1 : bt b 1 < 48
      · exact ⟨-1, ev_succ (by simp only [spec_l27Number.l0]; exact ev_pos c (ev_pos (by omega) (ev_pos c1 (Ev.now _))))⟩
      · by_cases c2 : bt b 1 > 57
        · exact ⟨-1, ev_succ (by simp only [spec_l27Number.l0]; exact ev_pos c (ev_pos (by omega) (ev_neg c1 (ev_pos c2 (Ev.now _)))))⟩
        · obtain ⟨v, hv⟩ := third (wrap64 ((wrap64 (10 * n)) + (((bt b 1) - 48) % 256)))
          exact ⟨v, ev_succ (by simp only [spec_l27Number.l0, w2]; exact ev_pos c (ev_pos (by omega) (ev_neg c1 (ev_neg c2 (ev_neg (by omega) hv)))))⟩
    · exact ⟨n, ev_succ (by simp only [spec_l27Number.l0]; exact ev_neg c (Ev.now _))⟩
  unfold spec_l27Number.f
  by_cases c : (0 : Int) < (b.size : Int)
  · by_cases c1 : bt b 0 < 48
    · exact ⟨-1, ev_succ (by simp only [spec_l27Number.l0]; exact ev_pos c (ev_pos (by omega) (ev_pos c1 (Ev.now _))))⟩
    · by_cases c2 : bt b 0 > 57
      · exact ⟨-1, ev_succ (by simp only [spec_l27Number.l0]; exact ev_pos c (ev_pos (by omega) (ev_neg c1 (ev_pos c2 (Ev.now _)))))⟩
      · obtain ⟨v, hv⟩ := second (wrap64 ((wrap64 (10 * 0)) + (((bt b 0) - 48) % 256)))
        exact ⟨v, ev_succ (by simp only [spec_l27Number.l0, w1]; exact ev_pos c (ev_pos (by omega) (ev_neg c1 (ev_neg c2 (ev_neg (by omega) hv)))))⟩
  · exact ⟨0, ev_succ (by simp only [spec_l27Number.l0]; exact ev_neg c (Ev.now _))⟩

/-! the reference's division -/
theorem bt_eq (s : ByteArray) (i : Nat) (h : i < s.data.toList.length) : bt s (i : Int) = ((s.data.toList[i].toNat : Nat) : Int) := by
  have hs : i < s.size := by rw [Go.Lib.size_eq]; exact h
  unfold bt
  simp only [Int.toNat_natCast]
  rw [dif_pos hs]
  rfl

theorem l02_loop (s : ByteArray) (hs : s.size ≤ 1048576) (c : UInt8) : ∀ (d i f : Nat) (acc : List ByteArray), i + d = s.size → f ≤ i → acc.length ≤ i → (∀ x ∈ (s.data.toList.drop f).take (i - f), x ≠ c) →
    ∃ W, Ev (fun k => spec_l02Split.l0 k s ((c.toNat : Nat) : Int) acc (f : Int) (i : Int)) W ∧ W.map (·.data.toList) = acc.map (·.data.toList) ++ sp c (s.data.toList.drop f)
  | 0, i, f, acc, hi, hf, ha, hx => by
    have hl := Go.Lib.size_eq s
    have hn : c ∉ s.data.toList.drop f := by
      intro hm
      refine hx c ?_ rfl
      rw [List.take_of_length_le (by simp; omega)]
      exact hm
    refine ⟨_, ev_succ (by simp only [spec_l02Split.l0, Int.toNat_natCast]; exact ev_neg (by omega) (ev_pos (by omega) (ev_pos (by omega) (ev_pos (by omega) (Ev.now _))))), ?_⟩
    rw [sp_none c _ hn, List.map_append, List.map_cons, List.map_nil, Go.Lib.extract_to_end]
  | d + 1, i, f, acc, hi, hf, ha, hx => by
    have hl := Go.Lib.size_eq s
    have hlt : i < s.data.toList.length := by omega
    have hb := bt_eq s i hlt
    have hd : s.data.toList.drop f = (s.data.toList.drop f).take (i - f) ++ s.data.toList[i] :: s.data.toList.drop (i + 1) := by
      have e : s.data.toList.drop i = s.data.toList[i] :: s.data.toList.drop (i + 1) := List.drop_eq_getElem_cons hlt
      have e2 : (s.data.toList.drop f).drop (i - f) = s.data.toList.drop i := by rw [List.drop_drop]; congr 1; omega
      rw [← e, ← e2, List.take_append_drop]
    by_cases q : s.data.toList[i] = c
    · have hn : c ∉ (s.data.toList.drop f).take (i - f) := fun hm => hx c hm rfl
      obtain ⟨W, h1, h2⟩ := l02_loop s hs c d (i + 1) (i + 1) (acc ++ [s.extract f i]) (by omega) (by omega) (by simp; omega) (by simp)
      refine ⟨W, ev_succ ?_, ?_⟩
      · simp only [spec_l02Split.l0, Int.toNat_natCast, wnext i (by omega)]
        refine ev_pos (by omega) (ev_pos (by omega) (ev_pos (by rw [hb, q]) (ev_pos (by omega) (ev_pos (by omega) (ev_pos (by omega) (ev_pos (by omega) h1))))))
      · rw [h2, hd, q, sp_hit c _ _ hn, List.map_append, List.map_cons, List.map_nil, Go.Lib.extract_data, List.append_assoc]
        rfl
    · obtain ⟨W, h1, h2⟩ := l02_loop s hs c d (i + 1) f acc (by omega) (by omega) (by omega) (by
        intro x hm
        rw [show i + 1 - f = (i - f) + 1 by omega] at hm
        rw [List.take_succ_eq_append_getElem (by simp; omega)] at hm
        rcases List.mem_append.1 hm with hm | hm
        · exact hx x hm
        · rw [List.mem_singleton.1 hm, List.getElem_drop]
          simpa [show f + (i - f) = i by omega] using q)
      refine ⟨W, ev_succ ?_, h2⟩
      simp only [spec_l02Split.l0, wnext i (by omega)]
      refine ev_pos (by omega) (ev_pos (by omega) (ev_neg ?_ h1))
      rw [hb]
      intro e
      apply q
      apply UInt8.toNat_inj.1
      omega

theorem l02_ev (s : ByteArray) (hs : s.size ≤ 1048576) (c : UInt8) : ∃ W, Ev (fun k => spec_l02Split.f k s ((c.toNat : Nat) : Int)) W ∧ W.map (·.data.toList) = sp c s.data.toList := by
  obtain ⟨W, h1, h2⟩ := l02_loop s hs c s.size 0 0 [] (by omega) (by omega) (by simp) (by simp)
  exact ⟨W, h1, by simpa using h2⟩

end Go.Proofs.YtddaiabilhjcpaaDoorAT
