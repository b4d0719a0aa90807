/- Texts of trees, written and read, in plain words. -/
import Derived.Test.YtkimeoknckohfaaDoorR1TrA
import Derived.Lib.IndexMore
import Derived.Lib.SplitLaws
namespace Go.Proofs.YtkimeoknckohfaaDoor.R
open Go.Proofs.YtkimeoknckohfaaDoor.R1

/-- A number below 100 in decimal digits. -/
def dec (u : Nat) : ByteArray := if u < 10 then ⟨#[UInt8.ofNat (48 + u)]⟩ else ⟨#[UInt8.ofNat (48 + u / 10), UInt8.ofNat (48 + u % 10)]⟩

theorem dec_size (u : Nat) : (dec u).size ≤ 2 := by
  unfold dec
  split
  · exact Nat.le_succ 1
  · exact Nat.le_refl 2

theorem decDigits_eq (u : Nat) (h : u < 100) : (⟨(Go.Lib.decDigits u).toArray⟩ : ByteArray) = dec u := by
  unfold dec
  by_cases c : u < 10
  · rw [if_pos c, Go.Lib.decDigits, dif_pos c]
  · rw [if_neg c, Go.Lib.decDigits, dif_neg c, Go.Lib.decDigits, dif_pos (by omega)]
    rfl

def edgeTxt (e : S71) : ByteArray := (((((⟨#[32]⟩ : ByteArray) ++ dec e.f0.toNat) ++ (⟨#[45]⟩ : ByteArray)) ++ dec e.f1.toNat) ++ (⟨#[58]⟩ : ByteArray)) ++ dec e.f2.toNat

theorem one_size (x : UInt8) : (⟨#[x]⟩ : ByteArray).size = 1 := rfl

theorem edgeTxt_size (e : S71) : (edgeTxt e).size ≤ 9 := by
  have a := dec_size e.f0.toNat
  have b := dec_size e.f1.toNat
  have c := dec_size e.f2.toNat
  unfold edgeTxt
  simp only [ByteArray.size_append, one_size]
  omega

def txtFrom (L : List S71) : Nat → Nat → ByteArray → ByteArray
  | 0, _, acc => acc
  | d + 1, i, acc => txtFrom L d (i + 1) (acc ++ edgeTxt (rd_T71 L (i : Int)))

def treeTxt (n : Nat) (L : List S71) : ByteArray := txtFrom L L.length 0 (dec n)


/-- A text divided at a byte. -/
def sp (c : UInt8) : List UInt8 → List (List UInt8)
  | [] => [[]]
  | x :: r => if x = c then [] :: sp c r else match sp c r with
    | [] => [[x]]
    | h :: t => (x :: h) :: t

theorem sp_none (c : UInt8) : ∀ a : List UInt8, c ∉ a → sp c a = [a]
  | [], _ => rfl
  | x :: r, h => by
    have h1 : x ≠ c := fun e => h (by rw [e]; exact List.mem_cons_self)
    have h2 : c ∉ r := fun e => h (List.mem_cons_of_mem _ e)
    simp only [sp, if_neg h1, sp_none c r h2]

theorem sp_hit (c : UInt8) (r : List UInt8) : ∀ a : List UInt8, c ∉ a → sp c (a ++ c :: r) = a :: sp c r
  | [], _ => by simp [sp]
  | x :: a, h => by
    have h1 : x ≠ c := fun e => h (by rw [e]; exact List.mem_cons_self)
    have h2 : c ∉ a := fun e => h (List.mem_cons_of_mem _ e)
    simp only [List.cons_append, sp, if_neg h1, sp_hit c r a h2]

theorem sp_ne (c : UInt8) (l : List UInt8) : sp c l ≠ [] := by
  cases l with
  | nil => simp [sp]
  | cons x r =>
    unfold sp
    split
    · simp
    · split <;> simp

theorem sp_size (c : UInt8) : ∀ l : List UInt8, (sp c l).length ≤ l.length + 1 ∧ ∀ p ∈ sp c l, p.length ≤ l.length
  | [] => by simp [sp]
  | x :: r => by
    have ⟨h1, h2⟩ := sp_size c r
    unfold sp
    split
    · refine ⟨by simp; omega, fun p hp => ?_⟩
      rcases List.mem_cons.1 hp with rfl | hp
      · simp
      · have := h2 p hp; simp; omega
    · split
      · simp
      · rename_i h t e
        rw [e] at h1 h2
        refine ⟨by simp at h1 ⊢; omega, fun p hp => ?_⟩
        rcases List.mem_cons.1 hp with rfl | hp
        · have := h2 h List.mem_cons_self; simp; omega
        · have := h2 p (List.mem_cons_of_mem _ hp); simp; omega

/-- Pieces behind one another, with a byte between them. -/
def glue (c : UInt8) (p : List UInt8) (ps : List (List UInt8)) : List UInt8 := p ++ (ps.map (c :: ·)).flatten

theorem glue_cons (c : UInt8) (p q : List UInt8) (ps : List (List UInt8)) : glue c p (q :: ps) = p ++ c :: glue c q ps := by simp [glue]

theorem sp_glue (c : UInt8) : ∀ (ps : List (List UInt8)) (p : List UInt8), c ∉ p → (∀ q ∈ ps, c ∉ q) → sp c (glue c p ps) = p :: ps
  | [], p, h, _ => by simp [glue, sp_none c p h]
  | q :: ps, p, h, g => by
    rw [glue_cons, sp_hit c _ p h, sp_glue c ps q (g q List.mem_cons_self) (fun x hx => g x (List.mem_cons_of_mem _ hx))]

theorem index_hit1 (c : UInt8) (r : List UInt8) : ∀ a : List UInt8, c ∉ a → Go.Lib.index (a ++ c :: r) [c] = a.length
  | [], _ => by simp [Go.Lib.index]
  | x :: a, h => by
    have h1 : ¬ c = x := fun e => h (by rw [e]; exact List.mem_cons_self)
    have h2 : c ∉ a := fun e => h (List.mem_cons_of_mem _ e)
    have ih := index_hit1 c r a h2
    have e : (((a.length : Nat) : Int) == -1) = false := by rw [beq_eq_false_iff_ne]; omega
    have p : List.isPrefixOf [c] (x :: (a ++ c :: r)) = false := by simp [List.isPrefixOf, h1]
    simp only [List.cons_append, Go.Lib.index, ih, p, e, Bool.false_eq_true, if_false, List.length_cons]
    omega

theorem index_miss1 (c : UInt8) : ∀ a : List UInt8, c ∉ a → Go.Lib.index a [c] = -1
  | [], _ => by simp [Go.Lib.index]
  | x :: a, h => by
    have h1 : ¬ c = x := fun e => h (by rw [e]; exact List.mem_cons_self)
    have h2 : c ∉ a := fun e => h (List.mem_cons_of_mem _ e)
    have p : List.isPrefixOf [c] (x :: a) = false := by simp [List.isPrefixOf, h1]
    simp only [Go.Lib.index, index_miss1 c a h2, p, Bool.false_eq_true, if_false]
    rfl

theorem cut_hit1 (c : UInt8) (a r : List UInt8) (h : c ∉ a) : Go.Lib.cut (a ++ c :: r) [c] = (a, r, true) := by
  unfold Go.Lib.cut
  rw [index_hit1 c r a h, if_pos (by omega)]
  simp only [Int.toNat_natCast, List.take_left, List.length_singleton]
  rw [← List.drop_drop, List.drop_left]
  rfl

/-- The library's division, at a text of pieces. -/
theorem split_glue (c : UInt8) : ∀ (ps : List (List UInt8)) (p : List UInt8) (s : ByteArray), s.data.toList = glue c p ps → c ∉ p → (∀ q ∈ ps, c ∉ q) →
    (Go.Lib.splitB ⟨#[c]⟩ 0 (Go.Lib.countB s ⟨#[c]⟩) s).map (·.data.toList) = p :: ps
  | [], p, s, hs, h, _ => by
    have hs' : s.data.toList = p := by rw [hs]; simp [glue]
    have hi : Go.Lib.indexB s ⟨#[c]⟩ = -1 := by
      show Go.Lib.index s.data.toList [c] = -1
      rw [hs']; exact index_miss1 c p h
    rw [Go.Lib.splitB_miss _ _ _ _ hi]
    simp [hs']
  | q :: ps, p, s, hs, h, g => by
    rw [glue_cons] at hs
    have hi : Go.Lib.indexB s ⟨#[c]⟩ = (p.length : Nat) := by
      show Go.Lib.index s.data.toList [c] = _
      rw [hs]; exact index_hit1 c _ p h
    have hn : (⟨#[c]⟩ : ByteArray).size = 1 := rfl
    rw [Go.Lib.countB_hit s ⟨#[c]⟩ p.length (by rw [hn]; omega) hi, Nat.add_comm, Go.Lib.splitB_hit _ _ _ _ p.length hi, List.map_cons]
    have e1 : (s.extract 0 (p.length + 0)).data.toList = p := by rw [Go.Lib.extract_data, hs]; simp
    have e2 : (s.extract (p.length + (⟨#[c]⟩ : ByteArray).size) s.size).data.toList = glue c q ps := by
      rw [Go.Lib.extract_to_end, hs, hn, ← List.drop_drop, List.drop_left]; rfl
    rw [e1, split_glue c ps q _ e2 (g q List.mem_cons_self) (fun x hx => g x (List.mem_cons_of_mem _ hx))]

theorem splitB_sizes (sep : ByteArray) : ∀ (k : Nat) (s : ByteArray), ∀ p ∈ Go.Lib.splitB sep 0 k s, p.size ≤ s.size
  | 0, s, p, hp => by rw [Go.Lib.splitB_zero] at hp; rw [List.mem_singleton.1 hp]; exact Nat.le_refl _
  | k + 1, s, p, hp => by
    unfold Go.Lib.splitB at hp
    split at hp
    · rw [List.mem_singleton.1 hp]; exact Nat.le_refl _
    · rcases List.mem_cons.1 hp with rfl | hp
      · simp only [Go.Lib.size_eq, Go.Lib.extract_data, List.length_take, List.length_drop]; omega
      · have := splitB_sizes sep k _ p hp
        simp only [Go.Lib.size_eq, Go.Lib.extract_data, List.length_take, List.length_drop] at this ⊢
        omega

theorem cut_sizes (l sep : List UInt8) : (Go.Lib.cut l sep).1.length ≤ l.length ∧ (Go.Lib.cut l sep).2.1.length ≤ l.length := by
  unfold Go.Lib.cut
  split
  · simp only [List.length_take, List.length_drop]; omega
  · simp

def rn (b : ByteArray) : Int := match Go.Lib.parseIntB 64 b.data.toList with | .ok v => v | .range => Go.Lib.intSat 64 b.data.toList | _ => 0

theorem rn_dec_all : ∀ u : Fin 100, rn (dec u.val) = ((u.val : Nat) : Int) := by decide +kernel

theorem rn_dec (x : Int) (h0 : 0 ≤ x) (h1 : x < 100) : rn (dec x.toNat) = x := by
  have e := rn_dec_all ⟨x.toNat, by omega⟩
  simp only at e
  rw [e]; omega

theorem dec_digits_all : ∀ u : Fin 100, (dec u.val).data.toList.all (fun x => decide (48 ≤ x.toNat) && decide (x.toNat ≤ 57)) = true := by decide +kernel

theorem dec_no (u : Nat) (h : u < 100) (c : UInt8) (hc : c.toNat < 48 ∨ 57 < c.toNat) : c ∉ (dec u).data.toList := by
  intro hm
  have e := List.all_eq_true.1 (dec_digits_all ⟨u, h⟩) c hm
  simp only [Bool.and_eq_true, decide_eq_true_iff] at e
  omega


/-! the text of a valid tree, in pieces -/
def body (e : S71) : List UInt8 := (dec e.f0.toNat).data.toList ++ 45 :: ((dec e.f1.toNat).data.toList ++ 58 :: (dec e.f2.toNat).data.toList)

theorem edgeTxt_data (e : S71) : (edgeTxt e).data.toList = 32 :: body e := by
  unfold edgeTxt body
  simp only [ByteArray.data_append, Array.toList_append, List.append_assoc, List.cons_append, List.nil_append]

theorem txtFrom_data (L : List S71) : ∀ (d i : Nat) (acc : ByteArray), i + d = L.length → (txtFrom L d i acc).data.toList = acc.data.toList ++ (((L.drop i).map body).map (32 :: ·)).flatten
  | 0, i, acc, hi => by
    rw [List.drop_of_length_le (by omega)]
    simp [txtFrom]
  | d + 1, i, acc, hi => by
    obtain ⟨e, he, hm, hd⟩ := at_edge L i (by omega)
    rw [txtFrom, txtFrom_data L d (i + 1) _ (by omega), he, hd]
    simp [edgeTxt_data]

theorem treeTxt_data (n : Nat) (L : List S71) : (treeTxt n L).data.toList = glue 32 (dec n).data.toList (L.map body) := by
  unfold treeTxt glue
  rw [txtFrom_data L L.length 0 _ (by omega), List.drop_zero]

theorem body_no (n : Nat) (hn : n ≤ 16) (e : S71) (g : GE n e) : (32 : UInt8) ∉ body e := by
  obtain ⟨g0, g1, g2, g3, g4⟩ := g
  have a := dec_no e.f0.toNat (by omega) 32 (by decide)
  have b := dec_no e.f1.toNat (by omega) 32 (by decide)
  have c := dec_no e.f2.toNat (by omega) 32 (by decide)
  unfold body
  simp only [List.mem_append, List.mem_cons]
  rintro (h | h | h | h | h)
  · exact a h
  · exact absurd h (by decide)
  · exact b h
  · exact absurd h (by decide)
  · exact c h

theorem ba_ext {a b : ByteArray} (h : a.data.toList = b.data.toList) : a = b := ByteArray.ext (Array.toList_inj.1 h)

theorem ba_tl {a b : ByteArray} (h : a.toList = b.toList) : a = b := by
  apply ba_ext
  obtain ⟨⟨l⟩⟩ := a
  obtain ⟨⟨m⟩⟩ := b
  have e : (ByteArray.mk l.toArray).toList = (ByteArray.mk m.toArray).toList := h
  rw [ByteArray.toList_mk, ByteArray.toList_mk] at e
  exact e

def cutB (w : ByteArray) (c : UInt8) : ByteArray × ByteArray := (⟨(Go.Lib.cut w.data.toList [c]).1.toArray⟩, ⟨(Go.Lib.cut w.data.toList [c]).2.1.toArray⟩)

def parseE (w : ByteArray) : S71 := ⟨rn (cutB (cutB w 58).1 45).1, rn (cutB (cutB w 58).1 45).2, rn (cutB w 58).2⟩

theorem cutB_size (w : ByteArray) (c : UInt8) : (cutB w c).1.size ≤ w.size ∧ (cutB w c).2.size ≤ w.size := by
  have := cut_sizes w.data.toList [c]
  simp only [cutB, Go.Lib.size_eq]
  exact this

theorem parseE_body (n : Nat) (hn : n ≤ 16) (e : S71) (g : GE n e) (w : ByteArray) (hw : w.data.toList = body e) : parseE w = e := by
  obtain ⟨g0, g1, g2, g3, g4⟩ := g
  have a1 := dec_no e.f0.toNat (by omega) 58 (by decide)
  have b1 := dec_no e.f1.toNat (by omega) 58 (by decide)
  have a2 := dec_no e.f0.toNat (by omega) 45 (by decide)
  have h58 : (58 : UInt8) ∉ (dec e.f0.toNat).data.toList ++ 45 :: (dec e.f1.toNat).data.toList := by
    simp only [List.mem_append, List.mem_cons]
    rintro (h | h | h)
    · exact a1 h
    · exact absurd h (by decide)
    · exact b1 h
  have hb : body e = ((dec e.f0.toNat).data.toList ++ 45 :: (dec e.f1.toNat).data.toList) ++ 58 :: (dec e.f2.toNat).data.toList := by simp [body]
  have c1 : Go.Lib.cut w.data.toList [58] = ((dec e.f0.toNat).data.toList ++ 45 :: (dec e.f1.toNat).data.toList, (dec e.f2.toNat).data.toList, true) := by rw [hw, hb]; exact cut_hit1 58 _ _ h58
  have e1 : (cutB w 58).1.data.toList = (dec e.f0.toNat).data.toList ++ 45 :: (dec e.f1.toNat).data.toList := by simp [cutB, c1]
  have e2 : (cutB w 58).2 = dec e.f2.toNat := ba_ext (by simp [cutB, c1])
  have c2 : Go.Lib.cut (cutB w 58).1.data.toList [45] = ((dec e.f0.toNat).data.toList, (dec e.f1.toNat).data.toList, true) := by rw [e1]; exact cut_hit1 45 _ _ a2
  have e3 : (cutB (cutB w 58).1 45).1 = dec e.f0.toNat := ba_ext (by rw [cutB]; simp [c2])
  have e4 : (cutB (cutB w 58).1 45).2 = dec e.f1.toNat := ba_ext (by rw [cutB]; simp [c2])
  unfold parseE
  rw [e2, e3, e4, rn_dec _ (by omega) (by omega), rn_dec _ (by omega) (by omega), rn_dec _ (by omega) (by omega)]

end Go.Proofs.YtkimeoknckohfaaDoor.R
