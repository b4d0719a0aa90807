/- The text of a tree: both programs write the same. -/
import Derived.Test.YtddaiabilhjcpaaDoorATreeOk
import Derived.Test.YtddaiabilhjcpaaDoorAx9
import Derived.Test.YtddaiabilhjcpaaDoorAx5
namespace Go.Proofs.YtddaiabilhjcpaaDoorAT
open Go.RowKit Go.Proofs.YtddaiabilhjcpaaDoor.A Go.Proofs.YtddaiabilhjcpaaDoorW.PrintWords Go.Proofs.YtddaiabilhjcpaaDoorM

theorem Ev.of_mono {α : Type} {g : Nat → Option α} {r : α} (h : ∀ k, LeO (g k) (g (k + 1))) {k : Nat} (e : g k = some r) : Ev g r :=
  ⟨k, fun j hj => by
    have := more_rounds h k (j - k) r e
    rwa [show k + (j - k) = j by omega] at this⟩

/-- A number below 100 in decimal digits. -/
def dec (u : Nat) : ByteArray := if u < 10 then ⟨#[UInt8.ofNat (48 + u)]⟩ else ⟨#[UInt8.ofNat (48 + u / 10), UInt8.ofNat (48 + u % 10)]⟩

theorem dec_size (u : Nat) : (dec u).size ≤ 2 := by
  unfold dec
  split
  · exact Nat.le_succ 1
  · exact Nat.le_refl 2

theorem decDigits_eq (u : Nat) (h : u < 100) : (⟨(Go.Lib.decDigits u).toArray⟩ : ByteArray) = dec u := by
  unfold dec
  by_cases c : u < 10
  · rw [if_pos c, Go.Lib.decDigits, dif_pos c]
  · rw [if_neg c, Go.Lib.decDigits, dif_neg c, Go.Lib.decDigits, dif_pos (by omega)]
    rfl

theorem dec_impl (x : Int) (h0 : 0 ≤ x) (h1 : x < 100) : impl_decimal.f x = some (dec x.toNat) := by
  simp only [impl_decimal.f, strconv_FormatInt_57.f, strconv_FormatInt_75.f]
  rw [if_pos ⟨h0, h1, trivial⟩]
  simp only [Option.bind_some, decDigits_eq x.toNat (by omega)]

theorem dec_spec_all : ∀ u : Fin 100, spec_l01Dec.f 10 ((u.val : Nat) : Int) = some (dec u.val) := by decide +kernel

theorem dec_spec (x : Int) (h0 : 0 ≤ x) (h1 : x < 100) : Ev (fun k => spec_l01Dec.f k x) (dec x.toNat) := by
  have e := dec_spec_all ⟨x.toNat, by omega⟩
  simp only at e
  rw [show ((x.toNat : Nat) : Int) = x by omega] at e
  exact Ev.of_mono (spec_l01Dec.mono x) e

def edgeTxt (e : S52) : ByteArray := (((((⟨#[32]⟩ : ByteArray) ++ dec e.f0.toNat) ++ (⟨#[45]⟩ : ByteArray)) ++ dec e.f1.toNat) ++ (⟨#[58]⟩ : ByteArray)) ++ dec e.f2.toNat

theorem one_size (x : UInt8) : (⟨#[x]⟩ : ByteArray).size = 1 := rfl

theorem edgeTxt_size (e : S52) : (edgeTxt e).size ≤ 9 := by
  have a := dec_size e.f0.toNat
  have b := dec_size e.f1.toNat
  have c := dec_size e.f2.toNat
  unfold edgeTxt
  simp only [ByteArray.size_append, one_size]
  omega

def txtFrom (L : List S52) : Nat → Nat → ByteArray → ByteArray
  | 0, _, acc => acc
  | d + 1, i, acc => txtFrom L d (i + 1) (acc ++ edgeTxt (rd_T52 L (i : Int)))

def treeTxt (n : Nat) (L : List S52) : ByteArray := txtFrom L L.length 0 (dec n)

theorem specTxt (n : Nat) (hn : n ≤ 16) (L : List S52) (hl : L.length ≤ 1048576) (hL : ∀ e ∈ L, GE n e) : ∀ (d i : Nat) (acc : ByteArray), i + d = L.length → acc.size ≤ 2 + 9 * i →
    Ev (fun k => spec_l30Text.l0 k acc (i : Int) (n : Int) L) (txtFrom L d i acc)
  | 0, i, acc, hi, ha => by
    refine ev_succ ?_
    simp only [spec_l30Text.l0, txtFrom]
    exact ev_neg (by omega) (Ev.now _)
  | d + 1, i, acc, hi, ha => by
    obtain ⟨e, he, hm, hd⟩ := at_edge L i (by omega)
    obtain ⟨g0, g1, g2, g3, g4⟩ := hL e hm
    have a := dec_size e.f0.toNat
    have b := dec_size e.f1.toNat
    have c := dec_size e.f2.toNat
    have s := edgeTxt_size e
    refine ev_succ ?_
    simp only [spec_l30Text.l0, he, wnext i (by omega), txtFrom, ByteArray.size_append, one_size]
    refine ev_pos (by omega) (ev_pos (by omega) (Ev.bind (dec_spec e.f0 (by omega) (by omega)) (ev_pos (by omega) (ev_pos (by omega) (Ev.bind (dec_spec e.f1 (by omega) (by omega)) (ev_pos (by omega) (ev_pos (by omega) (Ev.bind (dec_spec e.f2 (by omega) (by omega)) (ev_pos (by omega) (ev_pos (by omega) ?_))))))))))
    exact specTxt n hn L hl hL d (i + 1) (acc ++ edgeTxt e) (by omega) (by rw [ByteArray.size_append]; omega)

theorem implTxt (n : Nat) (hn : n ≤ 16) (L : List S52) (hl : L.length ≤ 1048576) (hL : ∀ e ∈ L, GE n e) : ∀ (d i : Nat) (acc : ByteArray), i + d = L.length → acc.size ≤ 2 + 9 * i →
    Ev (fun k => impl_treeText.l0 k acc L (L.length : Int) (i : Int)) (txtFrom L d i acc)
  | 0, i, acc, hi, ha => by
    refine ev_succ ?_
    simp only [impl_treeText.l0, txtFrom]
    exact ev_neg (by omega) (Ev.now _)
  | d + 1, i, acc, hi, ha => by
    obtain ⟨e, he, hm, hd⟩ := at_edge L i (by omega)
    obtain ⟨g0, g1, g2, g3, g4⟩ := hL e hm
    have a := dec_size e.f0.toNat
    have b := dec_size e.f1.toNat
    have c := dec_size e.f2.toNat
    have s := edgeTxt_size e
    refine ev_succ ?_
    simp only [impl_treeText.l0, he, wnext i (by omega), txtFrom, dec_impl e.f0 (by omega) (by omega), dec_impl e.f1 (by omega) (by omega), dec_impl e.f2 (by omega) (by omega), Option.bind_some, ByteArray.size_append, one_size]
    refine ev_pos (by omega) (ev_pos (by omega) (ev_pos (by omega) (ev_pos (by omega) (ev_pos (by omega) (ev_pos (by omega) (ev_pos (by omega) (ev_pos (by omega) (ev_pos (by omega) ?_))))))))
    exact implTxt n hn L hl hL d (i + 1) (acc ++ edgeTxt e) (by omega) (by rw [ByteArray.size_append]; omega)

theorem spec_txt (n : Nat) (h0 : 2 ≤ n) (hn : n ≤ 16) (L : List S52) (hl : L.length ≤ 1048576) (hL : ∀ e ∈ L, GE n e) : Ev (fun k => spec_l30Text.f k (n : Int) L) (treeTxt n L) := by
  unfold spec_l30Text.f
  exact Ev.bind (dec_spec n (by omega) (by omega)) (specTxt n hn L hl hL L.length 0 (dec n) (by omega) (dec_size n))

theorem impl_txt (n : Nat) (h0 : 2 ≤ n) (hn : n ≤ 16) (L : List S52) (hl : L.length ≤ 1048576) (hL : ∀ e ∈ L, GE n e) : Ev (fun k => impl_treeText.f k (n : Int) L) (treeTxt n L) := by
  unfold impl_treeText.f
  exact ev_bindc (dec_impl n (by omega) (by omega)) (implTxt n hn L hl hL L.length 0 (dec n) (by omega) (dec_size n))

end Go.Proofs.YtddaiabilhjcpaaDoorAT
