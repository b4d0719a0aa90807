/- Literals of structs and slices, made slices, arrays. -/
import Derived.Test.YtcijmfodhdigpaaR1New
import Derived.Laws.Tables
import Derived.Great.BuildSlice
namespace Go.Proofs.Ytcijmfodhdigpaa.R1
variable {P : Program} {ρ : Type}

theorem foldl_set : ∀ (l : List Value) (k off : Nat) (cs : Array Value), off + k + l.length ≤ cs.size →
    ((l.zipIdx k).foldl (fun (cs : Array Value) (x : Value × Nat) => cs.setIfInBounds (off + x.2) x.1) cs).toList = cs.toList.take (off + k) ++ l ++ cs.toList.drop (off + k + l.length)
  | [], k, off, cs, _ => by simp
  | v :: l, k, off, cs, hl => by
    simp only [List.length_cons] at hl
    rw [List.zipIdx_cons, List.foldl_cons, foldl_set l (k + 1) off _ (by simp; omega)]
    have hlt : off + k < cs.toList.length := by rw [Array.length_toList]; omega
    rw [Array.toList_setIfInBounds, set_middle cs.toList (off + k) _ v (List.getElem?_eq_getElem hlt)]
    have hA : (cs.toList.take (off + k)).length = off + k := by rw [List.length_take]; omega
    have hD : cs.toList.drop (off + k + (l.length + 1)) = (cs.toList.drop (off + k + 1)).drop l.length := by rw [List.drop_drop]; congr 1; omega
    rw [List.length_cons, hD]
    generalize cs.toList.drop (off + k + 1) = D
    generalize cs.toList.take (off + k) = A at hA
    rw [show off + (k + 1) = (A ++ [v]).length by simp [hA]; omega, show A ++ v :: D = (A ++ [v]) ++ D by simp, List.take_left, List.drop_append, List.drop_eq_nil_of_le (by omega)]
    simp

theorem fill_cons (place : Nat → Option (Nat × Nat)) (cells : Array Value) (i : Nat) (v : Value) (rest : List (Nat × Value)) (off size : Nat) (hp : place i = some (off, size)) (hs : v.cells.size = size) (hf : off + v.cells.size ≤ cells.size) :
    ∃ cells' : Array Value, Instr.fill place cells ((i, v) :: rest) = Instr.fill place cells' rest ∧ cells'.toList = cells.toList.take off ++ v.cells.toList ++ cells.toList.drop (off + v.cells.toList.length) := by
  refine ⟨(v.cells.toList.zipIdx 0).foldl (fun (cs : Array Value) (x : Value × Nat) => cs.setIfInBounds (off + x.2) x.1) cells, ?_, foldl_set v.cells.toList 0 off cells (by simpa using hf)⟩
  simp only [Instr.fill, hp]
  rw [if_neg (by simp [hs]; omega)]
  congr 1
  rw [← Array.foldl_toList, Array.toList_zipIdx]

section
variable {S : Nat → Prop} {w : World} {φ : Nat → Value} {h : Nat → B}

/-- A struct's literal. -/
theorem fillParts_sound {fs : List (Nat × Nat)} {size : Nat → Option Nat} {places : List (Nat × Nat)} (hpl : ∀ (i off t s : Nat), fs[i]? = some (off, t) → size t = some s → places[i]? = some (off, s)) :
    ∀ {parts : List (Nat × V)} {vparts : List (Nat × Value)} {cs cs' : List C} {cells : Array Value}, All2 (fun p q => p.1 = q.1 ∧ RelV S w φ h p.2 q.2) parts vparts → All2 (RelC S w φ h) cs cells.toList →
      fillParts fs size parts cs = some cs' → ∃ cells', Instr.fill (places.toArray[·]?) cells vparts = some cells' ∧ All2 (RelC S w φ h) cs' cells'.toList
  | [], [], cs, cs', cells, _, ha, hf => by simp [fillParts] at hf; subst hf; exact ⟨cells, rfl, ha⟩
  | (i, v) :: parts, (i', v') :: vparts, cs, cs', cells, hp, ha, hf => by
    obtain ⟨⟨hi, hv⟩, hp⟩ := hp
    simp only at hi
    subst hi
    simp only [fillParts] at hf
    split at hf
    · rename_i off t new e1 e2
      split at hf
      · rename_i s e3
        cases hb : Nat.beq new.length s with
        | false => rw [hb] at hf; cases hf
        | true =>
          rw [hb] at hf
          simp only [cond_true] at hf
          split at hf
          · rename_i cs2 e4
            obtain ⟨hle, rfl⟩ := splice_some e4
            have hc := relV_cells hv e2
            have hs : v'.cells.size = s := by rw [← Nat.eq_of_beq_eq_true hb, hc.length, Array.length_toList]
            have hcl := hc.length
            have hal := ha.length
            simp only [Array.length_toList] at hcl hal
            obtain ⟨cells', h1, h2⟩ := fill_cons (places.toArray[·]?) cells i v' vparts off s (by simpa using hpl i off t s e1 e3) hs (by omega)
            have hall := ((ha.take off).append hc).append (ha.drop (off + new.length))
            have e5 : v'.cells.toList.length = new.length := by rw [Array.length_toList]; omega
            rw [e5] at h2
            rw [← h2] at hall
            obtain ⟨c3, h3, h4⟩ := fillParts_sound hpl hp hall hf
            exact ⟨c3, h1.trans h3, h4⟩
          · cases hf
      · cases hf
    · cases hf
  | [], _ :: _, _, _, _, hp, _, _ => hp.elim
  | _ :: _, [], _, _, _, hp, _, _ => hp.elim

/-- A slice's literal: its elements. -/
theorem putParts_sound {ok : Nat → Prop} (hb : ∀ n, RelB S w φ h ok (φ n) (h n)) {S' : Nat → Prop} (hS : ∀ g, S g → S' g) {u : U} {size : Nat} (hsz : size = u.n) :
    ∀ {parts : List (Nat × V)} {vparts : List (Nat × Value)} {l l' : List (El u)} {cells : Array Value}, All2 (fun p q => p.1 = q.1 ∧ RelV S w φ h p.2 q.2) parts vparts → RepL (Rep S' w u) l cells.toList →
      putParts h parts l = some l' → (∀ n ∈ rowsInAll parts, (h n).isRow = true → ∀ g, blk (φ n) = some g → S' g) →
      ∃ cells', Instr.fill (fun i => some (i * size, size)) cells vparts = some cells' ∧ RepL (Rep S' w u) l' cells'.toList
  | [], [], l, l', cells, _, ha, hf, _ => by simp [putParts] at hf; subst hf; exact ⟨cells, rfl, ha⟩
  | (i, v) :: parts, (i', v') :: vparts, l, l', cells, hp, ha, hf, hrow => by
    obtain ⟨⟨hi, hv⟩, hp⟩ := hp
    simp only at hi
    subst hi
    subst hsz
    simp only [putParts] at hf
    split at hf
    · rename_i cs e1
      split at hf
      · rename_i x e2
        cases hb' : Nat.blt i l.length with
        | false => rw [hb'] at hf; cases hf
        | true =>
          rw [hb'] at hf
          simp only [cond_true] at hf
          have hlt : i < l.length := by simpa [Nat.blt_eq] using hb'
          have hc := relV_cells hv e1
          have hrv : ∀ n ∈ rowsIn cs, n ∈ rowsInAll ((i, v) :: parts) := by
            intro n hn
            cases v with
            | v y => simp [V.cells] at e1; subst e1; exact List.mem_append_left _ hn
            | _ => simp [V.cells] at e1
          have hrp : ∀ n ∈ rowsInAll parts, n ∈ rowsInAll ((i, v) :: parts) := by
            intro n hn
            cases v with
            | v y => exact List.mem_append_right _ hn
            | _ => exact hn
          have hrep : Rep S' w u x v'.cells.toList := rep_datum hb hS hc e2 fun n hn => hrow n (hrv n hn)
          have hn : v'.cells.size = u.n := by have := hrep.length; simpa using this
          obtain ⟨y, hy⟩ : ∃ y, l[i]? = some y := ⟨_, List.getElem?_eq_getElem hlt⟩
          obtain ⟨v1, v2, v3, hfl, hl1, hr, hr1, hr3⟩ := ha.at hy
          have hlen := congrArg List.length hfl
          simp only [Array.length_toList, List.length_append, hl1, hr.length] at hlen
          obtain ⟨cells', h1, h2⟩ := fill_cons (fun i => some (i * u.n, u.n)) cells i v' vparts (i * u.n) u.n rfl hn (by omega)
          have h3 : RepL (Rep S' w u) (l.set i x) cells'.toList := by
            rw [h2, set_middle l i y x hy]
            rw [hfl, show i * u.n = v1.length from hl1.symm, List.take_left, show v'.cells.toList.length = v2.length by rw [hr.length]; simpa using hn,
              show v1.length + v2.length = (v1 ++ v2).length by simp, ← List.append_assoc v1 v2 v3, List.drop_left, List.append_assoc]
            exact hr1.append ⟨_, _, rfl, hrep, hr3⟩
          obtain ⟨c3, h4, h5⟩ := putParts_sound hb hS rfl hp h3 hf fun n hn => hrow n (hrp n hn)
          exact ⟨c3, h1.trans h4, h5⟩
      · cases hf
    · cases hf
  | [], _ :: _, _, _, _, hp, _, _, _ => hp.elim
  | _ :: _, [], _, _, _, hp, _, _, _ => hp.elim

theorem madeCells_flat (z : Array Value) (hz : 0 < z.size) : ∀ n, (madeCells z (n * z.size)).toList = (List.replicate n z.toList).flatten := by
  have key : ∀ n j, j < n * z.size → (List.replicate n z.toList).flatten[j]? = z.toList[j % z.size]? := by
    intro n
    induction n with
    | zero => intro j hj; simp at hj
    | succ n ih =>
      intro j hj
      rw [List.replicate_succ, List.flatten_cons]
      by_cases hlt : j < z.size
      · rw [List.getElem?_append_left (by simpa using hlt), Nat.mod_eq_of_lt hlt]
      · rw [List.getElem?_append_right (by simpa using hlt)]
        rw [Array.length_toList, ih (j - z.size) (by rw [Nat.succ_mul] at hj; omega), ← Nat.mod_eq_sub_mod (by omega)]
  intro n
  have hlen : (List.replicate n z.toList).flatten.length = n * z.size := by simp
  apply List.ext_getElem?
  intro j
  by_cases hj : j < n * z.size
  · rw [key n j hj]
    have hm : j % z.size < z.size := Nat.mod_lt _ hz
    simp [madeCells, hj, hm]
  · rw [List.getElem?_eq_none (by simp [size_madeCells]; omega), List.getElem?_eq_none (by omega)]

theorem repL_replicate {u : U} {z : El u} {zs : List Value} (hr : Rep S w u z zs) : ∀ n, RepL (Rep S w u) (List.replicate n z) (List.replicate n zs).flatten
  | 0 => rfl
  | n + 1 => ⟨zs, _, rfl, hr, repL_replicate hr n⟩

theorem dataList_sound {ok : Nat → Prop} (hb : ∀ n, RelB S w φ h ok (φ n) (h n)) {S' : Nat → Prop} (hS : ∀ g, S g → S' g) {u : U} :
    ∀ {n : Nat} {cs : List C} {vs : List Value} {l : List (El u)}, All2 (RelC S w φ h) cs vs → dataList h u n cs = some l → (∀ n ∈ rowsIn cs, (h n).isRow = true → ∀ g, blk (φ n) = some g → S' g) → RepL (Rep S' w u) l vs ∧ l.length = n
  | 0, cs, vs, l, ha, hd, _ => by
    simp only [dataList] at hd
    split at hd
    · injection hd with hd; subst hd
      cases vs with
      | nil => exact ⟨rfl, rfl⟩
      | cons => exact ha.elim
    · cases hd
  | n + 1, cs, vs, l, ha, hd, hrow => by
    simp only [dataList] at hd
    split at hd
    · rename_i x r e1
      split at hd
      · rename_i l' e2
        injection hd with hd; subst hd
        obtain ⟨v1, v2, rfl, hr, ha2, hsub⟩ := rep_ofCells hb hS ha e1 hrow
        obtain ⟨h1, h2⟩ := dataList_sound hb hS ha2 e2 fun n hn => hrow n (hsub n hn)
        exact ⟨⟨v1, v2, rfl, hr, h1⟩, by simp [h2]⟩
      · cases hd
    · cases hd
end
end Go.Proofs.Ytcijmfodhdigpaa.R1
