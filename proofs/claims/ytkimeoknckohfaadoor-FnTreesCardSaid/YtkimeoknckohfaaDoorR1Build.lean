/- Literals of structs and slices, made slices, arrays. -/
import Derived.Test.YtkimeoknckohfaaDoorR1New
import Derived.Laws.Tables
import Derived.Great.BuildSlice
namespace Go.Proofs.YtkimeoknckohfaaDoor.R1
variable {P : Program} {ρ : Type}

theorem foldl_set : ∀ (l : List Value) (k off : Nat) (cs : Array Value), off + k + l.length ≤ cs.size →
    ((l.zipIdx k).foldl (fun (cs : Array Value) (x : Value × Nat) => cs.setIfInBounds (off + x.2) x.1) cs).toList = cs.toList.take (off + k) ++ l ++ cs.toList.drop (off + k + l.length)
  | [], k, off, cs, _ => by simp
  | v :: l, k, off, cs, hl => by
    simp only [List.length_cons] at hl
    rw [List.zipIdx_cons, List.foldl_cons, foldl_set l (k + 1) off _ (by simp; omega)]
    have hlt : off + k < cs.toList.length := by rw [Array.length_toList]; omega
    rw [Array.toList_setIfInBounds, set_middle cs.toList (off + k) _ v (List.getElem?_eq_getElem hlt)]
    have hA : (cs.toList.take (off + k)).length = off + k := by rw [List.length_take]; omega
    have hD : cs.toList.drop (off + k + (l.length + 1)) = (cs.toList.drop (off + k + 1)).drop l.length := by rw [List.drop_drop]; congr 1; omega
    rw [List.length_cons, hD]
    generalize cs.toList.drop (off + k + 1) = D
    generalize cs.toList.take (off + k) = A at hA
    rw [show off + (k + 1) = (A ++ [v]).length by simp [hA]; omega, show A ++ v :: D = (A ++ [v]) ++ D by simp, List.take_left, List.drop_append, List.drop_eq_nil_of_le (by omega)]
    simp

theorem fill_cons (place : Nat → Option (Nat × Nat)) (cells : Array Value) (i : Nat) (v : Value) (rest : List (Nat × Value)) (off size : Nat) (hp : place i = some (off, size)) (hs : v.cells.size = size) (hf : off + v.cells.size ≤ cells.size) :
    ∃ cells' : Array Value, Instr.fill place cells ((i, v) :: rest) = Instr.fill place cells' rest ∧ cells'.toList = cells.toList.take off ++ v.cells.toList ++ cells.toList.drop (off + v.cells.toList.length) := by
  refine ⟨(v.cells.toList.zipIdx 0).foldl (fun (cs : Array Value) (x : Value × Nat) => cs.setIfInBounds (off + x.2) x.1) cells, ?_, foldl_set v.cells.toList 0 off cells (by simpa using hf)⟩
  simp only [Instr.fill, hp]
  rw [if_neg (by simp [hs]; omega)]
  congr 1
  rw [← Array.foldl_toList, Array.toList_zipIdx]

section
variable {S : Nat → Prop} {w : World} {φ : Nat → Value} {h : Nat → B}

/-- A struct's literal. -/
theorem fillParts_sound {fs : List (Nat × Nat)} {size : Nat → Option Nat} {places : List (Nat × Nat)} (hpl : ∀ (i off t s : Nat), fs[i]? = some (off, t) → size t = some s → places[i]? = some (off, s)) :
    ∀ {parts : List (Nat × V)} {vparts : List (Nat × Value)} {cs cs' : List C} {cells : Array Value}, All2 (fun p q => p.1 = q.1 ∧ RelV S w φ h p.2 q.2) parts vparts → All2 (RelC S w φ h) cs cells.toList →
      fillParts fs size parts cs = some cs' → ∃ cells', Instr.fill (places.toArray[·]?) cells vparts = some cells' ∧ All2 (RelC S w φ h) cs' cells'.toList
  | [], [], cs, cs', cells, _, ha, hf => by simp [fillParts] at hf; subst hf; exact ⟨cells, rfl, ha⟩
  | (i, v) :: parts, (i', v') :: vparts, cs, cs', cells, hp, ha, hf => by
    obtain ⟨⟨hi, hv⟩, hp⟩ := hp
    simp only at hi
    subst hi
    simp only [fillParts] at hf
    split at hf
    · rename_i off t new e1 e2
      split at hf
      · rename_i s e3
        cases hb : Nat.beq new.length s with
        | false => rw [hb] at hf; cases hf
        | true =>
          rw [hb] at hf
          simp only [cond_true] at hf
          split at hf
          · rename_i cs2 e4
            obtain ⟨hle, rfl⟩ := splice_some e4
            have hc := relV_cells hv e2
            have hs : v'.cells.size = s := by rw [← Nat.eq_of_beq_eq_true hb, hc.length, Array.length_toList]
            have hcl := hc.length
            have hal := ha.length
            simp only [Array.length_toList] at hcl hal
            obtain ⟨cells', h1, h2⟩ := fill_cons (places.toArray[·]?) cells i v' vparts off s (by simpa using hpl i off t s e1 e3) hs (by omega)
            have hall := ((ha.take off).append hc).append (ha.drop (off + new.length))
            have e5 : v'.cells.toList.length = new.length := by rw [Array.length_toList]; omega
            rw [e5] at h2
            rw [← h2] at hall
            obtain ⟨c3, h3, h4⟩ := fillParts_sound hpl hp hall hf
            exact ⟨c3, h1.trans h3, h4⟩
          · cases hf
      · cases hf
    · cases hf
  | [], _ :: _, _, _, _, hp, _, _ => hp.elim
  | _ :: _, [], _, _, _, hp, _, _ => hp.elim

/-- A slice's literal: its elements. -/
theorem putParts_sound {ok : Nat → Prop} (hb : ∀ n, RelB S w φ h ok (φ n) (h n)) {S' : Nat → Prop} (hS : ∀ g, S g → S' g) {u : U} {size : Nat} (hsz : size = u.n) :
    ∀ {parts : List (Nat × V)} {vparts : List (Nat × Value)} {l l' : List (El u)} {cells : Array Value}, All2 (fun p q => p.1 = q.1 ∧ RelV S w φ h p.2 q.2) parts vparts → RepL (Rep S' w u) l cells.toList →
      putParts h parts l = some l' → (∀ n ∈ rowsInAll parts, (h n).isRow = true → ∀ g, Bk (φ n) g → S' g) →
      ∃ cells', Instr.fill (fun i => some (i * size, size)) cells vparts = some cells' ∧ RepL (Rep S' w u) l' cells'.toList
  | [], [], l, l', cells, _, ha, hf, _ => by simp [putParts] at hf; subst hf; exact ⟨cells, rfl, ha⟩
  | (i, v) :: parts, (i', v') :: vparts, l, l', cells, hp, ha, hf, hrow => by
    obtain ⟨⟨hi, hv⟩, hp⟩ := hp
    simp only at hi
    subst hi
    subst hsz
    simp only [putParts] at hf
    split at hf
    · rename_i cs e1
      split at hf
      · rename_i x e2
        cases hb' : Nat.blt i l.length with
        | false => rw [hb'] at hf; cases hf
        | true =>
          rw [hb'] at hf
          simp only [cond_true] at hf
          have hlt : i < l.length := by simpa [Nat.blt_eq] using hb'
          have hc := relV_cells hv e1
          have hrv : ∀ n ∈ rowsIn cs, n ∈ rowsInAll ((i, v) :: parts) := by
            intro n hn
            cases v with
            | v y => simp [V.cells] at e1; subst e1; exact List.mem_append_left _ hn
            | _ => simp [V.cells] at e1
          have hrp : ∀ n ∈ rowsInAll parts, n ∈ rowsInAll ((i, v) :: parts) := by
            intro n hn
            cases v with
            | v y => exact List.mem_append_right _ hn
            | _ => exact hn
          have hrep : Rep S' w u x v'.cells.toList := rep_datum hb hS hc e2 fun n hn => hrow n (hrv n hn)
          have hn : v'.cells.size = u.n := by have := hrep.length; simpa using this
          obtain ⟨y, hy⟩ : ∃ y, l[i]? = some y := ⟨_, List.getElem?_eq_getElem hlt⟩
          obtain ⟨v1, v2, v3, hfl, hl1, hr, hr1, hr3⟩ := ha.at hy
          have hlen := congrArg List.length hfl
          simp only [Array.length_toList, List.length_append, hl1, hr.length] at hlen
          obtain ⟨cells', h1, h2⟩ := fill_cons (fun i => some (i * u.n, u.n)) cells i v' vparts (i * u.n) u.n rfl hn (by omega)
          have h3 : RepL (Rep S' w u) (l.set i x) cells'.toList := by
            rw [h2, set_middle l i y x hy]
            rw [hfl, show i * u.n = v1.length from hl1.symm, List.take_left, show v'.cells.toList.length = v2.length by rw [hr.length]; simpa using hn,
              show v1.length + v2.length = (v1 ++ v2).length by simp, ← List.append_assoc v1 v2 v3, List.drop_left, List.append_assoc]
            exact hr1.append ⟨_, _, rfl, hrep, hr3⟩
          obtain ⟨c3, h4, h5⟩ := putParts_sound hb hS rfl hp h3 hf fun n hn => hrow n (hrp n hn)
          exact ⟨c3, h1.trans h4, h5⟩
      · cases hf
    · cases hf
  | [], _ :: _, _, _, _, hp, _, _, _ => hp.elim
  | _ :: _, [], _, _, _, hp, _, _, _ => hp.elim

theorem repOL_replicate {o : O} {z : El o.u} {vs : List Value} (h : RepO S w o z vs []) : ∀ n, RepOL (RepO S w o) (List.replicate n z) (List.replicate n vs).flatten []
  | 0 => ⟨rfl, rfl⟩
  | n + 1 => by rw [List.replicate_succ, List.replicate_succ, List.flatten_cons]; exact ⟨vs, _, [], [], rfl, rfl, h, repOL_replicate h n⟩

/-- A literal's elements with rows of their own. -/
theorem ownList_sound {ok : Nat → Prop} (hb : ∀ n, RelB S w φ h ok (φ n) (h n)) (hap : ∀ n m g, n ≠ m → (h n).mut = true → (h m).mut = true → Bk (φ n) g → ¬ Bk (φ m) g) {o : O} {size : Nat} (hsz : size = o.u.n) :
    ∀ {parts : List (Nat × V)} {vparts : List (Nat × Value)} {i : Nat} {l : List (El o.u)} {ns : List Nat} {cells : Array Value} {done rest : List Value}, All2 (fun p q => p.1 = q.1 ∧ RelV S w φ h p.2 q.2) parts vparts → cells.toList = done ++ rest → done.length = i * size → rest.length = parts.length * size →
      ownList h o i parts = some (l, ns) →
      ∃ cells' mid F, Instr.fill (fun i => some (i * size, size)) cells vparts = some cells' ∧ cells'.toList = done ++ mid ∧ RepOL (RepO S w o) l mid F ∧ l.length = parts.length ∧ (∀ g ∈ F, ∃ n ∈ ns, Bk (φ n) g) ∧ (ns.Nodup → F.Nodup) ∧ ∀ n ∈ ns, (h n).mut = true
  | [], [], i, l, ns, cells, done, rest, _, hc, _, hr, hl => by
    simp only [ownList] at hl
    injection hl with hl; injection hl with h1 h2; subst h1; subst h2
    have : rest = [] := List.eq_nil_of_length_eq_zero (by simpa using hr)
    subst this
    exact ⟨cells, [], [], rfl, hc, ⟨rfl, rfl⟩, rfl, fun g hg => (by cases hg), fun _ => List.nodup_nil, fun n hn => (by cases hn)⟩
  | (j, .v x) :: parts, (j', v') :: vparts, i, l, ns, cells, done, rest, hp, hc, hd, hr, hl => by
    obtain ⟨⟨hi, hv⟩, hp⟩ := hp
    simp only at hi
    subst hi
    simp only [ownList] at hl
    split at hl
    · rename_i x' ns1 hj hcl
      have := Nat.eq_of_beq_eq_true hj
      subst this
      split at hl
      · rename_i l2 ms hl2
        injection hl with hl; injection hl with h1 h2; subst h1; subst h2
        have hcs := relV_cells hv (show V.cells (.v x) = some x.cells from rfl)
        obtain ⟨a1, a2, F1, hvc, har, hrep, hF1, hnd1, hm1⟩ := closeC_rel hb hap hcs hcl
        have : a2 = [] := by
          cases a2 with
          | nil => rfl
          | cons => exact har.elim
        subst this
        rw [List.append_nil] at hvc
        have hlen : v'.cells.toList.length = size := by rw [hvc, hrep.length, hsz]
        simp only [List.length_cons, Nat.succ_mul] at hr
        have hsize : cells.size = j * size + rest.length := by rw [← Array.length_toList, hc, List.length_append, hd]
        obtain ⟨cells1, hf1, hf2⟩ := fill_cons (fun i => some (i * size, size)) cells j v' vparts (j * size) size rfl (by rw [← Array.length_toList]; exact hlen) (by rw [← Array.length_toList (xs := v'.cells), hlen]; omega)
        have hc1 : cells1.toList = (done ++ a1) ++ rest.drop size := by
          rw [hf2, hc, hlen, ← hd, List.take_left, hvc, List.append_assoc, List.append_assoc]
          congr 2
          rw [List.drop_append, List.drop_eq_nil_of_le (by omega)]
          simp
        obtain ⟨c2, mid, F2, k1, k2, k3, k4, k5, k6, k7⟩ := ownList_sound hb hap hsz hp hc1 (by rw [List.length_append, hd, hrep.length, hsz, Nat.succ_mul]) (by rw [List.length_drop]; omega) hl2
        refine ⟨c2, a1 ++ mid, F1 ++ F2, hf1.trans k1, by rw [k2, List.append_assoc], ⟨a1, mid, F1, F2, rfl, rfl, hrep, k3⟩, by rw [List.length_cons, List.length_cons, k4], fun g hg => ?_, fun hn => ?_, fun n hn => (List.mem_append.1 hn).elim (hm1 n) (k7 n)⟩
        · rcases List.mem_append.1 hg with q | q
          · obtain ⟨n, q1, q2⟩ := (hF1 g).1 q; exact ⟨n, List.mem_append.2 (.inl q1), q2⟩
          · obtain ⟨n, q1, q2⟩ := k5 g q; exact ⟨n, List.mem_append.2 (.inr q1), q2⟩
        · have hn := List.nodup_append.1 hn
          refine List.nodup_append.2 ⟨hnd1 hn.1, k6 hn.2.1, fun g q1 g' q2 e => ?_⟩
          subst e
          obtain ⟨n, p1, p2⟩ := (hF1 g).1 q1
          obtain ⟨m, p3, p4⟩ := k5 g q2
          exact hap n m g (hn.2.2 n p1 m p3) (hm1 n p1) (k7 m p3) p2 p4
      · cases hl
    · cases hl
  | (_, .bad) :: _, _, _, _, _, _, _, _, _, _, _, _, hl => by cases hl
  | (_, .und) :: _, _, _, _, _, _, _, _, _, _, _, _, hl => by cases hl
  | (_, .tup _) :: _, _, _, _, _, _, _, _, _, _, _, _, hl => by cases hl
  | [], _ :: _, _, _, _, _, _, _, hp, _, _, _, _ => hp.elim
  | (_, .v _) :: _, [], _, _, _, _, _, _, hp, _, _, _, _ => hp.elim

theorem madeCells_flat (z : Array Value) (hz : 0 < z.size) : ∀ n, (madeCells z (n * z.size)).toList = (List.replicate n z.toList).flatten := by
  have key : ∀ n j, j < n * z.size → (List.replicate n z.toList).flatten[j]? = z.toList[j % z.size]? := by
    intro n
    induction n with
    | zero => intro j hj; simp at hj
    | succ n ih =>
      intro j hj
      rw [List.replicate_succ, List.flatten_cons]
      by_cases hlt : j < z.size
      · rw [List.getElem?_append_left (by simpa using hlt), Nat.mod_eq_of_lt hlt]
      · rw [List.getElem?_append_right (by simpa using hlt)]
        rw [Array.length_toList, ih (j - z.size) (by rw [Nat.succ_mul] at hj; omega), ← Nat.mod_eq_sub_mod (by omega)]
  intro n
  have hlen : (List.replicate n z.toList).flatten.length = n * z.size := by simp
  apply List.ext_getElem?
  intro j
  by_cases hj : j < n * z.size
  · rw [key n j hj]
    have hm : j % z.size < z.size := Nat.mod_lt _ hz
    simp [madeCells, hj, hm]
  · rw [List.getElem?_eq_none (by simp [size_madeCells]; omega), List.getElem?_eq_none (by omega)]

theorem repL_replicate {u : U} {z : El u} {zs : List Value} (hr : Rep S w u z zs) : ∀ n, RepL (Rep S w u) (List.replicate n z) (List.replicate n zs).flatten
  | 0 => rfl
  | n + 1 => ⟨zs, _, rfl, hr, repL_replicate hr n⟩

theorem dataList_sound {ok : Nat → Prop} (hb : ∀ n, RelB S w φ h ok (φ n) (h n)) {S' : Nat → Prop} (hS : ∀ g, S g → S' g) {u : U} :
    ∀ {n : Nat} {cs : List C} {vs : List Value} {l : List (El u)}, All2 (RelC S w φ h) cs vs → dataList h u n cs = some l → (∀ n ∈ rowsIn cs, (h n).isRow = true → ∀ g, Bk (φ n) g → S' g) → RepL (Rep S' w u) l vs ∧ l.length = n
  | 0, cs, vs, l, ha, hd, _ => by
    simp only [dataList] at hd
    split at hd
    · injection hd with hd; subst hd
      cases vs with
      | nil => exact ⟨rfl, rfl⟩
      | cons => exact ha.elim
    · cases hd
  | n + 1, cs, vs, l, ha, hd, hrow => by
    simp only [dataList] at hd
    split at hd
    · rename_i x r e1
      split at hd
      · rename_i l' e2
        injection hd with hd; subst hd
        obtain ⟨v1, v2, rfl, hr, ha2, hsub⟩ := rep_ofCells hb hS ha e1 hrow
        obtain ⟨h1, h2⟩ := dataList_sound hb hS ha2 e2 fun n hn => hrow n (hsub n hn)
        exact ⟨⟨v1, v2, rfl, hr, h1⟩, by simp [h2]⟩
      · cases hd
    · cases hd
end
end Go.Proofs.YtkimeoknckohfaaDoor.R1
