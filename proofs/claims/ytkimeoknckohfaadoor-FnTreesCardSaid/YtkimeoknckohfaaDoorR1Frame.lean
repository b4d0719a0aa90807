/- A state of which less is known: what an operation comes to there, it comes to anywhere. -/
import Derived.Test.YtkimeoknckohfaaDoorR1Nat
namespace Go.Proofs.YtkimeoknckohfaaDoor.R1

/-- The heap h is h' with some blocks kept from sight. -/
structure LeH (b : Nat → Bool) (h h' : Nat → B) : Prop where
  out : ∀ n, b n = false → h' n = h n
  gone : ∀ n, b n = true → h n = .gone

structure Le (b : Nat → Bool) (st st' : St) : Prop where
  t : ∀ n, st.t n = .bad ∨ st'.t n = st.t n
  h : LeH b st.h st'.h
  glob : ∀ n, isGlob n = true → b n = false

def merge (b : Nat → Bool) (h h' : Nat → B) : Nat → B := fun n => bif b n then h' n else h n

section
variable {b : Nat → Bool} {h h' : Nat → B}

theorem LeH.merge (l : LeH b h h') : R1.merge b h h' = h' := by
  funext n
  unfold R1.merge
  cases e : b n with
  | true => rfl
  | false => exact (l.out n e).symm

theorem merge_upd {n : Nat} {x : B} (hn : b n = false) : merge b (upd h n x) h' = upd (merge b h h') n x := by
  funext k
  by_cases e : k = n
  · subst e; simp [merge, upd_same, hn]
  · simp [merge, upd_ne _ _ e]

theorem LeH.seen (l : LeH b h h') {n : Nat} (hn : h n ≠ .gone) : b n = false := by
  cases e : b n with
  | false => rfl
  | true => exact absurd (l.gone n e) hn

theorem LeH.same (l : LeH b h h') {n : Nat} (hn : h n ≠ .gone) : h' n = h n := l.out n (l.seen hn)

theorem LeH.at (l : LeH b h h') {n : Nat} {x : B} (hn : h n = x) (hx : x ≠ .gone) : h' n = x := by rw [l.same (by rw [hn]; exact hx)]; exact hn

theorem LeH.freezeAll (ns : List Nat) : ∀ {h h' : Nat → B}, LeH b h h' → LeH b (R1.freezeAll h ns) (R1.freezeAll h' ns) := by
  induction ns with
  | nil => intro h h' l; exact l
  | cons n ns ih =>
    intro h h' l
    refine ih ⟨fun k hk => ?_, fun k hk => ?_⟩
    · by_cases e : k = n
      · subst e; rw [upd_same, upd_same, l.out k hk]
      · rw [upd_ne _ _ e, upd_ne _ _ e]; exact l.out k hk
    · by_cases e : k = n
      · subst e; rw [upd_same, l.gone k hk]; rfl
      · rw [upd_ne _ _ e]; exact l.gone k hk

theorem merge_freezeAll (h' : Nat → B) (ns : List Nat) : ∀ {h : Nat → B}, (∀ n ∈ ns, b n = false) → freezeAll (merge b h h') ns = merge b (freezeAll h ns) h' := by
  induction ns with
  | nil => intro h _; rfl
  | cons n ns ih =>
    intro h hs
    have hn := hs n (by simp)
    show freezeAll (upd (merge b h h') n (merge b h h' n).freeze) ns = merge b (freezeAll (upd h n (h n).freeze) ns) h'
    rw [show merge b h h' n = h n by simp [merge, hn], ← merge_upd hn]
    exact ih fun k hk => hs k (List.mem_cons_of_mem _ hk)

theorem freezeAll_gone (ns : List Nat) : ∀ {h : Nat → B} {n : Nat}, h n = .gone → freezeAll h ns n = .gone := by
  induction ns with
  | nil => intro h n hn; exact hn
  | cons m ns ih =>
    intro h n hn
    refine ih ?_
    by_cases e : n = m
    · subst e; rw [upd_same, hn]; rfl
    · rw [upd_ne _ _ e]; exact hn

/-! ### Data -/
theorem LeH.dataSl (l : LeH b h h') {u : U} {c : C} {x : List (El u)} (hx : R1.dataSl h u c = some x) : R1.dataSl h' u c = some x := by
  cases c with
  | row n =>
    simp only [R1.dataSl] at hx ⊢
    have hn : h n ≠ .gone := by intro e; rw [e] at hx; cases hx
    rw [l.same hn]; exact hx
  | _ => exact hx

theorem dataSl_seen {u : U} {n : Nat} {x : List (El u)} (hx : dataSl h u (.row n) = some x) : h n ≠ .gone := by
  intro e; simp only [dataSl] at hx; rw [e] at hx; cases hx

theorem LeH.ofCells (l : LeH b h h') : ∀ {u : U} {cs r : List C} {x : El u}, R1.ofCells h u cs = some (x, r) → R1.ofCells h' u cs = some (x, r) := by
  intro u
  induction u with
  | pair a c iha ihc =>
    intro cs r x hx
    simp only [R1.ofCells] at hx ⊢
    split at hx
    · rename_i y r1 e1
      split at hx
      · rename_i z r2 e2
        rw [iha e1]; simp only; rw [ihc e2]; exact hx
      · cases hx
    · cases hx
  | sl e ih =>
    intro cs r x hx
    simp only [R1.ofCells] at hx ⊢
    split at hx
    · split at hx
      · rename_i y e1; rw [l.dataSl e1]; exact hx
      · cases hx
    · cases hx
  | _ => intro cs r x hx; exact hx

theorem ofCells_seen : ∀ {u : U} {cs r : List C} {x : El u}, ofCells h u cs = some (x, r) → ∀ n ∈ rowsIn cs, h n ≠ .gone ∨ n ∈ rowsIn r := by
  intro u
  induction u with
  | pair a c iha ihc =>
    intro cs r x hx n hn
    simp only [ofCells] at hx
    split at hx
    · rename_i y r1 e1
      split at hx
      · rename_i z r2 e2
        injection hx with hx; injection hx with _ hx; subst hx
        rcases iha e1 n hn with h1 | h1
        · exact .inl h1
        · exact ihc e2 n h1
      · cases hx
    · cases hx
  | sl e ih =>
    intro cs r x hx n hn
    simp only [ofCells] at hx
    split at hx
    · rename_i c r0
      split at hx
      · rename_i y e1
        injection hx with hx; injection hx with _ hx; subst hx
        cases c with
        | row m =>
          rcases List.mem_cons.1 hn with rfl | hn
          · exact .inl (dataSl_seen e1)
          · exact .inr hn
        | _ => exact .inr hn
      · cases hx
    · cases hx
  | unit =>
    intro cs r x hx n hn
    simp only [ofCells] at hx
    injection hx with hx; injection hx with _ hx; subst hx; exact .inr hn
  | int k =>
    intro cs r x hx n hn
    simp only [ofCells] at hx
    split at hx
    · split at hx
      · injection hx with hx; injection hx with _ hx; subst hx; exact .inr hn
      · cases hx
    · cases hx
  | bool =>
    intro cs r x hx n hn
    simp only [ofCells] at hx
    split at hx
    · injection hx with hx; injection hx with _ hx; subst hx; exact .inr hn
    · cases hx
  | str =>
    intro cs r x hx n hn
    simp only [ofCells] at hx
    split at hx
    · injection hx with hx; injection hx with _ hx; subst hx; exact .inr hn
    · cases hx

theorem LeH.datum (l : LeH b h h') {u : U} {cs : List C} {x : El u} (hx : R1.datum h u cs = some x) : R1.datum h' u cs = some x := by
  unfold R1.datum at hx ⊢
  split at hx
  · rename_i y e1; rw [l.ofCells e1]; exact hx
  · cases hx

theorem datum_seen {u : U} {cs : List C} {x : El u} (hx : datum h u cs = some x) : ∀ n ∈ rowsIn cs, h n ≠ .gone := by
  intro n hn
  unfold datum at hx
  split at hx
  · rename_i y e1
    rcases ofCells_seen e1 n hn with h1 | h1
    · exact h1
    · cases h1
  · cases hx

theorem LeH.dataList (l : LeH b h h') {u : U} : ∀ {n : Nat} {cs : List C} {x : List (El u)}, R1.dataList h u n cs = some x → R1.dataList h' u n cs = some x := by
  intro n
  induction n with
  | zero => intro cs x hx; exact hx
  | succ n ih =>
    intro cs x hx
    simp only [R1.dataList] at hx ⊢
    split at hx
    · rename_i y r e1
      split at hx
      · rename_i z e2; rw [l.ofCells e1]; simp only; rw [ih e2]; exact hx
      · cases hx
    · cases hx

theorem dataList_seen {u : U} : ∀ {n : Nat} {cs : List C} {x : List (El u)}, dataList h u n cs = some x → ∀ k ∈ rowsIn cs, h k ≠ .gone := by
  intro n
  induction n with
  | zero =>
    intro cs x hx k hk
    cases cs with
    | nil => cases hk
    | cons => cases hx
  | succ n ih =>
    intro cs x hx k hk
    simp only [dataList] at hx
    split at hx
    · rename_i y r e1
      split at hx
      · rename_i z e2
        rcases ofCells_seen e1 k hk with h1 | h1
        · exact h1
        · exact ih e2 k h1
      · cases hx
    · cases hx

/-! ### Specifications -/
theorem LeH.ckExt (l : LeH b h h') : ∀ {k : CK} {c : C} {r r' : Ren} {x : k.T}, k.ext h c r = some (x, r') → k.ext h' c r = some (x, r') := by
  intro k
  induction k with
  | sl u =>
    intro c r r' x hx
    simp only [CK.ext] at hx ⊢
    split at hx
    · rename_i y e1; rw [l.dataSl e1]; exact hx
    · cases hx
  | dp u =>
    intro c r r' x hx
    simp only [CK.ext] at hx ⊢
    split at hx
    · exact hx
    · rename_i m i sz off
      split at hx
      · rename_i tt cs hm
        split at hx
        · rename_i y e1
          simp only [l.at hm (by simp), l.datum e1]; exact hx
        · cases hx
      · cases hx
    · cases hx
  | cap g c ihg ihc =>
    intro c' r r' x hx
    simp only [CK.ext] at hx ⊢
    split at hx
    · split at hx
      · rename_i y r1 e1
        split at hx
        · rename_i z r2 e2
          simp only [ihg e1, ihc e2]; exact hx
        · cases hx
      · cases hx
    · cases hx
  | _ => intro c r r' x hx; exact hx

theorem LeH.cksExt (l : LeH b h h') : ∀ {ks : List CK} {cs : List C} {r r' : Ren} {x : CKsT ks}, CKsExt h ks cs r = some (x, r') → CKsExt h' ks cs r = some (x, r') := by
  intro ks
  induction ks with
  | nil => intro cs r r' x hx; exact hx
  | cons k ks ih =>
    intro cs r r' x hx
    simp only [CKsExt] at hx ⊢
    split at hx
    · split at hx
      · rename_i y r1 e1
        split at hx
        · rename_i z r2 e2
          simp only [l.ckExt e1, ih e2]; exact hx
        · cases hx
      · cases hx
    · cases hx

theorem LeH.vkExt (l : LeH b h h') {k : VK} {v : V} {r r' : Ren} {x : k.T} (hx : k.ext h v r = some (x, r')) : k.ext h' v r = some (x, r') := by
  cases k with
  | c k =>
    simp only [VK.ext] at hx ⊢
    split at hx
    · exact l.ckExt hx
    · cases hx
  | agg ks =>
    simp only [VK.ext] at hx ⊢
    split at hx
    · exact l.cksExt hx
    · cases hx

theorem LeH.vksExt (l : LeH b h h') {t : Nat → V} : ∀ {ts : List (Nat × VK)} {r r' : Ren} {x : VKsT ts}, VKsExt ⟨t, h⟩ ts r = some (x, r') → VKsExt ⟨t, h'⟩ ts r = some (x, r') := by
  intro ts
  induction ts with
  | nil => intro r r' x hx; exact hx
  | cons p ts ih =>
    obtain ⟨i, k⟩ := p
    intro r r' x hx
    simp only [VKsExt] at hx ⊢
    split at hx
    · rename_i y r1 e1
      split at hx
      · rename_i z r2 e2
        simp only [l.vkExt e1, ih e2]; exact hx
      · cases hx
    · cases hx

theorem LeH.bkExt (l : LeH b h h') {k : BK} {m : Option Nat} {r r' : Ren} {x : k.T} (hx : k.ext h m r = some (x, r')) : k.ext h' m r = some (x, r') := by
  cases k with
  | row e u =>
    cases m with
    | none => exact hx
    | some m =>
      simp only [BK.ext] at hx ⊢
      split at hx
      · rename_i e' u' y hm; simp only [l.at hm (by simp)]; exact hx
      · cases hx
  | box t ks =>
    cases m with
    | none => exact hx
    | some m =>
      simp only [BK.ext] at hx ⊢
      split at hx
      · rename_i t' cs hm
        simp only [l.at hm (by simp)]
        cases e : Nat.beq t' t with
        | false => rw [e] at hx; cases hx
        | true => rw [e] at hx; exact l.cksExt hx
      · cases hx
  | mp t ka va ku vu =>
    cases m with
    | none => exact hx
    | some m =>
      simp only [BK.ext] at hx ⊢
      split at hx
      · rename_i hm; simp only [l.at hm (by simp)]; exact hx
      · cases hx
  | own e o =>
    cases m with
    | none => exact hx
    | some m =>
      simp only [BK.ext] at hx ⊢
      split at hx
      · rename_i e' o' y hm; simp only [l.at hm (by simp)]; exact hx
      · cases hx

theorem bkExt_seen {k : BK} {m : Nat} {r r' : Ren} {x : k.T} (hx : k.ext h (some m) r = some (x, r')) : h m ≠ .gone := by
  cases k <;> (simp only [BK.ext] at hx; split at hx <;> first | (rename_i hm; rw [hm]; simp; done) | cases hx)

theorem LeH.bksExt (l : LeH b h h') : ∀ {bs : List (Nat × BK)} {r r' : Ren} {x : BKsT bs}, BKsExt h bs r = some (x, r') → BKsExt h' bs r = some (x, r') := by
  intro bs
  induction bs with
  | nil => intro r r' x hx; exact hx
  | cons p bs ih =>
    obtain ⟨n, k⟩ := p
    intro r r' x hx
    simp only [BKsExt] at hx ⊢
    split at hx
    · split at hx
      · rename_i y r1 e1
        split at hx
        · rename_i z r2 e2
          simp only [l.bkExt e1, ih e2]; exact hx
        · cases hx
      · cases hx
    · cases hx

theorem LeH.ext (l : LeH b h h') {s : Spec} {t : Nat → V} {x : s.V} {r : Ren} (hx : s.ext ⟨t, h⟩ = some (x, r)) : s.ext ⟨t, h'⟩ = some (x, r) := by
  unfold Spec.ext at hx ⊢
  split at hx
  · rename_i y r1 e1
    split at hx
    · rename_i z r2 e2
      simp only [l.vksExt e1, l.bksExt e2]; exact hx
    · cases hx
  · cases hx
end
end Go.Proofs.YtkimeoknckohfaaDoor.R1
