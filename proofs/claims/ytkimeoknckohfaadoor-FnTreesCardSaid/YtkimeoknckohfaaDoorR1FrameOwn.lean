/- Rows with rows of their own that are made: in a state of which less is known; and what is written. -/
import Derived.Test.YtkimeoknckohfaaDoorR1Frame3
namespace Go.Proofs.YtkimeoknckohfaaDoor.R1

section
variable {b : Nat → Bool} {h h' : Nat → B} {v : V} {s1 : St}

theorem rowsIn_drop {k : Nat} {cs : List C} {n : Nat} (hn : n ∈ rowsIn (cs.drop k)) : n ∈ rowsIn cs := by
  rw [← List.take_append_drop k cs, rowsIn_append]; exact List.mem_append_right _ hn

theorem asRow_seen {t : Nat} {e : O} {n : Nat} {l : List (El e.u)} (hx : asRow t e (h n) = some l) : h n ≠ .gone := by
  intro q; rw [q] at hx; cases hx

theorem LeH.closeC (l : LeH b h h') : ∀ {o : O} {cs r : List C} {x : El o.u} {ns : List Nat}, R1.closeC h o cs = some (x, r, ns) →
    R1.closeC h' o cs = some (x, r, ns) ∧ (∀ n ∈ ns, h n ≠ .gone ∧ n ∈ rowsIn cs) ∧ ∀ n ∈ rowsIn r, n ∈ rowsIn cs
  | .d u, cs, r, x, ns, hx => by
    simp only [R1.closeC] at hx ⊢
    split at hx
    · rename_i y e1 e2
      injection hx with hx; injection hx with h1 h2; injection h2 with h2 h3
      subst h1; subst h2; subst h3
      refine ⟨?_, fun n hn => (by cases hn), fun n hn => rowsIn_drop hn⟩
      have : (rowsIn (cs.take u.n)).all (fun n => !(h' n).isRow) = true := by
        rw [List.all_eq_true] at e2 ⊢
        intro n hn
        rw [l.same (datum_seen e1 n hn)]
        exact e2 n hn
      rw [l.datum e1, this]
    · cases hx
  | .p a c, cs, r, x, ns, hx => by
    simp only [R1.closeC] at hx ⊢
    split at hx
    · rename_i y r1 n1 e1
      obtain ⟨a1, a2, a3⟩ := l.closeC e1
      split at hx
      · rename_i z r2 n2 e2
        obtain ⟨b1, b2, b3⟩ := l.closeC e2
        injection hx with hx; injection hx with h1 h2; injection h2 with h2 h3
        subst h1; subst h2; subst h3
        refine ⟨by rw [a1]; simp only [b1], fun n hn => ?_, fun n hn => a3 n (b3 n hn)⟩
        rcases List.mem_append.1 hn with hn | hn
        · exact a2 n hn
        · exact ⟨(b2 n hn).1, a3 n (b2 n hn).2⟩
      · cases hx
    · cases hx
  | .s t e, cs, r, x, ns, hx => by
    simp only [R1.closeC] at hx ⊢
    split at hx
    · rename_i r'
      split at hx
      · rename_i e1
        injection hx with hx; injection hx with h1 h2; injection h2 with h2 h3
        subst h1; subst h2; subst h3
        exact ⟨by simp only [e1], fun n hn => (by cases hn), fun n hn => hn⟩
      · cases hx
    · rename_i n r'
      split at hx
      · rename_i xs e1
        injection hx with hx; injection hx with h1 h2; injection h2 with h2 h3
        subst h1; subst h2; subst h3
        have hs := asRow_seen e1
        refine ⟨by simp only [l.same hs, e1], fun m hm => ?_, fun m hm => List.mem_cons_of_mem _ hm⟩
        rw [List.mem_singleton.1 hm]
        exact ⟨hs, List.mem_cons.2 (.inl rfl)⟩
      · cases hx
    · cases hx

theorem LeH.ownList (l : LeH b h h') {o : O} : ∀ {ps : List (Nat × V)} {i : Nat} {xs : List (El o.u)} {ns : List Nat}, R1.ownList h o i ps = some (xs, ns) →
    R1.ownList h' o i ps = some (xs, ns) ∧ (∀ q ∈ ps, q.2.isBad = false) ∧ ∀ n ∈ ns, h n ≠ .gone ∧ n ∈ rowsInAll ps
  | [], i, xs, ns, hx => by
    simp only [R1.ownList] at hx ⊢
    injection hx with hx; injection hx with h1 h2; subst h1; subst h2
    exact ⟨rfl, fun q hq => (by cases hq), fun n hn => (by cases hn)⟩
  | (j, .v w) :: ps, i, xs, ns, hx => by
    simp only [R1.ownList] at hx ⊢
    split at hx
    · rename_i x n1 e1 e2
      obtain ⟨a1, a2, _⟩ := l.closeC e2
      split at hx
      · rename_i ys n2 e3
        obtain ⟨b1, b2, b3⟩ := l.ownList e3
        injection hx with hx; injection hx with h1 h2; subst h1; subst h2
        refine ⟨by simp only [e1, a1, b1], fun q hq => ?_, fun n hn => ?_⟩
        · rcases List.mem_cons.1 hq with rfl | hq
          · rfl
          · exact b2 q hq
        · rcases List.mem_append.1 hn with hn | hn
          · exact ⟨(a2 n hn).1, List.mem_append_left _ (a2 n hn).2⟩
          · exact ⟨(b3 n hn).1, List.mem_append_right _ (b3 n hn).2⟩
      · cases hx
    · cases hx
  | (j, .bad) :: ps, i, xs, ns, hx => by simp [R1.ownList] at hx
  | (j, .und) :: ps, i, xs, ns, hx => by simp [R1.ownList] at hx
  | (j, .tup _) :: ps, i, xs, ns, hx => by simp [R1.ownList] at hx

theorem LeH.goneL : ∀ (ns : List Nat) {h h' : Nat → B}, LeH b h h' → (∀ n ∈ ns, b n = false) → LeH b (R1.goneL h ns) (R1.goneL h' ns)
  | [], _, _, l, _ => l
  | n :: ns, h, h', l, hs => by
    refine LeH.goneL ns ⟨fun k hk => ?_, fun k hk => ?_⟩ fun k hk => hs k (List.mem_cons_of_mem _ hk)
    · by_cases e : k = n
      · subst e; rw [upd_same, upd_same]
      · rw [upd_ne _ _ e, upd_ne _ _ e]; exact l.out k hk
    · by_cases e : k = n
      · subst e; rw [upd_same]
      · rw [upd_ne _ _ e]; exact l.gone k hk

theorem merge_goneL (g : Nat → B) : ∀ (ns : List Nat) {h : Nat → B}, (∀ n ∈ ns, b n = false) → goneL (merge b h g) ns = merge b (goneL h ns) g
  | [], _, _ => rfl
  | n :: ns, h, hs => by
    show goneL (upd (merge b h g) n .gone) ns = merge b (goneL (upd h n .gone) ns) g
    rw [← merge_upd (hs n (by simp))]
    exact merge_goneL g ns fun k hk => hs k (List.mem_cons_of_mem _ hk)

theorem goneL_other : ∀ (ns : List Nat) {h : Nat → B} {n : Nat}, n ∉ ns → goneL h ns n = h n
  | [], _, _, _ => rfl
  | m :: ns, h, n, hn => by
    simp only [List.mem_cons, not_or] at hn
    show goneL (upd h m .gone) ns n = h n
    rw [goneL_other ns hn.2, upd_ne _ _ hn.1]

theorem newOwn_frame {g h0 h0' : Nat → B} {t t' : Nat → V} (l : LeH b h0 h0') (hg : h0' = merge b h0 g) {n e : Nat} {o : O} {xs : List (El o.u)} {f : V} (hx : newOwn ⟨t, h0⟩ n e o xs (fun s => some (f, s)) = some (v, s1)) :
    newOwn ⟨t', h0'⟩ n e o xs (fun s => some (f, s)) = some (v, ⟨t', merge b s1.h g⟩) := by
  unfold newOwn at hx ⊢
  split at hx
  · exact newBlock_frame l hg hx
  · cases hx

theorem newOwn_touch {g : Nat → B} {t : Nat → V} {n e : Nat} {o : O} {xs : List (El o.u)} {f : V} (hx : newOwn ⟨t, g⟩ n e o xs (fun s => some (f, s)) = some (v, s1)) : s1.t = t ∧ ∀ k, k ≠ n → s1.h k = g k := by
  unfold newOwn at hx
  split at hx
  · exact newBlock_touch hx
  · cases hx

theorem LeH.ownNews (l : LeH b h h') {e : Nat} {o : O} {c : C} {xs : List (El o.u)} {ns : List Nat} (hx : R1.ownNews h e o c = some (xs, ns)) :
    R1.ownNews h' e o c = some (xs, ns) ∧ ∀ n ∈ ns, h n ≠ .gone ∧ n ∈ rowsIn [c] := by
  cases c with
  | nils =>
    simp only [R1.ownNews] at hx ⊢
    injection hx with hx; injection hx with h1 h2; subst h1; subst h2
    exact ⟨rfl, fun n hn => by cases hn⟩
  | row m =>
    simp only [R1.ownNews] at hx ⊢
    split at hx
    · rename_i t o' xs' e1
      simp only [l.at e1 (by simp)]
      cases h2 : Nat.beq t e with
      | false => rw [h2] at hx; cases hx
      | true =>
        rw [h2] at hx
        simp only [cond_true] at hx ⊢
        split at hx
        · rename_i q
          injection hx with hx; injection hx with h3 h4; subst h3; subst h4
          rw [dif_pos q]
          refine ⟨rfl, fun n hn => ?_⟩
          rw [List.mem_singleton.1 hn]
          exact ⟨by rw [e1]; simp, List.mem_cons.2 (.inl rfl)⟩
        · cases hx
    · cases hx
  | _ => cases hx

theorem appendOwn_frame {st st' : St} (l : LeH b st.h st'.h) {dst e : Nat} {o : O} {ie : TI} {c x : C} (hx : appendOwn st dst e o ie c x (fun v s => some (v, s)) = some (v, s1)) :
    appendOwn st' dst e o ie c x (fun v s => some (v, s)) = some (v, ⟨st'.t, merge b s1.h st'.h⟩) := by
  unfold appendOwn at hx ⊢
  split at hx
  · rename_i l1 ns l2 ms e1 e2
    obtain ⟨a1, a2⟩ := l.ownNews e1
    obtain ⟨b1, b2⟩ := l.ownNews e2
    simp only [a1, b1]
    split at hx
    · rename_i e3 e4
      try simp only [e3, e4]
      obtain ⟨h1, hx⟩ := cond_true_of hx
      rw [h1]
      have hs : ∀ n ∈ ns ++ ms, b n = false := fun n hn => by
        rcases List.mem_append.1 hn with hn | hn
        · exact l.seen (a2 n hn).1
        · exact l.seen (b2 n hn).1
      refine newOwn_frame (t := st.t) (l.goneL _ hs) ?_ hx
      rw [← merge_goneL _ _ hs, l.merge]
    · cases hx
  · cases hx

theorem appendOwn_touch {st : St} {dst e : Nat} {o : O} {ie : TI} {c x : C} (hx : appendOwn st dst e o ie c x (fun v s => some (v, s)) = some (v, s1)) :
    s1.t = st.t ∧ ∀ k, k ≠ dst → k ∉ rowsIn [c] → k ∉ rowsIn [x] → s1.h k = st.h k := by
  have l : LeH (fun _ => false) st.h st.h := ⟨fun _ _ => rfl, fun _ h => by cases h⟩
  unfold appendOwn at hx
  split at hx
  · rename_i l1 ns l2 ms e1 e2
    obtain ⟨_, a2⟩ := l.ownNews e1
    obtain ⟨_, b2⟩ := l.ownNews e2
    split at hx
    · obtain ⟨_, hx⟩ := cond_true_of hx
      obtain ⟨h1, h2⟩ := newOwn_touch (t := st.t) hx
      refine ⟨h1, fun k hk hc hd => ?_⟩
      rw [h2 k hk]
      refine goneL_other _ fun hm => ?_
      rcases List.mem_append.1 hm with hm | hm
      · exact hc (a2 k hm).2
      · exact hd (b2 k hm).2
    · cases hx
  · cases hx
end
end Go.Proofs.YtkimeoknckohfaaDoor.R1
