/- Operations in a state of which less is known; what an operation writes. -/
import Derived.Test.YtkimeoknckohfaaDoorR1Frame2
namespace Go.Proofs.YtkimeoknckohfaaDoor.R1

section
variable {b : Nat → Bool} {st st' : St} {v : V} {s1 : St}

theorem Le.self (l : Le b st st') : (⟨st'.t, merge b st.h st'.h⟩ : St) = st' := by rw [l.h.merge]

theorem Le.opnd (l : Le b st st') {x : Operand} {v : V} (hx : R1.opnd st x = v) (hv : v.isBad = false) : R1.opnd st' x = v := by
  cases x with
  | tmp t =>
    simp only [R1.opnd] at hx ⊢
    rcases l.t t with e | e
    · rw [e] at hx; subst hx; cases hv
    · rw [e]; exact hx
  | const c => exact hx
  | global g =>
    simp only [R1.opnd] at hx ⊢
    cases e : isGlob (gname g) with
    | false => rw [e] at hx; exact hx
    | true => rw [l.h.out _ (l.glob _ e)]; rw [e] at hx; exact hx
  | func f => exact hx

theorem one_ok {v : V} {c : C} (h : v.one = some c) : v.isBad = false := by cases v <;> first | rfl | cases h
theorem cells_ok {v : V} {cs : List C} (h : v.cells = some cs) : v.isBad = false := by cases v <;> first | rfl | cases h

theorem Le.one (l : Le b st st') {x : Operand} {c : C} (hx : (R1.opnd st x).one = some c) : (R1.opnd st' x).one = some c := by rw [l.opnd rfl (one_ok hx)]; exact hx
theorem Le.cells (l : Le b st st') {x : Operand} {cs : List C} (hx : (R1.opnd st x).cells = some cs) : (R1.opnd st' x).cells = some cs := by rw [l.opnd rfl (cells_ok hx)]; exact hx

theorem Le.opnds (l : Le b st st') : ∀ {xs : List Operand} {vs : List V}, xs.map (R1.opnd st) = vs → (∀ v ∈ vs, v.isBad = false) → xs.map (R1.opnd st') = vs
  | [], vs, h, _ => h
  | x :: xs, vs, h, hv => by
    subst h
    rw [List.map_cons, List.map_cons, l.opnd rfl (hv _ (by simp)), l.opnds rfl fun v hm => hv v (by simp at hm ⊢; exact .inr hm)]

theorem Le.intOpt (l : Le b st st') {x : Option Operand} {z : Option Int} (h : R1.intOpt st x = some z) : R1.intOpt st' x = some z := by
  cases x with
  | none => exact h
  | some x =>
    simp only [R1.intOpt] at h ⊢
    split at h
    · rename_i e; simp only [l.opnd e rfl]; exact h
    · cases h

theorem cond_true_of {α : Type} {c : Bool} {x : Option α} {r : α} (h : (bif c then x else none) = some r) : c = true ∧ x = some r := by
  cases c with
  | true => exact ⟨rfl, h⟩
  | false => cases h

theorem newBlock_frame {g h0 h0' : Nat → B} {t t' : Nat → V} (l : LeH b h0 h0') (hg : h0' = merge b h0 g) {n : Nat} {x : B} {f : V} (hx : newBlock ⟨t, h0⟩ n x (fun s => some (f, s)) = some (v, s1)) :
    newBlock ⟨t', h0'⟩ n x (fun s => some (f, s)) = some (v, ⟨t', merge b s1.h g⟩) := by
  obtain ⟨h1, h2, h3⟩ := newBlock_some hx
  injection h3 with h3; injection h3 with h3 h4; subst h3; subst h4
  have h1' : h0' n = .free := l.at h1 (by simp)
  unfold newBlock
  simp only [h1', h2]
  rw [merge_upd (l.seen (by rw [show h0 n = .free from h1]; simp)), ← hg]

theorem newRow_frame {g h0 h0' : Nat → B} {t t' : Nat → V} (l : LeH b h0 h0') (hg : h0' = merge b h0 g) {n e : Nat} {u : U} {xs : List (El u)} {f : V} (hx : newRow ⟨t, h0⟩ n e u xs (fun s => some (f, s)) = some (v, s1)) :
    newRow ⟨t', h0'⟩ n e u xs (fun s => some (f, s)) = some (v, ⟨t', merge b s1.h g⟩) := by
  unfold newRow at hx ⊢
  split at hx
  · exact newBlock_frame l hg hx
  · cases hx

theorem newBlock_touch {g : Nat → B} {t : Nat → V} {n : Nat} {x : B} {f : V} (hx : newBlock ⟨t, g⟩ n x (fun s => some (f, s)) = some (v, s1)) : s1.t = t ∧ ∀ k, k ≠ n → s1.h k = g k := by
  obtain ⟨h1, h2, h3⟩ := newBlock_some hx
  injection h3 with h3; injection h3 with h3 h4; subst h3; subst h4
  exact ⟨rfl, fun k hk => upd_ne _ _ hk⟩

theorem newRow_touch {g : Nat → B} {t : Nat → V} {n e : Nat} {u : U} {xs : List (El u)} {f : V} (hx : newRow ⟨t, g⟩ n e u xs (fun s => some (f, s)) = some (v, s1)) : s1.t = t ∧ ∀ k, k ≠ n → s1.h k = g k := by
  unfold newRow at hx
  split at hx
  · exact newBlock_touch hx
  · cases hx

theorem LeH.putParts {h h' : Nat → B} (l : LeH b h h') {u : U} : ∀ {ps : List (Nat × V)} {acc r : List (El u)}, R1.putParts h ps acc = some r → R1.putParts h' ps acc = some r
  | [], _, _, hx => hx
  | (i, x) :: ps, acc, r, hx => by
    simp only [R1.putParts] at hx ⊢
    split at hx
    · split at hx
      · rename_i cs _ y e2
        simp only [l.datum e2]
        cases hb : Nat.blt i acc.length with
        | false => rw [hb] at hx; cases hx
        | true => rw [hb] at hx; exact l.putParts hx
      · cases hx
    · cases hx

theorem putParts_seen {h : Nat → B} {u : U} : ∀ {ps : List (Nat × V)} {acc r : List (El u)}, putParts h ps acc = some r → (∀ q ∈ ps, q.2.isBad = false) ∧ ∀ n ∈ rowsInAll ps, h n ≠ .gone
  | [], _, _, _ => ⟨fun q (hq : q ∈ []) => (by cases hq), fun n (hn : n ∈ []) => (by cases hn)⟩
  | (i, x) :: ps, acc, r, hx => by
    simp only [putParts] at hx
    split at hx
    · rename_i cs e1
      split at hx
      · rename_i y e2
        cases hb : Nat.blt i acc.length with
        | false => rw [hb] at hx; cases hx
        | true =>
          rw [hb] at hx
          obtain ⟨h1, h2⟩ := putParts_seen hx
          refine ⟨fun q hq => ?_, fun n hn => ?_⟩
          · rcases List.mem_cons.1 hq with rfl | hq
            · exact cells_ok e1
            · exact h1 q hq
          · cases x with
            | v w =>
              simp only [V.cells, Option.some.injEq] at e1
              subst e1
              rcases List.mem_append.1 hn with hn | hn
              · exact datum_seen e2 n hn
              · exact h2 n hn
            | _ => cases e1
      · cases hx
    · cases hx

theorem fillParts_ok {fs : List (Nat × Nat)} {size : Nat → Option Nat} : ∀ {ps : List (Nat × V)} {cs r : List C}, fillParts fs size ps cs = some r → ∀ q ∈ ps, q.2.isBad = false
  | [], _, _, _, q, hq => by cases hq
  | (i, x) :: ps, cs, r, hx, q, hq => by
    simp only [fillParts] at hx
    split at hx
    · rename_i off t new e1 e2
      split at hx
      · rename_i s _
        cases hb : Nat.beq new.length s with
        | false => rw [hb] at hx; cases hx
        | true =>
          rw [hb] at hx
          simp only [cond_true] at hx
          split at hx
          · rcases List.mem_cons.1 hq with rfl | hq
            · exact cells_ok e2
            · exact fillParts_ok hx q hq
          · cases hx
      · cases hx
    · cases hx

theorem Le.parts (l : Le b st st') : ∀ {ps : List (Nat × Operand)}, (∀ q ∈ ps.map (fun p => (p.1, R1.opnd st p.2)), q.2.isBad = false) → ps.map (fun p => (p.1, R1.opnd st' p.2)) = ps.map (fun p => (p.1, R1.opnd st p.2))
  | [], _ => rfl
  | p :: ps, h => by
    simp only [List.map_cons]
    rw [l.opnd rfl (h (p.1, R1.opnd st p.2) (by simp)), l.parts fun q hq => h q (by simp at hq ⊢; exact .inr hq)]

theorem load_frame (l : LeH b st.h st'.h) {i : TI} {a : C} {w : V} (hx : load st i a some = some w) : load st' i a some = some w := by
  unfold load at hx ⊢
  split at hx
  · rename_i n j sz off
    try simp only
    split at hx
    · rename_i e; rw [l.at e (by simp)]; exact hx
    · rename_i e; rw [l.at e (by simp)]; exact hx
    · rename_i e; rw [l.at e (by simp)]; exact hx
    · rename_i e; rw [l.at e (by simp)]; exact hx
    · rename_i e; rw [l.at e (by simp)]; exact hx
    · cases hx
  · exact hx
  · cases hx

theorem storeRow_frame {h0 h0' g : Nat → B} {t t' : Nat → V} {s s' : St} (hs : s.t = t) (hs' : s'.t = t') (l : LeH b h0 h0') (hg : h0' = merge b h0 g) {sz off j n : Nat} {new : List C} {r : St} (hx : storeRow s h0 sz off j n new some = some r) :
    storeRow s' h0' sz off j n new some = some ⟨t', merge b r.h g⟩ := by
  unfold storeRow at hx ⊢
  split at hx
  · rename_i e u xs e1
    rw [l.at e1 (by simp)]
    try simp only
    cases hb : Nat.beq sz u.n with
    | false => rw [hb] at hx; cases hx
    | true =>
      rw [hb] at hx
      simp only [cond_true] at hx ⊢
      obtain ⟨y, hy, hx⟩ := Option.bind_eq_some_iff.1 hx
      rw [hy]
      simp only [Option.bind_some]
      split at hx
      · rename_i cs e2
        split at hx
        · rename_i z e3
          injection hx with hx; subst hx
          simp only [e2, l.datum e3]
          rw [merge_upd (l.seen (by rw [e1]; simp)), ← hg, hs']
        · cases hx
      · cases hx
  · cases hx

theorem rows_splice {off : Nat} {new cs cs' : List C} (h : splice off new cs = some cs') : ∀ n ∈ rowsIn new, n ∈ rowsIn cs' := by
  obtain ⟨_, rfl⟩ := splice_some h
  intro n hn
  simp only [rowsIn_append, List.mem_append]
  exact .inl (.inr hn)

theorem storeRow_seen {s : St} {h0 : Nat → B} {sz off j n : Nat} {new : List C} {r : St} (hx : storeRow s h0 sz off j n new some = some r) : (∀ k ∈ rowsIn new, h0 k ≠ .gone) ∧ r.t = s.t ∧ ∀ k, k ≠ n → r.h k = h0 k := by
  unfold storeRow at hx
  split at hx
  · rename_i e u xs e1
    cases hb : Nat.beq sz u.n with
    | false => rw [hb] at hx; cases hx
    | true =>
      rw [hb] at hx
      simp only [cond_true] at hx
      obtain ⟨y, hy, hx⟩ := Option.bind_eq_some_iff.1 hx
      split at hx
      · rename_i cs e2
        split at hx
        · rename_i z e3
          injection hx with hx; subst hx
          exact ⟨fun k hk => datum_seen e3 k (rows_splice e2 k hk), rfl, fun k hk => upd_ne _ _ hk⟩
        · cases hx
      · cases hx
  · cases hx

theorem store_frame (l : LeH b st.h st'.h) {i : TI} {a : C} {w : V} {r : St} (hx : store false st i a w some = some r) : store false st' i a w some = some ⟨st'.t, merge b r.h st'.h⟩ := by
  unfold store at hx ⊢
  split at hx
  · cases hx
  · rename_i new e0
    cases hb : Nat.beq new.length i.size with
    | false => rw [hb] at hx; cases hx
    | true =>
      rw [hb] at hx
      simp only [cond_true] at hx ⊢
      split at hx
      · rename_i n j sz off
        try simp only
        split at hx
        · rename_i t cs e
          rw [l.at e (by simp)]
          try simp only
          split at hx
          · rename_i cs' e2
            injection hx with hx; subst hx
            simp only [e2]
            rw [merge_upd (l.seen (by rw [e]; simp)), l.merge]
          · cases hx
        · rename_i e u xs e1
          rw [l.at e1 (by simp)]
          try simp only
          have hs := (storeRow_seen hx).1
          refine storeRow_frame (t := st.t) rfl rfl (l.freezeAll _) ?_ hx
          rw [← merge_freezeAll _ _ fun k hk => l.seen fun hg => hs k hk (freezeAll_gone _ hg), l.merge]
        · rename_i e o xs e1
          rw [l.at e1 (by simp)]
          try simp only
          split at hx
          · rename_i c hq
            obtain ⟨y, hy, hx⟩ := Option.bind_eq_some_iff.1 hx
            try simp only [hq]
            rw [hy]
            simp only [Option.bind_some]
            split at hx
            · rename_i z hz
              injection hx with hx; subst hx
              simp only [hz]
              rw [merge_upd (l.seen (by rw [e1]; simp)), l.merge]
            · simp only [Bool.false_and, cond_false] at hx; cases hx
          · cases hx
        · rename_i e o xs k cs e1
          rw [l.at e1 (by simp)]
          try simp only
          obtain ⟨hq, hx⟩ := cond_true_of hx
          rw [hq]
          simp only [cond_true]
          split at hx
          · rename_i cs' e2
            injection hx with hx; subst hx
            simp only [e2]
            rw [merge_upd (l.seen (by rw [e1]; simp)), l.merge]
          · cases hx
        · cases hx
      · cases hx

theorem LeH.news {b : Nat → Bool} {h h' : Nat → B} (l : LeH b h h') {u : U} {c : C} {x : List (El u)} (hx : R1.news h u c = some x) : R1.news h' u c = some x := by
  cases c with
  | row n =>
    simp only [R1.news] at hx ⊢
    have hn : h n ≠ .gone := by intro e; rw [e] at hx; simp only [R1.dataSl, e] at hx; cases hx
    rw [l.same hn]
    cases e : h n with
    | own => rw [e] at hx; cases hx
    | _ => rw [e] at hx; exact l.dataSl hx
  | _ => simp only [R1.news] at hx ⊢; exact l.dataSl hx

theorem append_frame (l : LeH b st.h st'.h) {dst e : Nat} {ie : TI} {c x : C} (hx : append st dst e ie c x (fun v s => some (v, s)) = some (v, s1)) : append st' dst e ie c x (fun v s => some (v, s)) = some (v, ⟨st'.t, merge b s1.h st'.h⟩) := by
  unfold append at hx ⊢
  split at hx
  · split at hx
    · rename_i l2 e2
      simp only [l.news e2]
      obtain ⟨h1, hx⟩ := cond_true_of hx
      rw [h1]
      exact newRow_frame (t := st.t) (h0 := st.h) l l.merge.symm hx
    · cases hx
  · rename_i n
    try simp only
    split at hx
    · rename_i e' u xs e1
      rw [l.at e1 (by simp)]
      try simp only
      split at hx
      · rename_i h1 h2
        try simp only [h1, h2]
        split at hx
        · rename_i l2 e3
          simp only [l.news e3]
          obtain ⟨h4, hx⟩ := cond_true_of hx
          rw [h4]
          have hn := l.seen (n := n) (by rw [e1]; simp)
          refine newRow_frame (t := st.t) (h0 := upd st.h n .gone) ⟨fun k hk => ?_, fun k hk => ?_⟩ ?_ hx
          · by_cases q : k = n
            · subst q; rw [upd_same, upd_same]
            · rw [upd_ne _ _ q, upd_ne _ _ q]; exact l.out k hk
          · by_cases q : k = n
            · subst q; rw [upd_same]
            · rw [upd_ne _ _ q]; exact l.gone k hk
          · rw [merge_upd hn, l.merge]
        · cases hx
      · cases hx
    · cases hx
  · cases hx

theorem append_touch {dst e : Nat} {ie : TI} {c x : C} (hx : append st dst e ie c x (fun v s => some (v, s)) = some (v, s1)) : s1.t = st.t ∧ ∀ k, k ≠ dst → (∀ n, c = .row n → k ≠ n) → s1.h k = st.h k := by
  unfold append at hx
  split at hx
  · split at hx
    · obtain ⟨h1, hx⟩ := cond_true_of hx
      obtain ⟨h2, h3⟩ := newRow_touch (t := st.t) (g := st.h) hx
      exact ⟨h2, fun k hk _ => h3 k hk⟩
    · cases hx
  · rename_i n
    split at hx
    · split at hx
      · split at hx
        · obtain ⟨h4, hx⟩ := cond_true_of hx
          obtain ⟨h2, h3⟩ := newRow_touch (t := st.t) (g := upd st.h n .gone) hx
          exact ⟨h2, fun k hk hn => by rw [h3 k hk, upd_ne _ _ (hn n rfl)]⟩
        · cases hx
      · cases hx
    · cases hx
  · cases hx

theorem clear_frame (l : LeH b st.h st'.h) {cfg : Cfg} {i : TI} {x : C} (hx : clearOp cfg st i x (fun v s => some (v, s)) = some (v, s1)) : clearOp cfg st' i x (fun v s => some (v, s)) = some (v, ⟨st'.t, merge b s1.h st'.h⟩) := by
  unfold clearOp at hx ⊢
  split at hx
  · rename_i e n j sz ek
    try simp only [ek]
    split at hx
    · rename_i ie e' u xs e1 e2
      simp only [e1, l.at e2 (by simp)]
      split at hx
      · rename_i h1 h2 h3
        try simp only [h1, h2, h3]
        split at hx
        · rename_i z e3
          simp only [l.datum e3]
          injection hx with hx; injection hx with hx1 hx2; subst hx1; subst hx2
          rw [merge_upd (l.seen (by rw [e2]; simp)), l.merge]
        · cases hx
      · cases hx
    · cases hx
  · cases hx

theorem clear_touch {cfg : Cfg} {i : TI} {x : C} (hx : clearOp cfg st i x (fun v s => some (v, s)) = some (v, s1)) : s1.t = st.t ∧ ∀ k, (∀ n j sz, x = .tail n j sz → k ≠ n) → s1.h k = st.h k := by
  unfold clearOp at hx
  split at hx
  · rename_i e n j sz ek
    split at hx
    · split at hx
      · split at hx
        · injection hx with hx; injection hx with hx1 hx2; subst hx1; subst hx2
          exact ⟨rfl, fun k hk => upd_ne _ _ (hk n j sz rfl)⟩
        · cases hx
      · cases hx
    · cases hx
  · cases hx

theorem lenOf_frame (l : LeH b st.h st'.h) {i : TI} {x : C} {n : Int} (hx : lenOf st i x = some n) : lenOf st' i x = some n := by
  unfold lenOf at hx ⊢
  split at hx
  all_goals (rename_i ek; try simp only [ek])
  all_goals first
    | exact hx
    | (split at hx
       · rename_i e; (try simp only [l.at e (by simp)]); exact hx
       · rename_i e; (try simp only [l.at e (by simp)]); exact hx
       · rename_i e; (try simp only [l.at e (by simp)]); exact hx
       · rename_i e; (try simp only [l.at e (by simp)]); exact hx
       · cases hx)
    | (split at hx
       · rename_i e; (try simp only [l.at e (by simp)]); exact hx
       · cases hx)
    | cases hx

theorem index_frame (l : LeH b st.h st'.h) {i : TI} {esz : Nat} {x c : C} {j : Int} (hx : indexAddr st i esz x j some = some c) : indexAddr st' i esz x j some = some c := by
  unfold indexAddr at hx ⊢
  split at hx
  · rename_i ek; (try simp only [ek]); exact hx
  · rename_i ek
    try simp only [ek]
    split at hx
    · rename_i e; (try simp only [l.at e (by simp)]); exact hx
    · rename_i e; (try simp only [l.at e (by simp)]); exact hx
    · rename_i e; (try simp only [l.at e (by simp)]); exact hx
    · rename_i e; (try simp only [l.at e (by simp)]); exact hx
    · cases hx
  · rename_i ek
    try simp only [ek]
    split at hx
    · rename_i e; (try simp only [l.at e (by simp)]); exact hx
    · cases hx
  · rename_i ek; (try simp only [ek]); exact hx
  · rename_i ek
    try simp only [ek]
    split at hx
    · rename_i e; (try simp only [l.at e (by simp)]); exact hx
    · rename_i e; (try simp only [l.at e (by simp)]); exact hx
    · rename_i e; (try simp only [l.at e (by simp)]); exact hx
    · cases hx
  · cases hx

theorem tail_frame (l : LeH b st.h st'.h) {i : TI} {esz : Nat} {x c : C} {lo hi : Option Int} (hx : tailOp st i esz x lo hi some = some c) : tailOp st' i esz x lo hi some = some c := by
  unfold tailOp at hx ⊢
  split at hx
  · rename_i ek
    try simp only [ek]
    split at hx
    · rename_i e; (try simp only [l.at e (by simp)]); exact hx
    · cases hx
  · cases hx

theorem upd_gone_frame (l : LeH b st.h st'.h) {n : Nat} {x : B} (hn : b n = false) : LeH b (upd st.h n x) (upd st'.h n x) := by
  refine ⟨fun k hk => ?_, fun k hk => ?_⟩
  · by_cases q : k = n
    · subst q; rw [upd_same, upd_same]
    · rw [upd_ne _ _ q, upd_ne _ _ q]; exact l.out k hk
  · by_cases q : k = n
    · subst q; rw [hn] at hk; cases hk
    · rw [upd_ne _ _ q]; exact l.gone k hk

theorem slice_frame (l : LeH b st.h st'.h) {i : TI} {esz : Nat} {tr : Bool} {dst : Nat} {x : C} {lo hi : Option Int} (hx : sliceOp st i esz tr dst x lo hi (fun v s => some (v, s)) = some (v, s1)) :
    sliceOp st' i esz tr dst x lo hi (fun v s => some (v, s)) = some (v, ⟨st'.t, merge b s1.h st'.h⟩) := by
  have self : (⟨st'.t, merge b st.h st'.h⟩ : St) = st' := by rw [l.merge]
  unfold sliceOp at hx ⊢
  split at hx
  · rename_i ek
    try simp only [ek]
    obtain ⟨h1, hx⟩ := cond_true_of hx
    rw [h1]
    injection hx with hx; injection hx with hx1 hx2; subst hx1; subst hx2
    rw [self]; rfl
  · rename_i ek
    try simp only [ek]
    split at hx
    · rename_i hb
      try simp only [hb]
      obtain ⟨h1, hx⟩ := cond_true_of hx
      rw [h1]
      injection hx with hx; injection hx with hx1 hx2; subst hx1; subst hx2
      rw [self]; rfl
    · cases hx
  · rename_i el n ek
    try simp only [ek]
    split at hx
    · rename_i e u xs e1
      simp only [l.at e1 (by simp)]
      have hn := l.seen (n := n) (by rw [e1]; simp)
      split at hx
      · rename_i hb
        try simp only [hb]
        cases tr with
        | true =>
          simp only [cond_true] at hx ⊢
          split at hx
          · obtain ⟨h1, hx⟩ := cond_true_of hx
            simp only [h1, cond_true]
            exact newRow_frame (t := st.t) (upd_gone_frame l hn) (by rw [merge_upd hn, l.merge]) hx
          · cases hx
        | false =>
          simp only [cond_false] at hx ⊢
          obtain ⟨h1, hx⟩ := cond_true_of hx
          rw [h1]
          injection hx with hx; injection hx with hx1 hx2; subst hx1; subst hx2
          simp only [cond_true]
          rw [merge_upd hn, l.merge]
      · cases hx
    · rename_i e u xs e1
      simp only [l.at e1 (by simp)]
      split at hx
      · rename_i hb
        try simp only [hb]
        obtain ⟨h1, hx⟩ := cond_true_of hx
        rw [h1]
        injection hx with hx; injection hx with hx1 hx2; subst hx1; subst hx2
        rw [self]; rfl
      · cases hx
    · cases hx
  · cases hx

theorem slice_touch {i : TI} {esz : Nat} {tr : Bool} {dst : Nat} {x : C} {lo hi : Option Int} (hx : sliceOp st i esz tr dst x lo hi (fun v s => some (v, s)) = some (v, s1)) :
    s1.t = st.t ∧ ∀ k, k ∉ (match x with | .row n => (match st.h n with | .row .. => (match tr with | true => [n, dst] | false => [n]) | _ => []) | _ => []) → s1.h k = st.h k := by
  unfold sliceOp at hx
  split at hx
  · obtain ⟨h1, hx⟩ := cond_true_of hx
    injection hx with hx; injection hx with hx1 hx2; subst hx1; subst hx2
    exact ⟨rfl, fun _ _ => rfl⟩
  · split at hx
    · obtain ⟨h1, hx⟩ := cond_true_of hx
      injection hx with hx; injection hx with hx1 hx2; subst hx1; subst hx2
      exact ⟨rfl, fun _ _ => rfl⟩
    · cases hx
  · rename_i el n ek
    try simp only
    split at hx
    · rename_i e u xs e1
      simp only [e1]
      split at hx
      · cases tr with
        | true =>
          simp only [cond_true] at hx
          split at hx
          · obtain ⟨h1, hx⟩ := cond_true_of hx
            obtain ⟨h2, h3⟩ := newRow_touch (t := st.t) hx
            refine ⟨h2, fun k hk => ?_⟩
            simp only [List.mem_cons, List.not_mem_nil, or_false, not_or] at hk
            rw [h3 k hk.2, upd_ne _ _ hk.1]
          · cases hx
        | false =>
          simp only [cond_false] at hx
          obtain ⟨h1, hx⟩ := cond_true_of hx
          injection hx with hx; injection hx with hx1 hx2; subst hx1; subst hx2
          refine ⟨rfl, fun k hk => ?_⟩
          simp only [List.mem_cons, List.not_mem_nil, or_false] at hk
          exact upd_ne _ _ hk
      · cases hx
    · split at hx
      · obtain ⟨h1, hx⟩ := cond_true_of hx
        injection hx with hx; injection hx with hx1 hx2; subst hx1; subst hx2
        exact ⟨rfl, fun _ _ => rfl⟩
      · cases hx
    · cases hx
  · cases hx
end
end Go.Proofs.YtkimeoknckohfaaDoor.R1
