/- Every operation: in a state of which less is known; and what it writes. -/
import Derived.Test.YtkimeoknckohfaaDoorR1FrameMap
namespace Go.Proofs.YtkimeoknckohfaaDoor.R1

section
variable {b : Nat → Bool} {cfg : Cfg} {st st' : St} {v : V} {s1 : St}

theorem pair_eq {α β : Type} {a a' : α} {x x' : β} (h : some (a, x) = some (a', x')) : a = a' ∧ x = x' := by injection h with h; injection h with h1 h2; exact ⟨h1, h2⟩

theorem bind_pair {α : Type} {x : Option α} {f : α → V} (h : x.bind (fun c => some (f c, st)) = some (v, s1)) : ∃ c, x = some c ∧ f c = v ∧ st = s1 := by
  obtain ⟨c, hc, h⟩ := Option.bind_eq_some_iff.1 h
  obtain ⟨h1, h2⟩ := pair_eq h
  exact ⟨c, hc, h1, h2⟩

theorem weak_row {c : C} {n : Nat} (h : c.weak = .row n) : c = .row n := by cases c <;> first | exact h | cases h

theorem conv_frame (l : LeH b st.h st'.h) {i j : TI} {c c' : C} (hx : conv cfg st i j c some = some c') : conv cfg st' i j c some = some c' := by
  have key : ∀ {c : C}, (match j.k, i.k with
      | .str, .sl e => match cfg.ty e with
        | some ie => match ie.k with
          | .int .u8 => match R1.dataSl st.h (.int .u8) c with
            | some l => some (C.str (bytesStr l))
            | none => none
          | _ => none
        | none => none
      | _, _ => none) = some c' → (match j.k, i.k with
      | .str, .sl e => match cfg.ty e with
        | some ie => match ie.k with
          | .int .u8 => match R1.dataSl st'.h (.int .u8) c with
            | some l => some (C.str (bytesStr l))
            | none => none
          | _ => none
        | none => none
      | _, _ => none) = some c' := by
    intro c hx
    split at hx
    · split at hx
      · split at hx
        · split at hx
          · rename_i xs hd
            rw [l.dataSl hd]; exact hx
          · cases hx
        · cases hx
      · cases hx
    · cases hx
  cases c <;> first | exact hx | exact key hx

/-- Nothing is laid open. -/
@[reducible] def Cfg.plain (cfg : Cfg) : Prop := cfg.opens = [] ∧ cfg.whole = false

theorem evOp_frame (hp : cfg.plain) (l : Le b st st') (hes : cfg.fns = [] ∨ ∃ e, cfg.fns = [e]) {o : Oper} (ha : argsOk st o = true) (h : evOp cfg st o (fun v s => some (v, s)) = some (v, s1)) (hv : v.isBad = false) :
    evOp cfg st' o (fun v s => some (v, s)) = some (v, ⟨st'.t, merge b s1.h st'.h⟩) := by
  have self := l.self
  by_cases hf : ∃ f fs cs, o.op = .makeFunc f fs cs
  · obtain ⟨f, fs, cs, ho⟩ := hf
    cases f <;> simp only [evOp, ho] at h ⊢
    case func f =>
      split at h
      · rename_i c e1 e2
        obtain ⟨rfl, rfl⟩ := pair_eq h
        have hok : ∀ {vs : List V} {g c : C}, capAll g vs = some c → ∀ v ∈ vs, v.isBad = false := by
          intro vs
          induction vs with
          | nil => intro g c _ v hv; cases hv
          | cons x vs ih =>
            intro g c hc v hv
            cases x with
            | v w => cases w with
              | c y =>
                simp only [capAll] at hc
                rcases List.mem_cons.1 hv with rfl | hv
                · rfl
                · exact ih hc v hv
              | agg => cases hc
            | _ => cases hc
        rw [l.opnds rfl (hok e2)]
        try simp only [e1, e2, self]
      · cases h
    all_goals cases h
  by_cases hs : ∃ t x lo hi mx, o.op = .slice t x lo hi mx
  · obtain ⟨t, x, lo, hi, mx, ho⟩ := hs
    cases mx with
    | some m => simp only [evOp, ho] at h; cases h
    | none =>
      simp only [evOp, ho] at h ⊢
      split at h
      · rename_i e1 e2 e3 e4
        try simp only [e1, l.one e2, l.intOpt e3, l.intOpt e4]
        cases htl : cfg.tails.any (Nat.beq (Oper.name o)) with
        | true =>
          rw [htl] at h
          simp only [cond_true] at h ⊢
          rw [tailOp_nat] at h ⊢
          obtain ⟨c, hc, rfl, rfl⟩ := bind_pair h
          rw [tail_frame l.h hc, self]; rfl
        | false =>
          rw [htl] at h
          simp only [cond_false] at h ⊢
          exact slice_frame l.h h
      · cases h
  by_cases hmm : ∃ t x, o.op = .makeMap t x
  · obtain ⟨t, x, ho⟩ := hmm
    cases x with
    | some m => simp only [evOp, ho] at h; cases h
    | none =>
      simp only [evOp, ho] at h ⊢
      split at h
      · rename_i e1
        try simp only [e1]
        split at h
        · rename_i ek
          try simp only [ek]
          split at h
          · rename_i e2 e3
            try simp only [e2, e3]
            split at h
            · rename_i e4
              try simp only [e4]
              exact newBlock_frame (t := st.t) l.h l.h.merge.symm h
            · cases h
          · cases h
        · cases h
      · cases h
  cases ho : o.op <;> (try simp only [evOp, ho, hp.1, hp.2, List.any_nil, cond_false] at h ⊢)
  case move x => obtain ⟨rfl, rfl⟩ := pair_eq h; rw [l.opnd rfl hv, self]
  case assign x => obtain ⟨rfl, rfl⟩ := pair_eq h; rw [l.opnd rfl hv, self]
  case pick c x y =>
    split at h
    · rename_i t e
      simp only [l.opnd e rfl]
      cases t with
      | true => obtain ⟨rfl, rfl⟩ := pair_eq h; simp only [cond_true]; rw [l.opnd rfl hv, self]
      | false => obtain ⟨rfl, rfl⟩ := pair_eq h; simp only [cond_false]; rw [l.opnd rfl hv, self]
    · cases h
  case alloc t =>
    split at h
    · rename_i i e1
      try simp only [e1]
      split at h
      · rename_i n e ek
        try simp only [ek]
        split at h
        · rename_i ie e2
          try simp only [e2]
          split at h
          · rename_i xs e3
            simp only [l.h.dataList e3]
            obtain ⟨h1, h⟩ := cond_true_of h
            rw [h1]
            exact newRow_frame (t := st.t) l.h l.h.merge.symm h
          · cases h
        · cases h
      · rename_i hk
        obtain ⟨h1, h⟩ := cond_true_of h
        rw [h1]; exact newBlock_frame (t := st.t) l.h l.h.merge.symm h
    · cases h
  case box t x =>
    split at h
    · rename_i i cs e1 e2
      try simp only [e1, l.cells e2]
      split at h
      · rename_i n e ek
        try simp only [ek]
        split at h
        · rename_i ie e3
          try simp only [e3]
          split at h
          · rename_i xs e4
            simp only [l.h.dataList e4]
            obtain ⟨h1, h⟩ := cond_true_of h
            rw [h1]
            refine newRow_frame (t := st.t) (l.h.freezeAll _) ?_ h
            rw [← merge_freezeAll _ _ fun k hk => l.h.seen (dataList_seen e4 k hk), l.h.merge]
          · cases h
        · cases h
      · rename_i hk
        exact newBlock_frame (t := st.t) l.h l.h.merge.symm h
    · cases h
  case build t ps =>
    split at h
    · rename_i i e1
      try simp only [e1]
      split at h
      · rename_i fs ek
        try simp only [ek]
        split at h
        · rename_i cs e2 e3
          obtain ⟨rfl, rfl⟩ := pair_eq h
          rw [l.parts (fillParts_ok e2)]
          try simp only [e2, e3, self]
        · cases h
      · cases h
    · cases h
  case buildSlice t n ps =>
    split at h
    · rename_i i e1
      try simp only [e1]
      split at h
      · rename_i e ek
        try simp only [ek]
        split at h
        · rename_i ie e2
          try simp only [e2]
          split at h
          · rename_i sh esh
            try simp only [esh]
            split at h
            · rename_i xs ns e4
              obtain ⟨q1, q2, q3⟩ := l.h.ownList e4
              rw [l.parts q2]
              simp only [q1]
              split at h
              · rename_i e5 e6
                try simp only [e5, e6]
                obtain ⟨h1, h⟩ := cond_true_of h
                rw [h1]
                have hs : ∀ n ∈ ns, b n = false := fun n hn => l.h.seen (q3 n hn).1
                refine newOwn_frame (t := st.t) (l.h.goneL _ hs) ?_ h
                rw [← merge_goneL _ _ hs, l.h.merge]
              · cases h
            · cases h
          · rename_i esh
            try simp only [esh]
            split at h
            · rename_i z e3
              simp only [l.h.datum e3]
              split at h
              · rename_i xs e4
                obtain ⟨p1, p2⟩ := putParts_seen e4
                rw [l.parts p1]
                simp only [l.h.putParts e4]
                obtain ⟨h1, h⟩ := cond_true_of h
                rw [h1]
                refine newRow_frame (t := st.t) (l.h.freezeAll _) ?_ h
                rw [← merge_freezeAll _ _ fun k hk => l.h.seen (p2 k hk), l.h.merge]
              · cases h
            · cases h
        · cases h
      · cases h
    · cases h
  case load t x =>
    split at h
    · rename_i e1 e2
      try simp only [e1, l.one e2]
      rw [load_nat] at h ⊢
      obtain ⟨c, hc, rfl, rfl⟩ := bind_pair h
      rw [load_frame l.h hc, self]; rfl
    · cases h
  case store t x y =>
    split at h
    · rename_i i a e1 e2
      try simp only [e1, l.one e2]
      rw [store_nat] at h ⊢
      obtain ⟨r, hr, h⟩ := Option.bind_eq_some_iff.1 h
      obtain ⟨rfl, rfl⟩ := pair_eq h
      have hc : (opnd st y).isBad = false := by
        cases e : (opnd st y).cells with
        | none => unfold store at hr; rw [e] at hr; cases hr
        | some cs => exact cells_ok e
      rw [l.opnd rfl hc, store_frame l.h hr]; rfl
    · cases h
  case nilCheck x =>
    split at h
    · rename_i e; obtain ⟨rfl, rfl⟩ := pair_eq h; simp only [l.opnd e rfl, self]
    · rename_i e; obtain ⟨rfl, rfl⟩ := pair_eq h; simp only [l.opnd e rfl, self]
    · rename_i e; obtain ⟨rfl, rfl⟩ := pair_eq h; simp only [l.opnd e rfl, self]
    · rename_i e; obtain ⟨rfl, rfl⟩ := pair_eq h; simp only [l.opnd e rfl, self]
    · cases h
  case binOp op t x y t' =>
    rw [bin_nat] at h ⊢
    obtain ⟨c, hc, rfl, rfl⟩ := bind_pair h
    have hx : (opnd st x).isBad = false := by
      cases e : opnd st x with
      | bad => rw [e] at hc; simp only [bin] at hc; cases hc
      | _ => rfl
    have hy : (opnd st y).isBad = false := by
      cases e : opnd st y with
      | bad => rw [e] at hc; unfold bin at hc; split at hc <;> first | (rename_i q; cases q; done) | (rename_i q1 q2; cases q2; done) | cases hc
      | _ => rfl
    rw [l.opnd rfl hx, l.opnd rfl hy, hc, self]; rfl
  case unOp op t x =>
    rw [un_nat] at h ⊢
    obtain ⟨c, hc, rfl, rfl⟩ := bind_pair h
    have hx : (opnd st x).isBad = false := by
      cases e : opnd st x with
      | bad => rw [e] at hc; cases op <;> cases hc
      | _ => rfl
    rw [l.opnd rfl hx, hc, self]; rfl
  case convert s d x =>
    split at h
    · rename_i e1 e2 e3
      try simp only [e1, e2, l.opnd e3 rfl]
      rw [conv_nat] at h ⊢
      obtain ⟨c, hc, rfl, rfl⟩ := bind_pair h
      rw [conv_frame l.h hc, self]; rfl
    · cases h
  case fieldAddr s x f =>
    split at h
    · rename_i e1 e2
      try simp only [e1, l.one e2]
      split at h
      · rename_i ek
        try simp only [ek]
        split at h
        · rename_i e3; obtain ⟨rfl, rfl⟩ := pair_eq h; simp only [e3, self]
        · rename_i e3; obtain ⟨rfl, rfl⟩ := pair_eq h; simp only [e3, self]
        · cases h
      · cases h
    · cases h
  case field s x f =>
    split at h
    · rename_i e1 e2
      try simp only [e1, l.opnd e2 rfl]
      split at h
      · rename_i ek
        try simp only [ek]
        split at h
        · rename_i e3
          try simp only [e3]
          split at h
          · rename_i e4
            try simp only [e4]
            split at h
            · rename_i e5
              try simp only [e5]
              split at h
              · rename_i e6; obtain ⟨rfl, rfl⟩ := pair_eq h; simp only [e6, self]
              · cases h
            · cases h
          · cases h
        · cases h
      · cases h
    · cases h
  case indexAddr t x i =>
    split at h
    · rename_i e1 e2 e3
      try simp only [e1, l.one e2, l.opnd e3 rfl]
      split at h
      · rename_i eb
        simp only [box_frame l.h eb]
        split at h
        · rw [splitI_nat] at h ⊢
          obtain ⟨c, hc, rfl, rfl⟩ := bind_pair h
          rw [hc, self]; rfl
        · cases h
      · rename_i eb
        rw [indexAddr_nat] at h ⊢
        obtain ⟨c, hc, rfl, rfl⟩ := bind_pair h
        simp only [box_frame_none l.h eb hc]
        rw [indexAddr_nat, index_frame l.h hc, self]; rfl
    · cases h
  case index t x i =>
    split at h
    · rename_i e1 e2 e3
      try simp only [e1, l.opnd e2 rfl, l.opnd e3 rfl]
      split at h
      · rename_i ek
        try simp only [ek]
        obtain ⟨c, hc, rfl, rfl⟩ := bind_pair h
        rw [hc, self]; rfl
      · cases h
    · rename_i e1 e2 e3
      try simp only [e1, l.opnd e2 rfl, l.opnd e3 rfl]
      split at h
      · rename_i ek
        try simp only [ek]
        rw [splitI_nat] at h ⊢
        obtain ⟨q, hq, h⟩ := Option.bind_eq_some_iff.1 h
        rw [hq, Option.bind_some]
        split at h
        · rename_i ep
          obtain ⟨rfl, rfl⟩ := pair_eq h
          try simp only [ek] at ep
          try simp only [ep, self]
        · cases h
      · cases h
    · cases h
  case makeMap t x => exact absurd ⟨t, x, ho⟩ hmm
  case lookup t x y cm =>
    split at h
    · rename_i e1
      try simp only [e1]
      split at h
      · rename_i ek
        try simp only [ek]
        split at h
        · rename_i e2 e3
          try simp only [e2, e3]
          split at h
          · rename_i e4
            try simp only [e4]
            rw [lookupW_nat] at h ⊢
            obtain ⟨c, hc, h⟩ := Option.bind_eq_some_iff.1 h
            obtain ⟨rfl, rfl⟩ := pair_eq h
            rw [lookup_frame l hc, self]; rfl
          · cases h
        · cases h
      · cases h
    · cases h
  case mapEntry t x y =>
    split at h
    · rename_i e1
      try simp only [e1]
      split at h
      · rename_i ek
        try simp only [ek]
        split at h
        · rename_i e2 e3
          try simp only [e2, e3]
          split at h
          · rename_i e4
            try simp only [e4]
            exact entry_frame l h
          · cases h
        · cases h
      · cases h
    · cases h
  case entryStore t x y z =>
    split at h
    · rename_i e1
      try simp only [e1]
      split at h
      · rename_i ek
        try simp only [ek]
        split at h
        · rename_i e2
          try simp only [e2]
          rw [entrySetW_nat] at h ⊢
          obtain ⟨r, hr, h⟩ := Option.bind_eq_some_iff.1 h
          obtain ⟨rfl, rfl⟩ := pair_eq h
          rw [entryStore_frame l hr]; rfl
        · cases h
      · cases h
    · cases h
  case mapUpdate t x y z =>
    split at h
    · rename_i e1
      try simp only [e1]
      split at h
      · rename_i ek
        try simp only [ek]
        split at h
        · rename_i e2 e3
          try simp only [e2, e3]
          rw [updateW_nat] at h ⊢
          obtain ⟨r, hr, h⟩ := Option.bind_eq_some_iff.1 h
          obtain ⟨rfl, rfl⟩ := pair_eq h
          rw [update_frame l hr]; rfl
        · cases h
      · cases h
    · cases h
  case extract x i =>
    split at h
    · rename_i e1
      simp only [l.opnd e1 rfl]
      split at h
      · rename_i e2; obtain ⟨rfl, rfl⟩ := pair_eq h; simp only [e2, self]
      · cases h
    · cases h
  case makeFunc f fs cs => exact absurd ⟨f, fs, cs, ho⟩ hf
  case makeSlice t x c =>
    split at h
    · rename_i e1 e2 e3
      try simp only [e1, l.opnd e2 rfl, l.opnd e3 rfl]
      split at h
      · rename_i ek
        try simp only [ek]
        split at h
        · rename_i e4
          try simp only [e4]
          split at h
          · rename_i sh esh
            try simp only [esh]
            split at h
            · rename_i z e5
              simp only [(l.h.closeC e5).1]
              split at h
              · rename_i e6
                try simp only [e6]
                obtain ⟨h1, h⟩ := cond_true_of h
                rw [h1]
                exact newOwn_frame (t := st.t) l.h l.h.merge.symm h
              · cases h
            · cases h
          · rename_i esh
            try simp only [esh]
            split at h
            · rename_i e5
              simp only [l.h.datum e5]
              obtain ⟨h1, h⟩ := cond_true_of h
              rw [h1]
              exact newRow_frame (t := st.t) l.h l.h.merge.symm h
            · cases h
        · cases h
      · cases h
    · cases h
  case slice t x lo hi mx => exact absurd ⟨t, x, lo, hi, mx, ho⟩ hs
  case call c =>
    have hm : c.args.toList.map (opnd st') = c.args.toList.map (opnd st) := l.opnds rfl fun v hv => by
      obtain ⟨x, hx, rfl⟩ := List.mem_map.1 hv
      unfold argsOk at ha
      rw [ho] at ha
      simp only [List.all_eq_true, Bool.not_eq_true'] at ha
      exact ha x hx
    rw [hm]
    split at h
    · split at h
      · rename_i e1 e2
        try simp only [e1, e2]
        split at h
        · rename_i e3
          try simp only [e3]
          split at h
          · rename_i e4; obtain ⟨rfl, rfl⟩ := pair_eq h; simp only [lenOf_frame l.h e4, self]
          · cases h
        · cases h
      · cases h
    · split at h
      · rename_i e1 e2
        try simp only [e1, e2]
        split at h
        · rename_i e3 e4
          try simp only [e3, e4]
          split at h
          · rename_i ek
            try simp only [ek]
            split at h
            · rename_i e5
              try simp only [e5]
              split at h
              · rename_i e6; (try simp only [e6]); exact appendOwn_frame l.h h
              · rename_i e6; (try simp only [e6]); exact append_frame l.h h
            · cases h
          · cases h
        · cases h
      · cases h
    · split at h
      · rename_i x r e1
        try simp only [e1]
        split at h
        · rename_i e2
          obtain ⟨rfl, rfl⟩ := pair_eq h
          try simp only [e2, self]
        · cases h
      · cases h
    · split at h
      · rename_i x r e1
        try simp only [e1]
        split at h
        · rename_i e2
          obtain ⟨rfl, rfl⟩ := pair_eq h
          try simp only [e2, self]
        · cases h
      · cases h
    · split at h
      · rename_i e1 e2
        try simp only [e1, e2]
        split at h
        · rename_i e3; (try simp only [e3]); exact clear_frame l.h h
        · cases h
      · cases h
    · cases h
    · cases h
    · split at h
      · rename_i g e1
        simp only [l.one e1]
        split at h
        · rename_i n caps e2
          try simp only [e2]
          rcases hes with hes | ⟨e, hes⟩
          · rw [hes] at h; cases h
          · rw [hes] at h ⊢
            simp only [callIn] at h ⊢
            split at h
            · rename_i hid
              exact callEnt_frame l.h h
            · cases h
        · cases h
      · cases h
  all_goals cases h

theorem tail_state {i : TI} {esz : Nat} {x : C} {lo hi : Option Int} (h : tailOp st i esz x lo hi (fun c => some (V.v (.c c), st)) = some (v, s1)) : s1 = st := by
  rw [tailOp_nat] at h
  obtain ⟨c, hc, rfl, rfl⟩ := bind_pair h
  rfl

theorem callIn_touch {k : Nat} {dst f : Nat} {args : List V} {es : List Entry} (h : callIn k st dst f args (fun v s => some (v, s)) es = some (v, s1)) : s1.t = st.t ∧ ∀ n, n ∉ touchCall st dst f args es → s1.h n = st.h n := by
  obtain ⟨e, _, h1, h2, h3⟩ := callIn_one h
  rw [h3]
  exact callEnt_touch h1 h2

/-- What an operation does not name it leaves as it is. -/
theorem evOp_touch (hp : cfg.plain) {o : Oper} (h : evOp cfg st o (fun v s => some (v, s)) = some (v, s1)) : s1.t = st.t ∧ ∀ n, n ∉ touches cfg st o → s1.h n = st.h n := by
  have same : s1 = st → s1.t = st.t ∧ ∀ n, n ∉ touches cfg st o → s1.h n = st.h n := fun e => by subst e; exact ⟨rfl, fun _ _ => rfl⟩
  by_cases hf : ∃ f fs cs, o.op = .makeFunc f fs cs
  · obtain ⟨f, fs, cs, ho⟩ := hf
    cases f <;> simp only [evOp, ho] at h
    case func f =>
      split at h
      · exact same (pair_eq h).2.symm
      · cases h
    all_goals cases h
  by_cases hs : ∃ t x lo hi mx, o.op = .slice t x lo hi mx
  · obtain ⟨t, x, lo, hi, mx, ho⟩ := hs
    cases mx with
    | some m => simp only [evOp, ho] at h; cases h
    | none =>
      simp only [evOp, ho] at h
      split at h
      · rename_i e1 e2 e3 e4
        cases htl : cfg.tails.any (Nat.beq (Oper.name o)) with
        | true =>
          rw [htl] at h
          simp only [cond_true] at h
          exact same (tail_state h)
        | false =>
          rw [htl] at h
          simp only [cond_false] at h
          obtain ⟨h1, h2⟩ := slice_touch h
          refine ⟨h1, fun n hn => h2 n fun hm => hn ?_⟩
          simp only [touches, ho, htl, e2]
          split at hm
          · rename_i m ew
            rw [weak_row ew]
            exact hm
          · cases hm
      · cases h
  by_cases hmm : ∃ t x, o.op = .makeMap t x
  · obtain ⟨t, x, ho⟩ := hmm
    cases x with
    | some m => simp only [evOp, ho] at h; cases h
    | none =>
      simp only [evOp, ho] at h
      split at h
      · split at h
        · split at h
          · split at h
            · obtain ⟨h1, h2⟩ := newBlock_touch (t := st.t) (g := st.h) h
              exact ⟨h1, fun n hn => h2 n fun e => hn (by simp [touches, ho, e])⟩
            · cases h
          · cases h
        · cases h
      · cases h
  cases ho : o.op <;> (try simp only [evOp, ho, hp.1, hp.2, List.any_nil, cond_false] at h)
  case move x => exact same (pair_eq h).2.symm
  case assign x => exact same (pair_eq h).2.symm
  case pick c x y =>
    split at h
    · rename_i t e
      cases t with
      | true => exact same (pair_eq h).2.symm
      | false => exact same (pair_eq h).2.symm
    · cases h
  case alloc t =>
    have key : (∀ k, k ≠ Oper.name o → s1.h k = st.h k) → ∀ n, n ∉ touches cfg st o → s1.h n = st.h n := fun hk n hn => hk n fun e => hn (by simp [touches, ho, e])
    split at h
    · split at h
      · split at h
        · split at h
          · obtain ⟨_, h⟩ := cond_true_of h
            obtain ⟨h1, h2⟩ := newRow_touch (t := st.t) (g := st.h) h
            exact ⟨h1, key h2⟩
          · cases h
        · cases h
      · obtain ⟨_, h⟩ := cond_true_of h
        obtain ⟨h1, h2⟩ := newBlock_touch (t := st.t) (g := st.h) h
        exact ⟨h1, key h2⟩
    · cases h
  case box t x =>
    split at h
    · rename_i i cs e1 e2
      split at h
      · rename_i n e ek
        split at h
        · split at h
          · obtain ⟨_, h⟩ := cond_true_of h
            obtain ⟨h1, h2⟩ := newRow_touch (t := st.t) h
            refine ⟨h1, fun n hn => ?_⟩
            simp only [touches, ho, e1, e2, ek, List.mem_cons, not_or] at hn
            rw [h2 n hn.1]; exact freezeAll_out _ _ _ hn.2
          · cases h
        · cases h
      · obtain ⟨h1, h2⟩ := newBlock_touch (t := st.t) (g := st.h) h
        refine ⟨h1, fun n hn => h2 n fun e => hn (by simp [touches, ho, e])⟩
    · cases h
  case build t ps =>
    split at h
    · split at h
      · split at h
        · exact same (pair_eq h).2.symm
        · cases h
      · cases h
    · cases h
  case buildSlice t n ps =>
    split at h
    · split at h
      · split at h
        · split at h
          · split at h
            · rename_i e4
              have l0 : LeH (fun _ => false) st.h st.h := ⟨fun _ _ => rfl, fun _ h => by cases h⟩
              obtain ⟨_, _, q3⟩ := l0.ownList e4
              split at h
              · obtain ⟨_, h⟩ := cond_true_of h
                obtain ⟨h1, h2⟩ := newOwn_touch (t := st.t) h
                refine ⟨h1, fun n hn => ?_⟩
                simp only [touches, ho, List.mem_cons, not_or] at hn
                rw [h2 n hn.1]; exact goneL_other _ fun hm => hn.2 (q3 n hm).2
              · cases h
            · cases h
          · split at h
            · split at h
              · obtain ⟨_, h⟩ := cond_true_of h
                obtain ⟨h1, h2⟩ := newRow_touch (t := st.t) h
                refine ⟨h1, fun n hn => ?_⟩
                simp only [touches, ho, List.mem_cons, not_or] at hn
                rw [h2 n hn.1]; exact freezeAll_out _ _ _ hn.2
              · cases h
            · cases h
        · cases h
      · cases h
    · cases h
  case load t x =>
    split at h
    · rw [load_nat] at h
      obtain ⟨c, hc, rfl, rfl⟩ := bind_pair h
      exact same rfl
    · cases h
  case store t x y =>
    split at h
    · rename_i i a e1 e2
      rw [store_nat] at h
      obtain ⟨r, hr, h⟩ := Option.bind_eq_some_iff.1 h
      obtain ⟨rfl, rfl⟩ := pair_eq h
      unfold store at hr
      split at hr
      · cases hr
      · rename_i new e0
        obtain ⟨_, hr⟩ := cond_true_of hr
        split at hr
        · rename_i n j sz off
          split at hr
          · split at hr
            · injection hr with hr; subst hr
              refine ⟨rfl, fun k hk => upd_ne _ _ fun e => hk (by simp [touches, ho, e2, e0, e])⟩
            · cases hr
          · rename_i e u xs e3
            obtain ⟨_, h1, h2⟩ := storeRow_seen hr
            refine ⟨h1, fun k hk => ?_⟩
            simp only [touches, ho, e2, e0, e3, List.mem_cons, not_or] at hk
            rw [h2 k hk.1]; exact freezeAll_out _ _ _ hk.2
          · split at hr
            · obtain ⟨y, _, hr⟩ := Option.bind_eq_some_iff.1 hr
              split at hr
              · injection hr with hr; subst hr
                refine ⟨rfl, fun k hk => upd_ne _ _ fun e => hk (by simp [touches, ho, e2, e0, e])⟩
              · simp only [Bool.false_and, cond_false] at hr; cases hr
            · cases hr
          · obtain ⟨_, hr⟩ := cond_true_of hr
            split at hr
            · injection hr with hr; subst hr
              refine ⟨rfl, fun k hk => upd_ne _ _ fun e => hk (by simp [touches, ho, e2, e0, e])⟩
            · cases hr
          · cases hr
        · cases hr
    · cases h
  case nilCheck x => split at h <;> first | exact same (pair_eq h).2.symm | cases h
  case binOp op t x y t' =>
    rw [bin_nat] at h
    obtain ⟨c, hc, rfl, rfl⟩ := bind_pair h
    exact same rfl
  case unOp op t x =>
    rw [un_nat] at h
    obtain ⟨c, hc, rfl, rfl⟩ := bind_pair h
    exact same rfl
  case convert s d x =>
    split at h
    · rw [conv_nat] at h
      obtain ⟨c, hc, rfl, rfl⟩ := bind_pair h
      exact same rfl
    · cases h
  case fieldAddr s x f =>
    split at h
    · split at h
      · split at h
        · exact same (pair_eq h).2.symm
        · exact same (pair_eq h).2.symm
        · cases h
      · cases h
    · cases h
  case field s x f =>
    split at h
    · split at h
      · split at h
        · split at h
          · split at h
            · split at h
              · exact same (pair_eq h).2.symm
              · cases h
            · cases h
          · cases h
        · cases h
      · cases h
    · cases h
  case indexAddr t x i =>
    split at h
    · split at h
      · split at h
        · rw [splitI_nat] at h
          obtain ⟨c, hc, rfl, rfl⟩ := bind_pair h
          exact same rfl
        · cases h
      · rw [indexAddr_nat] at h
        obtain ⟨c, hc, rfl, rfl⟩ := bind_pair h
        exact same rfl
    · cases h
  case index t x i =>
    split at h
    · split at h
      · obtain ⟨c, hc, rfl, rfl⟩ := bind_pair h
        exact same rfl
      · cases h
    · split at h
      · rw [splitI_nat] at h
        obtain ⟨q, hq, h⟩ := Option.bind_eq_some_iff.1 h
        split at h
        · exact same (pair_eq h).2.symm
        · cases h
      · cases h
    · cases h
  case makeMap t x => exact absurd ⟨t, x, ho⟩ hmm
  case lookup t x y cm =>
    split at h
    · split at h
      · split at h
        · split at h
          · rw [lookupW_nat] at h
            obtain ⟨c, hc, h⟩ := Option.bind_eq_some_iff.1 h
            exact same (pair_eq h).2.symm
          · cases h
        · cases h
      · cases h
    · cases h
  case mapEntry t x y =>
    split at h
    · split at h
      · split at h
        · split at h
          · obtain ⟨c, n, hx, h1, h2⟩ := entry_touch h
            exact ⟨h1, fun k hk => h2 k fun e => hk (by simp [touches, ho, hx, V.one, e])⟩
          · cases h
        · cases h
      · cases h
    · cases h
  case entryStore t x y z =>
    split at h
    · split at h
      · split at h
        · rw [entrySetW_nat] at h
          obtain ⟨r, hr, h⟩ := Option.bind_eq_some_iff.1 h
          obtain ⟨rfl, rfl⟩ := pair_eq h
          obtain ⟨c, n, hx, h1, h2⟩ := entryStore_touch hr
          exact ⟨h1, fun k hk => h2 k fun e => hk (by simp [touches, ho, hx, V.one, e])⟩
        · cases h
      · cases h
    · cases h
  case mapUpdate t x y z =>
    split at h
    · split at h
      · split at h
        · rw [updateW_nat] at h
          obtain ⟨r, hr, h⟩ := Option.bind_eq_some_iff.1 h
          obtain ⟨rfl, rfl⟩ := pair_eq h
          obtain ⟨c, n, hx, h1, h2⟩ := update_touch hr
          exact ⟨h1, fun k hk => h2 k fun e => hk (by simp [touches, ho, hx, V.one, e])⟩
        · cases h
      · cases h
    · cases h
  case extract x i =>
    split at h
    · split at h
      · exact same (pair_eq h).2.symm
      · cases h
    · cases h
  case makeFunc f fs cs => exact absurd ⟨f, fs, cs, ho⟩ hf
  case makeSlice t x c =>
    split at h
    · split at h
      · split at h
        · split at h
          · split at h
            · split at h
              · obtain ⟨_, h⟩ := cond_true_of h
                obtain ⟨h1, h2⟩ := newOwn_touch (t := st.t) (g := st.h) h
                exact ⟨h1, fun n hn => h2 n fun e => hn (by simp [touches, ho, e])⟩
              · cases h
            · cases h
          · split at h
            · obtain ⟨_, h⟩ := cond_true_of h
              obtain ⟨h1, h2⟩ := newRow_touch (t := st.t) (g := st.h) h
              exact ⟨h1, fun n hn => h2 n fun e => hn (by simp [touches, ho, e])⟩
            · cases h
        · cases h
      · cases h
    · cases h
  case slice t x lo hi mx => exact absurd ⟨t, x, lo, hi, mx, ho⟩ hs
  case call c =>
    split at h
    · split at h
      · split at h
        · split at h
          · exact same (pair_eq h).2.symm
          · cases h
        · cases h
      · cases h
    · rename_i hc
      split at h
      · rename_i s x t t' e1 e2
        split at h
        · split at h
          · split at h
            · split at h
              · rename_i esh
                obtain ⟨h1, h2⟩ := appendOwn_touch h
                refine ⟨h1, fun k hk => ?_⟩
                simp only [touches, ho, hc, e1, esh, rowsOf, W1.cells, List.append_nil, List.mem_cons, List.mem_append, not_or] at hk
                exact h2 k hk.1 hk.2.1 hk.2.2
              · rename_i esh
                obtain ⟨h1, h2⟩ := append_touch h
                refine ⟨h1, fun k hk => ?_⟩
                cases s with
                | row m =>
                  simp only [touches, ho, hc, e1, esh, List.mem_cons, List.not_mem_nil, or_false, not_or] at hk
                  exact h2 k hk.2 fun n hn => by injection hn with hn; subst hn; exact hk.1
                | _ =>
                  simp only [touches, ho, hc, e1, esh, List.mem_cons, List.not_mem_nil, or_false] at hk
                  exact h2 k hk fun n hn => by cases hn
            · cases h
          · cases h
        · cases h
      · cases h
    · split at h
      · split at h
        · exact same (pair_eq h).2.symm
        · cases h
      · cases h
    · split at h
      · split at h
        · exact same (pair_eq h).2.symm
        · cases h
      · cases h
    · rename_i hc
      split at h
      · rename_i x t e1 e2
        split at h
        · obtain ⟨h1, h2⟩ := clear_touch h
          refine ⟨h1, fun k hk => h2 k fun n j sz hx => ?_⟩
          subst hx
          simp only [touches, ho, hc, e1, List.mem_cons, List.not_mem_nil, or_false] at hk
          exact hk
        · cases h
      · cases h
    · cases h
    · cases h
    · rename_i f hc
      split at h
      · rename_i g e1
        split at h
        · rename_i n caps e2
          obtain ⟨h1, h2⟩ := callIn_touch h
          refine ⟨h1, fun k hk => h2 k ?_⟩
          simpa only [touches, ho, hc, e1, e2] using hk
        · cases h
      · cases h
  all_goals cases h

/-- One function of the table is enough. -/
theorem evOp_few {o : Oper} (h : evOp cfg st o (fun v s => some (v, s)) = some (v, s1)) :
    ∃ l : List Entry, (∀ e ∈ l, e ∈ cfg.fns) ∧ (l = [] ∨ ∃ e, l = [e]) ∧ evOp { cfg with fns := l } st o (fun v s => some (v, s)) = some (v, s1) := by
  by_cases hcall : ∃ c f, o.op = .call c ∧ c.callee = .value f
  · obtain ⟨c, f, ho, hc⟩ := hcall
    simp only [evOp, ho, hc] at h
    split at h
    · rename_i g e1
      split at h
      · rename_i n caps e2
        obtain ⟨e, he, h1, h2, _⟩ := callIn_one h
        refine ⟨[e], fun x hx => by rw [List.mem_singleton.1 hx]; exact he, .inr ⟨e, rfl⟩, ?_⟩
        simp only [evOp, ho, hc, e1, e2, callIn, h1]
        exact h2
      · cases h
    · cases h
  · refine ⟨[], fun x hx => by (cases hx), .inl rfl, ?_⟩
    rw [← h]
    cases ho : o.op with
    | call c =>
      cases hc : c.callee with
      | value f => exact absurd ⟨c, f, ho, hc⟩ hcall
      | builtin bb => cases bb <;> first | (simp only [evOp, ho, hc]; done) | (simp only [evOp, ho, hc]; rfl)
      | invoke x n => simp only [evOp, ho, hc]
    | slice t x lo hi mx => cases mx <;> simp only [evOp, ho] <;> rfl
    | makeFunc f fs cs => cases f <;> simp only [evOp, ho]
    | makeMap t x => cases x <;> simp only [evOp, ho] <;> rfl
    | _ => first | (simp only [evOp, ho]; done) | (simp only [evOp, ho]; rfl)
end
end Go.Proofs.YtkimeoknckohfaaDoor.R1
