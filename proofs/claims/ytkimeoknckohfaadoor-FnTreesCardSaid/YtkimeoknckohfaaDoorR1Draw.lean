/- A region whose order is drawn. -/
import Derived.Test.YtkimeoknckohfaaDoorR1Any
namespace Go.Proofs.YtkimeoknckohfaaDoor.R1
variable {P : Program} {ρ : Type}

theorem upd_same_val {α : Type} {f : Nat → α} {d : Nat} {x : α} (h : f d = x) : upd f d x = f := by
  funext n
  by_cases e : n = d
  · subst e; rw [upd_same, h]
  · rw [upd_ne _ _ e]

section
variable {cfg : Cfg} {ops : List Oper} {bs : List (List Nat)} {tch : List (Nat × List Nat)} {s : St}

theorem stX_next (R : Reg ops bs tch) {v : Nat → V} {ran : Nat → Bool} {hv : Nat → Nat → B} {i : Nat} {o : Oper} (ho : ops[i]? = some o) {vi : V} {b : Bool} {h : Nat → B} :
    stX ops tch s (upd v i vi) (upd ran i b) (upd hv i h) (fun j => j < i + 1) (i + 1) =
      ⟨match o.dst with | some d => upd (stX ops tch s v ran hv (fun j => j < i) i).t d vi | none => (stX ops tch s v ran hv (fun j => j < i) i).t,
        fun n => bif b && mayW tch o i n then h n else (stX ops tch s v ran hv (fun j => j < i) i).h n⟩ := by
  have eX : (fun j => j < i + 1) = fun j => j < i ∨ j = i := by funext j; exact propext ⟨fun h => by omega, fun h => by omega⟩
  have e0 := stX_congr (s := s) (v := v) (v' := upd v i vi) (ran := ran) (ran' := upd ran i b) (hv := hv) (hv' := upd hv i h) R (i := i) fun j hj => ⟨(upd_ne _ _ (by omega)).symm, (upd_ne _ _ (by omega)).symm, (upd_ne _ _ (by omega)).symm⟩
  unfold stX at e0 ⊢
  injection e0 with e1 e2
  simp only [St.mk.injEq]
  refine ⟨?_, ?_⟩
  · rw [eX, tX_put R ho, ← e1, upd_same]
    cases o.dst <;> rfl
  · funext n
    have e3 : hA ops tch s.h (upd ran i b) (upd hv i h) (fun j => j < i + 1) n i = hA ops tch s.h ran hv (fun j => j < i) n i := by
      rw [congrFun e2 n]
      exact hA_congr fun j hj => ⟨⟨fun ⟨_, b, c⟩ => ⟨hj, b, c⟩, fun ⟨a, b, c⟩ => ⟨by omega, b, c⟩⟩, fun _ _ => rfl⟩
    rw [hA_succ, e3, upd_same, upd_same]
    by_cases hw : mayW tch o i n = true
    · have hW : Wr ops tch i n := ⟨o, ho, hw⟩
      cases b with
      | true => rw [if_pos ⟨by omega, rfl, hW⟩, hw]; rfl
      | false => rw [if_neg fun q => by cases q.2.1]; rfl
    · have hW : ¬ Wr ops tch i n := fun ⟨p, hp, hpw⟩ => by rw [ho] at hp; injection hp with hp; subst hp; exact hw hpw
      rw [if_neg fun q => hW q.2.2]
      simp only [Bool.not_eq_true] at hw
      rw [hw, Bool.and_false]; rfl

theorem dr_facts (hp : cfg.plain) (R : Reg ops bs tch) {κ : St → Option ρ} {r : ρ} : ∀ (rest : List Oper) (i : Nat), rest = ops.drop i → i ≤ ops.length → ∀ (v : Nat → V) (ran : Nat → Bool) (hv : Nat → Nat → B), (∀ j, j < i → ∃ o, Fact cfg ops bs tch s v ran hv j o) →
    evDr cfg bs tch ops i rest (stX ops tch s v ran hv (fun j => j < i) i) κ = some r →
    ∃ v' ran' hv', (∀ j, j < ops.length → ∃ o, Fact cfg ops bs tch s v' ran' hv' j o) ∧ κ (stX ops tch s v' ran' hv' (fun j => j < ops.length) ops.length) = some r := by
  intro rest
  induction rest with
  | nil =>
    intro i hrest his v ran hv F h
    have hi : i = ops.length := by
      have : (ops.drop i).length = 0 := by rw [← hrest]; rfl
      simp at this; omega
    subst hi
    exact ⟨v, ran, hv, F, h⟩
  | cons o rest ih =>
    intro i hrest his v ran hv F h
    have ho : ops[i]? = some o := by
      have : (ops.drop i)[0]? = some o := by rw [← hrest]; rfl
      simpa using this
    have hlt : i < ops.length := (List.getElem?_eq_some_iff.1 ho).1
    have hrest' : rest = ops.drop (i + 1) := by
      have : (ops.drop i).tail = rest := by rw [← hrest]; rfl
      rw [← this]; simp
    have hR : ∀ vi b hh, Rst ops bs tch s (upd v i vi) (upd ran i b) (upd hv i hh) i = restr bs tch ops i (stX ops tch s v ran hv (fun j => j < i) i) := by
      intro vi b hh
      unfold Rst
      rw [← stX_congr R fun j hj => ⟨(upd_ne v vi (by omega : j ≠ i)).symm, (upd_ne ran b (by omega : j ≠ i)).symm, (upd_ne hv hh (by omega : j ≠ i)).symm⟩]
    have go : ∀ (vi : V) (b : Bool) (hh : Nat → B) (st2 : St), st2.t = (stX ops tch s v ran hv (fun j => j < i) i).t → (∀ n, st2.h n = bif b && mayW tch o i n then hh n else (stX ops tch s v ran hv (fun j => j < i) i).h n) →
        ((∀ d, o.dst = some d → d < cfg.n) → Fact cfg ops bs tch s (upd v i vi) (upd ran i b) (upd hv i hh) i o) → (put cfg st2 o.dst vi fun st => evDr cfg bs tch ops (i + 1) rest st κ) = some r →
        ∃ v' ran' hv', (∀ j, j < ops.length → ∃ o, Fact cfg ops bs tch s v' ran' hv' j o) ∧ κ (stX ops tch s v' ran' hv' (fun j => j < ops.length) ops.length) = some r := by
      intro vi b hh st2 ht hhh hf hp
      have hd : (∀ d, o.dst = some d → d < cfg.n) ∧ evDr cfg bs tch ops (i + 1) rest ⟨match o.dst with | some d => upd st2.t d vi | none => st2.t, st2.h⟩ κ = some r := by
        cases e : o.dst with
        | none => rw [e] at hp; exact ⟨fun d h => (by cases h), hp⟩
        | some d =>
          rw [e] at hp
          simp only [put] at hp
          split at hp
          · rename_i hdn
            exact ⟨fun d' h => by injection h with h; subst h; rwa [Nat.blt_eq] at hdn, hp⟩
          · cases hp
      refine ih (i + 1) hrest' (by omega) (upd v i vi) (upd ran i b) (upd hv i hh) (fun j hj => ?_) ?_
      · by_cases e : j = i
        · subst e; exact ⟨o, hf hd.1⟩
        · obtain ⟨p, fp⟩ := F j (by omega)
          exact ⟨p, fp.congr R fun l hl => ⟨(upd_ne _ _ (by omega)).symm, (upd_ne _ _ (by omega)).symm, (upd_ne _ _ (by omega)).symm⟩⟩
      · rw [stX_next R ho]
        have e4 : (⟨match o.dst with | some d => upd (stX ops tch s v ran hv (fun j => j < i) i).t d vi | none => (stX ops tch s v ran hv (fun j => j < i) i).t, fun n => bif b && mayW tch o i n then hh n else (stX ops tch s v ran hv (fun j => j < i) i).h n⟩ : St) = ⟨match o.dst with | some d => upd st2.t d vi | none => st2.t, st2.h⟩ := by
          rw [ht]
          congr 1
          funext n; exact (hhh n).symm
        rw [e4]; exact hd.2
    generalize hst : stX ops tch s v ran hv (fun j => j < i) i = st at h go hR
    have run_ : (∀ vi, Runs bs ops (upd v i vi) i o) → (evOp cfg (restr bs tch ops i st) o fun v st' => match V.isBad v, argsOk (restr bs tch ops i st) o && (touches cfg (restr bs tch ops i st) o).all (mayW tch o i) with
        | false, true => put cfg ⟨st.t, fun n => bif mayW tch o i n then st'.h n else st.h n⟩ o.dst v fun st => evDr cfg bs tch ops (i + 1) rest st κ
        | _, _ => none) = some r → ∃ v' ran' hv', (∀ j, j < ops.length → ∃ o, Fact cfg ops bs tch s v' ran' hv' j o) ∧ κ (stX ops tch s v' ran' hv' (fun j => j < ops.length) ops.length) = some r := by
      intro hruns h
      obtain ⟨vi, r1, h1, h2⟩ := evOp_det h
      split at h2
      · rename_i q1 q2
        simp only [Bool.and_eq_true, List.all_eq_true] at q2
        obtain ⟨t1, t2⟩ := evOp_touch hp h1
        obtain ⟨l, l1, l2, l3⟩ := evOp_few h1
        refine go vi true r1.h ⟨st.t, fun n => bif mayW tch o i n then r1.h n else st.h n⟩ rfl (fun n => by rw [Bool.true_and]) (fun hd => ⟨ho, hd, .inl ⟨upd_same _ _ _, hruns vi, l, r1, l1, l2, ?_, ?_, ?_, ?_, ?_⟩⟩) h2
        · rw [hR, upd_same]; exact l3
        · rw [upd_same]; exact q1
        · rw [hR]; exact q2.1
        · intro n hn
          rw [hR]
          exact t2 n fun hm => hn ⟨o, ho, q2.2 n hm⟩
        · intro n _; rw [upd_same]
      · cases h2
    have skip_ : (∀ vi, Skips bs ops (upd v i vi) i o) → (put cfg st o.dst .und fun st => evDr cfg bs tch ops (i + 1) rest st κ) = some r → ∃ v' ran' hv', (∀ j, j < ops.length → ∃ o, Fact cfg ops bs tch s v' ran' hv' j o) ∧ κ (stX ops tch s v' ran' hv' (fun j => j < ops.length) ops.length) = some r := by
      intro hs h
      exact go .und false (fun _ => .free) st rfl (fun n => by rw [Bool.false_and]; rfl) (fun hd => ⟨ho, hd, .inr ⟨upd_same _ _ _, hs _, upd_same _ _ _⟩⟩) h
    simp only [evDr] at h
    split at h
    · rename_i eg
      exact run_ (fun _ => .inl eg) h
    · rename_i q want eg
      split at h
      case h_2 => cases h
      rename_i d ed hb
      have hb := any_beq.1 hb
      have hqi := bef_lt R.good R.back _ _ hb
      have htq : st.t d = v q := by rw [← hst]; exact tX_of R (X := fun j => j < i) hqi ed
      have hvq : ∀ vi, upd v i vi q = v q := fun vi => upd_ne _ _ (by omega)
      split at h
      · rename_i b eb
        cases b with
        | true =>
          simp only [cond_true, upd_same_val eb] at h
          cases want with
          | true => exact run_ (fun vi => .inr ⟨q, true, d, eg, ed, hb, by rw [hvq, ← htq]; exact eb⟩) h
          | false => exact skip_ (fun vi => ⟨q, false, d, eg, ed, hb, .inr ⟨true, by rw [hvq, ← htq]; exact eb, by simp⟩⟩) h
        | false =>
          simp only [cond_false, upd_same_val eb] at h
          cases want with
          | true => exact skip_ (fun vi => ⟨q, true, d, eg, ed, hb, .inr ⟨false, by rw [hvq, ← htq]; exact eb, by simp⟩⟩) h
          | false => exact run_ (fun vi => .inr ⟨q, false, d, eg, ed, hb, by rw [hvq, ← htq]; exact eb⟩) h
      · rename_i eb
        exact skip_ (fun vi => ⟨q, want, d, eg, ed, hb, .inl (by rw [hvq, ← htq]; exact eb)⟩) h
      · cases h
end

theorem RelP.drawn {cx : Cx} {nt : Nat} {φ : Nat → Value} {S : Nat → Prop} {st : St} {a : Act} {w : World} (m : RelP cx nt φ S st a w) (n : Nat) : RelP cx nt φ S st a { w with drawn := n } := by
  refine ⟨fun i => RelV.mono (w := w) (w' := { w with drawn := n }) (fun _ h => h) (fun _ _ => rfl) (fun _ h => ⟨h, rfl⟩) (m.t i), ⟨fun i => ?_, m.m.apart, m.m.sep, m.m.inS, m.m.lt, m.m.glob, m.m.gl, m.m.kp, ⟨m.m.keep.os, m.m.keep.tape, m.m.keep.output, m.m.keep.size, m.m.keep.block⟩⟩, m.size, m.defers⟩
  exact RelB.mono (w := w) (w' := { w with drawn := n }) (fun _ h => h) (fun _ _ => rfl) (fun _ h => ⟨h, rfl⟩) (fun _ _ _ => rfl) (m.m.b i)

theorem wp_monoQ {o : Oper} {a : Act} {w : World} {K K' : Act → World → Prop} {Q Q' : Exit → Act → World → Prop} (h : ∀ a w, K a w → K' a w) (hq : ∀ e a w, Q e a w → Q' e a w) (hh : o.wp P a w K Q) : o.wp P a w K' Q' := by
  unfold Oper.wp at *
  generalize (execOp a.eval o).run P w = r at *
  cases r with
  | ok n w' =>
    cases n <;> simp only [Oper.upon] at hh ⊢ <;>
      first
        | exact h _ _ hh
        | exact Calls.mono hh (fun e w'' he => by cases e <;> first | exact h _ _ he | exact hq _ _ _ he | exact (match he with | ⟨a, w, hx⟩ => ⟨a, w, hq _ _ _ hx⟩))
        | exact Rows.mono hh (fun _ _ he => h _ _ he)
  | halt x w' => cases x <;> simp only [Oper.upon] at hh ⊢ <;> first | exact hq _ _ _ hh | exact hh

theorem wpAny_monoQ {ops : Array Oper} {Q Q' : Exit → Act → World → Prop} (hq : ∀ e a w, Q e a w → Q' e a w) : ∀ (fuel : Nat) (listed : Array Bool) (a : Act) (w : World), wpAny P .any ops Q fuel listed a w → wpAny P .any ops Q' fuel listed a w := by
  intro fuel
  induction fuel with
  | zero => intro listed a w h; exact ⟨h.1, hq _ _ _ h.2⟩
  | succ fuel ih =>
    intro listed a w h
    refine ⟨fun hr => hq _ _ _ (h.1 hr), fun i hi => ?_⟩
    have hh := h.2 i hi
    unfold wpOp at *
    split
    · rename_i ho; simp only [ho] at hh; exact ih _ _ _ hh
    · rename_i o ho
      simp only [ho] at hh
      split
      · rename_i hw
        simp only [hw, if_true] at hh
        rcases hh with hh | ⟨h1, h2⟩
        · exact .inl (wp_monoQ (fun a w h => ih _ _ _ h) hq hh)
        · obtain ⟨a', w', hx⟩ := h2; exact .inr ⟨h1, a', w', hq _ _ _ hx⟩
      · rename_i hw; simp only [hw] at hh; exact ih _ _ _ hh

theorem drawOk (hm : P.follows .mixedOrders = true) : DrawOk P := by
  intro ρ cfg T cx hg nt hn id ops Q κ r hQ φ S st a w m h
  unfold evDraw at h
  have T0 : Tab P { cfg with opens := [], whole := false } := ⟨T.tt, T.fns, T.glob⟩
  have hp : Cfg.plain { cfg with opens := [], whole := false } := ⟨rfl, rfl⟩
  have hg0 : cx.glob = ({ cfg with opens := [], whole := false } : Cfg).glob := hg
  have hn0 : ({ cfg with opens := [], whole := false } : Cfg).n = nt := hn
  generalize hcf : ({ cfg with opens := [], whole := false } : Cfg) = cfg0 at h T0 hp hg0 hn0
  unfold evDrawT at h
  generalize ((assoc cfg.touch id).getD []) = tch at h
  split at h
  case h_2 => cases h
  rename_i hd
  simp only [drawable, Bool.and_eq_true, List.all_eq_true, Bool.not_eq_true'] at hd
  obtain ⟨⟨⟨h1, h2⟩, h3⟩, h4⟩ := hd
  obtain ⟨hgood, hback⟩ := good_of h1
  have R : Reg ops.toList (befores ops.toList []) tch := ⟨hgood, hback, h2, fun o ho d hd => by have := (h3 o ho).1; rw [hd] at this; simpa [Nat.blt_eq] using this, h4⟩
  have e0 : ∀ v ran hv, stX ops.toList tch st v ran hv (fun j => j < 0) 0 = st := by
    intro v ran hv
    unfold stX
    have : tX ops.toList st.t v (fun j => j < 0) = st.t := by funext n; exact tX_not fun ⟨j, hj, _⟩ => by omega
    rw [this]; rfl
  obtain ⟨v, ran, hv, F, hk⟩ := dr_facts (s := st) hp R ops.toList 0 rfl (Nat.zero_le _) (fun _ => .und) (fun _ => false) (fun _ _ => .free) (fun j hj => by omega) (by rw [e0]; exact h)
  refine wp_region_any hm (any_sound (s := st) (v := v) (ran := ran) (hv := hv) hp T0 hg0 hn0 R (fun i hi => F i (by simpa using hi)) (fun φ S a w m => ?_) ops.size (Array.replicate ops.size false) φ S a _ (by simp) (fun j o hj => ?_) ?_ ?_)
  · refine hQ _ φ S a w hk ?_
    have : (fun j => j < ops.toList.length) = fun j => j < ops.size := by funext j; simp
    rw [this]; exact m
  · exfalso
    by_cases q : j < ops.size <;> simp [q] at hj
  · have : ∀ n, cnt (List.replicate n false) = n := by
      intro n; induction n with
      | zero => rfl
      | succ n ih => simp [List.replicate_succ, cnt, ih]
    simp [this]
  · have e1 : (stL ops tch st v ran hv fun j => (Array.replicate ops.size false).getD j false = true) = st := by
      unfold stL stX
      have hno : ∀ j, ¬ (Array.replicate ops.size false).getD j false = true := fun j hj => by by_cases q : j < ops.size <;> simp [q] at hj
      have t1 : tX ops.toList st.t v (fun j => (Array.replicate ops.size false).getD j false = true) = st.t := by funext n; exact tX_not fun ⟨j, hj, _⟩ => hno j hj
      have t2 : ∀ n, hA ops.toList tch st.h ran hv (fun j => (Array.replicate ops.size false).getD j false = true) n ops.toList.length = st.h n := fun n => hA_more (s := st) (i := 0) (Nat.zero_le _) fun j _ _ h => hno j h.1
      rw [t1]
      congr 1
      funext n; exact t2 n
    rw [e1]
    exact m.drawn _
end Go.Proofs.YtkimeoknckohfaaDoor.R1
