/- Code with its cuts; a function's contract out of the abstract run. -/
import Derived.Test.YtkimeoknckohfaaDoorR1Code
namespace Go.Proofs.YtkimeoknckohfaaDoor.R1
variable {P : Program} {ρ : Type}

def Out.exit_ : Out → Exit
  | .normal => .normal
  | .exit i => .exit i
  | .ret => .ret

theorem Out.same_eq {o o' : Out} (h : o.same o' = true) : o = o' := by
  cases o <;> cases o' <;> first | rfl | cases h | exact congrArg _ (Nat.eq_of_beq_eq_true h)

/-- One round of a loop, by the abstract run. -/
def CutOk (cfg : Full) (ct : Cut) (b : Code) : Prop :=
  ∀ (ρ : Type) (v : ct.sp.V) (nx : NxT ρ ct.outs), ct.F ρ 0 v nx = none ∧
    ∀ k, ct.F ρ (k + 1) v nx = evC cfg b (ct.sp.st cfg.glob v) fun o st => match o with
      | .normal => match ct.sp.own st with
        | some v => ct.F ρ k v nx
        | none => none
      | o => leave ct.outs nx o st

/-- What stands behind a place where ways meet. -/
def JoinOk (cfg : Full) (ct : Cut) (b : Code) : Prop :=
  ∀ (ρ : Type) (v : ct.sp.V) (nx : NxT ρ ct.outs), ct.F ρ cfg.k v nx = evC cfg b (ct.sp.st cfg.glob v) fun o st => leave ct.outs nx o st

def Obl (cfg : Full) : Code → Prop
  | .seq a b => Obl cfg a ∧ Obl cfg b ∧ match firstRegion b with
    | some i => match assoc cfg.joins i with
      | some ct => JoinOk cfg ct b
      | none => True
    | none => True
  | .cond _ x y => Obl cfg x ∧ Obl cfg y
  | .block _ b => Obl cfg b
  | .loop b => Obl cfg b ∧ match loopKey b with
    | some i => match assoc cfg.cuts i with
      | some ct => CutOk cfg ct b
      | none => True
    | none => True
  | _ => True

theorem leave_some {glob : Nat → B} {κ : Out → St → Option ρ} {o : Out} {st : St} {r : ρ} : ∀ {outs : List (Out × Spec)}, leave outs (nxOf glob κ outs) o st = some r → ∃ (s : Spec) (v : s.V), s.own st = some v ∧ κ o (s.st glob v) = some r
  | [], h => by cases h
  | (o', s) :: outs, h => by
    simp only [leave, nxOf] at h
    cases e : o'.same o with
    | true =>
      rw [e] at h
      simp only [cond_true] at h
      have := Out.same_eq e
      subst this
      split at h
      · rename_i v eq; exact ⟨s, v, eq, h⟩
      · cases h
    | false => rw [e] at h; exact leave_some h

theorem RelP.cut {cx : Cx} (hcx : ∀ n, isGlob n = false → cx.glob n = .free) {nt : Nat} {φ : Nat → Value} {S : Nat → Prop} {st : St} {a : Act} {w : World} (m : RelP cx nt φ S st a w) {s : Spec} {v : s.V} (h : s.own st = some v) :
    ∃ φ' S', RelP cx nt φ' S' (s.st cx.glob v) a w := by
  obtain ⟨φ', S', h1, h2⟩ := own_sound hcx m.m m.t h
  exact ⟨φ', S', h2, h1, m.size, m.defers⟩

theorem RelP.closes {cx : Cx} {nt : Nat} {φ : Nat → Value} {S : Nat → Prop} {st : St} {a : Act} {w : World} (m : RelP cx nt φ S st a w) (cfg : Cfg) (id : Nat) : ∃ φ', RelP cx nt φ' S (closes cfg id st) a w := by
  unfold R1.closes
  split
  · rename_i ns _
    obtain ⟨φ', m', l⟩ := m.m.closes ns
    exact ⟨φ', fun i => l.relV (m.t i), m', m.size, m.defers⟩
  · exact ⟨φ, m⟩

/-- A region whose order is drawn: by Draw.lean. -/
def DrawOk (P : Program) : Prop := ∀ {ρ : Type} {cfg : Cfg} (_ : Tab P cfg) {cx : Cx} (_ : cx.glob = cfg.glob) {nt : Nat} (_ : cfg.n = nt) {id : Nat} {ops : Array Oper} {Q : Exit → Act → World → Prop} {κ : St → Option ρ} {r : ρ}
    (_ : ∀ st' φ' S' a' w', κ st' = some r → RelP cx nt φ' S' st' a' w' → Q .normal a' w') {φ : Nat → Value} {S : Nat → Prop} {st : St} {a : Act} {w : World}, RelP cx nt φ S st a w → evDraw cfg id ops.toList st κ = some r → (Code.region id ops true).wp P Q a w

theorem evC_sound (hdraw : DrawOk P) {cx : Cx} {nt : Nat} : ∀ (c : Code) {cfg : Full}, Tab P cfg.toCfg → cx.glob = cfg.glob → cfg.n = nt → Obl cfg c → ∀ {ρ : Type} {κ : Out → St → Option ρ} {r : ρ} {Q : Exit → Act → World → Prop},
    (∀ o st φ S a w, κ o st = some r → RelP cx nt φ S st a w → Q o.exit_ a w) → ∀ {φ : Nat → Value} {S : Nat → Prop} {st : St} {a : Act} {w : World}, RelP cx nt φ S st a w → evC cfg c st κ = some r → c.wp P Q a w := by
  intro c
  induction c with
  | skip => intro cfg _ _ _ _ ρ κ r Q hQ φ S st a w m h; exact wp_skip (hQ .normal st φ S a w h m)
  | exit i => intro cfg _ _ _ _ ρ κ r Q hQ φ S st a w m h; exact wp_exit (hQ (.exit i) st φ S a w h m)
  | ret => intro cfg _ _ _ _ ρ κ r Q hQ φ S st a w m h; exact wp_ret (hQ .ret st φ S a w h m)
  | region id ops draw =>
    intro cfg hT hg hn _ ρ κ r Q hQ φ S st a w m h
    have T : Tab P cfg.toCfg := hT
    cases draw with
    | false => exact wp_region_list (evOps_sound (κ := fun st => κ .normal (R1.closes cfg.toCfg id st)) T hg hn (fun st' φ' S' a' w' h m => by obtain ⟨φ2, m2⟩ := m.closes cfg.toCfg id; exact hQ .normal _ φ2 S' a' w' h m2) _ m h)
    | true => exact hdraw (κ := fun st => κ .normal (R1.closes cfg.toCfg id st)) T hg hn (fun st' φ' S' a' w' h m => by obtain ⟨φ2, m2⟩ := m.closes cfg.toCfg id; exact hQ .normal _ φ2 S' a' w' h m2) m h
  | cond x t f iht ihf =>
    intro cfg hT hg hn ho ρ κ r Q hQ φ S st a w m h
    simp only [evC] at h
    split at h
    · rename_i b eb
      have hb : a.eval x = .bool b := opnd_eq m eb
      cases b with
      | true => exact wp_cond_true hb (iht hT hg hn ho.1 hQ m h)
      | false => exact wp_cond_false hb (ihf hT hg hn ho.2 hQ m h)
    · cases h
  | block i b ih =>
    intro cfg hT hg hn ho ρ κ r Q hQ φ S st a w m h
    simp only [evC] at h
    refine wp_block (ih hT hg hn ho (Q := Exit.inBlock i Q) (fun o st φ S a w hk m => ?_) m h)
    cases o with
    | normal => exact hQ .normal st φ S a w hk m
    | ret => exact hQ .ret st φ S a w hk m
    | exit j =>
      simp only [Out.exit_, Exit.inBlock]
      simp only at hk
      cases e : Nat.beq j i with
      | true => rw [e] at hk; rw [if_pos (Nat.eq_of_beq_eq_true e)]; exact hQ .normal st φ S a w hk m
      | false => rw [e] at hk; rw [if_neg (fun q => by rw [q, Nat.beq_refl] at e; cases e)]; exact hQ (.exit j) st φ S a w hk m
  | seq x y ihx ihy =>
    intro cfg hT hg hn ho ρ κ r Q hQ φ S st a w m h
    simp only [evC] at h
    obtain ⟨ho1, ho2, ho3⟩ := ho
    refine wp_seq (ihx hT hg hn ho1 (Q := Exit.then (y.wp P Q) Q) (fun o st φ S a w hk m => ?_) m h)
    cases o with
    | exit i => exact hQ (.exit i) st φ S a w hk m
    | ret => exact hQ .ret st φ S a w hk m
    | normal =>
      simp only [Out.exit_, Exit.then]
      simp only at hk
      cases e1 : firstRegion y with
      | none => rw [e1] at hk; exact ihy hT hg hn ho2 hQ m hk
      | some i =>
        rw [e1] at hk ho3
        simp only [Option.bind_some] at hk
        cases e2 : assoc cfg.joins i with
        | none => rw [e2] at hk; exact ihy hT hg hn ho2 hQ m hk
        | some ct =>
          rw [e2] at hk
          simp only [e2] at ho3
          simp only [enter] at hk
          split at hk
          · rename_i v ev
            obtain ⟨φ2, S2, m2⟩ := m.cut (by rw [hg]; exact hT.glob) ev
            rw [hg] at m2
            rw [ho3] at hk
            refine ihy hT hg hn ho2 (fun o st φ S a w hk m => ?_) m2 hk
            obtain ⟨s, v, es, hs⟩ := leave_some hk
            obtain ⟨φ3, S3, m3⟩ := m.cut (by rw [hg]; exact hT.glob) es
            rw [hg] at m3
            exact hQ o _ φ3 S3 a w hs m3
          · cases hk
  | loop b ih =>
    intro cfg hT hg hn ho ρ κ r Q hQ φ S st a w m h
    simp only [evC] at h
    obtain ⟨ho1, ho2⟩ := ho
    have hcx : ∀ n, isGlob n = false → cx.glob n = .free := by rw [hg]; exact hT.glob
    cases e1 : loopKey b with
    | none => rw [e1] at h; cases h
    | some i =>
      rw [e1] at h ho2
      simp only [Option.bind_some] at h
      cases e2 : assoc cfg.cuts i with
      | none => rw [e2] at h; cases h
      | some ct =>
        rw [e2] at h
        simp only [e2] at ho2
        simp only [enter] at h
        split at h
        · rename_i v ev
          obtain ⟨φ2, S2, m2⟩ := m.cut hcx ev
          refine wp_loop_ghost (fun n a w => ∃ φ S v, RelP cx nt φ S (ct.sp.st cx.glob v) a w ∧ ct.F ρ n v (nxOf cfg.glob κ ct.outs) = some r) cfg.k ⟨φ2, S2, v, m2, h⟩ ?_
          rintro n a w ⟨φ, S, v, m, h⟩
          cases n with
          | zero => rw [(ho2 ρ v _).1] at h; cases h
          | succ n =>
            rw [(ho2 ρ v _).2 n] at h
            rw [hg] at m
            refine ih hT hg hn ho1 (fun o st φ S a w hk m => ?_) m h
            · cases o with
              | normal =>
                simp only at hk
                split at hk
                · rename_i v ev
                  obtain ⟨φ3, S3, m3⟩ := m.cut hcx ev
                  exact ⟨n, Nat.lt_succ_self n, φ3, S3, v, m3, hk⟩
                · cases hk
              | exit j =>
                obtain ⟨s, v, es, hs⟩ := leave_some hk
                obtain ⟨φ3, S3, m3⟩ := m.cut hcx es
                rw [hg] at m3
                exact hQ (.exit j) _ φ3 S3 a w hs m3
              | ret =>
                obtain ⟨s, v, es, hs⟩ := leave_some hk
                obtain ⟨φ3, S3, m3⟩ := m.cut hcx es
                rw [hg] at m3
                exact hQ .ret _ φ3 S3 a w hs m3
        · cases h
  | _ => intro cfg _ _ _ _ ρ κ r Q _ φ S st a w _ h; cases h
end Go.Proofs.YtkimeoknckohfaaDoor.R1
