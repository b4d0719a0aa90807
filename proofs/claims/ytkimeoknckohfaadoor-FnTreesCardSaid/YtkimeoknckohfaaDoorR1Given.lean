/- Functions whose contracts come from elsewhere: what is asked of package variables, and results without memory of their own. -/
import Derived.Test.YtkimeoknckohfaaDoorR1Glob
namespace Go.Proofs.YtkimeoknckohfaaDoor.R1
open Go.RowKit
variable {P : Program}

section
variable {cx : Cx} {φ : Nat → Value} {S : Nat → Prop} {h : Nat → B} {w : World}

/-- The world has grown. -/
theorem RelH.grown (m : RelH cx φ S h w) {w' : World} (hb : Below w.heap.size w w') : RelH cx φ S h w' where
  b n := RelB.mono (fun _ h => h) (fun g hg => hb.block g (m.lt g hg)) (fun n hn => ⟨hn, rfl⟩) (fun hm g hg => hb.block g (m.blk_lt hm hg)) (m.b n)
  apart := m.apart
  sep := m.sep
  inS := m.inS
  lt g hg := Nat.lt_of_lt_of_le (m.lt g hg) hb.size
  glob := m.glob
  gl := m.gl
  kp := m.kp
  keep := m.keep.step hb.os hb.tape hb.output hb.size fun g hg _ => hb.block g hg

/-- Blocks of its own making are data from now on. -/
theorem RelH.more (m : RelH cx φ S h w) {S' : Nat → Prop} (hS : ∀ g, S g → S' g) (hn : ∀ g, S' g → S g ∨ (cx.w0.heap.size ≤ g ∧ g < w.heap.size ∧ ∀ n, (h n).mut = true → ¬ Bk (φ n) g)) : RelH cx φ S' h w where
  b n := RelB.mono hS (fun _ _ => rfl) (fun n hn => ⟨hn, rfl⟩) (fun _ _ _ => rfl) (m.b n)
  apart := m.apart
  sep n g hm hb hs := (hn g hs).elim (m.sep n g hm hb) fun q => q.2.2 n hm hb
  inS g hg hlt := (hn g hg).elim (fun q => m.inS g q hlt) fun q => absurd hlt (by omega)
  lt g hg := (hn g hg).elim (m.lt g) fun q => q.2.1
  glob := m.glob
  gl := m.gl
  kp := m.kp
  keep := m.keep

/-- A package variable of which something is known. -/
theorem RelH.glo (m : RelH cx φ S h w) {g : Nat} {q : Obj → Prop} (hg : isGlob (gname g) = true) (e : h (gname g) = .glo q) : ∃ ob, w.heap[g]? = some ob ∧ q ob := by
  have hb := m.b (gname g)
  rw [e] at hb
  obtain ⟨g', ob, h1, h2, h3, _⟩ := hb
  have := m.glob g hg (by rw [e]; rfl)
  rw [h1] at this
  injection this with this; subst this
  exact ⟨ob, h2, h3⟩
end

/-- What is asked of an object: these cells. -/
def CellsAre (p : Array Value → Prop) : Obj → Prop := fun o => ∃ cs t z, o = .cells cs t z ∧ p cs

theorem var_of {w : World} {name : String} {g : Nat} {p : Array Value → Prop} (hg : P.globalNamed name = some g) (h : ∃ ob, w.heap[g]? = some ob ∧ CellsAre p ob) : ∃ cs, w.var? P name = some cs ∧ p cs := by
  obtain ⟨ob, h1, cs, t, z, rfl, hp⟩ := h
  exact ⟨cs, by simp [World.var?, hg, h1], hp⟩

theorem of_var {w : World} {name : String} {g : Nat} {cs : Array Value} {p : Array Value → Prop} (hg : P.globalNamed name = some g) (h : w.var? P name = some cs) (hp : p cs) : ∃ ob, w.heap[g]? = some ob ∧ CellsAre p ob := by
  unfold World.var? at h
  rw [hg] at h
  simp only [Option.bind_some] at h
  split at h
  · rename_i cs' t z e
    injection h with h; subst h
    exact ⟨_, e, cs', t, z, rfl, hp⟩
  · cases h

theorem cell_of {w : World} {g : Nat} {p : Value → Prop} (h : ∃ ob, w.heap[g]? = some ob ∧ CellsAre (fun cs => ∃ v, cs[0]? = some v ∧ p v) ob) : ∃ v, w.cell? ⟨g, 0, none⟩ = some v ∧ p v := by
  obtain ⟨ob, h1, cs, t, z, rfl, v, hv, hp⟩ := h
  exact ⟨v, by simp [World.cell?, h1, hv], hp⟩

theorem of_cell {w : World} {g : Nat} {v : Value} {p : Value → Prop} (h : w.cell? ⟨g, 0, none⟩ = some v) (hp : p v) : ∃ ob, w.heap[g]? = some ob ∧ CellsAre (fun cs => ∃ v, cs[0]? = some v ∧ p v) ob := by
  unfold World.cell? at h
  simp only at h
  split at h
  · rename_i cs t z e
    exact ⟨_, e, cs, t, z, rfl, v, h, hp⟩
  · cases h

section
variable {glob : Nat → B} {ts rs : List (Nat × VK)} {f : Nat → (Spec.mk ts [] []).V → Option (Spec.mk rs [] []).V} {id : Nat}

/-- Nothing is handed over but values, and nothing but values comes back. -/
theorem given_flat {LW : World → Prop} (hL : ∀ cx φ S w, RelH cx φ S glob w → LW w) {k : Nat}
    (h : ∀ v o, f k v = some o → ∀ (S : Nat → Prop) (φ : Nat → Value) (w : World) (args : Array Value), LW w → (∀ i, RelV S w φ glob (tempsOf ts v.1 i) (args.getD i undef)) → args.size = ts.length →
      Calls P id args w fun en w' => ∃ val, en = .returned val ∧ Below w.heap.size w w' ∧ ∀ S' φ' hh, RelV S' w' φ' hh (retV (retsOf rs o.1)) val) :
    EntryOk P glob k ⟨id, ⟨ts, [], []⟩, ⟨rs, [], []⟩, f⟩ := by
  refine ⟨rfl, fun v o hf cx φ S w args hg hw hφ m ht hs => ?_⟩
  refine (h v o hf S φ w args (hL cx φ S w m) ht hs).mono fun en w' hp => ?_
  obtain ⟨val, h1, h2, h3⟩ := hp
  exact ⟨φ, S, val, h1, m.grown h2, h3 _ _ _⟩

/-- One slice of data in new memory comes back. -/
theorem given_data {LW : World → Prop} (hL : ∀ cx φ S w, RelH cx φ S glob w → LW w) {u : U} {f : Nat → (Spec.mk ts [] []).V → Option (Spec.mk [(0, .c (.sl u))] [] []).V} {k : Nat} (hm : ∀ n, (glob n).mut = false)
    (h : ∀ v l, f k v = some ((l, ()), ()) → ∀ (S : Nat → Prop) (φ : Nat → Value) (w : World) (args : Array Value), LW w → (∀ i, RelV S w φ glob (tempsOf ts v.1 i) (args.getD i undef)) → args.size = ts.length →
      Calls P id args w fun en w' => ∃ val, en = .returned val ∧ Below w.heap.size w w' ∧ Rep (fun g => w.heap.size ≤ g ∧ g < w'.heap.size) w' (.sl u) l [val]) :
    EntryOk P glob k ⟨id, ⟨ts, [], []⟩, ⟨[(0, .c (.sl u))], [], []⟩, f⟩ := by
  refine ⟨rfl, fun v o hf cx φ S w args hg hw hφ m ht hs => ?_⟩
  refine (h v o.1.1 hf S φ w args (hL cx φ S w m) ht hs).mono fun en w' hp => ?_
  obtain ⟨val, h1, h2, h3⟩ := hp
  refine ⟨φ, fun g => S g ∨ (w.heap.size ≤ g ∧ g < w'.heap.size), val, h1, (m.grown h2).more (fun g hg => .inl hg) (fun g hg => hg.imp (fun q => q) fun q => ⟨by rw [hw]; exact q.1, q.2, fun n hn => ?_⟩), ?_⟩
  · have : (glob n).mut = true := hn
    rw [hm n] at this; cases this
  · exact Rep.mono (fun g hg => .inr hg) (fun _ _ => rfl) h3
end
end Go.Proofs.YtkimeoknckohfaaDoor.R1
