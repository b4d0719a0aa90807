/- Maps and short arrays in a state of which less is known. -/
import Derived.Test.YtkimeoknckohfaaDoorR1FrameOwn
namespace Go.Proofs.YtkimeoknckohfaaDoor.R1
section
variable {b : Nat → Bool} {st st' : St}

theorem box_frame (l : LeH b st.h st'.h) {ti : TI} {a : C} {x : Nat × Nat × Nat} (h : boxArr st ti a = some x) : boxArr st' ti a = some x := by
  obtain ⟨n, len, off⟩ := x
  obtain ⟨el, sz, t, cs, ek, rfl, eh⟩ := boxArr_some h
  simp only [boxArr, ek, l.at eh (by simp)]

/-- Where the array is hidden, nothing is known of its parts. -/
theorem box_frame_none (l : LeH b st.h st'.h) {ti : TI} {a : C} {esz : Nat} {j : Int} {c : C} (h : boxArr st ti a = none) (hi : indexAddr st ti esz a.weak j some = some c) : boxArr st' ti a = none := by
  cases e : boxArr st' ti a with
  | none => rfl
  | some x =>
    obtain ⟨n, len, off⟩ := x
    obtain ⟨el, sz, t, cs, ek, rfl, eh⟩ := boxArr_some e
    simp only [C.weak, indexAddr, ek] at hi
    cases hb : b n with
    | true => rw [l.gone n hb] at hi; cases hi
    | false => rw [l.out n hb] at eh; simp only [boxArr, ek, eh] at h; cases h

theorem datumW_ok {a : Bool} {u : U} {x : V} {y : El u} (h : datumW a u x = some y) : x.isBad = false := by cases x <;> first | rfl | cases h

theorem Le.datumW (l : Le b st st') {a : Bool} {u : U} {x : Operand} {y : El u} (h : R1.datumW a u (R1.opnd st x) = some y) : R1.datumW a u (R1.opnd st' x) = some y := by rw [l.opnd rfl (datumW_ok h)]; exact h

theorem lookup_frame (l : Le b st st') {ik ie : TI} {z : Option (El ie.u)} {eq : Option (El ik.u → El ik.u → Bool)} {t : Nat} {x y : Operand} {ok : Bool} {v : V} (h : lookupW st ik ie z eq t (R1.opnd st x) (R1.opnd st y) ok some = some v) :
    lookupW st' ik ie z eq t (R1.opnd st' x) (R1.opnd st' y) ok some = some v := by
  unfold lookupW at h
  split at h
  case h_2 => cases h
  rename_i z eq k ez eeq ek
  unfold lookupW
  simp only [l.datumW ek] at h ⊢
  split at h
  · rename_i hx
    simp only [l.opnd hx rfl]; exact h
  · rename_i n hx
    simp only [l.opnd hx rfl]
    split at h
    · rename_i en
      simp only [l.h.at en (by simp)]; exact h
    · cases h
  · cases h

theorem update_frame (l : Le b st st') {ik ie : TI} {eq : Option (El ik.u → El ik.u → Bool)} {t : Nat} {x y z : Operand} {r : St} (h : updateW st ik ie eq t (R1.opnd st x) (R1.opnd st y) (R1.opnd st z) some = some r) :
    updateW st' ik ie eq t (R1.opnd st' x) (R1.opnd st' y) (R1.opnd st' z) some = some ⟨st'.t, merge b r.h st'.h⟩ := by
  unfold updateW at h
  split at h
  case h_2 => cases h
  rename_i eq k v eeq ek ev
  unfold updateW
  simp only [l.datumW ek, l.datumW ev] at h ⊢
  split at h
  case h_2 => cases h
  rename_i bb n hx
  simp only [l.opnd hx rfl]
  cases bb with
  | true => cases h
  | false =>
    simp only [cond_false] at h ⊢
    split at h
    case h_2 => cases h
    rename_i en
    simp only [l.h.at en (by simp)]
    split at h
    case h_2 => cases h
    rename_i hb
    split at h
    case isFalse => cases h
    rename_i hu
    injection h with h; subst h
    simp only [hb, dif_pos hu]
    rw [merge_upd (l.h.seen (by rw [en]; simp)), l.h.merge]

theorem entry_frame (l : Le b st st') {ik ie : TI} {z : Option (El ie.u)} {eq : Option (El ik.u → El ik.u → Bool)} {t : Nat} {x y : Operand} {v : V} {r : St} (h : entryW st ik ie z eq t (R1.opnd st x) (R1.opnd st y) (fun v s => some (v, s)) = some (v, r)) :
    entryW st' ik ie z eq t (R1.opnd st' x) (R1.opnd st' y) (fun v s => some (v, s)) = some (v, ⟨st'.t, merge b r.h st'.h⟩) := by
  unfold entryW at h
  split at h
  case h_2 => cases h
  rename_i z eq k ez eeq ek
  unfold entryW
  simp only [l.datumW ek] at h ⊢
  split at h
  case h_2 => cases h
  rename_i bb n hx
  simp only [l.opnd hx rfl]
  cases bb with
  | true => cases h
  | false =>
    simp only [cond_false] at h ⊢
    split at h
    case h_2 => cases h
    rename_i en
    simp only [l.h.at en (by simp)]
    split at h
    case h_2 => cases h
    rename_i hb
    split at h
    case isFalse => cases h
    rename_i hu
    simp only [hb, dif_pos hu]
    split at h
    case h_2 => cases h
    rename_i w ew
    injection h with h; injection h with h1 h2; subst h1; subst h2
    simp only [ew]
    rw [merge_upd (l.h.seen (by rw [en]; simp)), l.h.merge]

theorem entryStore_frame (l : Le b st st') {ie : TI} {t : Nat} {x y z : Operand} {r : St} (h : entrySetW st ie t (R1.opnd st x) (R1.opnd st y) (R1.opnd st z) some = some r) :
    entrySetW st' ie t (R1.opnd st' x) (R1.opnd st' y) (R1.opnd st' z) some = some ⟨st'.t, merge b r.h st'.h⟩ := by
  unfold entrySetW at h
  split at h
  case h_2 => cases h
  rename_i bb n kk j v hx hy ev
  unfold entrySetW
  simp only [l.datumW ev, l.opnd hx rfl, l.opnd hy rfl] at h ⊢
  cases bb with
  | true => cases h
  | false =>
    simp only [cond_false] at h ⊢
    split at h
    case h_2 => cases h
    rename_i en
    simp only [l.h.at en (by simp)]
    split at h
    case h_2 => cases h
    rename_i hb
    split at h
    case isFalse => cases h
    rename_i hu
    obtain ⟨p, hp, h⟩ := Option.bind_eq_some_iff.1 h
    injection h with h; subst h
    simp only [hb, dif_pos hu, hp, Option.bind_some]
    rw [merge_upd (l.h.seen (by rw [en]; simp)), l.h.merge]

theorem entry_touch {ik ie : TI} {z : Option (El ie.u)} {eq : Option (El ik.u → El ik.u → Bool)} {t : Nat} {x y : V} {v : V} {r : St} (h : entryW st ik ie z eq t x y (fun v s => some (v, s)) = some (v, r)) : ∃ c n, x = .v (.c (.mapr c n)) ∧ r.t = st.t ∧ ∀ k, k ≠ n → r.h k = st.h k := by
  unfold entryW at h
  split at h
  case h_2 => cases h
  split at h
  case h_2 => cases h
  rename_i bb n
  cases bb with
  | true => cases h
  | false =>
    simp only [cond_false] at h
    split at h
    case h_2 => cases h
    split at h
    case h_2 => cases h
    split at h
    case isFalse => cases h
    split at h
    case h_2 => cases h
    injection h with h; injection h with h1 h2; subst h2
    exact ⟨false, n, rfl, rfl, fun k hk => upd_ne _ _ hk⟩

theorem entryStore_touch {ie : TI} {t : Nat} {x y z : V} {r : St} (h : entrySetW st ie t x y z some = some r) : ∃ c n, x = .v (.c (.mapr c n)) ∧ r.t = st.t ∧ ∀ k, k ≠ n → r.h k = st.h k := by
  unfold entrySetW at h
  split at h
  case h_2 => cases h
  rename_i bb n kk j v ev
  cases bb with
  | true => cases h
  | false =>
    simp only [cond_false] at h
    split at h
    case h_2 => cases h
    split at h
    case h_2 => cases h
    split at h
    case isFalse => cases h
    obtain ⟨p, hp, h⟩ := Option.bind_eq_some_iff.1 h
    injection h with h; subst h
    exact ⟨false, n, rfl, rfl, fun k hk => upd_ne _ _ hk⟩

theorem update_touch {ik ie : TI} {eq : Option (El ik.u → El ik.u → Bool)} {t : Nat} {x y z : V} {r : St} (h : updateW st ik ie eq t x y z some = some r) : ∃ c n, x = .v (.c (.mapr c n)) ∧ r.t = st.t ∧ ∀ k, k ≠ n → r.h k = st.h k := by
  unfold updateW at h
  split at h
  case h_2 => cases h
  split at h
  case h_2 => cases h
  rename_i bb n
  cases bb with
  | true => cases h
  | false =>
    simp only [cond_false] at h
    split at h
    case h_2 => cases h
    split at h
    case h_2 => cases h
    split at h
    case isFalse => cases h
    injection h with h; subst h
    exact ⟨false, n, rfl, rfl, fun k hk => upd_ne _ _ hk⟩
end
end Go.Proofs.YtkimeoknckohfaaDoor.R1
