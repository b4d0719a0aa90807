/- For functions of the translation: a Lean function each, and that the call of the Go function comes to its answer. Written by this session's own program (myprint.py, over the kit's printer). -/
import Derived.Test.YtddaiabilhjcpaaDoorAx0
--compacted
namespace Go.Proofs.YtddaiabilhjcpaaDoor.A
open Go.RowKit Go.Proofs.YtddaiabilhjcpaaDoorW.PrintWords Go.Proofs.YtddaiabilhjcpaaDoorW.PrintLast Go.Proofs.YtddaiabilhjcpaaDoorW.PrintMore
attribute [local go_sem] max2_int min2_int max_two min_two max_three min_three max_four min_four   -- for this text's walks alone
set_option linter.unusedVariables false
set_option linter.unusedSimpArgs false

/-! ### strings_Split: function 21 -/
def strings_Split.f (a0 : ByteArray) (a1 : ByteArray) : Option (List ByteArray) := if a0.size < 4294967281 ∧ 1 ≤ a1.size then some (Go.Lib.splitB a1 0 (Go.Lib.countB a0 a1) a0) else none
theorem strings_Split.calls (a0 : ByteArray) (a1 : ByteArray) (r : List ByteArray) (w : World) (hL : LaidW w) (h : strings_Split.f a0 a1 = some r) :
  Calls Tryd.prog 21 #[.string a0, .string a1] w fun e w' => ∃ v0_ : Value, e = .returned (v0_) ∧ Kd.R Kd.string 9 w' w.heap.size (fun _ => True) v0_ r ∧ Below w.heap.size w w' := by
 unfold strings_Split.f at h
 split at h
 ·rename_i c
  injection h with h
  subst h
  obtain ⟨⟨m, hm⟩, _⟩ := hL
  have hc := Go.Lib.countB_le a1 c.2 a0.size a0 (Nat.le_refl _)
  have hl := Go.Lib.splitB_all a1 c.2 0 (Go.Lib.countB a0 a1) a0 rfl
  refine (Go.Proofs.Tryd.strings_Split a0 a1 m w c.1 hm c.2).mono ?_
  rintro e w' ⟨rfl, rfl⟩
  refine ⟨_, rfl, Kd.R_of_own ?_ (fun _ _ => trivial), Go.Joins.below_alloc1 _ _⟩
  rw [hl]
  refine ⟨by simp [encs, hl], .inr ⟨w.heap.size, Go.Lib.countB a0 a1 + 1, _, rfl, Nat.le_refl _, heap_alloc_new _ _, Nat.le_refl _, by unfold maxLen; omega, by simp [hl], ?_⟩⟩
  rw [List.take_of_length_le (by simp [hl])]
  rfl
 ·cases h

/-! ### strconv_FormatInt_75: function 75 -/
def strconv_FormatInt_75.f (a0 : Int) (a1 : Int) : Option (ByteArray) := if 0 ≤ a0 ∧ a0 < 100 ∧ a1 = 10 then some ⟨(Go.Lib.decDigits a0.toNat).toArray⟩ else none
theorem strconv_FormatInt_75.calls (a0 : Int) (a1 : Int) (r : ByteArray) (w : World) (h : strconv_FormatInt_75.f a0 a1 = some r) :
  Calls Tryd.prog 75 #[.int .i64 a0, .int .i64 a1] w fun e w' => e = .returned (.string r) ∧ Drawn0 w w' := by
 unfold strconv_FormatInt_75.f at h
 split at h
 ·rename_i c
  obtain ⟨c0, c1, rfl⟩ := c
  injection h with h
  subst h
  obtain ⟨i, rfl⟩ : ∃ i : Nat, a0 = i := ⟨a0.toNat, by omega⟩
  exact (Go.Proofs.Tryd.internal_strconv_FormatInt_10_small i (by omega) w).mono fun e w' h => ⟨by rw [h.1]; simp, by rw [h.2]; exact Drawn0.refl _⟩
 ·cases h

/-! ### strconv_FormatInt_57: function 57 -/
def strconv_FormatInt_57.f (a0 : Int) (a1 : Int) : Option (ByteArray) := (strconv_FormatInt_75.f a0 a1).bind fun t101 => (some t101)
set_option maxHeartbeats 8000000 in
set_option maxRecDepth 100000 in
theorem strconv_FormatInt_57.calls (a0 : Int) (a1 : Int) (r : ByteArray) (w : World) (h : strconv_FormatInt_57.f a0 a1 = some r) :
  Calls Tryd.prog 57 #[.int .i64 a0, .int .i64 a1] w fun e w' => e = .returned (.string r) ∧ Drawn0 w w' := by
 have H : ((strconv_FormatInt_75.f a0 a1).bind fun t101 => (some t101)) = some r := h
 clear h
 replace H := Option.bind_eq_some_iff.mp H
 obtain ⟨t101, A30, H⟩ := H
 replace H : (some t101) = some r := H
 have A3 := Aside0.mk A30
 clear A30
 obtain rfl := Option.some.inj H
 go_enter Tryd.func57, Tryd.ntmps57
 go_wp2_with (first | ((with_reducible refine gate_callee (f := 75) rfl ?_); refine goesL_ (some 7) rfl rfl Tryd.func75 (by kernel_rfl) rfl #[.int .i64 a0, .int .i64 a1] rfl mp_ ?_; (with_reducible refine (strconv_FormatInt_75.calls a0 a1 t101 _ A3.out).mono ?_); rintro e w' ⟨rfl, ⟨nd, rfl⟩⟩; refine ⟨_, rfl, ?_⟩))
 go_ret
 exact ⟨by first | rfl | (simp; done) | (simp [*]; done), by repeat (first | exact Drawn0.refl _ | apply Drawn0.step)⟩

/-! ### impl_decimal: function 41 -/
def impl_decimal.f (a0 : Int) : Option (ByteArray) := (strconv_FormatInt_57.f a0 10).bind fun t102 => (some t102)
set_option maxHeartbeats 8000000 in
set_option maxRecDepth 100000 in
theorem impl_decimal.calls (a0 : Int) (r : ByteArray) (w : World) (h : impl_decimal.f a0 = some r) :
  Calls Tryd.prog 41 #[.int .i64 a0] w fun e w' => e = .returned (.string r) ∧ Drawn0 w w' := by
 have H : ((strconv_FormatInt_57.f a0 10).bind fun t102 => (some t102)) = some r := h
 clear h
 replace H := Option.bind_eq_some_iff.mp H
 obtain ⟨t102, A20, H⟩ := H
 replace H : (some t102) = some r := H
 have A2 := Aside0.mk A20
 clear A20
 obtain rfl := Option.some.inj H
 go_enter Tryd.func41, Tryd.ntmps41
 go_wp2_with (first | ((with_reducible refine gate_callee (f := 57) rfl ?_); refine goesL_ (some 4) rfl rfl Tryd.func57 (by kernel_rfl) rfl #[.int .i64 a0, .int .i64 10] rfl mp_ ?_; (with_reducible refine (strconv_FormatInt_57.calls a0 10 t102 _ A2.out).mono ?_); rintro e w' ⟨rfl, ⟨nd, rfl⟩⟩; refine ⟨_, rfl, ?_⟩))
 go_ret
 exact ⟨by first | rfl | (simp; done) | (simp [*]; done), by repeat (first | exact Drawn0.refl _ | apply Drawn0.step)⟩

/-! ### impl_readNumber: function 22 -/
theorem impl_readNumber.range (l : List UInt8) (v : Int) (h : Go.Lib.parseIntB 64 l = .ok v) : -9223372036854775808 ≤ v ∧ v ≤ 9223372036854775807 := by
 unfold Go.Lib.parseIntB at h
 split at h
 ·cases h
 ·simp only at h
  split at h
  ·cases h
  ·cases h
  ·split at h
   ·cases h
   ·split at h
    ·cases h
    ·rename_i h1 h2
     injection h with h
     subst h
     split
     ·rename_i h3
      simp only [h3, true_and] at h2
      omega
     ·rename_i h3
      simp only [h3, not_false_eq_true, true_and] at h1
      omega
theorem impl_readNumber.dec (v : Int) (h0 : -9223372036854775808 ≤ v) (h1 : v ≤ 9223372036854775807) (w : World) (hL : LaidW w) :
  Calls Tryd.prog 41 #[.int .i64 v] w fun e w' => e = .returned (.string ⟨(Go.Lib.itoa v).toArray⟩) ∧ Below w.heap.size w w' := by
 have htab := hL.2.1
 go_enter Tryd.func41, Tryd.ntmps41
 go_wp2_with (first | (go_at_call 57; refine (Go.Proofs.Tryd.strconv_FormatInt_10 v h0 h1 _ htab).mono ?_; rintro e w1 ⟨rfl, k, os, rfl⟩))
 go_ret
 exact ⟨rfl, Go.Lib.below_grow _ _ (Nat.le_refl _) _ _⟩
def impl_readNumber.f (a0 : ByteArray) : Option (Int × Bool) := if a0.size < 4294967281 then some (match Go.Lib.parseIntB 64 a0.data.toList with | .ok v => (v, ((⟨(Go.Lib.itoa v).toArray⟩ : ByteArray).toList == a0.toList)) | .range => (Go.Lib.intSat 64 a0.data.toList, false) | _ => (0, false)) else none
set_option maxHeartbeats 8000000 in
set_option maxRecDepth 100000 in
theorem impl_readNumber.calls (a0 : ByteArray) (r1 : Int) (r2 : Bool) (w : World) (hL : LaidW w) (h : impl_readNumber.f a0 = some (r1, r2)) :
  Calls Tryd.prog 22 #[.string a0] w fun e w' => e = .returned (.tuple #[.int .i64 r1, .bool r2]) ∧ Below w.heap.size w w' := by
 unfold impl_readNumber.f at h
 split at h
 ·rename_i c
  cases hp : Go.Lib.parseIntB 64 a0.data.toList with
  | ok v =>
   rw [hp] at h
   simp only [Option.some.injEq, Prod.mk.injEq] at h
   obtain ⟨rfl, rfl⟩ := h
   obtain ⟨h0, h1⟩ := impl_readNumber.range _ _ hp
   go_enter Tryd.func22, Tryd.ntmps22
   go_wp2_with (first | (go_at_call 40; refine (Go.Proofs.Tryd.strconv_ParseInt_10_at64_ok a0 (by omega) v hp _).mono ?_; rintro e w1 ⟨rfl, hw1⟩; have hb1 : Below w.heap.size w w1 := (by rcases hw1 with rfl | ⟨t, rfl⟩; exact Below.refl _ _; exact Go.Lib.bytesWorld_below _ _ _); clear hw1) | (go_at_call 41; refine (impl_readNumber.dec v h0 h1 _ (LaidW.below hL hb1)).mono ?_; rintro e w2 ⟨rfl, hb2⟩))
   go_ret2
   exact ⟨by first | rfl | (simp; done), below_step hb1 hb2⟩
  | range =>
   rw [hp] at h
   simp only [Option.some.injEq, Prod.mk.injEq] at h
   obtain ⟨rfl, rfl⟩ := h
   obtain ⟨_, _, _, tp, p, hv⟩ := hL
   go_enter Tryd.func22, Tryd.ntmps22
   go_wp2_with (first | (go_at_call 40; refine (Go.Proofs.Tryd.strconv_ParseInt_10_at64_range_var a0 (by omega) hp tp p _ hv).mono ?_; rintro e w1 ⟨N, rfl, _, _, hb1⟩))
   go_ret2
   exact ⟨by first | rfl | (simp; done), hb1⟩
  | _ =>
   have hq : (∀ v, Go.Lib.parseIntB 64 a0.data.toList ≠ .ok v) ∧ Go.Lib.parseIntB 64 a0.data.toList ≠ .range := ⟨fun v e => (by rw [hp] at e; cases e), fun e => (by rw [hp] at e; cases e)⟩
   rw [hp] at h
   simp only [Option.some.injEq, Prod.mk.injEq] at h
   obtain ⟨rfl, rfl⟩ := h
   obtain ⟨_, _, ⟨tp, p, hv⟩, _⟩ := hL
   go_enter Tryd.func22, Tryd.ntmps22
   go_wp2_with (first | (go_at_call 40; refine (Go.Proofs.Tryd.strconv_ParseInt_10_at64_syntax_var a0 (by omega) hq tp p _ hv).mono ?_; rintro e w1 ⟨N, rfl, _, _, hb1⟩))
   go_ret2
   exact ⟨by first | rfl | (simp; done), hb1⟩
 ·cases h

/-! ### strings_Cut: function 23 -/
def strings_Cut.f (a0 : ByteArray) (a1 : ByteArray) : Option (ByteArray × ByteArray × Bool) := if a0.size < 4294967281 then some (⟨(Go.Lib.cut a0.data.toList a1.data.toList).1.toArray⟩, ⟨(Go.Lib.cut a0.data.toList a1.data.toList).2.1.toArray⟩, (Go.Lib.cut a0.data.toList a1.data.toList).2.2) else none
theorem strings_Cut.calls (a0 : ByteArray) (a1 : ByteArray) (r1 : ByteArray) (r2 : ByteArray) (r3 : Bool) (w : World) (hL : LaidW w) (h : strings_Cut.f a0 a1 = some (r1, r2, r3)) :
  Calls Tryd.prog 23 #[.string a0, .string a1] w fun e w' => e = .returned (.tuple #[.string r1, .string r2, .bool r3]) ∧ Drawn0 w w' := by
 unfold strings_Cut.f at h
 split at h
 ·rename_i c
  simp only [Option.some.injEq, Prod.mk.injEq] at h
  obtain ⟨rfl, rfl, rfl⟩ := h
  obtain ⟨⟨m, hm⟩, _⟩ := hL
  refine (Go.Proofs.Tryd.strings_Cut a0 a1 m w c hm).mono ?_
  rintro e w' ⟨rfl, h⟩
  exact ⟨rfl, ⟨h⟩⟩
 ·cases h

end Go.Proofs.YtddaiabilhjcpaaDoor.A
