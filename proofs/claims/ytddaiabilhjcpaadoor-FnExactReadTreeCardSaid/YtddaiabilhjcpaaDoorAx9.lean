/- For functions of the translation: a Lean function each, and that the call of the Go function comes to its answer. Written by this session's own program (myprint.py, over the kit's printer). -/
import Derived.Test.YtddaiabilhjcpaaDoorAx0
import Derived.Test.YtddaiabilhjcpaaDoorAx8
--compacted
namespace Go.Proofs.YtddaiabilhjcpaaDoor.A
open Go.RowKit Go.Proofs.YtddaiabilhjcpaaDoorW.PrintWords Go.Proofs.YtddaiabilhjcpaaDoorW.PrintLast Go.Proofs.YtddaiabilhjcpaaDoorW.PrintMore
attribute [local go_sem] max2_int min2_int max_two min_two max_three min_three max_four min_four   -- for this text's walks alone
set_option linter.unusedVariables false
set_option linter.unusedSimpArgs false

/-! ### spec_l01Dec: function 66 -/
mutual
def spec_l01Dec.j0 : Nat → Int → Bool → Option (ByteArray)
 | 0, _, _ => none
 | k + 1, x0, x8 => if x8 = true then ((spec_l01Dec.f k (wrap64 (-x0))).bind fun t249 => (if 1 + t249.size ≤ 9223372036854775807 then (some ((⟨#[45]⟩ : ByteArray) ++ t249)) else (none))) else (if x0 < 0 then ((spec_l01Dec.f k (wrap64 (Int.tdiv x0 10))).bind fun t250 => ((spec_l01Dec.f k (wrap64 (-(Int.tmod x0 10)))).bind fun t251 => (if t250.size + t251.size ≤ 9223372036854775807 then (some (t250 ++ t251)) else (none)))) else (if x0 < 10 then (some (strOfNums (([(wrap64 (48 + x0)) % 256] : List Int)))) else ((spec_l01Dec.f k (wrap64 (Int.tdiv x0 10))).bind fun t255 => ((some (([(wrap64 (48 + (Int.tmod x0 10))) % 256] : List Int) : List Int)).bind fun y256 => (if t255.size + (strOfNums y256).size ≤ 9223372036854775807 then (some (t255 ++ (strOfNums y256))) else (none))))))
def spec_l01Dec.f : Nat → Int → Option (ByteArray)
 | 0, _ => none
 | k + 1, a0 => if a0 < 0 then (spec_l01Dec.j0 k a0 (decide (a0 > (-10)))) else (spec_l01Dec.j0 k a0 false)
end
theorem spec_l01Dec.mono_l : ∀ k, (∀ y0, LeO (spec_l01Dec.f k y0) (spec_l01Dec.f (k + 1) y0)) ∧ (∀ y0 y1, LeO (spec_l01Dec.j0 k y0 y1) (spec_l01Dec.j0 (k + 1) y0 y1))
 | 0 => ⟨fun _ r h => by simp [spec_l01Dec.f] at h, fun _ _ r h => by simp [spec_l01Dec.j0] at h⟩
 | k + 1 => by
  obtain ⟨ih0, ih1⟩ := spec_l01Dec.mono_l k
  refine ⟨?_, ?_⟩
  ·intro y0
   unfold spec_l01Dec.f
   repeat' first
   | (with_reducible exact ih0 _)
   | (with_reducible exact ih1 _ _)
   | (with_reducible exact LeO.refl _)
   | (with_reducible exact LeO.none _)
   | (with_reducible refine LeO.ite ?_ ?_)
   | (with_reducible refine LeO.bind ?_ (fun _ => ?_))
  ·intro y0 y1
   unfold spec_l01Dec.j0
   repeat' first
   | (with_reducible exact ih0 _)
   | (with_reducible exact ih1 _ _)
   | (with_reducible exact LeO.refl _)
   | (with_reducible exact LeO.none _)
   | (with_reducible refine LeO.ite ?_ ?_)
   | (with_reducible refine LeO.bind ?_ (fun _ => ?_))
theorem spec_l01Dec.mono : ∀ a0 k, LeO (spec_l01Dec.f k a0) (spec_l01Dec.f (k + 1) a0) := by
 intro a0 k
 obtain ⟨ih0, ih1⟩ := spec_l01Dec.mono_l k
 exact ih0 a0
def spec_l01Dec.T7 : Bool × List (List Nat × List Nat) := (true, [([], []), ([0], [0]), ([1], [1]), ([], []), ([3], [3]), ([4], [4]), ([5], [5]), ([6], [6]), ([7], [7]), ([2, 8], [2, 8]), ([9, 2, 0, 1, 2, 3, 4, 5, 6, 7, 8, 9], [9])])
def spec_l01Dec.B7 : List Nat := [0, 1, 3, 0, 8, 24, 56, 120, 248, 511, 1023]
theorem spec_l01Dec.tab7 : rtab .any (opsOf Tryd.f66 7) = spec_l01Dec.T7 := by kernel_rfl
theorem spec_l01Dec.bits7 : waitsOk spec_l01Dec.T7.2 spec_l01Dec.B7 = true := by kernel_rfl
set_option maxHeartbeats 8000000 in
set_option maxRecDepth 100000 in
theorem spec_l01Dec.calls (k : Nat) : ∀ (a0 : Int) (r : ByteArray) (w : World) (h : spec_l01Dec.f k a0 = some r),
  Calls Tryd.prog 66 #[.int .i64 a0] w fun e w' => e = .returned (.string r) ∧ Below w.heap.size w w' := by
 induction k using Nat.strongRecOn with
 | _ k ih =>
 intro a0 r w h
 cases k with
 | zero => exact absurd h (by simp [spec_l01Dec.f])
 | succ k =>
 simp only [spec_l01Dec.f] at h
 have HB := Aside0.mk (Below.refl w.heap.size w)
 have H : (if a0 < 0 then (spec_l01Dec.j0 k a0 (decide (a0 > (-10)))) else (spec_l01Dec.j0 k a0 false)) = some r := h
 clear h
 have HC2 := Aside0.mk H
 clear H
 go_enter Tryd.func66, Tryd.ntmps66
 go_upto_region 1 with (fail)
 go_cut [8] (fun v8 wc => ∃ (kq : Nat) (x8_1 : Bool), v8 = .bool x8_1 ∧ Aside0 (spec_l01Dec.j0 kq a0 x8_1 = some r) ∧ Aside0 (kq ≤ k) ∧ Aside0 (Below w.heap.size w wc))
 case first =>
  have H := HC2.out
  clear HC2
  by_cases c3 : a0 < 0
  ·rw [if_pos c3] at H
   have c3b0 := decide_eq_true c3
   clear c3
   (first | rw [c3b0] | (simp only [i64_w, i32_w]; rw [c3b0]) | skip)
   have H' := Aside0.mk H
   clear H
   go_wp2
   go_meet
   case rel => exact ⟨_, (decide (a0 > (-10))), rs_, H', ⟨by first | omega | exact Nat.le_refl _⟩, ⟨bl0_ HB.out⟩⟩
  ·rw [if_neg c3] at H
   have c3b0 := decide_eq_false c3
   clear c3
   (first | rw [c3b0] | (simp only [i64_w, i32_w]; rw [c3b0]) | skip)
   have H' := Aside0.mk H
   clear H
   go_wp2
   go_meet
   case rel => exact ⟨_, (false), rs_, H', ⟨by first | omega | exact Nat.le_refl _⟩, ⟨bl0_ HB.out⟩⟩
 case rest =>
  clear HC2
  try clear p2
  try clear c3
  try clear c3b0
  obtain ⟨kq, x8_1, rfl, HA, HJ1, HB⟩ := hcut
  cases kq with
  | zero => exact absurd HA.out (by simp [spec_l01Dec.j0])
  | succ kj1 =>
   have H := HA.out
   clear HA
   simp only [spec_l01Dec.j0] at H
   by_cases c4 : x8_1 = true
   ·subst c4
    have H1 : ((spec_l01Dec.f kj1 (wrap64 (-a0))).bind fun t249 => (if 1 + t249.size ≤ 9223372036854775807 then (some ((⟨#[45]⟩ : ByteArray) ++ t249)) else (none))) = some r := by rw [if_pos rfl] at H; exact H
    clear H
    have H := H1
    clear H1
    replace H := Option.bind_eq_some_iff.mp H
    obtain ⟨t249, A50, H⟩ := H
    replace H : (if 1 + t249.size ≤ 9223372036854775807 then (some ((⟨#[45]⟩ : ByteArray) ++ t249)) else (none)) = some r := H
    have A5 := Aside0.mk A50
    clear A50
    by_cases c6 : 1 + t249.size ≤ 9223372036854775807
    rotate_left
    ·exact nope_ c6 H
    rw [if_pos c6] at H
    have c6b0 := eq_true c6
    have c6b1 := decide_eq_true c6
    try have c6b2 : (9223372036854775807 < 1 + t249.size) = False := eq_false (Nat.not_lt.2 c6)
    obtain rfl := Option.some.inj H
    go_wp2_with (first | ((with_reducible refine gate_callee (f := 66) rfl ?_); refine goesL_ (some 11) rfl rfl Tryd.func66 (by kernel_rfl) rfl #[.int .i64 (wrap64 (-a0))] rfl mp_ ?_; (with_reducible refine (ih kj1 (by have := HJ1.out; omega) (wrap64 (-a0)) t249 _ A5.out).mono ?_); rintro e w7 ⟨rfl, hb⟩; refine ⟨_, rfl, ?_⟩; have n0_ := Aside0.mk (below_step (bl0_ HB.out) hb); clear HB; have HB := n0_; clear n0_; (try clear hb); (try clear hb2); (try clear hk); (try clear hi)))
    go_ret
    exact ⟨re_, bl0_ HB.out⟩
   ·replace c4 := Bool.eq_false_iff.mpr c4
    subst c4
    have H1 : (if a0 < 0 then ((spec_l01Dec.f kj1 (wrap64 (Int.tdiv a0 10))).bind fun t250 => ((spec_l01Dec.f kj1 (wrap64 (-(Int.tmod a0 10)))).bind fun t251 => (if t250.size + t251.size ≤ 9223372036854775807 then (some (t250 ++ t251)) else (none)))) else (if a0 < 10 then (some (strOfNums (([(wrap64 (48 + a0)) % 256] : List Int)))) else ((spec_l01Dec.f kj1 (wrap64 (Int.tdiv a0 10))).bind fun t255 => ((some (([(wrap64 (48 + (Int.tmod a0 10))) % 256] : List Int) : List Int)).bind fun y256 => (if t255.size + (strOfNums y256).size ≤ 9223372036854775807 then (some (t255 ++ (strOfNums y256))) else (none)))))) = some r := by rw [if_neg (show ¬ (false = true) by decide)] at H; exact H
    clear H
    have H := H1
    clear H1
    by_cases c8 : a0 < 0
    ·rw [if_pos c8] at H
     have c8b0 := decide_eq_true c8
     clear c8
     replace H := Option.bind_eq_some_iff.mp H
     obtain ⟨t250, A90, H⟩ := H
     replace H : ((spec_l01Dec.f kj1 (wrap64 (-(Int.tmod a0 10)))).bind fun t251 => (if t250.size + t251.size ≤ 9223372036854775807 then (some (t250 ++ t251)) else (none))) = some r := H
     have A9 := Aside0.mk A90
     clear A90
     replace H := Option.bind_eq_some_iff.mp H
     obtain ⟨t251, A100, H⟩ := H
     replace H : (if t250.size + t251.size ≤ 9223372036854775807 then (some (t250 ++ t251)) else (none)) = some r := H
     have A10 := Aside0.mk A100
     clear A100
     by_cases c11 : t250.size + t251.size ≤ 9223372036854775807
     rotate_left
     ·exact nope_ c11 H
     rw [if_pos c11] at H
     have c11b0 := eq_true c11
     have c11b1 := decide_eq_true c11
     try have c11b2 : (9223372036854775807 < t250.size + t251.size) = False := eq_false (Nat.not_lt.2 c11)
     obtain rfl := Option.some.inj H
     go_wp2_with (first | ((with_reducible refine gate_callee (f := 66) rfl ?_); refine goesL_ (some 17) rfl rfl Tryd.func66 (by kernel_rfl) rfl #[.int .i64 (wrap64 (Int.tdiv a0 10))] rfl mp_ ?_; (with_reducible refine (ih kj1 (by have := HJ1.out; omega) (wrap64 (Int.tdiv a0 10)) t250 _ A9.out).mono ?_); rintro e w12 ⟨rfl, hb⟩; refine ⟨_, rfl, ?_⟩; have n0_ := Aside0.mk (below_step (bl0_ HB.out) hb); clear HB; have HB := n0_; clear n0_; (try clear hb); (try clear hb2); (try clear hk); (try clear hi)) | ((with_reducible refine gate_callee (f := 66) rfl ?_); refine goesL_ (some 21) rfl rfl Tryd.func66 (by kernel_rfl) rfl #[.int .i64 (wrap64 (-(Int.tmod a0 10)))] rfl mp_ ?_; (with_reducible refine (ih kj1 (by have := HJ1.out; omega) (wrap64 (-(Int.tmod a0 10))) t251 _ A10.out).mono ?_); rintro e w13 ⟨rfl, hb⟩; refine ⟨_, rfl, ?_⟩; have n0_ := Aside0.mk (below_step (bl0_ HB.out) hb); clear HB; have HB := n0_; clear n0_; (try clear hb); (try clear hb2); (try clear hk); (try clear hi)))
     go_ret
     exact ⟨re_, bl0_ HB.out⟩
    ·rw [if_neg c8] at H
     have c8b0 := decide_eq_false c8
     clear c8
     by_cases c14 : a0 < 10
     ·rw [if_pos c14] at H
      have c14b0 := decide_eq_true c14
      clear c14
      obtain ⟨y252, hy252⟩ : ∃ y_ : List Int, y_ = (([(wrap64 (48 + a0)) % 256] : List Int)) := ⟨_, rfl⟩
      replace H : (some (strOfNums y252)) = some r := yh_ H hy252
      have Ny252 := Aside0.mk hy252
      clear hy252
      obtain rfl := Option.some.inj H
      go_wp2_with (first | ((with_reducible refine gate_dst (N := 28) rfl ?_); refine Kd.R_lit (Kd.int .u8) _ 5 ?hg (N := 28) ?hd (xs := ([(wrap64 (48 + a0)) % 256] : List Int)) (inner := [.int .u8 ((wrap64 (48 + a0)) % 256)]) (ok := fun _ => True) (okp := fun _ => True) ?hr ?hp (fun _ hk => hk) trivial (Below.refl _ _) (Nat.le_refl _) (by simp) ?_; (case hd => rfl); (case hg => rfl); (case hr => first | (go_simp; done) | (go_simp; rfl)); (case hp => exact (Reps.one (show Kd.M (Kd.int .u8) _ _ _ ((wrap64 (48 + a0)) % 256) [.int .u8 ((wrap64 (48 + a0)) % 256)] from rfl) (Reps.none _ _))); intro v253 w15 ho16 hb hg_ hnew_; clear hg_ hnew_; (first | rw [← Ny252.out] at ho16 | (simp only [Int.reduceToNat] at ho16; rw [← Ny252.out] at ho16)); have n0_ := Aside0.mk (Kd.R_lower ho16 (below_size (bl0_ HB.out))); have n1_ := Aside0.mk (below_step (bl0_ HB.out) hb); clear HB; have HO254 := n0_; have HB := n1_; clear n0_ n1_; clear hb ho16; have hcv17 := own_string (P := Tryd.prog) Tryd.underlying22 Tryd.underlying5 Tryd.underlying9 (Kd.own_of_R HO254.out)))
      go_ret
      exact ⟨re_, bl0_ HB.out⟩
     ·rw [if_neg c14] at H
      have c14b0 := decide_eq_false c14
      clear c14
      replace H := Option.bind_eq_some_iff.mp H
      obtain ⟨t255, A180, H⟩ := H
      replace H : ((some (([(wrap64 (48 + (Int.tmod a0 10))) % 256] : List Int) : List Int)).bind fun y256 => (if t255.size + (strOfNums y256).size ≤ 9223372036854775807 then (some (t255 ++ (strOfNums y256))) else (none))) = some r := H
      have A18 := Aside0.mk A180
      clear A180
      obtain ⟨y256, hy256⟩ : ∃ y_ : List Int, y_ = (([(wrap64 (48 + (Int.tmod a0 10))) % 256] : List Int)) := ⟨_, rfl⟩
      replace H : (if t255.size + (strOfNums y256).size ≤ 9223372036854775807 then (some (t255 ++ (strOfNums y256))) else (none)) = some r := yh_ H hy256
      have Ny256 := Aside0.mk hy256
      clear hy256
      by_cases c19 : t255.size + (strOfNums y256).size ≤ 9223372036854775807
      rotate_left
      ·exact nope_ c19 H
      rw [if_pos c19] at H
      have c19b0 := eq_true c19
      have c19b1 := decide_eq_true c19
      try have c19b2 : (9223372036854775807 < t255.size + (strOfNums y256).size) = False := eq_false (Nat.not_lt.2 c19)
      obtain rfl := Option.some.inj H
      try go_wp2
      have n0_ := Aside0.mk (below_drew1 HB.out)
      clear HB
      have HB := n0_
      clear n0_
      refine start_ (n := 11) (S := fun w' => True) (ds := []) (nb_ 11 0) (by kernel_rfl) rfl rfl trivial (fun hHeld => ?_); refine with_tabW spec_l01Dec.tab7 spec_l01Dec.bits7 (fun HT_ HW_ => ?_)
      generalize wc.drew = w20 at HB hHeld ⊢
      refine puz_ 0 (some 30) (nb_ 11 1) rfl rfl (any_of HT_.out (by kernel_rfl)) ?_
      refine puz_ 1 (some 31) (nb_ 11 3) rfl rfl (any_of HT_.out (by kernel_rfl)) ?_
      refine puz_ 3 (some 33) (nb_ 11 11) rfl rfl (any_of HT_.out (by kernel_rfl)) ?_
      refine puz_ 4 (some 34) (nb_ 11 27) rfl rfl (any_of HT_.out (by kernel_rfl)) ?_
      refine puz_ 5 (some 35) (nb_ 11 59) rfl rfl (any_of HT_.out (by kernel_rfl)) ?_
      refine puz_ 6 (some 36) (nb_ 11 123) rfl rfl (any_of HT_.out (by kernel_rfl)) ?_
      refine join_ (σ := Value) 2 (nb_ 11 511) (fun s_ => [(32, .string t255), (37, s_), (38, .string (strOfNums y256))]) (fun s_ w' => (Kd.R (Kd.int .u8) 5 w' w.heap.size (fun _ => True) s_ y256) ∧ (Below w.heap.size w w')) ?_ ?_
      rotate_left
      ·intro hCont
       refine two_ (i := 2) (j := 7) (Ni := some 32) (Nj := some 37) (nb_ 11 127) (nb_ 11 251) rfl rfl rfl rfl (two_of HT_.out (by kernel_rfl)) (by decide) (by decide) (fun K hK => ?_) (fun K hK => ?_)
       ·skip
        refine goes_ Tryd.func66 (by kernel_rfl) rfl #[.int .i64 (wrap64 (Int.tdiv a0 10))] (by rfl) rfl rfl mp_ ?_
        with_reducible refine (ih kj1 (by have := HJ1.out; omega) (wrap64 (Int.tdiv a0 10)) t255 _ A18.out).mono ?_
        rintro e w21 ⟨rfl, hb⟩
        refine ⟨_, rfl, ?_⟩
        have n0_ := Aside0.mk (below_step (bl0_ HB.out) hb)
        clear HB
        have HB := n0_
        clear n0_
        (try clear hb)
        (try clear hb2)
        (try clear hk)
        (try clear hi)
        refine hK.out _ _ trivial (fun hHeld => ?_)
        clear hK K
        refine norm_ (a' := ?_) ?_ ?_
        rotate_left
        ·show Act.put _ (some 32) _ = _
         simp only [Act.put, List.setIfInBounds_toArray, List.set_cons_zero, List.set_cons_succ, i64_w, i32_w]
         rfl
        refine one_ (i := 7) (N := some 37) (nb_ 11 255) rfl rfl (one_of HT_.out (by kernel_rfl)) (by decide) (fun K hK => ?_)
        refine Kd.R_lit_step (Kd.int .u8) _ 5 ?hg (N := 37) ?hd (xs := ([(wrap64 (48 + (Int.tmod a0 10))) % 256] : List Int)) (inner := [.int .u8 ((wrap64 (48 + (Int.tmod a0 10))) % 256)]) (ok := fun _ => True) (okp := fun _ => True) ?hr ?hp (fun _ hk => hk) trivial (Below.refl _ _) (Nat.le_refl _) (by simp) ?_; (case hd => rfl); (case hg => rfl); (case hr => first | (go_simp; done) | (go_simp; rfl)); (case hp => exact (Reps.one (show Kd.M (Kd.int .u8) _ _ _ ((wrap64 (48 + (Int.tmod a0 10))) % 256) [.int .u8 ((wrap64 (48 + (Int.tmod a0 10))) % 256)] from rfl) (Reps.none _ _)))
        intro v257 w22 ho23 hb hg_ hnew_
        clear hg_ hnew_
        (first | rw [← Ny256.out] at ho23 | (simp only [Int.reduceToNat] at ho23; rw [← Ny256.out] at ho23))
        have n0_ := Aside0.mk (Kd.R_lower ho23 (below_size (bl0_ HB.out)))
        have n1_ := Aside0.mk (below_step (bl0_ HB.out) hb)
        clear HB
        have HO258 := n0_
        have HB := n1_
        clear n0_ n1_
        clear hb ho23
        refine hK.out _ _ trivial (fun hHeld => ?_)
        clear hK K
        refine norm_ (a' := ?_) ?_ ?_
        rotate_left
        ·show Act.put _ (some 37) _ = _
         simp only [Act.put, List.setIfInBounds_toArray, List.set_cons_zero, List.set_cons_succ, i64_w, i32_w]
         rfl
        refine one_ (i := 8) (N := some 38) (nb_ 11 511) rfl rfl (one_of HT_.out (by kernel_rfl)) (by decide) (fun K hK => ?_)
        have hcv24 := own_string (P := Tryd.prog) Tryd.underlying22 Tryd.underlying5 Tryd.underlying9 (Kd.own_of_R HO258.out)
        refine value_ (w1 := ?_) (v := ?_) (by rfl) rfl ?_ ?_
        rotate_left 2
        ·go_simp
         constructor
         ·rfl
         ·rfl
        clear hcv24
        refine hK.out _ _ trivial (fun hHeld => ?_)
        clear hK K
        refine norm_ (a' := ?_) ?_ ?_
        rotate_left
        ·show Act.put _ (some 38) _ = _
         simp only [Act.put, List.setIfInBounds_toArray, List.set_cons_zero, List.set_cons_succ, i64_w, i32_w]
         rfl
        exact norm_ (by simp only [putAll, Act.put, List.setIfInBounds_toArray, List.set_cons_zero, List.set_cons_succ]) (hCont (v257) _ ⟨(ra_ HO258.out), (bl0_ HB.out)⟩)
       ·skip
        refine Kd.R_lit_step (Kd.int .u8) _ 5 ?hg (N := 37) ?hd (xs := ([(wrap64 (48 + (Int.tmod a0 10))) % 256] : List Int)) (inner := [.int .u8 ((wrap64 (48 + (Int.tmod a0 10))) % 256)]) (ok := fun _ => True) (okp := fun _ => True) ?hr ?hp (fun _ hk => hk) trivial (Below.refl _ _) (Nat.le_refl _) (by simp) ?_; (case hd => rfl); (case hg => rfl); (case hr => first | (go_simp; done) | (go_simp; rfl)); (case hp => exact (Reps.one (show Kd.M (Kd.int .u8) _ _ _ ((wrap64 (48 + (Int.tmod a0 10))) % 256) [.int .u8 ((wrap64 (48 + (Int.tmod a0 10))) % 256)] from rfl) (Reps.none _ _)))
        intro v257 w21 ho22 hb hg_ hnew_
        clear hg_ hnew_
        (first | rw [← Ny256.out] at ho22 | (simp only [Int.reduceToNat] at ho22; rw [← Ny256.out] at ho22))
        have n0_ := Aside0.mk (Kd.R_lower ho22 (below_size (bl0_ HB.out)))
        have n1_ := Aside0.mk (below_step (bl0_ HB.out) hb)
        clear HB
        have HO258 := n0_
        have HB := n1_
        clear n0_ n1_
        clear hb ho22
        refine hK.out _ _ trivial (fun hHeld => ?_)
        clear hK K
        refine norm_ (a' := ?_) ?_ ?_
        rotate_left
        ·show Act.put _ (some 37) _ = _
         simp only [Act.put, List.setIfInBounds_toArray, List.set_cons_zero, List.set_cons_succ, i64_w, i32_w]
         rfl
        refine two_ (i := 2) (j := 8) (Ni := some 32) (Nj := some 38) (nb_ 11 255) (nb_ 11 507) rfl rfl rfl rfl (two_of HT_.out (by kernel_rfl)) (by decide) (by decide) (fun K hK => ?_) (fun K hK => ?_)
        ·skip
         refine goes_ Tryd.func66 (by kernel_rfl) rfl #[.int .i64 (wrap64 (Int.tdiv a0 10))] (by rfl) rfl rfl mp_ ?_
         with_reducible refine (ih kj1 (by have := HJ1.out; omega) (wrap64 (Int.tdiv a0 10)) t255 _ A18.out).mono ?_
         rintro e w23 ⟨rfl, hb⟩
         refine ⟨_, rfl, ?_⟩
         have n0_ := Aside0.mk (Kd.R_below (ra_ HO258.out) hb)
         have n1_ := Aside0.mk (below_step (bl0_ HB.out) hb)
         clear HO258
         clear HB
         have HO258 := n0_
         have HB := n1_
         clear n0_ n1_
         (try clear hb)
         (try clear hb2)
         (try clear hk)
         (try clear hi)
         refine hK.out _ _ trivial (fun hHeld => ?_)
         clear hK K
         refine norm_ (a' := ?_) ?_ ?_
         rotate_left
         ·show Act.put _ (some 32) _ = _
          simp only [Act.put, List.setIfInBounds_toArray, List.set_cons_zero, List.set_cons_succ, i64_w, i32_w]
          rfl
         refine one_ (i := 8) (N := some 38) (nb_ 11 511) rfl rfl (one_of HT_.out (by kernel_rfl)) (by decide) (fun K hK => ?_)
         have hcv24 := own_string (P := Tryd.prog) Tryd.underlying22 Tryd.underlying5 Tryd.underlying9 (Kd.own_of_R HO258.out)
         refine value_ (w1 := ?_) (v := ?_) (by rfl) rfl ?_ ?_
         rotate_left 2
         ·go_simp
          constructor
          ·rfl
          ·rfl
         clear hcv24
         refine hK.out _ _ trivial (fun hHeld => ?_)
         clear hK K
         refine norm_ (a' := ?_) ?_ ?_
         rotate_left
         ·show Act.put _ (some 38) _ = _
          simp only [Act.put, List.setIfInBounds_toArray, List.set_cons_zero, List.set_cons_succ, i64_w, i32_w]
          rfl
         exact norm_ (by simp only [putAll, Act.put, List.setIfInBounds_toArray, List.set_cons_zero, List.set_cons_succ]) (hCont (v257) _ ⟨(ra_ HO258.out), (bl0_ HB.out)⟩)
        ·skip
         have hcv23 := own_string (P := Tryd.prog) Tryd.underlying22 Tryd.underlying5 Tryd.underlying9 (Kd.own_of_R HO258.out)
         refine value_ (w1 := ?_) (v := ?_) (by rfl) rfl ?_ ?_
         rotate_left 2
         ·go_simp
          constructor
          ·rfl
          ·rfl
         clear hcv23
         refine hK.out _ _ trivial (fun hHeld => ?_)
         clear hK K
         refine norm_ (a' := ?_) ?_ ?_
         rotate_left
         ·show Act.put _ (some 38) _ = _
          simp only [Act.put, List.setIfInBounds_toArray, List.set_cons_zero, List.set_cons_succ, i64_w, i32_w]
          rfl
         refine one_ (i := 2) (N := some 32) (nb_ 11 511) rfl rfl (one_of HT_.out (by kernel_rfl)) (by decide) (fun K hK => ?_)
         refine goes_ Tryd.func66 (by kernel_rfl) rfl #[.int .i64 (wrap64 (Int.tdiv a0 10))] (by rfl) rfl rfl mp_ ?_
         with_reducible refine (ih kj1 (by have := HJ1.out; omega) (wrap64 (Int.tdiv a0 10)) t255 _ A18.out).mono ?_
         rintro e w24 ⟨rfl, hb⟩
         refine ⟨_, rfl, ?_⟩
         have n0_ := Aside0.mk (Kd.R_below (ra_ HO258.out) hb)
         have n1_ := Aside0.mk (below_step (bl0_ HB.out) hb)
         clear HO258
         clear HB
         have HO258 := n0_
         have HB := n1_
         clear n0_ n1_
         (try clear hb)
         (try clear hb2)
         (try clear hk)
         (try clear hi)
         refine hK.out _ _ trivial (fun hHeld => ?_)
         clear hK K
         refine norm_ (a' := ?_) ?_ ?_
         rotate_left
         ·show Act.put _ (some 32) _ = _
          simp only [Act.put, List.setIfInBounds_toArray, List.set_cons_zero, List.set_cons_succ, i64_w, i32_w]
          rfl
         exact norm_ (by simp only [putAll, Act.put, List.setIfInBounds_toArray, List.set_cons_zero, List.set_cons_succ]) (hCont (v257) _ ⟨(ra_ HO258.out), (bl0_ HB.out)⟩)
      rintro v257 w25 ⟨h0_, h1_⟩
      have n0_ : Aside0 (Kd.R (Kd.int .u8) 5 w25 w.heap.size (fun _ => True) v257 y256) := ⟨h0_⟩
      have n1_ : Aside0 (Below w.heap.size w w25) := ⟨h1_⟩
      clear HB
      clear h0_ h1_
      have HO258 := n0_
      have HB := n1_
      clear n0_ n1_
      have hHeld := trivial
      refine norm_ (a' := ?_) ?_ ?_
      rotate_left
      ·simp only [putAll, Act.put, List.setIfInBounds_toArray, List.set_cons_zero, List.set_cons_succ]
       rfl
      refine puz_ 9 (some 39) (nb_ 11 1023) rfl rfl (any_of HT_.out (by kernel_rfl)) ?_
      refine puz_ 10 (some 2) (nb_ 11 2047) rfl rfl (any_of HT_.out (by kernel_rfl)) ?_
      refine done_ (done_of HT_.out (by kernel_rfl)) ?_
      try go_wp2
      go_ret
      exact ⟨re_, bl0_ HB.out⟩

/-! ### spec_l30Text: function 48 -/
def spec_l30Text.l0 : Nat → ByteArray → Int → Int → List (S52) → Option (ByteArray)
 | 0, _, _, _, _ => none
 | k + 1, x3, x4, x1000, x1001 => if x4 < (x1001.length : Int) then (if 0 ≤ x4 then ((spec_l01Dec.f k ((rd_T52 x1001 x4).f0)).bind fun t262 => (if 1 + t262.size ≤ 9223372036854775807 then (if ((⟨#[32]⟩ : ByteArray) ++ t262).size + 1 ≤ 9223372036854775807 then ((spec_l01Dec.f k ((rd_T52 x1001 x4).f1)).bind fun t263 => (if (((⟨#[32]⟩ : ByteArray) ++ t262) ++ (⟨#[45]⟩ : ByteArray)).size + t263.size ≤ 9223372036854775807 then (if ((((⟨#[32]⟩ : ByteArray) ++ t262) ++ (⟨#[45]⟩ : ByteArray)) ++ t263).size + 1 ≤ 9223372036854775807 then ((spec_l01Dec.f k ((rd_T52 x1001 x4).f2)).bind fun t264 => (if (((((⟨#[32]⟩ : ByteArray) ++ t262) ++ (⟨#[45]⟩ : ByteArray)) ++ t263) ++ (⟨#[58]⟩ : ByteArray)).size + t264.size ≤ 9223372036854775807 then (if x3.size + ((((((⟨#[32]⟩ : ByteArray) ++ t262) ++ (⟨#[45]⟩ : ByteArray)) ++ t263) ++ (⟨#[58]⟩ : ByteArray)) ++ t264).size ≤ 9223372036854775807 then (spec_l30Text.l0 k (x3 ++ ((((((⟨#[32]⟩ : ByteArray) ++ t262) ++ (⟨#[45]⟩ : ByteArray)) ++ t263) ++ (⟨#[58]⟩ : ByteArray)) ++ t264)) (wrap64 (x4 + 1)) x1000 x1001) else (none)) else (none))) else (none)) else (none))) else (none)) else (none))) else (none)) else (some x3)
def spec_l30Text.f (k : Nat) (a0_0 : Int) (l0_1 : List (S52)) : Option (ByteArray) := (spec_l01Dec.f k a0_0).bind fun t259 => (spec_l30Text.l0 k t259 0 a0_0 l0_1)
theorem spec_l30Text.mono_l : ∀ k, (∀ y0 y1 y2 y3, LeO (spec_l30Text.l0 k y0 y1 y2 y3) (spec_l30Text.l0 (k + 1) y0 y1 y2 y3))
 | 0 => fun _ _ _ _ r h => by simp [spec_l30Text.l0] at h
 | k + 1 => by
  have ih0 := spec_l30Text.mono_l k
  ·intro y0 y1 y2 y3
   unfold spec_l30Text.l0
   repeat' first
   | (with_reducible exact ih0 _ _ _ _)
   | (with_reducible exact spec_l01Dec.mono _ _)
   | (with_reducible exact LeO.refl _)
   | (with_reducible exact LeO.none _)
   | (with_reducible refine LeO.ite ?_ ?_)
   | (with_reducible refine LeO.bind ?_ (fun _ => ?_))
   | exact spec_l01Dec.mono _ _
   | exact LeO.none _
   | refine LeO.ite ?_ ?_
   | refine LeO.bind ?_ (fun _ => ?_)
theorem spec_l30Text.mono : ∀ a0 a1 k, LeO (spec_l30Text.f k a0 a1) (spec_l30Text.f (k + 1) a0 a1) := by
 intro a0 a1 k
 have ih0 := spec_l30Text.mono_l k
 unfold spec_l30Text.f
 repeat' first
   | (with_reducible exact ih0 _ _ _ _)
   | (with_reducible exact spec_l01Dec.mono _ _)
   | (with_reducible exact LeO.refl _)
   | (with_reducible exact LeO.none _)
   | (with_reducible refine LeO.ite ?_ ?_)
   | (with_reducible refine LeO.bind ?_ (fun _ => ?_))
   | exact spec_l01Dec.mono _ _
   | exact LeO.none _
   | refine LeO.ite ?_ ?_
   | refine LeO.bind ?_ (fun _ => ?_)
def spec_l30Text.T6 : Bool × List (List Nat × List Nat) := (true, [([], []), ([], []), ([1], [1]), ([2], [2]), ([3], [3]), ([4], [4]), ([], []), ([6], [6]), ([7, 3], [7]), ([5, 8], [5, 8]), ([9], [9]), ([], []), ([11], [11]), ([12, 8], [12]), ([10, 13], [10, 13]), ([0, 14], [0, 14]), ([15, 13, 0, 1, 2, 3, 4, 5, 6, 7, 8, 9, 10, 11, 12, 13, 14, 15], [0, 15])])
def spec_l30Text.B6 : List Nat := [0, 0, 2, 6, 14, 30, 0, 64, 206, 510, 1022, 0, 2048, 6606, 16382, 32767, 65535]
theorem spec_l30Text.tab6 : rtab .any (opsOf Tryd.f48 6) = spec_l30Text.T6 := by kernel_rfl
theorem spec_l30Text.bits6 : waitsOk spec_l30Text.T6.2 spec_l30Text.B6 = true := by kernel_rfl
set_option maxHeartbeats 8000000 in
set_option maxRecDepth 100000 in
theorem spec_l30Text.calls (k : Nat) (g0 : Nat) (a0_0 : Int) (A0_1 : Option Addr) (c0_1 : Nat) (l0_1 : List (S52)) (r : ByteArray) (w : World) (hb0 : w.heap[g0]? = some (.cells #[.int .i64 a0_0, .slice A0_1 l0_1.length c0_1] 26 (0, 0))) (hr0_1 : Kd.C k52 w A0_1 l0_1.length l0_1) (hc0_1 : l0_1.length ≤ c0_1) (h : spec_l30Text.f k a0_0 l0_1 = some r) :
  Calls Tryd.prog 48 #[.pointer (some ⟨g0, 0, none⟩)] w fun e w' => e = .returned (.string r) ∧ Below w.heap.size w w' := by
 have hu52 := Tryd.underlying52
 have HR0_1 := Aside0.mk hr0_1
 have HC0_1 := Aside0.mk hc0_1
 clear hr0_1 hc0_1
 have BK0 := Aside0.mk hb0
 clear hb0
 have HB := Aside0.mk (Below.refl w.heap.size w)
 have H : ((spec_l01Dec.f k a0_0).bind fun t259 => (spec_l30Text.l0 k t259 0 a0_0 l0_1)) = some r := h
 clear h
 replace H := Option.bind_eq_some_iff.mp H
 obtain ⟨t259, A20, H⟩ := H
 replace H : (spec_l30Text.l0 k t259 0 a0_0 l0_1) = some r := H
 have A2 := Aside0.mk A20
 clear A20
 have H' := Aside0.mk H
 clear H
 obtain ⟨hcz3_0, hcz3_1, hfz3_0, hfz3_1⟩ := cz2_ BK0.out
 go_enter Tryd.func48, Tryd.ntmps48
 go_wp2_with (first | ((with_reducible refine gate_callee (f := 66) rfl ?_); refine goesL_ (some 10) rfl rfl Tryd.func66 (by kernel_rfl) rfl #[.int .i64 a0_0] rfl mp_ ?_; (with_reducible refine (spec_l01Dec.calls k a0_0 t259 _ A2.out).mono ?_); rintro e w4 ⟨rfl, hb⟩; refine ⟨_, rfl, ?_⟩; have n0_ := Aside0.mk (blk_below (g := g0) (o := .cells #[.int .i64 a0_0, .slice A0_1 l0_1.length c0_1] 26 (0, 0)) (bk_ BK0.out) hb); have n1_ := Aside0.mk (below_step (bl0_ HB.out) hb); clear BK0; clear HB; have BK0 := n0_; have HB := n1_; clear n0_ n1_; (try clear hb); (try clear hb2); (try clear hk); (try clear hi)))
 go_loopg [3, 4] k (fun kq v3 v4 w' => ∃ (x3_1 : ByteArray) (x4_1 : Int), v3 = .string x3_1 ∧ v4 = .int .i64 x4_1 ∧ Aside0 (spec_l30Text.l0 kq x3_1 x4_1 a0_0 l0_1 = some r) ∧ Aside0 (kq ≤ k) ∧ Aside0 (w'.heap[g0]? = some (.cells #[.int .i64 a0_0, (.slice A0_1 l0_1.length c0_1)] 26 (0, 0))) ∧ Aside0 (Below w.heap.size w w'))
 case atStart => exact ⟨(t259), (0), rs_, rs_, H', ⟨Nat.le_refl _⟩, ⟨bk_ BK0.out⟩, ⟨bl0_ HB.out⟩⟩
 case round =>
  clear H'
  try clear p2
  try clear c4
  try clear hcz3_0
  try clear hcz3_1
  try clear hfz3_0
  try clear hfz3_1
  obtain ⟨x3_1, x4_1, rfl, rfl, HA, HK1, BK0, HB⟩ := hrel
  cases gk with
  | zero => exact absurd HA.out (by simp [spec_l30Text.l0])
  | succ k1 =>
   have H := HA.out
   clear HA
   simp only [spec_l30Text.l0] at H
   by_cases c5 : x4_1 < (l0_1.length : Int)
   ·rw [if_pos c5] at H
    have c5b0 := decide_eq_true c5
    clear c5
    by_cases c6 : 0 ≤ x4_1
    rotate_left
    ·exact nope_ c6 H
    rw [if_pos c6] at H
    have c6b0 := decide_eq_true c6
    clear c6
    replace H := Option.bind_eq_some_iff.mp H
    obtain ⟨t262, A70, H⟩ := H
    replace H : (if 1 + t262.size ≤ 9223372036854775807 then (if ((⟨#[32]⟩ : ByteArray) ++ t262).size + 1 ≤ 9223372036854775807 then ((spec_l01Dec.f k1 ((rd_T52 l0_1 x4_1).f1)).bind fun t263 => (if (((⟨#[32]⟩ : ByteArray) ++ t262) ++ (⟨#[45]⟩ : ByteArray)).size + t263.size ≤ 9223372036854775807 then (if ((((⟨#[32]⟩ : ByteArray) ++ t262) ++ (⟨#[45]⟩ : ByteArray)) ++ t263).size + 1 ≤ 9223372036854775807 then ((spec_l01Dec.f k1 ((rd_T52 l0_1 x4_1).f2)).bind fun t264 => (if (((((⟨#[32]⟩ : ByteArray) ++ t262) ++ (⟨#[45]⟩ : ByteArray)) ++ t263) ++ (⟨#[58]⟩ : ByteArray)).size + t264.size ≤ 9223372036854775807 then (if x3_1.size + ((((((⟨#[32]⟩ : ByteArray) ++ t262) ++ (⟨#[45]⟩ : ByteArray)) ++ t263) ++ (⟨#[58]⟩ : ByteArray)) ++ t264).size ≤ 9223372036854775807 then (spec_l30Text.l0 k1 (x3_1 ++ ((((((⟨#[32]⟩ : ByteArray) ++ t262) ++ (⟨#[45]⟩ : ByteArray)) ++ t263) ++ (⟨#[58]⟩ : ByteArray)) ++ t264)) (wrap64 (x4_1 + 1)) a0_0 l0_1) else (none)) else (none))) else (none)) else (none))) else (none)) else (none)) = some r := H
    have A7 := Aside0.mk A70
    clear A70
    by_cases c8 : 1 + t262.size ≤ 9223372036854775807
    rotate_left
    ·exact nope_ c8 H
    rw [if_pos c8] at H
    have c8b0 := eq_true c8
    have c8b1 := decide_eq_true c8
    try have c8b2 : (9223372036854775807 < 1 + t262.size) = False := eq_false (Nat.not_lt.2 c8)
    by_cases c9 : ((⟨#[32]⟩ : ByteArray) ++ t262).size + 1 ≤ 9223372036854775807
    rotate_left
    ·exact nope_ c9 H
    rw [if_pos c9] at H
    have c9b0 := eq_true c9
    have c9b1 := decide_eq_true c9
    try have c9b2 : (9223372036854775807 < ((⟨#[32]⟩ : ByteArray) ++ t262).size + 1) = False := eq_false (Nat.not_lt.2 c9)
    try (have c9b2s := c9b2; simp only [ByteArray.size_append, sz1_] at c9b2s)
    replace H := Option.bind_eq_some_iff.mp H
    obtain ⟨t263, A100, H⟩ := H
    replace H : (if (((⟨#[32]⟩ : ByteArray) ++ t262) ++ (⟨#[45]⟩ : ByteArray)).size + t263.size ≤ 9223372036854775807 then (if ((((⟨#[32]⟩ : ByteArray) ++ t262) ++ (⟨#[45]⟩ : ByteArray)) ++ t263).size + 1 ≤ 9223372036854775807 then ((spec_l01Dec.f k1 ((rd_T52 l0_1 x4_1).f2)).bind fun t264 => (if (((((⟨#[32]⟩ : ByteArray) ++ t262) ++ (⟨#[45]⟩ : ByteArray)) ++ t263) ++ (⟨#[58]⟩ : ByteArray)).size + t264.size ≤ 9223372036854775807 then (if x3_1.size + ((((((⟨#[32]⟩ : ByteArray) ++ t262) ++ (⟨#[45]⟩ : ByteArray)) ++ t263) ++ (⟨#[58]⟩ : ByteArray)) ++ t264).size ≤ 9223372036854775807 then (spec_l30Text.l0 k1 (x3_1 ++ ((((((⟨#[32]⟩ : ByteArray) ++ t262) ++ (⟨#[45]⟩ : ByteArray)) ++ t263) ++ (⟨#[58]⟩ : ByteArray)) ++ t264)) (wrap64 (x4_1 + 1)) a0_0 l0_1) else (none)) else (none))) else (none)) else (none)) = some r := H
    have A10 := Aside0.mk A100
    clear A100
    by_cases c11 : (((⟨#[32]⟩ : ByteArray) ++ t262) ++ (⟨#[45]⟩ : ByteArray)).size + t263.size ≤ 9223372036854775807
    rotate_left
    ·exact nope_ c11 H
    rw [if_pos c11] at H
    have c11b0 := eq_true c11
    have c11b1 := decide_eq_true c11
    try have c11b2 : (9223372036854775807 < (((⟨#[32]⟩ : ByteArray) ++ t262) ++ (⟨#[45]⟩ : ByteArray)).size + t263.size) = False := eq_false (Nat.not_lt.2 c11)
    try (have c11b2s := c11b2; simp only [ByteArray.size_append, sz1_] at c11b2s)
    by_cases c12 : ((((⟨#[32]⟩ : ByteArray) ++ t262) ++ (⟨#[45]⟩ : ByteArray)) ++ t263).size + 1 ≤ 9223372036854775807
    rotate_left
    ·exact nope_ c12 H
    rw [if_pos c12] at H
    have c12b0 := eq_true c12
    have c12b1 := decide_eq_true c12
    try have c12b2 : (9223372036854775807 < ((((⟨#[32]⟩ : ByteArray) ++ t262) ++ (⟨#[45]⟩ : ByteArray)) ++ t263).size + 1) = False := eq_false (Nat.not_lt.2 c12)
    try (have c12b2s := c12b2; simp only [ByteArray.size_append, sz1_] at c12b2s)
    replace H := Option.bind_eq_some_iff.mp H
    obtain ⟨t264, A130, H⟩ := H
    replace H : (if (((((⟨#[32]⟩ : ByteArray) ++ t262) ++ (⟨#[45]⟩ : ByteArray)) ++ t263) ++ (⟨#[58]⟩ : ByteArray)).size + t264.size ≤ 9223372036854775807 then (if x3_1.size + ((((((⟨#[32]⟩ : ByteArray) ++ t262) ++ (⟨#[45]⟩ : ByteArray)) ++ t263) ++ (⟨#[58]⟩ : ByteArray)) ++ t264).size ≤ 9223372036854775807 then (spec_l30Text.l0 k1 (x3_1 ++ ((((((⟨#[32]⟩ : ByteArray) ++ t262) ++ (⟨#[45]⟩ : ByteArray)) ++ t263) ++ (⟨#[58]⟩ : ByteArray)) ++ t264)) (wrap64 (x4_1 + 1)) a0_0 l0_1) else (none)) else (none)) = some r := H
    have A13 := Aside0.mk A130
    clear A130
    by_cases c14 : (((((⟨#[32]⟩ : ByteArray) ++ t262) ++ (⟨#[45]⟩ : ByteArray)) ++ t263) ++ (⟨#[58]⟩ : ByteArray)).size + t264.size ≤ 9223372036854775807
    rotate_left
    ·exact nope_ c14 H
    rw [if_pos c14] at H
    have c14b0 := eq_true c14
    have c14b1 := decide_eq_true c14
    try have c14b2 : (9223372036854775807 < (((((⟨#[32]⟩ : ByteArray) ++ t262) ++ (⟨#[45]⟩ : ByteArray)) ++ t263) ++ (⟨#[58]⟩ : ByteArray)).size + t264.size) = False := eq_false (Nat.not_lt.2 c14)
    try (have c14b2s := c14b2; simp only [ByteArray.size_append, sz1_] at c14b2s)
    by_cases c15 : x3_1.size + ((((((⟨#[32]⟩ : ByteArray) ++ t262) ++ (⟨#[45]⟩ : ByteArray)) ++ t263) ++ (⟨#[58]⟩ : ByteArray)) ++ t264).size ≤ 9223372036854775807
    rotate_left
    ·exact nope_ c15 H
    rw [if_pos c15] at H
    have c15b0 := eq_true c15
    have c15b1 := decide_eq_true c15
    try have c15b2 : (9223372036854775807 < x3_1.size + ((((((⟨#[32]⟩ : ByteArray) ++ t262) ++ (⟨#[45]⟩ : ByteArray)) ++ t263) ++ (⟨#[58]⟩ : ByteArray)) ++ t264).size) = False := eq_false (Nat.not_lt.2 c15)
    try (have c15b2s := c15b2; simp only [ByteArray.size_append, sz1_] at c15b2s)
    have H' := Aside0.mk H
    clear H
    obtain ⟨hcz16_0, hcz16_1, hfz16_0, hfz16_1⟩ := cz2_ BK0.out
    have p260 : 0 ≤ (x4_1 : Int) := od_
    have q260 : x4_1 < (l0_1.length : Int) := od_
    obtain ⟨ad260, e260, hx260_0, hx260_1, hx260_2⟩ := at_T52 HR0_1.out x4_1 p260 q260
    cases e260
    replace hx260_0 := (HB.out.cell (World.block_lt_of_cell? w _ hx260_0)).trans hx260_0
    replace hx260_1 := (HB.out.cell (World.block_lt_of_cell? w _ hx260_1)).trans hx260_1
    replace hx260_2 := (HB.out.cell (World.block_lt_of_cell? w _ hx260_2)).trans hx260_2
    replace p260 := eq_true p260
    replace q260 := eq_true q260
    try go_wp2_with (first | ((with_reducible refine gate_dst (N := 5) rfl ?_); refine box_event ?hg (N := 5) ?hd (cs := #[.int .i64 0, .int .i64 0, .int .i64 0]) (t := 52) ?hr ?_; (case hd => rfl); (case hg => rfl); (case hr => first | (go_simp; done) | (go_simp; rfl)); intro gb261 hg w17 hbox hb; have n0_ := Aside0.mk (blk_below (g := g0) (o := .cells #[.int .i64 a0_0, .slice (some ad260) l0_1.length c0_1] 26 (0, 0)) (bk_ BK0.out) hb); have n1_ := Aside0.mk (below_step (bl0_ HB.out) hb); have n2_ := Aside0.mk (hbox); have n3_ := Aside0.mk ((by rw [hg]; exact (below_size (bl0_ HB.out)) : w.heap.size ≤ gb261)); have n4_ := Aside0.mk ((by rw [hg]; exact (below_size (bl0_ HB.out)) : w.heap.size ≤ gb261)); have n5_ := Aside0.mk ((by rw [hg]; exact Nat.ne_of_lt (blk_lt (g := g0) (o := .cells #[.int .i64 a0_0, .slice (some ad260) l0_1.length c0_1] 26 (0, 0)) (bk_ BK0.out)) : g0 ≠ gb261)); have n6_ := Aside0.mk ((by rw [hg]; exact Nat.ne_of_gt (blk_lt (g := g0) (o := .cells #[.int .i64 a0_0, .slice (some ad260) l0_1.length c0_1] 26 (0, 0)) (bk_ BK0.out)) : gb261 ≠ g0)); clear BK0; clear HB; have BK0 := n0_; have HB := n1_; have BK261 := n2_; have GW261 := n3_; have GE261 := n4_; have NB0_261 := n5_; have NB261_0 := n6_; clear n0_ n1_ n2_ n3_ n4_ n5_ n6_; clear hb hbox hg; have hnb18 := NB261_0.out; have hnc18 := NB0_261.out; obtain ⟨hcz19_0, hcz19_1, hcz19_2, hfz19_0, hfz19_1, hfz19_2⟩ := cz3_ BK261.out))
    have n0_ : Aside0 ((((w17.setCell ⟨gb261, 0, none⟩ (.int .i64 ((rd_T52 l0_1 x4_1).f0))).setCell ⟨gb261, 1, none⟩ (.int .i64 ((rd_T52 l0_1 x4_1).f1))).setCell ⟨gb261, 2, none⟩ (.int .i64 ((rd_T52 l0_1 x4_1).f2))).heap[g0]? = some (.cells #[.int .i64 a0_0, .slice (some ad260) l0_1.length c0_1] 26 (0, 0))) := ⟨by (with_reducible repeat (first | refine blk_drewN ?_ _ | refine blk_drew ?_ | refine blk_alloc ?_ _)); refine blk_far ?_ NB0_261.out _; (with_reducible repeat (first | refine blk_drewN ?_ _ | refine blk_drew ?_ | refine blk_alloc ?_ _)); refine blk_far ?_ NB0_261.out _; (with_reducible repeat (first | refine blk_drewN ?_ _ | refine blk_drew ?_ | refine blk_alloc ?_ _)); refine blk_far ?_ NB0_261.out _; (with_reducible repeat (first | refine blk_drewN ?_ _ | refine blk_drew ?_ | refine blk_alloc ?_ _)); exact BK0.out⟩
    have n1_ : Aside0 ((((w17.setCell ⟨gb261, 0, none⟩ (.int .i64 ((rd_T52 l0_1 x4_1).f0))).setCell ⟨gb261, 1, none⟩ (.int .i64 ((rd_T52 l0_1 x4_1).f1))).setCell ⟨gb261, 2, none⟩ (.int .i64 ((rd_T52 l0_1 x4_1).f2))).heap[gb261]? = some (.cells #[.int .i64 ((rd_T52 l0_1 x4_1).f0), .int .i64 ((rd_T52 l0_1 x4_1).f1), .int .i64 ((rd_T52 l0_1 x4_1).f2)] 52 (0, 0))) := ⟨by (with_reducible repeat (first | refine blk_drewN ?_ _ | refine blk_drew ?_ | refine blk_alloc ?_ _)); refine blk_put (cs := #[.int .i64 ((rd_T52 l0_1 x4_1).f0), .int .i64 ((rd_T52 l0_1 x4_1).f1), .int .i64 0]) ?_ 2 _ rfl; (with_reducible repeat (first | refine blk_drewN ?_ _ | refine blk_drew ?_ | refine blk_alloc ?_ _)); refine blk_put (cs := #[.int .i64 ((rd_T52 l0_1 x4_1).f0), .int .i64 0, .int .i64 0]) ?_ 1 _ rfl; (with_reducible repeat (first | refine blk_drewN ?_ _ | refine blk_drew ?_ | refine blk_alloc ?_ _)); refine blk_put (cs := #[.int .i64 0, .int .i64 0, .int .i64 0]) ?_ 0 _ rfl; (with_reducible repeat (first | refine blk_drewN ?_ _ | refine blk_drew ?_ | refine blk_alloc ?_ _)); exact BK261.out⟩
    have n2_ : Aside0 (Below w.heap.size w (((w17.setCell ⟨gb261, 0, none⟩ (.int .i64 ((rd_T52 l0_1 x4_1).f0))).setCell ⟨gb261, 1, none⟩ (.int .i64 ((rd_T52 l0_1 x4_1).f1))).setCell ⟨gb261, 2, none⟩ (.int .i64 ((rd_T52 l0_1 x4_1).f2)))) := ⟨bl1_ HB.out GE261.out⟩
    (try clear BK0)
    (try clear BK261)
    (try clear HB)
    generalize (((w17.setCell ⟨gb261, 0, none⟩ (.int .i64 ((rd_T52 l0_1 x4_1).f0))).setCell ⟨gb261, 1, none⟩ (.int .i64 ((rd_T52 l0_1 x4_1).f1))).setCell ⟨gb261, 2, none⟩ (.int .i64 ((rd_T52 l0_1 x4_1).f2))) = w20 at n0_ n1_ n2_ ⊢
    have BK0 := n0_
    have BK261 := n1_
    have HB := n2_
    clear n0_ n1_ n2_
    have n0_ := Aside0.mk (blk_drew BK0.out)
    have n1_ := Aside0.mk (blk_drew BK261.out)
    have n2_ := Aside0.mk (below_drew1 HB.out)
    clear BK0
    clear BK261
    clear HB
    have BK0 := n0_
    have BK261 := n1_
    have HB := n2_
    clear n0_ n1_ n2_
    refine start_ (n := 17) (S := fun w' => w'.cell? ⟨gb261, 0, none⟩ = some (.int .i64 ((rd_T52 l0_1 x4_1).f0)) ∧ w'.cell? ⟨gb261, 1, none⟩ = some (.int .i64 ((rd_T52 l0_1 x4_1).f1)) ∧ w'.cell? ⟨gb261, 2, none⟩ = some (.int .i64 ((rd_T52 l0_1 x4_1).f2))) (ds := []) (nb_ 17 0) (by kernel_rfl) rfl rfl ⟨(blk_cell BK261.out 0).trans rfl, (blk_cell BK261.out 1).trans rfl, (blk_cell BK261.out 2).trans rfl⟩ (fun hHeld => ?_); refine with_tabW spec_l30Text.tab6 spec_l30Text.bits6 (fun HT_ HW_ => ?_)
    generalize w20.drew = w21 at BK0 BK261 HB hHeld ⊢
    refine puz_ 0 (some 27) (nb_ 17 1) rfl rfl (any_of HT_.out (by kernel_rfl)) ?_
    refine puz_ 1 (some 28) (nb_ 17 3) rfl rfl (any_of HT_.out (by kernel_rfl)) ?_
    refine puz_ 6 (some 33) (nb_ 17 67) rfl rfl (any_of HT_.out (by kernel_rfl)) ?_
    refine puz_ 11 (some 38) (nb_ 17 2115) rfl rfl (any_of HT_.out (by kernel_rfl)) ?_
    refine tkz_ 2 (some 29) (nb_ 17 2119) rfl rfl (take_ofW HT_.out HW_.out (by kernel_rfl)) hHeld ?_
    refine tkz_ 7 (some 34) (nb_ 17 2247) rfl rfl (take_ofW HT_.out HW_.out (by kernel_rfl)) hHeld ?_
    refine tkz_ 12 (some 39) (nb_ 17 6343) rfl rfl (take_ofW HT_.out HW_.out (by kernel_rfl)) hHeld ?_
    refine one_ (i := 3) (N := some 30) (nb_ 17 6351) rfl rfl (one_of HT_.out (by kernel_rfl)) (by decide) (fun K hK => ?_)
    refine goes_ Tryd.func66 (by kernel_rfl) rfl #[.int .i64 ((rd_T52 l0_1 x4_1).f0)] (by rfl) rfl rfl mp_ ?_
    with_reducible refine (spec_l01Dec.calls k1 ((rd_T52 l0_1 x4_1).f0) t262 _ A7.out).mono ?_
    rintro e w22 ⟨rfl, hb⟩
    refine ⟨_, rfl, ?_⟩
    have n0_ := Aside0.mk (blk_below (g := g0) (o := .cells #[.int .i64 a0_0, .slice (some ad260) l0_1.length c0_1] 26 (0, 0)) (bk_ BK0.out) hb)
    have n1_ := Aside0.mk (blk_below (g := gb261) (o := .cells #[.int .i64 ((rd_T52 l0_1 x4_1).f0), .int .i64 ((rd_T52 l0_1 x4_1).f1), .int .i64 ((rd_T52 l0_1 x4_1).f2)] 52 (0, 0)) (bk_ BK261.out) hb)
    have n2_ := Aside0.mk (below_step (bl1_ HB.out GE261.out) hb)
    clear BK0
    clear BK261
    clear HB
    have BK0 := n0_
    have BK261 := n1_
    have HB := n2_
    clear n0_ n1_ n2_
    (try clear hb)
    (try clear hb2)
    (try clear hk)
    (try clear hi)
    refine hK.out _ _ ⟨(blk_cell BK261.out 0).trans rfl, (blk_cell BK261.out 1).trans rfl, (blk_cell BK261.out 2).trans rfl⟩ (fun hHeld => ?_)
    clear hK K
    refine norm_ (a' := ?_) ?_ ?_
    rotate_left
    ·show Act.put _ (some 30) _ = _
     simp only [Act.put, List.setIfInBounds_toArray, List.set_cons_zero, List.set_cons_succ, i64_w, i32_w]
     rfl
    refine puz_ 4 (some 31) (nb_ 17 6367) rfl rfl (any_of HT_.out (by kernel_rfl)) ?_
    refine puz_ 5 (some 32) (nb_ 17 6399) rfl rfl (any_of HT_.out (by kernel_rfl)) ?_
    refine one_ (i := 8) (N := some 35) (nb_ 17 6655) rfl rfl (one_of HT_.out (by kernel_rfl)) (by decide) (fun K hK => ?_)
    refine goes_ Tryd.func66 (by kernel_rfl) rfl #[.int .i64 ((rd_T52 l0_1 x4_1).f1)] (by rfl) rfl rfl mp_ ?_
    with_reducible refine (spec_l01Dec.calls k1 ((rd_T52 l0_1 x4_1).f1) t263 _ A10.out).mono ?_
    rintro e w23 ⟨rfl, hb⟩
    refine ⟨_, rfl, ?_⟩
    have n0_ := Aside0.mk (blk_below (g := g0) (o := .cells #[.int .i64 a0_0, .slice (some ad260) l0_1.length c0_1] 26 (0, 0)) (bk_ BK0.out) hb)
    have n1_ := Aside0.mk (blk_below (g := gb261) (o := .cells #[.int .i64 ((rd_T52 l0_1 x4_1).f0), .int .i64 ((rd_T52 l0_1 x4_1).f1), .int .i64 ((rd_T52 l0_1 x4_1).f2)] 52 (0, 0)) (bk_ BK261.out) hb)
    have n2_ := Aside0.mk (below_step (bl1_ HB.out GE261.out) hb)
    clear BK0
    clear BK261
    clear HB
    have BK0 := n0_
    have BK261 := n1_
    have HB := n2_
    clear n0_ n1_ n2_
    (try clear hb)
    (try clear hb2)
    (try clear hk)
    (try clear hi)
    refine hK.out _ _ ⟨(blk_cell BK261.out 0).trans rfl, (blk_cell BK261.out 1).trans rfl, (blk_cell BK261.out 2).trans rfl⟩ (fun hHeld => ?_)
    clear hK K
    refine norm_ (a' := ?_) ?_ ?_
    rotate_left
    ·show Act.put _ (some 35) _ = _
     simp only [Act.put, List.setIfInBounds_toArray, List.set_cons_zero, List.set_cons_succ, i64_w, i32_w]
     rfl
    refine puz_ 9 (some 36) (nb_ 17 7167) rfl rfl (any_of HT_.out (by kernel_rfl)) ?_
    refine puz_ 10 (some 37) (nb_ 17 8191) rfl rfl (any_of HT_.out (by kernel_rfl)) ?_
    refine one_ (i := 13) (N := some 40) (nb_ 17 16383) rfl rfl (one_of HT_.out (by kernel_rfl)) (by decide) (fun K hK => ?_)
    refine goes_ Tryd.func66 (by kernel_rfl) rfl #[.int .i64 ((rd_T52 l0_1 x4_1).f2)] (by rfl) rfl rfl mp_ ?_
    with_reducible refine (spec_l01Dec.calls k1 ((rd_T52 l0_1 x4_1).f2) t264 _ A13.out).mono ?_
    rintro e w24 ⟨rfl, hb⟩
    refine ⟨_, rfl, ?_⟩
    have n0_ := Aside0.mk (blk_below (g := g0) (o := .cells #[.int .i64 a0_0, .slice (some ad260) l0_1.length c0_1] 26 (0, 0)) (bk_ BK0.out) hb)
    have n1_ := Aside0.mk (blk_below (g := gb261) (o := .cells #[.int .i64 ((rd_T52 l0_1 x4_1).f0), .int .i64 ((rd_T52 l0_1 x4_1).f1), .int .i64 ((rd_T52 l0_1 x4_1).f2)] 52 (0, 0)) (bk_ BK261.out) hb)
    have n2_ := Aside0.mk (below_step (bl1_ HB.out GE261.out) hb)
    clear BK0
    clear BK261
    clear HB
    have BK0 := n0_
    have BK261 := n1_
    have HB := n2_
    clear n0_ n1_ n2_
    (try clear hb)
    (try clear hb2)
    (try clear hk)
    (try clear hi)
    refine hK.out _ _ ⟨(blk_cell BK261.out 0).trans rfl, (blk_cell BK261.out 1).trans rfl, (blk_cell BK261.out 2).trans rfl⟩ (fun hHeld => ?_)
    clear hK K
    refine norm_ (a' := ?_) ?_ ?_
    rotate_left
    ·show Act.put _ (some 40) _ = _
     simp only [Act.put, List.setIfInBounds_toArray, List.set_cons_zero, List.set_cons_succ, i64_w, i32_w]
     rfl
    refine puz_ 14 (some 41) (nb_ 17 32767) rfl rfl (any_of HT_.out (by kernel_rfl)) ?_
    refine puz_ 15 (some 42) (nb_ 17 65535) rfl rfl (any_of HT_.out (by kernel_rfl)) ?_
    refine puz_ 16 (some 3) (nb_ 17 131071) rfl rfl (any_of HT_.out (by kernel_rfl)) ?_
    refine done_ (done_of HT_.out (by kernel_rfl)) ?_
    try go_wp2
    go_roundg k1
    case measure => have := HK1.out; omega
    case rel => exact ⟨(x3_1 ++ ((((((⟨#[32]⟩ : ByteArray) ++ t262) ++ (⟨#[45]⟩ : ByteArray)) ++ t263) ++ (⟨#[58]⟩ : ByteArray)) ++ t264)), (wrap64 (x4_1 + 1)), rs_, rs_, H', ⟨by have := HK1.out; omega⟩, ⟨bk_ BK0.out⟩, ⟨bl1_ HB.out GE261.out⟩⟩
   ·rw [if_neg c5] at H
    have c5b0 := decide_eq_false c5
    clear c5
    obtain rfl := Option.some.inj H
    obtain ⟨hcz25_0, hcz25_1, hfz25_0, hfz25_1⟩ := cz2_ BK0.out
    go_wp2
    go_ret
    exact ⟨re_, bl0_ HB.out⟩

/-! ### spec_TreeText: function 33 -/
def spec_TreeText.f (k : Nat) (a0_0 : Int) (l0_1 : List (S52)) : Option (ByteArray) := (spec_l30Ok.f k a0_0 l0_1).bind fun t266 => (if t266 = true then ((spec_l30Text.f k a0_0 l0_1).bind fun t267 => (some t267)) else (some (⟨#[]⟩ : ByteArray)))
theorem spec_TreeText.mono : ∀ a0 a1 k, LeO (spec_TreeText.f k a0 a1) (spec_TreeText.f (k + 1) a0 a1) := by
 intro a0 a1 k
 unfold spec_TreeText.f
 repeat' first
   | (with_reducible exact spec_l30Ok.mono _ _ _)
   | (with_reducible exact spec_l30Text.mono _ _ _)
   | (with_reducible exact LeO.refl _)
   | (with_reducible exact LeO.none _)
   | (with_reducible refine LeO.ite ?_ ?_)
   | (with_reducible refine LeO.bind ?_ (fun _ => ?_))
   | exact spec_l30Ok.mono _ _ _
   | exact spec_l30Text.mono _ _ _
   | exact LeO.none _
   | refine LeO.ite ?_ ?_
   | refine LeO.bind ?_ (fun _ => ?_)
set_option maxHeartbeats 8000000 in
set_option maxRecDepth 100000 in
theorem spec_TreeText.calls (k : Nat) (a0_0 : Int) (A0_1 : Option Addr) (c0_1 : Nat) (l0_1 : List (S52)) (r : ByteArray) (w : World) (hr0_1 : Kd.C k52 w A0_1 l0_1.length l0_1) (hc0_1 : l0_1.length ≤ c0_1) (h : spec_TreeText.f k a0_0 l0_1 = some r) :
  Calls Tryd.prog 33 #[.agg #[.int .i64 a0_0, .slice A0_1 l0_1.length c0_1]] w fun e w' => e = .returned (.string r) ∧ Below w.heap.size w w' := by
 have hu26 := Tryd.underlying26
 have HR0_1 := Aside0.mk hr0_1
 have HC0_1 := Aside0.mk hc0_1
 clear hr0_1 hc0_1
 have HB := Aside0.mk (Below.refl w.heap.size w)
 have H : ((spec_l30Ok.f k a0_0 l0_1).bind fun t266 => (if t266 = true then ((spec_l30Text.f k a0_0 l0_1).bind fun t267 => (some t267)) else (some (⟨#[]⟩ : ByteArray)))) = some r := h
 clear h
 replace H := Option.bind_eq_some_iff.mp H
 obtain ⟨t266, A20, H⟩ := H
 replace H : (if t266 = true then ((spec_l30Text.f k a0_0 l0_1).bind fun t267 => (some t267)) else (some (⟨#[]⟩ : ByteArray))) = some r := H
 have A2 := Aside0.mk A20
 clear A20
 by_cases c3 : t266 = true
 ·subst c3
  have H1 : ((spec_l30Text.f k a0_0 l0_1).bind fun t267 => (some t267)) = some r := by rw [if_pos rfl] at H; exact H
  clear H
  have H := H1
  clear H1
  replace H := Option.bind_eq_some_iff.mp H
  obtain ⟨t267, A40, H⟩ := H
  replace H : (some t267) = some r := H
  have A4 := Aside0.mk A40
  clear A40
  obtain rfl := Option.some.inj H
  go_enter Tryd.func33, Tryd.ntmps33
  go_wp2_with (first | ((with_reducible refine gate_dst (N := 1) rfl ?_); refine box_event ?hg (N := 1) ?hd (cs := #[.int .i64 a0_0, .slice A0_1 l0_1.length c0_1]) (t := 26) ?hr ?_; (case hd => rfl); (case hg => rfl); (case hr => first | (go_simp; done) | (go_simp; rfl)); intro gb265 hg w5 hbox hb; have n0_ := Aside0.mk (below_step (bl0_ HB.out) hb); have n1_ := Aside0.mk (hbox); have n2_ := Aside0.mk ((by rw [hg]; exact (below_size (bl0_ HB.out)) : w.heap.size ≤ gb265)); have n3_ := Aside0.mk ((by rw [hg]; exact (below_size (bl0_ HB.out)) : w.heap.size ≤ gb265)); clear HB; have HB := n0_; have BK265 := n1_; have GW265 := n2_; have GE265 := n3_; clear n0_ n1_ n2_ n3_; clear hb hbox hg) | ((with_reducible refine gate_callee (f := 47) rfl ?_); refine goesL_ (some 3) rfl rfl Tryd.func47 (by kernel_rfl) rfl #[.pointer (some ⟨gb265, 0, none⟩)] rfl mp_ ?_; (with_reducible refine (spec_l30Ok.calls k gb265 a0_0 A0_1 c0_1 l0_1 true _ ?side1 ?side2 ?side3 A2.out).mono ?_); (case side1 => exact by (with_reducible repeat (first | refine blk_drewN ?_ _ | refine blk_drew ?_ | refine blk_alloc ?_ _)); exact BK265.out); (case side2 => exact ca_ (Kd.C_below HR0_1.out HB.out)); (case side3 => exact HC0_1.out); rintro e w6 ⟨rfl, hb⟩; refine ⟨_, rfl, ?_⟩; have n0_ := Aside0.mk (blk_below (g := gb265) (o := .cells #[.int .i64 a0_0, .slice A0_1 l0_1.length c0_1] 26 (0, 0)) (bk_ BK265.out) hb); have n1_ := Aside0.mk (below_step (bl1_ HB.out GE265.out) hb); clear BK265; clear HB; have BK265 := n0_; have HB := n1_; clear n0_ n1_; (try clear hb); (try clear hb2); (try clear hk); (try clear hi)) | ((with_reducible refine gate_callee (f := 48) rfl ?_); refine goesL_ (some 5) rfl rfl Tryd.func48 (by kernel_rfl) rfl #[.pointer (some ⟨gb265, 0, none⟩)] rfl mp_ ?_; (with_reducible refine (spec_l30Text.calls k gb265 a0_0 A0_1 c0_1 l0_1 t267 _ ?side1 ?side2 ?side3 A4.out).mono ?_); (case side1 => exact by (with_reducible repeat (first | refine blk_drewN ?_ _ | refine blk_drew ?_ | refine blk_alloc ?_ _)); exact BK265.out); (case side2 => exact ca_ (Kd.C_below HR0_1.out HB.out)); (case side3 => exact HC0_1.out); rintro e w7 ⟨rfl, hb⟩; refine ⟨_, rfl, ?_⟩; have n0_ := Aside0.mk (blk_below (g := gb265) (o := .cells #[.int .i64 a0_0, .slice A0_1 l0_1.length c0_1] 26 (0, 0)) (bk_ BK265.out) hb); have n1_ := Aside0.mk (below_step (bl1_ HB.out GE265.out) hb); clear BK265; clear HB; have BK265 := n0_; have HB := n1_; clear n0_ n1_; (try clear hb); (try clear hb2); (try clear hk); (try clear hi)))
  go_ret
  exact ⟨re_, bl1_ HB.out GE265.out⟩
 ·replace c3 := Bool.eq_false_iff.mpr c3
  subst c3
  have H1 : (some (⟨#[]⟩ : ByteArray)) = some r := by rw [if_neg (show ¬ (false = true) by decide)] at H; exact H
  clear H
  have H := H1
  clear H1
  obtain rfl := Option.some.inj H
  go_enter Tryd.func33, Tryd.ntmps33
  go_wp2_with (first | ((with_reducible refine gate_dst (N := 1) rfl ?_); refine box_event ?hg (N := 1) ?hd (cs := #[.int .i64 a0_0, .slice A0_1 l0_1.length c0_1]) (t := 26) ?hr ?_; (case hd => rfl); (case hg => rfl); (case hr => first | (go_simp; done) | (go_simp; rfl)); intro gb265 hg w8 hbox hb; have n0_ := Aside0.mk (below_step (bl0_ HB.out) hb); have n1_ := Aside0.mk (hbox); have n2_ := Aside0.mk ((by rw [hg]; exact (below_size (bl0_ HB.out)) : w.heap.size ≤ gb265)); have n3_ := Aside0.mk ((by rw [hg]; exact (below_size (bl0_ HB.out)) : w.heap.size ≤ gb265)); clear HB; have HB := n0_; have BK265 := n1_; have GW265 := n2_; have GE265 := n3_; clear n0_ n1_ n2_ n3_; clear hb hbox hg) | ((with_reducible refine gate_callee (f := 47) rfl ?_); refine goesL_ (some 3) rfl rfl Tryd.func47 (by kernel_rfl) rfl #[.pointer (some ⟨gb265, 0, none⟩)] rfl mp_ ?_; (with_reducible refine (spec_l30Ok.calls k gb265 a0_0 A0_1 c0_1 l0_1 false _ ?side1 ?side2 ?side3 A2.out).mono ?_); (case side1 => exact by (with_reducible repeat (first | refine blk_drewN ?_ _ | refine blk_drew ?_ | refine blk_alloc ?_ _)); exact BK265.out); (case side2 => exact ca_ (Kd.C_below HR0_1.out HB.out)); (case side3 => exact HC0_1.out); rintro e w9 ⟨rfl, hb⟩; refine ⟨_, rfl, ?_⟩; have n0_ := Aside0.mk (blk_below (g := gb265) (o := .cells #[.int .i64 a0_0, .slice A0_1 l0_1.length c0_1] 26 (0, 0)) (bk_ BK265.out) hb); have n1_ := Aside0.mk (below_step (bl1_ HB.out GE265.out) hb); clear BK265; clear HB; have BK265 := n0_; have HB := n1_; clear n0_ n1_; (try clear hb); (try clear hb2); (try clear hk); (try clear hi)))
  go_ret
  exact ⟨re_, bl1_ HB.out GE265.out⟩

end Go.Proofs.YtddaiabilhjcpaaDoor.A
