/- Convex corners, polygons, and the paper of a pattern, on both sides. | A line that runs through a convex polygon meets its border twice: the counting. | Quotients, and where two lines meet, on both sides. | Inside of a polygon, on both sides; a line through a polygon. | A segment through a polygon: the program's search. | A segment through a polygon: both sides. | Valid patterns: both sides agree. | The texts of whole numbers and of numbers a + b r, on both sides. | The laws' own words on patterns: sizes, copies, equality. | The plain law of CreaseText. | The plain law FnExactCreaseText. | The law FnExactCreaseText, as it is given: out of its plain twin and the contract of its call. -/
import Derived.Test.YtoclkhdbjbmpfaaGreatDoorR1M4
import Derived.Lib.ItoaNum
import Derived.Test.YtoclkhdbjbmpfaaGreatDoorR1M3
import Derived.Test.YtoclkhdbjbmpfaaGreatDoorRows
import Derived.WalkKit
import Derived.ProofKit
import Derived.OpenShut
import Derived.ShutString
import Derived.ChangeOld
import Derived.Below
import Derived.SizedLaws
import Derived.Test.YtoclkhdbjbmpfaaGreatDoorCards
import Derived.Test.YtoclkhdbjbmpfaaGreatDoorTie
import Derived.LaidMore
import Derived.Lay
import Derived.SevenTiedAt
import Derived.Stop.Joined
import Derived.MakeChecks
import Derived.Stop.LaidErr
set_option linter.unusedVariables false
namespace Go.Proofs.YtoclkhdbjbmpfaaGreatDoor.R
open Go.Proofs.YtoclkhdbjbmpfaaGreatDoor.R1 Z2
theorem AF : ∀ x : Fin 48, dN .i64 ((x.val : Int) - 16) 15 = ((x.val : Int) - 16) % 16 := by decide +kernel
theorem Jn {x : Int} (h0 : -16 ≤ x) (h1 : x < 32) : dN .i64 x 15 = x % 16 := by
 have := AF ⟨(x + 16).toNat, by omega⟩
 simp only at this
 rwa [show ((x + 16).toNat : Int) - 16 = x by omega] at this
theorem Hh : ∀ x : Fin 48, (wr .i64 ((((x.val : Int) - 16).tmod 16) + 16)).tmod 16 = ((x.val : Int) - 16) % 16 := by decide +kernel
theorem Cr (kk : Nat) {x : Int} (h0 : -16 ≤ x) (h1 : x < 32) : f109 kk x = some ((x % 16, ()), ()) := by
 have := Hh ⟨(x + 16).toNat, by omega⟩
 simp only at this
 rw [show ((x + 16).toNat : Int) - 16 = x by omega] at this
 unfold f109
 rw [this]
def tok (b d : Int) : Bool := decide (1 ≤ (d - b) % 16) && decide ((d - b) % 16 ≤ 7)
def okT : Int → List Int → Bool
 | _, [] => true
 | b, d :: r => tok b d && okT d r
def smT : Int → List Int → Int
 | _, [] => 0
 | b, d :: r => (d - b) % 16 + smT d r
def lst : Int → List Int → Int
 | b, [] => b
 | _, d :: r => lst d r
theorem vw (x : Int) : ∀ (r : List Int) (b : Int), okT b (r ++ [x]) = (okT b r && tok (lst b r) x)
 | [], b => by simp [okT, lst]
 | d :: r, b => by simp only [List.cons_append, okT, lst]; rw [vw x r d, Bool.and_assoc]
theorem vY (x : Int) : ∀ (r : List Int) (b : Int), smT b (r ++ [x]) = smT b r + (x - lst b r) % 16
 | [], b => by simp [smT, lst]
 | d :: r, b => by simp only [List.cons_append, smT, lst]; rw [vY x r d]; omega
def dsF (l : List PtG) : Nat → List PtG → List Int
 | _, [] => []
 | i, q :: r => al q (atN l ((i + 1) % l.length)) :: dsF l (i + 1) r
def eO (l : List PtG) : List Int := dsF l 0 l
theorem sB (l : List PtG) : ∀ (i : Nat) (r : List PtG), (dsF l i r).length = r.length
 | _, [] => rfl
 | i, q :: r => by unfold dsF; rw [List.length_cons, List.length_cons, sB l (i + 1) r]
theorem oW (l : List PtG) : ∀ (r : List PtG) (i : Nat) (b : Int), l.drop i = r → r ≠ [] → lst b (dsF l i r) = al (atN l (l.length - 1)) (atN l 0)
 | [], _, _, _, h => absurd rfl h
 | [q], i, b, h, _ => by
  have h1 := aE h
  have h2 := iJ (an h)
  unfold dsF lst dsF lst
  rw [← mL h, show i = l.length - 1 by omega, show l.length - 1 + 1 = l.length by omega, Nat.mod_self]
 | q :: p :: r, i, b, h, _ => by
  unfold dsF lst
  exact oW l (p :: r) (i + 1) _ (an h) (by simp)
def iy (l : List PtG) : Bool := (eO l).all (fun d => decide (d ≠ -1)) && (okT (al (atN l (l.length - 1)) (atN l 0)) (eO l) && decide (smT (al (atN l (l.length - 1)) (atN l 0)) (eO l) = 16))
theorem cK (p q : PtG) : al p q = -1 ∨ (0 ≤ al p q ∧ al p q < 16) := by
 rcases jp (aj (pt q) (pt p)) with h | h
 · exact .inl h
 · exact .inr ⟨h.1, h.2.1⟩
theorem uB {kk : Nat} (hkk : 400 ≤ kk) (l : List PtG) (hl : ∀ p ∈ l, okP p = true) (hlen : l.length ≤ 40) : ∀ (r : List PtG) (i j : Nat) (s b : Int) {ρ : Type} (nx : ((((Int × Unit) × Unit) → Option ρ) × (((Bool × Unit) × Unit) → Option ρ) × Unit)), l.drop i = r → r.length + 1 ≤ j → (0 ≤ s ∧ s ≤ 7 * i) → (0 ≤ b ∧ b < 16) →
    iY kk j l (l.length : Int) s b l (l.length : Int) (i : Int) nx = bif (dsF l i r).all (fun d => decide (d ≠ -1)) && okT b (dsF l i r) then nx.1 ((s + smT b (dsF l i r), ()), ()) else nx.2.1 ((false, ()), ())
 | [], i, j, s, b, ρ, nx, h, hj, hs, hb => by
  obtain ⟨j, rfl⟩ : ∃ m, j = m + 1 := ⟨j - 1, by omega⟩
  unfold iY
  rw [aQ h]; simp [dsF, okT, smT]
 | q :: r, i, j, s, b, ρ, nx, h, hj, hs, hb => by
  obtain ⟨j, rfl⟩ : ∃ m, j = m + 1 := ⟨j - 1, by omega⟩
  have hi := aE h
  have hpos : 0 < l.length := by omega
  have m2 : (i + 1) % l.length < l.length := Nat.mod_lt _ hpos
  have hq : okP q = true := hl q (List.mem_of_getElem? (aP h))
  have ih := fun s b hs hb => uB hkk l hl hlen r (i + 1) j s b nx (an h) (by simp only [List.length_cons] at hj; omega) hs hb
  have hr := cK q (atN l ((i + 1) % l.length))
  unfold iY
  rw [aI h, aA h, decide_eq_false (p := (l.length : Int) = 0) (by omega), dH hpos (by omega)]
  simp only [cond_true, cond_false, Option.bind_some]
  rw [bU m2]
  simp only [Option.bind_some]
  rw [kC hkk hq (hl _ (cB m2))]
  simp only [Option.bind_some, dsF, List.all_cons, okT, smT]
  generalize al q (atN l ((i + 1) % l.length)) = d at *
  unfold f143
  rw [ai (x := d - b) (by omega) (by omega), Jn (by omega) (by omega)]
  simp only [Option.bind_some]
  rcases hr with rfl | hr
  · simp
  · rw [decide_eq_false (p := d < 0) (by omega), decide_eq_false (p := b < 0) (by omega), inI]
    simp only [Option.bind_some, cond_false]
    rw [show decide (d ≠ -1) = true from decide_eq_true (by omega), Bool.true_and]
    show (bif !tok b d then _ else _) = _
    cases ht : tok b d with
    | false => simp
    | true =>
     have ht' := ht
     unfold tok at ht'
     simp only [Bool.and_eq_true, decide_eq_true_eq] at ht'
     simp only [Bool.not_true, cond_false, Bool.true_and]
     rw [ai (x := s + (d - b) % 16) (by omega) (by omega), az (by omega), ih _ _ (by omega) hr, Int.add_assoc]
theorem Cu {kk : Nat} (hkk : 400 ≤ kk) (l : List PtG) (hl : ∀ p ∈ l, okP p = true) (hlen : l.length ≤ 40) : f121 kk l = some ((decide (3 ≤ l.length) && iy l, ()), ()) := by
 unfold f121
 by_cases h3 : l.length < 3
 · rw [decide_eq_true (p := (l.length : Int) < 3) (by omega), decide_eq_false (p := 3 ≤ l.length) (by omega)]; rfl
 · have hpos : 0 < l.length := by omega
   rw [decide_eq_false (p := (l.length : Int) < 3) (by omega), decide_eq_true (p := 3 ≤ l.length) (by omega), ai (by omega) (by omega), show (l.length : Int) - 1 = ((l.length - 1 : Nat) : Int) by omega, bU (show l.length - 1 < l.length by omega), show ak l 0 = some (atN l 0) from bU hpos]
   simp only [cond_false, Option.bind_some]
   rw [kC hkk (hl _ (cB (by omega))) (hl _ (cB hpos))]
   simp only [Option.bind_some]
   obtain ⟨q, r, e⟩ : ∃ q r, l = q :: r := by cases l with
    | nil => simp at hpos
    | cons q r => exact ⟨q, r, rfl⟩
   have hlst := oW l l 0 0 rfl (by rw [e]; simp)
   rcases cK (atN l (l.length - 1)) (atN l 0) with hb | hb
   ·
    have hm : iy l = false := by
     unfold iy
     have : (eO l).all (fun d => decide (d ≠ -1)) = false := by
      rw [List.all_eq_false]
      refine ⟨-1, ?_, by simp⟩
      rw [← hb, ← hlst]
      have : ∀ (D : List Int) (b : Int), D ≠ [] → lst b D ∈ D := fun D => by
       induction D with
       | nil => intro b h; exact absurd rfl h
       | cons d r ih =>
        intro b _
        unfold lst
        cases r with
        | nil => exact List.mem_cons_self ..
        | cons e r => exact List.mem_cons_of_mem _ (ih d (by simp))
      exact this _ _ (fun e2 => by have h5 : (eO l).length = l.length := sB l 0 l; rw [e2] at h5; simp at h5; omega)
     rw [this]; rfl
    rw [hm, hb]
    obtain ⟨k, rfl⟩ : ∃ m, kk = m + 1 := ⟨kk - 1, by omega⟩
    unfold iY
    have m2 : (0 + 1) % l.length < l.length := Nat.mod_lt _ hpos
    rw [decide_eq_true (p := (0 : Int) < (l.length : Int)) (by omega), show ak l 0 = some (atN l 0) from bU hpos, decide_eq_false (p := (l.length : Int) = 0) (by omega)]
    have hn := dH (i := 0) hpos (by omega)
    rw [show ((0 : Nat) : Int) = 0 from rfl] at hn
    rw [hn]
    simp only [cond_true, cond_false, Option.bind_some]
    rw [bU m2]
    simp only [Option.bind_some]
    rw [kC hkk (hl _ (cB hpos)) (hl _ (cB m2))]
    simp only [Option.bind_some]
    unfold f143
    simp only [Option.bind_some]
    cases decide (al (atN l 0) (atN l ((0 + 1) % l.length)) < 0) <;> rfl
   · have := uB hkk l hl hlen l 0 kk 0 (al (atN l (l.length - 1)) (atN l 0)) (ρ := ((Bool × Unit) × Unit)) (fun x21 : ((Int × Unit) × Unit) =>
      some (((x21.1.1 == 16), ()), ()),
     fun x22 : ((Bool × Unit) × Unit) =>
      some ((x22.1.1, ()), ()),
     ()) rfl (by omega) (by omega) hb
     rw [show ((0 : Nat) : Int) = 0 from rfl] at this
     rw [this]
     unfold iy eO
     cases h : (dsF l 0 l).all (fun d => decide (d ≠ -1)) && okT (al (atN l (l.length - 1)) (atN l 0)) (dsF l 0 l) with
     | false =>
      rw [Bool.true_and, ← Bool.and_assoc, h]; rfl
     | true =>
      rw [Bool.true_and, ← Bool.and_assoc, h, Int.zero_add]; rfl
def dw (l : List PtG) : Bool := decide (3 ≤ l.length) && (decide (l.length ≤ 16) && iy l)
theorem xE {kk : Nat} (l : List PtG) (hl : ∀ p ∈ l, okP p = true) (hlen : l.length ≤ 1000) : ∀ (r : List PtG) (i j : Nat) {ρ : Type} (nx : (((Unit × Unit) → Option ρ) × (((Int × Unit) × Unit) → Option ρ) × Unit)), l.drop i = r → r.length + 1 ≤ j →
    jZ kk j l (l.length : Int) (i : Int) nx = nx.1 ((), ())
 | [], i, j, ρ, nx, h, hj => by
  obtain ⟨j, rfl⟩ : ∃ m, j = m + 1 := ⟨j - 1, by omega⟩
  unfold jZ
  rw [aQ h]; rfl
 | q :: r, i, j, ρ, nx, h, hj => by
  obtain ⟨j, rfl⟩ : ∃ m, j = m + 1 := ⟨j - 1, by omega⟩
  have hi := aE h
  unfold jZ
  rw [aI h, aA h, az (by omega)]
  simp only [cond_true, Option.bind_some]
  unfold f118
  rw [rZ kk q, hl q (List.mem_of_getElem? (aP h))]
  simp only [Option.bind_some, Bool.not_true, cond_false]
  exact xE l hl hlen r (i + 1) j nx (an h) (by simp only [List.length_cons] at hj; omega)
theorem uG {kk : Nat} (l : List PtG) (hl : ∀ p ∈ l, okP p = true) (hlen : l.length + 1 ≤ kk) (hlen2 : l.length ≤ 1000) : f85 kk l = some ((true, ()), ()) := by
 unfold f85 f117 f141
 have := xE (kk := kk) l hl hlen2 l 0 kk (ρ := ((Int × Unit) × Unit)) (fun x8 : (Unit × Unit) => some (((-1), ()), ()), fun x9 : ((Int × Unit) × Unit) => some ((x9.1.1, ()), ()), ()) rfl hlen
 rw [show ((0 : Nat) : Int) = 0 from rfl] at this
 rw [this]; rfl
theorem ou {kk : Nat} (hkk : 400 ≤ kk) (K : List PtG) (hK : ∀ p ∈ K, okP p = true) (hlen : K.length ≤ 40) : f89 kk (aK K) = some ((dw (aK K), ()), ()) := by
 have hl : ∀ p ∈ aK K, okP p = true := fun p hp => hK p (jx.1 hp)
 have hl2 := lr K
 unfold f89 dw
 rw [DG, Option.bind_some]
 dsimp only
 rw [inI, Option.bind_some]
 dsimp only
 by_cases h3 : 3 ≤ (aK K).length
 · by_cases h16 : (aK K).length ≤ 16
   · rw [decide_eq_true (p := (3 : Int) ≤ ((aK K).length : Int)) (by omega), decide_eq_true (p := ((aK K).length : Int) ≤ 16) (by omega), uG (aK K) hl (by omega) (by omega), Cu hkk (aK K) hl (by omega), la hkk (aK K) hl (by omega) (fun e => by rw [e] at h3; simp at h3), FR, decide_eq_true h3, decide_eq_true h16]
     simp only [Option.bind_some, Bool.and_self, cond_true, Bool.true_and]
     cases iy (aK K) <;> rfl
   · rw [decide_eq_false (p := ((aK K).length : Int) ≤ 16) (by omega), decide_eq_false h16]; simp
 · rw [decide_eq_false (p := (3 : Int) ≤ ((aK K).length : Int)) (by omega), decide_eq_false h3]; rfl
theorem ur {kk : Nat} (l : List PtG) (hlen : l.length ≤ 1000) : ∀ (r : List PtG) (i j : Nat) (acc : List PtG) {ρ : Type} (nx : ((((Unit × Unit) × ((List PtG) × Unit)) → Option ρ) × Unit)), l.drop i = r → r.length + 1 ≤ j → acc.length ≤ i →
    kf kk j l (i : Int) acc nx = nx.1 (((), ()), (acc ++ r, ()))
 | [], i, j, acc, ρ, nx, h, hj, ha => by
  obtain ⟨j, rfl⟩ : ∃ m, j = m + 1 := ⟨j - 1, by omega⟩
  unfold kf
  rw [aQ h]; simp
 | q :: r, i, j, acc, ρ, nx, h, hj, ha => by
  obtain ⟨j, rfl⟩ : ∃ m, j = m + 1 := ⟨j - 1, by omega⟩
  have hi := aE h
  unfold kf
  rw [aI h, aA h]
  simp only [cond_true, Option.bind_some]
  rw [qU kk q, az (by omega)]
  simp only [Option.bind_some]
  rw [decide_eq_true (p := (acc.length + _) * 48 ≤ roomy) (by simp only [List.length_cons, List.length_nil, roomy]; omega), cond_true]
  have := ur (kk := kk) l hlen r (i + 1) j (acc ++ [q]) nx (an h) (by simp only [List.length_cons] at hj; omega) (by rw [List.length_append]; simp; omega)
  rw [List.append_assoc] at this
  exact this
theorem zJ {kk : Nat} (l : List PtG) (hlen : l.length + 1 ≤ kk) (hlen2 : l.length ≤ 1000) : f108 kk l = some (((), ()), (l, ())) := by
 unfold f108
 have := ur (kk := kk) l hlen2 l 0 kk [] (ρ := ((Unit × Unit) × ((List PtG) × Unit))) (fun x8 : ((Unit × Unit) × ((List PtG) × Unit)) => some (((), ()), (x8.2.1, ())), ()) rfl hlen (by simp)
 rw [show ((0 : Nat) : Int) = 0 from rfl] at this
 rw [this]; rfl
theorem qz {kk : Nat} (hkk : 400 ≤ kk) (l : List PtG) (hl : ∀ p ∈ l, okP p = true) (hlen : l.length ≤ 40) : ∀ (r : List PtG) (i j : Nat) (acc : List Int) {ρ : Type} (nx : ((((Unit × Unit) × ((List Int) × Unit)) → Option ρ) × (((Unit × Bool × Unit) × Unit) → Option ρ) × Unit)), l.drop i = r → r.length + 1 ≤ j → acc.length ≤ i →
    j7 kk j l (i : Int) acc nx = bif (dsF l i r).all (fun d => decide (d ≠ -1)) then nx.1 (((), ()), (acc ++ dsF l i r, ())) else nx.2.1 (((), false, ()), ())
 | [], i, j, acc, ρ, nx, h, hj, ha => by
  obtain ⟨j, rfl⟩ : ∃ m, j = m + 1 := ⟨j - 1, by omega⟩
  unfold j7
  rw [aQ h]; simp [dsF]
 | q :: r, i, j, acc, ρ, nx, h, hj, ha => by
  obtain ⟨j, rfl⟩ : ∃ m, j = m + 1 := ⟨j - 1, by omega⟩
  have hi := aE h
  have hpos : 0 < l.length := by omega
  have m2 : (i + 1) % l.length < l.length := Nat.mod_lt _ hpos
  have hq : okP q = true := hl q (List.mem_of_getElem? (aP h))
  have ih := fun acc ha => qz hkk l hl hlen r (i + 1) j acc nx (an h) (by simp only [List.length_cons] at hj; omega) ha
  have hr := cK q (atN l ((i + 1) % l.length))
  obtain ⟨u1, u2, u3, u4, u5, u6, a1, a2⟩ := mG (kk := kk) hkk hq (hl _ (cB m2))
  unfold j7
  rw [aI h, aA h, decide_eq_false (p := (l.length : Int) = 0) (by omega), dH hpos (by omega)]
  simp only [cond_true, cond_false, Option.bind_some]
  rw [bU m2]
  simp only [Option.bind_some]
  rw [a1]
  simp only [Option.bind_some]
  rw [a2]
  simp only [Option.bind_some, dsF, List.all_cons]
  generalize al q (atN l ((i + 1) % l.length)) = d at *
  rcases hr with rfl | hr
  · simp
  · rw [decide_eq_false (p := d < 0) (by omega), show decide (d ≠ -1) = true from decide_eq_true (by omega), Bool.true_and, decide_eq_true (p := (acc.length + [d].length) * 8 ≤ roomy) (by simp only [List.length_cons, List.length_nil, roomy]; omega), az (by omega)]
    simp only [cond_false, cond_true]
    rw [ih _ (by rw [List.length_append]; simp; omega), List.append_assoc]; rfl
theorem vB {kk : Nat} (hkk : 400 ≤ kk) (l : List PtG) (hl : ∀ p ∈ l, okP p = true) (hlen : l.length ≤ 40) : f107 kk l = bif (eO l).all (fun d => decide (d ≠ -1)) then some (((), true, ()), (eO l, ())) else some (((), false, ()), ([], ())) := by
 unfold f107
 have := qz hkk l hl hlen l 0 kk [] (ρ := ((Unit × Bool × Unit) × ((List Int) × Unit))) (fun x10 : ((Unit × Unit) × ((List Int) × Unit)) =>
     some (((), true, ()), (x10.2.1, ())),
  fun x11 : ((Unit × Bool × Unit) × Unit) =>
   some (((), x11.1.2.1, ()), (([] : List Int), ())),
  ()) rfl (by omega) (by simp)
 rw [show ((0 : Nat) : Int) = 0 from rfl] at this
 rw [this]; rfl
theorem pO {kk : Nat} (hkk : 400 ≤ kk) (l : List PtG) (hl : ∀ p ∈ l, okP p = true) (hlen : l.length ≤ 40) (hlt : ∀ m, 0 < m → m < l.length → cE (pt (atN l 0)) (pt (atN l m)) < 0) : ∀ (r : List PtG) (i j : Nat) {ρ : Type} (nx : (((((List PtG) × Int × Unit) × Unit) → Option ρ) × (((Bool × Unit) × Unit) → Option ρ) × Unit)), l.drop i = r → r.length + 1 ≤ j →
    km kk j l (l.length : Int) (i : Int) nx = nx.1 ((l, (l.length : Int), ()), ())
 | [], i, j, ρ, nx, h, hj => by
  obtain ⟨j, rfl⟩ : ∃ m, j = m + 1 := ⟨j - 1, by omega⟩
  unfold km
  rw [aQ h]; rfl
 | q :: r, i, j, ρ, nx, h, hj => by
  obtain ⟨j, rfl⟩ : ∃ m, j = m + 1 := ⟨j - 1, by omega⟩
  have hi := aE h
  have hq : okP q = true := hl q (List.mem_of_getElem? (aP h))
  have h0 : 0 < l.length := by omega
  have ih := pO hkk l hl hlen hlt r (i + 1) j nx (an h) (by simp only [List.length_cons] at hj; omega)
  unfold km
  rw [aI h, aA h, az (by omega), ih, show ak l 0 = some (atN l 0) from bU h0]
  simp only [cond_true, Option.bind_some]
  rw [uh kk q, hq]
  simp only [Option.bind_some, Bool.not_true, cond_false]
  by_cases e : i = 0
  · subst e; rw [decide_eq_false (by omega)]; rfl
  · rw [decide_eq_true (p := (i : Int) > 0) (by omega), oF hkk (hl _ (cB h0)) hq]
    have := hlt i (by omega) hi
    rw [mL h] at this
    simp only [Option.bind_some, cond_true]
    rw [decide_eq_false (p := cE (pt (atN l 0)) (pt q) ≥ 0) (by omega)]; rfl
theorem pT {kk : Nat} (D : List Int) (d0 : Int) (rest : List Int) (hD : D = d0 :: rest) (hd : ∀ d ∈ D, 0 ≤ d ∧ d < 16) (hlen : D.length ≤ 40) : ∀ (r : List Int) (d : Int) (i j : Nat) (s : Int) {ρ : Type} (nx : ((((Int × Unit) × Unit) → Option ρ) × (((Bool × Unit) × Unit) → Option ρ) × Unit)), D.drop i = d :: r → r.length + 2 ≤ j → (0 ≤ s ∧ s ≤ 7 * i) →
    im kk j (D.length : Int) s (i : Int) D nx = bif okT d (r ++ [d0]) then nx.1 ((s + smT d (r ++ [d0]), ()), ()) else nx.2.1 ((false, ()), ())
 | [], d, i, j, s, ρ, nx, h, hj, hs => by
  obtain ⟨j, rfl⟩ : ∃ m, j = m + 2 := ⟨j - 2, by omega⟩
  have hi := aE h
  have hn := iJ (an h)
  have h0 : 0 < D.length := by omega
  have hdd := hd d (List.mem_of_getElem? (aP h))
  have hd0 := hd d0 (by rw [hD]; exact List.mem_cons_self ..)
  unfold im
  rw [bnd hi, aI h, decide_eq_false (p := (D.length : Int) = 0) (by omega), dH h0 (by omega), show i + 1 = D.length by omega, Nat.mod_self, bnd h0, Int.toNat_natCast, Int.toNat_natCast, aP h, show D[0]? = some d0 by rw [hD]; rfl]
  simp only [cond_true, cond_false, Option.bind_some]
  rw [ai (x := d0 - d) (by omega) (by omega), Cr kk (by omega) (by omega)]
  simp only [Option.bind_some]
  rw [inS]
  simp only [Option.bind_some, List.nil_append, okT, smT, Bool.and_true]
  show (bif !tok d d0 then _ else _) = _
  cases ht : tok d d0 with
  | false => rfl
  | true =>
   unfold tok at ht
   simp only [Bool.and_eq_true, decide_eq_true_eq] at ht
   simp only [Bool.not_true, cond_false, cond_true]
   unfold im
   rw [az (by omega), ga (show (D.length : Int) ≤ ((i + 1 : Nat) : Int) by omega), ai (x := s + (d0 - d) % 16) (by omega) (by omega), Int.add_zero]; rfl
 | e :: r, d, i, j, s, ρ, nx, h, hj, hs => by
  obtain ⟨j, rfl⟩ : ∃ m, j = m + 1 := ⟨j - 1, by omega⟩
  have hi := aE h
  have hn := aE (an h)
  have hdd := hd d (List.mem_of_getElem? (aP h))
  have hde := hd e (List.mem_of_getElem? (aP (an h)))
  have ih := fun s hs => pT (kk := kk) D d0 rest hD hd hlen r e (i + 1) j s nx (an h) (by simp only [List.length_cons] at hj; omega) hs
  unfold im
  rw [bnd hi, aI h, decide_eq_false (p := (D.length : Int) = 0) (by omega), dH (show 0 < D.length by omega) (by omega), Nat.mod_eq_of_lt hn, bnd hn, Int.toNat_natCast, Int.toNat_natCast, aP h, aP (an h)]
  simp only [cond_true, cond_false, Option.bind_some]
  rw [ai (x := e - d) (by omega) (by omega), Cr kk (by omega) (by omega)]
  simp only [Option.bind_some]
  rw [inS]
  simp only [Option.bind_some, List.cons_append, okT, smT]
  show (bif !tok d e then _ else _) = _
  cases ht : tok d e with
  | false => rfl
  | true =>
   unfold tok at ht
   simp only [Bool.and_eq_true, decide_eq_true_eq] at ht
   simp only [Bool.not_true, cond_false, Bool.true_and]
   rw [az (by omega), ai (x := s + (e - d) % 16) (by omega) (by omega), ih _ (by omega), Int.add_assoc]
theorem vT {kk : Nat} (hkk : 400 ≤ kk) (K : List PtG) (hK : ∀ p ∈ K, okP p = true) (hn : K.Nodup) (hlen : K.length ≤ 40) : f69 kk (aK K) = some ((dw (aK K), ()), ()) := by
 have hl : ∀ p ∈ aK K, okP p = true := fun p hp => hK p (jx.1 hp)
 have hl2 := lr K
 have hn2 := yq hn
 unfold f69 dw
 by_cases h3 : 3 ≤ (aK K).length
 · rw [decide_eq_false (p := ((aK K).length : Int) < 3) (by omega), decide_eq_true h3]
   by_cases h16 : (aK K).length ≤ 16
   · rw [decide_eq_false (p := ((aK K).length : Int) > 16) (by omega), decide_eq_true h16]
     simp only [cond_false, Bool.true_and]
     have hne : K ≠ [] := fun e => by subst e; rw [hl2] at h3; simp at h3
     have hlt : ∀ m, 0 < m → m < (aK K).length → cE (pt (atN (aK K) 0)) (pt (atN (aK K) m)) < 0 := fun m m0 m1 => by
      have h1 := pV hne _ (cB m1)
      rw [F0] at h1
      by_cases e : cE (pt (atN (aK K) 0)) (pt (atN (aK K) m)) = 0
      · have e2 := JO (hl _ (cB (by omega))) (hl _ (cB m1)) (E8 e)
        have : (aK K)[0]? = (aK K)[m]? := by rw [qP m1, qP (show 0 < (aK K).length by omega), e2]
        rw [List.getElem?_eq_getElem (by omega), List.getElem?_eq_getElem m1] at this
        exact absurd ((List.getElem_inj hn2).1 (Option.some.inj this)) (by omega)
      · omega
     generalize hT : aK K = l at *
     have a1 := pO hkk l hl (by omega) hlt l 0 kk (ρ := ((Bool × Unit) × Unit)) (fun x27 : (((List PtG) × Int × Unit) × Unit) =>
         (f108 kk x27.1.1).bind fun x28 =>
         (f107 kk x28.2.1).bind fun x29 =>
         bif (!x29.1.2.1) then
          some ((false, ()), ())
         else
          im kk kk x27.1.2.1 0 0 x29.2.1
           (fun x30 : ((Int × Unit) × Unit) =>
            some (((x30.1.1 == 16), ()), ()),
           fun x31 : ((Bool × Unit) × Unit) =>
            some ((x31.1.1, ()), ()),
           ()),
      fun x32 : ((Bool × Unit) × Unit) =>
       some ((x32.1.1, ()), ()),
      ()) rfl (by omega)
     rw [show ((0 : Nat) : Int) = 0 from rfl] at a1
     rw [a1]
     dsimp only
     rw [zJ l (by omega) (by omega), Option.bind_some]
     dsimp only
     rw [vB hkk l hl (by omega)]
     unfold iy
     cases hall : (eO l).all (fun d => decide (d ≠ -1)) with
     | false => rfl
     | true =>
      simp only [cond_true, Option.bind_some, Bool.not_true, cond_false, Bool.true_and]
      have hr : ∀ d ∈ eO l, 0 ≤ d ∧ d < 16 := fun d hd => by
       have h1 := List.all_eq_true.1 hall d hd
       simp only [decide_eq_true_eq] at h1
       have : ∀ (r : List PtG) (i : Nat), d ∈ dsF l i r → d = -1 ∨ (0 ≤ d ∧ d < 16) := fun r => by
        induction r with
        | nil => intro i h; cases h
        | cons q r ih =>
         intro i h
         unfold dsF at h
         rcases List.mem_cons.1 h with h | h
         · rw [h]; exact cK _ _
         · exact ih _ h
       exact (this l 0 hd).resolve_left h1
      have hlen2 : (eO l).length = l.length := sB l 0 l
      have hlst := oW l l 0 0 rfl (fun e => by rw [e] at h3; simp at h3)
      change lst 0 (eO l) = _ at hlst
      cases hD : eO l with
      | nil => rw [hD] at hlen2; simp at hlen2; omega
      | cons d0 rest =>
       have a2 := pT (kk := kk) (eO l) d0 rest hD hr (by omega) rest d0 0 kk 0 (ρ := ((Bool × Unit) × Unit)) (fun x30 : ((Int × Unit) × Unit) =>
             some (((x30.1.1 == 16), ()), ()),
           fun x31 : ((Bool × Unit) × Unit) =>
            some ((x31.1.1, ()), ()),
           ()) (by rw [hD]; rfl) (by rw [hD] at hlen2; simp only [List.length_cons] at hlen2; omega) (by omega)
       rw [show ((0 : Nat) : Int) = 0 from rfl, hlen2, hD] at a2
       rw [a2]
       rw [hD] at hlst
       unfold lst at hlst
       rw [← hlst, vw, vY, Int.zero_add]
       rw [show okT (lst d0 rest) (d0 :: rest) = (tok (lst d0 rest) d0 && okT d0 rest) from rfl, show smT (lst d0 rest) (d0 :: rest) = (d0 - lst d0 rest) % 16 + smT d0 rest from rfl, show smT d0 rest + (d0 - lst d0 rest) % 16 = (d0 - lst d0 rest) % 16 + smT d0 rest by omega, Bool.and_comm]
       cases tok (lst d0 rest) d0 && okT d0 rest <;> rfl
   · rw [decide_eq_true (p := ((aK K).length : Int) > 16) (by omega), decide_eq_false h16]; rfl
 · rw [decide_eq_true (p := ((aK K).length : Int) < 3) (by omega), decide_eq_false h3]; rfl
def dq (K : List PtG) : List PtG := if dw (aK K) = true then aK K else aK K.reverse
def fW (K : List PtG) : Bool := dw (aK K) || dw (aK K.reverse)
theorem DJ {kk : Nat} (hkk : 400 ≤ kk) (K : List PtG) (hK : ∀ p ∈ K, okP p = true) (hlen : K.length ≤ 40) : ∃ P, f52 kk K = some (((), fW K, ()), (P, ())) ∧ (fW K = true → P = dq K) := by
 have hR : ∀ p ∈ K.reverse, okP p = true := fun p hp => hK p (List.mem_reverse.1 hp)
 have hlr : K.reverse.length = K.length := List.length_reverse
 unfold f52
 rw [uG K hK (by omega) (by omega), Option.bind_some]
 simp only [Bool.not_true, cond_false]
 by_cases h16 : K.length ≤ 16
 · rw [decide_eq_false (p := (K.length : Int) > 16) (by omega)]
   have hcl : f86 kk K = some (((), ()), (K, ())) := by
    unfold f86
    rw [decide_eq_true (p := (([] : List PtG).length + K.length) * 48 ≤ roomy) (by simp only [List.length_nil, roomy]; omega)]; rfl
   rw [hcl]
   simp only [cond_false, Option.bind_some]
   rw [B6 K (by omega) (by omega)]
   simp only [Option.bind_some]
   obtain ⟨k, hk⟩ : ∃ m, kk = m + 3 := ⟨kk - 3, by omega⟩
   have r1 := rn hkk K hK hlen
   have r2 := rn hkk K.reverse hR (by omega)
   have v1 := ou hkk K hK hlen
   have v2 := ou hkk K.reverse hR (by omega)
   have step1 : ∀ (j : Nat) {ρ : Type} (nx : (((Unit × Unit) → Option ρ) × (((Unit × Bool × Unit) × ((List PtG) × Unit)) → Option ρ) × Unit)), kn kk (j + 3) 2 0 [K, K.reverse] nx = bif dw (aK K) then nx.2.1 (((), true, ()), (aK K, ())) else bif dw (aK K.reverse) then nx.2.1 (((), true, ()), (aK K.reverse, ())) else nx.1 ((), ()) := by
    intro j ρ nx
    unfold kn
    rw [show decide ((0 : Int) < 2) = true from rfl, show (([K, K.reverse].length : Nat) : Int) = 2 from rfl, show (decide ((0 : Int) ≤ 0) && decide ((0 : Int) < 2)) = true from rfl, show [K, K.reverse][(0 : Int).toNat]? = some K from rfl]
    simp only [cond_true, Option.bind_some]
    rw [r1]
    simp only [Option.bind_some]
    rw [v1]
    simp only [Option.bind_some]
    cases dw (aK K) with
    | true => rfl
    | false =>
     simp only [cond_false]
     rw [show wr .i64 ((0 : Int) + 1) = 1 by rfl]
     unfold kn
     rw [show decide ((1 : Int) < 2) = true from rfl, show (([K, K.reverse].length : Nat) : Int) = 2 from rfl, show (decide ((0 : Int) ≤ 1) && decide ((1 : Int) < 2)) = true from rfl, show [K, K.reverse][(1 : Int).toNat]? = some K.reverse from rfl]
     simp only [cond_true, Option.bind_some]
     rw [r2]
     simp only [Option.bind_some]
     rw [v2]
     simp only [Option.bind_some]
     cases dw (aK K.reverse) with
     | true => rfl
     | false =>
      simp only [cond_false]
      rw [show wr .i64 ((1 : Int) + 1) = 2 by rfl]
      unfold kn
      rfl
   rw [show (([K, K.reverse].length : Nat) : Int) = 2 from rfl]
   have s2 := step1 k (ρ := ((Unit × Bool × Unit) × ((List PtG) × Unit))) (fun x17 : (Unit × Unit) =>
         some (((), false, ()), (([] : List PtG), ())),
       fun x18 : ((Unit × Bool × Unit) × ((List PtG) × Unit)) =>
        some (((), x18.1.2.1, ()), (x18.2.1, ())),
       ())
   rw [← hk] at s2
   rw [s2]
   unfold fW dq
   cases dw (aK K) with
   | true => exact ⟨_, rfl, fun _ => (if_pos rfl).symm⟩
   | false =>
    cases dw (aK K.reverse) with
    | true => exact ⟨_, rfl, fun _ => (if_neg (by simp)).symm⟩
    | false => exact ⟨_, rfl, fun h => by cases h⟩
 · rw [decide_eq_true (p := (K.length : Int) > 16) (by omega)]
   have : fW K = false := by
    unfold fW dw
    rw [lr, lr, hlr, decide_eq_false h16]; simp
   rw [this]
   exact ⟨_, rfl, fun h => by cases h⟩
end Go.Proofs.YtoclkhdbjbmpfaaGreatDoor.R
namespace Go.Proofs.YtoclkhdbjbmpfaaGreatDoor.R
open Go.Proofs.YtoclkhdbjbmpfaaGreatDoor.R1 Z2
abbrev Edg := Int × (Int × Int)
def tsg (c : Int) : Int := if c = 0 ∨ c = 8 then 0 else if c < 8 then 1 else -1
def EOk (e : Edg) : Prop := (-1 ≤ e.1 ∧ e.1 ≤ 1) ∧ (-1 ≤ e.2.1 ∧ e.2.1 ≤ 1) ∧ Tr e.1 (tsg e.2.2) e.2.1 ∧ (0 ≤ e.2.2 ∧ e.2.2 < 16)
def Bb (e : Edg) : Nat := (if e.1 = 0 then 1 else 0) + (if e.1 * e.2.1 < 0 then 1 else 0)
def fq : List Edg → Nat
 | [] => 0
 | e :: r => Bb e + fq r
theorem pX : ∀ (A B : List Edg), fq (A ++ B) = fq A + fq B
 | [], B => by simp [fq]
 | e :: A, B => by rw [List.cons_append, fq, fq, pX A B, Nat.add_assoc]
def Chn : Int → List Edg → Int → Prop
 | a, [], b => a = b
 | a, e :: r, b => e.1 = a ∧ Chn e.2.1 r b
theorem mY : ∀ (A B : List Edg) (a b : Int), Chn a (A ++ B) b ↔ ∃ m, Chn a A m ∧ Chn m B b
 | [], B, a, b => ⟨fun h => ⟨a, rfl, h⟩, fun ⟨m, h1, h2⟩ => by rw [show a = m from h1]; exact h2⟩
 | e :: A, B, a, b => by
  rw [List.cons_append, Chn, mY A B]
  constructor
  · rintro ⟨h1, m, h2, h3⟩; exact ⟨m, ⟨h1, h2⟩, h3⟩
  · rintro ⟨m, ⟨h1, h2⟩, h3⟩; exact ⟨h1, m, h2, h3⟩
def iP : Int → List Edg → Prop
 | _, [] => True
 | b, e :: r => b < e.2.2 ∧ iP e.2.2 r
theorem pG : ∀ (A B : List Edg) (b : Int), iP b A → (∀ e ∈ A, True) → iP (lst b (A.map (·.2.2))) B → iP b (A ++ B)
 | [], _, _, _, _, h => h
 | e :: A, B, b, h, _, h2 => ⟨h.1, pG A B e.2.2 h.2 (fun _ _ => trivial) h2⟩
theorem iP.mono {b b' : Int} (h : b' ≤ b) : ∀ {A : List Edg}, iP b A → iP b' A
 | [], _ => trivial
 | _ :: _, h2 => ⟨by have := h2.1; omega, h2.2⟩
theorem pu (e : Edg) (h1 : -1 ≤ e.1 ∧ e.1 ≤ 1) (h2 : -1 ≤ e.2.1 ∧ e.2.1 ≤ 1) : Bb e = (if e.1 = 0 then 1 else 0) + (if (e.1 = 1 ∧ e.2.1 = -1) ∨ (e.1 = -1 ∧ e.2.1 = 1) then 1 else 0) := by
 unfold Bb
 congr 1
 by_cases h : e.1 * e.2.1 < 0
 · rw [if_pos h, if_pos ((zO h1 h2).1 h)]
 · rw [if_neg h, if_neg (fun q => h ((zO h1 h2).2 q))]
theorem sy : ∀ (es : List Edg) (a b L : Int), Chn a es b → iP L es → 8 ≤ L → (∀ e ∈ es, EOk e) → (-1 ≤ a ∧ a ≤ 1) →
    b ≤ a ∧ (-1 ≤ b) ∧ (fq es : Int) = (if 0 ≤ a then 1 else 0) - (if 0 ≤ b then 1 else 0) ∧ ∀ e ∈ es, b ≤ e.1 ∧ e.1 ≤ a
 | [], a, b, L, hc, _, _, _, ha => by
  have : a = b := hc
  subst this
  exact ⟨Int.le_refl _, ha.1, by simp [fq], fun e he => by cases he⟩
 | e :: r, a, b, L, hc, hi, hL, hok, ha => by
  obtain ⟨o1, o2, o3, o4⟩ := hok e (List.mem_cons_self ..)
  obtain ⟨c1, c2⟩ := hc
  obtain ⟨i1, i2⟩ := hi
  obtain ⟨h1, h1', h2, h3⟩ := sy r e.2.1 b e.2.2 c2 i2 (by omega) (fun e he => hok e (List.mem_cons_of_mem _ he)) o2
  have ht : tsg e.2.2 = -1 := by unfold tsg; rw [if_neg (by omega), if_neg (by omega)]
  rw [ht] at o3
  unfold Tr at o3
  subst c1
  refine ⟨by omega, h1', ?_, fun d hd => ?_⟩
  · rw [fq, pu e o1 o2]
    have : e.1 = -1 ∨ e.1 = 0 ∨ e.1 = 1 := by omega
    have : e.2.1 = -1 ∨ e.2.1 = 0 ∨ e.2.1 = 1 := by omega
    push_cast
    rw [h2]
    by_cases hb : 0 ≤ b
    · simp only [if_pos hb]; split <;> split <;> split <;> omega
    · simp only [if_neg hb]; split <;> split <;> split <;> omega
  · rcases List.mem_cons.1 hd with rfl | hd
    · omega
    · have := h3 d hd; omega
theorem Ar : ∀ (es : List Edg) (a b L : Int), Chn a es b → iP L es → 0 ≤ L → (∀ e ∈ es, EOk e) → (-1 ≤ a ∧ a ≤ 1) →
    (∀ e ∈ es, a ≤ e.1 ∨ b ≤ e.1) ∧ (b < 0 → (∃ e ∈ es, 0 < e.1) → (fq es : Int) = 1 + (if a ≤ 0 then 1 else 0))
 | [], a, b, L, hc, _, _, _, ha => ⟨fun e he => by (cases he), fun _ ⟨e, he, _⟩ => by (cases he)⟩
 | e :: r, a, b, L, hc, hi, hL, hok, ha => by
  obtain ⟨o1, o2, o3, o4⟩ := hok e (List.mem_cons_self ..)
  have hcc := hc
  obtain ⟨c1, c2⟩ := hc
  have hii := hi
  obtain ⟨i1, i2⟩ := hi
  by_cases q : e.2.2 < 8
  · obtain ⟨h1, h2⟩ := Ar r e.2.1 b e.2.2 c2 i2 (by omega) (fun e he => hok e (List.mem_cons_of_mem _ he)) o2
    have ht : tsg e.2.2 = 1 := by unfold tsg; rw [if_neg (by omega), if_pos q]
    rw [ht] at o3
    unfold Tr at o3
    subst c1
    refine ⟨fun d hd => ?_, fun hb ⟨d, hd, hp⟩ => ?_⟩
    · rcases List.mem_cons.1 hd with rfl | hd
      · exact .inl (Int.le_refl _)
      · have := h1 d hd; omega
    · have hp2 : ∃ d ∈ r, 0 < d.1 := by
       rcases List.mem_cons.1 hd with rfl | hd
       · cases r with
         | nil => have : d.2.1 = b := c2; omega
         | cons f r => exact ⟨f, List.mem_cons_self .., by have := c2.1; omega⟩
       · exact ⟨d, hd, hp⟩
      have h3 := h2 hb hp2
      rw [fq, pu e o1 o2]
      push_cast
      rw [h3]
      have : e.1 = -1 ∨ e.1 = 0 ∨ e.1 = 1 := by omega
      have : e.2.1 = -1 ∨ e.2.1 = 0 ∨ e.2.1 = 1 := by omega
      split <;> split <;> split <;> omega
  · by_cases q8 : e.2.2 = 8
    · obtain ⟨h1, h1', h2, h3⟩ := sy r e.2.1 b e.2.2 c2 i2 (by omega) (fun e he => hok e (List.mem_cons_of_mem _ he)) o2
      have ht : tsg e.2.2 = 0 := by unfold tsg; rw [if_pos (.inr q8)]
      rw [ht] at o3
      unfold Tr at o3
      subst c1
      refine ⟨fun d hd => ?_, fun hb ⟨d, hd, hp⟩ => ?_⟩
      · rcases List.mem_cons.1 hd with rfl | hd
        · exact .inl (Int.le_refl _)
        · exact .inr (h3 d hd).1
      · have hp2 : 0 < e.1 := by
         rcases List.mem_cons.1 hd with rfl | hd
         · exact hp
         · have := h3 d hd; omega
        rw [fq, pu e o1 o2]
        push_cast
        rw [h2]
        split <;> split <;> split <;> split <;> omega
    · obtain ⟨h1, h1', h2, h3⟩ := sy (e :: r) a b 8 hcc ⟨by omega, i2⟩ (by omega) hok ha
      refine ⟨fun d hd => .inr (h3 d hd).1, fun hb ⟨d, hd, hp⟩ => ?_⟩
      have := h3 d hd
      rw [h2]
      split <;> split <;> split <;> omega
theorem DO (es : List Edg) (a : Int) (hc : Chn a es a) (hi : iP (-1) es) (hok : ∀ e ∈ es, EOk e) (hp : ∃ e ∈ es, 0 < e.1) (hn : ∃ e ∈ es, e.1 < 0) : fq es = 2 := by
 cases es with
 | nil => obtain ⟨e, he, _⟩ := hp; cases he
 | cons e r =>
  obtain ⟨o1, o2, o3, o4⟩ := hok e (List.mem_cons_self ..)
  have hcc := hc
  obtain ⟨c1, c2⟩ := hc
  have ha : -1 ≤ a ∧ a ≤ 1 := by omega
  by_cases q : e.2.2 = 0
  · have ht : tsg e.2.2 = 0 := by unfold tsg; rw [if_pos (.inl q)]
    rw [ht] at o3
    unfold Tr at o3
    obtain ⟨h1, h2⟩ := Ar r e.2.1 a e.2.2 c2 hi.2 (by omega) (fun e he => hok e (List.mem_cons_of_mem _ he)) o2
    have ha0 : a < 0 := by
     obtain ⟨d, hd, hd2⟩ := hn
     rcases List.mem_cons.1 hd with rfl | hd
     · omega
     · have := h1 d hd; omega
    have hp2 : ∃ d ∈ r, 0 < d.1 := by
     obtain ⟨d, hd, hp⟩ := hp
     rcases List.mem_cons.1 hd with rfl | hd
     · omega
     · exact ⟨d, hd, hp⟩
    have h3 := h2 ha0 hp2
    have : ((fq (e :: r) : Nat) : Int) = 2 := by
     rw [fq, pu e o1 o2]
     push_cast
     rw [h3]
     split <;> split <;> split <;> omega
    omega
  · obtain ⟨h1, h2⟩ := Ar (e :: r) a a 0 hcc ⟨by omega, hi.2⟩ (by omega) hok ha
    have ha0 : a < 0 := by
     obtain ⟨d, hd, hd2⟩ := hn
     have := h1 d hd; omega
    have h3 := h2 ha0 hp
    rw [if_pos (by omega)] at h3
    omega
def desc : Int → List Int → Nat
 | _, [] => 0
 | b, d :: r => (if d < b then 1 else 0) + desc d r
theorem um : ∀ (cs : List Int) (b : Int), (∀ c ∈ cs, 0 ≤ c ∧ c < 16) → (0 ≤ b ∧ b < 16) → smT b cs = lst b cs - b + 16 * (desc b cs : Int)
 | [], b, _, _ => by simp [smT, lst, desc]
 | c :: r, b, h, hb => by
  have hc := h c (List.mem_cons_self ..)
  have ih := um r c (fun c hc => h c (List.mem_cons_of_mem _ hc)) hc
  unfold smT lst desc
  rw [ih]
  by_cases q : c < b
  · rw [if_pos q]; push_cast; omega
  · rw [if_neg q]; push_cast; omega
theorem C5 : ∀ (es : List Edg) (b : Int), okT b (es.map (·.2.2)) = true → desc b (es.map (·.2.2)) = 0 → iP b es
 | [], _, _, _ => trivial
 | e :: r, b, h, hd => by
  simp only [List.map_cons, okT, desc, Bool.and_eq_true] at h hd
  have h1 := h.1
  unfold tok at h1
  simp only [Bool.and_eq_true, decide_eq_true_eq] at h1
  have q : ¬ e.2.2 < b := fun q => by rw [if_pos q] at hd; omega
  rw [if_neg q] at hd
  refine ⟨?_, C5 r e.2.2 h.2 (by omega)⟩
  by_cases e2 : e.2.2 = b
  · rw [e2] at h1; simp at h1
  · omega
theorem wO : ∀ (es : List Edg) (b : Int), okT b (es.map (·.2.2)) = true → desc b (es.map (·.2.2)) = 1 → ∃ A B, es = A ++ B ∧ iP b A ∧ B ≠ [] ∧ (∀ L, (∀ e ∈ es, L < e.2.2) → iP L B)
 | [], _, _, h => by cases h
 | e :: r, b, h, hd => by
  simp only [List.map_cons, okT, desc, Bool.and_eq_true] at h hd
  have h1 := h.1
  unfold tok at h1
  simp only [Bool.and_eq_true, decide_eq_true_eq] at h1
  by_cases q : e.2.2 < b
  · rw [if_pos q] at hd
    refine ⟨[], e :: r, rfl, trivial, by simp, fun L hL => ⟨hL e (List.mem_cons_self ..), C5 r e.2.2 h.2 (by omega)⟩⟩
  · rw [if_neg q, Nat.zero_add] at hd
    obtain ⟨A, B, e1, e2, e3, e4⟩ := wO r e.2.2 h.2 hd
    refine ⟨e :: A, B, by rw [e1]; rfl, ⟨?_, e2⟩, e3, fun L hL => e4 L fun d hd => hL d (List.mem_cons_of_mem _ hd)⟩
    by_cases q2 : e.2.2 = b
    · rw [q2] at h1; simp at h1
    · omega
theorem rS : ∀ (A B : List Int) (b : Int), lst b (A ++ B) = lst (lst b A) B
 | [], _, _ => rfl
 | a :: A, B, b => rS A B a
theorem Hd : ∀ (B : List Int) (b b' : Int), B ≠ [] → lst b B = lst b' B
 | [], _, _, h => absurd rfl h
 | _ :: _, _, _, _ => rfl
theorem FE (es : List Edg) (a b : Int) (hc : Chn a es a) (hok : ∀ e ∈ es, EOk e) (hb : 0 ≤ b ∧ b < 16) (hl : lst b (es.map (·.2.2)) = b) (ht : okT b (es.map (·.2.2)) = true) (hs : smT b (es.map (·.2.2)) = 16) (hp : ∃ e ∈ es, 0 < e.1) (hn : ∃ e ∈ es, e.1 < 0) : fq es = 2 := by
 have hd := um (es.map (·.2.2)) b (fun c hc => by
  obtain ⟨e, he, rfl⟩ := List.mem_map.1 hc
  exact (hok e he).2.2.2) hb
 rw [hl, hs] at hd
 obtain ⟨A, B, e1, e2, e3, e4⟩ := wO es b ht (by omega)
 have hB := e4 (-1) (fun e he => by have := (hok e he).2.2.2; omega)
 subst e1
 obtain ⟨m, c1, c2⟩ := (mY A B a a).1 hc
 have hBA : Chn m (B ++ A) m := (mY B A m m).2 ⟨a, c2, c1⟩
 have hlB : lst (-1) (B.map (·.2.2)) = b := by
  rw [List.map_append, rS] at hl
  rw [← hl]
  exact Hd _ _ _ (by simpa using e3)
 have hinc : iP (-1) (B ++ A) := pG B A (-1) hB (fun _ _ => trivial) (by rw [hlB]; exact e2)
 have key := DO (B ++ A) m hBA hinc (fun e he => hok e (by rcases List.mem_append.1 he with h | h; exact List.mem_append.2 (.inr h); exact List.mem_append.2 (.inl h)))
  (by obtain ⟨e, he, h⟩ := hp; exact ⟨e, by rcases List.mem_append.1 he with h | h; exact List.mem_append.2 (.inr h); exact List.mem_append.2 (.inl h), h⟩)
  (by obtain ⟨e, he, h⟩ := hn; exact ⟨e, by rcases List.mem_append.1 he with h | h; exact List.mem_append.2 (.inr h); exact List.mem_append.2 (.inl h), h⟩)
 rw [pX] at key ⊢
 omega
theorem H9 : ∀ a b : Fin 16, (ae (eG.getD a ((0, 0), (0, 0))) (eG.getD b ((0, 0), (0, 0)))).sg = tsg (((b.val : Int) - (a.val : Int)) % 16) := by decide +kernel
theorem If {d e : Int} (h0 : 0 ≤ d) (h1 : d < 16) (h2 : 0 ≤ e) (h3 : e < 16) : (ae (vec d) (vec e)).sg = tsg ((e - d) % 16) := by
 have := H9 ⟨d.toNat, by omega⟩ ⟨e.toNat, by omega⟩
 unfold vec
 rw [show d % 16 = d by omega, show e % 16 = e by omega]
 simp only at this
 rw [this, show ((e.toNat : Int) - (d.toNat : Int)) = e - d by omega]
end Go.Proofs.YtoclkhdbjbmpfaaGreatDoor.R
namespace Go.Proofs.YtoclkhdbjbmpfaaGreatDoor.R
open Go.Proofs.YtoclkhdbjbmpfaaGreatDoor.R1 Z2
def sc (X : Z2) : Z2 := (8 * X.1, 8 * X.2)
def v8 (P : V2) : V2 := (sc P.1, sc P.2)
theorem F5 (X : Z2) : (sc X).sg = X.sg := by
 have := xp (a := X.1) (b := X.2) 3
 rw [show ((X.1 * 2 ^ 3, X.2 * 2 ^ 3) : Z2) = sc X by unfold sc; exact Prod.ext (by simp; omega) (by simp; omega)] at this
 exact this
theorem Ds (X Y : Z2) : (sc X).sub (sc Y) = sc (X.sub Y) := by unfold sc Z2.sub; exact Prod.ext (by simp only; omega) (by simp only; omega)
theorem Jr (X Y : Z2) : (sc X).add (sc Y) = sc (X.add Y) := by unfold sc Z2.add; exact Prod.ext (by simp only; omega) (by simp only; omega)
theorem Dh (X Y : Z2) : X.mul (sc Y) = sc (X.mul Y) := by unfold sc Z2.mul; exact Prod.ext (by simp only; grind) (by simp only; grind)
theorem zI (X : Z2) : X.mul (8, 0) = sc X := by unfold sc Z2.mul; exact Prod.ext (by simp only; omega) (by simp only; omega)
theorem vh (u P : V2) : dot u (v8 P) = sc (dot u P) := by unfold dot v8; rw [Dh, Dh, Jr]
theorem Rp.lift {X : Z2} {a b c : Int} (r : Rp 10 X a b c) : Rp 13 (sc X) a b c := by
 have h0 := r.c0
 have h1 := r.ck
 have e : 13 - c.toNat = 3 + (10 - c.toNat) := by omega
 refine ⟨r.c0, by omega, ?_, ?_, r.rd⟩
 · rw [e, eN]; unfold sc; rw [r.h1]; simp only; rw [show (2 : Int) ^ 3 = 8 from rfl, Int.mul_left_comm]
 · rw [e, eN]; unfold sc; rw [r.h2]; simp only; rw [show (2 : Int) ^ 3 = 8 from rfl, Int.mul_left_comm]
theorem Bd.sc {M : Int} {X : Z2} (h : Bd M X) : Bd (8 * M) (R.sc X) := by unfold Bd at *; unfold R.sc; simp only; omega
theorem Pp.lift {P : V2} {a1 a2 a3 a4 a5 a6 : Int} (r : Pp 10 P a1 a2 a3 a4 a5 a6) : Pp 13 (v8 P) a1 a2 a3 a4 a5 a6 := ⟨r.x.lift, r.y.lift⟩
theorem Bp.v8 {M : Int} {P : V2} (h : Bp M P) : Bp (8 * M) (R.v8 P) := ⟨h.1.sc, h.2.sc⟩
def cj (D : Z2) : Z2 := (D.1, -D.2)
def fk (D : Z2) : Z2 := (D.1 * (8 / D.nm), -D.2 * (8 / D.nm))
structure Dn (D : Z2) (s : Int) (e : Nat) : Prop where
 s1 : s = 1 ∨ s = -1
 e3 : e ≤ 3
 nm : D.nm = s * 2 ^ e
 bd : Bd 4 D
 iv : D.mul (fk D) = (8, 0)
theorem Dn.inv {D : Z2} {s : Int} {e : Nat} (h : Dn D s e) : fk D = (D.1 * (s * 2 ^ (3 - e)), -D.2 * (s * 2 ^ (3 - e))) := by
 obtain ⟨s1, e3, nm, bd, iv⟩ := h
 unfold fk
 rw [nm]
 have : (8 : Int) / (s * 2 ^ e) = s * 2 ^ (3 - e) := by
  have he : e = 0 ∨ e = 1 ∨ e = 2 ∨ e = 3 := by omega
  rcases s1 with rfl | rfl <;> rcases he with rfl | rfl | rfl | rfl <;> decide
 rw [this]
theorem HL {X D : Z2} {s : Int} {e : Nat} (h : Dn D s e) : X.mul (fk D) = ((X.mul (cj D)).1 * (s * 2 ^ (3 - e)), (X.mul (cj D)).2 * (s * 2 ^ (3 - e))) := by
 rw [h.inv]
 unfold Z2.mul cj
 generalize s * 2 ^ (3 - e) = t
 exact Prod.ext (by simp only; grind) (by simp only; grind)
theorem Dc (kk : Nat) : ∀ (e j : Nat) (s a b c K : Int) (x y : Int) {ρ : Type} (nx : ((((Unit × Int × Unit × Unit) × ((Int × Int × Int × Unit) × (Int × Int × Int × Unit) × Unit)) → Option ρ) × Unit)), (s = 1 ∨ s = -1) → e ≤ 3 → e + 1 ≤ j → 0 ≤ K → K + (e : Int) ≤ 1000 →
    jX kk j (s * 2 ^ e) a b c x y K nx = nx.1 (((), s, (), ()), ((a, b, c, ()), (x, y, K + (e : Int), ()), ())) := by
 intro e
 induction e with
 | zero =>
  intro j s a b c K x y ρ nx hs _ hj hK hK2
  obtain ⟨j, rfl⟩ : ∃ m, j = m + 1 := ⟨j - 1, by omega⟩
  unfold jX
  rw [Int.pow_zero, Int.mul_one, o6 s (by omega) (by omega), show (s % 2 == 0) = false from beq_false_of_ne (by omega), Int.natCast_zero, Int.add_zero]
  rfl
 | succ e ih =>
  intro j s a b c K x y ρ nx hs he hj hK hK2
  obtain ⟨j, rfl⟩ : ∃ m, j = m + 1 := ⟨j - 1, by omega⟩
  have hb : -8 ≤ s * 2 ^ (e + 1) ∧ s * 2 ^ (e + 1) ≤ 8 ∧ -8 ≤ s * 2 ^ e ∧ s * 2 ^ e ≤ 8 := by
   have : e = 0 ∨ e = 1 ∨ e = 2 := by omega
   rcases hs with rfl | rfl <;> rcases this with rfl | rfl | rfl <;> decide
  have h2 : s * 2 ^ (e + 1) = 2 * (s * 2 ^ e) := by rw [Int.pow_succ, ← Int.mul_assoc, Int.mul_comm]
  unfold jX
  rw [o6 _ (by omega) (by omega), show (s * 2 ^ (e + 1) % 2 == 0) = true from beq_iff_eq.2 (by omega), h2, Int.mul_tdiv_cancel_left _ (by decide), ai (x := s * 2 ^ e) (by omega) (by omega), ai (x := K + 1) (by omega) (by omega), cond_true, ih j s a b c (K + 1) x y nx hs (by omega) (by omega) (by omega) (by omega), show K + 1 + (e : Int) = K + ((e + 1 : Nat) : Int) by omega]
theorem A6 (kk : Nat) : ∀ (e j : Nat) (s a b c d f g K : Int) (x y : Int) {ρ : Type} (nx : ((((Unit × Unit × Int × Unit × Unit) × ((Int × Int × Int × Unit) × (Int × Int × Int × Unit) × (Int × Int × Int × Unit) × Unit)) → Option ρ) × Unit)), (s = 1 ∨ s = -1) → e ≤ 3 → e + 1 ≤ j → 0 ≤ K → K + (e : Int) ≤ 1000 →
    ke kk j (s * 2 ^ e) a b c d f g x y K nx = nx.1 (((), (), s, (), ()), ((a, b, c, ()), (d, f, g, ()), (x, y, K + (e : Int), ()), ())) := by
 intro e
 induction e with
 | zero =>
  intro j s a b c d f g K x y ρ nx hs _ hj hK hK2
  obtain ⟨j, rfl⟩ : ∃ m, j = m + 1 := ⟨j - 1, by omega⟩
  unfold ke
  rw [Int.pow_zero, Int.mul_one, show (s.tmod 2 == 0) = false by rcases hs with rfl | rfl <;> rfl, Int.natCast_zero, Int.add_zero]
  rfl
 | succ e ih =>
  intro j s a b c d f g K x y ρ nx hs he hj hK hK2
  obtain ⟨j, rfl⟩ : ∃ m, j = m + 1 := ⟨j - 1, by omega⟩
  have hb : -8 ≤ s * 2 ^ e ∧ s * 2 ^ e ≤ 8 := by
   have : e = 0 ∨ e = 1 ∨ e = 2 := by omega
   rcases hs with rfl | rfl <;> rcases this with rfl | rfl | rfl <;> decide
  have h2 : s * 2 ^ (e + 1) = 2 * (s * 2 ^ e) := by rw [Int.pow_succ, ← Int.mul_assoc, Int.mul_comm]
  unfold ke
  rw [h2, Int.mul_tmod_right, show ((0 : Int) == 0) = true from rfl, Int.mul_tdiv_cancel_left _ (by decide), ai (x := s * 2 ^ e) (by omega) (by omega), ai (x := K + 1) (by omega) (by omega), cond_true, ih j s a b c d f g (K + 1) x y nx hs (by omega) (by omega) (by omega) (by omega), show K + 1 + (e : Int) = K + ((e + 1 : Nat) : Int) by omega]
section
variable {kk : Nat} {X D : Z2} {a b c s : Int} {e : Nat} {M : Int}
theorem zT (h : Dn D s e) : wr .i64 ((wr .i64 (D.1 * D.1)) - (wr .i64 ((wr .i64 (2 * D.2)) * D.2))) = s * 2 ^ e ∧ s * 2 ^ e ≠ 0 := by
 obtain ⟨s1, e3, nm, bd, iv⟩ := h
 obtain ⟨b1, b2, b3, b4⟩ := bd
 have p1 := dc ⟨b1, b2⟩ ⟨b1, b2⟩
 have p2 := dc ⟨b3, b4⟩ ⟨b3, b4⟩
 rw [ai (x := 2 * D.2) (by omega) (by omega), Int.mul_assoc 2 D.2 D.2, ai (x := D.1 * D.1) (by omega) (by omega), ai (x := 2 * (D.2 * D.2)) (by omega) (by omega), ai (by omega) (by omega)]
 refine ⟨nm, ?_⟩
 have he : e = 0 ∨ e = 1 ∨ e = 2 ∨ e = 3 := by omega
 rcases s1 with rfl | rfl <;> rcases he with rfl | rfl | rfl | rfl <;> decide
theorem ss (hs : s = 1 ∨ s = -1) (x : Int) : x.tdiv s = x * s ∧ x.tmod s = 0 ∧ (x * s = x ∨ x * s = -x) := by
 rcases hs with rfl | rfl
 · exact ⟨by simp, by simp, .inl (by omega)⟩
 · exact ⟨by simp, by simp, .inr (by omega)⟩
theorem pS (h : Dn D s e) {x y K : Int} (k0 : 0 ≤ K) (k1 : K ≤ 10) (e1 : (X.mul (cj D)).1 = x * 2 ^ (10 - K.toNat)) (e2 : (X.mul (cj D)).2 = y * 2 ^ (10 - K.toNat)) :
    (X.mul (fk D)).1 = (x * s) * 2 ^ (13 - (K + (e : Int)).toNat) ∧ (X.mul (fk D)).2 = (y * s) * 2 ^ (13 - (K + (e : Int)).toNat) := by
 have h3 := h.e3
 rw [HL h, e1, e2, show 13 - (K + (e : Int)).toNat = (10 - K.toNat) + (3 - e) by omega, eN]
 generalize (2 : Int) ^ (10 - K.toNat) = p
 generalize (2 : Int) ^ (3 - e) = q
 exact ⟨by simp only; grind, by simp only; grind⟩
theorem Al (hkk : 400 ≤ kk) (h : Dn D s e) (r : Rp 10 X a b c) (B : Bd M X) (hM : 0 ≤ M) (hM2 : M ≤ 1099511627776) :
    ∃ t1 t2 t3, f144 kk a b c D.1 D.2 0 = some (((t1, t2, t3, ()), true, ()), ()) ∧ Rp 13 (X.mul (fk D)) t1 t2 t3 := by
 obtain ⟨n1, n2⟩ := zT h
 have bdD := h.bd
 have bdc : Bd 4 (cj D) := by unfold Bd cj at *; simp only; omega
 obtain ⟨x, y, K, m1, m2⟩ := ff (kk := kk) (M := M) (N := 4) hkk (by omega) (by omega) r (rp0 (cj D)) B bdc hM (by omega) (by omega) (by omega)
 have mb := m2.bd (M := 3 * (M * 4)) (by omega) (B.mul bdc)
 have hK0 := m2.c0
 have hK1 := m2.ck
 obtain ⟨p1, p2⟩ := pS h hK0 (by omega) m2.h1 m2.h2
 have he := h.e3
 have hs := h.s1
 have d1 := ss hs x
 have d2 := ss hs y
 obtain ⟨t1, t2, t3, r1, r2⟩ := nG (kk := kk) (k := 13) (X := X.mul (fk D)) (a := x * s) (b := y * s) (c := K + (e : Int)) hkk (by omega) (by omega) (by omega) p1 p2 (by omega) (by omega) (by omega) (by omega)
 refine ⟨t1, t2, t3, ?_, r2⟩
 unfold f144
 dsimp only
 rw [n1, show (s * 2 ^ e == 0) = false from beq_false_of_ne n2, cond_false, ai (x := 0 - D.2) (by unfold Bd at bdD; omega) (by unfold Bd at bdD; omega), Int.zero_sub]
 rw [show f113 kk a b c D.1 (-D.2) 0 = some (((x, y, K, ()), ()), ()) from m1]
 simp only [Option.bind_some]
 rw [ai (x := K - 0) (by omega) (by omega), Int.sub_zero, Dc kk e kk s 0 0 0 K x y _ hs he (by omega) hK0 (by omega)]
 dsimp only
 rw [decide_eq_false (p := s = 0) (by omega), d1.2.1, d2.2.1, d1.1, d2.1, decide_eq_false (p := K + (e : Int) < 0) (by omega), ai (x := x * s) (by omega) (by omega), ai (x := y * s) (by omega) (by omega), r1]
 rfl
theorem yX (hkk : 400 ≤ kk) (h : Dn D s e) (r : Rp 10 X a b c) (B : Bd M X) (hM : 0 ≤ M) (hM2 : M ≤ 1099511627776) :
    ∃ t1 t2 t3, f151 kk a b c D.1 D.2 0 = some (((t1, t2, t3, ()), true, ()), ()) ∧ Rp 13 (X.mul (fk D)) t1 t2 t3 := by
 obtain ⟨n1, n2⟩ := zT h
 have bdD := h.bd
 obtain ⟨q1, q2, q3, q4⟩ := id bdD
 obtain ⟨ba, bb⟩ := r.bd hM B
 have u1 := dc ba ⟨q1, q2⟩
 have u2 := dc bb ⟨q3, q4⟩
 have u3 := dc bb ⟨q1, q2⟩
 have u4 := dc ba ⟨q3, q4⟩
 obtain ⟨m1, m2⟩ := om r (rp0 (cj D))
 have hK0 := r.c0
 have hK1 := r.ck
 have w1 : wr .i64 ((wr .i64 (a * D.1)) - (wr .i64 ((wr .i64 (2 * b)) * D.2))) = a * D.1 - 2 * (b * D.2) := by
  rw [ai (x := 2 * b) (by omega) (by omega), Int.mul_assoc, ai (x := a * D.1) (by omega) (by omega), ai (x := 2 * (b * D.2)) (by omega) (by omega), ai (by omega) (by omega)]
 have w2 : wr .i64 ((wr .i64 (b * D.1)) - (wr .i64 (a * D.2))) = b * D.1 - a * D.2 := by
  rw [ai (x := b * D.1) (by omega) (by omega), ai (x := a * D.2) (by omega) (by omega), ai (by omega) (by omega)]
 rw [show 10 + 0 - (c + 0).toNat = 10 - c.toNat by omega, show a * (cj D).1 + 2 * b * (cj D).2 = a * D.1 - 2 * (b * D.2) by unfold cj; simp only; rw [Int.mul_neg, Int.mul_assoc]; omega] at m1
 rw [show 10 + 0 - (c + 0).toNat = 10 - c.toNat by omega, show a * (cj D).2 + b * (cj D).1 = b * D.1 - a * D.2 by unfold cj; simp only; rw [Int.mul_neg]; omega] at m2
 obtain ⟨p1, p2⟩ := pS h hK0 (by omega) m1 m2
 have he := h.e3
 have hs := h.s1
 generalize a * D.1 - 2 * (b * D.2) = x at *
 generalize b * D.1 - a * D.2 = y at *
 have xb : -17592186044416 ≤ x ∧ x ≤ 17592186044416 ∧ -17592186044416 ≤ y ∧ y ≤ 17592186044416 := by
  rw [← w1, ← w2]
  rw [ai (x := 2 * b) (by omega) (by omega), Int.mul_assoc, ai (x := a * D.1) (by omega) (by omega), ai (x := 2 * (b * D.2)) (by omega) (by omega), ai (x := b * D.1) (by omega) (by omega), ai (x := a * D.2) (by omega) (by omega), ai (x := a * D.1 - 2 * (b * D.2)) (by omega) (by omega), ai (x := b * D.1 - a * D.2) (by omega) (by omega)]
  omega
 have d1 := ss hs x
 have d2 := ss hs y
 obtain ⟨t1, t2, t3, r1, r2⟩ := wy (kk := kk) (k := 13) (X := X.mul (fk D)) (a := x * s) (b := y * s) (c := c + (e : Int)) hkk (by omega) (by omega) (by omega) p1 p2 (by omega) (by omega) (by omega) (by omega)
 refine ⟨t1, t2, t3, ?_, r2⟩
 obtain ⟨k, hk⟩ : ∃ m, kk = m + 1 := ⟨kk - 1, by omega⟩
 have l13 : ∀ (A B C u v w : Int) {ρ : Type} (nx : ((((Unit × Unit × Unit) × ((Int × Int × Int × Unit) × (Int × Int × Int × Unit) × Unit)) → Option ρ) × Unit)), iR kk kk 0 A B C u v w nx = nx.1 (((), (), ()), ((A, B, C, ()), (u, v, w, ()), ())) := fun A B C u v w ρ nx => by
  rw [hk]; unfold iR; rfl
 unfold f151
 dsimp only
 rw [n1, show (s * 2 ^ e == 0) = false from beq_false_of_ne n2, cond_false, w1, w2, A6 kk e kk s D.1 D.2 0 0 0 0 c x y _ hs he (by omega) hK0 (by omega)]
 dsimp only
 rw [decide_eq_false (p := s = 0) (by omega), d1.2.1, d2.2.1, d1.1, d2.1, ai (x := x * s) (by omega) (by omega), ai (x := y * s) (by omega) (by omega), l13]
 dsimp only
 rw [r1]
 rfl
end
def gU (a b : Int) : Z2 := ae (vec (a + 4)) (vec (b + 4))
def qa (D : Z2) : Int × Nat := if D.nm = 1 then (1, 0) else if D.nm = 2 then (1, 1) else if D.nm = 4 then (1, 2) else if D.nm = 8 then (1, 3) else if D.nm = -1 then (-1, 0) else if D.nm = -2 then (-1, 1) else if D.nm = -4 then (-1, 2) else (-1, 3)
theorem Hj : ∀ a b : Fin 8, a ≠ b → (let D := gU a.val b.val; ((qa D).1 = 1 ∨ (qa D).1 = -1) ∧ (qa D).2 ≤ 3 ∧ D.nm = (qa D).1 * 2 ^ (qa D).2 ∧ (-4 ≤ D.1 ∧ D.1 ≤ 4 ∧ -4 ≤ D.2 ∧ D.2 ≤ 4) ∧ D.mul (fk D) = (8, 0) ∧ (-8 ≤ (fk D).1 ∧ (fk D).1 ≤ 8 ∧ -8 ≤ (fk D).2 ∧ (fk D).2 ≤ 8)) := by decide +kernel
theorem qL {a b : Int} (a0 : 0 ≤ a) (a1 : a < 8) (b0 : 0 ≤ b) (b1 : b < 8) (h : a ≠ b) : Dn (gU a b) (qa (gU a b)).1 (qa (gU a b)).2 ∧ Bd 8 (fk (gU a b)) := by
 have := Hj ⟨a.toNat, by omega⟩ ⟨b.toNat, by omega⟩ (fun e => h (by have := congrArg Fin.val e; simp only at this; omega))
 simp only at this
 rw [show ((a.toNat : Nat) : Int) = a by omega, show ((b.toNat : Nat) : Int) = b by omega] at this
 obtain ⟨h1, h2, h3, h4, h5, h6⟩ := this
 exact ⟨⟨h1, h2, h3, h4, h5⟩, h6⟩
def nc (a b : Int) (A B : Z2) : V2 :=
 (((A.mul (vec (b + 4)).2).sub (B.mul (vec (a + 4)).2)).mul (fk (gU a b)), ((B.mul (vec (a + 4)).1).sub (A.mul (vec (b + 4)).1)).mul (fk (gU a b)))
theorem Et (n m : V2) (A B i : Z2) : (dot m ((((A.mul m.2).sub (B.mul n.2)).mul i), (((B.mul n.1).sub (A.mul m.1)).mul i))) = B.mul ((ae n m).mul i) ∧
    (dot n ((((A.mul m.2).sub (B.mul n.2)).mul i), (((B.mul n.1).sub (A.mul m.1)).mul i))) = A.mul ((ae n m).mul i) := by
 unfold dot ae Z2.mul Z2.sub Z2.add
 constructor
 · exact Prod.ext (by simp only; grind) (by simp only; grind)
 · exact Prod.ext (by simp only; grind) (by simp only; grind)
theorem Hg {a b : Int} (a0 : 0 ≤ a) (a1 : a < 8) (b0 : 0 ≤ b) (b1 : b < 8) (h : a ≠ b) (A B : Z2) : dot (vec (b + 4)) (nc a b A B) = sc B ∧ dot (vec (a + 4)) (nc a b A B) = sc A := by
 have iv := (qL a0 a1 b0 b1 h).1.iv
 unfold gU at iv
 obtain ⟨h1, h2⟩ := Et (vec (a + 4)) (vec (b + 4)) A B (fk (gU a b))
 unfold gU at h1 h2
 unfold nc gU
 rw [h1, h2, iv, zI, zI]
 exact ⟨rfl, rfl⟩
section
variable {kk : Nat} {A B : Z2} {a b a1 a2 a3 b1 b2 b3 : Int}
theorem yJ (ha0 : 0 ≤ a) (ha1 : a < 8) (hb0 : 0 ≤ b) (hb1 : b < 8) (h : a ≠ b) (BA : Bd 805306368 A) (BB : Bd 805306368 B) : Bp 137438953472 (nc a b A B) := by
 obtain ⟨_, iv⟩ := qL ha0 ha1 hb0 hb1 h
 have vb := cz (b + 4)
 have va := cz (a + 4)
 exact ⟨(((BA.mul vb.2).sub (BB.mul va.2)).mul iv).mono (by omega), (((BB.mul va.1).sub (BA.mul vb.1)).mul iv).mono (by omega)⟩
theorem yz (hkk : 400 ≤ kk) (ha0 : 0 ≤ a) (ha1 : a < 8) (hb0 : 0 ≤ b) (hb1 : b < 8) (h : a ≠ b) (rA : Rp 10 A a1 a2 a3) (rB : Rp 10 B b1 b2 b3) (BA : Bd 805306368 A) (BB : Bd 805306368 B) :
    ∃ x1 x2 x3 x4 x5 x6, f123 kk a a1 a2 a3 b b1 b2 b3 = some (((x1, x2, x3, x4, x5, x6, ()), true, ()), ()) ∧ Pp 13 (nc a b A B) x1 x2 x3 x4 x5 x6 := by
 obtain ⟨dn, iv⟩ := qL ha0 ha1 hb0 hb1 h
 have na := eV (a + 4)
 have nb := eV (b + 4)
 have va := cz (a + 4)
 have vb := cz (b + 4)
 obtain ⟨d1, d2, d3, c1, c2⟩ := qj (kk := kk) (M := 1) (N := 1) hkk (by omega) na nb va vb (by omega) (by omega) (by omega) (by omega)
 have hd := (c2 : Rp 0 (gU a b) d1 d2 d3).Ek (rp0 (gU a b))
 obtain ⟨e1, e2, e3⟩ := hd
 subst e1 e2 e3
 obtain ⟨t1, t2, t3, s1, s2⟩ := ff (kk := kk) (M := 805306368) (N := 1) hkk (by omega) (by omega) rA nb.y BA vb.2 (by omega) (by omega) (by omega) (by omega)
 obtain ⟨u1, u2, u3, s3, s4⟩ := ff (kk := kk) (M := 805306368) (N := 1) hkk (by omega) (by omega) rB na.y BB va.2 (by omega) (by omega) (by omega) (by omega)
 obtain ⟨v1, v2, v3, s5, s6⟩ := fo (kk := kk) hkk (by omega) s2 s4 ((BA.mul vb.2).mono (by omega)) ((BB.mul va.2).mono (by omega))
 obtain ⟨w1, w2, w3, s7, s8⟩ := Al (kk := kk) (M := 4831838208) hkk dn s6 (((BA.mul vb.2).sub (BB.mul va.2)).mono (by omega)) (by omega) (by omega)
 obtain ⟨t4, t5, t6, z1, z2⟩ := ff (kk := kk) (M := 805306368) (N := 1) hkk (by omega) (by omega) rB na.x BB va.1 (by omega) (by omega) (by omega) (by omega)
 obtain ⟨u4, u5, u6, z3, z4⟩ := ff (kk := kk) (M := 805306368) (N := 1) hkk (by omega) (by omega) rA nb.x BA vb.1 (by omega) (by omega) (by omega) (by omega)
 obtain ⟨v4, v5, v6, z5, z6⟩ := fo (kk := kk) hkk (by omega) z2 z4 ((BB.mul va.1).mono (by omega)) ((BA.mul vb.1).mono (by omega))
 obtain ⟨w4, w5, w6, z7, z8⟩ := Al (kk := kk) (M := 4831838208) hkk dn z6 (((BB.mul va.1).sub (BA.mul vb.1)).mono (by omega)) (by omega) (by omega)
 refine ⟨w1, w2, w3, w4, w5, w6, ?_, s8, z8⟩
 unfold f123 f92
 rw [ai (x := a + 4) (by omega) (by omega), ai (x := b + 4) (by omega) (by omega), hU kk (a + 4) (by omega) (by omega), hU kk (b + 4) (by omega) (by omega)]
 simp only [Option.bind_some]
 rw [c1]
 simp only [Option.bind_some]
 rw [s1]
 simp only [Option.bind_some]
 rw [s3]
 simp only [Option.bind_some]
 rw [s5]
 simp only [Option.bind_some]
 rw [s7]
 simp only [Option.bind_some]
 rw [z1]
 simp only [Option.bind_some]
 rw [z3]
 simp only [Option.bind_some]
 rw [z5]
 simp only [Option.bind_some]
 rw [z7]
 rfl
theorem xB (hkk : 400 ≤ kk) (ha0 : 0 ≤ a) (ha1 : a < 8) (hb0 : 0 ≤ b) (hb1 : b < 8) (h : a ≠ b) (rA : Rp 10 A a1 a2 a3) (rB : Rp 10 B b1 b2 b3) (BA : Bd 805306368 A) (BB : Bd 805306368 B) :
    ∃ x1 x2 x3 x4 x5 x6, f138 kk a a1 a2 a3 b b1 b2 b3 = some (((x1, x2, x3, x4, x5, x6, ()), ()), ()) ∧ Pp 13 (nc a b A B) x1 x2 x3 x4 x5 x6 := by
 obtain ⟨dn, iv⟩ := qL ha0 ha1 hb0 hb1 h
 have na := eV (a + 4)
 have nb := eV (b + 4)
 have va := cz (a + 4)
 have vb := cz (b + 4)
 obtain ⟨g1, g2, g3, k1, k2⟩ := ig (kk := kk) (M := 1) (N := 1) hkk (by omega) (by omega) na.x nb.y va.1 vb.2 (by omega) (by omega) (by omega) (by omega)
 obtain ⟨g4, g5, g6, k3, k4⟩ := ig (kk := kk) (M := 1) (N := 1) hkk (by omega) (by omega) na.y nb.x va.2 vb.1 (by omega) (by omega) (by omega) (by omega)
 obtain ⟨d1, d2, d3, c1, c2⟩ := dE (kk := kk) hkk (by omega) k2 k4 ((va.1.mul vb.2).mono (by omega)) ((va.2.mul vb.1).mono (by omega))
 have hd := (c2 : Rp 0 (gU a b) d1 d2 d3).Ek (rp0 (gU a b))
 obtain ⟨e1, e2, e3⟩ := hd
 subst e1 e2 e3
 obtain ⟨t1, t2, t3, s1, s2⟩ := ig (kk := kk) (M := 805306368) (N := 1) hkk (by omega) (by omega) rA nb.y BA vb.2 (by omega) (by omega) (by omega) (by omega)
 obtain ⟨u1, u2, u3, s3, s4⟩ := ig (kk := kk) (M := 805306368) (N := 1) hkk (by omega) (by omega) rB na.y BB va.2 (by omega) (by omega) (by omega) (by omega)
 obtain ⟨v1, v2, v3, s5, s6⟩ := dE (kk := kk) hkk (by omega) s2 s4 ((BA.mul vb.2).mono (by omega)) ((BB.mul va.2).mono (by omega))
 obtain ⟨w1, w2, w3, s7, s8⟩ := yX (kk := kk) (M := 4831838208) hkk dn s6 (((BA.mul vb.2).sub (BB.mul va.2)).mono (by omega)) (by omega) (by omega)
 obtain ⟨t4, t5, t6, z1, z2⟩ := ig (kk := kk) (M := 805306368) (N := 1) hkk (by omega) (by omega) rB na.x BB va.1 (by omega) (by omega) (by omega) (by omega)
 obtain ⟨u4, u5, u6, z3, z4⟩ := ig (kk := kk) (M := 805306368) (N := 1) hkk (by omega) (by omega) rA nb.x BA vb.1 (by omega) (by omega) (by omega) (by omega)
 obtain ⟨v4, v5, v6, z5, z6⟩ := dE (kk := kk) hkk (by omega) z2 z4 ((BB.mul va.1).mono (by omega)) ((BA.mul vb.1).mono (by omega))
 obtain ⟨w4, w5, w6, z7, z8⟩ := yX (kk := kk) (M := 4831838208) hkk dn z6 (((BB.mul va.1).sub (BA.mul vb.1)).mono (by omega)) (by omega) (by omega)
 refine ⟨w1, w2, w3, w4, w5, w6, ?_, s8, z8⟩
 unfold f138 f104 f134
 rw [ai (x := a + 4) (by omega) (by omega), ai (x := b + 4) (by omega) (by omega), sW kk (a + 4) (by omega) (by omega), sW kk (b + 4) (by omega) (by omega)]
 simp only [Option.bind_some]
 rw [k1]
 simp only [Option.bind_some]
 rw [k3]
 simp only [Option.bind_some]
 rw [c1]
 simp only [Option.bind_some]
 rw [s1]
 simp only [Option.bind_some]
 rw [s3]
 simp only [Option.bind_some]
 rw [s5]
 simp only [Option.bind_some]
 rw [s7]
 simp only [Option.bind_some]
 rw [z1]
 simp only [Option.bind_some]
 rw [z3]
 simp only [Option.bind_some]
 rw [z5]
 simp only [Option.bind_some]
 rw [z7]
 rfl
end
end Go.Proofs.YtoclkhdbjbmpfaaGreatDoor.R
namespace Go.Proofs.YtoclkhdbjbmpfaaGreatDoor.R
open Go.Proofs.YtoclkhdbjbmpfaaGreatDoor.R1 Z2
structure Poly (l : List PtG) : Prop where
 ok : ∀ p ∈ l, okP p = true
 n3 : 3 ≤ l.length
 n16 : l.length ≤ 16
 cv : iy l = true
theorem yT {l : List PtG} (ok : ∀ p ∈ l, okP p = true) (h : dw l = true) : Poly l := by
 unfold dw at h
 simp only [Bool.and_eq_true, decide_eq_true_eq] at h
 exact ⟨ok, h.1, h.2.1, h.2.2⟩
theorem vz (l : List PtG) : ∀ (r : List PtG) (i m : Nat), (dsF l i r).drop m = dsF l (i + m) (r.drop m)
 | r, i, 0 => by simp
 | [], i, m + 1 => by simp [dsF]
 | q :: r, i, m + 1 => by
  rw [List.drop_succ_cons, show dsF l i (q :: r) = al q (atN l ((i + 1) % l.length)) :: dsF l (i + 1) r from rfl, List.drop_succ_cons, vz l r (i + 1) m, show i + 1 + m = i + (m + 1) by omega]
theorem zQ {l r : List PtG} {i : Nat} {q : PtG} (h : l.drop i = q :: r) : (eO l)[i]? = some (al q (atN l ((i + 1) % l.length))) := by
 have e := vz l l 0 i
 rw [h, Nat.zero_add] at e
 have := congrArg (·[0]?) e
 simp only [dsF, List.getElem?_cons_zero, List.getElem?_drop, Nat.add_zero] at this
 exact this
theorem Poly.dir {l r : List PtG} (g : Poly l) {i : Nat} {q : PtG} (h : l.drop i = q :: r) : al q (atN l ((i + 1) % l.length)) ≠ -1 := by
 have h1 := g.cv
 unfold iy at h1
 rw [Bool.and_eq_true] at h1
 have := List.all_eq_true.1 h1.1 _ (List.mem_of_getElem? (zQ h))
 simpa using this
def jH (l : List PtG) (p : PtG) : Int → Nat → List PtG → Int
 | m, _, [] => m
 | m, i, q :: r => jH l p (bif decide ((ae (vec (al q (atN l ((i + 1) % l.length)))) (aj (pt p) (pt q))).sg < m) then (ae (vec (al q (atN l ((i + 1) % l.length)))) (aj (pt p) (pt q))).sg else m) (i + 1) r
theorem pJ {kk : Nat} (hkk : 400 ≤ kk) {l : List PtG} (g : Poly l) {p : PtG} (hp : okP p = true) : ∀ (r : List PtG) (i j : Nat) (m : Int) {ρ : Type} (nx : ((((Int × Unit) × Unit) → Option ρ) × Unit)), l.drop i = r → r.length + 1 ≤ j →
    me kk j l m l (l.length : Int) (i : Int) p.1.1 p.1.2.1 p.1.2.2 p.2.1 p.2.2.1 p.2.2.2 nx = nx.1 ((jH l p m i r, ()), ())
 | [], i, j, m, ρ, nx, h, hj => by
  obtain ⟨j, rfl⟩ : ∃ m, j = m + 1 := ⟨j - 1, by omega⟩
  unfold me
  rw [aQ h]; rfl
 | q :: r, i, j, m, ρ, nx, h, hj => by
  obtain ⟨j, rfl⟩ : ∃ m, j = m + 1 := ⟨j - 1, by omega⟩
  have hi := aE h
  have hn := g.n16
  have hpos : 0 < l.length := by omega
  have m2 : (i + 1) % l.length < l.length := Nat.mod_lt _ hpos
  have hq : okP q = true := g.ok q (List.mem_of_getElem? (aP h))
  have hx := g.ok _ (cB m2)
  obtain ⟨rq, bq⟩ := bO hq
  obtain ⟨rx, bx⟩ := bO hx
  obtain ⟨rp, bp⟩ := bO hp
  obtain ⟨d0, d1, sg⟩ := lu (g.dir h)
  have ih := fun m => pJ hkk g hp r (i + 1) j m nx (an h) (by simp only [List.length_cons] at hj; omega)
  unfold me
  rw [aI h, aA h, decide_eq_false (p := (l.length : Int) = 0) (by omega), dH hpos (by omega)]
  simp only [cond_true, cond_false, Option.bind_some]
  rw [bU m2]
  simp only [Option.bind_some]
  rw [il hkk rq rx rp bq bx bp, sg.iu, az (by omega), Option.bind_some]
  dsimp only
  rw [ih]
  rfl
theorem tA {kk : Nat} (hkk : 400 ≤ kk) {l : List PtG} (g : Poly l) {p : PtG} (hp : okP p = true) : f33 kk l p.1.1 p.1.2.1 p.1.2.2 p.2.1 p.2.2.1 p.2.2.2 = some ((jH l p 1 0 l, ()), ()) := by
 have hn := g.n16
 unfold f33
 have := pJ hkk g hp l 0 kk 1 (ρ := ((Int × Unit) × Unit)) (fun x17 : ((Int × Unit) × Unit) => some ((x17.1.1, ()), ()), ()) rfl (by omega)
 rw [show ((0 : Nat) : Int) = 0 from rfl] at this
 rw [this]
theorem n8 {kk : Nat} (hkk : 400 ≤ kk) {l : List PtG} (g : Poly l) {p : PtG} (hp : okP p = true) : ∀ (r : List PtG) (i j : Nat) (m : Int) {ρ : Type} (nx : ((((Int × Unit) × Unit) → Option ρ) × Unit)), l.drop i = r → r.length + 1 ≤ j →
    ja kk j l (eO l) m (i : Int) p.1.1 p.1.2.1 p.1.2.2 p.2.1 p.2.2.1 p.2.2.2 nx = nx.1 ((jH l p m i r, ()), ())
 | [], i, j, m, ρ, nx, h, hj => by
  obtain ⟨j, rfl⟩ : ∃ m, j = m + 1 := ⟨j - 1, by omega⟩
  unfold ja
  rw [aQ h]; rfl
 | q :: r, i, j, m, ρ, nx, h, hj => by
  obtain ⟨j, rfl⟩ : ∃ m, j = m + 1 := ⟨j - 1, by omega⟩
  have hi := aE h
  have hn := g.n16
  have hq : okP q = true := g.ok q (List.mem_of_getElem? (aP h))
  obtain ⟨rq, bq⟩ := bO hq
  obtain ⟨rp, bp⟩ := bO hp
  have hdir := zQ h
  obtain ⟨d0, d1, _⟩ := lu (g.dir h)
  change 0 ≤ al q (atN l ((i + 1) % l.length)) at d0
  change al q (atN l ((i + 1) % l.length)) < 16 at d1
  obtain ⟨u1, u2, u3, u4, u5, u6, h1, h2⟩ := oH (kk := kk) hkk (by omega) rp rq (bp.mono (by omega)) (bq.mono (by omega))
  have ih := fun m => n8 hkk g hp r (i + 1) j m nx (an h) (by simp only [List.length_cons] at hj; omega)
  unfold ja
  rw [aI h, aA h, ec, hdir]
  simp only [cond_true, Option.bind_some]
  rw [h1, Option.bind_some]
  dsimp only
  unfold jH
  generalize al q (atN l ((i + 1) % l.length)) = d at *
  obtain ⟨z1, z2, z3, k5, k6⟩ := gy (d := d + 4) (N := 268435456) hkk (by omega) (by omega) (by omega) h2 ((bp.sub bq).mono (by omega)) (by omega) (by omega)
  have k7 := Rp.iM (kk := kk) k6 (M := 1610612736) (by omega) (by omega) ((dK (cz _) (bp.sub bq)).mono (by omega))
  rw [ai (x := d + 4) (by omega) (by omega), k5, Option.bind_some]
  dsimp only
  rw [k7, Option.bind_some, sY, az (by omega)]
  dsimp only
  rw [ih, ih]
  cases decide ((ae (vec d) (aj (pt p) (pt q))).sg < m) <;> rfl
theorem rG {kk : Nat} (hkk : 400 ≤ kk) {l : List PtG} (g : Poly l) {p : PtG} (hp : okP p = true) : f110 kk l (eO l) p.1.1 p.1.2.1 p.1.2.2 p.2.1 p.2.2.1 p.2.2.2 = some ((jH l p 1 0 l, ()), ()) := by
 have hn := g.n16
 unfold f110
 have := n8 hkk g hp l 0 kk 1 (ρ := ((Int × Unit) × Unit)) (fun x17 : ((Int × Unit) × Unit) => some ((x17.1.1, ()), ()), ()) rfl (by omega)
 rw [show ((0 : Nat) : Int) = 0 from rfl] at this
 rw [this]
def sdP (dl : Int) (O : Z2) (p : PtG) : Int := ((dot (vec (dl + 4)) (pt p)).sub O).sg
def sdV (dl : Int) (O : Z2) (V : V2) : Int := ((dot (vec (dl + 4)) V).sub (sc O)).sg
theorem Ao (dl : Int) (O : Z2) (p : PtG) : sdV dl O (v8 (pt p)) = sdP dl O p := by
 unfold sdV sdP; rw [vh, Ds, F5]
def mtV (dl : Int) (O : Z2) (p q : PtG) : V2 := nc (al p q % 8) dl (dot (vec (al p q % 8 + 4)) (pt p)) O
theorem tI {dl : Int} (h0 : 0 ≤ dl) (h1 : dl < 16) {p q : PtG} (hd : al p q ≠ -1) : o (dot (vec (dl + 4)) (pt p)) (dot (vec (dl + 4)) (pt q)) = tsg ((al p q - dl) % 16) := by
 obtain ⟨d0, d1, sg⟩ := lu hd
 have e : (ae (vec dl) (aj (pt q) (pt p))).sg = (ae (vec dl) (vec (al p q))).sg := by
  have h2 := dQ sg.d sg.c (vec dl)
  rw [sg.s, Int.one_mul] at h2
  rw [dt (vec dl) (aj (pt q) (pt p)), dt (vec dl) (vec (bB (aj (pt q) (pt p)))), cV, cV] at h2
  unfold al
  omega
 rw [sY, sY, show tsg ((al p q - dl) % 16) = _ from (If h0 h1 d0 d1).symm]
 unfold o
 rw [← aD, e]; rfl
def edF (dl : Int) (O : Z2) (l : List PtG) : Nat → List PtG → List Edg
 | _, [] => []
 | i, q :: r => (sdP dl O q, (sdP dl O (atN l ((i + 1) % l.length)), (al q (atN l ((i + 1) % l.length)) - dl) % 16)) :: edF dl O l (i + 1) r
theorem o9 (dl : Int) (O : Z2) (l : List PtG) : ∀ (r : List PtG) (i : Nat), (edF dl O l i r).map (·.2.2) = (dsF l i r).map fun d => (d - dl) % 16
 | [], _ => rfl
 | q :: r, i => by unfold edF dsF; rw [List.map_cons, List.map_cons, o9 dl O l r (i + 1)]
theorem Cn {dl : Int} (h0 : 0 ≤ dl) (h1 : dl < 16) (O : Z2) {l : List PtG} (g : Poly l) : ∀ (r : List PtG) (i : Nat), l.drop i = r → ∀ e ∈ edF dl O l i r, EOk e
 | [], _, _, e, he => by cases he
 | q :: r, i, h, e, he => by
  unfold edF at he
  rcases List.mem_cons.1 he with rfl | he
  · refine ⟨cb _, cb _, ?_, by simp only; omega⟩
    simp only
    rw [← tI h0 h1 (g.dir h)]
    exact tr3 O _ _
  · exact Cn h0 h1 O g r (i + 1) (an h) e he
theorem zq (dl : Int) (O : Z2) (l : List PtG) : ∀ (r : List PtG) (i : Nat) (q : PtG), l.drop i = q :: r → Chn (sdP dl O q) (edF dl O l i (q :: r)) (sdP dl O (atN l 0))
 | [], i, q, h => by
  have h1 := aE h
  have h2 := iJ (an h)
  refine ⟨rfl, ?_⟩
  simp only
  rw [show i + 1 = l.length by omega, Nat.mod_self]; rfl
 | p :: r, i, q, h => by
  have h2 := aE (an h)
  refine ⟨rfl, ?_⟩
  simp only
  rw [Nat.mod_eq_of_lt h2, mL (an h)]
  exact zq dl O l r (i + 1) p (an h)
theorem tC (dl : Int) : ∀ (D : List Int) (b : Int), okT ((b - dl) % 16) (D.map fun d => (d - dl) % 16) = okT b D ∧ smT ((b - dl) % 16) (D.map fun d => (d - dl) % 16) = smT b D
 | [], b => ⟨rfl, rfl⟩
 | d :: r, b => by
  obtain ⟨h1, h2⟩ := tC dl r d
  have e : ((d - dl) % 16 - (b - dl) % 16) % 16 = (d - b) % 16 := by omega
  simp only [List.map_cons, okT, smT, tok, h1, h2, e]
  exact ⟨trivial, trivial⟩
theorem zL (f : Int → Int) : ∀ (D : List Int) (b : Int), lst (f b) (D.map f) = f (lst b D)
 | [], _ => rfl
 | d :: r, _ => zL f r d
theorem ta {dl : Int} {O : Z2} {l : List PtG} {q : PtG} : ∀ {r : List PtG} {i : Nat}, q ∈ r → ∃ e ∈ edF dl O l i r, e.1 = sdP dl O q
 | [], _, h => by cases h
 | p :: r, i, h => by
  unfold edF
  rcases List.mem_cons.1 h with rfl | h
  · exact ⟨_, List.mem_cons_self .., rfl⟩
  · obtain ⟨e, he, h2⟩ := ta (i := i + 1) h
    exact ⟨e, List.mem_cons_of_mem _ he, h2⟩
def fL (dl : Int) (O : Z2) (l : List PtG) : Nat → List PtG → List V2
 | _, [] => []
 | i, q :: r => ((if sdP dl O q = 0 then [v8 (pt q)] else []) ++ (if sdP dl O q * sdP dl O (atN l ((i + 1) % l.length)) < 0 then [mtV dl O q (atN l ((i + 1) % l.length))] else [])) ++ fL dl O l (i + 1) r
theorem uc (dl : Int) (O : Z2) (l : List PtG) : ∀ (r : List PtG) (i : Nat), (fL dl O l i r).length = fq (edF dl O l i r)
 | [], _ => rfl
 | q :: r, i => by
  unfold fL edF fq Bb
  rw [List.length_append, List.length_append, uc dl O l r (i + 1)]
  congr 1
  congr 1
  · split <;> rfl
  · split <;> rfl
def dr (dl : Int) (O : Z2) (s : Int) (r : List PtG) : Bool := r.any fun q => decide (s * sdP dl O q > 0)
theorem wP {dl : Int} (h0 : 0 ≤ dl) (h1 : dl < 16) (O : Z2) {l : List PtG} (g : Poly l) (hp : dr dl O 1 l = true) (hn : dr dl O (-1) l = true) : (fL dl O l 0 l).length = 2 := by
 rw [uc]
 have hcv := g.cv
 unfold iy at hcv
 simp only [Bool.and_eq_true, decide_eq_true_eq] at hcv
 obtain ⟨c1, c2, c3⟩ := hcv
 have hn3 := g.n3
 obtain ⟨q, r, e⟩ : ∃ q r, l = q :: r := by cases l with
  | nil => simp at hn3
  | cons q r => exact ⟨q, r, rfl⟩
 have hl := oW l l 0 (al (atN l (l.length - 1)) (atN l 0)) rfl (by rw [e]; simp)
 have hs := tC dl (eO l) (al (atN l (l.length - 1)) (atN l 0))
 have hlm := zL (fun d => (d - dl) % 16) (eO l) (al (atN l (l.length - 1)) (atN l 0))
 have hch : Chn (sdP dl O (atN l 0)) (edF dl O l 0 l) (sdP dl O (atN l 0)) := by
  have := zq dl O l r 0 q (by rw [e]; rfl)
  rw [← e] at this
  rwa [show q = atN l 0 by rw [e]; rfl] at this
 refine FE (edF dl O l 0 l) (sdP dl O (atN l 0)) ((al (atN l (l.length - 1)) (atN l 0) - dl) % 16) hch (Cn h0 h1 O g l 0 rfl) (by omega) ?_ ?_ ?_ ?_ ?_
 · rw [o9]
   exact hlm.trans (by rw [show lst (al (atN l (l.length - 1)) (atN l 0)) (eO l) = al (atN l (l.length - 1)) (atN l 0) from hl])
 · rw [o9]; exact hs.1.trans c2
 · rw [o9]; exact hs.2.trans c3
 · obtain ⟨p, hp1, hp2⟩ := List.any_eq_true.1 hp
   obtain ⟨e, he, h2⟩ := ta (dl := dl) (O := O) (l := l) (i := 0) hp1
   exact ⟨e, he, by rw [h2]; simp only [decide_eq_true_eq] at hp2; omega⟩
 · obtain ⟨p, hp1, hp2⟩ := List.any_eq_true.1 hn
   obtain ⟨e, he, h2⟩ := ta (dl := dl) (O := O) (l := l) (i := 0) hp1
   exact ⟨e, he, by rw [h2]; simp only [decide_eq_true_eq] at hp2; omega⟩
theorem ld {dl : Int} (h0 : 0 ≤ dl) (h1 : dl < 8) (O : Z2) {p q : PtG} (hd : al p q ≠ -1) (h : sdP dl O p * sdP dl O q < 0) : al p q % 8 ≠ dl := by
 intro e
 have hr := (cK p q).resolve_left hd
 have h2 := tI h0 (by omega) hd
 have : tsg ((al p q - dl) % 16) = 0 := by unfold tsg; rw [if_pos (by omega)]
 rw [this, jE] at h2
 unfold sdP at h
 rw [h2] at h
 have := sq_nonneg ((dot (vec (dl + 4)) (pt q)).sub O).sg
 omega
end Go.Proofs.YtoclkhdbjbmpfaaGreatDoor.R
namespace Go.Proofs.YtoclkhdbjbmpfaaGreatDoor.R
open Go.Proofs.YtoclkhdbjbmpfaaGreatDoor.R1 Z2
def gR (x : N3) : Z2 := (x.1 * 2 ^ (13 - x.2.2.toNat), x.2.1 * 2 ^ (13 - x.2.2.toNat))
def cu (t : PtG) : V2 := (gR t.1, gR t.2)
structure OkQ (t : PtG) : Prop where
 pp : Pp 13 (cu t) t.1.1 t.1.2.1 t.1.2.2 t.2.1 t.2.2.1 t.2.2.2
 bd : Bp 137438953472 (cu t)
theorem wq {V : V2} {a b c d e f : Int} (h : Pp 13 V a b c d e f) : cu ((a, (b, c)), (d, (e, f))) = V :=
 Prod.ext (Prod.ext h.x.h1.symm h.x.h2.symm) (Prod.ext h.y.h1.symm h.y.h2.symm)
theorem J0 {V : V2} {a b c d e f : Int} (h : Pp 13 V a b c d e f) (hb : Bp 137438953472 V) : OkQ ((a, (b, c)), (d, (e, f))) := by
 have e := wq h
 exact ⟨by rw [e]; exact h, by rw [e]; exact hb⟩
theorem G5 {p : PtG} (h : okP p = true) : OkQ p ∧ cu p = v8 (pt p) := by
 obtain ⟨r, b⟩ := bO h
 have e := wq r.lift
 exact ⟨⟨by rw [show cu p = v8 (pt p) from e]; exact r.lift, by rw [show cu p = v8 (pt p) from e]; exact b.v8.mono (by omega)⟩, e⟩
structure Ln (dl : Int) (O : Z2) (o1 o2 o3 : Int) : Prop where
 d0 : 0 ≤ dl
 d1 : dl < 8
 r : Rp 10 O o1 o2 o3
 b : Bd 805306368 O
section
variable {kk : Nat} {dl o1 o2 o3 : Int} {O : Z2}
theorem CF (hkk : 400 ≤ kk) (L : Ln dl O o1 o2 o3) {t : PtG} (h : OkQ t) : f91 kk dl o1 o2 o3 t.1.1 t.1.2.1 t.1.2.2 t.2.1 t.2.2.1 t.2.2.2 = some ((sdV dl O (cu t), ()), ()) := by
 have d0 := L.d0
 have d1 := L.d1
 obtain ⟨x1, x2, x3, h1, h2⟩ := jt (kk := kk) (M := 1) (N := 137438953472) hkk (by omega) (eV (dl + 4)) h.pp (cz _) h.bd (by omega) (by omega) (by omega) (by omega)
 have hb := dK (cz (dl + 4)) h.bd
 obtain ⟨y1, y2, y3, h3, h4⟩ := fo (kk := kk) (k := 13) hkk (by omega) h2 L.r.lift (hb.mono (by omega)) (L.b.sc.mono (by omega))
 have h5 := Rp.sign (kk := kk) trivial h4 (M := 831085608960) (by omega) (by omega) ((hb.sub L.b.sc).mono (by omega))
 unfold f91 f92
 rw [ai (x := dl + 4) (by omega) (by omega), hU kk (dl + 4) (by omega) (by omega)]
 simp only [Option.bind_some]
 rw [h1]
 simp only [Option.bind_some]
 rw [h3]
 simp only [Option.bind_some]
 rw [h5]
 rfl
theorem rK (hkk : 400 ≤ kk) (L : Ln dl O o1 o2 o3) {t : PtG} (h : okP t = true) : f91 kk dl o1 o2 o3 t.1.1 t.1.2.1 t.1.2.2 t.2.1 t.2.2.1 t.2.2.2 = some ((sdP dl O t, ()), ()) := by
 obtain ⟨h1, h2⟩ := G5 h
 rw [CF hkk L h1, h2, Ao]
theorem tY (hkk : 400 ≤ kk) {p : PtG} (hp : okP p = true) {a : Int} (a0 : 0 ≤ a) (a1 : a < 8) :
    ∃ o1 o2 o3, f57 kk p.1.1 p.1.2.1 p.1.2.2 p.2.1 p.2.2.1 p.2.2.2 a = some (((a, o1, o2, o3, ()), ()), ()) ∧ Ln a (dot (vec (a + 4)) (pt p)) o1 o2 o3 := by
 obtain ⟨r, b⟩ := bO hp
 obtain ⟨x1, x2, x3, h1, h2⟩ := jt (kk := kk) (M := 1) (N := 134217728) hkk (by omega) (eV (a + 4)) r (cz _) b (by omega) (by omega) (by omega) (by omega)
 refine ⟨x1, x2, x3, ?_, a0, a1, h2, (dK (cz (a + 4)) b).mono (by omega)⟩
 unfold f57 f92
 rw [ai (x := a + 4) (by omega) (by omega), hU kk (a + 4) (by omega) (by omega)]
 simp only [Option.bind_some]
 rw [h1]
 rfl
theorem yE (hkk : 400 ≤ kk) {p q : PtG} (hp : okP p = true) (hq : okP q = true) (hd : al p q ≠ -1) :
    ∃ o1 o2 o3 b, f122 kk p.1.1 p.1.2.1 p.1.2.2 p.2.1 p.2.2.1 p.2.2.2 q.1.1 q.1.2.1 q.1.2.2 q.2.1 q.2.2.1 q.2.2.2 = some (((al p q % 8, o1, o2, o3, ()), b, ()), ()) ∧ Ln (al p q % 8) (dot (vec (al p q % 8 + 4)) (pt p)) o1 o2 o3 := by
 have hr := (cK p q).resolve_left hd
 obtain ⟨o1, o2, o3, h1, h2⟩ := tY (kk := kk) hkk hp (a := al p q % 8) (by omega) (by omega)
 refine ⟨o1, o2, o3, decide (al p q < 8), ?_, h2⟩
 unfold f122
 rw [kC hkk hp hq, Option.bind_some]
 dsimp only
 rw [rL hr.1, h1]
 rfl
def fJ (dl : Int) (O : Z2) (s : Int) (l : List PtG) : Nat → List PtG → List V2
 | _, [] => []
 | i, q :: r => ((if 0 ≤ s * sdP dl O q then [v8 (pt q)] else []) ++ (if sdP dl O q * sdP dl O (atN l ((i + 1) % l.length)) < 0 then [mtV dl O q (atN l ((i + 1) % l.length))] else [])) ++ fJ dl O s l (i + 1) r
theorem Hp (hkk : 400 ≤ kk) (L : Ln dl O o1 o2 o3) {p q : PtG} (hp : okP p = true) (hq : okP q = true) (hd : al p q ≠ -1) {s : Int} (hs : s = 1 ∨ s = -1) :
    ∃ ts : List PtG, ts.map cu = (if sdP dl O p * sdP dl O q < 0 then [mtV dl O p q] else []) ∧ (∀ t ∈ ts, OkQ t) ∧ ts.length ≤ 1 ∧ ∀ (A B : List PtG) (h : Bool) (m i : Int) (acc : List PtG) {ρ : Type} (nx : (((((List PtG) × Int × Unit × Unit × Bool × (List PtG) × Int × Int × Unit) × ((Int × Int × Int × Int × Unit) × (List PtG) × Unit)) → Option ρ) × Unit)), acc.length ≤ 1000 →
     iU kk A s h (wr .i64 (s * sdP dl O p)) (wr .i64 (s * sdP dl O q)) B m i dl o1 o2 o3 acc p.1.1 p.1.2.1 p.1.2.2 p.2.1 p.2.2.1 p.2.2.2 q.1.1 q.1.2.1 q.1.2.2 q.2.1 q.2.2.1 q.2.2.2 nx = nx.1 ((A, s, (), (), h, B, m, i, ()), ((dl, o1, o2, o3, ()), acc ++ ts, ())) := by
 have b1 : -1 ≤ sdP dl O p ∧ sdP dl O p ≤ 1 := cb _
 have b2 : -1 ≤ sdP dl O q ∧ sdP dl O q ≤ 1 := cb _
 have hw : wr .i64 ((wr .i64 (s * sdP dl O p)) * (wr .i64 (s * sdP dl O q))) = sdP dl O p * sdP dl O q := by
  have b3 := jo b1 b2
  rcases hs with rfl | rfl
  · rw [Int.one_mul, Int.one_mul, ai (x := sdP dl O p) (by omega) (by omega), ai (x := sdP dl O q) (by omega) (by omega), ai (by omega) (by omega)]
  · rw [ai (x := -1 * sdP dl O p) (by omega) (by omega), ai (x := -1 * sdP dl O q) (by omega) (by omega), show (-1 * sdP dl O p) * (-1 * sdP dl O q) = sdP dl O p * sdP dl O q by rw [Int.neg_one_mul, Int.neg_one_mul, Int.neg_mul_neg], ai (by omega) (by omega)]
 by_cases hx : sdP dl O p * sdP dl O q < 0
 · rw [if_pos hx]
   have hr := (cK p q).resolve_left hd
   obtain ⟨u1, u2, u3, b, h1, h2⟩ := yE (kk := kk) hkk hp hq hd
   obtain ⟨x1, x2, x3, x4, x5, x6, h3, h4⟩ := yz (kk := kk) hkk h2.d0 h2.d1 L.d0 L.d1 (ld L.d0 L.d1 O hd hx) h2.r L.r h2.b L.b
   have hb := yJ h2.d0 h2.d1 L.d0 L.d1 (ld L.d0 L.d1 O hd hx) h2.b L.b
   refine ⟨[((x1, (x2, x3)), (x4, (x5, x6)))], by rw [List.map_cons, wq h4]; rfl, fun t ht => by rw [List.mem_singleton.1 ht]; exact J0 h4 hb, Nat.le_refl _, ?_⟩
   intro A B h m i acc ρ nx ha
   unfold iU
   rw [hw, decide_eq_true hx, cond_true, h1]
   simp only [Option.bind_some]
   rw [h3]
   simp only [Option.bind_some]
   rw [decide_eq_true (p := (acc.length + _) * 48 ≤ roomy) (by simp only [List.length_cons, List.length_nil, roomy]; omega)]
   rfl
 · rw [if_neg hx]
   refine ⟨[], rfl, fun t ht => (by cases ht), by simp, ?_⟩
   intro A B h m i acc ρ nx ha
   unfold iU
   rw [hw, decide_eq_false hx, cond_false, List.append_nil]
theorem jz (s : Int) (q : PtG) (r : List PtG) : dr dl O s (q :: r) = (decide (s * sdP dl O q > 0) || dr dl O s r) := rfl
theorem uA (hkk : 400 ≤ kk) (L : Ln dl O o1 o2 o3) {l : List PtG} (g : Poly l) {s : Int} (hs : s = 1 ∨ s = -1) : ∀ (r : List PtG) (i : Nat), l.drop i = r →
    ∃ ts : List PtG, ts.map cu = fJ dl O s l i r ∧ (∀ t ∈ ts, OkQ t) ∧ ts.length ≤ 2 * r.length ∧ ∀ (j : Nat) (h : Bool) (acc : List PtG) {ρ : Type} (nx : ((((Unit × Bool × Unit) × ((List PtG) × Unit)) → Option ρ) × Unit)), r.length + 1 ≤ j → acc.length ≤ 2 * i →
     iK kk j l s h l (l.length : Int) (i : Int) dl o1 o2 o3 acc nx = nx.1 (((), h || dr dl O s r, ()), (acc ++ ts, ()))
 | [], i, h => by
  refine ⟨[], rfl, fun t ht => (by cases ht), Nat.le_refl _, ?_⟩
  intro j hh acc ρ nx hj ha
  obtain ⟨j, rfl⟩ : ∃ m, j = m + 1 := ⟨j - 1, by omega⟩
  unfold iK
  rw [aQ h]; simp [dr]
 | q :: r, i, h => by
  have hi := aE h
  have hn := g.n16
  have hpos : 0 < l.length := by omega
  have m2 : (i + 1) % l.length < l.length := Nat.mod_lt _ hpos
  have hq : okP q = true := g.ok q (List.mem_of_getElem? (aP h))
  have hx := g.ok _ (cB m2)
  obtain ⟨ts, t1, t2, t3, t4⟩ := uA hkk L g hs r (i + 1) (an h)
  obtain ⟨us, u1, u2, u3, u4⟩ := Hp (kk := kk) hkk L hq hx (g.dir h) hs
  obtain ⟨oq, vq⟩ := G5 hq
  have b1 : -1 ≤ sdP dl O q ∧ sdP dl O q ≤ 1 := cb _
  have hw : wr .i64 (s * sdP dl O q) = s * sdP dl O q := by
   rcases hs with rfl | rfl
   · exact ai (by omega) (by omega)
   · exact ai (by omega) (by omega)
  unfold fJ
  simp only [jz]
  by_cases hc : 0 ≤ s * sdP dl O q
  · rw [if_pos hc]
    refine ⟨([q] ++ us) ++ ts, by rw [List.map_append, List.map_append, t1, u1, List.map_cons, vq]; rfl, fun t ht => ?_, by simp only [List.length_append, List.length_cons, List.length_nil]; omega, ?_⟩
    · rcases List.mem_append.1 ht with ht | ht
      · rcases List.mem_append.1 ht with ht | ht
        · rw [List.mem_singleton.1 ht]; exact oq
        · exact u2 t ht
      · exact t2 t ht
    · intro j hh acc ρ nx hj ha
      obtain ⟨j, rfl⟩ : ∃ m, j = m + 1 := ⟨j - 1, by omega⟩
      have t5 := fun hh => t4 j hh ((acc ++ [q]) ++ us) nx (by simp only [List.length_cons] at hj; omega) (by simp only [List.length_append, List.length_cons, List.length_nil]; omega)
      unfold iK
      rw [aI h, aA h, decide_eq_false (p := (l.length : Int) = 0) (by omega), dH hpos (by omega)]
      simp only [cond_true, cond_false, Option.bind_some]
      rw [bU m2]
      simp only [Option.bind_some]
      rw [rK hkk L hq, rK hkk L hx]
      simp only [Option.bind_some]
      rw [hw, decide_eq_true (p := s * sdP dl O q ≥ 0) hc, decide_eq_true (p := (acc.length + [q].length) * 48 ≤ roomy) (by simp only [List.length_cons, List.length_nil, roomy]; omega)]
      rw [hw] at u4
      simp only [cond_true]
      have e : (acc ++ [q]) ++ us ++ ts = acc ++ ([q] ++ us ++ ts) := by simp only [List.append_assoc]
      cases hh with
      | true =>
       rw [cond_true, u4 _ _ _ _ _ _ _ (by rw [List.length_append]; simp; omega)]
       dsimp only
       rw [az (by omega), t5, e]
       simp
      | false =>
       rw [cond_false, u4 _ _ _ _ _ _ _ (by rw [List.length_append]; simp; omega)]
       dsimp only
       rw [az (by omega), t5, e]
       simp
  · rw [if_neg hc, List.nil_append]
    refine ⟨us ++ ts, by rw [List.map_append, t1, u1], fun t ht => ?_, by simp only [List.length_append, List.length_cons]; omega, ?_⟩
    · rcases List.mem_append.1 ht with ht | ht
      · exact u2 t ht
      · exact t2 t ht
    · intro j hh acc ρ nx hj ha
      obtain ⟨j, rfl⟩ : ∃ m, j = m + 1 := ⟨j - 1, by omega⟩
      have t5 := fun hh => t4 j hh (acc ++ us) nx (by simp only [List.length_cons] at hj; omega) (by simp only [List.length_append]; omega)
      unfold iK
      rw [aI h, aA h, decide_eq_false (p := (l.length : Int) = 0) (by omega), dH hpos (by omega)]
      simp only [cond_true, cond_false, Option.bind_some]
      rw [bU m2]
      simp only [Option.bind_some]
      rw [rK hkk L hq, rK hkk L hx]
      simp only [Option.bind_some]
      rw [hw, decide_eq_false (p := s * sdP dl O q ≥ 0) hc]
      rw [hw] at u4
      simp only [cond_false]
      rw [u4 _ _ _ _ _ _ _ (by omega)]
      dsimp only
      rw [az (by omega), t5, decide_eq_false (p := s * sdP dl O q > 0) (by omega), Bool.false_or, List.append_assoc]
theorem rV (hkk : 400 ≤ kk) {x y : N3} {M : Int} (rx : Rp 13 (gR x) x.1 x.2.1 x.2.2) (ry : Rp 13 (gR y) y.1 y.2.1 y.2.2) (bx : Bd M (gR x)) (by' : Bd M (gR y)) (hM : 0 ≤ M) (hM2 : M ≤ 1152921504606846976) : f75 kk x.1 x.2.1 x.2.2 y.1 y.2.1 y.2.2 = some ((((gR x).sub (gR y)).sg, ()), ()) := by
 obtain ⟨a, b, c, h1, h2⟩ := fo (kk := kk) hkk (by omega) rx ry (bx.mono (by omega)) (by'.mono (by omega))
 have h3 := Rp.sign (kk := kk) trivial h2 (M := M + M) (by omega) (by omega) (bx.sub by')
 unfold f75
 rw [h1, Option.bind_some]
 dsimp only
 rw [h3, Option.bind_some]
theorem Cw (hkk : 400 ≤ kk) {p q : PtG} (hp : OkQ p) (hq : OkQ q) : ∃ c, f42 kk p.1.1 p.1.2.1 p.1.2.2 p.2.1 p.2.2.1 p.2.2.2 q.1.1 q.1.2.1 q.1.2.2 q.2.1 q.2.2.1 q.2.2.2 = some ((c, ()), ()) := by
 unfold f42
 rw [rV (M := 137438953472) hkk hp.pp.x hq.pp.x hp.bd.1 hq.bd.1 (by omega) (by omega), rV (M := 137438953472) hkk hp.pp.y hq.pp.y hp.bd.2 hq.bd.2 (by omega) (by omega)]
 simp only [Option.bind_some]
 cases ((gR p.1).sub (gR q.1)).sg != 0 with
 | true => exact ⟨_, rfl⟩
 | false => exact ⟨_, rfl⟩
theorem oS (hkk : 400 ≤ kk) (K : List PtG) (hK : ∀ p ∈ K, OkQ p) (hlen : K.length ≤ 40) : ∀ (r : List PtG) (b i : Nat), K.drop i = r → b < K.length → ∃ b' : Nat, b' < K.length ∧ ∀ (j : Nat) {ρ : Type} (nx : ((((Int × Unit) × Unit) → Option ρ) × Unit)), r.length + 1 ≤ j →
    fE kk j K (b : Int) K (K.length : Int) (i : Int) nx = nx.1 (((b' : Int), ()), ())
 | [], b, i, h, hb => by
  refine ⟨b, hb, fun j ρ nx hj => ?_⟩
  obtain ⟨j, rfl⟩ : ∃ m, j = m + 1 := ⟨j - 1, by omega⟩
  unfold fE
  rw [aQ h]; rfl
 | q :: r, b, i, h, hb => by
  have hi := aE h
  obtain ⟨c, hc⟩ := Cw (kk := kk) hkk (hK q (List.mem_of_getElem? (aP h))) (hK _ (cB hb))
  obtain ⟨b', hb', e⟩ := oS hkk K hK hlen r (if c < 0 then i else b) (i + 1) (an h) (by split <;> omega)
  refine ⟨b', hb', fun j ρ nx hj => ?_⟩
  obtain ⟨j, rfl⟩ : ∃ m, j = m + 1 := ⟨j - 1, by omega⟩
  have e2 := e j nx (by simp only [List.length_cons] at hj; omega)
  unfold fE
  rw [aI h, aA h, bU hb, az (by omega)]
  simp only [cond_true, Option.bind_some]
  rw [hc]
  simp only [Option.bind_some]
  by_cases q1 : c < 0
  · rw [if_pos q1] at e2; rw [decide_eq_true q1]; exact e2
  · rw [if_neg q1] at e2; rw [decide_eq_false q1]; exact e2
theorem DI (hkk : 400 ≤ kk) (K : List PtG) (hK : ∀ p ∈ K, OkQ p) (hlen : K.length ≤ 40) (hne : K ≠ []) : ∃ b, f88 kk K = some (((), ()), (K.drop b ++ K.take b, ())) := by
 have hp := List.length_pos_iff.2 hne
 obtain ⟨b, hb, e⟩ := oS hkk K hK hlen K 0 0 rfl hp
 have e2 := e kk (ρ := ((Int × Unit) × Unit)) (fun x10 : ((Int × Unit) × Unit) => some ((x10.1.1, ()), ()), ()) (by omega)
 rw [show ((0 : Nat) : Int) = 0 from rfl] at e2
 refine ⟨b, ?_⟩
 unfold f88 f119
 rw [show ((K.length : Int) == 0) = false from beq_false_of_ne (by omega), e2]
 simp only [cond_false, Option.bind_some]
 rw [decide_eq_true (p := (0 : Int) ≤ (b : Int)) (by omega), decide_eq_true (p := (b : Int) ≤ (K.length : Int)) (by omega), decide_eq_true (p := (K.length : Int) ≤ (K.length : Int)) (by omega), sA, tb, tP hkk _ _ (by rw [List.length_drop]; omega) (by rw [List.length_take]; omega)]
 rfl
theorem xa {s : Int} {l : List PtG} : ∀ (r : List PtG) (i : Nat), dr dl O s r = true → fJ dl O s l i r ≠ []
 | [], _, h => by cases h
 | q :: r, i, h => by
  unfold fJ
  rw [jz, Bool.or_eq_true, decide_eq_true_eq] at h
  rcases h with h | h
  · rw [if_pos (by omega)]; simp
  · intro e
    exact xa r (i + 1) h (List.append_eq_nil_iff.1 e).2
theorem An (hkk : 400 ≤ kk) (L : Ln dl O o1 o2 o3) {l : List PtG} (g : Poly l) {s : Int} (hs : s = 1 ∨ s = -1) :
    ∃ ts : List PtG, f90 kk l dl o1 o2 o3 s = some (((), ()), (ts, ())) ∧ (dr dl O s l = false → ts = []) ∧ (dr dl O s l = true → ts ≠ [] ∧ ts.length ≤ 40 ∧ (∀ t ∈ ts, OkQ t) ∧ ∃ b, ts.map cu = (fJ dl O s l 0 l).drop b ++ (fJ dl O s l 0 l).take b) := by
 have hn := g.n16
 obtain ⟨ts, t1, t2, t3, t4⟩ := uA (kk := kk) hkk L g hs l 0 rfl
 unfold f90
 have t5 := t4 kk false [] (ρ := ((Unit × Unit) × ((List PtG) × Unit))) (fun x95 : ((Unit × Bool × Unit) × ((List PtG) × Unit)) =>
     bif (!x95.1.2.1) then
      some (((), ()), (([] : List PtG), ()))
     else
      (f88 kk x95.2.1).bind fun x96 =>
      some (((), ()), (x96.2.1, ())),
  ()) (by omega) (by simp)
 rw [show ((0 : Nat) : Int) = 0 from rfl] at t5
 rw [t5]
 simp only [Bool.false_or, List.nil_append]
 cases hh : dr dl O s l with
 | false => exact ⟨[], rfl, fun _ => rfl, fun h => by cases h⟩
 | true =>
  have hne : ts ≠ [] := fun e => xa (l := l) l 0 hh (by rw [← t1, e]; rfl)
  obtain ⟨b, hb⟩ := DI (kk := kk) hkk ts t2 (by omega) hne
  rw [hb]
  refine ⟨_, rfl, fun h => (by cases h), fun _ => ⟨fun e => ?_, by rw [List.length_append, List.length_drop, List.length_take]; omega, fun t ht => ?_, b, by rw [List.map_append, List.map_drop, List.map_take, t1]⟩⟩
  · have h1 : ts.drop b = [] ∧ ts.take b = [] := List.append_eq_nil_iff.1 e
    exact hne (by rw [← List.take_append_drop b ts, h1.1, h1.2]; rfl)
  · rcases List.mem_append.1 ht with ht | ht
    · exact t2 t (List.mem_of_mem_drop ht)
    · exact t2 t (List.mem_of_mem_take ht)
theorem uv (L : Ln dl O o1 o2 o3) {l : List PtG} (g : Poly l) : ∀ (r : List PtG) (i : Nat), l.drop i = r → (fJ dl O 1 l i r).filter (fun V => decide (sdV dl O V = 0)) = fL dl O l i r
 | [], _, _ => rfl
 | q :: r, i, h => by
  unfold fJ fL
  rw [List.filter_append, List.filter_append, uv L g r (i + 1) (an h)]
  congr 1
  congr 1
  · by_cases h1 : sdP dl O q = 0
    · rw [if_pos (by omega), if_pos h1, List.filter_cons, Ao, decide_eq_true h1, if_pos rfl, List.filter_nil]
    · rw [if_neg h1]
      by_cases h2 : 0 ≤ 1 * sdP dl O q
      · rw [if_pos h2, List.filter_cons, Ao, decide_eq_false h1, if_neg (by simp), List.filter_nil]
      · rw [if_neg h2]; rfl
  · by_cases h1 : sdP dl O q * sdP dl O (atN l ((i + 1) % l.length)) < 0
    · have hd := g.dir h
      have hr := (cK q (atN l ((i + 1) % l.length))).resolve_left hd
      rw [if_pos h1, List.filter_cons, decide_eq_true, if_pos rfl, List.filter_nil]
      unfold sdV mtV
      rw [(Hg (by omega) (by omega) L.d0 L.d1 (ld L.d0 L.d1 O hd h1) _ O).1, cw]
      rfl
    · rw [if_neg h1]; rfl
theorem rH (hkk : 400 ≤ kk) (L : Ln dl O o1 o2 o3) (K : List PtG) (hK : ∀ p ∈ K, OkQ p) (hlen : K.length ≤ 40) : ∀ (r : List PtG) (i j : Nat) (acc : List PtG) {ρ : Type} (nx : ((((Unit × Unit × Unit × Unit) × ((Int × Int × Int × Int × Int × Int × Unit) × (Int × Int × Int × Int × Int × Int × Unit) × (List PtG) × Unit)) → Option ρ) × Unit)), K.drop i = r → r.length + 1 ≤ j → acc.length ≤ i →
    ki kk j (K.length : Int) (i : Int) dl o1 o2 o3 0 0 0 0 0 0 0 0 0 0 0 0 acc K nx = nx.1 (((), (), (), ()), ((0, 0, 0, 0, 0, 0, ()), (0, 0, 0, 0, 0, 0, ()), acc ++ r.filter (fun t => decide (sdV dl O (cu t) = 0)), ()))
 | [], i, j, acc, ρ, nx, h, hj, ha => by
  obtain ⟨j, rfl⟩ : ∃ m, j = m + 1 := ⟨j - 1, by omega⟩
  unfold ki
  rw [aQ h]; simp
 | q :: r, i, j, acc, ρ, nx, h, hj, ha => by
  obtain ⟨j, rfl⟩ : ∃ m, j = m + 1 := ⟨j - 1, by omega⟩
  have hi := aE h
  have ih := fun acc ha => rH hkk L K hK hlen r (i + 1) j acc nx (an h) (by simp only [List.length_cons] at hj; omega) ha
  unfold ki
  rw [bnd hi, aI h, Int.toNat_natCast, aP h]
  simp only [cond_true, Option.bind_some]
  rw [CF hkk L (hK q (List.mem_of_getElem? (aP h))), az (by omega)]
  simp only [Option.bind_some, List.filter_cons]
  by_cases e : sdV dl O (cu q) = 0
  · rw [show (sdV dl O (cu q) == 0) = true from beq_iff_eq.2 e, decide_eq_true e, if_pos rfl, cond_true, decide_eq_true (p := (acc.length + [q].length) * 48 ≤ roomy) (by simp only [List.length_cons, List.length_nil, roomy]; omega), cond_true, ih _ (by rw [List.length_append]; simp; omega), List.append_assoc]
    rfl
  · rw [show (sdV dl O (cu q) == 0) = false from beq_false_of_ne e, decide_eq_false e, if_neg (by simp), cond_false, ih _ (by omega)]
theorem qM (f : V2 → Bool) : ∀ ts : List PtG, (ts.filter fun t => f (cu t)).map cu = (ts.map cu).filter f
 | [] => rfl
 | t :: r => by
  rw [List.filter_cons, List.map_cons, List.filter_cons, ← qM f r]
  split <;> rfl
theorem FI (hkk : 400 ≤ kk) (L : Ln dl O o1 o2 o3) {l : List PtG} (g : Poly l) :
    ((dr dl O 1 l && dr dl O (-1) l) = false → f56 kk l dl o1 o2 o3 = some (((0, 0, 0, 0, 0, 0, ()), (0, 0, 0, 0, 0, 0, ()), false, ()), ())) ∧
    ((dr dl O 1 l && dr dl O (-1) l) = true → ∃ x y : PtG, OkQ x ∧ OkQ y ∧ f56 kk l dl o1 o2 o3 = some (((x.1.1, x.1.2.1, x.1.2.2, x.2.1, x.2.2.1, x.2.2.2, ()), (y.1.1, y.1.2.1, y.1.2.2, y.2.1, y.2.2.1, y.2.2.2, ()), true, ()), ()) ∧ (fL dl O l 0 l = [cu x, cu y] ∨ fL dl O l 0 l = [cu y, cu x])) := by
 obtain ⟨ts, p1, p2, p3⟩ := An (kk := kk) hkk L g (s := 1) (.inl rfl)
 obtain ⟨us, q1, q2, q3⟩ := An (kk := kk) hkk L g (s := -1) (.inr rfl)
 unfold f56
 rw [p1, q1]
 simp only [Option.bind_some]
 cases h1 : dr dl O 1 l with
 | false =>
  rw [p2 h1]
  exact ⟨fun _ => rfl, fun h => by simp at h⟩
 | true =>
  obtain ⟨e1, e2, e3, b, e4⟩ := p3 h1
  rw [show (((ts.length : Nat) : Int) == 0) = false from beq_false_of_ne (by have := List.length_pos_iff.2 e1; omega)]
  cases h2 : dr dl O (-1) l with
  | false =>
   rw [q2 h2]
   exact ⟨fun _ => rfl, fun h => by simp at h⟩
  | true =>
   refine ⟨fun h => (by simp at h), fun _ => ?_⟩
   obtain ⟨f1, _⟩ := q3 h2
   rw [show (((us.length : Nat) : Int) == 0) = false from beq_false_of_ne (by have := List.length_pos_iff.2 f1; omega)]
   simp only [cond_false]
   have hl := rH (kk := kk) hkk L ts e3 e2 ts 0 kk [] (ρ := (((Int × Int × Int × Int × Int × Int × Unit) × (Int × Int × Int × Int × Int × Int × Unit) × Bool × Unit) × Unit))
    (fun x61 : ((Unit × Unit × Unit × Unit) × ((Int × Int × Int × Int × Int × Int × Unit) × (Int × Int × Int × Int × Int × Int × Unit) × (List PtG) × Unit)) =>
     bif decide (0 ≤ 0) && decide (0 < (x61.2.2.2.1.length : Int)) then
      (x61.2.2.2.1[0]?).bind fun x62 =>
      bif decide (0 ≤ (wr .i64 ((x61.2.2.2.1.length : Int) - 1))) && decide ((wr .i64 ((x61.2.2.2.1.length : Int) - 1)) < (x61.2.2.2.1.length : Int)) then
       (x61.2.2.2.1[(wr .i64 ((x61.2.2.2.1.length : Int) - 1)).toNat]?).bind fun x63 =>
       some (((x62.1.1, x62.1.2.1, x62.1.2.2, x62.2.1, x62.2.2.1, x62.2.2.2, ()), (x63.1.1, x63.1.2.1, x63.1.2.2, x63.2.1, x63.2.2.1, x63.2.2.2, ()), true, ()), ())
      else
       none
     else
      none,
    ()) rfl (by omega) (by simp)
   rw [show ((0 : Nat) : Int) = 0 from rfl, List.nil_append] at hl
   rw [hl]
   have htwo := wP L.d0 (by have := L.d1; omega) O g h1 h2
   have hpe := uv L g l 0 rfl
   have hv := qM (fun V => decide (sdV dl O V = 0)) ts
   rw [e4, List.filter_append] at hv
   have hsplit : (fJ dl O 1 l 0 l).filter (fun V => decide (sdV dl O V = 0)) = ((fJ dl O 1 l 0 l).take b).filter (fun V => decide (sdV dl O V = 0)) ++ ((fJ dl O 1 l 0 l).drop b).filter (fun V => decide (sdV dl O V = 0)) := by
    rw [← List.filter_append, List.take_append_drop]
   rw [hpe] at hsplit
   generalize hF : ts.filter (fun t => decide (sdV dl O (cu t) = 0)) = F at *
   generalize ((fJ dl O 1 l 0 l).take b).filter (fun V => decide (sdV dl O V = 0)) = A at *
   generalize ((fJ dl O 1 l 0 l).drop b).filter (fun V => decide (sdV dl O V = 0)) = B at *
   have hFl : F.length = 2 := by
    have h5 := congrArg List.length hv
    have h6 := congrArg List.length hsplit
    simp only [List.length_map, List.length_append] at h5 h6
    omega
   have hFo : ∀ t ∈ F, OkQ t := fun t ht => e3 t (by rw [← hF] at ht; exact (List.mem_filter.1 ht).1)
   obtain ⟨x, y, rfl⟩ : ∃ x y, F = [x, y] := by
    match F, hFl with
    | [x, y], _ => exact ⟨x, y, rfl⟩
   refine ⟨x, y, hFo x (by simp), hFo y (by simp), rfl, ?_⟩
   simp only [List.map_cons, List.map_nil] at hv
   rcases A with _ | ⟨a, _ | ⟨c, A⟩⟩
   · left; rw [hsplit, hv]; simp
   · right
     rcases B with _ | ⟨b', _ | ⟨d, B⟩⟩
     · simp at hv
     · simp only [List.cons_append, List.nil_append, List.cons.injEq, and_true] at hv
       rw [hsplit, hv.1, hv.2]; rfl
     · have h5 := congrArg List.length hv
       simp only [List.length_cons, List.length_nil, List.length_append] at h5
       omega
   · have h5 := congrArg List.length hv
     simp only [List.length_cons, List.length_nil, List.length_append] at h5
     have hB : B = [] := List.length_eq_zero_iff.1 (by omega)
     have hA : A = [] := List.length_eq_zero_iff.1 (by omega)
     subst hA hB
     left; rw [hsplit, hv]; rfl
end
end Go.Proofs.YtoclkhdbjbmpfaaGreatDoor.R
namespace Go.Proofs.YtoclkhdbjbmpfaaGreatDoor.R
open Go.Proofs.YtoclkhdbjbmpfaaGreatDoor.R1 Z2
def ovl (x y a b : Z2) : Bool := decide (((bo (b8 x y) b).sub (b8 (bo x y) a)).sg > 0)
theorem qt (x y : Z2) : (if (x.sub y).sg > 0 then y else x) = bo x y := by
 unfold bo
 rcases fO (x.sub y) with h | h | h
 · rw [if_pos (by omega), if_neg (by omega)]
 · rw [if_neg (by omega), if_neg (by omega)]; exact iq.1 h.2
 · rw [if_neg (by omega), if_pos (by omega)]
theorem Az (x y : Z2) : bo x y = bo y x := by
 rw [← qt y x]
 unfold bo
 rw [← gW x y, cV]
 by_cases h : (x.sub y).sg < 0
 · rw [if_pos h, if_pos (by omega)]
 · rw [if_neg h, if_neg (by omega)]
theorem Dg (x y : Z2) : b8 x y = b8 y x := by
 unfold b8
 rw [← gW x y, cV]
 rcases fO (x.sub y) with h | h | h
 · rw [if_pos (by omega), if_neg (by omega)]
 · rw [if_neg (by omega), if_neg (by omega)]; exact (iq.1 h.2).symm
 · rw [if_neg (by omega), if_pos (by omega)]
theorem FC (x y a b : Z2) : ovl x y a b = ovl y x a b := by unfold ovl; rw [Az x y, Dg x y]
structure Nq (X : Z2) (a b c : Int) : Prop where
 r : Rp 13 X a b c
 b : Bd 1099511627776 X
section
variable {kk : Nat} {X Y Z W : Z2} {a1 a2 a3 b1 b2 b3 c1 c2 c3 d1 d2 d3 : Int}
theorem sv (hkk : 400 ≤ kk) (hx : Nq X a1 a2 a3) (hy : Nq Y b1 b2 b3) : f75 kk a1 a2 a3 b1 b2 b3 = some (((X.sub Y).sg, ()), ()) := by
 obtain ⟨a, b, c, h1, h2⟩ := fo (kk := kk) hkk (by omega) hx.r hy.r (hx.b.mono (by omega)) (hy.b.mono (by omega))
 have h3 := Rp.sign (kk := kk) trivial h2 (M := 2199023255552) (by omega) (by omega) (hx.b.sub hy.b)
 unfold f75
 rw [h1, Option.bind_some]
 dsimp only
 rw [h3, Option.bind_some]
theorem kY (hkk : 400 ≤ kk) (hx : Nq X a1 a2 a3) (hy : Nq Y b1 b2 b3) (z1 z2 z3 z4 z5 z6 : Int) {ρ : Type} (nx : ((((Unit × Unit × Bool × Unit) × ((Int × Int × Int × Unit) × (Int × Int × Int × Unit) × Unit)) → Option ρ) × Unit)) :
    ot kk z1 z2 z3 z4 z5 z6 a1 a2 a3 b1 b2 b3 nx = nx.1 (((), (), (decide ((X.sub Y).sg < 0)), ()), ((a1, a2, a3, ()), (b1, b2, b3, ()), ())) := by
 unfold ot
 rw [sv hkk hx hy]; rfl
theorem Em (hkk : 400 ≤ kk) {d : Int} (h0 : 0 ≤ d) (h1 : d < 16) {p q x y : PtG} (hp : okP p = true) (hq : okP q = true) (hd : al p q = d) (hdn : d ≠ -1) (hx : OkQ x) (hy : OkQ y) :
    ∃ u v, f58 kk (vec d).1.1 (vec d).1.2 0 (vec d).2.1 (vec d).2.2 0 p.1.1 p.1.2.1 p.1.2.2 p.2.1 p.2.2.1 p.2.2.2 q.1.1 q.1.2.1 q.1.2.2 q.2.1 q.2.2.1 q.2.2.2 x.1.1 x.1.2.1 x.1.2.2 x.2.1 x.2.2.1 x.2.2.2 y.1.1 y.1.2.1 y.1.2.2 y.2.1 y.2.2.1 y.2.2.2 = some ((u, v, ovl (dot (vec d) (cu x)) (dot (vec d) (cu y)) (sc (dot (vec d) (pt p))) (sc (dot (vec d) (pt q))), ()), ()) := by
 have vb := cz d
 obtain ⟨rp, bp⟩ := bO hp
 obtain ⟨rq, bq⟩ := bO hq
 obtain ⟨A1, A2, A3, k1, k2⟩ := jt (kk := kk) (M := 1) (N := 134217728) hkk (by omega) (eV d) rp vb bp (by omega) (by omega) (by omega) (by omega)
 obtain ⟨B1, B2, B3, k3, k4⟩ := jt (kk := kk) (M := 1) (N := 134217728) hkk (by omega) (eV d) rq vb bq (by omega) (by omega) (by omega) (by omega)
 obtain ⟨C1, C2, C3, k5, k6⟩ := jt (kk := kk) (M := 1) (N := 137438953472) hkk (by omega) (eV d) hx.pp vb hx.bd (by omega) (by omega) (by omega) (by omega)
 obtain ⟨D1, D2, D3, k7, k8⟩ := jt (kk := kk) (M := 1) (N := 137438953472) hkk (by omega) (eV d) hy.pp vb hy.bd (by omega) (by omega) (by omega) (by omega)
 have nA : Nq (sc (dot (vec d) (pt p))) A1 A2 A3 := ⟨k2.lift, (dK vb bp).sc.mono (by omega)⟩
 have nB : Nq (sc (dot (vec d) (pt q))) B1 B2 B3 := ⟨k4.lift, (dK vb bq).sc.mono (by omega)⟩
 have nC : Nq (dot (vec d) (cu x)) C1 C2 C3 := ⟨k6, (dK vb hx.bd).mono (by omega)⟩
 have nD : Nq (dot (vec d) (cu y)) D1 D2 D3 := ⟨k8, (dK vb hy.bd).mono (by omega)⟩
 have hab : ((sc (dot (vec d) (pt p))).sub (sc (dot (vec d) (pt q)))).sg = -1 := by
  have hdn' : bB (aj (pt q) (pt p)) ≠ -1 := by rw [show bB (aj (pt q) (pt p)) = d from hd]; exact hdn
  obtain ⟨_, _, sg⟩ := lu hdn'
  rw [show bB (aj (pt q) (pt p)) = d from hd] at sg
  have := sg.s
  rw [cW] at this
  rw [Ds, F5, ← gW, cV, this]
 unfold f58 f93
 rw [k1]
 simp only [Option.bind_some]
 rw [k3]
 simp only [Option.bind_some]
 rw [sv hkk nA nB, k5]
 simp only [Option.bind_some]
 rw [k7, hab]
 simp only [Option.bind_some]
 rw [sv hkk nC nD, decide_eq_false (p := (-1 : Int) > 0) (by omega)]
 simp only [Option.bind_some, cond_false]
 generalize sc (dot (vec d) (pt p)) = A at *
 generalize sc (dot (vec d) (pt q)) = B at *
 generalize dot (vec d) (cu x) = C at *
 generalize dot (vec d) (cu y) = D at *
 have fin : ∀ {E F : Z2} {e1 e2 e3 f1 f2 f3 : Int}, Nq E e1 e2 e3 → Nq F f1 f2 f3 → ∃ u v, ((f75 kk e1 e2 e3 A1 A2 A3).bind fun x41 =>
     bif (decide (x41.1.1 > 0)) then
      kv kk 0 0 0 0 0 0 e1 e2 e3 B1 B2 B3 f1 f2 f3
       (fun x42 : ((Unit × Unit × Bool × Unit) × ((Int × Int × Int × Unit) × (Int × Int × Int × Unit) × Unit)) =>
        some (((x42.2.1.1, x42.2.1.2.1, x42.2.1.2.2.1, ()), (x42.2.2.1.1, x42.2.2.1.2.1, x42.2.2.1.2.2.1, ()), x42.1.2.2.1, ()), ()),
       ())
     else
      kv kk 0 0 0 0 0 0 A1 A2 A3 B1 B2 B3 f1 f2 f3
       (fun x43 : ((Unit × Unit × Bool × Unit) × ((Int × Int × Int × Unit) × (Int × Int × Int × Unit) × Unit)) =>
        some (((x43.2.1.1, x43.2.1.2.1, x43.2.1.2.2.1, ()), (x43.2.2.1.1, x43.2.2.1.2.1, x43.2.2.1.2.2.1, ()), x43.1.2.2.1, ()), ()),
       ())) = some ((u, v, decide (((bo F B).sub (b8 E A)).sg > 0), ()), ()) := by
  intro E F e1 e2 e3 f1 f2 f3 hE hF
  rw [sv hkk hE nA]
  simp only [Option.bind_some]
  have last : ∀ (U V : Z2), decide ((U.sub V).sg < 0) = decide ((V.sub U).sg > 0) := fun U V => by
   rw [← gW U V, cV]; exact decide_eq_decide.2 (by omega)
  by_cases q1 : (E.sub A).sg > 0
  · rw [decide_eq_true q1, show b8 E A = E by unfold b8; rw [if_pos q1]]
    unfold kv
    rw [sv hkk hF nB]
    simp only [Option.bind_some, cond_true]
    by_cases q2 : (F.sub B).sg < 0
    · rw [decide_eq_true q2, show bo F B = F by unfold bo; rw [if_pos q2], cond_true, kY hkk hE hF, last]
      exact ⟨_, _, rfl⟩
    · rw [decide_eq_false q2, show bo F B = B by unfold bo; rw [if_neg q2], cond_false, kY hkk hE nB, last]
      exact ⟨_, _, rfl⟩
  · rw [decide_eq_false q1, show b8 E A = A by unfold b8; rw [if_neg q1]]
    unfold kv
    rw [sv hkk hF nB]
    simp only [Option.bind_some, cond_false]
    by_cases q2 : (F.sub B).sg < 0
    · rw [decide_eq_true q2, show bo F B = F by unfold bo; rw [if_pos q2], cond_true, kY hkk nA hF, last]
      exact ⟨_, _, rfl⟩
    · rw [decide_eq_false q2, show bo F B = B by unfold bo; rw [if_neg q2], cond_false, kY hkk nA nB, last]
      exact ⟨_, _, rfl⟩
 unfold ovl
 by_cases q0 : (C.sub D).sg > 0
 · rw [decide_eq_true q0, show bo C D = D by rw [← qt, if_pos q0], show b8 C D = C by unfold b8; rw [if_pos q0]]
   simp only [cond_true]
   exact fin nD nC
 · rw [decide_eq_false q0, show bo C D = C by rw [← qt, if_neg q0], show b8 C D = D by unfold b8; rw [if_neg q0]]
   simp only [cond_false]
   exact fin nC nD
end
def qo (l : List PtG) (p q : PtG) : Bool :=
 if al p q = -1 then false
 else dr (al p q % 8) (dot (vec (al p q % 8 + 4)) (pt p)) 1 l && (dr (al p q % 8) (dot (vec (al p q % 8 + 4)) (pt p)) (-1) l &&
  ovl (dot (vec (al p q)) ((fL (al p q % 8) (dot (vec (al p q % 8 + 4)) (pt p)) l 0 l).getD 0 ((0, 0), (0, 0)))) (dot (vec (al p q)) ((fL (al p q % 8) (dot (vec (al p q % 8 + 4)) (pt p)) l 0 l).getD 1 ((0, 0), (0, 0)))) (sc (dot (vec (al p q)) (pt p))) (sc (dot (vec (al p q)) (pt q))))
theorem Bl {kk : Nat} (hkk : 400 ≤ kk) {l : List PtG} (g : Poly l) {p q : PtG} (hp : okP p = true) (hq : okP q = true) : f34 kk l p.1.1 p.1.2.1 p.1.2.2 p.2.1 p.2.2.1 p.2.2.2 q.1.1 q.1.2.1 q.1.2.2 q.2.1 q.2.2.1 q.2.2.2 = some ((qo l p q, ()), ()) := by
 unfold f34
 rw [kC hkk hp hq, Option.bind_some]
 dsimp only
 unfold qo
 rcases cK p q with hd | hr
 · rw [hd, if_pos rfl]; rfl
 · rw [decide_eq_false (p := al p q < 0) (by omega), if_neg (show al p q ≠ -1 by omega), rL hr.1]
   obtain ⟨o1, o2, o3, h1, h2⟩ := tY (kk := kk) hkk hp (a := al p q % 8) (by omega) (by omega)
   obtain ⟨c1, c2⟩ := FI (kk := kk) hkk h2 g
   rw [h1]
   simp only [cond_false, Option.bind_some]
   cases hb : dr (al p q % 8) (dot (vec (al p q % 8 + 4)) (pt p)) 1 l && dr (al p q % 8) (dot (vec (al p q % 8 + 4)) (pt p)) (-1) l with
   | false =>
    rw [c1 hb, ← Bool.and_assoc, hb]; rfl
   | true =>
    obtain ⟨x, y, x1, y1, e1, e2⟩ := c2 hb
    obtain ⟨u, v, s1⟩ := Em (kk := kk) hkk hr.1 hr.2 hp hq rfl (show al p q ≠ -1 by omega) x1 y1
    rw [e1, ← Bool.and_assoc, hb]
    simp only [Option.bind_some, Bool.not_true, cond_false]
    rw [hU kk _ hr.1 hr.2]
    simp only [Option.bind_some]
    rw [s1]
    simp only [Option.bind_some, Bool.true_and]
    rcases e2 with e2 | e2
    · rw [e2]; rfl
    · rw [e2, FC]; rfl
section
variable {kk : Nat} {dl o1 o2 o3 : Int} {O : Z2}
theorem ij (hkk : 400 ≤ kk) (L : Ln dl O o1 o2 o3) {t : PtG} (h : okP t = true) : f128 kk dl o1 o2 o3 t.1.1 t.1.2.1 t.1.2.2 t.2.1 t.2.2.1 t.2.2.2 = some ((sdP dl O t, ()), ()) := by
 have d0 := L.d0
 have d1 := L.d1
 obtain ⟨r, b⟩ := bO h
 obtain ⟨x1, x2, x3, h1, h2⟩ := gy (kk := kk) (d := dl + 4) (N := 134217728) hkk (by omega) (by omega) (by omega) r b (by omega) (by omega)
 have hb := dK (cz (dl + 4)) b
 obtain ⟨y1, y2, y3, h3, h4⟩ := dE (kk := kk) hkk (by omega) h2 L.r (hb.mono (by omega)) (L.b.mono (by omega))
 have h5 := Rp.iM (kk := kk) h4 (M := 1610612736) (by omega) (by omega) ((hb.sub L.b).mono (by omega))
 unfold f128
 rw [ai (x := dl + 4) (by omega) (by omega), h1]
 simp only [Option.bind_some]
 rw [h3]
 simp only [Option.bind_some]
 rw [h5]
 rfl
theorem xu (hkk : 400 ≤ kk) (L : Ln dl O o1 o2 o3) {p q : PtG} (hp : okP p = true) (hq : okP q = true) (hd : al p q ≠ -1) (hx : sdP dl O p * sdP dl O q < 0) :
    ∃ u1 u2 u3 u4 u5 u6 v1 v2 v3 x1 x2 x3 x4 x5 x6, f106 kk q.1.1 q.1.2.1 q.1.2.2 q.2.1 q.2.2.1 q.2.2.2 p.1.1 p.1.2.1 p.1.2.2 p.2.1 p.2.2.1 p.2.2.2 = some (((u1, u2, u3, u4, u5, u6, ()), ()), ()) ∧ f105 kk u1 u2 u3 u4 u5 u6 = some ((al p q, ()), ()) ∧
     f136 kk p.1.1 p.1.2.1 p.1.2.2 p.2.1 p.2.2.1 p.2.2.2 (al p q) = some (((al p q % 8, v1, v2, v3, ()), ()), ()) ∧ f138 kk (al p q % 8) v1 v2 v3 dl o1 o2 o3 = some (((x1, x2, x3, x4, x5, x6, ()), ()), ()) ∧ Pp 13 (mtV dl O p q) x1 x2 x3 x4 x5 x6 ∧ Bp 137438953472 (mtV dl O p q) := by
 have hr := (cK p q).resolve_left hd
 obtain ⟨rp, bp⟩ := bO hp
 obtain ⟨u1, u2, u3, u4, u5, u6, a1, a2⟩ := mG (kk := kk) hkk hp hq
 obtain ⟨v1, v2, v3, b1, b2, b3⟩ := jT (kk := kk) hkk hr.1 hr.2 rp bp
 have hne := ld L.d0 L.d1 O hd hx
 obtain ⟨x1, x2, x3, x4, x5, x6, h3, h4⟩ := xB (kk := kk) (a := al p q % 8) hkk (by omega) (by omega) L.d0 L.d1 hne b2 L.r b3 L.b
 exact ⟨u1, u2, u3, u4, u5, u6, v1, v2, v3, x1, x2, x3, x4, x5, x6, a1, a2, b1, h3, h4, yJ (by omega) (by omega) L.d0 L.d1 hne b3 L.b⟩
theorem Ff (hkk : 400 ≤ kk) (L : Ln dl O o1 o2 o3) {p q : PtG} (hp : okP p = true) (hq : okP q = true) (hd : al p q ≠ -1) {s : Int} (hs : s = 1 ∨ s = -1) :
    ∃ ts : List PtG, ts.length = (if sdP dl O p * sdP dl O q < 0 then 1 else 0) ∧ ∀ (A : List PtG) (h : Bool) (i : Int) (acc : List PtG) {ρ : Type} (nx : (((((List PtG) × Int × Unit × Unit × Bool × Int × Unit) × ((Int × Int × Int × Int × Unit) × (List PtG) × Unit)) → Option ρ) × Unit)), acc.length ≤ 1000 →
     kF kk A s h i (wr .i64 (s * sdP dl O p)) (wr .i64 (s * sdP dl O q)) dl o1 o2 o3 acc p.1.1 p.1.2.1 p.1.2.2 p.2.1 p.2.2.1 p.2.2.2 q.1.1 q.1.2.1 q.1.2.2 q.2.1 q.2.2.1 q.2.2.2 nx = nx.1 ((A, s, (), (), h || decide (s * sdP dl O p > 0), i, ()), ((dl, o1, o2, o3, ()), acc ++ ts, ())) := by
 have b1 : -1 ≤ sdP dl O p ∧ sdP dl O p ≤ 1 := cb _
 have b2 : -1 ≤ sdP dl O q ∧ sdP dl O q ≤ 1 := cb _
 have hw0 : wr .i64 (s * sdP dl O p) = s * sdP dl O p := by
  rcases hs with rfl | rfl
  · exact ai (by omega) (by omega)
  · exact ai (by omega) (by omega)
 have hw : wr .i64 ((s * sdP dl O p) * (wr .i64 (s * sdP dl O q))) = sdP dl O p * sdP dl O q := by
  have b3 := jo b1 b2
  rcases hs with rfl | rfl
  · rw [Int.one_mul, Int.one_mul, ai (x := sdP dl O q) (by omega) (by omega), ai (by omega) (by omega)]
  · rw [ai (x := -1 * sdP dl O q) (by omega) (by omega), show (-1 * sdP dl O p) * (-1 * sdP dl O q) = sdP dl O p * sdP dl O q by rw [Int.neg_one_mul, Int.neg_one_mul, Int.neg_mul_neg], ai (by omega) (by omega)]
 have inner : ∃ ts : List PtG, ts.length = (if sdP dl O p * sdP dl O q < 0 then 1 else 0) ∧ ∀ (A : List PtG) (h : Bool) (i : Int) (acc : List PtG) {ρ : Type} (nx : (((((List PtG) × Int × Unit × Unit × Bool × Int × Unit) × ((Int × Int × Int × Int × Unit) × (List PtG) × Unit)) → Option ρ) × Unit)), acc.length ≤ 1000 →
     jc kk A s h i (s * sdP dl O p) (wr .i64 (s * sdP dl O q)) dl o1 o2 o3 acc p.1.1 p.1.2.1 p.1.2.2 p.2.1 p.2.2.1 p.2.2.2 q.1.1 q.1.2.1 q.1.2.2 q.2.1 q.2.2.1 q.2.2.2 nx = nx.1 ((A, s, (), (), h, i, ()), ((dl, o1, o2, o3, ()), acc ++ ts, ())) := by
  by_cases hx : sdP dl O p * sdP dl O q < 0
  · obtain ⟨u1, u2, u3, u4, u5, u6, v1, v2, v3, x1, x2, x3, x4, x5, x6, m1, m2, m3, m4, _, _⟩ := xu (kk := kk) hkk L hp hq hd hx
    refine ⟨[((x1, (x2, x3)), (x4, (x5, x6)))], by rw [if_pos hx]; rfl, ?_⟩
    intro A h i acc ρ nx ha
    unfold jc
    rw [hw, decide_eq_true hx, cond_true, m1]
    simp only [Option.bind_some]
    rw [m2]
    simp only [Option.bind_some]
    rw [m3]
    simp only [Option.bind_some]
    rw [m4]
    simp only [Option.bind_some]
    rw [decide_eq_true (p := (acc.length + _) * 48 ≤ roomy) (by simp only [List.length_cons, List.length_nil, roomy]; omega)]
    rfl
  · refine ⟨[], by rw [if_neg hx]; rfl, ?_⟩
    intro A h i acc ρ nx ha
    unfold jc
    rw [hw, decide_eq_false hx, cond_false, List.append_nil]
 obtain ⟨ts, t1, t2⟩ := inner
 refine ⟨ts, t1, ?_⟩
 intro A h i acc ρ nx ha
 unfold kF
 rw [hw0]
 cases h with
 | true => rw [cond_true, t2 _ _ _ _ _ ha]; rfl
 | false => rw [cond_false, t2 _ _ _ _ _ ha, Bool.false_or]
theorem ov (hkk : 400 ≤ kk) (L : Ln dl O o1 o2 o3) {l : List PtG} (g : Poly l) {s : Int} (hs : s = 1 ∨ s = -1) : ∀ (r : List PtG) (i : Nat), l.drop i = r →
    ∃ ts : List PtG, (dr dl O s r = true → ts ≠ []) ∧ ts.length ≤ 2 * r.length ∧ ∀ (j : Nat) (h : Bool) (acc : List PtG) {ρ : Type} (nx : ((((Unit × Bool × Unit) × ((List PtG) × Unit)) → Option ρ) × Unit)), r.length + 1 ≤ j → acc.length ≤ 2 * i →
     hZ kk j l s h (i : Int) dl o1 o2 o3 acc nx = nx.1 (((), h || dr dl O s r, ()), (acc ++ ts, ()))
 | [], i, h => by
  refine ⟨[], fun h => (by cases h), Nat.le_refl _, ?_⟩
  intro j hh acc ρ nx hj ha
  obtain ⟨j, rfl⟩ : ∃ m, j = m + 1 := ⟨j - 1, by omega⟩
  unfold hZ
  rw [aQ h]; simp [dr]
 | q :: r, i, h => by
  have hi := aE h
  have hn := g.n16
  have hpos : 0 < l.length := by omega
  have m2 : (i + 1) % l.length < l.length := Nat.mod_lt _ hpos
  have hq : okP q = true := g.ok q (List.mem_of_getElem? (aP h))
  have hx := g.ok _ (cB m2)
  obtain ⟨ts, t1, t3, t4⟩ := ov hkk L g hs r (i + 1) (an h)
  obtain ⟨us, u1, u4⟩ := Ff (kk := kk) hkk L hq hx (g.dir h) hs
  have u3 : us.length ≤ 1 := by rw [u1]; split <;> omega
  have b1 : -1 ≤ sdP dl O q ∧ sdP dl O q ≤ 1 := cb _
  have hw : wr .i64 (s * sdP dl O q) = s * sdP dl O q := by
   rcases hs with rfl | rfl
   · exact ai (by omega) (by omega)
   · exact ai (by omega) (by omega)
  by_cases hc : 0 ≤ s * sdP dl O q
  · refine ⟨([q] ++ us) ++ ts, fun _ => by simp, by simp only [List.length_append, List.length_cons, List.length_nil]; omega, ?_⟩
    intro j hh acc ρ nx hj ha
    obtain ⟨j, rfl⟩ : ∃ m, j = m + 1 := ⟨j - 1, by omega⟩
    have t5 := fun hh => t4 j hh ((acc ++ [q]) ++ us) nx (by simp only [List.length_cons] at hj; omega) (by simp only [List.length_append, List.length_cons, List.length_nil]; omega)
    unfold hZ
    rw [aI h, aA h, decide_eq_false (p := (l.length : Int) = 0) (by omega), dH hpos (by omega)]
    simp only [cond_true, cond_false, Option.bind_some]
    rw [bU m2]
    simp only [Option.bind_some]
    rw [ij hkk L hq, ij hkk L hx]
    simp only [Option.bind_some]
    rw [u4 _ _ _ _ _ (by rw [List.length_append]; simp; omega), hw, decide_eq_true (p := s * sdP dl O q ≥ 0) hc, decide_eq_true (p := (acc.length + [q].length) * 48 ≤ roomy) (by simp only [List.length_cons, List.length_nil, roomy]; omega)]
    dsimp only [cond_true]
    rw [az (by omega), t5, jz, Bool.or_assoc]
    simp only [List.append_assoc]
  · refine ⟨us ++ ts, fun hh => ?_, by simp only [List.length_append, List.length_cons]; omega, ?_⟩
    · rw [jz, decide_eq_false (p := s * sdP dl O q > 0) (by omega), Bool.false_or] at hh
      intro e
      exact t1 hh (List.append_eq_nil_iff.1 e).2
    intro j hh acc ρ nx hj ha
    obtain ⟨j, rfl⟩ : ∃ m, j = m + 1 := ⟨j - 1, by omega⟩
    have t5 := fun hh => t4 j hh (acc ++ us) nx (by simp only [List.length_cons] at hj; omega) (by simp only [List.length_append]; omega)
    unfold hZ
    rw [aI h, aA h, decide_eq_false (p := (l.length : Int) = 0) (by omega), dH hpos (by omega)]
    simp only [cond_true, cond_false, Option.bind_some]
    rw [bU m2]
    simp only [Option.bind_some]
    rw [ij hkk L hq, ij hkk L hx]
    simp only [Option.bind_some]
    rw [show decide (wr .i64 (s * sdP dl O q) ≥ 0) = false by rw [hw]; exact decide_eq_false hc, cond_false, u4 _ _ _ _ _ (by omega)]
    dsimp only
    rw [az (by omega), t5, jz, Bool.or_assoc, List.append_assoc]
theorem zP (hkk : 400 ≤ kk) (L : Ln dl O o1 o2 o3) {l : List PtG} (g : Poly l) {s : Int} (hs : s = 1 ∨ s = -1) :
    ∃ ts : List PtG, f137 kk l dl o1 o2 o3 s = some (((), ()), (ts, ())) ∧ ((((ts.length : Nat) : Int) == 0) = !dr dl O s l) := by
 have hn := g.n16
 obtain ⟨ts, t1, t3, t4⟩ := ov (kk := kk) hkk L g hs l 0 rfl
 unfold f137
 have t5 := t4 kk false [] (ρ := ((Unit × Unit) × ((List PtG) × Unit))) (fun x70 : ((Unit × Bool × Unit) × ((List PtG) × Unit)) =>
     bif (!x70.1.2.1) then
      some (((), ()), (([] : List PtG), ()))
     else
      some (((), ()), (x70.2.1, ())),
  ()) (by omega) (by simp)
 rw [show ((0 : Nat) : Int) = 0 from rfl] at t5
 rw [t5]
 simp only [Bool.false_or, List.nil_append]
 cases hh : dr dl O s l with
 | false => exact ⟨[], rfl, rfl⟩
 | true =>
  have := List.length_pos_iff.2 (t1 hh)
  exact ⟨ts, rfl, beq_false_of_ne (by omega)⟩
def OkM (e : N3) : Prop := Nq (gR e) e.1 e.2.1 e.2.2
theorem CS {X : Z2} {a b c : Int} (h : Nq X a b c) : OkM (a, (b, c)) ∧ gR (a, (b, c)) = X := by
 have e : gR (a, (b, c)) = X := Prod.ext h.r.h1.symm h.r.h2.symm
 exact ⟨by unfold OkM; rw [e]; exact h, e⟩
theorem CN (hkk : 400 ≤ kk) (L : Ln dl O o1 o2 o3) {d : Int} (h0 : 0 ≤ d) (h1 : d < 16) {p q : PtG} (hp : okP p = true) (hq : okP q = true) (hd : al p q ≠ -1) :
    ∃ es : List N3, es.map gR = (if sdP dl O p * sdP dl O q < 0 then [dot (vec d) (mtV dl O p q)] else []) ∧ (∀ e ∈ es, OkM e) ∧ es.length ≤ 1 ∧ ∀ (A : List PtG) (i : Int) (z1 z2 z3 z4 z5 z6 z7 z8 z9 z10 z11 z12 : Int) (acc : List N3) {ρ : Type} (nx : (((((List PtG) × Unit × Unit × Int × Unit × Unit × Int × Unit) × ((Int × Int × Int × Int × Int × Int × Unit) × (Int × Int × Int × Int × Int × Int × Unit) × (Int × Int × Int × Int × Unit) × (List N3) × Unit)) → Option ρ) × Unit)), acc.length ≤ 1000 →
     je kk A d i (sdP dl O p) (sdP dl O q) z1 z2 z3 z4 z5 z6 z7 z8 z9 z10 z11 z12 dl o1 o2 o3 acc p.1.1 p.1.2.1 p.1.2.2 p.2.1 p.2.2.1 p.2.2.2 q.1.1 q.1.2.1 q.1.2.2 q.2.1 q.2.2.1 q.2.2.2 nx = nx.1 ((A, (), (), d, (), (), i, ()), ((z1, z2, z3, z4, z5, z6, ()), (z7, z8, z9, z10, z11, z12, ()), (dl, o1, o2, o3, ()), acc ++ es, ())) := by
 have b1 : -1 ≤ sdP dl O p ∧ sdP dl O p ≤ 1 := cb _
 have b2 : -1 ≤ sdP dl O q ∧ sdP dl O q ≤ 1 := cb _
 have b3 := jo b1 b2
 have hw : wr .i64 (sdP dl O p * sdP dl O q) = sdP dl O p * sdP dl O q := ai (by omega) (by omega)
 by_cases hx : sdP dl O p * sdP dl O q < 0
 · obtain ⟨u1, u2, u3, u4, u5, u6, v1, v2, v3, x1, x2, x3, x4, x5, x6, m1, m2, m3, m4, m5, m6⟩ := xu (kk := kk) hkk L hp hq hd hx
   obtain ⟨y1, y2, y3, n1, n2⟩ := gy (kk := kk) (d := d) (N := 137438953472) hkk (by omega) h0 (by omega) m5 m6 (by omega) (by omega)
   have nq : Nq (dot (vec d) (mtV dl O p q)) y1 y2 y3 := ⟨n2, (dK (cz d) m6).mono (by omega)⟩
   obtain ⟨w1, w2⟩ := CS nq
   refine ⟨[(y1, (y2, y3))], by rw [if_pos hx, List.map_cons, w2]; rfl, fun t ht => by rw [List.mem_singleton.1 ht]; exact w1, Nat.le_refl _, ?_⟩
   intro A i z1 z2 z3 z4 z5 z6 z7 z8 z9 z10 z11 z12 acc ρ nx ha
   unfold je
   rw [hw, decide_eq_true hx, cond_true, m1]
   simp only [Option.bind_some]
   rw [m2]
   simp only [Option.bind_some]
   rw [m3]
   simp only [Option.bind_some]
   rw [m4]
   simp only [Option.bind_some]
   rw [n1]
   simp only [Option.bind_some]
   rw [decide_eq_true (p := (acc.length + _) * 24 ≤ roomy) (by simp only [List.length_cons, List.length_nil, roomy]; omega)]
   rfl
 · refine ⟨[], by rw [if_neg hx]; rfl, fun t ht => (by cases ht), by simp, ?_⟩
   intro A i z1 z2 z3 z4 z5 z6 z7 z8 z9 z10 z11 z12 acc ρ nx ha
   unfold je
   rw [hw, decide_eq_false hx, cond_false, List.append_nil]
theorem rY (hkk : 400 ≤ kk) (L : Ln dl O o1 o2 o3) {l : List PtG} (g : Poly l) {d : Int} (h0 : 0 ≤ d) (h1 : d < 16) (z1 z2 z3 z4 z5 z6 z7 z8 z9 z10 z11 z12 : Int) : ∀ (r : List PtG) (i : Nat), l.drop i = r →
    ∃ es : List N3, es.map gR = (fL dl O l i r).map (dot (vec d)) ∧ (∀ e ∈ es, OkM e) ∧ es.length ≤ 2 * r.length ∧ ∀ (j : Nat) (acc : List N3) {ρ : Type} (nx : ((((Unit × Unit × Int × Unit × Unit) × ((Int × Int × Int × Int × Int × Int × Unit) × (Int × Int × Int × Int × Int × Int × Unit) × (List N3) × Unit)) → Option ρ) × Unit)), r.length + 1 ≤ j → acc.length ≤ 2 * i →
     hJ kk j l d (i : Int) z1 z2 z3 z4 z5 z6 z7 z8 z9 z10 z11 z12 dl o1 o2 o3 acc nx = nx.1 (((), (), d, (), ()), ((z1, z2, z3, z4, z5, z6, ()), (z7, z8, z9, z10, z11, z12, ()), acc ++ es, ()))
 | [], i, h => by
  refine ⟨[], rfl, fun t ht => (by cases ht), Nat.le_refl _, ?_⟩
  intro j acc ρ nx hj ha
  obtain ⟨j, rfl⟩ : ∃ m, j = m + 1 := ⟨j - 1, by omega⟩
  unfold hJ
  rw [aQ h]; simp
 | q :: r, i, h => by
  have hi := aE h
  have hn := g.n16
  have hpos : 0 < l.length := by omega
  have m2 : (i + 1) % l.length < l.length := Nat.mod_lt _ hpos
  have hq : okP q = true := g.ok q (List.mem_of_getElem? (aP h))
  have hx := g.ok _ (cB m2)
  obtain ⟨ts, t1, t2, t3, t4⟩ := rY hkk L g h0 h1 z1 z2 z3 z4 z5 z6 z7 z8 z9 z10 z11 z12 r (i + 1) (an h)
  obtain ⟨us, u1, u2, u3, u4⟩ := CN (kk := kk) hkk L h0 h1 hq hx (g.dir h)
  unfold fL
  by_cases hc : sdP dl O q = 0
  · obtain ⟨rq, bq⟩ := bO hq
    obtain ⟨y1, y2, y3, n1, n2⟩ := gy (kk := kk) (d := d) (N := 134217728) hkk (by omega) h0 (by omega) rq bq (by omega) (by omega)
    have nq : Nq (dot (vec d) (v8 (pt q))) y1 y2 y3 := ⟨by rw [vh]; exact n2.lift, by rw [vh]; exact (dK (cz d) bq).sc.mono (by omega)⟩
    obtain ⟨w1, w2⟩ := CS nq
    rw [if_pos hc]
    refine ⟨([(y1, (y2, y3))] ++ us) ++ ts, ?_, fun t ht => ?_, by simp only [List.length_append, List.length_cons, List.length_nil]; omega, ?_⟩
    · rw [List.map_append, List.map_append, t1, u1, List.map_append, List.map_append, List.map_cons, w2]
      congr 2
      split <;> rfl
    · rcases List.mem_append.1 ht with ht | ht
      · rcases List.mem_append.1 ht with ht | ht
        · rw [List.mem_singleton.1 ht]; exact w1
        · exact u2 t ht
      · exact t2 t ht
    intro j acc ρ nx hj ha
    obtain ⟨j, rfl⟩ : ∃ m, j = m + 1 := ⟨j - 1, by omega⟩
    have t5 := t4 j ((acc ++ [(y1, (y2, y3))]) ++ us) nx (by simp only [List.length_cons] at hj; omega) (by simp only [List.length_append, List.length_cons, List.length_nil]; omega)
    unfold hJ
    rw [aI h, aA h, decide_eq_false (p := (l.length : Int) = 0) (by omega), dH hpos (by omega)]
    simp only [cond_true, cond_false, Option.bind_some]
    rw [bU m2]
    simp only [Option.bind_some]
    rw [ij hkk L hq, ij hkk L hx]
    simp only [Option.bind_some]
    rw [show (sdP dl O q == 0) = true from beq_iff_eq.2 hc, cond_true, n1]
    simp only [Option.bind_some]
    rw [decide_eq_true (p := (acc.length + _) * 24 ≤ roomy) (by simp only [List.length_cons, List.length_nil, roomy]; omega), cond_true, u4 _ _ _ _ _ _ _ _ _ _ _ _ _ _ _ _ (by rw [List.length_append]; simp; omega)]
    dsimp only
    rw [az (by omega), t5]
    simp only [List.append_assoc]
  · rw [if_neg hc, List.nil_append]
    refine ⟨us ++ ts, ?_, fun t ht => ?_, by simp only [List.length_append, List.length_cons]; omega, ?_⟩
    · rw [List.map_append, t1, u1, List.map_append]
      congr 1
      split <;> rfl
    · rcases List.mem_append.1 ht with ht | ht
      · exact u2 t ht
      · exact t2 t ht
    intro j acc ρ nx hj ha
    obtain ⟨j, rfl⟩ : ∃ m, j = m + 1 := ⟨j - 1, by omega⟩
    have t5 := t4 j (acc ++ us) nx (by simp only [List.length_cons] at hj; omega) (by simp only [List.length_append]; omega)
    unfold hJ
    rw [aI h, aA h, decide_eq_false (p := (l.length : Int) = 0) (by omega), dH hpos (by omega)]
    simp only [cond_true, cond_false, Option.bind_some]
    rw [bU m2]
    simp only [Option.bind_some]
    rw [ij hkk L hq, ij hkk L hx]
    simp only [Option.bind_some]
    rw [show (sdP dl O q == 0) = false from beq_false_of_ne hc, cond_false, u4 _ _ _ _ _ _ _ _ _ _ _ _ _ _ _ _ (by omega)]
    dsimp only
    rw [az (by omega), t5, List.append_assoc]
end
section
variable {kk : Nat} {X Y : Z2} {a1 a2 a3 b1 b2 b3 : Int}
theorem Dr (hkk : 400 ≤ kk) (hx : Nq X a1 a2 a3) (hy : Nq Y b1 b2 b3) : ∃ a b c, f131 kk a1 a2 a3 b1 b2 b3 = some (((a, b, c, ()), ()), ()) ∧ Nq (bo X Y) a b c := by
 obtain ⟨u, v, w, h6, h7⟩ := dE (kk := kk) hkk (by omega) hx.r hy.r (hx.b.mono (by omega)) (hy.b.mono (by omega))
 have h8 := Rp.iM (kk := kk) h7 (M := 2199023255552) (by omega) (by omega) (hx.b.sub hy.b)
 unfold f131 bo
 rw [h6, Option.bind_some]
 dsimp only
 rw [h8, Option.bind_some]
 dsimp only
 by_cases h : (X.sub Y).sg < 0
 · rw [decide_eq_true h, if_pos h]; exact ⟨_, _, _, rfl, hx⟩
 · rw [decide_eq_false h, if_neg h]; exact ⟨_, _, _, rfl, hy⟩
theorem Gm (hkk : 400 ≤ kk) (hx : Nq X a1 a2 a3) (hy : Nq Y b1 b2 b3) : ∃ a b c, f129 kk a1 a2 a3 b1 b2 b3 = some (((a, b, c, ()), ()), ()) ∧ Nq (b8 X Y) a b c := by
 obtain ⟨u, v, w, h6, h7⟩ := dE (kk := kk) hkk (by omega) hx.r hy.r (hx.b.mono (by omega)) (hy.b.mono (by omega))
 have h8 := Rp.iM (kk := kk) h7 (M := 2199023255552) (by omega) (by omega) (hx.b.sub hy.b)
 unfold f129 b8
 rw [h6, Option.bind_some]
 dsimp only
 rw [h8, Option.bind_some]
 dsimp only
 by_cases h : (X.sub Y).sg > 0
 · rw [decide_eq_true h, if_pos h]; exact ⟨_, _, _, rfl, hx⟩
 · rw [decide_eq_false h, if_neg h]; exact ⟨_, _, _, rfl, hy⟩
end
theorem yF {kk : Nat} (hkk : 400 ≤ kk) {l : List PtG} (g : Poly l) {p q : PtG} (hp : okP p = true) (hq : okP q = true) : f111 kk l p.1.1 p.1.2.1 p.1.2.2 p.2.1 p.2.2.1 p.2.2.2 q.1.1 q.1.2.1 q.1.2.2 q.2.1 q.2.2.1 q.2.2.2 = some ((qo l p q, ()), ()) := by
 have hn16 := g.n16
 obtain ⟨u1, u2, u3, u4, u5, u6, a1, a2⟩ := mG (kk := kk) hkk hp hq
 unfold f111 qo
 rw [a1, Option.bind_some]
 dsimp only
 rw [a2, Option.bind_some]
 dsimp only
 rcases cK p q with hd | hr
 · rw [hd, if_pos rfl]; rfl
 · obtain ⟨rp, bp⟩ := bO hp
   obtain ⟨rq, bq⟩ := bO hq
   obtain ⟨v1, v2, v3, b1, b2, b3⟩ := jT (kk := kk) hkk hr.1 hr.2 rp bp
   have L : Ln (al p q % 8) (dot (vec (al p q % 8 + 4)) (pt p)) v1 v2 v3 := ⟨by omega, by omega, b2, b3⟩
   obtain ⟨ts, t1, t2⟩ := zP (kk := kk) hkk L g (s := 1) (.inl rfl)
   obtain ⟨us, s1, s2⟩ := zP (kk := kk) hkk L g (s := -1) (.inr rfl)
   rw [decide_eq_false (p := al p q < 0) (by omega), if_neg (show al p q ≠ -1 by omega), cond_false, b1, Option.bind_some]
   dsimp only
   rw [t1, Option.bind_some]
   dsimp only
   rw [t2]
   cases h1 : dr (al p q % 8) (dot (vec (al p q % 8 + 4)) (pt p)) 1 l with
   | false => rfl
   | true =>
    simp only [Bool.not_true, cond_false, Bool.true_and]
    rw [s1, Option.bind_some]
    dsimp only
    rw [s2]
    cases h2 : dr (al p q % 8) (dot (vec (al p q % 8 + 4)) (pt p)) (-1) l with
    | false => rfl
    | true =>
     simp only [Bool.not_true, cond_false, Bool.true_and]
     obtain ⟨es, e1, e2, e3, e4⟩ := rY (kk := kk) hkk L g hr.1 hr.2 p.1.1 p.1.2.1 p.1.2.2 p.2.1 p.2.2.1 p.2.2.2 q.1.1 q.1.2.1 q.1.2.2 q.2.1 q.2.2.1 q.2.2.2 l 0 rfl
     have htwo := wP L.d0 (by have := L.d1; omega) (dot (vec (al p q % 8 + 4)) (pt p)) g h1 h2
     have hlen : es.length = 2 := by
      have := congrArg List.length e1
      rw [List.length_map, List.length_map, htwo] at this
      exact this
     obtain ⟨x, y, rfl⟩ : ∃ x y, es = [x, y] := by
      match es, hlen with
      | [x, y], _ => exact ⟨x, y, rfl⟩
     obtain ⟨X, Y, hXY⟩ : ∃ X Y, fL (al p q % 8) (dot (vec (al p q % 8 + 4)) (pt p)) l 0 l = [X, Y] := by
      match fL (al p q % 8) (dot (vec (al p q % 8 + 4)) (pt p)) l 0 l, htwo with
      | [x, y], _ => exact ⟨x, y, rfl⟩
     rw [hXY] at e1
     simp only [List.map_cons, List.map_nil, List.cons.injEq, and_true] at e1
     have nx := e2 x (by simp)
     have ny := e2 y (by simp)
     unfold OkM at nx ny
     rw [e1.1] at nx
     rw [e1.2] at ny
     obtain ⟨A1, A2, A3, k1, k2⟩ := gy (kk := kk) (d := al p q) (N := 134217728) hkk (by omega) hr.1 (by omega) rp bp (by omega) (by omega)
     obtain ⟨B1, B2, B3, k3, k4⟩ := gy (kk := kk) (d := al p q) (N := 134217728) hkk (by omega) hr.1 (by omega) rq bq (by omega) (by omega)
     have nA : Nq (sc (dot (vec (al p q)) (pt p))) A1 A2 A3 := ⟨k2.lift, (dK (cz _) bp).sc.mono (by omega)⟩
     have nB : Nq (sc (dot (vec (al p q)) (pt q))) B1 B2 B3 := ⟨k4.lift, (dK (cz _) bq).sc.mono (by omega)⟩
     obtain ⟨c1, c2, c3, l1, l2⟩ := Dr (kk := kk) hkk nx ny
     obtain ⟨d1, d2, d3, l3, l4⟩ := Gm (kk := kk) hkk nx ny
     obtain ⟨f1, f2, f3, l5, l6⟩ := Gm (kk := kk) hkk l2 nA
     obtain ⟨g1, g2, g3, l7, l8⟩ := Dr (kk := kk) hkk l4 nB
     obtain ⟨w1, w2, w3, l9, l10⟩ := dE (kk := kk) hkk (by omega) l8.r l6.r (l8.b.mono (by omega)) (l6.b.mono (by omega))
     have l11 := Rp.iM (kk := kk) l10 (M := 2199023255552) (by omega) (by omega) (l8.b.sub l6.b)
     have e5 := e4 kk [] (ρ := ((Bool × Unit) × Unit)) (fun x100 : ((Unit × Unit × Int × Unit × Unit) × ((Int × Int × Int × Int × Int × Int × Unit) × (Int × Int × Int × Int × Int × Int × Unit) × (List N3) × Unit)) =>
         bif decide (0 ≤ 0) && decide (0 < (x100.2.2.2.1.length : Int)) then
          (x100.2.2.2.1[0]?).bind fun x101 =>
          bif decide (0 ≤ 1) && decide (1 < (x100.2.2.2.1.length : Int)) then
           (x100.2.2.2.1[1]?).bind fun x102 =>
           (f131 kk x101.1 x101.2.1 x101.2.2 x102.1 x102.2.1 x102.2.2).bind fun x103 =>
           (f130 kk x100.1.2.2.1 x100.2.1.1 x100.2.1.2.1 x100.2.1.2.2.1 x100.2.1.2.2.2.1 x100.2.1.2.2.2.2.1 x100.2.1.2.2.2.2.2.1).bind fun x104 =>
           (f129 kk x103.1.1.1 x103.1.1.2.1 x103.1.1.2.2.1 x104.1.1.1 x104.1.1.2.1 x104.1.1.2.2.1).bind fun x105 =>
           bif decide (0 ≤ 0) && decide (0 < (x100.2.2.2.1.length : Int)) then
            (x100.2.2.2.1[0]?).bind fun x106 =>
            bif decide (0 ≤ 1) && decide (1 < (x100.2.2.2.1.length : Int)) then
             (x100.2.2.2.1[1]?).bind fun x107 =>
             (f129 kk x106.1 x106.2.1 x106.2.2 x107.1 x107.2.1 x107.2.2).bind fun x108 =>
             (f130 kk x100.1.2.2.1 x100.2.2.1.1 x100.2.2.1.2.1 x100.2.2.1.2.2.1 x100.2.2.1.2.2.2.1 x100.2.2.1.2.2.2.2.1 x100.2.2.1.2.2.2.2.2.1).bind fun x109 =>
             (f131 kk x108.1.1.1 x108.1.1.2.1 x108.1.1.2.2.1 x109.1.1.1 x109.1.1.2.1 x109.1.1.2.2.1).bind fun x110 =>
             (f133 kk x110.1.1.1 x110.1.1.2.1 x110.1.1.2.2.1 x105.1.1.1 x105.1.1.2.1 x105.1.1.2.2.1).bind fun x111 =>
             (f132 kk x111.1.1.1 x111.1.1.2.1 x111.1.1.2.2.1).bind fun x112 =>
             some (((decide (x112.1.1 > 0)), ()), ())
            else
             none
           else
            none
          else
           none
         else
          none,
      ()) (by omega) (by simp)
     rw [show ((0 : Nat) : Int) = 0 from rfl, List.nil_append] at e5
     rw [e5]
     simp only [List.length_cons, List.length_nil, List.getElem?_cons_zero, List.getElem?_cons_succ, Option.bind_some]
     rw [l1]
     simp only [Option.bind_some]
     rw [k1]
     simp only [Option.bind_some]
     rw [l5]
     simp only [Option.bind_some]
     rw [l3]
     simp only [Option.bind_some]
     rw [k3]
     simp only [Option.bind_some]
     rw [l7]
     simp only [Option.bind_some]
     rw [l9]
     simp only [Option.bind_some]
     rw [l11, hXY]
     rfl
end Go.Proofs.YtoclkhdbjbmpfaaGreatDoor.R
namespace Go.Proofs.YtoclkhdbjbmpfaaGreatDoor.R
open Go.Proofs.YtoclkhdbjbmpfaaGreatDoor.R1 Z2
theorem CU : ∀ {p : PtG} {L : List PtG}, cF (some p) L = true → ∀ q ∈ L, cE (pt p) (pt q) < 0
 | _, [], _, q, hq => by cases hq
 | p, a :: r, h, q, hq => by
  simp only [cF, ltO, Bool.and_eq_true, decide_eq_true_eq] at h
  rcases List.mem_cons.1 hq with rfl | hq
  · exact h.2.1
  · exact tN (by have := h.2.1; omega) (CU h.2.2 q hq)
theorem tx : ∀ {o : Option PtG} {L : List PtG}, cF o L = true → L.Nodup
 | _, [], _ => .nil
 | o, a :: r, h => by
  simp only [cF, Bool.and_eq_true] at h
  refine List.nodup_cons.2 ⟨fun hm => ?_, tx h.2.2⟩
  have := CU h.2.2 a hm
  rw [qe] at this; omega
theorem HZ {L : List PtG} (hn : L.Nodup) {i j : Int} (i0 : 0 ≤ i) (i1 : i < L.length) (j0 : 0 ≤ j) (j1 : j < L.length) (h : atP L i = atP L j) : i = j := by
 obtain ⟨x, e, e2⟩ := hP i0 i1
 obtain ⟨y, f, f2⟩ := hP j0 j1
 unfold atP at h
 rw [e, f] at h
 have h' : x = y := h
 subst h'
 obtain ⟨li, ei⟩ := List.getElem?_eq_some_iff.1 e2
 obtain ⟨lj, ej⟩ := List.getElem?_eq_some_iff.1 f2
 have := (List.getElem_inj hn).1 (ei.trans ej.symm)
 omega
theorem tL {L : List PtG} (hn : L.Nodup) : ∀ {W : List Int}, W.Nodup → (∀ w ∈ W, 0 ≤ w ∧ w < L.length) → (W.map (atP L)).Nodup
 | [], _, _ => .nil
 | w :: r, h, hr => by
  obtain ⟨n1, n2⟩ := List.nodup_cons.1 h
  rw [List.map_cons]
  refine List.nodup_cons.2 ⟨fun hm => ?_, tL hn n2 fun w hw => hr w (List.mem_cons_of_mem _ hw)⟩
  obtain ⟨v, hv, e⟩ := List.mem_map.1 hm
  have a := hr w (List.mem_cons_self ..)
  have b := hr v (List.mem_cons_of_mem _ hv)
  exact n1 (by rw [HZ hn a.1 a.2 b.1 b.2 e.symm]; exact hv)
theorem tJ {α : Type} {l : List α} (h : l.Nodup) : l.reverse.Nodup := List.pairwise_reverse.2 (h.imp fun h => h.symm)
def uZ (W : List Int) : List Int := W.take 1 ++ (W.drop 1).reverse
theorem CP {kk : Nat} (W : List Int) (hlen : W.length ≤ 40) : ∀ (n j : Nat) (acc : List Int) {ρ : Type} (nx : ((((Unit × Unit) × ((List Int) × Unit)) → Option ρ) × Unit)), n < W.length → n + 1 ≤ j → acc.length + n ≤ 1000 →
    my kk j W (n : Int) acc nx = nx.1 (((), ()), (acc ++ ((W.drop 1).take n).reverse, ())) := by
 intro n
 induction n with
 | zero =>
  intro j acc ρ nx hn hj ha
  obtain ⟨j, rfl⟩ : ∃ m, j = m + 1 := ⟨j - 1, by omega⟩
  unfold my
  rw [show decide (((0 : Nat) : Int) > 0) = false from rfl]; simp
 | succ n ih =>
  intro j acc ρ nx hn hj ha
  obtain ⟨j, rfl⟩ : ∃ m, j = m + 1 := ⟨j - 1, by omega⟩
  unfold my
  rw [decide_eq_true (p := ((n + 1 : Nat) : Int) > 0) (by omega), ec, List.getElem?_eq_getElem hn]
  simp only [cond_true, Option.bind_some]
  rw [decide_eq_true (p := (acc.length + [W[n + 1]].length) * 8 ≤ roomy) (by simp only [List.length_cons, List.length_nil, roomy]; omega), ai (by omega) (by omega), cond_true, show ((n + 1 : Nat) : Int) - 1 = (n : Int) by omega, ih j _ nx (by omega) (by omega) (by rw [List.length_append]; simp; omega)]
  congr 3
  rw [List.append_assoc]
  congr 1
  rw [List.take_add_one, List.getElem?_drop, Nat.add_comm 1 n, List.getElem?_eq_getElem hn]
  simp
theorem Hb {kk : Nat} (W : List Int) (hne : W ≠ []) (h : W.length + 1 ≤ kk) (hlen : W.length ≤ 40) : f70 kk W = some (((), ()), (uZ W, ())) := by
 obtain ⟨w, r, rfl⟩ : ∃ w r, W = w :: r := by cases W with
  | nil => exact absurd rfl hne
  | cons w r => exact ⟨w, r, rfl⟩
 have := CP (kk := kk) (w :: r) hlen r.length kk [w] (ρ := ((Unit × Unit) × ((List Int) × Unit))) (fun x8 : ((Unit × Unit) × ((List Int) × Unit)) => some (((), ()), (x8.2.1, ())), ()) (by simp) (by simp only [List.length_cons] at h; omega) (by simp only [List.length_cons, List.length_nil] at hlen ⊢; omega)
 unfold f70
 rw [show ak (w :: r) 0 = some w from rfl, ai (by omega) (by omega), show (((w :: r).length : Nat) : Int) - 1 = (r.length : Int) by rw [List.length_cons]; omega]
 simp only [Option.bind_some]
 rw [this]
 simp [uZ]
def jK (l : List PtG) (L : List PtG) : List CrG → Bool
 | [] => true
 | c :: r => (c.2.2 == 1 || (!decide (jH l (atP L c.1) 1 0 l < 0) && (!decide (jH l (atP L c.2.1) 1 0 l < 0) && qo l (atP L c.1) (atP L c.2.1)))) && jK l L r
theorem xe {kk : Nat} (hkk : 400 ≤ kk) {L : List PtG} {C : List CrG} (gp : dM L C) {l : List PtG} (g : Poly l) : ∀ (r : List CrG) (i j : Nat) {ρ : Type} (nx : (((Unit × Unit) → Option ρ) × (((Bool × Unit) × Unit) → Option ρ) × Unit)), C.drop i = r → r.length + 1 ≤ j →
    iG kk j C (C.length : Int) (i : Int) L C l nx = bif jK l L r then nx.1 ((), ()) else nx.2.1 ((false, ()), ())
 | [], i, j, ρ, nx, h, hj => by
  obtain ⟨j, rfl⟩ : ∃ m, j = m + 1 := ⟨j - 1, by omega⟩
  unfold iG
  rw [aQ h]; rfl
 | c :: r, i, j, ρ, nx, h, hj => by
  obtain ⟨j, rfl⟩ : ∃ m, j = m + 1 := ⟨j - 1, by omega⟩
  have hi := aE h
  have hnC := gp.nC
  obtain ⟨p, q, e1, e2, o1, o2, _, a1, a2, _⟩ := gp.get (List.mem_of_getElem? (aP h))
  have ih := xe hkk gp g r (i + 1) j nx (an h) (by simp only [List.length_cons] at hj; omega)
  unfold iG f31 f32
  rw [aI h, aA h, az (by omega), ih]
  simp only [cond_true, Option.bind_some]
  rw [e1, e2]
  simp only [Option.bind_some]
  rw [tA hkk g o1, tA hkk g o2, Bl hkk g o1 o2]
  simp only [Option.bind_some, jK]
  rw [a1, a2]
  cases c.2.2 == 1 with
  | true => rfl
  | false =>
   simp only [cond_false, Bool.false_or]
   cases decide (jH l p 1 0 l < 0) with
   | true => rfl
   | false =>
    simp only [cond_false, Bool.not_false, Bool.true_and]
    cases decide (jH l q 1 0 l < 0) with
    | true => rfl
    | false =>
     simp only [cond_false, Bool.not_false, Bool.true_and]
     cases qo l p q <;> rfl
theorem ui {kk : Nat} (hkk : 400 ≤ kk) {L : List PtG} {C : List CrG} (gp : dM L C) {l : List PtG} (g : Poly l) : ∀ (r : List CrG) (i j : Nat) {ρ : Type} (nx : (((Unit × Unit) → Option ρ) × (((Bool × Unit) × Unit) → Option ρ) × Unit)), C.drop i = r → r.length + 1 ≤ j →
    ko kk j (L, C) (C.map (fG L)) (i : Int) l (eO l) nx = bif jK l L r then nx.1 ((), ()) else nx.2.1 ((false, ()), ())
 | [], i, j, ρ, nx, h, hj => by
  obtain ⟨j, rfl⟩ : ∃ m, j = m + 1 := ⟨j - 1, by omega⟩
  unfold ko
  rw [List.length_map, aQ h]; rfl
 | c :: r, i, j, ρ, nx, h, hj => by
  obtain ⟨j, rfl⟩ : ∃ m, j = m + 1 := ⟨j - 1, by omega⟩
  have hi := aE h
  have hnC := gp.nC
  obtain ⟨p, q, e1, e2, o1, o2, _, a1, a2, _⟩ := gp.get (List.mem_of_getElem? (aP h))
  have ih := ui hkk gp g r (i + 1) j nx (an h) (by simp only [List.length_cons] at hj; omega)
  have hs : ak (C.map (fG L)) (i : Int) = some (fG L c) := p8 (aP h)
  unfold ko
  dsimp only
  rw [List.length_map, aI h, aA h, az (by omega), ih, hs]
  simp only [cond_true, Option.bind_some, fG]
  rw [a1, a2, rG hkk g o1, rG hkk g o2, yF hkk g o1 o2]
  simp only [Option.bind_some, jK]
  rw [a1, a2]
  cases c.2.2 == 1 with
  | true => rfl
  | false =>
   simp only [cond_false, Bool.false_or]
   cases decide (jH l p 1 0 l < 0) with
   | true => rfl
   | false =>
    simp only [cond_false, Bool.not_false, Bool.true_and]
    cases decide (jH l q 1 0 l < 0) with
    | true => rfl
    | false =>
     simp only [cond_false, Bool.not_false, Bool.true_and]
     cases qo l p q <;> rfl
theorem wK {kk : Nat} (hkk : 400 ≤ kk) {L : List PtG} {C : List CrG} (gp : dM L C) {l : List PtG} (g : Poly l) : f72 kk (L, C) (C.map (fG L)) l = some ((jK l L C, ()), ()) := by
 have hn := g.n16
 have hnC := gp.nC
 have hcv := g.cv
 unfold iy at hcv
 rw [Bool.and_eq_true] at hcv
 unfold f72
 rw [zJ l (by omega) (by omega)]
 simp only [Option.bind_some]
 rw [vB hkk l g.ok (by omega), hcv.1]
 simp only [cond_true, Option.bind_some]
 have := ui hkk gp g C 0 kk (ρ := ((Bool × Unit) × Unit)) (fun x21 : (Unit × Unit) =>
     some ((true, ()), ()),
  fun x22 : ((Bool × Unit) × Unit) =>
   some ((x22.1.1, ()), ()),
  ()) rfl (by omega)
 rw [show ((0 : Nat) : Int) = 0 from rfl] at this
 rw [this]
 cases jK l L C <;> rfl
def iz (L : List PtG) (R : List Int) : List PtG := R.reverse.map (atP L)
def bG (L : List PtG) (R : List Int) : List PtG := jL (iz L R) 0 (iz L R)
def roundOf (L : List PtG) (R : List Int) : List Int := if dw (aK (bG L R)) = true then R.reverse else uZ R.reverse
structure Valid (L : List PtG) (C : List CrG) (R : List Int) : Prop where
 g : dM L C
 pts : cF none L = true
 crs : cq L.length none C = true
 rnd : Rnd L.length C R
 pap : fW (bG L R) = true
 plan : fH L [] C = true
 conn : ∀ i : Int, 0 ≤ i → i < L.length → Rch C i
 ins : jK (dq (bG L R)) L C = true
theorem Valid.brd {L : List PtG} {C : List CrG} {R : List Int} (v : Valid L C R) : Brd L.length C := C8 v.crs
theorem zc {n : Nat} {C : List CrG} {R : List Int} (h : Rnd n C R) : (∀ w ∈ R.reverse, 0 ≤ w ∧ w < n) ∧ R.reverse.Nodup ∧ R.reverse.length ≤ n ∧ R.reverse ≠ [] :=
 ⟨fun w hw => h.gw.rg w (List.mem_reverse.1 hw), tJ h.gw.nd, by rw [List.length_reverse]; exact h.gw.len, fun e => by
  have := List.reverse_eq_nil_iff.1 e
  have h2 := h.pth
  rw [this] at h2
  exact h2.elim⟩
theorem Cf {L : List PtG} {C : List CrG} {R : List Int} (hL : ∀ p ∈ L, okP p = true) (hn : L.Nodup) (hl : L.length ≤ 40) (h : Rnd L.length C R) : (∀ p ∈ iz L R, okP p = true) ∧ (iz L R).length ≤ 40 ∧ (∀ p ∈ bG L R, okP p = true) ∧ (bG L R).length ≤ 40 ∧ (bG L R).Nodup := by
 obtain ⟨r1, r2, r3, r4⟩ := zc h
 have h1 : ∀ p ∈ iz L R, okP p = true := fun p hp => by
  obtain ⟨w, hw, rfl⟩ := List.mem_map.1 hp
  exact hL _ (fg (r1 w hw).1 (r1 w hw).2).2
 have h2 : (iz L R).length ≤ 40 := by unfold iz; rw [List.length_map]; omega
 have sub : (bG L R).Sublist (iz L R) := qd (iz L R) 0 (iz L R)
 exact ⟨h1, h2, fun p hp => h1 p (sub.subset hp), by have := sub.length_le; omega, sub.nodup (tL hn r2 r1)⟩
theorem se {K : List PtG} (hK : ∀ p ∈ K, okP p = true) (h : fW K = true) : Poly (dq K) := by
 unfold fW at h
 unfold dq
 by_cases q : dw (aK K) = true
 · rw [if_pos q]; exact yT (fun p hp => hK p (jx.1 hp)) q
 · rw [if_neg q]
   rw [Bool.or_eq_true] at h
   exact yT (fun p hp => hK p (List.mem_reverse.1 (jx.1 hp))) (h.resolve_left q)
theorem DU {kk : Nat} (hkk : 400 ≤ kk) (L : List PtG) (C : List CrG) (hl : L.length + 1 ≤ kk) (hc : C.length + 1 ≤ kk) (hl2 : L.length < 4611686018427387904) (hc2 : C.length < 4611686018427387904) :
    (f16 kk L C = some ((false, ()), ()) ∧ ∃ a b, f38 kk (L, C) = some (((), (), false, ()), (a, b, ()))) ∨
    ∃ R, Valid L C R ∧ f16 kk L C = some ((true, ()), ()) ∧ f38 kk (L, C) = some (((), (), true, ()), (dq (bG L R), roundOf L R, ())) := by
 unfold f16 f38
 rw [xw hkk L C hl hl2, FG hkk L C]
 simp only [Option.bind_some]
 cases hp : cF none L with
 | false => left; refine ⟨rfl, [], [], ?_⟩; simp
 | true =>
  by_cases h40 : L.length ≤ 40
  · have hL := sk hp
    rw [decide_eq_true h40]
    simp only [Bool.and_self, Bool.not_true, cond_false, Bool.true_and]
    rw [uK hkk L C hL h40 hc hc2]
    simp only [Option.bind_some]
    cases hcr : cq L.length none C with
    | false => left; refine ⟨rfl, [], [], ?_⟩; simp
    | true =>
     by_cases h70 : C.length ≤ 70
     · rw [decide_eq_true h70]
       have hrg := oU hcr
       simp only [Bool.and_self, Bool.and_true, Bool.true_and, Bool.not_true, cond_false]
       rw [Hf hkk L C hL hrg h70]
       cases hd : gg L C with
       | false => left; exact ⟨rfl, [], [], rfl⟩
       | true =>
        have gp : dM L C := ⟨hL, hrg, fun c hc => by
         unfold gg at hd
         have := List.all_eq_true.1 hd c hc
         simpa using this, h40, h70⟩
        have brd := C8 hcr
        simp only [cond_true, Option.bind_some, Bool.not_true, cond_false]
        rw [yD hkk gp]
        simp only [Option.bind_some]
        rcases FQ (kk := kk) hkk L brd h40 h70 with ⟨l, l', b1, b2⟩ | ⟨R, b1, b2, rnd⟩
        ·
         left
         rw [b2]
         refine ⟨?_, [], [], rfl⟩
         cases fH L [] C with
         | false => rfl
         | true =>
          simp only [Bool.not_true, cond_false]
          have hcon : ∃ b, f29 kk L C = some ((b, ()), ()) := by
           by_cases hne : L = []
           · subst hne; exact ⟨true, rfl⟩
           · obtain ⟨b, h1, _⟩ := oz hkk gp hne; exact ⟨b, h1⟩
          obtain ⟨b, hb⟩ := hcon
          rw [hb]
          cases b with
          | false => rfl
          | true =>
           unfold f30
           rw [b1]
           rfl
        · obtain ⟨r1, r2, r3, r4⟩ := zc rnd
          have hne : L ≠ [] := fun e => by
           subst e
           have : R.reverse = [] := List.length_eq_zero_iff.1 (Nat.le_zero.1 r3)
           exact r4 this
          obtain ⟨b, k1, k2⟩ := oz hkk gp hne
          obtain ⟨b', k3, k4⟩ := BL hkk gp hne
          have hbb : b = b' := Bool.eq_iff_iff.2 (k2.trans k4.symm)
          subst hbb
          rw [b2, Aw hkk gp]
          simp only [Option.bind_some, Bool.not_true, cond_false]
          cases hpl : fH L [] C with
          | false => left; exact ⟨rfl, [], [], rfl⟩
          | true =>
           simp only [Bool.not_true, cond_false]
           rw [k1, k3]
           simp only [Option.bind_some]
           cases hb : b with
           | false => left; exact ⟨rfl, [], [], rfl⟩
           | true =>
            simp only [Bool.not_true, cond_false]
            obtain ⟨c1, c2, c3, c4, c5⟩ := Cf hL (tx hp) h40 rnd
            have hpo := vo (kk := kk) hkk L C R.reverse r1 (by omega)
            have hst := xV (kk := kk) hkk (iz L R) c1 c2
            obtain ⟨P, n1, n2⟩ := DJ (kk := kk) hkk (bG L R) c3 c4
            have hco := A5 (kk := kk) hkk L C hL R.reverse r1 (by omega)
            have c3r : ∀ p ∈ (bG L R).reverse, okP p = true := fun p hp => c3 p (List.mem_reverse.1 hp)
            have c4r : (bG L R).reverse.length ≤ 40 := by rw [List.length_reverse]; exact c4
            have t1 := xm (kk := kk) hkk (bG L R) c3 c4
            have t2 := vT (kk := kk) hkk (bG L R) c3 c5 c4
            have t3 := yx (kk := kk) (bG L R) (by omega) (by omega)
            have t4 := xm (kk := kk) hkk (bG L R).reverse c3r c4r
            have t5 := vT (kk := kk) hkk (bG L R).reverse c3r (tJ c5) c4r
            have t6 := Hb (kk := kk) R.reverse r4 (by omega) (by omega)
            unfold f30
            rw [b1]
            simp only [Option.bind_some, Bool.not_true, cond_false]
            rw [hpo]
            simp only [Option.bind_some]
            rw [show f53 kk (R.reverse.map (atP L)) = some (((), ()), (bG L R, ())) from hst]
            simp only [Option.bind_some]
            rw [n1, show f67 kk (L, C) R.reverse = some (((), ()), (bG L R, ())) from hco]
            simp only [Option.bind_some]
            rw [t1]
            simp only [Option.bind_some]
            rw [t2]
            simp only [Option.bind_some]
            have fin : ∀ (paper : List PtG) (round : List Int), paper = dq (bG L R) → round = roundOf L R → ∀ b, dw paper = b → f69 kk paper = some ((b, ()), ()) → b = fW (bG L R) →
                ∀ {ρ : Type} (nx : ((((Unit × Unit × Bool × Unit) × ((List PtG) × (List Int) × Unit)) → Option ρ) × Unit)), mi kk (L, C) (C.map (fG L)) round paper nx = bif b && jK paper L C then nx.1 (((), (), true, ()), (paper, round, ())) else nx.1 (((), (), false, ()), ([], [], ())) := by
             intro paper round e1 e2 b hb hS hbp ρ nx
             unfold mi
             rw [hS]
             simp only [Option.bind_some]
             cases b with
             | false => rfl
             | true =>
              simp only [Bool.not_true, cond_false, Bool.true_and]
              have poly : Poly paper := by rw [e1]; exact se c3 hbp.symm
              rw [wK hkk gp poly]
              simp only [Option.bind_some]
              cases jK paper L C <;> rfl
            have both : ∀ (X : Option ((Unit × Unit × Bool × Unit) × ((List PtG) × (List Int) × Unit))), X = (bif fW (bG L R) && jK (dq (bG L R)) L C then some (((), (), true, ()), (dq (bG L R), roundOf L R, ())) else some (((), (), false, ()), ([], [], ()))) →
                ((bif !fW (bG L R) then some ((false, ()), ()) else iG kk kk C (C.length : Int) 0 L C P (fun x33 : (Unit × Unit) => some ((true, ()), ()), fun x34 : ((Bool × Unit) × Unit) => some ((x34.1.1, ()), ()), ())) = some ((false, ()), ()) ∧ ∃ a b, X = some (((), (), false, ()), (a, b, ()))) ∨
                ∃ R', Valid L C R' ∧ (bif !fW (bG L R) then some ((false, ()), ()) else iG kk kk C (C.length : Int) 0 L C P (fun x33 : (Unit × Unit) => some ((true, ()), ()), fun x34 : ((Bool × Unit) × Unit) => some ((x34.1.1, ()), ()), ())) = some ((true, ()), ()) ∧ X = some (((), (), true, ()), (dq (bG L R'), roundOf L R', ())) := by
             intro X hX
             cases hpb : fW (bG L R) with
             | false => left; rw [hX, hpb]; exact ⟨rfl, [], [], rfl⟩
             | true =>
              have poly := se c3 hpb
              rw [n2 hpb]
              have hil := xe (kk := kk) hkk gp poly C 0 kk (ρ := ((Bool × Unit) × Unit)) (fun x33 : (Unit × Unit) => some ((true, ()), ()), fun x34 : ((Bool × Unit) × Unit) => some ((x34.1.1, ()), ()), ()) rfl (by omega)
              rw [show ((0 : Nat) : Int) = 0 from rfl] at hil
              rw [hX, hpb, Bool.not_true, cond_false, hil]
              cases hin : jK (dq (bG L R)) L C with
              | false => left; exact ⟨rfl, [], [], rfl⟩
              | true => right; exact ⟨R, ⟨gp, hp, hcr, rnd, hpb, hpl, k2.1 hb, hin⟩, rfl, rfl⟩
            refine both _ ?_
            cases hpt : dw (aK (bG L R)) with
            | true =>
             simp only [Bool.not_true, cond_false]
             have e1 : aK (bG L R) = dq (bG L R) := by unfold dq; rw [if_pos hpt]
             have e2 : R.reverse = roundOf L R := by unfold roundOf; rw [if_pos hpt]
             have e3 : true = fW (bG L R) := by unfold fW; rw [hpt]; rfl
             rw [hpt] at t2
             rw [fin _ _ e1 e2 true hpt t2 e3, e1, e2, ← e3]
            | false =>
             simp only [Bool.not_false, cond_true]
             rw [t6]
             simp only [Option.bind_some]
             rw [t3]
             simp only [Option.bind_some]
             rw [t4]
             simp only [Option.bind_some]
             have e1 : aK (bG L R).reverse = dq (bG L R) := by unfold dq; rw [if_neg (by rw [hpt]; simp)]
             have e2 : uZ R.reverse = roundOf L R := by unfold roundOf; rw [if_neg (by rw [hpt]; simp)]
             have e3 : dw (aK (bG L R).reverse) = fW (bG L R) := by unfold fW; rw [hpt, Bool.false_or]
             rw [fin _ _ e1 e2 _ rfl t5 e3, e3, e1, e2]
     · left
       rw [decide_eq_false h70]
       refine ⟨?_, [], [], ?_⟩
       · simp
       · simp
  · left
    rw [decide_eq_false h40]
    exact ⟨by simp, [], [], by simp⟩
end Go.Proofs.YtoclkhdbjbmpfaaGreatDoor.R
namespace Go.Proofs.YtoclkhdbjbmpfaaGreatDoor.R
open Go.Proofs.YtoclkhdbjbmpfaaGreatDoor.R1 Z2
def bs (l : List UInt8) : ByteArray := ⟨l.toArray⟩
theorem aW (a b : List UInt8) : bs a ++ bs b = bs (a ++ b) := by
 apply ByteArray.ext
 unfold bs
 rw [ByteArray.data_append]
 simp
theorem yH (l : List UInt8) : (bs l).size = l.length := by unfold bs; exact List.size_toArray
theorem bs1 (x : UInt8) : (ByteArray.mk #[x]) = bs [x] := rfl
theorem bsc {a b : List UInt8} (h : a.length + b.length ≤ 1000000) : decide ((((bs a).size + (bs b).size : Nat) : Int) > 9223372036854775807) = false := by
 rw [yH, yH]; exact decide_eq_false (by omega)
theorem wr8 {x : Int} (h0 : 0 ≤ x) (h1 : x < 256) : wr .u8 x = x := by unfold wr; simp [IntKind.wrap, IntKind.bits, IntKind.signed]; omega
theorem xq {u : Nat} (h : u < 10) : fu [wr .u8 (wr .i64 (48 + (u : Int)))] = bs [UInt8.ofNat (48 + u)] := by
 rw [ai (by omega) (by omega), wr8 (by omega) (by omega), show (48 + (u : Int)) = ((48 + u : Nat) : Int) by omega]; rfl
theorem jC : ∀ (d u : Nat), u < 10 ^ (d + 1) → (Go.Lib.decDigits u).length ≤ d + 1
 | 0, u, h => by rw [Go.Lib.decDigits, dif_pos (by omega)]; exact Nat.le_refl _
 | d + 1, u, h => by
  rw [Go.Lib.decDigits]
  split
  · simp
  · have := jC d (u / 10) (by rw [Nat.pow_succ] at h; omega)
    rw [List.length_append]; simp only [List.length_cons, List.length_nil]; omega
theorem eC {n : Int} (h0 : -1000000000 < n) (h1 : n < 1000000000) : (Go.Lib.itoa n).length ≤ 10 := by
 unfold Go.Lib.itoa
 split
 · have := jC 8 n.natAbs (by omega); simp only [List.length_cons]; omega
 · have := jC 8 n.toNat (by omega); omega
theorem zg {u : Nat} (h : ¬ u < 10) : Go.Lib.decDigits u = Go.Lib.decDigits (u / 10) ++ [UInt8.ofNat (48 + u % 10)] := by rw [Go.Lib.decDigits, dif_neg h]
theorem Cg {u : Nat} (h : u < 10) : Go.Lib.decDigits u = [UInt8.ofNat (48 + u)] := by rw [Go.Lib.decDigits, dif_pos h]
theorem xg : ∀ (d u k : Nat), u < 10 ^ (d + 1) → d ≤ 9 → d + 1 ≤ k → f73 k (u : Int) = some ((bs (Go.Lib.decDigits u), ()), ())
 | d, u, k, h, hd, hk => by
  obtain ⟨k, rfl⟩ : ∃ m, k = m + 1 := ⟨k - 1, by omega⟩
  have hb : u < 10 ^ 10 := Nat.lt_of_lt_of_le h (Nat.pow_le_pow_right (by omega) (by omega))
  unfold f73 n7
  rw [ga (show (0 : Int) ≤ (u : Int) by omega), cond_false, cond_false]
  by_cases q : u < 10
  · rw [dlt (show (u : Int) < 10 by omega), cond_true, xq q, Cg q]
  · obtain ⟨d, rfl⟩ : ∃ m, d = m + 1 := ⟨d - 1, by
     rcases d with _ | d
     · omega
     · omega⟩
    rw [ga (show (10 : Int) ≤ (u : Int) by omega), cond_false, show (u : Int).tdiv 10 = ((u / 10 : Nat) : Int) from rfl, ai (x := ((u / 10 : Nat) : Int)) (by omega) (by omega)]
    have h2 : u / 10 < 10 ^ (d + 1) := by rw [Nat.pow_succ] at h; omega
    rw [xg d (u / 10) k h2 (by omega) (by omega)]
    have hl := jC d (u / 10) h2
    simp only [Option.bind_some]
    rw [show (u : Int).tmod 10 = ((u % 10 : Nat) : Int) from rfl, xq (show u % 10 < 10 by omega), bsc (by simp only [List.length_cons, List.length_nil]; omega), cond_false, aW, zg q]
theorem M9 (d u k : Nat) (h : u < 10 ^ (d + 1)) (hu : 1 ≤ u) (hd : d ≤ 9) (hk : d + 2 ≤ k) : f73 k (-(u : Int)) = some ((bs (45 :: Go.Lib.decDigits u), ()), ()) := by
 induction d generalizing u k with
 | zero =>
  obtain ⟨k, rfl⟩ : ∃ m, k = m + 1 := ⟨k - 1, by omega⟩
  have hb : u < 10 := by omega
  unfold f73
  rw [dlt (show -(u : Int) < 0 by omega), decide_eq_true (p := -(u : Int) > -10) (by omega), cond_true, cond_true, ai (by omega) (by omega), show (0 : Int) - -(u : Int) = (u : Int) by omega, xg 0 u k h (by omega) (by omega)]
  have hl := jC 0 u h
  simp only [Option.bind_some]
  rw [bs1, bsc (by simp only [List.length_cons, List.length_nil]; omega), cond_false, aW]
  rfl
 | succ d ih =>
  obtain ⟨k, rfl⟩ : ∃ m, k = m + 1 := ⟨k - 1, by omega⟩
  have hb : u < 10 ^ 10 := Nat.lt_of_lt_of_le h (Nat.pow_le_pow_right (by omega) (by omega))
  by_cases q : u < 10
  · unfold f73
    rw [dlt (show -(u : Int) < 0 by omega), decide_eq_true (p := -(u : Int) > -10) (by omega), cond_true, cond_true, ai (by omega) (by omega), show (0 : Int) - -(u : Int) = (u : Int) by omega, xg 0 u k (by omega) (by omega) (by omega)]
    have hl := jC 0 u (by omega)
    simp only [Option.bind_some]
    rw [bs1, bsc (by simp only [List.length_cons, List.length_nil]; omega), cond_false, aW]
    rfl
  · unfold f73 n7
    have h2 : u / 10 < 10 ^ (d + 1) := by rw [Nat.pow_succ] at h; omega
    have e1 : (-(u : Int)).tdiv 10 = -((u / 10 : Nat) : Int) := by rw [Int.neg_tdiv]; rfl
    have e2 : (-(u : Int)).tmod 10 = -((u % 10 : Nat) : Int) := by rw [Int.neg_tmod]; rfl
    rw [dlt (show -(u : Int) < 0 by omega), decide_eq_false (p := -(u : Int) > -10) (by omega), cond_true, cond_false, cond_true, e1, e2, ai (x := -((u / 10 : Nat) : Int)) (by omega) (by omega), ai (x := 0 - -((u % 10 : Nat) : Int)) (by omega) (by omega), show (0 : Int) - -((u % 10 : Nat) : Int) = ((u % 10 : Nat) : Int) by omega, ih (u / 10) k h2 (by omega) (by omega) (by omega)]
    simp only [Option.bind_some]
    rw [xg 0 (u % 10) k (by omega) (by omega) (by omega)]
    have hl := jC d (u / 10) h2
    have hl2 := jC 0 (u % 10) (by omega)
    simp only [Option.bind_some]
    rw [bsc (by simp only [List.length_cons]; omega), cond_false, aW, zg q, Cg (show u % 10 < 10 by omega)]
    rfl
theorem pZ {n : Int} {k : Nat} (h0 : -1000000000 < n) (h1 : n < 1000000000) (hk : 20 ≤ k) : f73 k n = some ((bs (Go.Lib.itoa n), ()), ()) := by
 unfold Go.Lib.itoa
 by_cases q : n < 0
 · rw [if_pos q]
   have := M9 9 n.natAbs k (by omega) (by omega) (by omega) (by omega)
   rwa [show -(n.natAbs : Int) = n by omega] at this
 · rw [if_neg q]
   have := xg 9 n.toNat k (by omega) (by omega) (by omega)
   rwa [show (n.toNat : Int) = n by omega] at this
theorem BV {n : Int} (k : Nat) (h0 : -1000000000 < n) (h1 : n < 1000000000) : f95 k n = some ((bs (Go.Lib.itoa n), ()), ()) := by
 unfold f95 nh
 rw [if_pos ⟨by omega, by omega⟩]; rfl
theorem itoa_neg {n : Int} (h : n < 0) : Go.Lib.itoa n = 45 :: Go.Lib.itoa (-n) := by
 unfold Go.Lib.itoa
 rw [if_pos h, if_neg (by omega), show (-n).toNat = n.natAbs by omega]
def ls (a b : Int) : List UInt8 := if b = 0 then Go.Lib.itoa a else if a = 0 then Go.Lib.itoa b ++ [114] else if b > 0 then ((Go.Lib.itoa a ++ [43]) ++ Go.Lib.itoa b) ++ [114] else (Go.Lib.itoa a ++ Go.Lib.itoa b) ++ [114]
def jk (a b c : Int) : List UInt8 := if c = 0 then ls a b else (((if a ≠ 0 ∧ b ≠ 0 then ([40] ++ ls a b) ++ [41] else ls a b) ++ [47]) ++ Go.Lib.itoa (cP .i64 1 c))
theorem wo {a b : Int} (ha : -1000000000 < a ∧ a < 1000000000) (hb : -1000000000 < b ∧ b < 1000000000) : (ls a b).length ≤ 30 := by
 have h1 := eC ha.1 ha.2
 have h2 := eC hb.1 hb.2
 unfold ls
 split
 · omega
 · split
   · simp only [List.length_append, List.length_cons, List.length_nil]; omega
   · split <;> (simp only [List.length_append, List.length_cons, List.length_nil]; omega)
theorem Jx : ∀ c : Fin 11, 0 < cP .i64 1 (c.val : Int) ∧ cP .i64 1 (c.val : Int) ≤ 1024 := by decide +kernel
theorem tp {c : Int} (h0 : 0 ≤ c) (h1 : c ≤ 10) : 0 < cP .i64 1 c ∧ cP .i64 1 c ≤ 1024 := by
 have := Jx ⟨c.toNat, by omega⟩
 rwa [show ((c.toNat : Nat) : Int) = c by omega] at this
theorem j4 {a b c : Int} (ha : -1000000000 < a ∧ a < 1000000000) (hb : -1000000000 < b ∧ b < 1000000000) (h0 : 0 ≤ c) (h1 : c ≤ 10) : (jk a b c).length ≤ 100 := by
 have h3 := wo ha hb
 have h4 := tp h0 h1
 have h5 := eC (n := cP .i64 1 c) (by omega) (by omega)
 unfold jk
 split
 · omega
 · split <;> (simp only [List.length_append, List.length_cons, List.length_nil]; omega)
section
variable {kk : Nat} {a b c : Int}
theorem Ml {c : Int} (h0 : 0 ≤ c) (h1 : c ≤ 10) : wr .u64 c = c := by unfold wr; simp [IntKind.wrap, IntKind.bits, IntKind.signed]; omega
theorem vl (hkk : 400 ≤ kk) (h0 : 0 ≤ c) (h1 : c ≤ 10) (l : List UInt8) (hl : l.length ≤ 1000) {ρ : Type} (nx : ((((ByteArray × Unit) × Unit) → Option ρ) × Unit)) : j6 kk (bs l) a b c nx = nx.1 ((bs ((l ++ [47]) ++ Go.Lib.itoa (cP .i64 1 c)), ()), ()) := by
 have h4 := tp h0 h1
 have h5 := eC (n := cP .i64 1 c) (by omega) (by omega)
 unfold j6
 rw [bs1, bsc (by simp only [List.length_cons, List.length_nil]; omega), cond_false, Ml h0 h1, ga h0, cond_false, pZ (by omega) (by omega) (by omega), aW]
 simp only [Option.bind_some]
 rw [bsc (by simp only [List.length_append, List.length_cons, List.length_nil]; omega), cond_false, aW]
theorem KC (hkk : 400 ≤ kk) (h0 : 0 ≤ c) (h1 : c ≤ 10) (ha : -1000000000 < a ∧ a < 1000000000) (hb : -1000000000 < b ∧ b < 1000000000) {ρ : Type} (nx : ((((ByteArray × Unit) × Unit) → Option ρ) × Unit)) : kP kk (bs (ls a b)) a b c nx = nx.1 ((bs (jk a b c), ()), ()) := by
 have h3 := wo ha hb
 unfold kP jk
 by_cases q : c = 0
 · rw [if_pos q, show (c == 0) = true from beq_iff_eq.2 q]; rfl
 · rw [if_neg q, show (c == 0) = false from beq_eq_false_iff_ne.2 q, cond_false]
   by_cases q1 : a = 0
   · rw [if_neg (fun h => h.1 q1), show (a != 0) = false by rw [q1]; rfl, cond_false, vl hkk h0 h1 _ (by omega)]
   · rw [show (a != 0) = true from bne_iff_ne.2 q1, cond_true]
     by_cases q2 : b = 0
     · rw [if_neg (fun h => h.2 q2), show (b != 0) = false by rw [q2]; rfl, cond_false, vl hkk h0 h1 _ (by omega)]
     · rw [if_pos ⟨q1, q2⟩, show (b != 0) = true from bne_iff_ne.2 q2, cond_true, bs1, bs1, bsc (by simp only [List.length_cons, List.length_nil]; omega), cond_false, aW, bsc (by simp only [List.length_append, List.length_cons, List.length_nil]; omega), cond_false, aW, vl hkk h0 h1 _ (by simp only [List.length_append, List.length_cons, List.length_nil]; omega)]
theorem IU (hkk : 400 ≤ kk) (h0 : 0 ≤ c) (h1 : c ≤ 10) (ha : -1000000000 < a ∧ a < 1000000000) (hb : -1000000000 < b ∧ b < 1000000000) : f39 kk a b c = some ((bs (jk a b c), ()), ()) := by
 have i1 := eC ha.1 ha.2
 have i2 := eC hb.1 hb.2
 have t9 := fun (nx : ((((ByteArray × Unit) × Unit) → Option ((ByteArray × Unit) × Unit)) × Unit)) => KC (kk := kk) hkk h0 h1 ha hb nx
 unfold ls at t9
 unfold f39
 by_cases q : b = 0
 · simp only [if_pos q] at t9
   rw [show (b == 0) = true from beq_iff_eq.2 q, cond_true, pZ ha.1 ha.2 (by omega)]
   simp only [Option.bind_some]
   rw [t9]
 · simp only [if_neg q] at t9
   rw [show (b == 0) = false from beq_eq_false_iff_ne.2 q, cond_false]
   by_cases q1 : a = 0
   · simp only [if_pos q1] at t9
     rw [show (a == 0) = true from beq_iff_eq.2 q1, cond_true, pZ hb.1 hb.2 (by omega)]
     simp only [Option.bind_some]
     rw [bs1, bsc (by simp only [List.length_cons, List.length_nil]; omega), cond_false, aW, t9]
   · simp only [if_neg q1] at t9
     rw [show (a == 0) = false from beq_eq_false_iff_ne.2 q1, cond_false]
     by_cases q2 : b > 0
     · simp only [if_pos q2] at t9
       rw [decide_eq_true q2, cond_true, pZ ha.1 ha.2 (by omega)]
       simp only [Option.bind_some]
       rw [bs1, bs1, bsc (by simp only [List.length_cons, List.length_nil]; omega), cond_false, aW, pZ hb.1 hb.2 (by omega)]
       simp only [Option.bind_some]
       rw [bsc (by simp only [List.length_append, List.length_cons, List.length_nil]; omega), cond_false, aW, bsc (by simp only [List.length_append, List.length_cons, List.length_nil]; omega), cond_false, aW, t9]
     · simp only [if_neg q2] at t9
       rw [decide_eq_false q2, cond_false, pZ ha.1 ha.2 (by omega)]
       simp only [Option.bind_some]
       rw [pZ hb.1 hb.2 (by omega)]
       simp only [Option.bind_some]
       rw [bs1, bsc (by omega), cond_false, aW, bsc (by simp only [List.length_append, List.length_cons, List.length_nil]; omega), cond_false, aW, t9]
theorem Jq {x : Int} (h : -1000000000 < x ∧ x < 1000000000) : f96 kk x = some (((if x < 0 then -x else x), ()), ()) := by
 unfold f96
 dsimp only
 rw [ai (by omega) (by omega)]
 by_cases q : x < 0
 · rw [decide_eq_true (p := 0 - x > x) (by omega), if_pos q, cond_true, show 0 - x = -x by omega]
 · rw [decide_eq_false (p := 0 - x > x) (by omega), if_neg q]; rfl
theorem ru (h0 : 0 ≤ c) (h1 : c ≤ 10) (l : List UInt8) (hl : l.length ≤ 1000) {ρ : Type} (nx : ((((ByteArray × Unit) × Unit) → Option ρ) × Unit)) : fF kk (bs l) a b c nx = nx.1 ((bs (if c = 0 then l else (l ++ [47]) ++ Go.Lib.itoa (cP .i64 1 c)), ()), ()) := by
 have h4 := tp h0 h1
 have h5 := eC (n := cP .i64 1 c) (by omega) (by omega)
 unfold fF
 by_cases q : c = 0
 · rw [if_pos q, show (c != 0) = false by rw [q]; rfl]; rfl
 · rw [if_neg q, show (c != 0) = true from bne_iff_ne.2 q, cond_true, ga h0, cond_false, BV kk (by omega) (by omega)]
   simp only [Option.bind_some]
   rw [bs1, bsc (by simp only [List.length_cons, List.length_nil]; omega), cond_false, aW, bsc (by simp only [List.length_append, List.length_cons, List.length_nil]; omega), cond_false, aW, ← List.append_assoc]
theorem Gu (s : UInt8) (x : List UInt8) (hx : x.length ≤ 20) (hb : -1000000000 < b ∧ b < 1000000000) {ρ : Type} (nx : ((((Unit × ByteArray × Unit) × ((Int × Int × Int × Unit) × Unit)) → Option ρ) × Unit)) :
    kh kk (bs x) (bs [s]) a b c nx = nx.1 (((), bs (if c = 0 then x ++ (([s] ++ Go.Lib.itoa (if b < 0 then -b else b)) ++ [114]) else ([40] ++ (x ++ (([s] ++ Go.Lib.itoa (if b < 0 then -b else b)) ++ [114]))) ++ [41]), ()), ((a, b, c, ()), ())) := by
 have hbb : -1000000000 < (if b < 0 then -b else b) ∧ (if b < 0 then -b else b) < 1000000000 := by split <;> omega
 have i2 := eC hbb.1 hbb.2
 unfold kh
 rw [Jq hb]
 simp only [Option.bind_some]
 rw [BV kk hbb.1 hbb.2]
 simp only [Option.bind_some]
 generalize Go.Lib.itoa (if b < 0 then -b else b) = y at *
 rw [bs1, bs1, bs1, bsc (by simp only [List.length_cons, List.length_nil]; omega), cond_false, aW, bsc (by simp only [List.length_append, List.length_cons, List.length_nil]; omega), cond_false, aW, bsc (by simp only [List.length_append, List.length_cons, List.length_nil]; omega), cond_false, aW]
 by_cases q : c = 0
 · rw [if_pos q, show (c != 0) = false by rw [q]; rfl]; rfl
 · rw [if_neg q, show (c != 0) = true from bne_iff_ne.2 q, cond_true, bsc (by simp only [List.length_append, List.length_cons, List.length_nil]; omega), cond_false, aW, bsc (by simp only [List.length_append, List.length_cons, List.length_nil]; omega), cond_false, aW]
theorem IS (h0 : 0 ≤ c) (h1 : c ≤ 10) (ha : -1000000000 < a ∧ a < 1000000000) (hb : -1000000000 < b ∧ b < 1000000000) : f60 kk a b c = some ((bs (jk a b c), ()), ()) := by
 have i1 := eC ha.1 ha.2
 have i2 := eC hb.1 hb.2
 unfold f60 jk ls
 rw [BV kk ha.1 ha.2]
 simp only [Option.bind_some]
 by_cases q : b = 0
 · rw [show (b != 0) = false by rw [q]; rfl, cond_false, cond_false, if_pos q, if_neg (fun h : a ≠ 0 ∧ b ≠ 0 => h.2 q)]
   rw [ru h0 h1 _ (by omega)]
   cases (a == 0) <;> rfl
 · rw [show (b != 0) = true from bne_iff_ne.2 q, cond_true, cond_true, if_neg q]
   by_cases q1 : a = 0
   · rw [show (a == 0) = true from beq_iff_eq.2 q1, cond_true, if_pos q1, if_neg (fun h : a ≠ 0 ∧ b ≠ 0 => h.1 q1), BV kk hb.1 hb.2]
     simp only [Option.bind_some]
     rw [bs1, bsc (by simp only [List.length_cons, List.length_nil]; omega), cond_false, aW, ru h0 h1 _ (by simp only [List.length_append, List.length_cons, List.length_nil]; omega)]
   · rw [show (a == 0) = false from beq_eq_false_iff_ne.2 q1, cond_false, if_neg q1, if_pos (show a ≠ 0 ∧ b ≠ 0 from ⟨q1, q⟩)]
     by_cases q2 : b < 0
     · have ib : (Go.Lib.itoa (-b)).length ≤ 10 := eC (by omega) (by omega)
       rw [dlt q2, cond_true, if_neg (show ¬ b > 0 by omega), show (ByteArray.mk #[45]) = bs [45] from rfl, Gu 45 _ (by omega) hb]
       dsimp only
       rw [if_pos q2, itoa_neg q2, ru h0 h1 _ (by split <;> (simp only [List.length_append, List.length_cons, List.length_nil]; omega))]
       by_cases q3 : c = 0
       · simp [if_pos q3]
       · simp [if_neg q3]
     · rw [ga (by omega), cond_false, if_pos (show b > 0 by omega), show (ByteArray.mk #[43]) = bs [43] from rfl, Gu 43 _ (by omega) hb]
       dsimp only
       rw [if_neg q2, ru h0 h1 _ (by split <;> (simp only [List.length_append, List.length_cons, List.length_nil]; omega))]
       by_cases q3 : c = 0
       · simp [if_pos q3]
       · simp [if_neg q3]
end
end Go.Proofs.YtoclkhdbjbmpfaaGreatDoor.R
namespace Go.Proofs.YtoclkhdbjbmpfaaGreatDoor.R
open Go.Proofs.YtoclkhdbjbmpfaaGreatDoor.R1 Z2
theorem JV {n : Nat} {c : CrG} (h : bY n c = true) : 0 ≤ c.1 ∧ c.1 < c.2.1 ∧ c.2.1 < n ∧ 1 ≤ c.2.2 ∧ c.2.2 ≤ 4 := by
 unfold bY at h
 simp only [Bool.and_eq_true, decide_eq_true_eq] at h
 omega
theorem DC {x : Int} (h1 : -9223372036854775808 ≤ x) (h2 : x ≤ 9223372036854775807) : wr .i64 x = x := by unfold wr; rw [IntKind.wrap_i64]; omega
theorem LJ (k : Nat) (L : List PtG) (C : List CrG) (hL : L.length ≤ maxLen) (hC : C.length ≤ maxLen) :
    ∃ r : Int, f4 k L C 1048576 = some ((r, ()), ()) ∧ (r < 0 ∨ L.length + C.length ≤ 1048576) := by
 have e : maxLen = 9223372036854775807 := rfl
 unfold f4 f9 f10
 dsimp only
 rw [DC (x := (1048576 : Int) - (L.length : Int)) (by omega) (by omega)]
 by_cases q : (1048576 : Int) - (L.length : Int) < 0
 · rw [dlt q]; exact ⟨-1, rfl, .inl (by omega)⟩
 · rw [ga (by omega), cond_false]
   simp only [Option.bind_some]
   rw [ga (by omega), cond_false]
   rw [DC (x := (1048576 : Int) - (L.length : Int) - (C.length : Int)) (by omega) (by omega)]
   by_cases q2 : (1048576 : Int) - (L.length : Int) - (C.length : Int) < 0
   · rw [dlt q2]; exact ⟨-1, rfl, .inl (by omega)⟩
   · rw [ga (by omega), cond_false]
     simp only [Option.bind_some]
     rw [ga (by omega), cond_false]
     exact ⟨_, rfl, .inr (by omega)⟩
theorem xM {α : Type} {a l : List α} (h0 : a.length = l.length) (h : ∀ m, m < l.length → a[m]? = l[m]?) : a = l := List.ext_getElem? fun m => by
 by_cases q : m < l.length
 · exact h m q
 · rw [List.getElem?_eq_none (by omega), List.getElem?_eq_none (by omega)]
theorem wV {α : Type} {a l : List α} {i : Nat} {x : α} (h0 : a.length = l.length) (hi : l[i]? = some x) (h : ∀ m, m < i → a[m]? = l[m]?) (m : Nat) (hm : m < i + 1) : (a.set i x)[m]? = l[m]? := by
 have hl : i < l.length := by
  rcases Nat.lt_or_ge i l.length with q | q
  · exact q
  · rw [List.getElem?_eq_none q] at hi; cases hi
 by_cases e : m = i
 · subst e; rw [List.getElem?_set_self (by omega), hi]
 · rw [List.getElem?_set_ne (fun e' => e e'.symm)]; exact h m (by omega)
theorem qJ (k : Nat) (L : List PtG) (hL : L.length ≤ 1048576) : ∀ (r : List PtG) (i j : Nat) (acc : List PtG) {ρ : Type} (nx : ((((Unit × Unit) × ((List PtG) × Unit)) → Option ρ) × Unit)), L.drop i = r → acc.length = L.length → (∀ m, m < i → acc[m]? = L[m]?) → r.length + 1 ≤ j →
    lW k j L (i : Int) acc nx = nx.1 (((), ()), (L, ()))
 | [], i, j, acc, ρ, nx, h, ha, hm, hj => by
  obtain ⟨j, rfl⟩ : ∃ m, j = m + 1 := ⟨j - 1, by omega⟩
  unfold lW
  rw [aQ h, cond_false, xM ha fun m q => hm m (by have := iJ h; omega)]
 | p :: r, i, j, acc, ρ, nx, h, ha, hm, hj => by
  obtain ⟨j, rfl⟩ : ∃ m, j = m + 1 := ⟨j - 1, by omega⟩
  have hl := aE h
  simp only [List.length_cons] at hj
  have ih := qJ k L hL r (i + 1) j (acc.set i p) nx (an h) (by rw [List.length_set]; exact ha) (wV ha (aP h) hm) (by omega)
  unfold lW f24 f40
  rw [aI h, cond_true, aA h]
  simp only [Option.bind_some]
  rw [bnd (show i < acc.length by omega), cond_true, Int.toNat_natCast, List.getElem?_eq_getElem (show i < acc.length by omega), az (by omega)]
  exact ih
theorem rk (k : Nat) (L : List CrG) (hL : L.length ≤ 1048576) : ∀ (r : List CrG) (i j : Nat) (acc : List CrG) {ρ : Type} (nx : ((((Unit × Unit) × ((List CrG) × Unit)) → Option ρ) × Unit)), L.drop i = r → acc.length = L.length → (∀ m, m < i → acc[m]? = L[m]?) → r.length + 1 ≤ j →
    lV k j L (i : Int) acc nx = nx.1 (((), ()), (L, ()))
 | [], i, j, acc, ρ, nx, h, ha, hm, hj => by
  obtain ⟨j, rfl⟩ : ∃ m, j = m + 1 := ⟨j - 1, by omega⟩
  unfold lV
  rw [aQ h, cond_false, xM ha fun m q => hm m (by have := iJ h; omega)]
 | p :: r, i, j, acc, ρ, nx, h, ha, hm, hj => by
  obtain ⟨j, rfl⟩ : ∃ m, j = m + 1 := ⟨j - 1, by omega⟩
  have hl := aE h
  simp only [List.length_cons] at hj
  have ih := rk k L hL r (i + 1) j (acc.set i p) nx (an h) (by rw [List.length_set]; exact ha) (wV ha (aP h) hm) (by omega)
  unfold lV f25
  rw [aI h, cond_true, aA h]
  simp only [Option.bind_some]
  rw [bnd (show i < acc.length by omega), cond_true, Int.toNat_natCast, List.getElem?_eq_getElem (show i < acc.length by omega), az (by omega)]
  exact ih
theorem K6 {k : Nat} {L : List PtG} {C : List CrG} (h : L.length + C.length ≤ 1048576) (hk : 1048576 + 10 ≤ k) : f6 k L C = some ((((), (), ()), ()), (L, C, ())) := by
 have hr : roomy = 140737488351232 := rfl
 have a1 := qJ k L (by omega) L 0 k (List.replicate L.length ((0, (0, 0)), (0, (0, 0)))) (ρ := (Unit × Unit) × (List PtG) × Unit) (fun x11 => some (((), ()), (x11.2.1, ())), ()) rfl (by simp) (fun m h => absurd h (by omega)) (by omega)
 have a2 := rk k C (by omega) C 0 k (List.replicate C.length (0, (0, 0))) (ρ := (Unit × Unit) × (List CrG) × Unit) (fun x11 => some (((), ()), (x11.2.1, ())), ()) rfl (by simp) (fun m h => absurd h (by omega)) (by omega)
 have e1 : f14 k L = some (((), ()), (L, ())) := by
  unfold f14
  rw [show (decide ((L.length : Int) = (L.length : Int)) && decide (0 ≤ (L.length : Int)) && decide ((L.length : Int) * 48 ≤ roomy)) = true from by rw [Bool.and_eq_true, Bool.and_eq_true, decide_eq_true_eq, decide_eq_true_eq, decide_eq_true_eq]; exact ⟨⟨rfl, by omega⟩, by omega⟩, cond_true]
  exact a1
 have e2 : f15 k C = some (((), ()), (C, ())) := by
  unfold f15
  rw [show (decide ((C.length : Int) = (C.length : Int)) && decide (0 ≤ (C.length : Int)) && decide ((C.length : Int) * 24 ≤ roomy)) = true from by rw [Bool.and_eq_true, Bool.and_eq_true, decide_eq_true_eq, decide_eq_true_eq, decide_eq_true_eq]; exact ⟨⟨rfl, by omega⟩, by omega⟩, cond_true]
  exact a2
 unfold f6
 rw [e1]
 simp only [Option.bind_some]
 rw [e2]
 rfl
theorem pb (a : Int) : (a != a) = false := by simp
theorem qX (k : Nat) (L : List PtG) (hL : L.length ≤ 1048576) : ∀ (r : List PtG) (i j : Nat) {ρ : Type} (nx : (((Unit × Unit) → Option ρ) × (((Bool × Unit) × Unit) → Option ρ) × Unit)), L.drop i = r → r.length + 1 ≤ j →
    mf k j L L (i : Int) nx = nx.1 ((), ())
 | [], i, j, ρ, nx, h, hj => by
  obtain ⟨j, rfl⟩ : ∃ m, j = m + 1 := ⟨j - 1, by omega⟩
  unfold mf
  rw [aQ h, cond_false]
 | p :: r, i, j, ρ, nx, h, hj => by
  obtain ⟨j, rfl⟩ : ∃ m, j = m + 1 := ⟨j - 1, by omega⟩
  have hl := aE h
  simp only [List.length_cons] at hj
  have ih := qX k L hL r (i + 1) j nx (an h) (by omega)
  unfold mf f36 f61
  rw [aI h, cond_true, aA h]
  simp only [Option.bind_some, pb, cond_false, Bool.not_true]
  rw [az (by omega)]
  exact ih
theorem qD (k : Nat) (L : List CrG) (hL : L.length ≤ 1048576) : ∀ (r : List CrG) (i j : Nat) {ρ : Type} (nx : (((Unit × Unit) → Option ρ) × (((Bool × Unit) × Unit) → Option ρ) × Unit)), L.drop i = r → r.length + 1 ≤ j →
    mv k j L L (i : Int) nx = nx.1 ((), ())
 | [], i, j, ρ, nx, h, hj => by
  obtain ⟨j, rfl⟩ : ∃ m, j = m + 1 := ⟨j - 1, by omega⟩
  unfold mv
  rw [aQ h, cond_false]
 | p :: r, i, j, ρ, nx, h, hj => by
  obtain ⟨j, rfl⟩ : ∃ m, j = m + 1 := ⟨j - 1, by omega⟩
  have hl := aE h
  simp only [List.length_cons] at hj
  have ih := qD k L hL r (i + 1) j nx (an h) (by omega)
  unfold mv f37
  rw [aI h, cond_true, aA h]
  simp only [Option.bind_some, pb, cond_false, Bool.not_true]
  rw [az (by omega)]
  exact ih
theorem LS {k : Nat} {L : List PtG} {C : List CrG} (h : L.length + C.length ≤ 1048576) (hk : 1048576 + 10 ≤ k) : f8 k L C L C = some ((true, ()), ()) := by
 have a1 := qX k L (by omega) L 0 k (ρ := (Bool × Unit) × Unit) (fun _ => some ((true, ()), ()), fun x10 => some ((x10.1.1, ()), ()), ()) rfl (by omega)
 have a2 := qD k C (by omega) C 0 k (ρ := (Bool × Unit) × Unit) (fun _ => some ((true, ()), ()), fun x10 => some ((x10.1.1, ()), ()), ()) rfl (by omega)
 have e1 : f20 k L L = some ((true, ()), ()) := by
  unfold f20
  rw [pb, cond_false]; exact a1
 have e2 : f21 k C C = some ((true, ()), ()) := by
  unfold f21
  rw [pb, cond_false]; exact a2
 unfold f8
 rw [e1]
 simp only [Option.bind_some, Bool.not_true, cond_false]
 rw [e2]
 rfl
end Go.Proofs.YtoclkhdbjbmpfaaGreatDoor.R
namespace Go.Proofs.YtoclkhdbjbmpfaaGreatDoor.R
open Go.Proofs.YtoclkhdbjbmpfaaGreatDoor.R1 Z2
def ptL (p : PtG) : List UInt8 := (([40] ++ jk p.1.1 p.1.2.1 p.1.2.2) ++ [44]) ++ jk p.2.1 p.2.2.1 p.2.2.2 ++ [41]
theorem lZ {x : N3} (h : okN x = true) : (-1000000000 < x.1 ∧ x.1 < 1000000000) ∧ (-1000000000 < x.2.1 ∧ x.2.1 < 1000000000) ∧ 0 ≤ x.2.2 ∧ x.2.2 ≤ 10 := by
 unfold okN at h
 simp only [Bool.and_eq_true, decide_eq_true_eq] at h
 omega
theorem sd {p : PtG} (h : okP p = true) : (ptL p).length ≤ 300 := by
 unfold okP at h
 simp only [Bool.and_eq_true] at h
 obtain ⟨a1, a2, a3, a4⟩ := lZ h.1
 obtain ⟨b1, b2, b3, b4⟩ := lZ h.2
 have h1 := j4 a1 a2 a3 a4
 have h2 := j4 b1 b2 b3 b4
 unfold ptL
 simp only [List.length_append, List.length_cons, List.length_nil]; omega
section
variable {kk : Nat} {p : PtG}
theorem ptS (hkk : 400 ≤ kk) (h : okP p = true) : f23 kk p.1.1 p.1.2.1 p.1.2.2 p.2.1 p.2.2.1 p.2.2.2 = some ((bs (ptL p), ()), ()) := by
 unfold okP at h
 simp only [Bool.and_eq_true] at h
 obtain ⟨a1, a2, a3, a4⟩ := lZ h.1
 obtain ⟨b1, b2, b3, b4⟩ := lZ h.2
 have h1 := j4 a1 a2 a3 a4
 have h2 := j4 b1 b2 b3 b4
 unfold f23 ptL
 rw [IU hkk a3 a4 a1 a2, IU hkk b3 b4 b1 b2]
 simp only [Option.bind_some]
 generalize jk p.1.1 p.1.2.1 p.1.2.2 = x at *
 generalize jk p.2.1 p.2.2.1 p.2.2.2 = y at *
 rw [bs1, bs1, bs1, bsc (by simp only [List.length_cons, List.length_nil]; omega), cond_false, aW, bsc (by simp only [List.length_append, List.length_cons, List.length_nil]; omega), cond_false, aW, bsc (by simp only [List.length_append, List.length_cons, List.length_nil]; omega), cond_false, aW, bsc (by simp only [List.length_append, List.length_cons, List.length_nil]; omega), cond_false, aW]
theorem ptI (h : okP p = true) : f35 kk p.1.1 p.1.2.1 p.1.2.2 p.2.1 p.2.2.1 p.2.2.2 = some ((bs (ptL p), ()), ()) := by
 unfold okP at h
 simp only [Bool.and_eq_true] at h
 obtain ⟨a1, a2, a3, a4⟩ := lZ h.1
 obtain ⟨b1, b2, b3, b4⟩ := lZ h.2
 have h1 := j4 a1 a2 a3 a4
 have h2 := j4 b1 b2 b3 b4
 unfold f35 ptL
 rw [IS a3 a4 a1 a2, IS b3 b4 b1 b2]
 simp only [Option.bind_some]
 generalize jk p.1.1 p.1.2.1 p.1.2.2 = x at *
 generalize jk p.2.1 p.2.2.1 p.2.2.2 = y at *
 rw [bs1, bs1, bs1, bsc (by simp only [List.length_cons, List.length_nil]; omega), cond_false, aW, bsc (by simp only [List.length_append, List.length_cons, List.length_nil]; omega), cond_false, aW, bsc (by simp only [List.length_append, List.length_cons, List.length_nil]; omega), cond_false, aW, bsc (by simp only [List.length_append, List.length_cons, List.length_nil]; omega), cond_false, aW]
end
def vj : List (List UInt8) := [[98, 111, 114, 100, 101, 114], [109, 111, 117, 110, 116, 97, 105, 110], [118, 97, 108, 108, 101, 121], [111, 112, 101, 110]]
def crL (L : List PtG) (c : CrG) : List UInt8 := (((ptL (atP L c.1) ++ [32]) ++ ptL (atP L c.2.1)) ++ [32]) ++ vj.getD (c.2.2 - 1).toNat []
theorem xA {n : Int} (h1 : 1 ≤ n) (h4 : n ≤ 4) : ∃ w, vj[(n - 1).toNat]? = some w ∧ w.length ≤ 8 ∧ vj.getD (n - 1).toNat [] = w := by
 have : n = 1 ∨ n = 2 ∨ n = 3 ∨ n = 4 := by omega
 rcases this with rfl | rfl | rfl | rfl <;> exact ⟨_, rfl, by decide, rfl⟩
section
variable {kk : Nat} {L : List PtG} {C : List CrG} {c : CrG}
theorem crS (hkk : 400 ≤ kk) (gp : dM L C) {i : Int} (hc : ak C i = some c) (hm : c ∈ C) : f13 kk (L, C) i = some ((bs (crL L c), ()), ()) := by
 obtain ⟨r1, r2, r3, r4, r5⟩ := JV (gp.rng c hm)
 obtain ⟨e1, m1⟩ := fg (L := L) (w := c.1) (by omega) (by omega)
 obtain ⟨e2, m2⟩ := fg (L := L) (w := c.2.1) (by omega) (by omega)
 have l1 := sd (gp.pts _ m1)
 have l2 := sd (gp.pts _ m2)
 obtain ⟨w, w1, w2, w3⟩ := xA r4 r5
 unfold f13 crL
 rw [hc]
 simp only [Option.bind_some]
 rw [e1]
 simp only [Option.bind_some]
 rw [ptS hkk (gp.pts _ m1)]
 simp only [Option.bind_some]
 rw [bs1, bsc (by simp only [List.length_cons, List.length_nil]; omega), cond_false, e2]
 simp only [Option.bind_some]
 rw [ptS hkk (gp.pts _ m2)]
 simp only [Option.bind_some]
 rw [aW, bsc (by simp only [List.length_append, List.length_cons, List.length_nil]; omega), cond_false, aW, bsc (by simp only [List.length_append, List.length_cons, List.length_nil]; omega), cond_false, aW]
 have hw : [ByteArray.empty, (ByteArray.mk #[98, 111, 114, 100, 101, 114]), (ByteArray.mk #[109, 111, 117, 110, 116, 97, 105, 110]), (ByteArray.mk #[118, 97, 108, 108, 101, 121]), (ByteArray.mk #[111, 112, 101, 110])][c.2.2.toNat]? = some (bs w) := by
  have : c.2.2 = 1 ∨ c.2.2 = 2 ∨ c.2.2 = 3 ∨ c.2.2 = 4 := by omega
  rcases this with e | e | e | e <;> (rw [e] at w1 ⊢; have := Option.some.inj w1; subst this; rfl)
 have hb : (decide (0 ≤ c.2.2) && decide (c.2.2 < ([ByteArray.empty, (ByteArray.mk #[98, 111, 114, 100, 101, 114]), (ByteArray.mk #[109, 111, 117, 110, 116, 97, 105, 110]), (ByteArray.mk #[118, 97, 108, 108, 101, 121]), (ByteArray.mk #[111, 112, 101, 110])].length : Int))) = true := p5 (n := 5) (by omega) (by omega)
 rw [hb, cond_true, hw]
 simp only [Option.bind_some]
 rw [bsc (by simp only [List.length_append, List.length_cons, List.length_nil]; omega), cond_false, aW, w3]
theorem crI (gp : dM L C) (hm : c ∈ C) : f19 kk L C c.1 c.2.1 c.2.2 = some ((bs (crL L c), ()), ()) := by
 obtain ⟨r1, r2, r3, r4, r5⟩ := JV (gp.rng c hm)
 obtain ⟨e1, m1⟩ := fg (L := L) (w := c.1) (by omega) (by omega)
 obtain ⟨e2, m2⟩ := fg (L := L) (w := c.2.1) (by omega) (by omega)
 have l1 := sd (gp.pts _ m1)
 have l2 := sd (gp.pts _ m2)
 obtain ⟨w, w1, w2, w3⟩ := xA r4 r5
 unfold f19 crL f31 f32
 have hw : [(ByteArray.mk #[98, 111, 114, 100, 101, 114]), (ByteArray.mk #[109, 111, 117, 110, 116, 97, 105, 110]), (ByteArray.mk #[118, 97, 108, 108, 101, 121]), (ByteArray.mk #[111, 112, 101, 110])][(c.2.2 - 1).toNat]? = some (bs w) := by
  have : c.2.2 = 1 ∨ c.2.2 = 2 ∨ c.2.2 = 3 ∨ c.2.2 = 4 := by omega
  rcases this with e | e | e | e <;> (rw [e] at w1 ⊢; have := Option.some.inj w1; subst this; rfl)
 have hb : (decide (0 ≤ c.2.2 - 1) && decide (c.2.2 - 1 < ([(ByteArray.mk #[98, 111, 114, 100, 101, 114]), (ByteArray.mk #[109, 111, 117, 110, 116, 97, 105, 110]), (ByteArray.mk #[118, 97, 108, 108, 101, 121]), (ByteArray.mk #[111, 112, 101, 110])].length : Int))) = true := p5 (n := 4) (by omega) (by omega)
 rw [ai (by omega) (by omega), hb, cond_true, hw, e1, e2]
 simp only [Option.bind_some]
 rw [ptI (gp.pts _ m1), ptI (gp.pts _ m2)]
 simp only [Option.bind_some]
 rw [bs1, bsc (by simp only [List.length_cons, List.length_nil]; omega), cond_false, aW, bsc (by simp only [List.length_append, List.length_cons, List.length_nil]; omega), cond_false, aW, bsc (by simp only [List.length_append, List.length_cons, List.length_nil]; omega), cond_false, aW, bsc (by simp only [List.length_append, List.length_cons, List.length_nil]; omega), cond_false, aW, w3]
end
theorem H6 {kk : Nat} (hkk : 1048576 + 500 ≤ kk) (L : List PtG) (C : List CrG) (i : Int) (h : L.length + C.length ≤ 1048576) : ∃ t, f5 kk L C i = some ((t, ()), ()) ∧ f7 kk L C i = some ((t, ()), ()) := by
 unfold f5 f7 f11 f22
 rcases DU (kk := kk) (by omega) L C (by omega) (by omega) (by omega) (by omega) with ⟨e1, a, b, e2⟩ | ⟨R, v, e1, e2⟩
 · rw [e1, e2]; exact ⟨_, rfl, rfl⟩
 · rw [e1, e2]
   simp only [Option.bind_some, Bool.not_true, cond_false]
   unfold f12 f17 f18
   simp only [Option.bind_some]
   rw [ai (by omega) (by omega)]
   by_cases q : i ≥ 0
   · rw [decide_eq_true q, cond_true]
     simp only [Option.bind_some]
     by_cases q2 : i ≤ (C.length : Int) - 1
     · obtain ⟨c, c1, c2⟩ := hP (l := C) (i := i) q (by omega)
       have hm : c ∈ C := List.mem_of_getElem? c2
       rw [decide_eq_true q2, Bool.not_true, cond_false, crS (by omega) v.g c1 hm, c1]
       simp only [Option.bind_some, cond_false]
       rw [crI v.g hm]
       exact ⟨_, rfl, rfl⟩
     · rw [decide_eq_false q2]; exact ⟨_, rfl, rfl⟩
   · rw [decide_eq_false q]; exact ⟨_, rfl, rfl⟩
theorem AJ (x0 : (List PtG) × (List CrG)) (o0 : Ok (.pair (.sl (.pair (.pair (.int .i64) (.pair (.int .i64) (.int .i64))) (.pair (.int .i64) (.pair (.int .i64) (.int .i64))))) (.sl (.pair (.int .i64) (.pair (.int .i64) (.int .i64))))) x0) (x1 : Int) : f3 (1048576 + 500) x0.1 x0.2 x1 = some ((true, ()), ()) := by
 obtain ⟨r, s1, s2⟩ := LJ (1048576 + 500) x0.1 x0.2 o0.1.1 o0.2.1
 unfold f3
 rw [s1]
 simp only [Option.bind_some]
 by_cases q : r < 0
 · rw [decide_eq_true q]; rfl
 · have h := s2.resolve_left q
   rw [decide_eq_false q, cond_false, K6 h (by omega)]
   simp only [Option.bind_some]
   obtain ⟨t, t1, t2⟩ := H6 (kk := 1048576 + 500) (Nat.le_refl _) x0.1 x0.2 x1 h
   rw [t1]
   simp only [Option.bind_some]
   rw [t2]
   simp only [Option.bind_some, beq_self_eq_true, Bool.not_true, cond_false]
   rw [LS h (by omega)]
   rfl
end Go.Proofs.YtoclkhdbjbmpfaaGreatDoor.R
namespace Go.Proofs.YtoclkhdbjbmpfaaGreatDoor.R
open Go.Proofs.YtoclkhdbjbmpfaaGreatDoor.R1
theorem mB : ma := fun x0 o0 x1 _ => ⟨1048576 + 500, AJ x0 o0 x1⟩
end Go.Proofs.YtoclkhdbjbmpfaaGreatDoor.R
namespace Go.Proofs.YtoclkhdbjbmpfaaGreatDoor.fnExactCreaseText
open Go.ChangeShapes Go.WideShapes Go.ChangeAt Go.RowKit Go.Deep Go.Proofs.YtoclkhdbjbmpfaaGreatDoor.R1 Go.Proofs.YtoclkhdbjbmpfaaGreatDoor.R
open Go.ChangeMaps (open_string shut_string)
set_option linter.unusedVariables false
theorem sU : Opn Tryz.prog 2 (.int .i64) := HV Tryz.underlying2
theorem Gb : Opn Tryz.prog 57 (.pair (.int .i64) (.pair (.int .i64) (.int .i64))) := by
 intro H enc w base spare held fuel cs x h
 obtain ⟨xs, n, _, _, hlen, hxl, hf⟩ := DataW.trod_struct Tryz.underlying57 h
 have hcz : Tryz.prog.cellsOf 57 = 3 := by kernel_rfl
 rw [hcz] at hlen
 obtain ⟨c0, cs0, rfl, l0⟩ := cI (n := 2) hlen
 obtain ⟨c1, cs1, rfl, l1⟩ := cI (n := 1) l0
 obtain ⟨c2, cs2, rfl, l2⟩ := cI (n := 0) l1
 obtain rfl := List.eq_nil_of_length_eq_zero l2
 have e0 : DataW.trod enc Tryz.prog w base spare held n 2 (([c0, c1, c2].drop 0).take (Tryz.prog.cellsOf 2)) = some _ := (hf 0 _ rfl).trans (List.getElem?_eq_getElem (by rw [hxl]; decide))
 rw [show Tryz.prog.cellsOf 2 = 1 from by kernel_rfl] at e0
 obtain ⟨a0, h0, o0⟩ := sU enc w base spare held n [c0] _ e0
 have e1 : DataW.trod enc Tryz.prog w base spare held n 2 (([c0, c1, c2].drop 1).take (Tryz.prog.cellsOf 2)) = some _ := (hf 1 _ rfl).trans (List.getElem?_eq_getElem (by rw [hxl]; decide))
 rw [show Tryz.prog.cellsOf 2 = 1 from by kernel_rfl] at e1
 obtain ⟨a1, h1, o1⟩ := sU enc w base spare held n [c1] _ e1
 have e2 : DataW.trod enc Tryz.prog w base spare held n 2 (([c0, c1, c2].drop 2).take (Tryz.prog.cellsOf 2)) = some _ := (hf 2 _ rfl).trans (List.getElem?_eq_getElem (by rw [hxl]; decide))
 rw [show Tryz.prog.cellsOf 2 = 1 from by kernel_rfl] at e2
 obtain ⟨a2, h2, o2⟩ := sU enc w base spare held n [c2] _ e2
 exact ⟨(a0, (a1, a2)), ⟨[c0], [c1, c2], rfl, h0, ⟨[c1], [c2], rfl, h1, h2⟩⟩, ⟨o0, ⟨o1, o2⟩⟩⟩
theorem LF : Opn Tryz.prog 59 (.pair (.pair (.int .i64) (.pair (.int .i64) (.int .i64))) (.pair (.int .i64) (.pair (.int .i64) (.int .i64)))) := by
 intro H enc w base spare held fuel cs x h
 obtain ⟨xs, n, _, _, hlen, hxl, hf⟩ := DataW.trod_struct Tryz.underlying59 h
 have hcz : Tryz.prog.cellsOf 59 = 6 := by kernel_rfl
 rw [hcz] at hlen
 obtain ⟨c0, cs0, rfl, l0⟩ := cI (n := 5) hlen
 obtain ⟨c1, cs1, rfl, l1⟩ := cI (n := 4) l0
 obtain ⟨c2, cs2, rfl, l2⟩ := cI (n := 3) l1
 obtain ⟨c3, cs3, rfl, l3⟩ := cI (n := 2) l2
 obtain ⟨c4, cs4, rfl, l4⟩ := cI (n := 1) l3
 obtain ⟨c5, cs5, rfl, l5⟩ := cI (n := 0) l4
 obtain rfl := List.eq_nil_of_length_eq_zero l5
 have e0 : DataW.trod enc Tryz.prog w base spare held n 57 (([c0, c1, c2, c3, c4, c5].drop 0).take (Tryz.prog.cellsOf 57)) = some _ := (hf 0 _ rfl).trans (List.getElem?_eq_getElem (by rw [hxl]; decide))
 rw [show Tryz.prog.cellsOf 57 = 3 from by kernel_rfl] at e0
 obtain ⟨a0, h0, o0⟩ := Gb enc w base spare held n [c0, c1, c2] _ e0
 have e1 : DataW.trod enc Tryz.prog w base spare held n 57 (([c0, c1, c2, c3, c4, c5].drop 3).take (Tryz.prog.cellsOf 57)) = some _ := (hf 1 _ rfl).trans (List.getElem?_eq_getElem (by rw [hxl]; decide))
 rw [show Tryz.prog.cellsOf 57 = 3 from by kernel_rfl] at e1
 obtain ⟨a1, h1, o1⟩ := Gb enc w base spare held n [c3, c4, c5] _ e1
 exact ⟨(a0, a1), ⟨[c0, c1, c2], [c3, c4, c5], rfl, h0, h1⟩, ⟨o0, o1⟩⟩
theorem KZ : Opn Tryz.prog 22 (.sl (.pair (.pair (.int .i64) (.pair (.int .i64) (.int .i64))) (.pair (.int .i64) (.pair (.int .i64) (.int .i64))))) := tH Tryz.underlying22 LF (by kernel_rfl)
theorem Lx : Opn Tryz.prog 61 (.pair (.int .i64) (.pair (.int .i64) (.int .i64))) := by
 intro H enc w base spare held fuel cs x h
 obtain ⟨xs, n, _, _, hlen, hxl, hf⟩ := DataW.trod_struct Tryz.underlying61 h
 have hcz : Tryz.prog.cellsOf 61 = 3 := by kernel_rfl
 rw [hcz] at hlen
 obtain ⟨c0, cs0, rfl, l0⟩ := cI (n := 2) hlen
 obtain ⟨c1, cs1, rfl, l1⟩ := cI (n := 1) l0
 obtain ⟨c2, cs2, rfl, l2⟩ := cI (n := 0) l1
 obtain rfl := List.eq_nil_of_length_eq_zero l2
 have e0 : DataW.trod enc Tryz.prog w base spare held n 2 (([c0, c1, c2].drop 0).take (Tryz.prog.cellsOf 2)) = some _ := (hf 0 _ rfl).trans (List.getElem?_eq_getElem (by rw [hxl]; decide))
 rw [show Tryz.prog.cellsOf 2 = 1 from by kernel_rfl] at e0
 obtain ⟨a0, h0, o0⟩ := sU enc w base spare held n [c0] _ e0
 have e1 : DataW.trod enc Tryz.prog w base spare held n 2 (([c0, c1, c2].drop 1).take (Tryz.prog.cellsOf 2)) = some _ := (hf 1 _ rfl).trans (List.getElem?_eq_getElem (by rw [hxl]; decide))
 rw [show Tryz.prog.cellsOf 2 = 1 from by kernel_rfl] at e1
 obtain ⟨a1, h1, o1⟩ := sU enc w base spare held n [c1] _ e1
 have e2 : DataW.trod enc Tryz.prog w base spare held n 2 (([c0, c1, c2].drop 2).take (Tryz.prog.cellsOf 2)) = some _ := (hf 2 _ rfl).trans (List.getElem?_eq_getElem (by rw [hxl]; decide))
 rw [show Tryz.prog.cellsOf 2 = 1 from by kernel_rfl] at e2
 obtain ⟨a2, h2, o2⟩ := sU enc w base spare held n [c2] _ e2
 exact ⟨(a0, (a1, a2)), ⟨[c0], [c1, c2], rfl, h0, ⟨[c1], [c2], rfl, h1, h2⟩⟩, ⟨o0, ⟨o1, o2⟩⟩⟩
theorem KQ : Opn Tryz.prog 23 (.sl (.pair (.int .i64) (.pair (.int .i64) (.int .i64)))) := tH Tryz.underlying23 Lx (by kernel_rfl)
theorem LB : Opn Tryz.prog 25 (.pair (.sl (.pair (.pair (.int .i64) (.pair (.int .i64) (.int .i64))) (.pair (.int .i64) (.pair (.int .i64) (.int .i64))))) (.sl (.pair (.int .i64) (.pair (.int .i64) (.int .i64))))) := by
 intro H enc w base spare held fuel cs x h
 obtain ⟨xs, n, _, _, hlen, hxl, hf⟩ := DataW.trod_struct Tryz.underlying25 h
 have hcz : Tryz.prog.cellsOf 25 = 2 := by kernel_rfl
 rw [hcz] at hlen
 obtain ⟨c0, cs0, rfl, l0⟩ := cI (n := 1) hlen
 obtain ⟨c1, cs1, rfl, l1⟩ := cI (n := 0) l0
 obtain rfl := List.eq_nil_of_length_eq_zero l1
 have e0 : DataW.trod enc Tryz.prog w base spare held n 22 (([c0, c1].drop 0).take (Tryz.prog.cellsOf 22)) = some _ := (hf 0 _ rfl).trans (List.getElem?_eq_getElem (by rw [hxl]; decide))
 rw [show Tryz.prog.cellsOf 22 = 1 from by kernel_rfl] at e0
 obtain ⟨a0, h0, o0⟩ := KZ enc w base spare held n [c0] _ e0
 have e1 : DataW.trod enc Tryz.prog w base spare held n 23 (([c0, c1].drop 1).take (Tryz.prog.cellsOf 23)) = some _ := (hf 1 _ rfl).trans (List.getElem?_eq_getElem (by rw [hxl]; decide))
 rw [show Tryz.prog.cellsOf 23 = 1 from by kernel_rfl] at e1
 obtain ⟨a1, h1, o1⟩ := KQ enc w base spare held n [c1] _ e1
 exact ⟨(a0, a1), ⟨[c0], [c1], rfl, h0, h1⟩, ⟨o0, o1⟩⟩
theorem own : ownKnob Tryz.prog.godebug = none := by kernel_rfl
theorem laidOut : laidOutB Tryz.prog = true := by kernel_rfl
set_option maxRecDepth 100000 in
theorem lifted (os : Os) (started : os.Started) (H : Type) (enc : TypeId × Value → H) :
    ReturnsInHanded {} Tryz.checked os 3 .any (fun w args => (Rows.fnExactCreaseTextSpec.pre enc Tryz.prog Tryz.f3 Rows.fnExactCreaseTextRow.domain false w args ∧ laidMetH Tryz.prog Rows.fnExactCreaseTextRow.laid w) ∧ sizedMet enc Tryz.prog Tryz.f3 (OpenSpec.ofChange Rows.fnExactCreaseTextSpec) false w args) (Rows.fnExactCreaseTextSpec.post enc Tryz.prog Tryz.f3 false true false false) := by
 refine returnsInHanded_of_change_and (C := Tryz.checked) (X := (fun w _ => laidMetH Tryz.prog Rows.fnExactCreaseTextRow.laid w)) (fun _ _ _ hh h => h.of_heap hh) own started (by kernel_rfl) Tryz.func3
  (ChangeSpec.witness_shaped (enc := enc) (C := Tryz.checked) (os := os) (X := (fun w _ => laidMetH Tryz.prog Rows.fnExactCreaseTextRow.laid w)) false (World.laidAll Tryz.prog os Rows.fnExactCreaseTextRow.laid) #[(.agg #[(.slice none 0 0), (.slice none 0 0)]), .int .i64 0] 8 (World.laidAll_os _ _ _)
   (World.shaped_of_ZipB (by kernel_rfl) (by kernel_rfl)) (by kernel_rfl) (by kernel_rfl) (by kernel_rfl)
   (by rw [MakeChecks.laidMetH_plain _ _ _ (by kernel_rfl)]; exact laidMet_laidAll _ (by kernel_rfl) (by kernel_rfl))) ?_
 intro W base args ds gs before hval0 hW hcnd hsz0 hX0 _
 have hval : ∀ (j : Nat) t v, Tryz.f3.params[j]? = some t → args[j]? = some v → Value.okWide Tryz.prog W .any base t v := hval0
 have hW' := hW
 obtain ⟨p, q, hA0, hV, rfl, hfz, hnd⟩ := hW
 have hA : DataW.TrodAll enc Tryz.prog W 0 (fun _ => true) true Tryz.f3.params.toList args.toList ds p := hA0
 rw [Tryz.params3] at hA hval
 obtain ⟨v0, vs0, d0, ds0, p0, q0, hargs, rfl, rfl, h0, r0⟩ := trodAll_cons hA
 obtain ⟨v1, vs1, d1, ds1, p1, q1, rfl, rfl, rfl, h1, r1⟩ := trodAll_cons r0
 obtain ⟨rfl, rfl, rfl⟩ := trodAll_nil r1
 obtain rfl : args = #[v0, v1] := by cases args; simp_all
 obtain ⟨g0, gs0, qq0, rfl, hv0⟩ := uT hV
 obtain ⟨rfl, _⟩ := trodVars_none hv0
 have hX1 : laidMet Tryz.prog Rows.fnExactCreaseTextRow.laid W := by
  have hX : laidMetH Tryz.prog Rows.fnExactCreaseTextRow.laid W := hX0
  rwa [MakeChecks.laidMetH_plain _ _ _ (by kernel_rfl)] at hX
 have hpow : BF W := Go.Lib.tabIs_of_head (g := 1) (t := 195) (e := 176) (n := 20) (by kernel_rfl) (by kernel_rfl) (by kernel_rfl) (by kernel_rfl) (by kernel_rfl) (by kernel_rfl) (laidMet.tail (laidMet.tail hX1))
 have hgl : kg W gl := ⟨⟨by kernel_rfl, by decide, HT (k := 8) (n := 8) (t := 129) (Go.Lib.laidMet.reads (n := "loop.example/g00857/impl.vectors") (d := Rows.laid_loop_example_g00857_impl_vectors) hX1 (List.Mem.tail _ (List.Mem.tail _ (List.Mem.tail _ (List.Mem.head _))))) (by kernel_rfl) (by kernel_rfl) (by kernel_rfl)⟩, ⟨⟨by kernel_rfl, IY (P := Tryz.prog) (by kernel_rfl) hpow rfl⟩, trivial⟩⟩
 have k0 := h0
 have lt0 : ∀ x ∈ p0, x.block < W.heap.size := by obtain ⟨m, hm⟩ := k0; exact DataW.trod_lt m _ _ _ hm
 obtain ⟨fuel0, hf0⟩ := h0
 obtain ⟨x0, K0, o0⟩ := LB enc W 0 _ _ _ _ _ hf0
 obtain ⟨cs0, rfl, _⟩ := okWide_struct Tryz.underlying25 (hval 0 25 v0 rfl rfl)
 obtain ⟨x1, rfl, rfl, rfl, o1⟩ := open_int Tryz.underlying2 (hval 1 2 v1 rfl rfl) h1
 clear hA0 hval0 hsz0
 obtain ⟨k, h⟩ := mB x0 o0 x1 o1
 refine (Ax (gl := gl) sf3 (k := k) (v := (((x0.1, x0.2, ()), x1, ()), ())) h W hgl #[.agg cs0, .int .i64 x1] rfl (fun φ => (ug (⟨cs0, rfl, cM K0⟩) (ug (rfl) (fun j => trivial)))) rfl).mono fun e W' hp => ?_
 obtain ⟨he, bel⟩ := hp
 subst he
 exact ⟨_, rfl, _, _, _, [], _, _, hW', trodAll_mk1 (shut_bool Tryz.underlying4 _), (trodAll_cons_mk (Below.trod laidOut (by kernel_rfl) (of_decide_eq_true (by kernel_rfl)) k0 bel lt0) (trodAll_cons_mk (shut_int Tryz.underlying2 o1) trodAll_mk0)), mz laidOut bel (by kernel_rfl) hV, bel.frame _, fun h => by cases h⟩
theorem over : Rows.fnExactCreaseTextRow.holds Tryz.pinned (OpenSpec.ofChange Rows.fnExactCreaseTextSpec) :=
 OpenClaim.holds_of_wide 3 Tryz.f3 rfl rfl rfl rfl rfl rfl rfl ⟨rfl, rfl, rfl, rfl, rfl⟩ rfl rfl rfl rfl rfl (by kernel_rfl) Tryz.func3 (by kernel_rfl)
  (of_decide_eq_true (by kernel_rfl)) (by unfold Func.isWrapper; first | (rw [if_pos (by decide +kernel)]; kernel_rfl) | (rw [if_neg (by decide +kernel)]; exact ⟨rfl, rfl⟩))
  (fun os started H enc _ => lifted os started H enc)
theorem proved : Rows.FnExactCreaseTextCardSaid :=
 Claim7.holds_tied_plain_at .later [] [.data, .data, .data, .data] true (true, "11ffbb3d1b291cb4342e4055be2d895d2656498ae07ce818d8c9d4fb2f2a3b9d") false over (fun _ h => by cases h) (by kernel_rfl) (fun _ h => by cases h) fnExactCreaseText_row_tie rfl ⟨rfl, rfl⟩ (by kernel_rfl) rfl
  (fun f fn hf hfn => by
   obtain rfl : f = 3 := Option.some.inj ((show Tryz.prog.funcNamed "loop.example/g00857/laws.FnExactCreaseText" = some 3 by kernel_rfl).symm.trans hf) |>.symm
   obtain rfl : fn = Tryz.f3 := (Option.some.inj (Tryz.func3.symm.trans hfn)).symm
   exact ⟨by kernel_rfl, fun j t ht => by
    have hj : j < Tryz.f3.params.size := (Array.getElem?_eq_some_iff.1 ht).1
    have key : ∀ i : Fin Tryz.f3.params.size, Tryz.prog.wantsStandIn (Tryz.f3.params[i.val]'i.isLt) = false := by decide +kernel
    have h2 := key ⟨j, hj⟩
    rw [(Array.getElem?_eq_some_iff.1 ht).2] at h2
    exact h2⟩)
  (by kernel_rfl)
#print axioms proved
end Go.Proofs.YtoclkhdbjbmpfaaGreatDoor.fnExactCreaseText
namespace Go.Proofs.YtoclkhdbjbmpfaaGreatDoor
theorem fnExactCreaseText_holds : Rows.FnExactCreaseTextCardSaid := fnExactCreaseText.proved
end Go.Proofs.YtoclkhdbjbmpfaaGreatDoor
