/- FeatureLogs: for every input whatever the law returns true, and each argument reads behind the call as it read before. Conditions: those of the row: the listed variable earshot/api.Cosines reads as laid, which the card ties to the program's text. By a program of this session's own (wip/print/gen_row.py), after the kit's print. -/
import Derived.Test.YtdlbmbijobcljaaDoorMA
import Derived.Test.YtdlbmbijobcljaaDoorLbFeatureLogs
import Derived.Test.YtdlbmbijobcljaaDoorMB
import Derived.Test.YtdlbmbijobcljaaDoorLaFeatureLogs
import Derived.Test.YtdlbmbijobcljaaDoorMK
import Derived.Test.YtdlbmbijobcljaaDoorRows
import Derived.Test.YtdlbmbijobcljaaDoorCards
import Derived.Test.YtdlbmbijobcljaaDoorMJ
import Derived.Test.YtdlbmbijobcljaaDoorHJoinedE
import Derived.Test.YtdlbmbijobcljaaDoorTie
import Derived.LaidMore
import Derived.Stop.Joined
import Derived.SevenTiedAt
import Derived.WalkKit
import Derived.ProofKit
import Derived.OpenShut
import Derived.ShutString
import Derived.ChangeOld
import Derived.Below
import Derived.SizedLaws
namespace Go.Proofs.YtdlbmbijobcljaaDoor.X
open Go.RowKit Go.Proofs.YtdlbmbijobcljaaDoorW.PrintWords Go.Proofs.YtdlbmbijobcljaaDoorW.PrintLast Go.Proofs.YtdlbmbijobcljaaDoorW.PrintMore
attribute [local go_sem] max2_int min2_int max_two min_two max_three min_three max_four min_four   -- for this text's walks alone
set_option linter.unusedVariables false
set_option linter.unusedSimpArgs false
/-! ### earshotref02_Round: function 83 -/
def earshotref02_Round.f : Nat → Int → Int → Option (Int)
 | 0, _, _ => none
 | k + 1, a0, a1 => if a0 < 0 then ((earshotref02_Round.f k (wrap64 (-a0)) a1).bind fun t101 => (some (wrap64 (-t101)))) else (if (wrap64 (2 * a1)) = 0 then (none) else (some (wrap64 (Int.tdiv (wrap64 ((wrap64 (2 * a0)) + a1)) (wrap64 (2 * a1))))))
theorem earshotref02_Round.mono_l : ∀ k, (∀ y0 y1, LeO (earshotref02_Round.f k y0 y1) (earshotref02_Round.f (k + 1) y0 y1))
 | 0 => fun _ _ r h => by simp [earshotref02_Round.f] at h
 | k + 1 => by
  have ih0 := earshotref02_Round.mono_l k
  ·intro y0 y1
   unfold earshotref02_Round.f
   repeat' first
   | (with_reducible exact ih0 _ _)
   | (with_reducible exact LeO.refl _)
   | (with_reducible exact LeO.none _)
   | (with_reducible refine LeO.ite ?_ ?_)
   | (with_reducible refine LeO.bind ?_ (fun _ => ?_))
   | exact ih0 _ _
   | exact LeO.none _
   | refine LeO.ite ?_ ?_
   | refine LeO.bind ?_ (fun _ => ?_)
theorem earshotref02_Round.mono : ∀ a0 a1 k, LeO (earshotref02_Round.f k a0 a1) (earshotref02_Round.f (k + 1) a0 a1) := by
 intro a0 a1 k
 have ih0 := earshotref02_Round.mono_l k
 exact ih0 a0 a1
set_option maxHeartbeats 8000000 in
set_option maxRecDepth 100000 in
theorem earshotref02_Round.calls (k : Nat) : ∀ (a0 : Int) (a1 : Int) (r : Int) (w : World) (h : earshotref02_Round.f k a0 a1 = some r),
  Calls Tryd.prog 83 #[.int .i64 a0, .int .i64 a1] w fun e w' => e = .returned (.int .i64 r) ∧ Drawn0 w w' := by
 induction k using Nat.strongRecOn with
 | _ k ih =>
 intro a0 a1 r w h
 cases k with
 | zero => exact absurd h (by simp [earshotref02_Round.f])
 | succ k =>
 simp only [earshotref02_Round.f] at h
 have H : (if a0 < 0 then ((earshotref02_Round.f k (wrap64 (-a0)) a1).bind fun t101 => (some (wrap64 (-t101)))) else (if (wrap64 (2 * a1)) = 0 then (none) else (some (wrap64 (Int.tdiv (wrap64 ((wrap64 (2 * a0)) + a1)) (wrap64 (2 * a1))))))) = some r := h
 clear h
 by_cases c3 : a0 < 0
 ·rw [if_pos c3] at H
  have c3b0 := decide_eq_true c3
  clear c3
  replace H := Option.bind_eq_some_iff.mp H
  obtain ⟨t101, A40, H⟩ := H
  try dsimp only at H
  have A4 := Aside0.mk A40
  clear A40
  obtain rfl := Option.some.inj H
  go_enter Tryd.func83, Tryd.ntmps83
  go_wp2_with (first | ((with_reducible refine gate_callee (f := 83) rfl ?_); refine goesL_ (some 10) rfl rfl Tryd.func83 (by kernel_rfl) rfl #[.int .i64 (wrap64 (-a0)), .int .i64 a1] rfl tL ?_; (with_reducible refine (ih k (by omega) (wrap64 (-a0)) a1 t101 _ A4.out).mono ?_); rintro e w' ⟨rfl, ⟨nd, rfl⟩⟩; refine ⟨_, rfl, ?_⟩))
  go_ret
  exact ⟨by first | rfl | (simp; done) | (simp [*]; done), by repeat (first | exact Drawn0.refl _ | apply Drawn0.step)⟩
 ·rw [if_neg c3] at H
  have c3b0 := decide_eq_false c3
  clear c3
  by_cases c5 : (wrap64 (2 * a1)) = 0
  ·rw [if_pos c5] at H
   exact absurd H (by simp)
  ·rw [if_neg c5] at H
   have c5b0 : ((wrap64 (2 * a1)) == 0) = false := beq_eq_false_iff_ne.mpr c5
   have c5b1 : ((wrap64 (2 * a1)) != 0) = true := bne_iff_ne.mpr c5
   obtain rfl := Option.some.inj H
   go_enter Tryd.func83, Tryd.ntmps83
   go_wp2
   go_ret
   exact ⟨by first | rfl | (simp; done) | (simp [*]; done), by repeat (first | exact Drawn0.refl _ | apply Drawn0.step)⟩

end Go.Proofs.YtdlbmbijobcljaaDoor.X

namespace Go.Proofs.YtdlbmbijobcljaaDoor.Pure
open Go.RowKit Go.Proofs.YtdlbmbijobcljaaDoor.X Go.Proofs.YtdlbmbijobcljaaDoorW.PrintWords Go.Proofs.YtdlbmbijobcljaaDoorW.PrintLast
set_option linter.unusedVariables false
set_option linter.unusedSimpArgs false
theorem w64 {n : Int} (h0 : -9223372036854775808 ≤ n) (h1 : n ≤ 9223372036854775807) : wrap64 n = n := by unfold wrap64; omega
/-- The nearest integer of x/d, halves away from zero. -/
def rnd (x d : Int) : Int := if x < 0 then -((2 * (-x) + d) / (2 * d)) else (2 * x + d) / (2 * d)
theorem rnd_abs_le (x d b : Int) (hd : 0 < d) (h0 : -(b * d) ≤ x) (h1 : x ≤ b * d) : -b ≤ rnd x d ∧ rnd x d ≤ b := by
  have key : ∀ y : Int, 0 ≤ y → y ≤ b * d → 0 ≤ (2 * y + d) / (2 * d) ∧ (2 * y + d) / (2 * d) ≤ b := by
    intro y hy hyb
    refine ⟨Int.ediv_nonneg (by omega) (by omega), ?_⟩
    have : (2 * y + d) / (2 * d) < b + 1 := by
      apply Int.ediv_lt_of_lt_mul (by omega)
      have : (b + 1) * (2 * d) = 2 * (b * d) + 2 * d := by rw [Int.add_mul, Int.mul_left_comm]; omega
      omega
    omega
  unfold rnd
  split
  · have := key (-x) (by omega) (by omega)
    omega
  · have := key x (by omega) (by omega)
    omega
theorem round_pos (x d : Int) (hx : 0 ≤ x) (hx1 : x ≤ 4611686018427387903) (hd : 0 < d) (hd1 : d ≤ 1099511627776) (hs : 2 * x + d ≤ 9223372036854775807) (k : Nat) : earshotref02_Round.f (k + 1) x d = some ((2 * x + d) / (2 * d)) := by
  unfold earshotref02_Round.f
  rw [if_neg (by omega), w64 (n := 2 * d) (by omega) (by omega), if_neg (by omega), w64 (n := 2 * x) (by omega) (by omega), w64 (n := 2 * x + d) (by omega) (by omega), Int.tdiv_eq_ediv_of_nonneg (by omega)]
  have h0 : 0 ≤ (2 * x + d) / (2 * d) := Int.ediv_nonneg (by omega) (by omega)
  have h1 : (2 * x + d) / (2 * d) ≤ 2 * x + d := Int.ediv_le_self _ (by omega)
  rw [w64 (by omega) (by omega)]
theorem round_ev (x d : Int) (hx0 : -4611686018427387903 ≤ x) (hx1 : x ≤ 4611686018427387903) (hd : 0 < d) (hd1 : d ≤ 1099511627776) (hs0 : -(2 * x) + d ≤ 9223372036854775807) (hs : 2 * x + d ≤ 9223372036854775807) : Ev (fun k => earshotref02_Round.f k x d) (rnd x d) := by
  refine ⟨2, fun k hk => ?_⟩
  obtain ⟨m, rfl⟩ : ∃ m, k = m + 2 := ⟨k - 2, by omega⟩
  by_cases h : x < 0
  · have h2 : 0 ≤ (2 * (-x) + d) / (2 * d) := Int.ediv_nonneg (by omega) (by omega)
    have h3 : (2 * (-x) + d) / (2 * d) ≤ 2 * (-x) + d := Int.ediv_le_self _ (by omega)
    show earshotref02_Round.f (m + 1 + 1) x d = _
    rw [earshotref02_Round.f, if_pos h, w64 (by omega) (by omega), round_pos (-x) d (by omega) (by omega) hd hd1 (by omega), Option.bind_some, w64 (by omega) (by omega)]
    unfold rnd
    rw [if_pos h]
  · show earshotref02_Round.f (m + 1 + 1) x d = _
    rw [round_pos x d (by omega) hx1 hd hd1 hs]
    unfold rnd
    rw [if_neg h]
theorem far_pos (x d : Int) (hx : 0 ≤ x) (hx1 : x ≤ 4611686018427387903) (hd : 0 < d) (hd1 : d ≤ 1099511627776) (k : Nat) : feature_far.f (k + 1) x d = some ((2 * x + d) / (2 * d)) := by
  rw [feature_far.f, if_neg (by omega), if_neg (by omega), Int.tdiv_eq_ediv_of_nonneg hx, Int.tmod_eq_emod_of_nonneg hx]
  have h0 := Int.emod_nonneg x (by omega : d ≠ 0)
  have h1 := Int.emod_lt_of_pos x hd
  have h2 := Int.mul_ediv_add_emod x d
  have h3 : 0 ≤ x / d := Int.ediv_nonneg hx (by omega)
  have h4 : x / d ≤ x := Int.ediv_le_self _ hx
  rw [w64 (n := d - x % d) (by omega) (by omega)]
  have e : 2 * x + d = (2 * (x % d) + d) + (x / d) * (2 * d) := by
    have : (x / d) * (2 * d) = 2 * (d * (x / d)) := by rw [Int.mul_left_comm, Int.mul_comm (x / d) d]
    omega
  have e2 : (2 * x + d) / (2 * d) = (2 * (x % d) + d) / (2 * d) + x / d := by rw [e, Int.add_mul_ediv_right _ _ (by omega : 2 * d ≠ 0)]
  by_cases hc : x % d ≥ d - x % d
  · rw [if_pos hc, w64 (n := x / d) (by omega) (by omega), w64 (n := x / d + 1) (by omega) (by omega), e2]
    have : (2 * (x % d) + d) / (2 * d) = 1 := by
      have a1 : 1 ≤ (2 * (x % d) + d) / (2 * d) := by rw [Int.le_ediv_iff_mul_le (by omega)]; omega
      have a2 : (2 * (x % d) + d) / (2 * d) < 2 := Int.ediv_lt_of_lt_mul (by omega) (by omega)
      omega
    rw [this, Int.add_comm]
  · rw [if_neg hc, w64 (n := x / d) (by omega) (by omega), e2, (Int.ediv_eq_zero_of_lt (by omega) (by omega) : (2 * (x % d) + d) / (2 * d) = 0), Int.zero_add]
theorem far_ev (x d : Int) (hx0 : -4611686018427387903 ≤ x) (hx1 : x ≤ 4611686018427387903) (hd : 0 < d) (hd1 : d ≤ 1099511627776) : Ev (fun k => feature_far.f k x d) (rnd x d) := by
  refine ⟨2, fun k hk => ?_⟩
  obtain ⟨m, rfl⟩ : ∃ m, k = m + 2 := ⟨k - 2, by omega⟩
  by_cases h : x < 0
  · have h2 : 0 ≤ (2 * (-x) + d) / (2 * d) := Int.ediv_nonneg (by omega) (by omega)
    have h3 : (2 * (-x) + d) / (2 * d) ≤ (-x) := by
      have : (2 * (-x) + d) / (2 * d) < (-x) + 1 := by
        apply Int.ediv_lt_of_lt_mul (by omega)
        have e : (-x + 1) * (2 * d) = 2 * ((-x) * d) + 2 * d := by rw [Int.add_mul, Int.mul_left_comm]; omega
        have : (-x) * 1 ≤ (-x) * d := Int.mul_le_mul_of_nonneg_left (by omega) (by omega)
        omega
      omega
    show feature_far.f (m + 1 + 1) x d = _
    rw [feature_far.f, if_pos h, w64 (by omega) (by omega), far_pos (-x) d (by omega) (by omega) hd hd1, Option.bind_some, w64 (by omega) (by omega)]
    unfold rnd
    rw [if_pos h]
  · show feature_far.f (m + 1 + 1) x d = _
    rw [far_pos x d (by omega) hx1 hd hd1]
    unfold rnd
    rw [if_neg h]
/-- Is it a length of a transform? -/
def isLen (n : Nat) : Bool := n == 1 || n == 2 || n == 4 || n == 8 || n == 16 || n == 32 || n == 64
theorem possible_small : ∀ n : Nat, n < 200 → feature_possible.f (n : Int) = some (isLen n) := by decide +kernel
theorem length_small : ∀ n : Nat, n < 200 → earshotref03_Length.f (n : Int) = some (isLen n) := by decide +kernel
theorem possible_at (n : Nat) : feature_possible.f (n : Int) = some (isLen n) := by
  by_cases h : n < 200
  · exact possible_small n h
  · unfold feature_possible.f
    rw [if_pos (by omega), if_neg (by omega)]
    have : isLen n = false := by simp only [isLen, Bool.or_eq_false_iff, beq_eq_false_iff_ne]; omega
    rw [this]
theorem length_at (n : Nat) : earshotref03_Length.f (n : Int) = some (isLen n) := by
  by_cases h : n < 200
  · exact length_small n h
  · unfold earshotref03_Length.f
    rw [if_neg (by omega), if_neg (by omega), if_neg (by omega), if_neg (by omega), if_neg (by omega), if_neg (by omega)]
    have : isLen n = false := by simp only [isLen, Bool.or_eq_false_iff, beq_eq_false_iff_ne]; omega
    have e : ((n : Int) == 64) = false := by simp only [beq_eq_false_iff_ne]; omega
    rw [this, e]
theorem isLen_dvd (n : Nat) (h : isLen n = true) : 0 < n ∧ n ≤ 64 ∧ (n : Int) * ((64 : Int) / n) = 64 ∧ 1 ≤ (64 : Int) / n ∧ (64 : Int) / n ≤ 64 := by
  simp only [isLen, Bool.or_eq_true, beq_iff_eq] at h
  rcases h with ((((((h | h) | h) | h) | h) | h) | h) <;> subst h <;> decide
/-- All within bounds. -/
def allIn (l : List Int) (a b : Int) : Bool := l.all fun x => decide (a ≤ x) && decide (x ≤ b)
theorem rd_nat (l : List Int) (j : Nat) : rd l (j : Int) = l.getD j 0 := by unfold rd; rw [Int.toNat_natCast]
theorem all_ev (l : List Int) (a b : Int) (hl : l.length ≤ 4611686018427387904) : Ev (fun k => earshotref02_All.f k l a b) (allIn l a b) := by
  have key : ∀ r j : Nat, j + r = l.length → Ev (fun k => earshotref02_All.l0 k l a b (j : Int)) (allIn (l.drop j) a b) := by
    intro r
    induction r with
    | zero =>
      intro j hj
      refine ⟨1, fun k hk => ?_⟩
      obtain ⟨m, rfl⟩ : ∃ m, k = m + 1 := ⟨k - 1, by omega⟩
      simp only [earshotref02_All.l0]
      rw [if_neg (by omega), List.drop_of_length_le (by omega)]
      rfl
    | succ r ih =>
      intro j hj
      have hjl : j < l.length := by omega
      have e : l.drop j = l[j] :: l.drop (j + 1) := List.drop_eq_getElem_cons hjl
      have er : rd l (j : Int) = l[j] := by rw [rd_nat, List.getD_eq_getElem?_getD, List.getElem?_eq_getElem hjl]; rfl
      obtain ⟨K, hK⟩ := ih (j + 1) (by omega)
      refine ⟨K + 1, fun k hk => ?_⟩
      obtain ⟨m, rfl⟩ : ∃ m, k = m + 1 := ⟨k - 1, by omega⟩
      simp only [earshotref02_All.l0]
      rw [if_pos (by omega), if_pos (by omega), er, e]
      by_cases h1 : l[j] < a
      · rw [if_pos h1]
        simp only [allIn, List.all_cons, (by simpa using h1 : decide (a ≤ l[j]) = false), Bool.false_and]
      · rw [if_neg h1]
        by_cases h2 : l[j] > b
        · rw [if_pos h2]
          simp only [allIn, List.all_cons, (by simpa using h2 : decide (l[j] ≤ b) = false), Bool.and_false, Bool.false_and]
        · rw [if_neg h2, w64 (by omega) (by omega)]
          have : earshotref02_All.l0 m l a b ((j + 1 : Nat) : Int) = some (allIn (l.drop (j + 1)) a b) := hK m (by omega)
          rw [show (j : Int) + 1 = ((j + 1 : Nat) : Int) by omega, this]
          simp only [allIn, List.all_cons, (by simp; omega : decide (a ≤ l[j]) = true), (by simp; omega : decide (l[j] ≤ b) = true), Bool.true_and]
  exact key l.length 0 (by omega)
theorem within_at (l : List Int) (b : Int) (h0 : 0 ≤ b) (h1 : b ≤ 9223372036854775807) : feature_within.f l b = some (allIn l (-b) b) := by
  unfold feature_within.f allIn
  congr 1
  rw [List.not_any_eq_all_not]
  congr 1
  funext x
  unfold beyond
  rw [w64 (by omega) (by omega)]
  by_cases h1 : x < -b <;> by_cases h2 : b < x <;> simp [h1, h2] <;> omega
theorem same_ev (l m : List Int) (hlm : l = m) (hl : l.length ≤ 4611686018427387904) : Ev (fun k => earshotref02_Same.f k l m) true := by
  subst hlm
  have key : ∀ r j : Nat, j + r = l.length → Ev (fun k => earshotref02_Same.l0 k l l (j : Int)) true := by
    intro r
    induction r with
    | zero =>
      intro j hj
      refine ⟨1, fun k hk => ?_⟩
      obtain ⟨m, rfl⟩ : ∃ m, k = m + 1 := ⟨k - 1, by omega⟩
      simp only [earshotref02_Same.l0]
      rw [if_neg (by omega)]
    | succ r ih =>
      intro j hj
      obtain ⟨K, hK⟩ := ih (j + 1) (by omega)
      refine ⟨K + 1, fun k hk => ?_⟩
      obtain ⟨m, rfl⟩ : ∃ m, k = m + 1 := ⟨k - 1, by omega⟩
      simp only [earshotref02_Same.l0]
      rw [if_pos (by omega), if_pos (by omega), if_pos (by omega), if_pos trivial, w64 (by omega) (by omega), show (j : Int) + 1 = ((j + 1 : Nat) : Int) by omega]
      exact hK m (by omega)
  refine Ev.congr (fun k => ?_) (key l.length 0 (by omega))
  unfold earshotref02_Same.f
  rw [if_pos rfl]
  rfl
theorem cosv_range (j : Int) : -16384 ≤ cosv j ∧ cosv j ≤ 16384 := by
  unfold cosv
  have a := tab_range (j % 256); have b := tab_range (128 - j % 256); have c := tab_range (j % 256 - 128); have d := tab_range (256 - j % 256)
  split
  · omega
  · split
    · omega
    · split <;> omega
/-- The number that digits of 32 bits write, the least first. -/
def val : List Int → Int
  | [] => 0
  | d :: ds => d + 4294967296 * val ds
def Dig (l : List Int) : Prop := ∀ x ∈ l, 0 ≤ x ∧ x < 4294967296
def pw (p : Nat) : Int := 4294967296 ^ p
theorem pw_zero : pw 0 = 1 := rfl
theorem pw_succ (p : Nat) : pw (p + 1) = pw p * 4294967296 := Int.pow_succ _ _
theorem pw_pos (p : Nat) : 0 < pw p := Int.pow_pos (by omega)
theorem pw_add (p q : Nat) : pw (p + q) = pw p * pw q := Int.pow_add _ _ _
theorem val_nonneg (l : List Int) (h : Dig l) : 0 ≤ val l := by
  induction l with
  | nil => exact Int.le_refl _
  | cons d ds ih =>
    have h1 := h d List.mem_cons_self
    have h2 := ih (fun x hx => h x (List.mem_cons_of_mem _ hx))
    simp only [val]
    omega
theorem val_set : ∀ (z : List Int) (p : Nat) (v : Int), p < z.length → val (z.set p v) = val z + (v - z.getD p 0) * pw p
  | [], p, v, h => by simp at h
  | d :: ds, 0, v, _ => by simp only [List.set_cons_zero, val, List.getD_cons_zero, pw_zero]; omega
  | d :: ds, p + 1, v, h => by
    have := val_set ds p v (by simpa using h)
    simp only [List.set_cons_succ, val, List.getD_cons_succ, pw_succ]
    rw [this, Int.mul_add, ← Int.mul_assoc (v - ds.getD p 0), Int.mul_comm ((v - ds.getD p 0) * pw p)]
    omega
theorem val_append : ∀ (a b : List Int), val (a ++ b) = val a + pw a.length * val b
  | [], b => by simp [val, pw_zero]
  | d :: ds, b => by
    simp only [List.cons_append, val, List.length_cons, pw_succ]
    rw [val_append ds b, Int.mul_add, Int.mul_comm (pw ds.length) 4294967296, Int.mul_assoc]
    omega
theorem val_zeros (n : Nat) : val (List.replicate n 0) = 0 := by
  induction n with
  | zero => rfl
  | succ n ih => rw [List.replicate_succ]; simp only [val, ih]; omega
theorem val_take (b : List Int) (j : Nat) (h : j < b.length) : val (b.take (j + 1)) = val (b.take j) + b.getD j 0 * pw j := by
  rw [List.take_add_one, List.getElem?_eq_getElem h, val_append]
  simp only [Option.toList_some, val, List.length_take, Nat.min_eq_left (Nat.le_of_lt h), Int.mul_zero, Int.add_zero]
  rw [List.getD_eq_getElem?_getD, List.getElem?_eq_getElem h, Int.mul_comm]
  rfl
theorem dig_set (z : List Int) (h : Dig z) (p : Nat) (v : Int) (h0 : 0 ≤ v) (h1 : v < 4294967296) : Dig (z.set p v) := by
  intro x hx
  rcases List.mem_or_eq_of_mem_set hx with hx | rfl
  · exact h x hx
  · exact ⟨h0, h1⟩
theorem dig_zeros (n : Nat) : Dig (List.replicate n 0) := by
  intro x hx
  rw [(List.mem_replicate.1 hx).2]
  omega
theorem dig_get (z : List Int) (h : Dig z) (p : Nat) : 0 ≤ z.getD p 0 ∧ z.getD p 0 < 4294967296 := by
  rw [List.getD_eq_getElem?_getD]
  rcases Nat.lt_or_ge p z.length with hp | hp
  · rw [List.getElem?_eq_getElem hp]; exact h _ (List.getElem_mem hp)
  · rw [List.getElem?_eq_none hp]; simp
/-- One row of the schoolbook product: r digits are still to come. -/
def rowF (ai : Int) (b : List Int) (i : Nat) : Nat → Nat → List Int → Int → List Int
  | 0, j, z, c => z.set (i + j) (c % 4294967296)
  | r + 1, j, z, c => rowF ai b i r (j + 1) (z.set (i + j) ((c + z.getD (i + j) 0 + ai * b.getD j 0) % 4294967296)) ((c + z.getD (i + j) 0 + ai * b.getD j 0) / 4294967296)
def prodF (a b : List Int) : Nat → Nat → List Int → List Int
  | 0, i, z => z
  | r + 1, i, z => prodF a b r (i + 1) (rowF (a.getD i 0) b i b.length 0 z 0)
def prod (a b : List Int) : List Int := prodF a b a.length 0 (List.replicate (a.length + b.length) 0)
theorem step_bound (c z a b : Int) (hc : 0 ≤ c ∧ c < 4294967296) (hz : 0 ≤ z ∧ z < 4294967296) (ha : 0 ≤ a ∧ a < 4294967296) (hb : 0 ≤ b ∧ b < 4294967296) : 0 ≤ a * b ∧ c + z + a * b < 18446744073709551616 := by
  have h1 : 0 ≤ a * b := Int.mul_nonneg ha.1 hb.1
  have h2 : a * b ≤ 4294967295 * 4294967295 := Int.le_trans (Int.mul_le_mul_of_nonneg_right (by omega) hb.1) (Int.mul_le_mul_of_nonneg_left (by omega) (by omega))
  omega
theorem row_ok (ai : Int) (hai : 0 ≤ ai ∧ ai < 4294967296) (b : List Int) (hb : Dig b) (i : Nat) :
    ∀ (r j : Nat) (z : List Int) (c : Int), j + r = b.length → Dig z → 0 ≤ c ∧ c < 4294967296 → i + b.length < z.length → (∀ p, i + b.length ≤ p → z.getD p 0 = 0) →
      (rowF ai b i r j z c).length = z.length ∧ Dig (rowF ai b i r j z c) ∧ (∀ p, i + 1 + b.length ≤ p → (rowF ai b i r j z c).getD p 0 = 0) ∧
      val (rowF ai b i r j z c) + ai * val (b.take j) * pw i = val z + c * pw (i + j) + ai * val b * pw i := by
  intro r
  induction r with
  | zero =>
    intro j z c hj hz hc hl hzero
    simp only [rowF]
    refine ⟨by simp, dig_set z hz _ _ (by omega) (by omega), fun p hp => ?_, ?_⟩
    · rw [List.getD_eq_getElem?_getD, List.getElem?_set, if_neg (by omega), ← List.getD_eq_getElem?_getD]
      exact hzero p (by omega)
    · rw [val_set z (i + j) _ (by omega), hzero (i + j) (by omega), Int.emod_eq_of_lt hc.1 hc.2, List.take_of_length_le (by omega), Int.sub_zero]
  | succ r ih =>
    intro j z c hj hz hc hl hzero
    simp only [rowF]
    have hzj := dig_get z hz (i + j)
    have hbj := dig_get b hb j
    have hst := step_bound c (z.getD (i + j) 0) ai (b.getD j 0) hc hzj hai hbj
    generalize ht : c + z.getD (i + j) 0 + ai * b.getD j 0 = t at hst ⊢
    have ht0 : 0 ≤ t := by omega
    have hm0 := Int.emod_nonneg t (by omega : (4294967296 : Int) ≠ 0)
    have hm1 := Int.emod_lt_of_pos t (by omega : (0 : Int) < 4294967296)
    have hd := Int.mul_ediv_add_emod t 4294967296
    have hq0 : 0 ≤ t / 4294967296 := Int.ediv_nonneg ht0 (by omega)
    have hq1 : t / 4294967296 < 4294967296 := by omega
    obtain ⟨h1, h2, h3, h4⟩ := ih (j + 1) (z.set (i + j) (t % 4294967296)) (t / 4294967296) (by omega) (dig_set z hz _ _ hm0 hm1) ⟨hq0, hq1⟩ (by simpa using hl) (fun p hp => by
      rw [List.getD_eq_getElem?_getD, List.getElem?_set, if_neg (by omega), ← List.getD_eq_getElem?_getD]
      exact hzero p hp)
    refine ⟨by rw [h1]; simp, h2, h3, ?_⟩
    rw [val_take b j (by omega), val_set z (i + j) _ (by omega), show i + (j + 1) = (i + j) + 1 by omega, pw_succ] at h4
    have e1 : t / 4294967296 * (pw (i + j) * 4294967296) = (4294967296 * (t / 4294967296)) * pw (i + j) := by rw [Int.mul_comm (pw (i + j)), ← Int.mul_assoc, Int.mul_comm (t / 4294967296)]
    have e2 : ai * (val (b.take j) + b.getD j 0 * pw j) * pw i = ai * val (b.take j) * pw i + ai * b.getD j 0 * pw (i + j) := by
      rw [Int.mul_add, Int.add_mul, pw_add, Int.mul_comm (pw i) (pw j), ← Int.mul_assoc ai, ← Int.mul_assoc (ai * b.getD j 0)]
    have e3 : (t % 4294967296 - z.getD (i + j) 0) * pw (i + j) + (4294967296 * (t / 4294967296)) * pw (i + j) = c * pw (i + j) + ai * b.getD j 0 * pw (i + j) := by
      rw [← Int.add_mul, ← Int.add_mul]
      congr 1
      omega
    rw [e1, e2] at h4
    omega
theorem prod_go (a b : List Int) (ha : Dig a) (hb : Dig b) : ∀ (r i : Nat) (z : List Int), i + r = a.length → Dig z → z.length = a.length + b.length → (∀ p, i + b.length ≤ p → z.getD p 0 = 0) →
    (prodF a b r i z).length = a.length + b.length ∧ Dig (prodF a b r i z) ∧ val (prodF a b r i z) + val (a.take i) * val b = val z + val a * val b := by
  intro r
  induction r with
  | zero =>
    intro i z hi hz hl hzero
    simp only [prodF]
    refine ⟨hl, hz, ?_⟩
    rw [List.take_of_length_le (by omega)]
  | succ r ih =>
    intro i z hi hz hl hzero
    simp only [prodF]
    have hai := dig_get a ha i
    obtain ⟨h1, h2, h3, h4⟩ := row_ok (a.getD i 0) hai b hb i b.length 0 z 0 (by omega) hz (by omega) (by omega) hzero
    obtain ⟨g1, g2, g3⟩ := ih (i + 1) _ (by omega) h2 (by rw [h1, hl]) (fun p hp => h3 p (by omega))
    refine ⟨g1, g2, ?_⟩
    rw [val_take a i (by omega), Int.add_mul] at g3
    simp only [List.take_zero, val, Int.mul_zero, Int.zero_mul, Int.add_zero] at h4
    have e : a.getD i 0 * pw i * val b = a.getD i 0 * val b * pw i := by rw [Int.mul_assoc, Int.mul_comm (pw i), ← Int.mul_assoc]
    omega
theorem prod_ok (a b : List Int) (ha : Dig a) (hb : Dig b) : (prod a b).length = a.length + b.length ∧ Dig (prod a b) ∧ val (prod a b) = val a * val b := by
  obtain ⟨h1, h2, h3⟩ := prod_go a b ha hb a.length 0 (List.replicate (a.length + b.length) 0) (by omega) (dig_zeros _) (by simp) (fun p hp => by
    rw [List.getD_eq_getElem?_getD]
    rcases Nat.lt_or_ge p (a.length + b.length) with h | h
    · rw [List.getElem?_replicate, if_pos h]; rfl
    · rw [List.getElem?_eq_none (by simpa using h)]; rfl)
  refine ⟨h1, h2, ?_⟩
  rw [val_zeros] at h3
  simp only [List.take_zero, val, Int.zero_mul, Int.add_zero, Int.zero_add] at h3
  exact h3
theorem u64w {n : Int} (h0 : 0 ≤ n) (h1 : n < 18446744073709551616) : IntKind.u64.wrap n = n := by
  simp only [IntKind.wrap, IntKind.bits, IntKind.signed]
  simp
  omega
theorem sq_row (a : List Int) (ha : Dig a) (hn : a.length ≤ 1000000) (i : Nat) (hi : i < a.length) (R : List Int) :
    ∀ (r j : Nat) (z : List Int) (c : Int), j + r = a.length → Dig z → 0 ≤ c ∧ c < 4294967296 → z.length = a.length + a.length →
      Ev (fun k => feature_square.l0 k a (rowF (a.getD i 0) a i r j z c) a (a.length : Int) ((i + 1 : Nat) : Int)) R →
      Ev (fun k => feature_square.l1 k a z (i : Int) (a.getD i 0) c a (a.length : Int) (i : Int) a (a.length : Int) (j : Int)) R := by
  intro r
  induction r with
  | zero =>
    intro j z c hj hz hc hl h
    refine Ev.step (fun k => ?_) h
    simp only [feature_square.l1, rowF]
    rw [if_neg (by omega), w64 (n := (i : Int) + (a.length : Int)) (by omega) (by omega), if_pos (by omega), if_pos (by omega), w64 (n := (i : Int) + 1) (by omega) (by omega), show ((i : Int) + (a.length : Int)).toNat = i + j by omega]
    rfl
  | succ r ih =>
    intro j z c hj hz hc hl h
    have hzj := dig_get z hz (i + j)
    have hai := dig_get a ha i
    have haj := dig_get a ha j
    obtain ⟨hs0, hs1⟩ := step_bound c (z.getD (i + j) 0) (a.getD i 0) (a.getD j 0) hc hzj hai haj
    have hm0 := Int.emod_nonneg (c + z.getD (i + j) 0 + a.getD i 0 * a.getD j 0) (by omega : (4294967296 : Int) ≠ 0)
    have hm1 := Int.emod_lt_of_pos (c + z.getD (i + j) 0 + a.getD i 0 * a.getD j 0) (by omega : (0 : Int) < 4294967296)
    have h2 := ih (j + 1) (z.set (i + j) ((c + z.getD (i + j) 0 + a.getD i 0 * a.getD j 0) % 4294967296)) ((c + z.getD (i + j) 0 + a.getD i 0 * a.getD j 0) / 4294967296) (by omega) (dig_set z hz _ _ hm0 hm1) ⟨Int.ediv_nonneg (by omega) (by omega), by omega⟩ (by simpa using hl) h
    refine Ev.step (fun k => ?_) h2
    simp only [feature_square.l1]
    rw [if_pos (by omega), if_pos (by omega), if_pos (by omega), w64 (n := (i : Int) + (j : Int)) (by omega) (by omega), if_pos (by omega), if_pos (by omega), w64 (n := (j : Int) + 1) (by omega) (by omega), show (i : Int) + (j : Int) = ((i + j : Nat) : Int) by omega, rd_nat, rd_nat, Int.toNat_natCast,
      u64w (n := z.getD (i + j) 0) (by omega) (by omega), u64w (n := a.getD i 0) (by omega) (by omega), u64w (n := a.getD j 0) (by omega) (by omega), u64w (n := a.getD i 0 * a.getD j 0) (by omega) (by omega), u64w (n := z.getD (i + j) 0 + a.getD i 0 * a.getD j 0) (by omega) (by omega), u64w (n := c + (z.getD (i + j) 0 + a.getD i 0 * a.getD j 0)) (by omega) (by omega), ← Int.add_assoc]
    rfl
theorem sq_go (a : List Int) (ha : Dig a) (hn : a.length ≤ 1000000) : ∀ (r i : Nat) (z : List Int), i + r = a.length → Dig z → z.length = a.length + a.length → (∀ p, i + a.length ≤ p → z.getD p 0 = 0) →
    Ev (fun k => feature_square.l0 k a z a (a.length : Int) (i : Int)) (prodF a a r i z) := by
  intro r
  induction r with
  | zero =>
    intro i z hi hz hl hzero
    refine Ev.step (f := fun _ => some z) (fun k => ?_) (Ev.now _)
    simp only [feature_square.l0]
    rw [if_neg (by omega)]
  | succ r ih =>
    intro i z hi hz hl hzero
    have hai := dig_get a ha i
    obtain ⟨h1, h2, h3, _⟩ := row_ok (a.getD i 0) hai a ha i a.length 0 z 0 (by omega) hz (by omega) (by omega) hzero
    have h4 := ih (i + 1) _ (by omega) h2 (by rw [h1, hl]) (fun p hp => h3 p (by omega))
    have h5 := sq_row a ha hn i (by omega) _ a.length 0 z 0 (by omega) hz (by omega) hl h4
    refine Ev.step (fun k => ?_) h5
    simp only [feature_square.l0]
    rw [if_pos (by omega), if_pos (by omega), if_pos (by omega), rd_nat]
    rfl
theorem square_ev (a : List Int) (ha : Dig a) (hn : a.length ≤ 1000000) : Ev (fun k => feature_square.f k a) (prod a a) := by
  refine Ev.congr (fun k => ?_) (sq_go a ha hn a.length 0 (List.replicate (a.length + a.length) 0) (by omega) (dig_zeros _) (by simp) (fun p hp => by
    rw [List.getD_eq_getElem?_getD]
    rcases Nat.lt_or_ge p (a.length + a.length) with h | h
    · rw [List.getElem?_replicate, if_pos h]; rfl
    · rw [List.getElem?_eq_none (by simpa using h)]; rfl))
  unfold feature_square.f
  rw [w64 (by omega) (by omega), if_pos (by omega), if_pos (by omega), show (2 * (a.length : Int)).toNat = a.length + a.length by omega]
  rfl
/-- 2^e ≤ n < 2^(e+1). -/
def isLg (n e : Int) : Prop := 0 ≤ e ∧ (2 : Int) ^ e.toNat ≤ n ∧ n < (2 : Int) ^ (e.toNat + 1)
theorem isLg_nonneg {n e : Int} (h : isLg n e) : 0 < n := Int.lt_of_lt_of_le (Int.pow_pos (by omega)) h.2.1
theorem pow2_mono {a b : Nat} (h : a ≤ b) : (2 : Int) ^ a ≤ 2 ^ b := by
  obtain ⟨c, rfl⟩ := Nat.exists_eq_add_of_le h
  rw [Int.pow_add]
  have h1 : (0 : Int) < 2 ^ a := Int.pow_pos (by omega)
  have h2 : (0 : Int) < 2 ^ c := Int.pow_pos (by omega)
  have : (2 : Int) ^ a * 1 ≤ 2 ^ a * 2 ^ c := Int.mul_le_mul_of_nonneg_left (by omega) (by omega)
  omega
theorem isLg_le {n m e f : Int} (h : isLg n e) (g : isLg m f) (hnm : n ≤ m) : e ≤ f := by
  by_cases hc : e ≤ f
  · exact hc
  · exfalso
    have h1 : (2 : Int) ^ (f.toNat + 1) ≤ 2 ^ e.toNat := pow2_mono (by have := h.1; have := g.1; omega)
    have := h.2.1; have := g.2.2
    omega
theorem isLg_unique {n e f : Int} (h : isLg n e) (g : isLg n f) : e = f := by
  have h1 := isLg_le h g (Int.le_refl _)
  have h2 := isLg_le g h (Int.le_refl _)
  omega
theorem bitLen_lg : ∀ (f x : Nat), 0 < x → x < 2 ^ f → 0 < Lib.bitLenAux f x ∧ 2 ^ (Lib.bitLenAux f x - 1) ≤ x ∧ x < 2 ^ (Lib.bitLenAux f x)
  | 0, x, h0, h1 => by simp at h1; omega
  | f + 1, x, h0, h1 => by
    simp only [Lib.bitLenAux]
    rw [if_neg (by omega)]
    by_cases hx : x / 2 = 0
    · have : x = 1 := by omega
      subst this
      have e : Lib.bitLenAux f (1 / 2) = 0 := by cases f <;> simp [Lib.bitLenAux]
      rw [e]
      decide
    · obtain ⟨h2, h3, h4⟩ := bitLen_lg f (x / 2) (by omega) (by rw [Nat.pow_succ] at h1; omega)
      refine ⟨by omega, ?_, ?_⟩
      · rw [show 1 + Lib.bitLenAux f (x / 2) - 1 = (Lib.bitLenAux f (x / 2) - 1) + 1 by omega, Nat.pow_succ]; omega
      · rw [show 1 + Lib.bitLenAux f (x / 2) = Lib.bitLenAux f (x / 2) + 1 by omega, Nat.pow_succ]; omega
/-- From the top digit that is not zero. -/
theorem top_lg (z : List Int) (hz : Dig z) (i : Nat) (hi : i < z.length) (hd : z.getD i 0 ≠ 0) (hzero : ∀ p, i < p → z.getD p 0 = 0) :
    isLg (val z) (32 * (i : Int) + (Lib.bitLen (z.getD i 0).toNat : Int) - 1) := by
  have hdi := dig_get z hz i
  have e1 : z = z.take (i + 1) ++ z.drop (i + 1) := (List.take_append_drop _ _).symm
  have hdz : val (z.drop (i + 1)) = 0 := by
    have : z.drop (i + 1) = List.replicate (z.length - (i + 1)) 0 := by
      apply List.ext_getElem?
      intro p
      rw [List.getElem?_drop, List.getElem?_replicate]
      by_cases hp : p < z.length - (i + 1)
      · rw [if_pos hp]
        have := hzero (i + 1 + p) (by omega)
        rw [List.getD_eq_getElem?_getD, List.getElem?_eq_getElem (by omega : i + 1 + p < z.length)] at this
        rw [List.getElem?_eq_getElem (by omega : i + 1 + p < z.length)]
        simpa using this
      · rw [if_neg hp, List.getElem?_eq_none (by omega)]
    rw [this, val_zeros]
  have e2 : val z = val (z.take i) + z.getD i 0 * pw i := by
    have : val z = val (z.take (i + 1)) + pw (z.take (i + 1)).length * val (z.drop (i + 1)) := by rw [← val_append, List.take_append_drop]
    rw [this, hdz, val_take z i hi]
    omega
  have hlow : ∀ (l : List Int), Dig l → 0 ≤ val l ∧ val l < pw l.length := by
    intro l
    induction l with
    | nil => intro _; exact ⟨Int.le_refl _, by decide⟩
    | cons d ds ih =>
      intro h
      have h1 := h d List.mem_cons_self
      have h2 := ih (fun x hx => h x (List.mem_cons_of_mem _ hx))
      simp only [val, List.length_cons, pw_succ]
      omega
  have h3 := hlow (z.take i) (fun x hx => hz x (List.mem_of_mem_take hx))
  rw [List.length_take, Nat.min_eq_left (Nat.le_of_lt hi)] at h3
  obtain ⟨b0, b1, b2⟩ := bitLen_lg 64 (z.getD i 0).toNat (by omega) (by omega)
  have hb : Lib.bitLenAux 64 (z.getD i 0).toNat = Lib.bitLen (z.getD i 0).toNat := rfl
  rw [hb] at b0 b1 b2
  have hpw : pw i = 2 ^ (32 * i) := by unfold pw; rw [Int.pow_mul]; rfl
  generalize hbl : Lib.bitLen (z.getD i 0).toNat = b at b0 b1 b2 ⊢
  have p1 : ((2 ^ (b - 1) : Nat) : Int) = (2 : Int) ^ (b - 1) := by rw [Int.natCast_pow]; rfl
  have p2 : ((2 ^ b : Nat) : Int) = (2 : Int) ^ b := by rw [Int.natCast_pow]; rfl
  have c1 : (2 : Int) ^ (b - 1) ≤ z.getD i 0 := by rw [← p1]; omega
  have c2 : z.getD i 0 + 1 ≤ (2 : Int) ^ b := by rw [← p2]; omega
  refine ⟨by omega, ?_, ?_⟩
  · rw [show (32 * (i : Int) + (b : Int) - 1).toNat = (b - 1) + 32 * i by omega, Int.pow_add, ← hpw, e2]
    have := Int.mul_le_mul_of_nonneg_right c1 (Int.le_of_lt (pw_pos i))
    omega
  · rw [show (32 * (i : Int) + (b : Int) - 1).toNat + 1 = b + 32 * i by omega, Int.pow_add, ← hpw, e2]
    have := Int.mul_le_mul_of_nonneg_right c2 (Int.le_of_lt (pw_pos i))
    rw [Int.add_mul] at this
    omega
/-- Without the zeros at the top. -/
def trimN (l : List Int) : Nat → List Int
  | 0 => []
  | n + 1 => if l.getD n 0 = 0 then trimN l n else l.take (n + 1)
def trim (l : List Int) : List Int := trimN l l.length
theorem trim_go (l : List Int) (hl : l.length ≤ 1000000) : ∀ n : Nat, n ≤ l.length → Ev (fun k => earshotref01_trim.l0 k l (n : Int)) (trimN l n) := by
  intro n
  induction n with
  | zero =>
    intro hn
    refine Ev.step (f := fun _ => some []) (fun k => ?_) (Ev.now _)
    simp only [earshotref01_trim.l0]
    rw [if_neg (by omega), if_pos (by omega), if_pos (by omega)]
    rfl
  | succ n ih =>
    intro hn
    by_cases hd : l.getD n 0 = 0
    · refine Ev.step (fun k => ?_) (by have := ih (by omega); simp only [trimN]; rw [if_pos hd]; exact this)
      simp only [earshotref01_trim.l0]
      rw [if_pos (by omega), w64 (by omega) (by omega), if_pos (by omega), if_pos (by omega), show ((n + 1 : Nat) : Int) - 1 = (n : Int) by omega, rd_nat, if_pos hd]
    · refine Ev.step (f := fun _ => some (l.take (n + 1))) (fun k => ?_) (by simp only [trimN]; rw [if_neg hd]; exact Ev.now _)
      simp only [earshotref01_trim.l0]
      rw [if_pos (by omega), w64 (by omega) (by omega), if_pos (by omega), if_pos (by omega), show ((n + 1 : Nat) : Int) - 1 = (n : Int) by omega, rd_nat, if_neg hd, if_pos (by omega), if_pos (by omega), Int.toNat_natCast]
theorem trim_ev (l : List Int) (hl : l.length ≤ 1000000) : Ev (fun k => earshotref01_trim.f k l) (trim l) := trim_go l hl l.length (Nat.le_refl _)
theorem tm_row (a b : List Int) (ha : Dig a) (hb : Dig b) (hna : a.length ≤ 1000000) (hnb : b.length ≤ 1000000) (i : Nat) (hi : i < a.length) (R : List Int) :
    ∀ (r j : Nat) (z : List Int) (c : Int), j + r = b.length → Dig z → 0 ≤ c ∧ c < 4294967296 → z.length = a.length + b.length →
      Ev (fun k => earshotref01_times.l0 k a b (rowF (a.getD i 0) b i r j z c) ((i + 1 : Nat) : Int)) R →
      Ev (fun k => earshotref01_times.l1 k a b z (i : Int) c (j : Int)) R := by
  intro r
  induction r with
  | zero =>
    intro j z c hj hz hc hl h
    refine Ev.step (fun k => ?_) h
    simp only [earshotref01_times.l1, rowF]
    rw [if_neg (by omega), w64 (n := (i : Int) + (b.length : Int)) (by omega) (by omega), if_pos (by omega), if_pos (by omega), w64 (n := (i : Int) + 1) (by omega) (by omega), show ((i : Int) + (b.length : Int)).toNat = i + j by omega]
    rfl
  | succ r ih =>
    intro j z c hj hz hc hl h
    have hzj := dig_get z hz (i + j)
    have hai := dig_get a ha i
    have haj := dig_get b hb j
    obtain ⟨hs0, hs1⟩ := step_bound c (z.getD (i + j) 0) (a.getD i 0) (b.getD j 0) hc hzj hai haj
    have hm0 := Int.emod_nonneg (c + z.getD (i + j) 0 + a.getD i 0 * b.getD j 0) (by omega : (4294967296 : Int) ≠ 0)
    have hm1 := Int.emod_lt_of_pos (c + z.getD (i + j) 0 + a.getD i 0 * b.getD j 0) (by omega : (0 : Int) < 4294967296)
    have h2 := ih (j + 1) (z.set (i + j) ((c + z.getD (i + j) 0 + a.getD i 0 * b.getD j 0) % 4294967296)) ((c + z.getD (i + j) 0 + a.getD i 0 * b.getD j 0) / 4294967296) (by omega) (dig_set z hz _ _ hm0 hm1) ⟨Int.ediv_nonneg (by omega) (by omega), by omega⟩ (by simpa using hl) h
    refine Ev.step (fun k => ?_) h2
    simp only [earshotref01_times.l1]
    rw [if_pos (by omega), w64 (n := (i : Int) + (j : Int)) (by omega) (by omega), if_pos (by omega), if_pos (by omega), if_pos (by omega), if_pos (by omega), if_pos (by omega), w64 (n := (j : Int) + 1) (by omega) (by omega), show (i : Int) + (j : Int) = ((i + j : Nat) : Int) by omega, rd_nat, rd_nat, rd_nat, Int.toNat_natCast,
      u64w (n := z.getD (i + j) 0) (by omega) (by omega), u64w (n := a.getD i 0) (by omega) (by omega), u64w (n := b.getD j 0) (by omega) (by omega), u64w (n := a.getD i 0 * b.getD j 0) (by omega) (by omega), u64w (n := c + z.getD (i + j) 0) (by omega) (by omega), u64w (n := c + z.getD (i + j) 0 + a.getD i 0 * b.getD j 0) (by omega) (by omega)]
    rfl
theorem tm_go (a b : List Int) (ha : Dig a) (hb : Dig b) (hna : a.length ≤ 400000) (hnb : b.length ≤ 400000) : ∀ (r i : Nat) (z : List Int), i + r = a.length → Dig z → z.length = a.length + b.length → (∀ p, i + b.length ≤ p → z.getD p 0 = 0) →
    Ev (fun k => earshotref01_times.l0 k a b z (i : Int)) (trim (prodF a b r i z)) := by
  intro r
  induction r with
  | zero =>
    intro i z hi hz hl hzero
    refine Ev.step (f := fun k => (earshotref01_trim.f k z).bind fun t104 => some t104) (fun k => ?_) (Ev.bind (trim_ev z (by omega)) (Ev.now _))
    simp only [earshotref01_times.l0]
    rw [if_neg (by omega)]
  | succ r ih =>
    intro i z hi hz hl hzero
    have hai := dig_get a ha i
    obtain ⟨h1, h2, h3, _⟩ := row_ok (a.getD i 0) hai b hb i b.length 0 z 0 (by omega) hz (by omega) (by omega) hzero
    have h4 := ih (i + 1) _ (by omega) h2 (by rw [h1, hl]) (fun p hp => h3 p (by omega))
    have h5 := tm_row a b ha hb (by omega) (by omega) i (by omega) _ b.length 0 z 0 (by omega) hz (by omega) hl h4
    refine Ev.step (fun k => ?_) h5
    simp only [earshotref01_times.l0]
    rw [if_pos (by omega)]
    rfl
theorem times_ev (a b : List Int) (ha : Dig a) (hb : Dig b) (hna : a.length ≤ 400000) (hnb : b.length ≤ 400000) : Ev (fun k => earshotref01_times.f k a b) (trim (prod a b)) := by
  refine Ev.congr (fun k => ?_) (tm_go a b ha hb hna hnb a.length 0 (List.replicate (a.length + b.length) 0) (by omega) (dig_zeros _) (by simp) (fun p hp => by
    rw [List.getD_eq_getElem?_getD]
    rcases Nat.lt_or_ge p (a.length + b.length) with h | h
    · rw [List.getElem?_replicate, if_pos h]; rfl
    · rw [List.getElem?_eq_none (by simpa using h)]; rfl))
  unfold earshotref01_times.f
  rw [w64 (by omega) (by omega), if_pos (by omega), if_pos (by omega), show ((a.length : Int) + (b.length : Int)).toNat = a.length + b.length by omega]
  rfl
/-- The sign of a difference. -/
def sgn (x : Int) : Int := if x < 0 then -1 else if x = 0 then 0 else 1
theorem val_lt (l : List Int) (h : Dig l) : val l < pw l.length := by
  induction l with
  | nil => decide
  | cons d ds ih =>
    have h1 := h d List.mem_cons_self
    have h2 := ih (fun x hx => h x (List.mem_cons_of_mem _ hx))
    simp only [val, List.length_cons, pw_succ]
    omega
theorem dig_take (l : List Int) (h : Dig l) (n : Nat) : Dig (l.take n) := fun x hx => h x (List.mem_of_mem_take hx)
theorem order_go (a b : List Int) (ha : Dig a) (hb : Dig b) (hl : a.length = b.length) (hn : a.length ≤ 1000000) : ∀ n : Nat, n ≤ a.length → Ev (fun k => earshotref01_order.l0 k a b ((n : Int) - 1)) (sgn (val (a.take n) - val (b.take n))) := by
  intro n
  induction n with
  | zero =>
    intro _
    refine Ev.step (f := fun _ => some 0) (fun k => ?_) (Ev.now _)
    simp only [earshotref01_order.l0]
    rw [if_neg (by omega)]
  | succ n ih =>
    intro hnl
    have h1 := ih (by omega)
    have ea := val_take a n (by omega)
    have eb := val_take b n (by omega)
    have la := val_lt (a.take n) (dig_take a ha n)
    have lb := val_lt (b.take n) (dig_take b hb n)
    rw [List.length_take, Nat.min_eq_left (by omega)] at la lb
    have na := val_nonneg _ (dig_take a ha n)
    have nb := val_nonneg _ (dig_take b hb n)
    by_cases hd : a.getD n 0 = b.getD n 0
    · rw [ea, eb, hd, show val (a.take n) + b.getD n 0 * pw n - (val (b.take n) + b.getD n 0 * pw n) = val (a.take n) - val (b.take n) by omega]
      refine Ev.step (fun k => ?_) h1
      simp only [earshotref01_order.l0]
      rw [show ((n + 1 : Nat) : Int) - 1 = (n : Int) by omega, if_pos (by omega), if_pos (by omega), if_pos (by omega), if_pos (by omega), rd_nat, rd_nat, if_pos hd, w64 (by omega) (by omega)]
    · by_cases hlt : a.getD n 0 < b.getD n 0
      · have hm := Int.mul_le_mul_of_nonneg_right (show a.getD n 0 + 1 ≤ b.getD n 0 by omega) (Int.le_of_lt (pw_pos n))
        rw [Int.add_mul] at hm
        have es : sgn (val (a.take (n + 1)) - val (b.take (n + 1))) = -1 := by unfold sgn; rw [ea, eb, if_pos (by omega)]
        rw [es]
        refine Ev.step (f := fun _ => some (-1)) (fun k => ?_) (Ev.now _)
        simp only [earshotref01_order.l0]
        rw [show ((n + 1 : Nat) : Int) - 1 = (n : Int) by omega, if_pos (by omega), if_pos (by omega), if_pos (by omega), if_pos (by omega), rd_nat, rd_nat, if_neg hd, if_pos hlt]
      · have hm := Int.mul_le_mul_of_nonneg_right (show b.getD n 0 + 1 ≤ a.getD n 0 by omega) (Int.le_of_lt (pw_pos n))
        rw [Int.add_mul] at hm
        have es : sgn (val (a.take (n + 1)) - val (b.take (n + 1))) = 1 := by unfold sgn; rw [ea, eb, if_neg (by omega), if_neg (by omega)]
        rw [es]
        refine Ev.step (f := fun _ => some 1) (fun k => ?_) (Ev.now _)
        simp only [earshotref01_order.l0]
        rw [show ((n + 1 : Nat) : Int) - 1 = (n : Int) by omega, if_pos (by omega), if_pos (by omega), if_pos (by omega), if_pos (by omega), rd_nat, rd_nat, if_neg hd, if_neg hlt]
theorem bitLen_le : ∀ (f x : Nat), Lib.bitLenAux f x ≤ f
  | 0, x => by simp [Lib.bitLenAux]
  | f + 1, x => by
    simp only [Lib.bitLenAux]
    have := bitLen_le f (x / 2)
    split <;> omega
theorem val_allzero : ∀ (z : List Int), (∀ p, z.getD p 0 = 0) → val z = 0
  | [], _ => rfl
  | d :: ds, h => by
    have h0 := h 0
    have h1 := val_allzero ds (fun p => by have := h (p + 1); simpa using this)
    simp only [List.getD_cons_zero] at h0
    simp only [val, h0, h1]
    omega
theorem top_go (z : List Int) (hz : Dig z) (hv : 0 < val z) (hl : z.length ≤ 1000) : ∀ i : Nat, i < z.length → (∀ p, i < p → z.getD p 0 = 0) → ∃ e, isLg (val z) e ∧ e ≤ 32064 ∧ Ev (fun k => feature_logarithm.l1 k z (i : Int)) e := by
  intro i
  induction i with
  | zero =>
    intro hi hzero
    by_cases hd : z.getD 0 0 = 0
    · exfalso
      have := val_allzero z (fun p => by rcases Nat.eq_zero_or_pos p with rfl | hp; exact hd; exact hzero p hp)
      omega
    · have hdz := dig_get z hz 0
      have hb : Lib.bitLen (z.getD 0 0).toNat ≤ 64 := bitLen_le 64 _
      refine ⟨_, top_lg z hz 0 hi hd hzero, by omega, ?_⟩
      refine Ev.step (f := fun _ => some (32 * ((0 : Nat) : Int) + (Lib.bitLen (z.getD 0 0).toNat : Int) - 1)) (fun k => ?_) (Ev.now _)
      simp only [feature_logarithm.l1]
      rw [if_pos (by omega), if_pos (by omega), rd_nat, if_neg hd]
      unfold bits_Len32.f
      rw [if_pos (by omega), Option.bind_some, w64 (n := 32 * ((0 : Nat) : Int)) (by omega) (by omega), w64 (n := 32 * ((0 : Nat) : Int) + _) (by omega) (by omega), w64 (by omega) (by omega)]
  | succ i ih =>
    intro hi hzero
    by_cases hd : z.getD (i + 1) 0 = 0
    · obtain ⟨e, h1, h2, h3⟩ := ih (by omega) (fun p hp => by
        by_cases hp2 : p = i + 1
        · rw [hp2]; exact hd
        · exact hzero p (by omega))
      refine ⟨e, h1, h2, Ev.step (fun k => ?_) h3⟩
      simp only [feature_logarithm.l1]
      rw [if_pos (by omega), if_pos (by omega), rd_nat, if_pos hd, w64 (by omega) (by omega), show ((i + 1 : Nat) : Int) - 1 = (i : Int) by omega]
    · have hdz := dig_get z hz (i + 1)
      have hb : Lib.bitLen (z.getD (i + 1) 0).toNat ≤ 64 := bitLen_le 64 _
      refine ⟨_, top_lg z hz (i + 1) hi hd hzero, by omega, ?_⟩
      refine Ev.step (f := fun _ => some (32 * ((i + 1 : Nat) : Int) + (Lib.bitLen (z.getD (i + 1) 0).toNat : Int) - 1)) (fun k => ?_) (Ev.now _)
      simp only [feature_logarithm.l1]
      rw [if_pos (by omega), if_pos (by omega), rd_nat, if_neg hd]
      unfold bits_Len32.f
      rw [if_pos (by omega), Option.bind_some, w64 (n := 32 * ((i + 1 : Nat) : Int)) (by omega) (by omega), w64 (n := 32 * ((i + 1 : Nat) : Int) + _) (by omega) (by omega), w64 (by omega) (by omega)]
theorem log_sq (z : List Int) (hz : Dig z) (hn : z.length ≤ 100) (m : Nat) (hm : m < 4) (r : Int) (h : Ev (fun k => feature_logarithm.l0 k (prod z z) ((m + 1 : Nat) : Int)) r) : Ev (fun k => feature_logarithm.l0 k z (m : Int)) r := by
  refine Ev.step (f := fun k => (feature_square.f k z).bind fun t104 => feature_logarithm.l0 k t104 ((m + 1 : Nat) : Int)) (fun k => ?_) (Ev.bind (square_ev z hz (by omega)) h)
  simp only [feature_logarithm.l0]
  rw [if_pos (by omega), w64 (by omega) (by omega)]
  rfl
/-- The logarithm: where n^16 stands between two powers of 2. -/
theorem logarithm_ev (a : Int) (h0 : 0 < a) (h1 : a ≤ 9223372036854775807) : ∃ e, isLg (a ^ 16) e ∧ e ≤ 32064 ∧ Ev (fun k => feature_logarithm.f k a) e := by
  have hz0 : Dig [a % 4294967296, (a / 4294967296) % 4294967296] := by
    intro x hx
    simp only [List.mem_cons, List.not_mem_nil, or_false] at hx
    omega
  have hv0 : val [a % 4294967296, (a / 4294967296) % 4294967296] = a := by
    simp only [val]
    omega
  have hl0 : [a % 4294967296, (a / 4294967296) % 4294967296].length = 2 := rfl
  generalize hz : [a % 4294967296, (a / 4294967296) % 4294967296] = z at hz0 hv0 hl0
  obtain ⟨l1, d1, v1⟩ := prod_ok z z hz0 hz0
  obtain ⟨l2, d2, v2⟩ := prod_ok (prod z z) (prod z z) d1 d1
  obtain ⟨l3, d3, v3⟩ := prod_ok (prod (prod z z) (prod z z)) (prod (prod z z) (prod z z)) d2 d2
  obtain ⟨l4, d4, v4⟩ := prod_ok (prod (prod (prod z z) (prod z z)) (prod (prod z z) (prod z z))) (prod (prod (prod z z) (prod z z)) (prod (prod z z) (prod z z))) d3 d3
  have v16 : val (prod (prod (prod (prod z z) (prod z z)) (prod (prod z z) (prod z z))) (prod (prod (prod z z) (prod z z)) (prod (prod z z) (prod z z)))) = a ^ 16 := by
    rw [v4, v3, v2, v1, hv0]
    have e2 : a * a = a ^ 2 := by rw [Int.pow_succ, Int.pow_succ, Int.pow_zero, Int.one_mul]
    rw [e2, ← Int.pow_add, ← Int.pow_add, ← Int.pow_add]
  have hpos : 0 < a ^ 16 := Int.pow_pos h0
  rw [← v16] at hpos
  obtain ⟨e, g1, g2, g3⟩ := top_go _ d4 hpos (by omega) ((prod (prod (prod (prod z z) (prod z z)) (prod (prod z z) (prod z z))) (prod (prod (prod z z) (prod z z)) (prod (prod z z) (prod z z)))).length - 1) (by omega) (fun p hp => by
    rw [List.getD_eq_getElem?_getD, List.getElem?_eq_none (by omega)]; rfl)
  rw [v16] at g1
  refine ⟨e, g1, g2, ?_⟩
  have f4 : Ev (fun k => feature_logarithm.l0 k (prod (prod (prod (prod z z) (prod z z)) (prod (prod z z) (prod z z))) (prod (prod (prod z z) (prod z z)) (prod (prod z z) (prod z z)))) ((4 : Nat) : Int)) e := by
    refine Ev.step (fun k => ?_) g3
    simp only [feature_logarithm.l0]
    rw [if_neg (by omega), w64 (by omega) (by omega)]
    congr 1
    omega
  have f0 := log_sq z hz0 (by omega) 0 (by omega) e (log_sq _ d1 (by omega) 1 (by omega) e (log_sq _ d2 (by omega) 2 (by omega) e (log_sq _ d3 (by omega) 3 (by omega) e f4)))
  refine Ev.congr (fun k => ?_) f0
  unfold feature_logarithm.f
  rw [if_neg (by omega), hz]
  rfl
theorem Log_ev (a : Int) (h0 : 0 < a) (h1 : a ≤ 9223372036854775807) : ∃ e, isLg (a ^ 16) e ∧ e ≤ 32064 ∧ Ev (fun k => feature_Log.f k a) (e, 0) := by
  obtain ⟨e, g1, g2, g3⟩ := logarithm_ev a h0 h1
  refine ⟨e, g1, g2, Ev.congr (f := fun k => (feature_logarithm.f k a).bind fun t101 => some (t101, 0)) (fun k => ?_) (Ev.bind g3 (Ev.now _))⟩
  unfold feature_Log.f
  rw [if_neg (by omega)]
/-- Digits without zeros at the top. -/
def T (l : List Int) : Prop := Dig l ∧ (l ≠ [] → l.getD (l.length - 1) 0 ≠ 0)
theorem trimN_ok (l : List Int) (h : Dig l) : ∀ n, n ≤ l.length → (∀ p, n ≤ p → l.getD p 0 = 0) → T (trimN l n) ∧ val (trimN l n) = val l ∧ (trimN l n).length ≤ n := by
  intro n
  induction n with
  | zero =>
    intro _ hz
    refine ⟨⟨(fun x hx => by cases hx), fun h => absurd rfl h⟩, ?_, Nat.le_refl _⟩
    rw [val_allzero l (fun p => hz p (Nat.zero_le _))]
    rfl
  | succ n ih =>
    intro hn hz
    simp only [trimN]
    by_cases hd : l.getD n 0 = 0
    · rw [if_pos hd]
      have := ih (by omega) (fun p hp => by
        by_cases e : p = n
        · subst e; exact hd
        · exact hz p (by omega))
      exact ⟨this.1, this.2.1, by omega⟩
    · rw [if_neg hd]
      have hl : (l.take (n + 1)).length = n + 1 := by rw [List.length_take]; omega
      refine ⟨⟨dig_take l h _, fun _ => ?_⟩, ?_, by omega⟩
      · rw [hl, Nat.add_sub_cancel, List.getD_eq_getElem?_getD, List.getElem?_take, if_pos (by omega), ← List.getD_eq_getElem?_getD]
        exact hd
      · have e : val l = val (l.take (n + 1)) + pw (l.take (n + 1)).length * val (l.drop (n + 1)) := by rw [← val_append, List.take_append_drop]
        have z : val (l.drop (n + 1)) = 0 := val_allzero _ (fun p => by
          rw [List.getD_eq_getElem?_getD, List.getElem?_drop, ← List.getD_eq_getElem?_getD]
          exact hz _ (by omega))
        rw [e, z, Int.mul_zero, Int.add_zero]
theorem trim_ok (l : List Int) (h : Dig l) : T (trim l) ∧ val (trim l) = val l ∧ (trim l).length ≤ l.length :=
  trimN_ok l h l.length (Nat.le_refl _) (fun p hp => by rw [List.getD_eq_getElem?_getD, List.getElem?_eq_none hp]; rfl)
theorem trim_T (l : List Int) (h : T l) : trim l = l := by
  unfold trim
  cases hl : l.length with
  | zero =>
    obtain rfl := List.eq_nil_of_length_eq_zero hl
    rfl
  | succ n =>
    have h1 := h.2 (fun e => by rw [e] at hl; cases hl)
    rw [hl, Nat.add_sub_cancel] at h1
    simp only [trimN]
    rw [if_neg h1, List.take_of_length_le (by omega)]
theorem T_low (l : List Int) (h : T l) (h0 : l ≠ []) : pw (l.length - 1) ≤ val l := by
  have hpos := List.length_pos_iff.2 h0
  have h1 := h.2 h0
  have h2 := dig_get l h.1 (l.length - 1)
  have h3 := val_take l (l.length - 1) (by omega)
  rw [show l.length - 1 + 1 = l.length by omega, List.take_length] at h3
  have h4 := val_nonneg _ (dig_take l h.1 (l.length - 1))
  have h5 : 1 * pw (l.length - 1) ≤ l.getD (l.length - 1) 0 * pw (l.length - 1) := Int.mul_le_mul_of_nonneg_right (by omega) (Int.le_of_lt (pw_pos _))
  omega
theorem T_nil (l : List Int) (h : T l) : l = [] ↔ val l = 0 := by
  refine ⟨fun e => by rw [e]; rfl, fun e => ?_⟩
  by_cases h0 : l = []
  · exact h0
  · have := T_low l h h0
    have := pw_pos (l.length - 1)
    omega
theorem pw_mono {p q : Nat} (h : p ≤ q) : pw p ≤ pw q := by
  obtain ⟨d, rfl⟩ : ∃ d, q = p + d := ⟨q - p, by omega⟩
  rw [pw_add]
  have h1 := pw_pos p
  have h2 := pw_pos d
  have : pw p * 1 ≤ pw p * pw d := Int.mul_le_mul_of_nonneg_left (by omega) (by omega)
  omega
theorem T_len (l : List Int) (h : T l) (q : Nat) (hv : val l < pw q) : l.length ≤ q := by
  by_cases h0 : l = []
  · rw [h0]; exact Nat.zero_le _
  · have h1 := T_low l h h0
    rcases Nat.lt_or_ge q l.length with h2 | h2
    · have := pw_mono (show q ≤ l.length - 1 by omega)
      omega
    · exact h2
/-- The comparison of two numbers. -/
theorem order_ev (a b : List Int) (ha : T a) (hb : T b) (hna : a.length ≤ 1000000) (hnb : b.length ≤ 1000000) : Ev (fun k => earshotref01_order.f k a b) (sgn (val a - val b)) := by
  obtain ⟨K1, e1⟩ := trim_ev a hna
  obtain ⟨K2, e2⟩ := trim_ev b hnb
  rw [trim_T a ha] at e1
  rw [trim_T b hb] at e2
  have la := val_lt a ha.1
  have lb := val_lt b hb.1
  by_cases hl : a.length = b.length
  · have e3 := order_go a b ha.1 hb.1 hl hna a.length (Nat.le_refl _)
    rw [List.take_length, hl, List.take_length] at e3
    obtain ⟨K3, e3⟩ := e3
    refine ⟨K1 + K2 + K3, fun k hk => ?_⟩
    have e1 := e1 k (by omega)
    have e2 := e2 k (by omega)
    have e3 := e3 k (by omega)
    dsimp only at e1 e2 e3 ⊢
    unfold earshotref01_order.f
    rw [e1, Option.bind_some, e2, Option.bind_some, if_pos (by omega), w64 (by omega) (by omega), hl]
    exact e3
  · refine ⟨K1 + K2, fun k hk => ?_⟩
    have e1 := e1 k (by omega)
    have e2 := e2 k (by omega)
    dsimp only at e1 e2 ⊢
    unfold earshotref01_order.f
    rw [e1, Option.bind_some, e2, Option.bind_some, if_neg (by omega)]
    by_cases h2 : a.length < b.length
    · have h3 := T_low b hb (fun e => by rw [e] at h2; simp at h2)
      have h4 := pw_mono (show a.length ≤ b.length - 1 by omega)
      rw [if_pos (by omega)]
      unfold sgn
      rw [if_pos (by omega)]
    · have h3 := T_low a ha (fun e => by rw [e] at h2 hl; simp only [List.length_nil] at h2 hl; omega)
      have h4 := pw_mono (show b.length ≤ a.length - 1 by omega)
      rw [if_neg (by omega)]
      unfold sgn
      rw [if_neg (by omega), if_neg (by omega)]
theorem val_snoc (l : List Int) (d : Int) : val (l ++ [d]) = val l + pw l.length * d := by
  rw [val_append]
  simp [val]
theorem dig_snoc (l : List Int) (d : Int) (h : Dig l) (h0 : 0 ≤ d) (h1 : d < 4294967296) : Dig (l ++ [d]) := by
  intro x hx
  rcases List.mem_append.1 hx with h2 | h2
  · exact h x h2
  · rw [List.mem_singleton.1 h2]; exact ⟨h0, h1⟩
/-- What is subtracted at place i. -/
theorem take_ge (b : List Int) (i : Nat) : val (b.take (i + 1)) = val (b.take i) + b.getD i 0 * pw i := by
  rcases Nat.lt_or_ge i b.length with h | h
  · exact val_take b i h
  · rw [List.take_of_length_le h, List.take_of_length_le (by omega), List.getD_eq_getElem?_getD, List.getElem?_eq_none h]
    simp
theorem minus_go (a b : List Int) (ha : Dig a) (hb : Dig b) (hla : a.length ≤ 100000) (hlb : b.length ≤ a.length) (hle : val b ≤ val a) :
    ∀ (r i : Nat) (out : List Int) (c : Int), i + r = a.length → out.length = i → Dig out → 0 ≤ c → c ≤ 1 → val out + val (b.take i) = val (a.take i) + c * pw i →
      ∃ z, Dig z ∧ z.length = a.length ∧ val z = val a - val b ∧ Ev (fun k => earshotref01_minus.l0 k a b out c (i : Int)) (trim z) := by
  intro r
  induction r with
  | zero =>
    intro i out c hi hl ho hc0 hc1 hv
    rw [List.take_of_length_le (by omega), List.take_of_length_le (by omega)] at hv
    have hlo := val_lt out ho
    have hc : c = 0 := by
      by_cases h : c = 0
      · exact h
      · have : c = 1 := by omega
        subst this
        rw [show out.length = i from hl] at hlo
        omega
    subst hc
    refine ⟨out, ho, by omega, by omega, ?_⟩
    obtain ⟨K, e⟩ := trim_ev out (by omega)
    refine ⟨K + 1, fun k hk => ?_⟩
    obtain ⟨m, rfl⟩ : ∃ m, k = m + 1 := ⟨k - 1, by omega⟩
    have e := e m (by omega)
    dsimp only at e ⊢
    simp only [earshotref01_minus.l0]
    rw [if_neg (by omega), e]
    rfl
  | succ r ih =>
    intro i out c hi hl ho hc0 hc1 hv
    have hai := dig_get a ha i
    have hbi := dig_get b hb i
    have ea := take_ge a i
    have eb := take_ge b i
    have hp := pw_succ i
    -- what stands at place i
    have key : ∀ (d c' : Int), 0 ≤ d → d < 4294967296 → 0 ≤ c' → c' ≤ 1 → d + c + b.getD i 0 = a.getD i 0 + 4294967296 * c' →
        (∀ k, earshotref01_minus.l0 (k + 1) a b out c (i : Int) = earshotref01_minus.l0 k a b (out ++ [d]) c' ((i + 1 : Nat) : Int)) →
        ∃ z, Dig z ∧ z.length = a.length ∧ val z = val a - val b ∧ Ev (fun k => earshotref01_minus.l0 k a b out c (i : Int)) (trim z) := by
      intro d c' h0 h1 h2 h3 he hst
      obtain ⟨z, z1, z2, z3, z4⟩ := ih (i + 1) (out ++ [d]) c' (by omega) (by simp; omega) (dig_snoc out d ho h0 h1) h2 h3 (by
        rw [val_snoc, hl, ea, eb, hp]
        have e1 : pw i * d = d * pw i := Int.mul_comm _ _
        have e2 : c' * (pw i * 4294967296) = (4294967296 * c') * pw i := by rw [Int.mul_comm (pw i), ← Int.mul_assoc, Int.mul_comm c']
        have e3 : d = a.getD i 0 + 4294967296 * c' - c - b.getD i 0 := by omega
        rw [e1, e2, e3, Int.sub_mul, Int.sub_mul, Int.add_mul]
        omega)
      exact ⟨z, z1, z2, z3, Ev.step hst z4⟩
    have hgb : ¬ i < b.length → b.getD i 0 = 0 := fun h => by rw [List.getD_eq_getElem?_getD, List.getElem?_eq_none (by omega)]; rfl
    have ra : rd a (i : Int) = a.getD i 0 := rd_nat a i
    have rb : rd b (i : Int) = b.getD i 0 := rd_nat b i
    by_cases hib : i < b.length
    · by_cases hlt : a.getD i 0 < c + b.getD i 0
      · refine key (a.getD i 0 + 4294967296 - (c + b.getD i 0)) 1 (by omega) (by omega) (by omega) (by omega) (by omega) (fun k => ?_)
        simp only [earshotref01_minus.l0]
        rw [ra, rb, u64w (n := a.getD i 0) (by omega) (by omega), u64w (n := b.getD i 0) (by omega) (by omega), u64w (n := c + b.getD i 0) (by omega) (by omega), u64w (n := a.getD i 0 + 4294967296) (by omega) (by omega), u64w (n := a.getD i 0 + 4294967296 - (c + b.getD i 0)) (by omega) (by omega),
          Int.emod_eq_of_lt (by omega) (by omega), if_pos (by omega), if_pos (by omega), if_pos (by omega), if_pos hlt, if_pos (by omega), w64 (n := (i : Int) + 1) (by omega) (by omega)]
        rfl
      · refine key (a.getD i 0 - (c + b.getD i 0)) 0 (by omega) (by omega) (by omega) (by omega) (by omega) (fun k => ?_)
        simp only [earshotref01_minus.l0]
        rw [ra, rb, u64w (n := a.getD i 0) (by omega) (by omega), u64w (n := b.getD i 0) (by omega) (by omega), u64w (n := c + b.getD i 0) (by omega) (by omega), u64w (n := a.getD i 0 - (c + b.getD i 0)) (by omega) (by omega),
          Int.emod_eq_of_lt (a := a.getD i 0 - (c + b.getD i 0)) (by omega) (by omega), if_pos (by omega), if_pos (by omega), if_pos (by omega), if_neg hlt, if_pos (by omega), w64 (n := (i : Int) + 1) (by omega) (by omega)]
        rfl
    · have hb0 := hgb hib
      by_cases hlt : a.getD i 0 < c
      · refine key (a.getD i 0 + 4294967296 - c) 1 (by omega) (by omega) (by omega) (by omega) (by omega) (fun k => ?_)
        simp only [earshotref01_minus.l0]
        rw [ra, u64w (n := a.getD i 0) (by omega) (by omega), u64w (n := a.getD i 0 + 4294967296) (by omega) (by omega), u64w (n := a.getD i 0 + 4294967296 - c) (by omega) (by omega),
          Int.emod_eq_of_lt (a := a.getD i 0 + 4294967296 - c) (by omega) (by omega), if_pos (by omega), if_neg (by omega), if_pos (by omega), if_pos hlt, if_pos (by omega), w64 (n := (i : Int) + 1) (by omega) (by omega)]
        rfl
      · refine key (a.getD i 0 - c) 0 (by omega) (by omega) (by omega) (by omega) (by omega) (fun k => ?_)
        simp only [earshotref01_minus.l0]
        rw [ra, u64w (n := a.getD i 0) (by omega) (by omega), u64w (n := a.getD i 0 - c) (by omega) (by omega),
          Int.emod_eq_of_lt (a := a.getD i 0 - c) (by omega) (by omega), if_pos (by omega), if_neg (by omega), if_pos (by omega), if_neg hlt, if_pos (by omega), w64 (n := (i : Int) + 1) (by omega) (by omega)]
        rfl
theorem minus_ev (a b : List Int) (ha : T a) (hb : T b) (hla : a.length ≤ 100000) (hle : val b ≤ val a) : ∃ z, T z ∧ z.length ≤ a.length ∧ val z = val a - val b ∧ Ev (fun k => earshotref01_minus.f k a b) z := by
  have hlb : b.length ≤ a.length := T_len b hb a.length (by have := val_lt a ha.1; omega)
  obtain ⟨z, z1, z2, z3, z4⟩ := minus_go a b ha.1 hb.1 hla hlb hle a.length 0 [] 0 (by omega) rfl (by intro x hx; cases hx) (by omega) (by omega) (by simp [val])
  have ht := trim_ok z z1
  exact ⟨trim z, ht.1, by omega, by rw [ht.2.1, z3], z4⟩
theorem pow_le_pow' (a b : Int) (h0 : 0 ≤ a) (h : a ≤ b) : ∀ n : Nat, a ^ n ≤ b ^ n
  | 0 => by simp
  | n + 1 => by
    have h1 := pow_le_pow' a b h0 h n
    have h2 : 0 ≤ a ^ n := Int.pow_nonneg h0
    rw [Int.pow_succ, Int.pow_succ]
    exact Int.le_trans (Int.mul_le_mul_of_nonneg_right h1 h0) (Int.mul_le_mul_of_nonneg_left h (by omega))
end Go.Proofs.YtdlbmbijobcljaaDoor.Pure

namespace Go.Proofs.YtdlbmbijobcljaaDoor.Pure
open Go.RowKit Go.Proofs.YtdlbmbijobcljaaDoor.X Go.Proofs.YtdlbmbijobcljaaDoorW.PrintWords Go.Proofs.YtdlbmbijobcljaaDoorW.PrintLast
theorem known_ev : Ev (fun k => earshotlaw03_known.f k) true := Ev.of (k := 2000) earshotlaw03_known.mono (by decide +kernel)
end Go.Proofs.YtdlbmbijobcljaaDoor.Pure

namespace Go.Proofs.YtdlbmbijobcljaaDoor.Pure
open Go.RowKit Go.Proofs.YtdlbmbijobcljaaDoor.X Go.Proofs.YtdlbmbijobcljaaDoorW.PrintWords Go.Proofs.YtdlbmbijobcljaaDoorW.PrintLast Go.Proofs.YtdlbmbijobcljaaDoorW.PrintMore
set_option linter.unusedVariables false
set_option linter.unusedSimpArgs false
theorem one_one : earshotref01_one.f [1] = some true := rfl
/-- A number whose denominator is left out or 1, in lowest terms. -/
theorem make1_ev (neg : Bool) (n d : List Int) (hn : T n) (hnl : n.length ≤ 1000000) (hd : d = [] ∨ d = [1]) : Ev (fun k => earshotref01_make1.f k neg n d) (if n = [] then (false, [], []) else (neg, n, [])) := by
  obtain ⟨K1, e1⟩ := trim_ev n hnl
  rw [trim_T n hn] at e1
  obtain ⟨K2, e2⟩ := trim_ev d (by rcases hd with h | h <;> subst h <;> simp)
  have hdt : trim d = d := trim_T d (by
    rcases hd with h | h <;> subst h
    · exact ⟨fun x hx => (by cases hx), fun h => absurd rfl h⟩
    · exact ⟨fun x hx => by rw [List.mem_singleton.1 hx]; omega, fun _ => by simp⟩)
  rw [hdt] at e2
  refine ⟨K1 + K2 + 3, fun k hk => ?_⟩
  obtain ⟨m, rfl⟩ : ∃ m, k = m + 1 + 1 + 1 := ⟨k - 3, by omega⟩
  have e1 := e1 (m + 1 + 1 + 1) (by omega)
  have e2 := e2 (m + 1 + 1 + 1) (by omega)
  dsimp only at e1 e2 ⊢
  have j2 : ∀ k, earshotref01_make1.j2 (k + 1) neg n [1] [1] = some (neg, n, []) := by
    intro k
    simp only [earshotref01_make1.j2]
    rw [one_one, Option.bind_some, if_pos rfl, if_pos (by simp only [List.length_nil]; omega), Option.bind_some, Option.bind_some, if_pos rfl, List.nil_append]
  have j0 : earshotref01_make1.j0 (m + 1 + 1 + 1) neg n [1] = some (neg, n, []) := by
    simp only [earshotref01_make1.j0]
    rw [Option.bind_some, one_one, Option.bind_some, if_pos rfl]
    simp only [earshotref01_make1.j1]
    rw [if_neg (by simp)]
    exact j2 m
  unfold earshotref01_make1.f
  rw [e1, Option.bind_some, e2, Option.bind_some]
  by_cases h0 : n = []
  · subst h0
    rfl
  · have hpos := List.length_pos_iff.2 h0
    rw [if_neg (by omega), if_neg h0]
    rcases hd with h | h <;> subst h
    · rw [if_pos (by simp)]; exact j0
    · rw [if_neg (by simp)]; exact j0
/-- A positive integer. -/
def isNat (N : List Int) (p : Int) : Prop := T N ∧ val N = p ∧ 0 < p ∧ N.length ≤ 1000
theorem isNat_ne {N : List Int} {p : Int} (h : isNat N p) : N ≠ [] := fun e => by
  have h1 := h.2.1
  rw [e] at h1
  have h2 := h.2.2.1
  simp [val] at h1
  omega
theorem Of_ev (a : Int) (h0 : 0 < a) (h1 : a ≤ 9223372036854775807) : ∃ N, isNat N a ∧ N.length ≤ 2 ∧ Ev (fun k => earshotref01_Of.f k a) (false, N, []) := by
  have hD : Dig [a % 4294967296, (a / 4294967296) % 4294967296] := by
    intro x hx
    simp only [List.mem_cons, List.not_mem_nil, or_false] at hx
    rcases hx with rfl | rfl
    · exact ⟨Int.emod_nonneg _ (by omega), Int.emod_lt_of_pos _ (by omega)⟩
    · exact ⟨Int.emod_nonneg _ (by omega), Int.emod_lt_of_pos _ (by omega)⟩
  have ht := trim_ok _ hD
  have hv : val [a % 4294967296, (a / 4294967296) % 4294967296] = a := by simp only [val]; omega
  have hl : (trim [a % 4294967296, (a / 4294967296) % 4294967296]).length ≤ 2 := ht.2.2
  have hN : isNat (trim [a % 4294967296, (a / 4294967296) % 4294967296]) a := ⟨ht.1, by rw [ht.2.1, hv], h0, by omega⟩
  refine ⟨_, hN, hl, ?_⟩
  obtain ⟨K1, e1⟩ := trim_ev [a % 4294967296, (a / 4294967296) % 4294967296] (by simp)
  obtain ⟨K2, e2⟩ := make1_ev false _ [] ht.1 (by omega) (.inl rfl)
  rw [if_neg (isNat_ne hN)] at e2
  refine ⟨K1 + K2, fun k hk => ?_⟩
  have e1 := e1 k (by omega)
  have e2 := e2 k (by omega)
  dsimp only at e1 e2 ⊢
  unfold earshotref01_Of.f earshotref01_size.f earshotref01_natural.f
  rw [if_neg (by omega), u64w (n := a) (by omega) (by omega), Option.bind_some, e1, Option.bind_some, Option.bind_some, decide_eq_false (by omega), e2]
  rfl
theorem T_one : T [1] := ⟨fun x hx => by rw [List.mem_singleton.1 hx]; omega, fun _ => by simp⟩
theorem T_empty : T [] := ⟨fun x hx => (by cases hx), fun h => absurd rfl h⟩
theorem low_ev (s : Bool) (N : List Int) : Ev (fun k => earshotref01_low.f k s N []) [1] := by
  obtain ⟨K, e⟩ := trim_ev [] (by simp)
  rw [trim_T [] T_empty] at e
  refine ⟨K, fun k hk => ?_⟩
  have e := e k hk
  dsimp only at e ⊢
  unfold earshotref01_low.f
  rw [e, Option.bind_some, if_pos (by simp)]
theorem times_one_one : Ev (fun k => earshotref01_times.f k [1] [1]) [1] := by
  have h := times_ev [1] [1] T_one.1 T_one.1 (by simp) (by simp)
  rw [show trim (prod [1] [1]) = [1] by decide +kernel] at h
  exact h
/-- The product's digits. -/
theorem times_nat {N M : List Int} (hN : T N) (hM : T M) (hnl : N.length ≤ 1000) (hml : M.length ≤ 1000) : ∃ z, T z ∧ val z = val N * val M ∧ z.length ≤ N.length + M.length ∧ Ev (fun k => earshotref01_times.f k N M) z := by
  have hp := prod_ok N M hN.1 hM.1
  have ht := trim_ok _ hp.2.1
  exact ⟨_, ht.1, by rw [ht.2.1, hp.2.2], by omega, times_ev N M hN.1 hM.1 (by omega) (by omega)⟩
theorem Mul_ev {N M : List Int} {p q : Int} (hN : isNat N p) (hM : isNat M q) (hl : N.length + M.length ≤ 1000) : ∃ z, isNat z (p * q) ∧ z.length ≤ N.length + M.length ∧ Ev (fun k => earshotref01_Mul.f k false N [] false M []) (false, z, []) := by
  obtain ⟨z, z1, z2, z3, ⟨K3, e3⟩⟩ := times_nat hN.1 hM.1 hN.2.2.2 hM.2.2.2
  have hz : isNat z (p * q) := ⟨z1, by rw [z2, hN.2.1, hM.2.1], Int.mul_pos hN.2.2.1 hM.2.2.1, by omega⟩
  refine ⟨z, hz, z3, ?_⟩
  obtain ⟨K1, e1⟩ := trim_ev N (by have := hN.2.2.2; omega)
  obtain ⟨K2, e2⟩ := trim_ev M (by have := hM.2.2.2; omega)
  rw [trim_T N hN.1] at e1
  rw [trim_T M hM.1] at e2
  obtain ⟨K4, e4⟩ := low_ev false N
  obtain ⟨K5, e5⟩ := low_ev false M
  obtain ⟨K6, e6⟩ := times_one_one
  obtain ⟨K7, e7⟩ := make1_ev false z [1] z1 (by omega) (.inr rfl)
  rw [if_neg (isNat_ne hz)] at e7
  refine ⟨K1 + K2 + K3 + K4 + K5 + K6 + K7, fun k hk => ?_⟩
  have e1 := e1 k (by omega)
  have e2 := e2 k (by omega)
  have e3 := e3 k (by omega)
  have e4 := e4 k (by omega)
  have e5 := e5 k (by omega)
  have e6 := e6 k (by omega)
  have e7 := e7 k (by omega)
  dsimp only at e1 e2 e3 e4 e5 e6 e7 ⊢
  unfold earshotref01_Mul.f
  rw [e1, Option.bind_some, e2, Option.bind_some, e3, Option.bind_some, e4, Option.bind_some, e5, Option.bind_some, e6, Option.bind_some, show (false != false) = false from rfl, e7]
  rfl
theorem Neg_ev {M : List Int} {q : Int} (hM : isNat M q) : Ev (fun k => earshotref01_Neg.f k false M []) (true, M, []) := by
  obtain ⟨K1, e1⟩ := make1_ev true M [] hM.1 (by have := hM.2.2.2; omega) (.inl rfl)
  rw [if_neg (isNat_ne hM)] at e1
  refine ⟨K1, fun k hk => ?_⟩
  have e1 := e1 k (by omega)
  dsimp only at e1 ⊢
  unfold earshotref01_Neg.f
  rw [show (!false) = true from rfl, e1]
  rfl
/-- A signed natural number that a difference may be. -/
def diffOf (s : Bool) (z : List Int) : Bool × List Int × List Int := if z = [] then (false, [], []) else (s, z, [])
theorem Add_ev {N M : List Int} {p q : Int} (hN : isNat N p) (hM : isNat M q) (hl : N.length ≤ 500 ∧ M.length ≤ 500) : ∃ (s : Bool) (z : List Int), T z ∧ z.length ≤ 1000 ∧ ((q ≤ p ∧ s = false ∧ val z = p - q) ∨ (p < q ∧ s = true ∧ val z = q - p)) ∧ Ev (fun k => earshotref01_Add.f k false N [] true M []) (diffOf s z) := by
  obtain ⟨K2, e2⟩ := trim_ev N (by omega)
  rw [trim_T N hN.1] at e2
  obtain ⟨K3, e3⟩ := trim_ev M (by omega)
  rw [trim_T M hM.1] at e3
  obtain ⟨K4, e4⟩ := low_ev true M
  obtain ⟨K5, e5⟩ := low_ev false N
  obtain ⟨x, x1, x2, x3, ⟨K6, e6⟩⟩ := times_nat hN.1 T_one (by omega) (by simp)
  obtain ⟨y, y1, y2, y3, ⟨K7, e7⟩⟩ := times_nat hM.1 T_one (by omega) (by simp)
  have v1 : val [1] = 1 := by simp [val]
  rw [v1, Int.mul_one, hN.2.1] at x2
  rw [v1, Int.mul_one, hM.2.1] at y2
  simp only [List.length_cons, List.length_nil] at x3 y3
  obtain ⟨K8, e8⟩ := times_one_one
  obtain ⟨K9, e9⟩ := order_ev x y x1 y1 (by omega) (by omega)
  rw [x2, y2] at e9
  by_cases hpq : q ≤ p
  · obtain ⟨z, z1, z2, z3, ⟨K10, e10⟩⟩ := minus_ev x y x1 y1 (by omega) (by omega)
    obtain ⟨K11, e11⟩ := make1_ev false z [1] z1 (by omega) (.inr rfl)
    have hge : sgn (p - q) ≥ 0 := by unfold sgn; rw [if_neg (by omega)]; split <;> omega
    refine ⟨false, z, z1, by omega, .inl ⟨hpq, rfl, by omega⟩, K2 + K3 + K4 + K5 + K6 + K7 + K8 + K9 + K10 + K11, fun k hk => ?_⟩
    have e2 := e2 k (by omega)
    have e3 := e3 k (by omega)
    have e4 := e4 k (by omega)
    have e5 := e5 k (by omega)
    have e6 := e6 k (by omega)
    have e7 := e7 k (by omega)
    have e8 := e8 k (by omega)
    have e9 := e9 k (by omega)
    have e10 := e10 k (by omega)
    have e11 := e11 k (by omega)
    dsimp only at e2 e3 e4 e5 e6 e7 e8 e9 e10 e11 ⊢
    unfold earshotref01_Add.f
    rw [e2, Option.bind_some, e4, Option.bind_some, e6, Option.bind_some, e3, Option.bind_some, e5, Option.bind_some, e7, Option.bind_some, Option.bind_some, Option.bind_some, e8, Option.bind_some, if_neg (by simp), e9, Option.bind_some, if_pos hge, e10, Option.bind_some, e11, Option.bind_some]
    rfl
  · obtain ⟨z, z1, z2, z3, ⟨K10, e10⟩⟩ := minus_ev y x y1 x1 (by omega) (by omega)
    obtain ⟨K11, e11⟩ := make1_ev true z [1] z1 (by omega) (.inr rfl)
    have hlt : ¬ sgn (p - q) ≥ 0 := by unfold sgn; rw [if_pos (by omega)]; omega
    refine ⟨true, z, z1, by omega, .inr ⟨by omega, rfl, by omega⟩, K2 + K3 + K4 + K5 + K6 + K7 + K8 + K9 + K10 + K11, fun k hk => ?_⟩
    have e2 := e2 k (by omega)
    have e3 := e3 k (by omega)
    have e4 := e4 k (by omega)
    have e5 := e5 k (by omega)
    have e6 := e6 k (by omega)
    have e7 := e7 k (by omega)
    have e8 := e8 k (by omega)
    have e9 := e9 k (by omega)
    have e10 := e10 k (by omega)
    have e11 := e11 k (by omega)
    dsimp only at e2 e3 e4 e5 e6 e7 e8 e9 e10 e11 ⊢
    unfold earshotref01_Add.f
    rw [e2, Option.bind_some, e4, Option.bind_some, e6, Option.bind_some, e3, Option.bind_some, e5, Option.bind_some, e7, Option.bind_some, Option.bind_some, Option.bind_some, e8, Option.bind_some, if_neg (by simp), e9, Option.bind_some, if_neg hlt, e10, Option.bind_some, e11, Option.bind_some]
    rfl
theorem Sign_ev (s : Bool) (z : List Int) (hz : T z) (hl : z.length ≤ 1000) : Ev (fun k => earshotref01_Sign.f k (diffOf s z).1 (diffOf s z).2.1 (diffOf s z).2.2) (if z = [] then 0 else if s = true then -1 else 1) := by
  obtain ⟨L2, f2⟩ := trim_ev z (by omega)
  rw [trim_T z hz] at f2
  obtain ⟨L3, f3⟩ := trim_ev [] (by simp)
  rw [trim_T [] T_empty] at f3
  refine ⟨L2 + L3, fun k hk => ?_⟩
  have f2 := f2 k (by omega)
  have f3 := f3 k (by omega)
  dsimp only at f2 f3 ⊢
  unfold diffOf earshotref01_Sign.f
  by_cases h0 : z = []
  · rw [if_pos h0, if_pos h0]
    dsimp only
    rw [f3, Option.bind_some, if_pos (by simp)]
  · have hpos := List.length_pos_iff.2 h0
    rw [if_neg h0, if_neg h0]
    dsimp only
    rw [f2, Option.bind_some, if_neg (by omega)]
    cases s <;> rfl
theorem Cmp_ev {N M : List Int} {p q : Int} (hN : isNat N p) (hM : isNat M q) (hl : N.length ≤ 500 ∧ M.length ≤ 500) : Ev (fun k => earshotref01_Cmp.f k false N [] false M []) (sgn (p - q)) := by
  obtain ⟨K1, e1⟩ := Neg_ev hM
  obtain ⟨s, z, z1, z2, z3, ⟨K2, e2⟩⟩ := Add_ev hN hM hl
  obtain ⟨K3, e3⟩ := Sign_ev s z z1 z2
  have hs : (if z = [] then 0 else if s = true then -1 else 1) = sgn (p - q) := by
    rcases z3 with ⟨h1, rfl, h3⟩ | ⟨h1, rfl, h3⟩
    · by_cases h0 : z = []
      · have := (T_nil z z1).1 h0
        rw [if_pos h0]; unfold sgn; rw [if_neg (by omega), if_pos (by omega)]
      · have : val z ≠ 0 := fun h => h0 ((T_nil z z1).2 h)
        rw [if_neg h0, if_neg (by simp)]; unfold sgn; rw [if_neg (by omega), if_neg (by omega)]
    · have h0 : z ≠ [] := fun h => by
        have := (T_nil z z1).1 h
        omega
      rw [if_neg h0, if_pos rfl]; unfold sgn; rw [if_pos (by omega)]
  rw [hs] at e3
  refine ⟨K1 + K2 + K3, fun k hk => ?_⟩
  have e1 := e1 k (by omega)
  have e2 := e2 k (by omega)
  have e3 := e3 k (by omega)
  dsimp only at e1 e2 e3 ⊢
  unfold earshotref01_Cmp.f earshotref01_Sub.f
  rw [e1, Option.bind_some, e2, Option.bind_some, Option.bind_some, e3]
  rfl
theorem sgn_le (x : Int) : sgn x ≤ 0 ↔ x ≤ 0 := by unfold sgn; split <;> (try split) <;> omega
theorem pw_two (q : Nat) : pw q = 2 ^ (32 * q) := by unfold pw; rw [Int.pow_mul]; rfl
/-- The loop that doubles. -/
theorem dbl_go (a : Int) (P : List Int) (hP : isNat P (a ^ 16)) (hPl : P.length ≤ 40) (E : Nat) (hE : isLg (a ^ 16) (E : Int)) (hE2 : E ≤ 1200) :
    ∀ (d l : Nat) (M : List Int), l + d = E → isNat M (2 ^ l) → M.length ≤ 60 → Ev (fun k => earshotref03_Log.l1 k (l : Int) false P [] false M []) (E : Int) := by
  intro d
  induction d with
  | zero =>
    intro l M hl hM hMl
    obtain ⟨t, t1, t2, ⟨K1, e1⟩⟩ := Of_ev 2 (by omega) (by omega)
    obtain ⟨z, z1, z2, ⟨K2, e2⟩⟩ := Mul_ev hM t1 (by omega)
    obtain ⟨K3, e3⟩ := Cmp_ev z1 hP (by omega)
    have hgt : ¬ sgn (2 ^ l * 2 - a ^ 16) ≤ 0 := by
      rw [sgn_le]
      have h1 := hE.2.2
      rw [Int.toNat_natCast] at h1
      have h2 : (2 : Int) ^ l * 2 = 2 ^ (E + 1) := by rw [show E = l by omega]; rfl
      omega
    refine ⟨K1 + K2 + K3 + 1, fun k hk => ?_⟩
    obtain ⟨m, rfl⟩ : ∃ m, k = m + 1 := ⟨k - 1, by omega⟩
    have e1 := e1 m (by omega)
    have e2 := e2 m (by omega)
    have e3 := e3 m (by omega)
    dsimp only at e1 e2 e3 ⊢
    simp only [earshotref03_Log.l1]
    rw [e1, Option.bind_some, e2, Option.bind_some, e3, Option.bind_some, if_neg hgt, show l = E by omega]
  | succ d ih =>
    intro l M hl hM hMl
    obtain ⟨t, t1, t2, ⟨K1, e1⟩⟩ := Of_ev 2 (by omega) (by omega)
    obtain ⟨z, z1, z2, ⟨K2, e2⟩⟩ := Mul_ev hM t1 (by omega)
    obtain ⟨K3, e3⟩ := Cmp_ev z1 hP (by omega)
    rw [← Int.pow_succ] at z1
    have hle : (2 : Int) ^ (l + 1) ≤ a ^ 16 := by
      have h1 := hE.2.1
      rw [Int.toNat_natCast] at h1
      exact Int.le_trans (pow2_mono (show l + 1 ≤ E by omega)) h1
    have hsg : sgn (2 ^ l * 2 - a ^ 16) ≤ 0 := by
      rw [sgn_le, ← Int.pow_succ]
      omega
    have hzl : z.length ≤ 60 := T_len z z1.1 60 (by
      rw [z1.2.1, pw_two]
      have h1 : (2 : Int) ^ (l + 1) < 2 ^ (l + 1 + 1) := by rw [Int.pow_succ _ (l + 1)]; have : (0 : Int) < 2 ^ (l + 1) := Int.pow_pos (by omega); omega
      exact Int.lt_of_lt_of_le h1 (pow2_mono (by omega)))
    obtain ⟨K4, e4⟩ := ih (l + 1) z (by omega) z1 hzl
    refine ⟨K1 + K2 + K3 + K4 + 1, fun k hk => ?_⟩
    obtain ⟨m, rfl⟩ : ∃ m, k = m + 1 := ⟨k - 1, by omega⟩
    have e1 := e1 m (by omega)
    have e2 := e2 m (by omega)
    have e3 := e3 m (by omega)
    have e4 := e4 m (by omega)
    dsimp only at e1 e2 e3 e4 ⊢
    simp only [earshotref03_Log.l1]
    rw [e1, Option.bind_some, e2, Option.bind_some, e3, Option.bind_some, if_pos hsg, Option.bind_some, e2, Option.bind_some, w64 (n := (l : Int) + 1) (by omega) (by omega)]
    exact e4
theorem ref_log_ev (a : Int) (h0 : 0 < a) (h1 : a ≤ 9223372036854775807) (E : Int) (hE : isLg (a ^ 16) E) : Ev (fun k => earshotref03_Log.f k a) E := by
  have hE0 := hE.1
  obtain ⟨e, rfl⟩ : ∃ e : Nat, E = (e : Int) := ⟨E.toNat, by omega⟩
  have he : e ≤ 1200 := by
    rcases Nat.lt_or_ge 1200 e with h | h
    · exfalso
      have h2 := hE.2.1
      rw [Int.toNat_natCast] at h2
      have h3 : a ^ 16 ≤ (9223372036854775808 : Int) ^ 16 := pow_le_pow' a 9223372036854775808 (by omega) (by omega) 16
      have h4 : (2 : Int) ^ 1201 ≤ 2 ^ e := pow2_mono (by omega)
      have h5 : (9223372036854775808 : Int) ^ 16 < 2 ^ 1201 := by decide +kernel
      omega
    · exact h
  obtain ⟨N1, n1, n2, ⟨K1, f1⟩⟩ := Of_ev 1 (by omega) (by omega)
  obtain ⟨A, a1, a2, ⟨K2, f2⟩⟩ := Of_ev a h0 h1
  have loop : ∀ (d i : Nat) (P : List Int), i + d = 16 → isNat P (a ^ i) → P.length ≤ 2 + 2 * i → Ev (fun k => earshotref03_Log.l0 k a (i : Int) false P []) (e : Int) := by
    intro d
    induction d with
    | zero =>
      intro i P hi hP hPl
      obtain rfl : i = 16 := by omega
      obtain ⟨K3, f3⟩ := dbl_go a P hP (by omega) e hE he e 0 N1 (by omega) n1 (by omega)
      refine ⟨K1 + K3 + 1, fun k hk => ?_⟩
      obtain ⟨m, rfl⟩ : ∃ m, k = m + 1 := ⟨k - 1, by omega⟩
      have f1 := f1 m (by omega)
      have f3 := f3 m (by omega)
      dsimp only at f1 f3 ⊢
      simp only [earshotref03_Log.l0]
      rw [if_neg (by omega), f1, Option.bind_some]
      exact f3
    | succ d ih =>
      intro i P hi hP hPl
      obtain ⟨z, z1, z2, ⟨K4, f4⟩⟩ := Mul_ev hP a1 (by omega)
      rw [← Int.pow_succ] at z1
      obtain ⟨K3, f3⟩ := ih (i + 1) z (by omega) z1 (by omega)
      refine ⟨K2 + K3 + K4 + 1, fun k hk => ?_⟩
      obtain ⟨m, rfl⟩ : ∃ m, k = m + 1 := ⟨k - 1, by omega⟩
      have f2 := f2 m (by omega)
      have f3 := f3 m (by omega)
      have f4 := f4 m (by omega)
      dsimp only at f2 f3 f4 ⊢
      simp only [earshotref03_Log.l0]
      rw [if_pos (by omega), f2, Option.bind_some, f4, Option.bind_some, w64 (n := (i : Int) + 1) (by omega) (by omega)]
      exact f3
  obtain ⟨K3, f3⟩ := loop 16 0 N1 (by omega) (by rw [Int.pow_zero]; exact n1) (by omega)
  refine ⟨K1 + K3, fun k hk => ?_⟩
  have f1 := f1 k (by omega)
  have f3 := f3 k (by omega)
  dsimp only at f1 f3 ⊢
  unfold earshotref03_Log.f
  rw [if_neg (by omega), f1, Option.bind_some]
  exact f3
theorem logs_ev (a : Int) (hmax : a ≤ 9223372036854775807) : Ev (fun k => earshotlaw03_FeatureLogs.f k a) true := by
  obtain ⟨K0, e0⟩ := known_ev
  by_cases hn : a < 0
  · refine ⟨K0, fun k hk => ?_⟩
    have e0 := e0 k (by omega)
    dsimp only at e0 ⊢
    unfold earshotlaw03_FeatureLogs.f feature_Log.f
    rw [if_pos hn, Option.bind_some, if_pos hn, if_pos rfl, if_pos rfl, e0]
    rfl
  · by_cases hz : a = 0
    · subst hz
      refine ⟨K0, fun k hk => ?_⟩
      have e0 := e0 k (by omega)
      dsimp only at e0 ⊢
      unfold earshotlaw03_FeatureLogs.f feature_Log.f feature_logarithm.f earshotref03_Log.f
      rw [if_neg (by omega), if_pos rfl, Option.bind_some, Option.bind_some, if_neg (by omega), if_pos rfl, if_pos rfl, Option.bind_some, if_pos rfl, e0]
      rfl
    · obtain ⟨E, l1, l2, ⟨K1, e1⟩⟩ := Log_ev a (by omega) hmax
      obtain ⟨K2, e2⟩ := ref_log_ev a (by omega) hmax E l1
      refine ⟨K0 + K1 + K2, fun k hk => ?_⟩
      have e0 := e0 k (by omega)
      have e1 := e1 k (by omega)
      have e2 := e2 k (by omega)
      dsimp only at e0 e1 e2 ⊢
      unfold earshotlaw03_FeatureLogs.f
      rw [e1, Option.bind_some, if_neg hn, if_pos rfl, e2, Option.bind_some, if_pos rfl, e0]
      rfl
theorem FeatureLogs : earshotlaw03_FeatureLogs.Pure := fun a h => (logs_ev a (by
  simp only [Lit.wf, Bool.and_eq_true, decide_eq_true_eq] at h
  have e : IntKind.i64.max = 9223372036854775807 := by decide +kernel
  omega)).rounds
end Go.Proofs.YtdlbmbijobcljaaDoor.Pure

namespace Go.Proofs.YtdlbmbijobcljaaDoor.featureLogs
open Go.ChangeShapes Go.WideShapes Go.ChangeAt Go.RowKit
open Go.ChangeMaps (open_string shut_string)
set_option linter.unusedVariables false
theorem own : ownKnob Tryd.prog.godebug = none := by kernel_rfl
set_option maxRecDepth 100000 in
theorem lifted (os : Os) (started : os.Started) (H : Type) (enc : TypeId × Value → H) :
    ReturnsInHanded {} Tryd.checked os 6 .any (fun w args => (Rows.featureLogsSpec.pre enc Tryd.prog Tryd.f6 Rows.featureLogsRow.domain false w args ∧ laidMetH Tryd.prog laidC w) ∧ sizedMet enc Tryd.prog Tryd.f6 (OpenSpec.ofChange Rows.featureLogsSpec) false w args) (Rows.featureLogsSpec.post enc Tryd.prog Tryd.f6 false true false false) := by
  refine returnsInHanded_of_change_and (C := Tryd.checked) (X := fun w _ => laidMetH Tryd.prog laidC w) (fun _ _ _ hh h => h.of_heap hh) own started (by kernel_rfl) Tryd.func6
    (ChangeSpec.witness_shaped (enc := enc) (C := Tryd.checked) (os := os) (X := fun w _ => laidMetH Tryd.prog laidC w) false (World.doorLaid Tryd.prog 4000 os) #[.int .i64 0] 8 rfl (World.shaped_of_RefB (by kernel_rfl) (by kernel_rfl)) (by kernel_rfl) (by kernel_rfl) (by kernel_rfl) (door_met os _)) ?_
  intro W base args ds gs before hval0 hW hcnd hsz0 hL _
  have ht := tab_of_laid hL
  have hsz : (DataW.weightsEach Tryd.prog (Tryd.f6.params.toList ++ Rows.featureLogsSpec.plain.varTypes Tryd.prog) (ds ++ gs)).all (· ≤ reachBytes) = true := hsz0
  have hval : ∀ (j : Nat) t v, Tryd.f6.params[j]? = some t → args[j]? = some v → Value.okWide Tryd.prog W .any base t v := hval0
  have hW' := hW
  obtain ⟨p, q, hA0, hV, rfl, hfz, hnd⟩ := hW
  have hA : DataW.TrodAll enc Tryd.prog W 0 (fun _ => true) true Tryd.f6.params.toList args.toList ds p := hA0
  rw [Tryd.params6] at hA hval hsz
  obtain ⟨v0, vs0, d0, ds0, p0, q0, hargs, rfl, rfl, h0, r0⟩ := trodAll_cons hA
  obtain ⟨rfl, rfl, rfl⟩ := trodAll_nil r0
  obtain rfl : args = #[v0] := by cases args; simp_all
  obtain ⟨rfl, rfl⟩ := trodVars_none hV
  obtain ⟨a0, rfl, rfl, rfl, w0⟩ := open_int Tryd.underlying3 (hval 0 3 v0 rfl rfl) h0
  clear hA0 hval0 hsz0 hsz
  refine (X.earshotlaw03_FeatureLogs.walk Pure.FeatureLogs a0 W ht w0).mono fun e W' ⟨he, bel⟩ => ?_
  subst he
  exact ⟨_, rfl, _, _, _, [], _, [], hW', trodAll_mk1 (shut_bool Tryd.underlying4 _), (trodAll_cons_mk (shut_int Tryd.underlying3 w0) trodAll_mk0), rfl, bel.frame _, fun h => by cases h⟩
theorem closed : joinedFacts Tryd.prog 6 Tryd.f6 Rows.featureLogsSpec Rows.featureLogsRow = true :=
  joined_of rfl rfl rfl (by kernel_rfl) (by kernel_rfl) (by kernel_rfl) (by kernel_rfl) (by kernel_rfl) (by kernel_rfl) (by kernel_rfl) (by kernel_rfl) (by kernel_rfl) (by kernel_rfl) (by kernel_rfl) (by kernel_rfl) (by kernel_rfl) (by kernel_rfl) (by kernel_rfl) (by kernel_rfl) (by kernel_rfl) (by kernel_rfl) (by kernel_rfl) (by kernel_rfl) (by kernel_rfl) (by kernel_rfl) (by kernel_rfl)
theorem over : Rows.featureLogsRow.holds Tryd.pinned (OpenSpec.ofChange Rows.featureLogsSpec) :=
  OpenClaim.holds_of_wide 6 Tryd.f6 rfl rfl rfl rfl rfl rfl rfl ⟨rfl, rfl, rfl, rfl, rfl⟩ rfl rfl rfl rfl rfl (by kernel_rfl) Tryd.func6 closed
    (of_decide_eq_true (by kernel_rfl)) (by unfold Func.isWrapper; first | (rw [if_pos (by decide +kernel)]; kernel_rfl) | (rw [if_neg (by decide +kernel)]; exact ⟨rfl, rfl⟩))
    (fun os started H enc _ => lifted os started H enc)
theorem proved : Rows.FeatureLogsSaid := over
end Go.Proofs.YtdlbmbijobcljaaDoor.featureLogs
namespace Go.Proofs.YtdlbmbijobcljaaDoor
/-- The row, under a short name, for the claim. -/
theorem featureLogs_holds : Rows.FeatureLogsSaid := featureLogs.proved
/-- THE TIED CARD. -/
theorem featureLogs_card : Rows.FeatureLogsCardSaid :=
  Claim7.holds_tied_plain_at .later [] [.data] true (true, "113a42d89db8992b3819bea1327673c10f2f9c06b5576fb37f9626d51ac793bb") false
    featureLogs_holds (fun _ h => by cases h) (by kernel_rfl) (fun _ h => by cases h) featureLogs_row_tie rfl ⟨rfl, rfl⟩ jMain rfl
    (fun f fn hf hfn => by
      obtain rfl : f = 6 := Option.some.inj ((show Tryd.prog.funcNamed "earshot/earshotlaw03.FeatureLogs" = some 6 by kernel_rfl).symm.trans hf) |>.symm
      obtain rfl : fn = Tryd.f6 := (Option.some.inj (Tryd.func6.symm.trans hfn)).symm
      exact ⟨by kernel_rfl, fun j t ht => by
        rw [Tryd.params6] at ht
        have hm : t ∈ [3] := by simpa using Array.mem_of_getElem? ht
        have hall : ([3].all fun u => !Tryd.prog.wantsStandIn u) = true := by kernel_rfl
        exact (show Tryd.prog.wantsStandIn t = false by simpa using List.all_eq_true.1 hall t hm)⟩)
    (by kernel_rfl)
end Go.Proofs.YtdlbmbijobcljaaDoor
