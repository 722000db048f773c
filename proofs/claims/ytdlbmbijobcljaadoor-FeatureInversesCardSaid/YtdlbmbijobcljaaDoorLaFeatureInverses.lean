/- FeatureInverses: for every input whatever the law returns true, and each argument reads behind the call as it read before. Conditions: those of the row: the listed variable earshot/api.Cosines reads as laid, which the card ties to the program's text. By a program of this session's own (wip/print/gen_row.py), after the kit's print. -/
import Derived.Test.YtdlbmbijobcljaaDoorMA
import Derived.Test.YtdlbmbijobcljaaDoorMK
import Derived.Test.YtdlbmbijobcljaaDoorMC
import Derived.Test.YtdlbmbijobcljaaDoorRows
import Derived.Test.YtdlbmbijobcljaaDoorCards
import Derived.Test.YtdlbmbijobcljaaDoorMJ
import Derived.Test.YtdlbmbijobcljaaDoorHJoinedE
import Derived.Test.YtdlbmbijobcljaaDoorTie
import Derived.LaidMore
import Derived.Stop.Joined
import Derived.SevenTiedAt
import Derived.WalkKit
import Derived.ProofKit
import Derived.OpenShut
import Derived.ShutString
import Derived.ChangeOld
import Derived.Below
import Derived.SizedLaws
import Derived.Test.YtdlbmbijobcljaaDoorVA
namespace Go.Proofs.YtdlbmbijobcljaaDoor.X
open Go.RowKit Go.Proofs.YtdlbmbijobcljaaDoorW.PrintWords Go.Proofs.YtdlbmbijobcljaaDoorW.PrintLast Go.Proofs.YtdlbmbijobcljaaDoorW.PrintMore
attribute [local go_sem] max2_int min2_int max_two min_two max_three min_three max_four min_four   -- for this text's walks alone
set_option linter.unusedVariables false
set_option linter.unusedSimpArgs false
/-! ### earshotref03_Length: function 24 -/
def earshotref03_Length.f (a0 : Int) : Option (Bool) := if a0 = 1 then (some true) else (if a0 = 2 then (some true) else (if a0 = 4 then (some true) else (if a0 = 8 then (some true) else (if a0 = 16 then (some true) else (if a0 = 32 then (some true) else (some (a0 == 64)))))))
set_option maxHeartbeats 8000000 in
set_option maxRecDepth 100000 in
theorem earshotref03_Length.calls (a0 : Int) (r : Bool) (w : World) (h : earshotref03_Length.f a0 = some r) :
  Calls Tryd.prog 24 #[.int .i64 a0] w fun e w' => e = .returned (.bool r) ∧ Drawn0 w w' := by
 have H : (if a0 = 1 then (some true) else (if a0 = 2 then (some true) else (if a0 = 4 then (some true) else (if a0 = 8 then (some true) else (if a0 = 16 then (some true) else (if a0 = 32 then (some true) else (some (a0 == 64)))))))) = some r := h
 clear h
 by_cases c2 : a0 = 1
 ·rw [if_pos c2] at H
  have c2b0 : (a0 == 1) = true := beq_iff_eq.mpr c2
  have c2b1 : (a0 != 1) = false := bne_eq_false_iff_eq.mpr c2
  clear c2
  obtain rfl := Option.some.inj H
  go_enter Tryd.func24, Tryd.ntmps24
  go_wp2
  go_ret
  exact ⟨by first | rfl | (simp; done) | (simp [*]; done), by repeat (first | exact Drawn0.refl _ | apply Drawn0.step)⟩
 ·rw [if_neg c2] at H
  have c2b0 : (a0 == 1) = false := beq_eq_false_iff_ne.mpr c2
  have c2b1 : (a0 != 1) = true := bne_iff_ne.mpr c2
  by_cases c3 : a0 = 2
  ·rw [if_pos c3] at H
   have c3b0 : (a0 == 2) = true := beq_iff_eq.mpr c3
   have c3b1 : (a0 != 2) = false := bne_eq_false_iff_eq.mpr c3
   clear c3
   obtain rfl := Option.some.inj H
   go_enter Tryd.func24, Tryd.ntmps24
   go_wp2
   go_ret
   exact ⟨by first | rfl | (simp; done) | (simp [*]; done), by repeat (first | exact Drawn0.refl _ | apply Drawn0.step)⟩
  ·rw [if_neg c3] at H
   have c3b0 : (a0 == 2) = false := beq_eq_false_iff_ne.mpr c3
   have c3b1 : (a0 != 2) = true := bne_iff_ne.mpr c3
   by_cases c4 : a0 = 4
   ·rw [if_pos c4] at H
    have c4b0 : (a0 == 4) = true := beq_iff_eq.mpr c4
    have c4b1 : (a0 != 4) = false := bne_eq_false_iff_eq.mpr c4
    clear c4
    obtain rfl := Option.some.inj H
    go_enter Tryd.func24, Tryd.ntmps24
    go_wp2
    go_ret
    exact ⟨by first | rfl | (simp; done) | (simp [*]; done), by repeat (first | exact Drawn0.refl _ | apply Drawn0.step)⟩
   ·rw [if_neg c4] at H
    have c4b0 : (a0 == 4) = false := beq_eq_false_iff_ne.mpr c4
    have c4b1 : (a0 != 4) = true := bne_iff_ne.mpr c4
    by_cases c5 : a0 = 8
    ·rw [if_pos c5] at H
     have c5b0 : (a0 == 8) = true := beq_iff_eq.mpr c5
     have c5b1 : (a0 != 8) = false := bne_eq_false_iff_eq.mpr c5
     clear c5
     obtain rfl := Option.some.inj H
     go_enter Tryd.func24, Tryd.ntmps24
     go_wp2
     go_ret
     exact ⟨by first | rfl | (simp; done) | (simp [*]; done), by repeat (first | exact Drawn0.refl _ | apply Drawn0.step)⟩
    ·rw [if_neg c5] at H
     have c5b0 : (a0 == 8) = false := beq_eq_false_iff_ne.mpr c5
     have c5b1 : (a0 != 8) = true := bne_iff_ne.mpr c5
     by_cases c6 : a0 = 16
     ·rw [if_pos c6] at H
      have c6b0 : (a0 == 16) = true := beq_iff_eq.mpr c6
      have c6b1 : (a0 != 16) = false := bne_eq_false_iff_eq.mpr c6
      clear c6
      obtain rfl := Option.some.inj H
      go_enter Tryd.func24, Tryd.ntmps24
      go_wp2
      go_ret
      exact ⟨by first | rfl | (simp; done) | (simp [*]; done), by repeat (first | exact Drawn0.refl _ | apply Drawn0.step)⟩
     ·rw [if_neg c6] at H
      have c6b0 : (a0 == 16) = false := beq_eq_false_iff_ne.mpr c6
      have c6b1 : (a0 != 16) = true := bne_iff_ne.mpr c6
      by_cases c7 : a0 = 32
      ·rw [if_pos c7] at H
       have c7b0 : (a0 == 32) = true := beq_iff_eq.mpr c7
       have c7b1 : (a0 != 32) = false := bne_eq_false_iff_eq.mpr c7
       clear c7
       obtain rfl := Option.some.inj H
       go_enter Tryd.func24, Tryd.ntmps24
       go_wp2
       go_ret
       exact ⟨by first | rfl | (simp; done) | (simp [*]; done), by repeat (first | exact Drawn0.refl _ | apply Drawn0.step)⟩
      ·rw [if_neg c7] at H
       have c7b0 : (a0 == 32) = false := beq_eq_false_iff_ne.mpr c7
       have c7b1 : (a0 != 32) = true := bne_iff_ne.mpr c7
       obtain rfl := Option.some.inj H
       go_enter Tryd.func24, Tryd.ntmps24
       go_wp2
       go_ret
       exact ⟨by first | rfl | (simp; done) | (simp [*]; done), by repeat (first | exact Drawn0.refl _ | apply Drawn0.step)⟩

/-! ### earshotref02_All: function 25 -/
def earshotref02_All.l0 : Nat → List Int → Int → Int → Int → Option (Bool)
 | 0, _, _, _, _ => none
 | k + 1, x0, x1, x2, x7 => if x7 < (x0.length : Int) then (if 0 ≤ x7 then (if (rd x0 x7) < x1 then (some false) else (if (rd x0 x7) > x2 then (some false) else (earshotref02_All.l0 k x0 x1 x2 (wrap64 (x7 + 1))))) else (none)) else (some true)
def earshotref02_All.f (k : Nat) (l0 : List Int) (a1 : Int) (a2 : Int) : Option (Bool) := earshotref02_All.l0 k l0 a1 a2 0
theorem earshotref02_All.mono_l : ∀ k, (∀ y0 y1 y2 y3, LeO (earshotref02_All.l0 k y0 y1 y2 y3) (earshotref02_All.l0 (k + 1) y0 y1 y2 y3))
 | 0 => fun _ _ _ _ r h => by simp [earshotref02_All.l0] at h
 | k + 1 => by
  have ih0 := earshotref02_All.mono_l k
  ·intro y0 y1 y2 y3
   unfold earshotref02_All.l0
   repeat' first
   | (with_reducible exact ih0 _ _ _ _)
   | (with_reducible exact LeO.refl _)
   | (with_reducible exact LeO.none _)
   | (with_reducible refine LeO.ite ?_ ?_)
   | (with_reducible refine LeO.bind ?_ (fun _ => ?_))
   | exact ih0 _ _ _ _
   | exact LeO.none _
   | refine LeO.ite ?_ ?_
   | refine LeO.bind ?_ (fun _ => ?_)
theorem earshotref02_All.mono : ∀ a0 a1 a2 k, LeO (earshotref02_All.f k a0 a1 a2) (earshotref02_All.f (k + 1) a0 a1 a2) := by
 intro a0 a1 a2 k
 have ih0 := earshotref02_All.mono_l k
 unfold earshotref02_All.f
 repeat' first
   | (with_reducible exact ih0 _ _ _ _)
   | (with_reducible exact LeO.refl _)
   | (with_reducible exact LeO.none _)
   | (with_reducible refine LeO.ite ?_ ?_)
   | (with_reducible refine LeO.bind ?_ (fun _ => ?_))
   | exact ih0 _ _ _ _
   | exact LeO.none _
   | refine LeO.ite ?_ ?_
   | refine LeO.bind ?_ (fun _ => ?_)
set_option maxHeartbeats 8000000 in
set_option maxRecDepth 100000 in
theorem earshotref02_All.calls (k : Nat) (A0 : Option Addr) (c0 : Nat) (l0 : List Int) (a1 : Int) (a2 : Int) (r : Bool) (w : World) (hr0 : Kd.C (Kd.int .i64) w A0 l0.length l0) (hc0 : l0.length ≤ c0) (h : earshotref02_All.f k l0 a1 a2 = some r) :
  Calls Tryd.prog 25 #[.slice A0 l0.length c0, .int .i64 a1, .int .i64 a2] w fun e w' => e = .returned (.bool r) ∧ Drawn0 w w' := by
 have HR0 := Aside0.mk hr0
 have HC0 := Aside0.mk hc0
 clear hr0 hc0
 have H : (earshotref02_All.l0 k l0 a1 a2 0) = some r := h
 clear h
 have H' := Aside0.mk H
 clear H
 go_enter Tryd.func25, Tryd.ntmps25
 go_wp2
 go_loopg [7] k (fun kq v7 w' => ∃ (x7_1 : Int), v7 = .int .i64 x7_1 ∧ Aside0 (earshotref02_All.l0 kq l0 a1 a2 x7_1 = some r) ∧ Aside0 (kq ≤ k) ∧ Drawn0 w w')
 case atStart => exact ⟨(0), (by first | rfl | (simp; done) | (simp only [i64_w]; done) | (simp [*]; done)), H', ⟨Nat.le_refl _⟩, by repeat (first | exact Drawn0.refl _ | apply Drawn0.step)⟩
 case round =>
  clear H'
  try clear c2
  try clear p2
  obtain ⟨x7_1, rfl, HA, HK1, ⟨m1, rfl⟩⟩ := hrel
  cases gk with
  | zero => exact absurd HA.out (by simp [earshotref02_All.l0])
  | succ k1 =>
   have H := HA.out
   clear HA
   simp only [earshotref02_All.l0] at H
   by_cases c4 : x7_1 < (l0.length : Int)
   ·rw [if_pos c4] at H
    have c4b0 : decide (x7_1 < (l0.length : Int)) = true := decide_eq_true c4
    clear c4
    by_cases c5 : 0 ≤ x7_1
    ·rw [if_pos c5] at H
     have c5b0 : decide (0 ≤ x7_1) = true := decide_eq_true c5
     clear c5
     by_cases c6 : (rd l0 x7_1) < a1
     ·rw [if_pos c6] at H
      have c6b0 : decide ((rd l0 x7_1) < a1) = true := decide_eq_true c6
      clear c6
      obtain rfl := Option.some.inj H
      have p101 : 0 ≤ (x7_1 : Int) := of_decide_eq_true (by first | (with_reducible assumption) | assumption)
      have q101 : x7_1 < (l0.length : Int) := of_decide_eq_true (by first | (with_reducible assumption) | assumption)
      obtain ⟨ad101, e101, hx101_0⟩ := Kd.at_int HR0.out x7_1 p101 q101
      cases e101
      replace p101 := eq_true p101
      replace q101 := eq_true q101
      go_wp2
      go_ret
      exact ⟨by first | rfl | (simp; done) | (simp [*]; done), by repeat (first | exact Drawn0.refl _ | apply Drawn0.step)⟩
     ·rw [if_neg c6] at H
      have c6b0 : decide ((rd l0 x7_1) < a1) = false := decide_eq_false c6
      clear c6
      by_cases c7 : (rd l0 x7_1) > a2
      ·rw [if_pos c7] at H
       have c7b0 : decide (a2 < (rd l0 x7_1)) = true := decide_eq_true c7
       clear c7
       obtain rfl := Option.some.inj H
       have p101 : 0 ≤ (x7_1 : Int) := of_decide_eq_true (by first | (with_reducible assumption) | assumption)
       have q101 : x7_1 < (l0.length : Int) := of_decide_eq_true (by first | (with_reducible assumption) | assumption)
       obtain ⟨ad101, e101, hx101_0⟩ := Kd.at_int HR0.out x7_1 p101 q101
       cases e101
       replace p101 := eq_true p101
       replace q101 := eq_true q101
       have p102 : 0 ≤ (x7_1 : Int) := of_decide_eq_true (by first | (with_reducible assumption) | assumption)
       have q102 : x7_1 < (l0.length : Int) := of_decide_eq_true (by first | (with_reducible assumption) | assumption)
       obtain ⟨ad102, e102, hx102_0⟩ := Kd.at_int HR0.out x7_1 p102 q102
       obtain rfl : ad101 = ad102 := (by injection e102)
       replace p102 := eq_true p102
       replace q102 := eq_true q102
       go_wp2
       go_ret
       exact ⟨by first | rfl | (simp; done) | (simp [*]; done), by repeat (first | exact Drawn0.refl _ | apply Drawn0.step)⟩
      ·rw [if_neg c7] at H
       have c7b0 : decide (a2 < (rd l0 x7_1)) = false := decide_eq_false c7
       clear c7
       have H' := Aside0.mk H
       clear H
       have p101 : 0 ≤ (x7_1 : Int) := of_decide_eq_true (by first | (with_reducible assumption) | assumption)
       have q101 : x7_1 < (l0.length : Int) := of_decide_eq_true (by first | (with_reducible assumption) | assumption)
       obtain ⟨ad101, e101, hx101_0⟩ := Kd.at_int HR0.out x7_1 p101 q101
       cases e101
       replace p101 := eq_true p101
       replace q101 := eq_true q101
       have p102 : 0 ≤ (x7_1 : Int) := of_decide_eq_true (by first | (with_reducible assumption) | assumption)
       have q102 : x7_1 < (l0.length : Int) := of_decide_eq_true (by first | (with_reducible assumption) | assumption)
       obtain ⟨ad102, e102, hx102_0⟩ := Kd.at_int HR0.out x7_1 p102 q102
       obtain rfl : ad101 = ad102 := (by injection e102)
       replace p102 := eq_true p102
       replace q102 := eq_true q102
       go_wp2
       go_roundg k1
       case measure => have := HK1.out; omega
       case rel => exact ⟨(wrap64 (x7_1 + 1)), (by first | rfl | (simp; done) | (simp only [i64_w]; done) | (simp [*]; done)), H', ⟨by have := HK1.out; omega⟩, by repeat (first | exact Drawn0.refl _ | apply Drawn0.step)⟩
    ·rw [if_neg c5] at H
     exact absurd H (by simp)
   ·rw [if_neg c4] at H
    have c4b0 : decide (x7_1 < (l0.length : Int)) = false := decide_eq_false c4
    clear c4
    obtain rfl := Option.some.inj H
    go_wp2
    go_ret
    exact ⟨by first | rfl | (simp; done) | (simp [*]; done), by repeat (first | exact Drawn0.refl _ | apply Drawn0.step)⟩

/-! ### earshotref02_Round: function 83 -/
def earshotref02_Round.f : Nat → Int → Int → Option (Int)
 | 0, _, _ => none
 | k + 1, a0, a1 => if a0 < 0 then ((earshotref02_Round.f k (wrap64 (-a0)) a1).bind fun t101 => (some (wrap64 (-t101)))) else (if (wrap64 (2 * a1)) = 0 then (none) else (some (wrap64 (Int.tdiv (wrap64 ((wrap64 (2 * a0)) + a1)) (wrap64 (2 * a1))))))
theorem earshotref02_Round.mono_l : ∀ k, (∀ y0 y1, LeO (earshotref02_Round.f k y0 y1) (earshotref02_Round.f (k + 1) y0 y1))
 | 0 => fun _ _ r h => by simp [earshotref02_Round.f] at h
 | k + 1 => by
  have ih0 := earshotref02_Round.mono_l k
  ·intro y0 y1
   unfold earshotref02_Round.f
   repeat' first
   | (with_reducible exact ih0 _ _)
   | (with_reducible exact LeO.refl _)
   | (with_reducible exact LeO.none _)
   | (with_reducible refine LeO.ite ?_ ?_)
   | (with_reducible refine LeO.bind ?_ (fun _ => ?_))
   | exact ih0 _ _
   | exact LeO.none _
   | refine LeO.ite ?_ ?_
   | refine LeO.bind ?_ (fun _ => ?_)
theorem earshotref02_Round.mono : ∀ a0 a1 k, LeO (earshotref02_Round.f k a0 a1) (earshotref02_Round.f (k + 1) a0 a1) := by
 intro a0 a1 k
 have ih0 := earshotref02_Round.mono_l k
 exact ih0 a0 a1
set_option maxHeartbeats 8000000 in
set_option maxRecDepth 100000 in
theorem earshotref02_Round.calls (k : Nat) : ∀ (a0 : Int) (a1 : Int) (r : Int) (w : World) (h : earshotref02_Round.f k a0 a1 = some r),
  Calls Tryd.prog 83 #[.int .i64 a0, .int .i64 a1] w fun e w' => e = .returned (.int .i64 r) ∧ Drawn0 w w' := by
 induction k using Nat.strongRecOn with
 | _ k ih =>
 intro a0 a1 r w h
 cases k with
 | zero => exact absurd h (by simp [earshotref02_Round.f])
 | succ k =>
 simp only [earshotref02_Round.f] at h
 have H : (if a0 < 0 then ((earshotref02_Round.f k (wrap64 (-a0)) a1).bind fun t101 => (some (wrap64 (-t101)))) else (if (wrap64 (2 * a1)) = 0 then (none) else (some (wrap64 (Int.tdiv (wrap64 ((wrap64 (2 * a0)) + a1)) (wrap64 (2 * a1))))))) = some r := h
 clear h
 by_cases c3 : a0 < 0
 ·rw [if_pos c3] at H
  have c3b0 : decide (a0 < 0) = true := decide_eq_true c3
  clear c3
  replace H := Option.bind_eq_some_iff.mp H
  obtain ⟨t101, A40, H⟩ := H
  replace H : (some (wrap64 (-t101))) = some r := H
  have A4 := Aside0.mk A40
  clear A40
  obtain rfl := Option.some.inj H
  go_enter Tryd.func83, Tryd.ntmps83
  go_wp2_with (first | ((with_reducible refine gate_callee (f := 83) rfl ?_); refine goesL_ (some 10) rfl rfl Tryd.func83 (by kernel_rfl) rfl #[.int .i64 (wrap64 (-a0)), .int .i64 a1] rfl (by (try simp only [List.map_toArray, List.map_cons, List.map_nil]); first | done | rfl | (simp only [List.length_drop, List.length_take]; rfl)) ?_; (with_reducible refine (ih k (by omega) (wrap64 (-a0)) a1 t101 _ A4.out).mono ?_); rintro e w' ⟨rfl, ⟨nd, rfl⟩⟩; refine ⟨_, rfl, ?_⟩))
  go_ret
  exact ⟨by first | rfl | (simp; done) | (simp [*]; done), by repeat (first | exact Drawn0.refl _ | apply Drawn0.step)⟩
 ·rw [if_neg c3] at H
  have c3b0 : decide (a0 < 0) = false := decide_eq_false c3
  clear c3
  by_cases c5 : (wrap64 (2 * a1)) = 0
  ·rw [if_pos c5] at H
   exact absurd H (by simp)
  ·rw [if_neg c5] at H
   have c5b0 : ((wrap64 (2 * a1)) == 0) = false := beq_eq_false_iff_ne.mpr c5
   have c5b1 : ((wrap64 (2 * a1)) != 0) = true := bne_iff_ne.mpr c5
   obtain rfl := Option.some.inj H
   go_enter Tryd.func83, Tryd.ntmps83
   go_wp2
   go_ret
   exact ⟨by first | rfl | (simp; done) | (simp [*]; done), by repeat (first | exact Drawn0.refl _ | apply Drawn0.step)⟩

/-! ### earshotref03_Inverse: function 27 -/
mutual
def earshotref03_Inverse.l0 : Nat → List Int → Int → List Int → Int → Option (List Int)
 | 0, _, _, _, _ => none
 | k + 1, x0, x3, x4, x5 => if x5 < x3 then (if 0 < (x0.length : Int) then (earshotref03_Inverse.l1 k x0 x3 x4 x5 (wrap64 (16384 * (rd x0 0))) 1) else (none)) else (some x4)
def earshotref03_Inverse.l1 : Nat → List Int → Int → List Int → Int → Int → Int → Option (List Int)
 | 0, _, _, _, _, _, _ => none
 | k + 1, x0, x3, x4, x5, x6, x7 => if x7 < x3 then (if 0 ≤ x7 then (if x7 < (x0.length : Int) then (if x3 = 0 then (none) else ((earshotref03_C.f (wrap64 ((wrap64 ((wrap64 ((wrap64 (2 * x5)) + 1)) * x7)) * (wrap64 ((64 : Int) / x3))))).bind fun t106 => (earshotref03_Inverse.l1 k x0 x3 x4 x5 (wrap64 (x6 + (wrap64 ((wrap64 (2 * (rd x0 x7))) * t106)))) (wrap64 (x7 + 1))))) else (none)) else (none)) else ((earshotref02_Round.f k x6 (wrap64 (x3 * 268435456))).bind fun t107 => (if 0 ≤ x5 then (if x5 < (x4.length : Int) then (earshotref03_Inverse.l0 k x0 x3 (x4.set (x5 : Int).toNat t107) (wrap64 (x5 + 1))) else (none)) else (none)))
end
def earshotref03_Inverse.f (k : Nat) (l0 : List Int) : Option (List Int) := if 0 ≤ (l0.length : Int) then (if ((l0.length : Int) : Int).toNat ≤ 35184372088832 then (earshotref03_Inverse.l0 k l0 (l0.length : Int) (List.replicate ((l0.length : Int) : Int).toNat 0) 0) else (none)) else (none)
theorem earshotref03_Inverse.mono_l : ∀ k, (∀ y0 y1 y2 y3, LeO (earshotref03_Inverse.l0 k y0 y1 y2 y3) (earshotref03_Inverse.l0 (k + 1) y0 y1 y2 y3)) ∧ (∀ y0 y1 y2 y3 y4 y5, LeO (earshotref03_Inverse.l1 k y0 y1 y2 y3 y4 y5) (earshotref03_Inverse.l1 (k + 1) y0 y1 y2 y3 y4 y5))
 | 0 => ⟨fun _ _ _ _ r h => by simp [earshotref03_Inverse.l0] at h, fun _ _ _ _ _ _ r h => by simp [earshotref03_Inverse.l1] at h⟩
 | k + 1 => by
  obtain ⟨ih0, ih1⟩ := earshotref03_Inverse.mono_l k
  refine ⟨?_, ?_⟩
  ·intro y0 y1 y2 y3
   unfold earshotref03_Inverse.l0
   repeat' first
   | (with_reducible exact ih0 _ _ _ _)
   | (with_reducible exact ih1 _ _ _ _ _ _)
   | (with_reducible exact earshotref02_Round.mono _ _ _)
   | (with_reducible exact LeO.refl _)
   | (with_reducible exact LeO.none _)
   | (with_reducible refine LeO.ite ?_ ?_)
   | (with_reducible refine LeO.bind ?_ (fun _ => ?_))
   | exact ih0 _ _ _ _
   | exact ih1 _ _ _ _ _ _
   | exact earshotref02_Round.mono _ _ _
   | exact LeO.none _
   | refine LeO.ite ?_ ?_
   | refine LeO.bind ?_ (fun _ => ?_)
  ·intro y0 y1 y2 y3 y4 y5
   unfold earshotref03_Inverse.l1
   repeat' first
   | (with_reducible exact ih0 _ _ _ _)
   | (with_reducible exact ih1 _ _ _ _ _ _)
   | (with_reducible exact earshotref02_Round.mono _ _ _)
   | (with_reducible exact LeO.refl _)
   | (with_reducible exact LeO.none _)
   | (with_reducible refine LeO.ite ?_ ?_)
   | (with_reducible refine LeO.bind ?_ (fun _ => ?_))
   | exact ih0 _ _ _ _
   | exact ih1 _ _ _ _ _ _
   | exact earshotref02_Round.mono _ _ _
   | exact LeO.none _
   | refine LeO.ite ?_ ?_
   | refine LeO.bind ?_ (fun _ => ?_)
theorem earshotref03_Inverse.mono : ∀ a0 k, LeO (earshotref03_Inverse.f k a0) (earshotref03_Inverse.f (k + 1) a0) := by
 intro a0 k
 obtain ⟨ih0, ih1⟩ := earshotref03_Inverse.mono_l k
 unfold earshotref03_Inverse.f
 repeat' first
   | (with_reducible exact ih0 _ _ _ _)
   | (with_reducible exact ih1 _ _ _ _ _ _)
   | (with_reducible exact earshotref02_Round.mono _ _ _)
   | (with_reducible exact LeO.refl _)
   | (with_reducible exact LeO.none _)
   | (with_reducible refine LeO.ite ?_ ?_)
   | (with_reducible refine LeO.bind ?_ (fun _ => ?_))
   | exact ih0 _ _ _ _
   | exact ih1 _ _ _ _ _ _
   | exact earshotref02_Round.mono _ _ _
   | exact LeO.none _
   | refine LeO.ite ?_ ?_
   | refine LeO.bind ?_ (fun _ => ?_)
set_option maxHeartbeats 8000000 in
set_option maxRecDepth 100000 in
theorem earshotref03_Inverse.calls (k : Nat) (A0 : Option Addr) (c0 : Nat) (l0 : List Int) (r : List Int) (w : World) (ht : Kd.C (Kd.int .i64) w (some ⟨0, 0, none⟩) 65 tabL) (hr0 : Kd.C (Kd.int .i64) w A0 l0.length l0) (hc0 : l0.length ≤ c0) (h : earshotref03_Inverse.f k l0 = some r) :
  Calls Tryd.prog 27 #[.slice A0 l0.length c0] w fun e w' => ∃ v0_ : Value, e = .returned (v0_) ∧ Kd.R (Kd.int .i64) 3 w' w.heap.size (fun _ => True) v0_ r ∧ Below w.heap.size w w' := by
 have HRT := Aside0.mk ht
 clear ht
 have HR0 := Aside0.mk hr0
 have HC0 := Aside0.mk hc0
 clear hr0 hc0
 have HB := Aside0.mk (Below.refl w.heap.size w)
 have H : (if 0 ≤ (l0.length : Int) then (if ((l0.length : Int) : Int).toNat ≤ 35184372088832 then (earshotref03_Inverse.l0 k l0 (l0.length : Int) (List.replicate ((l0.length : Int) : Int).toNat 0) 0) else (none)) else (none)) = some r := h
 clear h
 by_cases c2 : 0 ≤ (l0.length : Int)
 ·rw [if_pos c2] at H
  have c2b0 := eq_true c2
  have c2b1 : decide (0 ≤ (l0.length : Int)) = true := decide_eq_true c2
  clear c2
  by_cases c3 : ((l0.length : Int) : Int).toNat ≤ 35184372088832
  ·rw [if_pos c3] at H
   have c3b0 := eq_true c3
   have c3b1 : decide (((l0.length : Int) : Int).toNat ≤ 35184372088832) = true := decide_eq_true c3
   clear c3
   obtain ⟨y101, hy101⟩ : ∃ y_ : List Int, y_ = (List.replicate ((l0.length : Int) : Int).toNat 0) := ⟨_, rfl⟩
   replace H : (earshotref03_Inverse.l0 k l0 (l0.length : Int) y101 0) = some r := by first | (rw [hy101]; with_reducible exact H) | (have H2_ := (Option.bind_some _ _).symm.trans H; rw [hy101]; with_reducible exact H2_) | (have H2_ := (Option.bind_some _ _).symm.trans H; with_reducible exact H2_) | with_reducible exact H | (rw [hy101]; exact H) | exact H
   have Ny101 := Aside0.mk hy101
   clear hy101
   have H' := Aside0.mk H
   clear H
   go_enter Tryd.func27, Tryd.ntmps27
   go_wp2_with (first | ((with_reducible refine gate_dst (N := 11) rfl ?_); refine Kd.R_make (Kd.int .i64) _ 3 rfl (N := 11) rfl 22 _ _ rfl (l0.length : Int) rfl rfl Tryd.underlying22 (.int .i64 0) 8 info3 rfl (by decide) (by omega) 0 (ok := fun _ => True) (okp := fun _ => True) rfl (fun _ hk => hk) trivial (of_decide_eq_true (by first | (with_reducible assumption) | assumption)) (Nat.le_trans (Nat.mul_le_mul_right _ (of_decide_eq_true (by first | (with_reducible assumption) | assumption) : (l0.length : Int).toNat ≤ 35184372088832)) (by omega)) (Below.refl _ _) (Nat.le_refl _) ?_; intro v102 w4 ho5 hb hg_ hnew_; clear hg_ hnew_; (first | rw [← Ny101.out] at ho5 | (simp only [Int.reduceToNat] at ho5; rw [← Ny101.out] at ho5)); have n0_ := Aside0.mk (Kd.R_lower ho5 (below_size (by repeat (first | (with_reducible first | exact HB.out | apply below_alloc | apply pw_below_drewN | apply below_drew1) | exact HB.out)))); have n1_ := Aside0.mk (below_step (by repeat (first | (with_reducible first | exact HB.out | apply below_alloc | apply pw_below_drewN | apply below_drew1) | exact HB.out)) hb); clear HB; have HO103 := n0_; have HB := n1_; clear n0_ n1_; clear hb ho5))
   repeat (go_quiet (first | ((with_reducible refine gate_dst (N := 11) rfl ?_); refine Kd.R_make (Kd.int .i64) _ 3 rfl (N := 11) rfl 22 _ _ rfl (l0.length : Int) rfl rfl Tryd.underlying22 (.int .i64 0) 8 info3 rfl (by decide) (by omega) 0 (ok := fun _ => True) (okp := fun _ => True) rfl (fun _ hk => hk) trivial (of_decide_eq_true (by first | (with_reducible assumption) | assumption)) (Nat.le_trans (Nat.mul_le_mul_right _ (of_decide_eq_true (by first | (with_reducible assumption) | assumption) : (l0.length : Int).toNat ≤ 35184372088832)) (by omega)) (Below.refl _ _) (Nat.le_refl _) ?_; intro v102 w4 ho5 hb hg_ hnew_; clear hg_ hnew_; (first | rw [← Ny101.out] at ho5 | (simp only [Int.reduceToNat] at ho5; rw [← Ny101.out] at ho5)); have n0_ := Aside0.mk (Kd.R_lower ho5 (below_size (by repeat (first | (with_reducible first | exact HB.out | apply below_alloc | apply pw_below_drewN | apply below_drew1) | exact HB.out)))); have n1_ := Aside0.mk (below_step (by repeat (first | (with_reducible first | exact HB.out | apply below_alloc | apply pw_below_drewN | apply below_drew1) | exact HB.out)) hb); clear HB; have HO103 := n0_; have HB := n1_; clear n0_ n1_; clear hb ho5)); try go_wp2_with (first | ((with_reducible refine gate_dst (N := 11) rfl ?_); refine Kd.R_make (Kd.int .i64) _ 3 rfl (N := 11) rfl 22 _ _ rfl (l0.length : Int) rfl rfl Tryd.underlying22 (.int .i64 0) 8 info3 rfl (by decide) (by omega) 0 (ok := fun _ => True) (okp := fun _ => True) rfl (fun _ hk => hk) trivial (of_decide_eq_true (by first | (with_reducible assumption) | assumption)) (Nat.le_trans (Nat.mul_le_mul_right _ (of_decide_eq_true (by first | (with_reducible assumption) | assumption) : (l0.length : Int).toNat ≤ 35184372088832)) (by omega)) (Below.refl _ _) (Nat.le_refl _) ?_; intro v102 w4 ho5 hb hg_ hnew_; clear hg_ hnew_; (first | rw [← Ny101.out] at ho5 | (simp only [Int.reduceToNat] at ho5; rw [← Ny101.out] at ho5)); have n0_ := Aside0.mk (Kd.R_lower ho5 (below_size (by repeat (first | (with_reducible first | exact HB.out | apply below_alloc | apply pw_below_drewN | apply below_drew1) | exact HB.out)))); have n1_ := Aside0.mk (below_step (by repeat (first | (with_reducible first | exact HB.out | apply below_alloc | apply pw_below_drewN | apply below_drew1) | exact HB.out)) hb); clear HB; have HO103 := n0_; have HB := n1_; clear n0_ n1_; clear hb ho5)))
   go_loopg [5] k (fun kq v5 w' => ∃ (x4_1 : List Int) (x5_1 : Int), v5 = .int .i64 x5_1 ∧ Aside0 (earshotref03_Inverse.l0 kq l0 (l0.length : Int) x4_1 x5_1 = some r) ∧ Aside0 (kq ≤ k) ∧ Aside0 (Kd.R (Kd.int .i64) 3 w' w.heap.size (fun _ => True) v102 x4_1) ∧ Aside0 (Below w.heap.size w w'))
   case atStart => exact ⟨(y101), (0), (by first | rfl | (simp; done) | (simp only [i64_w]; done) | (simp [*]; done)), H', ⟨Nat.le_refl _⟩, ⟨by (with_reducible repeat (first | apply Kd.R_alloc | apply Kd.R_drewN | apply Kd.R_drew)); exact HO103.out⟩, ⟨by repeat (first | (with_reducible first | exact HB.out | apply below_alloc | apply pw_below_drewN | apply below_drew1) | exact HB.out)⟩⟩
   case round =>
    clear H'
    try clear c2
    try clear c2b0
    try clear c2b1
    try clear p2
    try clear c3
    try clear c3b0
    try clear c3b1
    obtain ⟨x4_1, x5_1, rfl, HA, HK1, HO_4, HB⟩ := hrel
    cases gk with
    | zero => exact absurd HA.out (by simp [earshotref03_Inverse.l0])
    | succ k1 =>
     have H := HA.out
     clear HA
     simp only [earshotref03_Inverse.l0] at H
     by_cases c6 : x5_1 < (l0.length : Int)
     ·rw [if_pos c6] at H
      have c6b0 : decide (x5_1 < (l0.length : Int)) = true := decide_eq_true c6
      clear c6
      by_cases c7 : 0 < (l0.length : Int)
      ·rw [if_pos c7] at H
       have c7b0 : decide (0 < (l0.length : Int)) = true := decide_eq_true c7
       have c7b1 : decide (0 < l0.length) = true := decide_eq_true (by omega)
       clear c7
       have H' := Aside0.mk H
       clear H
       have p104 : 0 ≤ (0 : Int) := (by omega)
       have q104 : 0 < (l0.length : Int) := of_decide_eq_true (by first | (with_reducible assumption) | assumption)
       obtain ⟨ad104, e104, hx104_0⟩ := Kd.at_int HR0.out 0 p104 q104
       cases e104
       have qi104 : (0 < l0.length) = True := eq_true (by omega)
       (try rw [show ((0 : Int)).toNat = 0 from rfl] at hx104_0)
       (try rw [Addr.add_zero'] at hx104_0)
       replace hx104_0 := (HB.out.cell (World.block_lt_of_cell? w _ hx104_0)).trans hx104_0
       replace p104 := eq_true p104
       replace q104 := eq_true q104
       go_wp2
       repeat (go_quiet (fail); try go_wp2)
       go_loopg [6, 7] k1 (fun kq v6 v7 w' => ∃ (x6_2 : Int) (x7_2 : Int), v6 = .int .i64 x6_2 ∧ v7 = .int .i64 x7_2 ∧ Aside0 (earshotref03_Inverse.l1 kq l0 (l0.length : Int) x4_1 x5_1 x6_2 x7_2 = some r) ∧ Aside0 (kq ≤ k1) ∧ Aside0 (Kd.R (Kd.int .i64) 3 w' w.heap.size (fun _ => True) v102 x4_1) ∧ Aside0 (Below w.heap.size w w'))
       case atStart => exact ⟨(wrap64 (16384 * (rd l0 0))), (1), (by first | rfl | (simp; done) | (simp only [i64_w]; done) | (simp [*]; done)), (by first | rfl | (simp; done) | (simp only [i64_w]; done) | (simp [*]; done)), H', ⟨Nat.le_refl _⟩, ⟨by (with_reducible repeat (first | apply Kd.R_alloc | apply Kd.R_drewN | apply Kd.R_drew)); exact HO_4.out⟩, ⟨by repeat (first | (with_reducible first | exact HB.out | apply below_alloc | apply pw_below_drewN | apply below_drew1) | exact HB.out)⟩⟩
       case round =>
        clear H'
        try clear p1
        try clear q1
        try clear hx1
        try clear qi1
        try clear c2
        try clear c2b0
        try clear c2b1
        try clear p2
        try clear c3
        try clear c3b0
        try clear c3b1
        try clear c6
        try clear c6b0
        try clear p6
        try clear c7
        try clear c7b0
        try clear c7b1
        try clear hx104_0
        try clear p104
        try clear p2
        try clear q104
        obtain ⟨x6_2, x7_2, rfl, rfl, HA, HK2, HO_4, HB⟩ := hrel
        cases gk with
        | zero => exact absurd HA.out (by simp [earshotref03_Inverse.l1])
        | succ k2 =>
         have H := HA.out
         clear HA
         simp only [earshotref03_Inverse.l1] at H
         by_cases c8 : x7_2 < (l0.length : Int)
         ·rw [if_pos c8] at H
          have c8b0 : decide (x7_2 < (l0.length : Int)) = true := decide_eq_true c8
          clear c8
          by_cases c9 : 0 ≤ x7_2
          ·rw [if_pos c9] at H
           have c9b0 : decide (0 ≤ x7_2) = true := decide_eq_true c9
           clear c9
           by_cases c10 : x7_2 < (l0.length : Int)
           ·rw [if_pos c10] at H
            have c10b0 : decide (x7_2 < (l0.length : Int)) = true := decide_eq_true c10
            clear c10
            by_cases c11 : (l0.length : Int) = 0
            ·rw [if_pos c11] at H
             exact absurd H (by simp)
            ·rw [if_neg c11] at H
             have c11b0 : ((l0.length : Int) == 0) = false := beq_eq_false_iff_ne.mpr c11
             have c11b1 : ((l0.length : Int) != 0) = true := bne_iff_ne.mpr c11
             have c11b2 : ¬ (l0 = []) := fun h_ => c11 (by rw [h_]; rfl)
             replace H := Option.bind_eq_some_iff.mp H
             obtain ⟨t106, A120, H⟩ := H
             replace H : (earshotref03_Inverse.l1 k2 l0 (l0.length : Int) x4_1 x5_1 (wrap64 (x6_2 + (wrap64 ((wrap64 (2 * (rd l0 x7_2))) * t106)))) (wrap64 (x7_2 + 1))) = some r := H
             have A12 := Aside0.mk A120
             clear A120
             have A12z := Aside0.mk (by have z := A12.out; rw [wrap_quo64 _ c11] at z; exact z)
             clear A12
             have A12 := A12z
             clear A12z
             have H' := Aside0.mk H
             clear H
             have p105 : 0 ≤ (x7_2 : Int) := of_decide_eq_true (by first | (with_reducible assumption) | assumption)
             have q105 : x7_2 < (l0.length : Int) := of_decide_eq_true (by first | (with_reducible assumption) | assumption)
             obtain ⟨ad105, e105, hx105_0⟩ := Kd.at_int HR0.out x7_2 p105 q105
             obtain rfl : ad104 = ad105 := (by injection e105)
             replace hx105_0 := (HB.out.cell (World.block_lt_of_cell? w _ hx105_0)).trans hx105_0
             replace p105 := eq_true p105
             replace q105 := eq_true q105
             go_wp2_with (first | (go_at_call 48; (with_reducible refine (earshotref03_C.calls (wrap64 ((wrap64 ((wrap64 ((wrap64 (2 * x5_1)) + 1)) * x7_2)) * ((64 : Int) / (l0.length : Int)))) t106 _ ?side1 A12.out).mono ?_); (case side1 => repeat (first | exact (Kd.C_below HRT.out HB.out) | (with_reducible refine Kd.C_alloc ?_ _) | (with_reducible refine Kd.C_drewN ?_ _) | (with_reducible refine Kd.C_drew ?_))); rintro e w' ⟨rfl, ⟨nd, rfl⟩⟩; (try first | exact ⟨rfl, _, World.drewN_drewN _ _ _⟩ | exact ⟨rfl, _, Eq.trans (World.drewN_drewN _ _ _) (congrArg (World.drewN _) (Nat.add_assoc _ _ _))⟩)))
             repeat (go_quiet (first | (go_at_call 48; (with_reducible refine (earshotref03_C.calls (wrap64 ((wrap64 ((wrap64 ((wrap64 (2 * x5_1)) + 1)) * x7_2)) * ((64 : Int) / (l0.length : Int)))) t106 _ ?side1 A12.out).mono ?_); (case side1 => repeat (first | exact (Kd.C_below HRT.out HB.out) | (with_reducible refine Kd.C_alloc ?_ _) | (with_reducible refine Kd.C_drewN ?_ _) | (with_reducible refine Kd.C_drew ?_))); rintro e w' ⟨rfl, ⟨nd, rfl⟩⟩; (try first | exact ⟨rfl, _, World.drewN_drewN _ _ _⟩ | exact ⟨rfl, _, Eq.trans (World.drewN_drewN _ _ _) (congrArg (World.drewN _) (Nat.add_assoc _ _ _))⟩))); try go_wp2_with (first | (go_at_call 48; (with_reducible refine (earshotref03_C.calls (wrap64 ((wrap64 ((wrap64 ((wrap64 (2 * x5_1)) + 1)) * x7_2)) * ((64 : Int) / (l0.length : Int)))) t106 _ ?side1 A12.out).mono ?_); (case side1 => repeat (first | exact (Kd.C_below HRT.out HB.out) | (with_reducible refine Kd.C_alloc ?_ _) | (with_reducible refine Kd.C_drewN ?_ _) | (with_reducible refine Kd.C_drew ?_))); rintro e w' ⟨rfl, ⟨nd, rfl⟩⟩; (try first | exact ⟨rfl, _, World.drewN_drewN _ _ _⟩ | exact ⟨rfl, _, Eq.trans (World.drewN_drewN _ _ _) (congrArg (World.drewN _) (Nat.add_assoc _ _ _))⟩))))
             go_roundg k2
             case measure => have := HK1.out; have := HK2.out; omega
             case rel => exact ⟨(wrap64 (x6_2 + (wrap64 ((wrap64 (2 * (rd l0 x7_2))) * t106)))), (wrap64 (x7_2 + 1)), (by first | rfl | (simp; done) | (simp only [i64_w]; done) | (simp [*]; done)), (by first | rfl | (simp; done) | (simp only [i64_w]; done) | (simp [*]; done)), H', ⟨by have := HK1.out; have := HK2.out; omega⟩, ⟨by (with_reducible repeat (first | apply Kd.R_alloc | apply Kd.R_drewN | apply Kd.R_drew)); exact HO_4.out⟩, ⟨by repeat (first | (with_reducible first | exact HB.out | apply below_alloc | apply pw_below_drewN | apply below_drew1) | exact HB.out)⟩⟩
           ·rw [if_neg c10] at H
            exact absurd H (by simp)
          ·rw [if_neg c9] at H
           exact absurd H (by simp)
         ·rw [if_neg c8] at H
          have c8b0 : decide (x7_2 < (l0.length : Int)) = false := decide_eq_false c8
          clear c8
          replace H := Option.bind_eq_some_iff.mp H
          obtain ⟨t107, A130, H⟩ := H
          replace H : (if 0 ≤ x5_1 then (if x5_1 < (x4_1.length : Int) then (earshotref03_Inverse.l0 k2 l0 (l0.length : Int) (x4_1.set (x5_1 : Int).toNat t107) (wrap64 (x5_1 + 1))) else (none)) else (none)) = some r := H
          have A13 := Aside0.mk A130
          clear A130
          by_cases c14 : 0 ≤ x5_1
          ·rw [if_pos c14] at H
           have c14b0 : decide (0 ≤ x5_1) = true := decide_eq_true c14
           clear c14
           by_cases c15 : x5_1 < (x4_1.length : Int)
           ·rw [if_pos c15] at H
            have c15b0 : decide (x5_1 < (x4_1.length : Int)) = true := decide_eq_true c15
            clear c15
            obtain ⟨y108, hy108⟩ : ∃ y_ : List Int, y_ = (x4_1.set (x5_1 : Int).toNat t107) := ⟨_, rfl⟩
            replace H : (earshotref03_Inverse.l0 k2 l0 (l0.length : Int) y108 (wrap64 (x5_1 + 1))) = some r := by first | (rw [hy108]; with_reducible exact H) | (have H2_ := (Option.bind_some _ _).symm.trans H; rw [hy108]; with_reducible exact H2_) | (have H2_ := (Option.bind_some _ _).symm.trans H; with_reducible exact H2_) | with_reducible exact H | (rw [hy108]; exact H) | exact H
            have Ny108 := Aside0.mk hy108
            clear hy108
            have H' := Aside0.mk H
            clear H
            go_wp2_with (first | (go_at_call 83; (with_reducible refine (earshotref02_Round.calls k2 x6_2 (wrap64 ((l0.length : Int) * 268435456)) t107 _ A13.out).mono ?_); rintro e w' ⟨rfl, ⟨nd, rfl⟩⟩; (try first | exact ⟨rfl, _, World.drewN_drewN _ _ _⟩ | exact ⟨rfl, _, Eq.trans (World.drewN_drewN _ _ _) (congrArg (World.drewN _) (Nat.add_assoc _ _ _))⟩); have p16 : 0 ≤ (x5_1 : Int) := of_decide_eq_true (by first | (with_reducible assumption) | assumption); have q16 : (x5_1 : Int) < ((x4_1.length : Int) : Int) := of_decide_eq_true (by first | (with_reducible assumption) | assumption); obtain ⟨go16, co16, eo16, gb16, gl16, cl16, HG16⟩ := Kd.R_form HO_4.out (by omega); (first | cases eo16 | (injection eo16 with ea_ en_ ec_; (first | subst ea_ | (injection ea_ with ea_; subst ea_)); subst ec_; clear en_)); have GB16 := Aside0.mk gb16; have GG16 := Aside0.mk HG16; clear gb16 gl16 HG16; obtain ⟨hx16_0, hf16_0⟩ := Kd.R_celln 0 HO_4.out (x5_1 : Int) p16 q16; replace p16 := eq_true p16; replace q16 := eq_true q16; obtain ⟨hy17_, hz17_⟩ := Kd.R_celln 0 HO_4.out (x5_1 : Int) (of_decide_eq_true (by first | (with_reducible assumption) | assumption)) (of_decide_eq_true (by first | (with_reducible assumption) | assumption)); have HP17 := Kd.R_putg HO_4.out (x5_1 : Int) t107) | ((with_reducible refine gate_store (t := 3) (p := 49) rfl ?_); (try (rw [drewN_self wr]; generalize hq_ : World.drewN wr _ = wr; (try have hx16_0 := cell_at hq_ hx16_0); (try have hf16_0 := frozen_at hq_ hf16_0); have n0_ := Aside0.mk (Kd.R_at hq_ HO_4.out); have n1_ := Aside0.mk (below_at hq_ HB.out); clear hq_ HO_4 HB; have HO_4 := n0_; have HB := n1_; clear n0_ n1_; (try (obtain ⟨hy17_, hz17_⟩ := Kd.R_celln 0 HO_4.out (x5_1 : Int) (of_decide_eq_true (by first | (with_reducible assumption) | assumption)) (of_decide_eq_true (by first | (with_reducible assumption) | assumption)))); (try (have HP17 := Kd.R_putg HO_4.out (x5_1 : Int) t107)))); refine store_event (t := 3) (p := 49) (v := ?vo_w18) (w1 := (wr.setCell ⟨go16, (x5_1 : Int).toNat, none⟩ (.int .i64 t107))) ?hg ?ho ?hn ?hr ?_; (case ho => rfl); (case hg => rfl); (case hn => rfl); (case hr => first | (go_simp; done) | (go_simp; rfl)); intro w18 hw; have hg : wr.grownBy w18 (some go16) := (by rw [hw]; exact HP17.2); have hp_ : Kd.R (Kd.int .i64) 3 w18 w.heap.size (fun _ => True) (.slice (some ⟨go16, 0, none⟩) x4_1.length co16) y108 := (by rw [hw, Ny108.out]; exact HP17.1); clear HP17; have n0_ := Aside0.mk (hp_); have n1_ := Aside0.mk ((by rw [hw]; exact below_set (HB.out) GB16.out : Below w.heap.size w w18)); clear HO_4; clear HB; have HO_4 := n0_; have HB := n1_; clear n0_ n1_; clear hg hw hp_))
            repeat (go_quiet (first | (go_at_call 83; (with_reducible refine (earshotref02_Round.calls k2 x6_2 (wrap64 ((l0.length : Int) * 268435456)) t107 _ A13.out).mono ?_); rintro e w' ⟨rfl, ⟨nd, rfl⟩⟩; (try first | exact ⟨rfl, _, World.drewN_drewN _ _ _⟩ | exact ⟨rfl, _, Eq.trans (World.drewN_drewN _ _ _) (congrArg (World.drewN _) (Nat.add_assoc _ _ _))⟩); have p16 : 0 ≤ (x5_1 : Int) := of_decide_eq_true (by first | (with_reducible assumption) | assumption); have q16 : (x5_1 : Int) < ((x4_1.length : Int) : Int) := of_decide_eq_true (by first | (with_reducible assumption) | assumption); obtain ⟨go16, co16, eo16, gb16, gl16, cl16, HG16⟩ := Kd.R_form HO_4.out (by omega); (first | cases eo16 | (injection eo16 with ea_ en_ ec_; (first | subst ea_ | (injection ea_ with ea_; subst ea_)); subst ec_; clear en_)); have GB16 := Aside0.mk gb16; have GG16 := Aside0.mk HG16; clear gb16 gl16 HG16; obtain ⟨hx16_0, hf16_0⟩ := Kd.R_celln 0 HO_4.out (x5_1 : Int) p16 q16; replace p16 := eq_true p16; replace q16 := eq_true q16; obtain ⟨hy17_, hz17_⟩ := Kd.R_celln 0 HO_4.out (x5_1 : Int) (of_decide_eq_true (by first | (with_reducible assumption) | assumption)) (of_decide_eq_true (by first | (with_reducible assumption) | assumption)); have HP17 := Kd.R_putg HO_4.out (x5_1 : Int) t107) | ((with_reducible refine gate_store (t := 3) (p := 49) rfl ?_); (try (rw [drewN_self wr]; generalize hq_ : World.drewN wr _ = wr; (try have hx16_0 := cell_at hq_ hx16_0); (try have hf16_0 := frozen_at hq_ hf16_0); have n0_ := Aside0.mk (Kd.R_at hq_ HO_4.out); have n1_ := Aside0.mk (below_at hq_ HB.out); clear hq_ HO_4 HB; have HO_4 := n0_; have HB := n1_; clear n0_ n1_; (try (obtain ⟨hy17_, hz17_⟩ := Kd.R_celln 0 HO_4.out (x5_1 : Int) (of_decide_eq_true (by first | (with_reducible assumption) | assumption)) (of_decide_eq_true (by first | (with_reducible assumption) | assumption)))); (try (have HP17 := Kd.R_putg HO_4.out (x5_1 : Int) t107)))); refine store_event (t := 3) (p := 49) (v := ?vo_w18) (w1 := (wr.setCell ⟨go16, (x5_1 : Int).toNat, none⟩ (.int .i64 t107))) ?hg ?ho ?hn ?hr ?_; (case ho => rfl); (case hg => rfl); (case hn => rfl); (case hr => first | (go_simp; done) | (go_simp; rfl)); intro w18 hw; have hg : wr.grownBy w18 (some go16) := (by rw [hw]; exact HP17.2); have hp_ : Kd.R (Kd.int .i64) 3 w18 w.heap.size (fun _ => True) (.slice (some ⟨go16, 0, none⟩) x4_1.length co16) y108 := (by rw [hw, Ny108.out]; exact HP17.1); clear HP17; have n0_ := Aside0.mk (hp_); have n1_ := Aside0.mk ((by rw [hw]; exact below_set (HB.out) GB16.out : Below w.heap.size w w18)); clear HO_4; clear HB; have HO_4 := n0_; have HB := n1_; clear n0_ n1_; clear hg hw hp_)); try go_wp2_with (first | (go_at_call 83; (with_reducible refine (earshotref02_Round.calls k2 x6_2 (wrap64 ((l0.length : Int) * 268435456)) t107 _ A13.out).mono ?_); rintro e w' ⟨rfl, ⟨nd, rfl⟩⟩; (try first | exact ⟨rfl, _, World.drewN_drewN _ _ _⟩ | exact ⟨rfl, _, Eq.trans (World.drewN_drewN _ _ _) (congrArg (World.drewN _) (Nat.add_assoc _ _ _))⟩); have p16 : 0 ≤ (x5_1 : Int) := of_decide_eq_true (by first | (with_reducible assumption) | assumption); have q16 : (x5_1 : Int) < ((x4_1.length : Int) : Int) := of_decide_eq_true (by first | (with_reducible assumption) | assumption); obtain ⟨go16, co16, eo16, gb16, gl16, cl16, HG16⟩ := Kd.R_form HO_4.out (by omega); (first | cases eo16 | (injection eo16 with ea_ en_ ec_; (first | subst ea_ | (injection ea_ with ea_; subst ea_)); subst ec_; clear en_)); have GB16 := Aside0.mk gb16; have GG16 := Aside0.mk HG16; clear gb16 gl16 HG16; obtain ⟨hx16_0, hf16_0⟩ := Kd.R_celln 0 HO_4.out (x5_1 : Int) p16 q16; replace p16 := eq_true p16; replace q16 := eq_true q16; obtain ⟨hy17_, hz17_⟩ := Kd.R_celln 0 HO_4.out (x5_1 : Int) (of_decide_eq_true (by first | (with_reducible assumption) | assumption)) (of_decide_eq_true (by first | (with_reducible assumption) | assumption)); have HP17 := Kd.R_putg HO_4.out (x5_1 : Int) t107) | ((with_reducible refine gate_store (t := 3) (p := 49) rfl ?_); (try (rw [drewN_self wr]; generalize hq_ : World.drewN wr _ = wr; (try have hx16_0 := cell_at hq_ hx16_0); (try have hf16_0 := frozen_at hq_ hf16_0); have n0_ := Aside0.mk (Kd.R_at hq_ HO_4.out); have n1_ := Aside0.mk (below_at hq_ HB.out); clear hq_ HO_4 HB; have HO_4 := n0_; have HB := n1_; clear n0_ n1_; (try (obtain ⟨hy17_, hz17_⟩ := Kd.R_celln 0 HO_4.out (x5_1 : Int) (of_decide_eq_true (by first | (with_reducible assumption) | assumption)) (of_decide_eq_true (by first | (with_reducible assumption) | assumption)))); (try (have HP17 := Kd.R_putg HO_4.out (x5_1 : Int) t107)))); refine store_event (t := 3) (p := 49) (v := ?vo_w18) (w1 := (wr.setCell ⟨go16, (x5_1 : Int).toNat, none⟩ (.int .i64 t107))) ?hg ?ho ?hn ?hr ?_; (case ho => rfl); (case hg => rfl); (case hn => rfl); (case hr => first | (go_simp; done) | (go_simp; rfl)); intro w18 hw; have hg : wr.grownBy w18 (some go16) := (by rw [hw]; exact HP17.2); have hp_ : Kd.R (Kd.int .i64) 3 w18 w.heap.size (fun _ => True) (.slice (some ⟨go16, 0, none⟩) x4_1.length co16) y108 := (by rw [hw, Ny108.out]; exact HP17.1); clear HP17; have n0_ := Aside0.mk (hp_); have n1_ := Aside0.mk ((by rw [hw]; exact below_set (HB.out) GB16.out : Below w.heap.size w w18)); clear HO_4; clear HB; have HO_4 := n0_; have HB := n1_; clear n0_ n1_; clear hg hw hp_)))
            go_roundg k2
            case measure => have := HK1.out; have := HK2.out; omega
            case rel => exact ⟨(y108), (wrap64 (x5_1 + 1)), (by first | rfl | (simp; done) | (simp only [i64_w]; done) | (simp [*]; done)), H', ⟨by have := HK1.out; have := HK2.out; omega⟩, ⟨by (with_reducible repeat (first | apply Kd.R_alloc | apply Kd.R_drewN | apply Kd.R_drew)); exact HO_4.out⟩, ⟨by repeat (first | (with_reducible first | exact HB.out | apply below_alloc | apply pw_below_drewN | apply below_drew1) | exact HB.out)⟩⟩
           ·rw [if_neg c15] at H
            exact absurd H (by simp)
          ·rw [if_neg c14] at H
           exact absurd H (by simp)
      ·rw [if_neg c7] at H
       exact absurd H (by simp)
     ·rw [if_neg c6] at H
      have c6b0 : decide (x5_1 < (l0.length : Int)) = false := decide_eq_false c6
      clear c6
      obtain rfl := Option.some.inj H
      go_wp2
      repeat (go_quiet (fail); try go_wp2)
      go_ret
      exact ⟨_, by first | rfl | (simp [errW_none, errW_some] <;> rfl) | (simp [*, errW_none, errW_some] <;> rfl), by (with_reducible repeat (first | apply Kd.R_alloc | apply Kd.R_drewN | apply Kd.R_drew)); exact HO_4.out, by repeat (first | (with_reducible first | exact HB.out | apply below_alloc | apply pw_below_drewN | apply below_drew1) | exact HB.out)⟩
  ·rw [if_neg c3] at H
   exact absurd H (by simp)
 ·rw [if_neg c2] at H
  exact absurd H (by simp)

/-! ### earshotlaw03_FeatureInverses: function 3 -/
def earshotlaw03_FeatureInverses.j0 : Nat → List Int → List Int → Int → Bool → Option (Bool)
 | 0, _, _, _, _ => none
 | k + 1, x0, x3, x4, x22 => if x22 = true then (if x4 = 2 then (if (x3.length : Int) = 0 then ((earshotlaw03_known.f k).bind fun t108 => (some t108)) else (some false)) else (some false)) else (if x4 = 0 then ((earshotref03_Inverse.f k x0).bind fun t109 => ((earshotref02_Same.f k x3 t109).bind fun t112 => (if t112 = true then ((earshotlaw03_known.f k).bind fun t113 => (some t113)) else (some false)))) else (some false))
def earshotlaw03_FeatureInverses.f (k : Nat) (l0 : List Int) : Option (Bool) := if (l0.length : Int) > 70 then ((earshotlaw03_known.f k).bind fun t101 => (some t101)) else ((feature_Inverse.f k l0).bind fun bt102 => ((earshotref03_Length.f (l0.length : Int)).bind fun t106 => (if t106 = true then ((earshotref02_All.f k l0 (-1099511627776) 1099511627776).bind fun t107 => (earshotlaw03_FeatureInverses.j0 k l0 bt102.1 bt102.2 (!t107))) else (earshotlaw03_FeatureInverses.j0 k l0 bt102.1 bt102.2 true))))
theorem earshotlaw03_FeatureInverses.mono_l : ∀ k, (∀ y0 y1 y2 y3, LeO (earshotlaw03_FeatureInverses.j0 k y0 y1 y2 y3) (earshotlaw03_FeatureInverses.j0 (k + 1) y0 y1 y2 y3))
 | 0 => fun _ _ _ _ r h => by simp [earshotlaw03_FeatureInverses.j0] at h
 | k + 1 => by
  have ih0 := earshotlaw03_FeatureInverses.mono_l k
  ·intro y0 y1 y2 y3
   unfold earshotlaw03_FeatureInverses.j0
   repeat' first
   | (with_reducible exact ih0 _ _ _ _)
   | (with_reducible exact earshotlaw03_known.mono _)
   | (with_reducible exact earshotref02_All.mono _ _ _ _)
   | (with_reducible exact earshotref02_Same.mono _ _ _)
   | (with_reducible exact earshotref03_Inverse.mono _ _)
   | (with_reducible exact feature_Inverse.mono _ _)
   | (with_reducible exact LeO.refl _)
   | (with_reducible exact LeO.none _)
   | (with_reducible refine LeO.ite ?_ ?_)
   | (with_reducible refine LeO.bind ?_ (fun _ => ?_))
   | exact ih0 _ _ _ _
   | exact earshotlaw03_known.mono _
   | exact earshotref02_All.mono _ _ _ _
   | exact earshotref02_Same.mono _ _ _
   | exact earshotref03_Inverse.mono _ _
   | exact feature_Inverse.mono _ _
   | exact LeO.none _
   | refine LeO.ite ?_ ?_
   | refine LeO.bind ?_ (fun _ => ?_)
theorem earshotlaw03_FeatureInverses.mono : ∀ a0 k, LeO (earshotlaw03_FeatureInverses.f k a0) (earshotlaw03_FeatureInverses.f (k + 1) a0) := by
 intro a0 k
 have ih0 := earshotlaw03_FeatureInverses.mono_l k
 unfold earshotlaw03_FeatureInverses.f
 repeat' first
   | (with_reducible exact ih0 _ _ _ _)
   | (with_reducible exact earshotlaw03_known.mono _)
   | (with_reducible exact earshotref02_All.mono _ _ _ _)
   | (with_reducible exact earshotref02_Same.mono _ _ _)
   | (with_reducible exact earshotref03_Inverse.mono _ _)
   | (with_reducible exact feature_Inverse.mono _ _)
   | (with_reducible exact LeO.refl _)
   | (with_reducible exact LeO.none _)
   | (with_reducible refine LeO.ite ?_ ?_)
   | (with_reducible refine LeO.bind ?_ (fun _ => ?_))
   | exact ih0 _ _ _ _
   | exact earshotlaw03_known.mono _
   | exact earshotref02_All.mono _ _ _ _
   | exact earshotref02_Same.mono _ _ _
   | exact earshotref03_Inverse.mono _ _
   | exact feature_Inverse.mono _ _
   | exact LeO.none _
   | refine LeO.ite ?_ ?_
   | refine LeO.bind ?_ (fun _ => ?_)
set_option maxHeartbeats 8000000 in
set_option maxRecDepth 100000 in
theorem earshotlaw03_FeatureInverses.calls (k : Nat) (A0 : Option Addr) (c0 : Nat) (l0 : List Int) (r : Bool) (w : World) (ht : Kd.C (Kd.int .i64) w (some ⟨0, 0, none⟩) 65 tabL) (hr0 : Kd.C (Kd.int .i64) w A0 l0.length l0) (hc0 : l0.length ≤ c0) (h : earshotlaw03_FeatureInverses.f k l0 = some r) :
  Calls Tryd.prog 3 #[.slice A0 l0.length c0] w fun e w' => e = .returned (.bool r) ∧ Below w.heap.size w w' := by
 have HRT := Aside0.mk ht
 clear ht
 have HR0 := Aside0.mk hr0
 have HC0 := Aside0.mk hc0
 clear hr0 hc0
 have HB := Aside0.mk (Below.refl w.heap.size w)
 have H : (if (l0.length : Int) > 70 then ((earshotlaw03_known.f k).bind fun t101 => (some t101)) else ((feature_Inverse.f k l0).bind fun bt102 => ((earshotref03_Length.f (l0.length : Int)).bind fun t106 => (if t106 = true then ((earshotref02_All.f k l0 (-1099511627776) 1099511627776).bind fun t107 => (earshotlaw03_FeatureInverses.j0 k l0 bt102.1 bt102.2 (!t107))) else (earshotlaw03_FeatureInverses.j0 k l0 bt102.1 bt102.2 true))))) = some r := h
 clear h
 by_cases c2 : (l0.length : Int) > 70
 ·rw [if_pos c2] at H
  have c2b0 : decide (70 < (l0.length : Int)) = true := decide_eq_true c2
  have c2b1 : decide (70 < l0.length) = true := decide_eq_true (by omega)
  clear c2
  replace H := Option.bind_eq_some_iff.mp H
  obtain ⟨t101, A30, H⟩ := H
  replace H : (some t101) = some r := H
  have A3 := Aside0.mk A30
  clear A30
  obtain rfl := Option.some.inj H
  go_enter Tryd.func3, Tryd.ntmps3
  go_wp2_with (first | ((with_reducible refine gate_callee (f := 22) rfl ?_); refine goesL_ (some 8) rfl rfl Tryd.func22 (by kernel_rfl) rfl #[] rfl (by (try simp only [List.map_toArray, List.map_cons, List.map_nil]); first | done | rfl | (simp only [List.length_drop, List.length_take]; rfl)) ?_; (with_reducible refine (earshotlaw03_known.calls k  t101 _ ?side1 A3.out).mono ?_); (case side1 => repeat (first | exact HRT.out | (with_reducible refine Kd.C_alloc ?_ _) | (with_reducible refine Kd.C_drewN ?_ _) | (with_reducible refine Kd.C_drew ?_))); rintro e w4 ⟨rfl, hb⟩; refine ⟨_, rfl, ?_⟩; have n0_ := Aside0.mk (below_step (by repeat (first | (with_reducible first | exact HB.out | apply below_alloc | apply pw_below_drewN | apply below_drew1) | exact HB.out)) hb); clear HB; have HB := n0_; clear n0_; (try clear hb); (try clear hb2); (try clear hk); (try clear hi)))
  go_ret
  exact ⟨by first | rfl | (simp [errW_none, errW_some] <;> rfl) | (simp [*, errW_none, errW_some] <;> rfl), by repeat (first | (with_reducible first | exact HB.out | apply below_alloc | apply pw_below_drewN | apply below_drew1) | exact HB.out)⟩
 ·rw [if_neg c2] at H
  have c2b0 : decide (70 < (l0.length : Int)) = false := decide_eq_false c2
  have c2b1 : decide (70 < l0.length) = false := decide_eq_false (by omega)
  clear c2
  replace H := Option.bind_eq_some_iff.mp H
  obtain ⟨⟨t102, t103⟩, A50, H⟩ := H
  replace H : ((earshotref03_Length.f (l0.length : Int)).bind fun t106 => (if t106 = true then ((earshotref02_All.f k l0 (-1099511627776) 1099511627776).bind fun t107 => (earshotlaw03_FeatureInverses.j0 k l0 t102 t103 (!t107))) else (earshotlaw03_FeatureInverses.j0 k l0 t102 t103 true))) = some r := H
  have A5 := Aside0.mk A50
  clear A50
  have HC6 := Aside0.mk H
  clear H
  go_enter Tryd.func3, Tryd.ntmps3
  go_upto_region 4 with (first | ((with_reducible refine gate_callee (f := 23) rfl ?_); refine goesL_ (some 11) rfl rfl Tryd.func23 (by kernel_rfl) rfl #[.slice A0 l0.length c0] rfl (by (try simp only [List.map_toArray, List.map_cons, List.map_nil]); first | done | rfl | (simp only [List.length_drop, List.length_take]; rfl)) ?_; (with_reducible refine (feature_Inverse.calls k _ _ l0 t102 t103 _ ?side3 ?side1 ?side2 A5.out).mono ?_); (case side1 => repeat (first | exact HR0.out | (with_reducible refine Kd.C_alloc ?_ _) | (with_reducible refine Kd.C_drewN ?_ _) | (with_reducible refine Kd.C_drew ?_))); (case side2 => exact HC0.out); (case side3 => repeat (first | exact HRT.out | (with_reducible refine Kd.C_alloc ?_ _) | (with_reducible refine Kd.C_drewN ?_ _) | (with_reducible refine Kd.C_drew ?_))); rintro e w7 ⟨v104, rfl, ho0, hb⟩; refine ⟨_, rfl, ?_⟩; have n0_ := Aside0.mk (Kd.R_lower ho0 (below_size (by repeat (first | (with_reducible first | exact HB.out | apply below_alloc | apply pw_below_drewN | apply below_drew1) | exact HB.out)))); have n1_ := Aside0.mk (below_step (by repeat (first | (with_reducible first | exact HB.out | apply below_alloc | apply pw_below_drewN | apply below_drew1) | exact HB.out)) hb); clear HB; have HO105 := n0_; have HB := n1_; clear n0_ n1_; (try clear hb); (try clear hb2); (try clear hk); (try clear hi); (try clear ho0)))
  (try simp only [Act.put, List.setIfInBounds_toArray, List.set_cons_zero, List.set_cons_succ])
  go_cut [22] (fun v22 wc => ∃ (kq : Nat) (x22_5 : Bool), v22 = .bool x22_5 ∧ Aside0 (earshotlaw03_FeatureInverses.j0 kq l0 t102 t103 x22_5 = some r) ∧ Aside0 (kq ≤ k) ∧ Aside0 (Kd.R (Kd.int .i64) 3 wc w.heap.size (fun _ => True) v104 t102) ∧ Aside0 (Below w.heap.size w wc))
  case first =>
   have H := HC6.out
   clear HC6
   replace H := Option.bind_eq_some_iff.mp H
   obtain ⟨t106, A80, H⟩ := H
   replace H : (if t106 = true then ((earshotref02_All.f k l0 (-1099511627776) 1099511627776).bind fun t107 => (earshotlaw03_FeatureInverses.j0 k l0 t102 t103 (!t107))) else (earshotlaw03_FeatureInverses.j0 k l0 t102 t103 true)) = some r := H
   have A8 := Aside0.mk A80
   clear A80
   by_cases c9 : t106 = true
   ·subst c9
    have H1 : ((earshotref02_All.f k l0 (-1099511627776) 1099511627776).bind fun t107 => (earshotlaw03_FeatureInverses.j0 k l0 t102 t103 (!t107))) = some r := by rw [if_pos rfl] at H; exact H
    clear H
    have H := H1
    clear H1
    replace H := Option.bind_eq_some_iff.mp H
    obtain ⟨t107, A100, H⟩ := H
    replace H : (earshotlaw03_FeatureInverses.j0 k l0 t102 t103 (!t107)) = some r := H
    have A10 := Aside0.mk A100
    clear A100
    have H' := Aside0.mk H
    clear H
    go_wp2_with (first | ((with_reducible refine gate_callee (f := 24) rfl ?_); refine goesL_ (some 16) rfl rfl Tryd.func24 (by kernel_rfl) rfl #[.int .i64 (l0.length : Int)] rfl (by (try simp only [List.map_toArray, List.map_cons, List.map_nil]); first | done | rfl | (simp only [List.length_drop, List.length_take]; rfl)) ?_; (with_reducible refine (earshotref03_Length.calls (l0.length : Int) true _ A8.out).mono ?_); rintro e w' ⟨rfl, ⟨nd, rfl⟩⟩; refine ⟨_, rfl, ?_⟩) | (go_at_call 25; (with_reducible refine (earshotref02_All.calls k _ _ l0 (-1099511627776) 1099511627776 t107 _ ?side1 ?side2 A10.out).mono ?_); (case side1 => repeat (first | exact (Kd.C_below HR0.out (by repeat (first | (with_reducible first | exact HB.out | apply below_alloc | apply pw_below_drewN | apply below_drew1) | exact HB.out))) | (with_reducible refine Kd.C_alloc ?_ _) | (with_reducible refine Kd.C_drewN ?_ _) | (with_reducible refine Kd.C_drew ?_))); (case side2 => exact HC0.out); rintro e w' ⟨rfl, ⟨nd, rfl⟩⟩))
    go_meet
    case rel => exact ⟨_, (!t107), (by first | rfl | (simp; done) | (simp only [i64_w]; done) | (simp [*]; done)), H', ⟨by first | omega | exact Nat.le_refl _⟩, ⟨by (with_reducible repeat (first | apply Kd.R_alloc | apply Kd.R_drewN | apply Kd.R_drew)); exact HO105.out⟩, ⟨by repeat (first | (with_reducible first | exact HB.out | apply below_alloc | apply pw_below_drewN | apply below_drew1) | exact HB.out)⟩⟩
   ·replace c9 := Bool.eq_false_iff.mpr c9
    subst c9
    have H1 : (earshotlaw03_FeatureInverses.j0 k l0 t102 t103 true) = some r := by rw [if_neg (show ¬ (false = true) by decide)] at H; exact H
    clear H
    have H := H1
    clear H1
    have H' := Aside0.mk H
    clear H
    go_wp2_with (first | ((with_reducible refine gate_callee (f := 24) rfl ?_); refine goesL_ (some 16) rfl rfl Tryd.func24 (by kernel_rfl) rfl #[.int .i64 (l0.length : Int)] rfl (by (try simp only [List.map_toArray, List.map_cons, List.map_nil]); first | done | rfl | (simp only [List.length_drop, List.length_take]; rfl)) ?_; (with_reducible refine (earshotref03_Length.calls (l0.length : Int) false _ A8.out).mono ?_); rintro e w' ⟨rfl, ⟨nd, rfl⟩⟩; refine ⟨_, rfl, ?_⟩))
    go_meet
    case rel => exact ⟨_, (true), (by first | rfl | (simp; done) | (simp only [i64_w]; done) | (simp [*]; done)), H', ⟨by first | omega | exact Nat.le_refl _⟩, ⟨by (with_reducible repeat (first | apply Kd.R_alloc | apply Kd.R_drewN | apply Kd.R_drew)); exact HO105.out⟩, ⟨by repeat (first | (with_reducible first | exact HB.out | apply below_alloc | apply pw_below_drewN | apply below_drew1) | exact HB.out)⟩⟩
  case rest =>
   clear HC6
   try clear c2
   try clear c2b0
   try clear c2b1
   try clear p2
   try clear c3
   try clear c9
   obtain ⟨kq, x22_5, rfl, HA, HJ5, HO_3, HB⟩ := hcut
   cases kq with
   | zero => exact absurd HA.out (by simp [earshotlaw03_FeatureInverses.j0])
   | succ kj5 =>
    have H := HA.out
    clear HA
    simp only [earshotlaw03_FeatureInverses.j0] at H
    by_cases c11 : x22_5 = true
    ·subst c11
     have H1 : (if t103 = 2 then (if (t102.length : Int) = 0 then ((earshotlaw03_known.f kj5).bind fun t108 => (some t108)) else (some false)) else (some false)) = some r := by rw [if_pos rfl] at H; exact H
     clear H
     have H := H1
     clear H1
     by_cases c12 : t103 = 2
     ·rw [if_pos c12] at H
      have c12b0 : (t103 == 2) = true := beq_iff_eq.mpr c12
      have c12b1 : (t103 != 2) = false := bne_eq_false_iff_eq.mpr c12
      clear c12
      by_cases c13 : (t102.length : Int) = 0
      ·rw [if_pos c13] at H
       have c13b0 : ((t102.length : Int) == 0) = true := beq_iff_eq.mpr c13
       have c13b1 : ((t102.length : Int) != 0) = false := bne_eq_false_iff_eq.mpr c13
       clear c13
       replace H := Option.bind_eq_some_iff.mp H
       obtain ⟨t108, A140, H⟩ := H
       replace H : (some t108) = some r := H
       have A14 := Aside0.mk A140
       clear A140
       obtain rfl := Option.some.inj H
       obtain ⟨Ao15, co15, eo15⟩ := Kd.R_slice HO_3.out
       subst eo15
       go_wp2_with (first | (go_at_call 22; (with_reducible refine (earshotlaw03_known.calls kj5  t108 _ ?side1 A14.out).mono ?_); (case side1 => repeat (first | exact (Kd.C_below HRT.out HB.out) | (with_reducible refine Kd.C_alloc ?_ _) | (with_reducible refine Kd.C_drewN ?_ _) | (with_reducible refine Kd.C_drew ?_))); rintro e w16 ⟨rfl, hb⟩; have n0_ := Aside0.mk (Kd.R_below (by (with_reducible repeat (first | apply Kd.R_alloc | apply Kd.R_drewN | apply Kd.R_drew)); exact HO_3.out) hb); have n1_ := Aside0.mk (below_step (by repeat (first | (with_reducible first | exact HB.out | apply below_alloc | apply pw_below_drewN | apply below_drew1) | exact HB.out)) hb); clear HO_3; clear HB; have HO_3 := n0_; have HB := n1_; clear n0_ n1_; (try clear hb); (try clear hb2); (try clear hk); (try clear hi)))
       go_ret
       exact ⟨by first | rfl | (simp [errW_none, errW_some] <;> rfl) | (simp [*, errW_none, errW_some] <;> rfl), by repeat (first | (with_reducible first | exact HB.out | apply below_alloc | apply pw_below_drewN | apply below_drew1) | exact HB.out)⟩
      ·rw [if_neg c13] at H
       have c13b0 : ((t102.length : Int) == 0) = false := beq_eq_false_iff_ne.mpr c13
       have c13b1 : ((t102.length : Int) != 0) = true := bne_iff_ne.mpr c13
       have c13b2 : ¬ (t102 = []) := fun h_ => c13 (by rw [h_]; rfl)
       obtain rfl := Option.some.inj H
       obtain ⟨Ao17, co17, eo17⟩ := Kd.R_slice HO_3.out
       subst eo17
       go_wp2
       go_ret
       exact ⟨by first | rfl | (simp [errW_none, errW_some] <;> rfl) | (simp [*, errW_none, errW_some] <;> rfl), by repeat (first | (with_reducible first | exact HB.out | apply below_alloc | apply pw_below_drewN | apply below_drew1) | exact HB.out)⟩
     ·rw [if_neg c12] at H
      have c12b0 : (t103 == 2) = false := beq_eq_false_iff_ne.mpr c12
      have c12b1 : (t103 != 2) = true := bne_iff_ne.mpr c12
      obtain rfl := Option.some.inj H
      go_wp2
      go_ret
      exact ⟨by first | rfl | (simp [errW_none, errW_some] <;> rfl) | (simp [*, errW_none, errW_some] <;> rfl), by repeat (first | (with_reducible first | exact HB.out | apply below_alloc | apply pw_below_drewN | apply below_drew1) | exact HB.out)⟩
    ·replace c11 := Bool.eq_false_iff.mpr c11
     subst c11
     have H1 : (if t103 = 0 then ((earshotref03_Inverse.f kj5 l0).bind fun t109 => ((earshotref02_Same.f kj5 t102 t109).bind fun t112 => (if t112 = true then ((earshotlaw03_known.f kj5).bind fun t113 => (some t113)) else (some false)))) else (some false)) = some r := by rw [if_neg (show ¬ (false = true) by decide)] at H; exact H
     clear H
     have H := H1
     clear H1
     by_cases c18 : t103 = 0
     ·rw [if_pos c18] at H
      have c18b0 : (t103 == 0) = true := beq_iff_eq.mpr c18
      have c18b1 : (t103 != 0) = false := bne_eq_false_iff_eq.mpr c18
      clear c18
      replace H := Option.bind_eq_some_iff.mp H
      obtain ⟨t109, A190, H⟩ := H
      replace H : ((earshotref02_Same.f kj5 t102 t109).bind fun t112 => (if t112 = true then ((earshotlaw03_known.f kj5).bind fun t113 => (some t113)) else (some false))) = some r := H
      have A19 := Aside0.mk A190
      clear A190
      replace H := Option.bind_eq_some_iff.mp H
      obtain ⟨t112, A200, H⟩ := H
      replace H : (if t112 = true then ((earshotlaw03_known.f kj5).bind fun t113 => (some t113)) else (some false)) = some r := H
      have A20 := Aside0.mk A200
      clear A200
      by_cases c21 : t112 = true
      ·subst c21
       have H1 : ((earshotlaw03_known.f kj5).bind fun t113 => (some t113)) = some r := by rw [if_pos rfl] at H; exact H
       clear H
       have H := H1
       clear H1
       replace H := Option.bind_eq_some_iff.mp H
       obtain ⟨t113, A220, H⟩ := H
       replace H : (some t113) = some r := H
       have A22 := Aside0.mk A220
       clear A220
       obtain rfl := Option.some.inj H
       go_wp2_with (first | (go_at_call 27; (with_reducible refine (earshotref03_Inverse.calls kj5 _ _ l0 t109 _ ?side3 ?side1 ?side2 A19.out).mono ?_); (case side1 => repeat (first | exact (Kd.C_below HR0.out HB.out) | (with_reducible refine Kd.C_alloc ?_ _) | (with_reducible refine Kd.C_drewN ?_ _) | (with_reducible refine Kd.C_drew ?_))); (case side2 => exact HC0.out); (case side3 => repeat (first | exact (Kd.C_below HRT.out HB.out) | (with_reducible refine Kd.C_alloc ?_ _) | (with_reducible refine Kd.C_drewN ?_ _) | (with_reducible refine Kd.C_drew ?_))); rintro e w23 ⟨v110, rfl, ho0, hb⟩; have n0_ := Aside0.mk (Kd.R_elder' (by (with_reducible repeat (first | apply Kd.R_alloc | apply Kd.R_drewN | apply Kd.R_drew)); exact HO_3.out) (Kd.R_base ho0) hb); have n1_ := Aside0.mk (Kd.R_lower (Kd.R_new' ho0 (Kd.R_lt (by (with_reducible repeat (first | apply Kd.R_alloc | apply Kd.R_drewN | apply Kd.R_drew)); exact HO_3.out))) (below_size (by repeat (first | (with_reducible first | exact HB.out | apply below_alloc | apply pw_below_drewN | apply below_drew1) | exact HB.out)))); have n2_ := Aside0.mk (below_step (by repeat (first | (with_reducible first | exact HB.out | apply below_alloc | apply pw_below_drewN | apply below_drew1) | exact HB.out)) hb); clear HO_3; clear HB; have HO_3 := n0_; have HO111 := n1_; have HB := n2_; clear n0_ n1_ n2_; (try clear hb); (try clear hb2); (try clear hk); (try clear hi); (try clear ho0); obtain ⟨Ao24, co24, eo24⟩ := Kd.R_slice HO_3.out; subst eo24; obtain ⟨Ao25, co25, eo25⟩ := Kd.R_slice HO111.out; subst eo25) | (go_at_call 26; (with_reducible refine (earshotref02_Same.calls kj5 _ _ t102 _ _ t109 true _ ?side1 ?side2 ?side3 ?side4 A20.out).mono ?_); (case side1 => repeat (first | exact (Kd.R_reads' HO_3.out).2.2 | (with_reducible refine Kd.C_alloc ?_ _) | (with_reducible refine Kd.C_drewN ?_ _) | (with_reducible refine Kd.C_drew ?_))); (case side2 => exact (Kd.R_reads' HO_3.out).2.1); (case side3 => repeat (first | exact (Kd.R_reads' HO111.out).2.2 | (with_reducible refine Kd.C_alloc ?_ _) | (with_reducible refine Kd.C_drewN ?_ _) | (with_reducible refine Kd.C_drew ?_))); (case side4 => exact (Kd.R_reads' HO111.out).2.1); rintro e w' ⟨rfl, ⟨nd, rfl⟩⟩) | (go_at_call 22; (with_reducible refine (earshotlaw03_known.calls kj5  t113 _ ?side1 A22.out).mono ?_); (case side1 => repeat (first | exact (Kd.C_below HRT.out (by repeat (first | (with_reducible first | exact HB.out | apply below_alloc | apply pw_below_drewN | apply below_drew1) | exact HB.out))) | (with_reducible refine Kd.C_alloc ?_ _) | (with_reducible refine Kd.C_drewN ?_ _) | (with_reducible refine Kd.C_drew ?_))); rintro e w26 ⟨rfl, hb⟩; have n0_ := Aside0.mk (Kd.R_below (by (with_reducible repeat (first | apply Kd.R_alloc | apply Kd.R_drewN | apply Kd.R_drew)); exact HO_3.out) hb); have n1_ := Aside0.mk (Kd.R_below (by (with_reducible repeat (first | apply Kd.R_alloc | apply Kd.R_drewN | apply Kd.R_drew)); exact HO111.out) hb); have n2_ := Aside0.mk (below_step (by repeat (first | (with_reducible first | exact HB.out | apply below_alloc | apply pw_below_drewN | apply below_drew1) | exact HB.out)) hb); clear HO_3; clear HO111; clear HB; have HO_3 := n0_; have HO111 := n1_; have HB := n2_; clear n0_ n1_ n2_; (try clear hb); (try clear hb2); (try clear hk); (try clear hi)))
       go_ret
       exact ⟨by first | rfl | (simp [errW_none, errW_some] <;> rfl) | (simp [*, errW_none, errW_some] <;> rfl), by repeat (first | (with_reducible first | exact HB.out | apply below_alloc | apply pw_below_drewN | apply below_drew1) | exact HB.out)⟩
      ·replace c21 := Bool.eq_false_iff.mpr c21
       subst c21
       have H1 : (some false) = some r := by rw [if_neg (show ¬ (false = true) by decide)] at H; exact H
       clear H
       have H := H1
       clear H1
       obtain rfl := Option.some.inj H
       go_wp2_with (first | (go_at_call 27; (with_reducible refine (earshotref03_Inverse.calls kj5 _ _ l0 t109 _ ?side3 ?side1 ?side2 A19.out).mono ?_); (case side1 => repeat (first | exact (Kd.C_below HR0.out HB.out) | (with_reducible refine Kd.C_alloc ?_ _) | (with_reducible refine Kd.C_drewN ?_ _) | (with_reducible refine Kd.C_drew ?_))); (case side2 => exact HC0.out); (case side3 => repeat (first | exact (Kd.C_below HRT.out HB.out) | (with_reducible refine Kd.C_alloc ?_ _) | (with_reducible refine Kd.C_drewN ?_ _) | (with_reducible refine Kd.C_drew ?_))); rintro e w27 ⟨v110, rfl, ho0, hb⟩; have n0_ := Aside0.mk (Kd.R_elder' (by (with_reducible repeat (first | apply Kd.R_alloc | apply Kd.R_drewN | apply Kd.R_drew)); exact HO_3.out) (Kd.R_base ho0) hb); have n1_ := Aside0.mk (Kd.R_lower (Kd.R_new' ho0 (Kd.R_lt (by (with_reducible repeat (first | apply Kd.R_alloc | apply Kd.R_drewN | apply Kd.R_drew)); exact HO_3.out))) (below_size (by repeat (first | (with_reducible first | exact HB.out | apply below_alloc | apply pw_below_drewN | apply below_drew1) | exact HB.out)))); have n2_ := Aside0.mk (below_step (by repeat (first | (with_reducible first | exact HB.out | apply below_alloc | apply pw_below_drewN | apply below_drew1) | exact HB.out)) hb); clear HO_3; clear HB; have HO_3 := n0_; have HO111 := n1_; have HB := n2_; clear n0_ n1_ n2_; (try clear hb); (try clear hb2); (try clear hk); (try clear hi); (try clear ho0); obtain ⟨Ao28, co28, eo28⟩ := Kd.R_slice HO_3.out; subst eo28; obtain ⟨Ao29, co29, eo29⟩ := Kd.R_slice HO111.out; subst eo29) | (go_at_call 26; (with_reducible refine (earshotref02_Same.calls kj5 _ _ t102 _ _ t109 false _ ?side1 ?side2 ?side3 ?side4 A20.out).mono ?_); (case side1 => repeat (first | exact (Kd.R_reads' HO_3.out).2.2 | (with_reducible refine Kd.C_alloc ?_ _) | (with_reducible refine Kd.C_drewN ?_ _) | (with_reducible refine Kd.C_drew ?_))); (case side2 => exact (Kd.R_reads' HO_3.out).2.1); (case side3 => repeat (first | exact (Kd.R_reads' HO111.out).2.2 | (with_reducible refine Kd.C_alloc ?_ _) | (with_reducible refine Kd.C_drewN ?_ _) | (with_reducible refine Kd.C_drew ?_))); (case side4 => exact (Kd.R_reads' HO111.out).2.1); rintro e w' ⟨rfl, ⟨nd, rfl⟩⟩))
       go_ret
       exact ⟨by first | rfl | (simp [errW_none, errW_some] <;> rfl) | (simp [*, errW_none, errW_some] <;> rfl), by repeat (first | (with_reducible first | exact HB.out | apply below_alloc | apply pw_below_drewN | apply below_drew1) | exact HB.out)⟩
     ·rw [if_neg c18] at H
      have c18b0 : (t103 == 0) = false := beq_eq_false_iff_ne.mpr c18
      have c18b1 : (t103 != 0) = true := bne_iff_ne.mpr c18
      obtain rfl := Option.some.inj H
      go_wp2
      go_ret
      exact ⟨by first | rfl | (simp [errW_none, errW_some] <;> rfl) | (simp [*, errW_none, errW_some] <;> rfl), by repeat (first | (with_reducible first | exact HB.out | apply below_alloc | apply pw_below_drewN | apply below_drew1) | exact HB.out)⟩

/-- THE ONE PURE STATEMENT of earshotlaw03_FeatureInverses: yours. -/
def earshotlaw03_FeatureInverses.Pure : Prop := ∀ (l0 : List Int), l0.length ≤ maxLen → l0.length * 8 ≤ 140737488351232 → (∀ x ∈ l0, (Lit.int .i64 x).wf = true) → ∃ k, earshotlaw03_FeatureInverses.f k l0 = some true
theorem earshotlaw03_FeatureInverses.walk (P : earshotlaw03_FeatureInverses.Pure) (a0 : Option Addr) (len0 cap0 : Nat) (z0 : List Int) (w : World) (ht : Kd.C (Kd.int .i64) w (some ⟨0, 0, none⟩) 65 tabL) (w0 : (a0 = none ∧ len0 = 0 ∧ cap0 = 0 ∧ z0 = []) ∨ ∃ x, a0 = some x ∧ len0 ≤ cap0 ∧ cap0 ≤ maxLen ∧ z0.length = cap0 ∧ (∀ i, i < z0.length → w.cell? (x.add i) = some (.int .i64 (z0.getD i 0))) ∧ ∀ n ∈ z0, (Lit.int .i64 n).wf = true) (y0 : len0 * 8 ≤ 140737488351232) :
  Calls Tryd.prog 3 #[.slice a0 len0 cap0] w fun e w' => e = .returned (.bool true) ∧ Below w.heap.size w w' := by
 obtain ⟨l0, rfl, hr0, hm0, hw0, hc0⟩ := ReadsInt.ofRowC w0
 obtain ⟨k, h⟩ := P l0 hm0 y0 hw0
 refine (earshotlaw03_FeatureInverses.calls k _ _ l0 true w ht (Kd.C_of_reads (d := (0 : Int)) (h1 := fun _ => rfl) hr0) hc0 h).mono ?_
 rintro e w' ⟨rfl, hd⟩
 exact ⟨rfl, hd⟩

end Go.Proofs.YtdlbmbijobcljaaDoor.X

namespace Go.Proofs.YtdlbmbijobcljaaDoor.Pure
open Go.RowKit Go.Proofs.YtdlbmbijobcljaaDoor.X Go.Proofs.YtdlbmbijobcljaaDoorW.PrintWords Go.Proofs.YtdlbmbijobcljaaDoorW.PrintLast
set_option linter.unusedVariables false
set_option linter.unusedSimpArgs false
theorem w64 {n : Int} (h0 : -9223372036854775808 ≤ n) (h1 : n ≤ 9223372036854775807) : wrap64 n = n := by unfold wrap64; omega
/-- The nearest integer of x/d, halves away from zero. -/
def rnd (x d : Int) : Int := if x < 0 then -((2 * (-x) + d) / (2 * d)) else (2 * x + d) / (2 * d)
theorem rnd_abs_le (x d b : Int) (hd : 0 < d) (h0 : -(b * d) ≤ x) (h1 : x ≤ b * d) : -b ≤ rnd x d ∧ rnd x d ≤ b := by
  have key : ∀ y : Int, 0 ≤ y → y ≤ b * d → 0 ≤ (2 * y + d) / (2 * d) ∧ (2 * y + d) / (2 * d) ≤ b := by
    intro y hy hyb
    refine ⟨Int.ediv_nonneg (by omega) (by omega), ?_⟩
    have : (2 * y + d) / (2 * d) < b + 1 := by
      apply Int.ediv_lt_of_lt_mul (by omega)
      have : (b + 1) * (2 * d) = 2 * (b * d) + 2 * d := by rw [Int.add_mul, Int.mul_left_comm]; omega
      omega
    omega
  unfold rnd
  split
  · have := key (-x) (by omega) (by omega)
    omega
  · have := key x (by omega) (by omega)
    omega
theorem round_pos (x d : Int) (hx : 0 ≤ x) (hx1 : x ≤ 4611686018427387903) (hd : 0 < d) (hd1 : d ≤ 1099511627776) (hs : 2 * x + d ≤ 9223372036854775807) (k : Nat) : earshotref02_Round.f (k + 1) x d = some ((2 * x + d) / (2 * d)) := by
  unfold earshotref02_Round.f
  rw [if_neg (by omega), w64 (n := 2 * d) (by omega) (by omega), if_neg (by omega), w64 (n := 2 * x) (by omega) (by omega), w64 (n := 2 * x + d) (by omega) (by omega), Int.tdiv_eq_ediv_of_nonneg (by omega)]
  have h0 : 0 ≤ (2 * x + d) / (2 * d) := Int.ediv_nonneg (by omega) (by omega)
  have h1 : (2 * x + d) / (2 * d) ≤ 2 * x + d := Int.ediv_le_self _ (by omega)
  rw [w64 (by omega) (by omega)]
theorem round_ev (x d : Int) (hx0 : -4611686018427387903 ≤ x) (hx1 : x ≤ 4611686018427387903) (hd : 0 < d) (hd1 : d ≤ 1099511627776) (hs0 : -(2 * x) + d ≤ 9223372036854775807) (hs : 2 * x + d ≤ 9223372036854775807) : Ev (fun k => earshotref02_Round.f k x d) (rnd x d) := by
  refine ⟨2, fun k hk => ?_⟩
  obtain ⟨m, rfl⟩ : ∃ m, k = m + 2 := ⟨k - 2, by omega⟩
  by_cases h : x < 0
  · have h2 : 0 ≤ (2 * (-x) + d) / (2 * d) := Int.ediv_nonneg (by omega) (by omega)
    have h3 : (2 * (-x) + d) / (2 * d) ≤ 2 * (-x) + d := Int.ediv_le_self _ (by omega)
    show earshotref02_Round.f (m + 1 + 1) x d = _
    rw [earshotref02_Round.f, if_pos h, w64 (by omega) (by omega), round_pos (-x) d (by omega) (by omega) hd hd1 (by omega), Option.bind_some, w64 (by omega) (by omega)]
    unfold rnd
    rw [if_pos h]
  · show earshotref02_Round.f (m + 1 + 1) x d = _
    rw [round_pos x d (by omega) hx1 hd hd1 hs]
    unfold rnd
    rw [if_neg h]
theorem far_pos (x d : Int) (hx : 0 ≤ x) (hx1 : x ≤ 4611686018427387903) (hd : 0 < d) (hd1 : d ≤ 1099511627776) (k : Nat) : feature_far.f (k + 1) x d = some ((2 * x + d) / (2 * d)) := by
  rw [feature_far.f, if_neg (by omega), if_neg (by omega), Int.tdiv_eq_ediv_of_nonneg hx, Int.tmod_eq_emod_of_nonneg hx]
  have h0 := Int.emod_nonneg x (by omega : d ≠ 0)
  have h1 := Int.emod_lt_of_pos x hd
  have h2 := Int.mul_ediv_add_emod x d
  have h3 : 0 ≤ x / d := Int.ediv_nonneg hx (by omega)
  have h4 : x / d ≤ x := Int.ediv_le_self _ hx
  rw [w64 (n := d - x % d) (by omega) (by omega)]
  have e : 2 * x + d = (2 * (x % d) + d) + (x / d) * (2 * d) := by
    have : (x / d) * (2 * d) = 2 * (d * (x / d)) := by rw [Int.mul_left_comm, Int.mul_comm (x / d) d]
    omega
  have e2 : (2 * x + d) / (2 * d) = (2 * (x % d) + d) / (2 * d) + x / d := by rw [e, Int.add_mul_ediv_right _ _ (by omega : 2 * d ≠ 0)]
  by_cases hc : x % d ≥ d - x % d
  · rw [if_pos hc, w64 (n := x / d) (by omega) (by omega), w64 (n := x / d + 1) (by omega) (by omega), e2]
    have : (2 * (x % d) + d) / (2 * d) = 1 := by
      have a1 : 1 ≤ (2 * (x % d) + d) / (2 * d) := by rw [Int.le_ediv_iff_mul_le (by omega)]; omega
      have a2 : (2 * (x % d) + d) / (2 * d) < 2 := Int.ediv_lt_of_lt_mul (by omega) (by omega)
      omega
    rw [this, Int.add_comm]
  · rw [if_neg hc, w64 (n := x / d) (by omega) (by omega), e2, (Int.ediv_eq_zero_of_lt (by omega) (by omega) : (2 * (x % d) + d) / (2 * d) = 0), Int.zero_add]
theorem far_ev (x d : Int) (hx0 : -4611686018427387903 ≤ x) (hx1 : x ≤ 4611686018427387903) (hd : 0 < d) (hd1 : d ≤ 1099511627776) : Ev (fun k => feature_far.f k x d) (rnd x d) := by
  refine ⟨2, fun k hk => ?_⟩
  obtain ⟨m, rfl⟩ : ∃ m, k = m + 2 := ⟨k - 2, by omega⟩
  by_cases h : x < 0
  · have h2 : 0 ≤ (2 * (-x) + d) / (2 * d) := Int.ediv_nonneg (by omega) (by omega)
    have h3 : (2 * (-x) + d) / (2 * d) ≤ (-x) := by
      have : (2 * (-x) + d) / (2 * d) < (-x) + 1 := by
        apply Int.ediv_lt_of_lt_mul (by omega)
        have e : (-x + 1) * (2 * d) = 2 * ((-x) * d) + 2 * d := by rw [Int.add_mul, Int.mul_left_comm]; omega
        have : (-x) * 1 ≤ (-x) * d := Int.mul_le_mul_of_nonneg_left (by omega) (by omega)
        omega
      omega
    show feature_far.f (m + 1 + 1) x d = _
    rw [feature_far.f, if_pos h, w64 (by omega) (by omega), far_pos (-x) d (by omega) (by omega) hd hd1, Option.bind_some, w64 (by omega) (by omega)]
    unfold rnd
    rw [if_pos h]
  · show feature_far.f (m + 1 + 1) x d = _
    rw [far_pos x d (by omega) hx1 hd hd1]
    unfold rnd
    rw [if_neg h]
/-- Is it a length of a transform? -/
def isLen (n : Nat) : Bool := n == 1 || n == 2 || n == 4 || n == 8 || n == 16 || n == 32 || n == 64
theorem possible_small : ∀ n : Nat, n < 200 → feature_possible.f (n : Int) = some (isLen n) := by decide +kernel
theorem length_small : ∀ n : Nat, n < 200 → earshotref03_Length.f (n : Int) = some (isLen n) := by decide +kernel
theorem possible_at (n : Nat) : feature_possible.f (n : Int) = some (isLen n) := by
  by_cases h : n < 200
  · exact possible_small n h
  · unfold feature_possible.f
    rw [if_pos (by omega), if_neg (by omega)]
    have : isLen n = false := by simp only [isLen, Bool.or_eq_false_iff, beq_eq_false_iff_ne]; omega
    rw [this]
theorem length_at (n : Nat) : earshotref03_Length.f (n : Int) = some (isLen n) := by
  by_cases h : n < 200
  · exact length_small n h
  · unfold earshotref03_Length.f
    rw [if_neg (by omega), if_neg (by omega), if_neg (by omega), if_neg (by omega), if_neg (by omega), if_neg (by omega)]
    have : isLen n = false := by simp only [isLen, Bool.or_eq_false_iff, beq_eq_false_iff_ne]; omega
    have e : ((n : Int) == 64) = false := by simp only [beq_eq_false_iff_ne]; omega
    rw [this, e]
theorem isLen_dvd (n : Nat) (h : isLen n = true) : 0 < n ∧ n ≤ 64 ∧ (n : Int) * ((64 : Int) / n) = 64 ∧ 1 ≤ (64 : Int) / n ∧ (64 : Int) / n ≤ 64 := by
  simp only [isLen, Bool.or_eq_true, beq_iff_eq] at h
  rcases h with ((((((h | h) | h) | h) | h) | h) | h) <;> subst h <;> decide
/-- All within bounds. -/
def allIn (l : List Int) (a b : Int) : Bool := l.all fun x => decide (a ≤ x) && decide (x ≤ b)
theorem rd_nat (l : List Int) (j : Nat) : rd l (j : Int) = l.getD j 0 := by unfold rd; rw [Int.toNat_natCast]
theorem all_ev (l : List Int) (a b : Int) (hl : l.length ≤ 4611686018427387904) : Ev (fun k => earshotref02_All.f k l a b) (allIn l a b) := by
  have key : ∀ r j : Nat, j + r = l.length → Ev (fun k => earshotref02_All.l0 k l a b (j : Int)) (allIn (l.drop j) a b) := by
    intro r
    induction r with
    | zero =>
      intro j hj
      refine ⟨1, fun k hk => ?_⟩
      obtain ⟨m, rfl⟩ : ∃ m, k = m + 1 := ⟨k - 1, by omega⟩
      simp only [earshotref02_All.l0]
      rw [if_neg (by omega), List.drop_of_length_le (by omega)]
      rfl
    | succ r ih =>
      intro j hj
      have hjl : j < l.length := by omega
      have e : l.drop j = l[j] :: l.drop (j + 1) := List.drop_eq_getElem_cons hjl
      have er : rd l (j : Int) = l[j] := by rw [rd_nat, List.getD_eq_getElem?_getD, List.getElem?_eq_getElem hjl]; rfl
      obtain ⟨K, hK⟩ := ih (j + 1) (by omega)
      refine ⟨K + 1, fun k hk => ?_⟩
      obtain ⟨m, rfl⟩ : ∃ m, k = m + 1 := ⟨k - 1, by omega⟩
      simp only [earshotref02_All.l0]
      rw [if_pos (by omega), if_pos (by omega), er, e]
      by_cases h1 : l[j] < a
      · rw [if_pos h1]
        simp only [allIn, List.all_cons, (by simpa using h1 : decide (a ≤ l[j]) = false), Bool.false_and]
      · rw [if_neg h1]
        by_cases h2 : l[j] > b
        · rw [if_pos h2]
          simp only [allIn, List.all_cons, (by simpa using h2 : decide (l[j] ≤ b) = false), Bool.and_false, Bool.false_and]
        · rw [if_neg h2, w64 (by omega) (by omega)]
          have : earshotref02_All.l0 m l a b ((j + 1 : Nat) : Int) = some (allIn (l.drop (j + 1)) a b) := hK m (by omega)
          rw [show (j : Int) + 1 = ((j + 1 : Nat) : Int) by omega, this]
          simp only [allIn, List.all_cons, (by simp; omega : decide (a ≤ l[j]) = true), (by simp; omega : decide (l[j] ≤ b) = true), Bool.true_and]
  exact key l.length 0 (by omega)
theorem within_at (l : List Int) (b : Int) (h0 : 0 ≤ b) (h1 : b ≤ 9223372036854775807) : feature_within.f l b = some (allIn l (-b) b) := by
  unfold feature_within.f allIn
  congr 1
  rw [List.not_any_eq_all_not]
  congr 1
  funext x
  unfold beyond
  rw [w64 (by omega) (by omega)]
  by_cases h1 : x < -b <;> by_cases h2 : b < x <;> simp [h1, h2] <;> omega
theorem same_ev (l m : List Int) (hlm : l = m) (hl : l.length ≤ 4611686018427387904) : Ev (fun k => earshotref02_Same.f k l m) true := by
  subst hlm
  have key : ∀ r j : Nat, j + r = l.length → Ev (fun k => earshotref02_Same.l0 k l l (j : Int)) true := by
    intro r
    induction r with
    | zero =>
      intro j hj
      refine ⟨1, fun k hk => ?_⟩
      obtain ⟨m, rfl⟩ : ∃ m, k = m + 1 := ⟨k - 1, by omega⟩
      simp only [earshotref02_Same.l0]
      rw [if_neg (by omega)]
    | succ r ih =>
      intro j hj
      obtain ⟨K, hK⟩ := ih (j + 1) (by omega)
      refine ⟨K + 1, fun k hk => ?_⟩
      obtain ⟨m, rfl⟩ : ∃ m, k = m + 1 := ⟨k - 1, by omega⟩
      simp only [earshotref02_Same.l0]
      rw [if_pos (by omega), if_pos (by omega), if_pos (by omega), if_pos trivial, w64 (by omega) (by omega), show (j : Int) + 1 = ((j + 1 : Nat) : Int) by omega]
      exact hK m (by omega)
  refine Ev.congr (fun k => ?_) (key l.length 0 (by omega))
  unfold earshotref02_Same.f
  rw [if_pos rfl]
  rfl
theorem cosv_range (j : Int) : -16384 ≤ cosv j ∧ cosv j ≤ 16384 := by
  unfold cosv
  have a := tab_range (j % 256); have b := tab_range (128 - j % 256); have c := tab_range (j % 256 - 128); have d := tab_range (256 - j % 256)
  split
  · omega
  · split
    · omega
    · split <;> omega
end Go.Proofs.YtdlbmbijobcljaaDoor.Pure

namespace Go.Proofs.YtdlbmbijobcljaaDoor.Pure
open Go.RowKit Go.Proofs.YtdlbmbijobcljaaDoor.X Go.Proofs.YtdlbmbijobcljaaDoorW.PrintWords Go.Proofs.YtdlbmbijobcljaaDoorW.PrintLast
set_option linter.unusedVariables false
set_option linter.unusedSimpArgs false
set_option linter.unusedSectionVars false
/-- The sum of row i of the inverse transform, its first m + 1 terms; q = 64/n. -/
def invSum (l : List Int) (q : Int) (i : Nat) : Nat → Int
  | 0 => 16384 * rd l 0
  | m + 1 => invSum l q i m + 2 * rd l ((m + 1 : Nat) : Int) * cosv ((2 * (i : Int) + 1) * ((m + 1 : Nat) : Int) * q)
theorem mul_bound (a b A B : Int) (ha0 : -A ≤ a) (ha1 : a ≤ A) (hb0 : -B ≤ b) (hb1 : b ≤ B) : -(A * B) ≤ a * b ∧ a * b ≤ A * B := by
  have hA : 0 ≤ A := by omega
  have hB : 0 ≤ B := by omega
  have h1 : 0 ≤ (A - a) * (B - b) := Int.mul_nonneg (by omega) (by omega)
  have h2 : 0 ≤ (A + a) * (B + b) := Int.mul_nonneg (by omega) (by omega)
  have h3 : 0 ≤ (A - a) * (B + b) := Int.mul_nonneg (by omega) (by omega)
  have h4 : 0 ≤ (A + a) * (B - b) := Int.mul_nonneg (by omega) (by omega)
  simp only [Int.sub_mul, Int.add_mul, Int.mul_sub, Int.mul_add] at h1 h2 h3 h4
  omega
theorem rd_bound (l : List Int) (B : Int) (hB : 0 ≤ B) (h : ∀ x ∈ l, -B ≤ x ∧ x ≤ B) (i : Int) : -B ≤ rd l i ∧ rd l i ≤ B := by
  unfold rd
  rw [List.getD_eq_getElem?_getD]
  rcases Nat.lt_or_ge i.toNat l.length with hl | hl
  · rw [List.getElem?_eq_getElem hl]; exact h _ (List.getElem_mem hl)
  · rw [List.getElem?_eq_none hl]; simp; omega
theorem invSum_bound (l : List Int) (h : ∀ x ∈ l, -1099511627776 ≤ x ∧ x ≤ 1099511627776) (q : Int) (i m : Nat) : -(18014398509481984 + 36028797018963968 * (m : Int)) ≤ invSum l q i m ∧ invSum l q i m ≤ 18014398509481984 + 36028797018963968 * (m : Int) := by
  induction m with
  | zero =>
    have := rd_bound l 1099511627776 (by omega) h 0
    simp only [invSum]
    omega
  | succ m ih =>
    have h1 := rd_bound l 1099511627776 (by omega) h ((m + 1 : Nat) : Int)
    have h2 := cosv_range ((2 * (i : Int) + 1) * ((m + 1 : Nat) : Int) * q)
    have h3 := mul_bound (2 * rd l ((m + 1 : Nat) : Int)) (cosv ((2 * (i : Int) + 1) * ((m + 1 : Nat) : Int) * q)) 2199023255552 16384 (by omega) (by omega) h2.1 h2.2
    simp only [invSum]
    omega
/-- The index of the cosine, as the program and as the document have it. -/
theorem inv_index (n i m : Nat) (q : Int) (hn : 0 < n) (hq : (n : Int) * q = 64) (hn64 : n ≤ 64) (hi : i < n) (hm : m < n) :
    (if (n : Int) = 0 then (none : Option Int) else feature_cosine.f (wrap64 (Int.tdiv (wrap64 ((wrap64 ((wrap64 ((wrap64 (2 * (i : Int))) + 1)) * (m : Int))) * 64)) (n : Int)))) = some (cosv ((2 * (i : Int) + 1) * (m : Int) * q)) := by
  have h0 : 0 ≤ (2 * (i : Int) + 1) * (m : Int) := Int.mul_nonneg (by omega) (by omega)
  have h1 : (2 * (i : Int) + 1) * (m : Int) ≤ 129 * 64 := by
    have := mul_bound (2 * (i : Int) + 1) (m : Int) 129 64 (by omega) (by omega) (by omega) (by omega)
    omega
  have hq0 : 0 < q := by
    by_cases hq1 : 0 < q
    · exact hq1
    · have : (n : Int) * q ≤ (n : Int) * 0 := Int.mul_le_mul_of_nonneg_left (by omega) (by omega)
      omega
  have hq64 : q ≤ 64 := by
    have : 1 * q ≤ (n : Int) * q := Int.mul_le_mul_of_nonneg_right (by omega) (by omega)
    omega
  have h2 := mul_bound ((2 * (i : Int) + 1) * (m : Int)) q (129 * 64) 64 (by omega) (by omega) (by omega) (by omega)
  have h3 : 0 ≤ (2 * (i : Int) + 1) * (m : Int) * q := Int.mul_nonneg h0 (by omega)
  rw [if_neg (by omega), w64 (n := 2 * (i : Int)) (by omega) (by omega), w64 (n := 2 * (i : Int) + 1) (by omega) (by omega), w64 (n := (2 * (i : Int) + 1) * (m : Int)) (by omega) (by omega), w64 (n := (2 * (i : Int) + 1) * (m : Int) * 64) (by omega) (by omega)]
  have e : (2 * (i : Int) + 1) * (m : Int) * 64 = (n : Int) * ((2 * (i : Int) + 1) * (m : Int) * q) := by
    rw [← hq, Int.mul_left_comm]
  rw [e, Int.mul_tdiv_cancel_left _ (by omega : (n : Int) ≠ 0), w64 (by omega) (by omega)]
  unfold feature_cosine.f
  rw [if_pos h3]
theorem inv_index' (n i m : Nat) (q : Int) (hn : 0 < n) (hq0 : 0 < q) (hq64 : q ≤ 64) (hn64 : n ≤ 64) (hi : i < n) (hm : m < n) :
    earshotref03_C.f (wrap64 ((wrap64 ((wrap64 ((wrap64 (2 * (i : Int))) + 1)) * (m : Int))) * (wrap64 q))) = some (cosv ((2 * (i : Int) + 1) * (m : Int) * q)) := by
  have h0 : 0 ≤ (2 * (i : Int) + 1) * (m : Int) := Int.mul_nonneg (by omega) (by omega)
  have h1 := mul_bound (2 * (i : Int) + 1) (m : Int) 129 64 (by omega) (by omega) (by omega) (by omega)
  have h2 := mul_bound ((2 * (i : Int) + 1) * (m : Int)) q (129 * 64) 64 (by omega) (by omega) (by omega) (by omega)
  have h3 : 0 ≤ (2 * (i : Int) + 1) * (m : Int) * q := Int.mul_nonneg h0 (by omega)
  rw [w64 (n := 2 * (i : Int)) (by omega) (by omega), w64 (n := 2 * (i : Int) + 1) (by omega) (by omega), w64 (n := (2 * (i : Int) + 1) * (m : Int)) (by omega) (by omega), w64 (n := q) (by omega) (by omega), w64 (by omega) (by omega)]
  unfold earshotref03_C.f
  rw [if_pos h3]
/-- The inverse transform. -/
def invAt (l : List Int) (n : Nat) (i : Nat) : Int := rnd (invSum l ((64 : Int) / n) i (n - 1)) ((n : Int) * 268435456)
def invList (l : List Int) (n : Nat) (i : Nat) : List Int := (List.range i).map (invAt l n) ++ List.replicate (n - i) 0
theorem invList_length (l : List Int) (n i : Nat) (h : i ≤ n) : (invList l n i).length = n := by simp [invList]; omega
theorem invList_set (l : List Int) (n i : Nat) (h : i < n) : (invList l n i).set i (invAt l n i) = invList l n (i + 1) := by
  unfold invList
  rw [List.range_succ, List.map_append, List.set_append_right _ _ (by simp)]
  simp only [List.length_map, List.length_range, Nat.sub_self, List.map_cons, List.map_nil, List.append_assoc]
  congr 1
  rw [show n - i = (n - (i + 1)) + 1 by omega, List.replicate_succ]
  rfl
section
variable (l : List Int) (n : Nat) (hn : isLen n = true) (hl : l.length = n) (h : ∀ x ∈ l, -1099511627776 ≤ x ∧ x ≤ 1099511627776)
include hn hl h
theorem inv_last (i : Nat) (hi : i < n) (y : List Int) (hy : y.length = n) (R : List Int × Int) (hR : Ev (fun k => feature_Inverse.l0 k l (n : Int) (y.set i (invAt l n i)) (n : Int) ((i + 1 : Nat) : Int)) R) :
    Ev (fun k => (feature_far.f k (invSum l ((64 : Int) / n) i (n - 1)) (wrap64 ((n : Int) * 268435456))).bind fun t109 => (if 0 ≤ (i : Int) then (if (i : Int) < (y.length : Int) then (feature_Inverse.l0 k l (n : Int) (y.set (i : Int).toNat t109) (n : Int) (wrap64 ((i : Int) + 1))) else (none)) else (none))) R := by
  obtain ⟨n0, n1, _⟩ := isLen_dvd n hn
  have hb := invSum_bound l h ((64 : Int) / n) i (n - 1)
  rw [w64 (by omega) (by omega)]
  refine Ev.bind (far_ev _ _ (by omega) (by omega) (by omega) (by omega)) ?_
  refine Ev.congr (fun k => ?_) hR
  rw [if_pos (by omega), if_pos (by omega), w64 (by omega) (by omega), Int.toNat_natCast]
  rfl
theorem inv_row (i : Nat) (hi : i < n) (y : List Int) (hy : y.length = n) (R : List Int × Int) (hR : Ev (fun k => feature_Inverse.l0 k l (n : Int) (y.set i (invAt l n i)) (n : Int) ((i + 1 : Nat) : Int)) R) :
    ∀ r m : Nat, m + r + 1 = n → Ev (fun k => feature_Inverse.l1 k l (n : Int) y (i : Int) (invSum l ((64 : Int) / n) i m) ((m + 1 : Nat) : Int) (n : Int) (i : Int)) R := by
  obtain ⟨n0, n1, n2, n3, n4⟩ := isLen_dvd n hn
  intro r
  induction r with
  | zero =>
    intro m hm
    have := inv_last l n hn hl h i hi y hy R hR
    rw [show n - 1 = m by omega] at this
    refine Ev.step (fun k => ?_) this
    simp only [feature_Inverse.l1]
    rw [if_neg (by omega)]
  | succ r ih =>
    intro m hm
    have := ih (m + 1) (by omega)
    refine Ev.step (fun k => ?_) this
    simp only [feature_Inverse.l1]
    rw [if_pos (by omega), if_pos (by omega), if_pos (by omega)]
    have hx := inv_index n i (m + 1) ((64 : Int) / n) n0 n2 n1 hi (by omega)
    rw [if_neg (by omega)] at hx
    rw [if_neg (by omega), hx, Option.bind_some]
    have hb := invSum_bound l h ((64 : Int) / n) i (m + 1)
    have h1 := rd_bound l 1099511627776 (by omega) h ((m + 1 : Nat) : Int)
    have h2 := cosv_range ((2 * (i : Int) + 1) * ((m + 1 : Nat) : Int) * ((64 : Int) / n))
    have h3 := mul_bound (2 * rd l ((m + 1 : Nat) : Int)) (cosv ((2 * (i : Int) + 1) * ((m + 1 : Nat) : Int) * ((64 : Int) / n))) 2199023255552 16384 (by omega) (by omega) h2.1 h2.2
    rw [w64 (n := 2 * rd l ((m + 1 : Nat) : Int)) (by omega) (by omega), w64 (n := 2 * rd l ((m + 1 : Nat) : Int) * _) (by omega) (by omega)]
    have e : invSum l ((64 : Int) / n) i m + 2 * rd l ((m + 1 : Nat) : Int) * cosv ((2 * (i : Int) + 1) * ((m + 1 : Nat) : Int) * ((64 : Int) / n)) = invSum l ((64 : Int) / n) i (m + 1) := rfl
    rw [e, w64 (by omega) (by omega), w64 (by omega) (by omega), show ((m + 1 : Nat) : Int) + 1 = ((m + 1 + 1 : Nat) : Int) by omega]
theorem inv_loop : ∀ r i : Nat, i + r = n → Ev (fun k => feature_Inverse.l0 k l (n : Int) (invList l n i) (n : Int) (i : Int)) (invList l n n, 0) := by
  obtain ⟨n0, n1, n2, n3, n4⟩ := isLen_dvd n hn
  intro r
  induction r with
  | zero =>
    intro i hi
    refine Ev.step (f := fun _ => some (invList l n n, 0)) (fun k => ?_) (Ev.now _)
    simp only [feature_Inverse.l0]
    rw [if_neg (by omega), show i = n by omega]
  | succ r ih =>
    intro i hi
    have h1 := ih (i + 1) (by omega)
    rw [← invList_set l n i (by omega)] at h1
    have h2 := inv_row l n hn hl h i (by omega) (invList l n i) (invList_length l n i (by omega)) _ h1 (n - 1) 0 (by omega)
    have hb := rd_bound l 1099511627776 (by omega) h 0
    refine Ev.step (fun k => ?_) h2
    simp only [feature_Inverse.l0]
    rw [if_pos (by omega), if_pos (by omega), w64 (n := 16384 * rd l 0) (by omega) (by omega)]
    rfl
theorem inv_last' (i : Nat) (hi : i < n) (y : List Int) (hy : y.length = n) (R : List Int) (hR : Ev (fun k => earshotref03_Inverse.l0 k l (n : Int) (y.set i (invAt l n i)) ((i + 1 : Nat) : Int)) R) :
    Ev (fun k => (earshotref02_Round.f k (invSum l ((64 : Int) / n) i (n - 1)) (wrap64 ((n : Int) * 268435456))).bind fun t107 => (if 0 ≤ (i : Int) then (if (i : Int) < (y.length : Int) then (earshotref03_Inverse.l0 k l (n : Int) (y.set (i : Int).toNat t107) (wrap64 ((i : Int) + 1))) else (none)) else (none))) R := by
  obtain ⟨n0, n1, _⟩ := isLen_dvd n hn
  have hb := invSum_bound l h ((64 : Int) / n) i (n - 1)
  rw [w64 (by omega) (by omega)]
  refine Ev.bind (round_ev _ _ (by omega) (by omega) (by omega) (by omega) (by omega) (by omega)) ?_
  refine Ev.congr (fun k => ?_) hR
  rw [if_pos (by omega), if_pos (by omega), w64 (by omega) (by omega), Int.toNat_natCast]
  rfl
theorem inv_row' (i : Nat) (hi : i < n) (y : List Int) (hy : y.length = n) (R : List Int) (hR : Ev (fun k => earshotref03_Inverse.l0 k l (n : Int) (y.set i (invAt l n i)) ((i + 1 : Nat) : Int)) R) :
    ∀ r m : Nat, m + r + 1 = n → Ev (fun k => earshotref03_Inverse.l1 k l (n : Int) y (i : Int) (invSum l ((64 : Int) / n) i m) ((m + 1 : Nat) : Int)) R := by
  obtain ⟨n0, n1, n2, n3, n4⟩ := isLen_dvd n hn
  intro r
  induction r with
  | zero =>
    intro m hm
    have := inv_last' l n hn hl h i hi y hy R hR
    rw [show n - 1 = m by omega] at this
    refine Ev.step (fun k => ?_) this
    simp only [earshotref03_Inverse.l1]
    rw [if_neg (by omega)]
  | succ r ih =>
    intro m hm
    have := ih (m + 1) (by omega)
    refine Ev.step (fun k => ?_) this
    simp only [earshotref03_Inverse.l1]
    rw [if_pos (by omega), if_pos (by omega), if_pos (by omega)]
    have hx := inv_index' n i (m + 1) ((64 : Int) / n) n0 (by omega) n4 n1 hi (by omega)
    rw [if_neg (by omega), hx, Option.bind_some]
    have hb := invSum_bound l h ((64 : Int) / n) i (m + 1)
    have h1 := rd_bound l 1099511627776 (by omega) h ((m + 1 : Nat) : Int)
    have h2 := cosv_range ((2 * (i : Int) + 1) * ((m + 1 : Nat) : Int) * ((64 : Int) / n))
    have h3 := mul_bound (2 * rd l ((m + 1 : Nat) : Int)) (cosv ((2 * (i : Int) + 1) * ((m + 1 : Nat) : Int) * ((64 : Int) / n))) 2199023255552 16384 (by omega) (by omega) h2.1 h2.2
    rw [w64 (n := 2 * rd l ((m + 1 : Nat) : Int)) (by omega) (by omega), w64 (n := 2 * rd l ((m + 1 : Nat) : Int) * _) (by omega) (by omega)]
    have e : invSum l ((64 : Int) / n) i m + 2 * rd l ((m + 1 : Nat) : Int) * cosv ((2 * (i : Int) + 1) * ((m + 1 : Nat) : Int) * ((64 : Int) / n)) = invSum l ((64 : Int) / n) i (m + 1) := rfl
    rw [e, w64 (by omega) (by omega), w64 (by omega) (by omega), show ((m + 1 : Nat) : Int) + 1 = ((m + 1 + 1 : Nat) : Int) by omega]
theorem inv_loop' : ∀ r i : Nat, i + r = n → Ev (fun k => earshotref03_Inverse.l0 k l (n : Int) (invList l n i) (i : Int)) (invList l n n) := by
  obtain ⟨n0, n1, n2, n3, n4⟩ := isLen_dvd n hn
  intro r
  induction r with
  | zero =>
    intro i hi
    refine Ev.step (f := fun _ => some (invList l n n)) (fun k => ?_) (Ev.now _)
    simp only [earshotref03_Inverse.l0]
    rw [if_neg (by omega), show i = n by omega]
  | succ r ih =>
    intro i hi
    have h1 := ih (i + 1) (by omega)
    rw [← invList_set l n i (by omega)] at h1
    have h2 := inv_row' l n hn hl h i (by omega) (invList l n i) (invList_length l n i (by omega)) _ h1 (n - 1) 0 (by omega)
    have hb := rd_bound l 1099511627776 (by omega) h 0
    refine Ev.step (fun k => ?_) h2
    simp only [earshotref03_Inverse.l0]
    rw [if_pos (by omega), if_pos (by omega), w64 (n := 16384 * rd l 0) (by omega) (by omega)]
    rfl
theorem ref_inverse_ev : Ev (fun k => earshotref03_Inverse.f k l) (invList l n n) := by
  obtain ⟨n0, n1, n2, n3, n4⟩ := isLen_dvd n hn
  refine Ev.congr (fun k => ?_) (inv_loop' l n hn hl h n 0 (by omega))
  unfold earshotref03_Inverse.f
  rw [if_pos (by omega), if_pos (by omega), hl, Int.toNat_natCast]
  rfl
theorem inverse_ok : Ev (fun k => feature_Inverse.f k l) (invList l n n, 0) := by
  obtain ⟨n0, n1, n2, n3, n4⟩ := isLen_dvd n hn
  have hin : allIn l (-1099511627776) 1099511627776 = true := by
    unfold allIn
    rw [List.all_eq_true]
    intro x hx
    have := h x hx
    simp; omega
  have h1 := inv_loop l n hn hl h n 0 (by omega)
  have h2 : Ev (fun k => feature_Inverse.j0 k l (n : Int) false) (invList l n n, 0) := by
    refine Ev.step (fun k => ?_) h1
    simp only [feature_Inverse.j0]
    rw [if_neg (by simp), if_pos (by omega), if_pos (by omega), Option.bind_some, List.length_replicate, Int.toNat_natCast]
    rfl
  refine Ev.congr (fun k => ?_) h2
  unfold feature_Inverse.f
  rw [hl, possible_at, hn, Option.bind_some, if_pos rfl, within_at _ _ (by omega) (by omega), hin, Option.bind_some]
  rfl
end
theorem inverse_bad (l : List Int) (h : isLen l.length = false ∨ allIn l (-1099511627776) 1099511627776 = false) : Ev (fun k => feature_Inverse.f k l) ([], 2) := by
  have h2 : ∀ n, Ev (fun k => feature_Inverse.j0 k l n true) ([], 2) := fun n => Ev.step (f := fun _ => some ([], 2)) (fun k => by simp only [feature_Inverse.j0]; rw [if_pos trivial]) (Ev.now _)
  refine Ev.congr (fun k => ?_) (h2 (l.length : Int))
  unfold feature_Inverse.f
  rw [possible_at, Option.bind_some]
  cases hp : isLen l.length with
  | false => rw [if_neg (by simp)]
  | true =>
    rcases h with h | h
    · rw [hp] at h; cases h
    · rw [if_pos rfl, within_at _ _ (by omega) (by omega), h, Option.bind_some]
      rfl
theorem allIn_iff (l : List Int) (a b : Int) : allIn l a b = true ↔ ∀ x ∈ l, a ≤ x ∧ x ≤ b := by
  unfold allIn
  rw [List.all_eq_true]
  exact ⟨fun h x hx => by have := h x hx; simp at this; exact this, fun h x hx => by have := h x hx; simp; exact this⟩
end Go.Proofs.YtdlbmbijobcljaaDoor.Pure

namespace Go.Proofs.YtdlbmbijobcljaaDoor.Pure
open Go.RowKit Go.Proofs.YtdlbmbijobcljaaDoor.X Go.Proofs.YtdlbmbijobcljaaDoorW.PrintWords Go.Proofs.YtdlbmbijobcljaaDoorW.PrintLast
theorem known_ev : Ev (fun k => earshotlaw03_known.f k) true := Ev.of (k := 2000) earshotlaw03_known.mono (by decide +kernel)
end Go.Proofs.YtdlbmbijobcljaaDoor.Pure

namespace Go.Proofs.YtdlbmbijobcljaaDoor.Pure
open Go.RowKit Go.Proofs.YtdlbmbijobcljaaDoor.X Go.Proofs.YtdlbmbijobcljaaDoorW.PrintWords Go.Proofs.YtdlbmbijobcljaaDoorW.PrintLast
set_option linter.unusedVariables false
set_option linter.unusedSimpArgs false
theorem inverses_good (l : List Int) (h1 : isLen l.length = true) (h2 : allIn l (-1099511627776) 1099511627776 = true) (y : List Int) (hy : y = invList l l.length l.length) : Ev (fun k => earshotlaw03_FeatureInverses.j0 k l y 0 false) true := by
  obtain ⟨n0, n1, _⟩ := isLen_dvd _ h1
  have hb := (allIn_iff _ _ _).1 h2
  subst hy
  have e1 := ref_inverse_ev l l.length h1 rfl hb
  have e2 := same_ev (invList l l.length l.length) (invList l l.length l.length) rfl (by rw [invList_length _ _ _ (Nat.le_refl _)]; omega)
  have e3 : Ev (fun k => (earshotref03_Inverse.f k l).bind fun t109 => ((earshotref02_Same.f k (invList l l.length l.length) t109).bind fun t112 => (if t112 = true then ((earshotlaw03_known.f k).bind fun t113 => (some t113)) else (some false)))) true := by
    refine Ev.bind e1 (Ev.bind e2 ?_)
    refine Ev.congr (fun k => if_pos rfl) (Ev.bind known_ev (Ev.now _))
  refine Ev.step (fun k => ?_) e3
  simp only [earshotlaw03_FeatureInverses.j0]
  rw [if_neg (by simp)]
  rfl
theorem inverses_bad (l : List Int) : Ev (fun k => earshotlaw03_FeatureInverses.j0 k l [] 2 true) true := by
  refine Ev.step (f := fun k => (earshotlaw03_known.f k).bind fun t108 => some t108) (fun k => ?_) (Ev.bind known_ev (Ev.now _))
  simp only [earshotlaw03_FeatureInverses.j0]
  rfl
theorem inverses_ev (l0 : List Int) : Ev (fun k => earshotlaw03_FeatureInverses.f k l0) true := by
  by_cases h70 : (l0.length : Int) > 70
  · refine Ev.congr (fun k => ?_) (Ev.bind known_ev (Ev.now true))
    unfold earshotlaw03_FeatureInverses.f
    rw [if_pos h70]
  · cases hp : isLen l0.length with
    | false =>
      refine Ev.congr (f := fun k => (feature_Inverse.f k l0).bind fun bt102 => earshotlaw03_FeatureInverses.j0 k l0 bt102.1 bt102.2 true) (fun k => ?_) (Ev.bind (inverse_bad l0 (.inl hp)) (inverses_bad l0))
      unfold earshotlaw03_FeatureInverses.f
      rw [if_neg h70, length_at, hp]
      rfl
    | true =>
      have hl : l0.length ≤ 4611686018427387904 := by omega
      cases ha : allIn l0 (-1099511627776) 1099511627776 with
      | false =>
        refine Ev.congr (f := fun k => (feature_Inverse.f k l0).bind fun bt102 => (earshotref02_All.f k l0 (-1099511627776) 1099511627776).bind fun t107 => earshotlaw03_FeatureInverses.j0 k l0 bt102.1 bt102.2 (!t107)) (fun k => ?_) (Ev.bind (inverse_bad l0 (.inr ha)) (Ev.bind (all_ev l0 _ _ hl) (by rw [ha]; exact inverses_bad l0)))
        unfold earshotlaw03_FeatureInverses.f
        rw [if_neg h70, length_at, hp]
        rfl
      | true =>
        refine Ev.congr (f := fun k => (feature_Inverse.f k l0).bind fun bt102 => (earshotref02_All.f k l0 (-1099511627776) 1099511627776).bind fun t107 => earshotlaw03_FeatureInverses.j0 k l0 bt102.1 bt102.2 (!t107)) (fun k => ?_) (Ev.bind (inverse_ok l0 l0.length hp rfl ((allIn_iff _ _ _).1 ha)) (Ev.bind (all_ev l0 _ _ hl) (by rw [ha]; exact inverses_good l0 hp ha _ rfl)))
        unfold earshotlaw03_FeatureInverses.f
        rw [if_neg h70, length_at, hp]
        rfl
theorem FeatureInverses : earshotlaw03_FeatureInverses.Pure := fun l0 _ _ _ => (inverses_ev l0).rounds
end Go.Proofs.YtdlbmbijobcljaaDoor.Pure

namespace Go.Proofs.YtdlbmbijobcljaaDoor.featureInverses
open Go.ChangeShapes Go.WideShapes Go.ChangeAt Go.RowKit
open Go.ChangeMaps (open_string shut_string)
set_option linter.unusedVariables false
theorem own : ownKnob Tryd.prog.godebug = none := by kernel_rfl
theorem laidOut : laidOutB Tryd.prog = true := by kernel_rfl
def IsRow (k : IntKind) (w : World) (a : Option Addr) (len cap : Nat) (zs : List Int) : Prop :=
  (a = none ∧ len = 0 ∧ cap = 0 ∧ zs = []) ∨
  ∃ x, a = some x ∧ len ≤ cap ∧ cap ≤ maxLen ∧ zs.length = cap ∧ (∀ i, i < zs.length → w.cell? (x.add i) = some (.int k (zs.getD i 0))) ∧ ∀ n ∈ zs, (Lit.int k n).wf = true
set_option maxRecDepth 100000 in
theorem lifted (os : Os) (started : os.Started) (H : Type) (enc : TypeId × Value → H) :
    ReturnsInHanded {} Tryd.checked os 3 .any (fun w args => (Rows.featureInversesSpec.pre enc Tryd.prog Tryd.f3 Rows.featureInversesRow.domain false w args ∧ laidMetH Tryd.prog laidC w) ∧ sizedMet enc Tryd.prog Tryd.f3 (OpenSpec.ofChange Rows.featureInversesSpec) false w args) (Rows.featureInversesSpec.post enc Tryd.prog Tryd.f3 false true false false) := by
  refine returnsInHanded_of_change_and (C := Tryd.checked) (X := fun w _ => laidMetH Tryd.prog laidC w) (fun _ _ _ hh h => h.of_heap hh) own started (by kernel_rfl) Tryd.func3
    (ChangeSpec.witness_shaped (enc := enc) (C := Tryd.checked) (os := os) (X := fun w _ => laidMetH Tryd.prog laidC w) false (World.doorLaid Tryd.prog 4000 os) #[.slice none 0 0] 8 rfl (World.shaped_of_RefB (by kernel_rfl) (by kernel_rfl)) (by kernel_rfl) (by kernel_rfl) (by kernel_rfl) (door_met os _)) ?_
  intro W base args ds gs before hval0 hW hcnd hsz0 hL _
  have ht := tab_of_laid hL
  have hsz : (DataW.weightsEach Tryd.prog (Tryd.f3.params.toList ++ Rows.featureInversesSpec.plain.varTypes Tryd.prog) (ds ++ gs)).all (· ≤ reachBytes) = true := hsz0
  have hval : ∀ (j : Nat) t v, Tryd.f3.params[j]? = some t → args[j]? = some v → Value.okWide Tryd.prog W .any base t v := hval0
  have hW' := hW
  obtain ⟨p, q, hA0, hV, rfl, hfz, hnd⟩ := hW
  have hA : DataW.TrodAll enc Tryd.prog W 0 (fun _ => true) true Tryd.f3.params.toList args.toList ds p := hA0
  rw [Tryd.params3] at hA hval hsz
  obtain ⟨v0, vs0, d0, ds0, p0, q0, hargs, rfl, rfl, h0, r0⟩ := trodAll_cons hA
  obtain ⟨rfl, rfl, rfl⟩ := trodAll_nil r0
  obtain rfl : args = #[v0] := by cases args; simp_all
  obtain ⟨rfl, rfl⟩ := trodVars_none hV
  obtain ⟨a0, len0, cap0, rfl⟩ := okWide_slice Tryd.underlying22 (hval 0 22 v0 rfl rfl)
  have k0 := h0
  have lt0 : ∀ x ∈ p0, x.block < W.heap.size := by obtain ⟨m, hm⟩ := k0; exact DataW.trod_lt m _ _ _ hm
  obtain ⟨z0, w0⟩ : ∃ zs, IsRow .i64 W a0 len0 cap0 zs := by
    obtain ⟨fuel, hf⟩ := h0
    rcases open_ints Tryd.underlying22 Tryd.underlying3 (by kernel_rfl) hf with ⟨hcs, _⟩ | ⟨x, l, c, zs, hcs, _, hl, hm, hz, _, hcell, hwz⟩
    · simp [Value.cells] at hcs
      obtain ⟨rfl, rfl, rfl⟩ := hcs
      exact ⟨[], .inl ⟨rfl, rfl, rfl, rfl⟩⟩
    · simp [Value.cells] at hcs
      obtain ⟨rfl, rfl, rfl⟩ := hcs
      exact ⟨zs, .inr ⟨_, rfl, hl, hm, by simpa using hz, hcell, hwz⟩⟩
  have y0 : len0 * 8 ≤ 140737488351232 := Go.Proofs.YtdlbmbijobcljaaDoorW.PrintWords.sized_ints hsz (j := 0) (t := 22) rfl rfl Tryd.underlying22 Tryd.underlying3 (by kernel_rfl) (by kernel_rfl) h0
  clear hA0 hval0 hsz0 hsz
  refine (X.earshotlaw03_FeatureInverses.walk Pure.FeatureInverses a0 len0 cap0 z0 W ht w0 y0).mono fun e W' ⟨he, bel⟩ => ?_
  subst he
  exact ⟨_, rfl, _, _, _, [], _, [], hW', trodAll_mk1 (shut_bool Tryd.underlying4 _), (trodAll_cons_mk (Below.trod laidOut (by kernel_rfl) (of_decide_eq_true (by kernel_rfl)) k0 bel lt0) trodAll_mk0), rfl, bel.frame _, fun h => by cases h⟩
theorem closed : joinedFacts Tryd.prog 3 Tryd.f3 Rows.featureInversesSpec Rows.featureInversesRow = true :=
  joined_of rfl rfl rfl (by kernel_rfl) (by kernel_rfl) (by kernel_rfl) (by kernel_rfl) (by kernel_rfl) (by kernel_rfl) (by kernel_rfl) (by kernel_rfl) (by kernel_rfl) (by kernel_rfl) (by kernel_rfl) (by kernel_rfl) (by kernel_rfl) (by kernel_rfl) (by kernel_rfl) (by kernel_rfl) (by kernel_rfl) (by kernel_rfl) (by kernel_rfl) (by kernel_rfl) (by kernel_rfl) (by kernel_rfl) (by kernel_rfl)
theorem over : Rows.featureInversesRow.holds Tryd.pinned (OpenSpec.ofChange Rows.featureInversesSpec) :=
  OpenClaim.holds_of_wide 3 Tryd.f3 rfl rfl rfl rfl rfl rfl rfl ⟨rfl, rfl, rfl, rfl, rfl⟩ rfl rfl rfl rfl rfl (by kernel_rfl) Tryd.func3 closed
    (of_decide_eq_true (by kernel_rfl)) (by unfold Func.isWrapper; first | (rw [if_pos (by decide +kernel)]; kernel_rfl) | (rw [if_neg (by decide +kernel)]; exact ⟨rfl, rfl⟩))
    (fun os started H enc _ => lifted os started H enc)
theorem proved : Rows.FeatureInversesSaid := over
end Go.Proofs.YtdlbmbijobcljaaDoor.featureInverses
namespace Go.Proofs.YtdlbmbijobcljaaDoor
/-- The row, under a short name, for the claim. -/
theorem featureInverses_holds : Rows.FeatureInversesSaid := featureInverses.proved
/-- THE TIED CARD. -/
theorem featureInverses_card : Rows.FeatureInversesCardSaid :=
  Claim7.holds_tied_plain_at .later [] [.data] true (true, "113a42d89db8992b3819bea1327673c10f2f9c06b5576fb37f9626d51ac793bb") false
    featureInverses_holds (fun _ h => by cases h) (by kernel_rfl) (fun _ h => by cases h) featureInverses_row_tie rfl ⟨rfl, rfl⟩ jMain rfl
    (fun f fn hf hfn => by
      obtain rfl : f = 3 := Option.some.inj ((show Tryd.prog.funcNamed "earshot/earshotlaw03.FeatureInverses" = some 3 by kernel_rfl).symm.trans hf) |>.symm
      obtain rfl : fn = Tryd.f3 := (Option.some.inj (Tryd.func3.symm.trans hfn)).symm
      exact ⟨by kernel_rfl, fun j t ht => by
        rw [Tryd.params3] at ht
        have hm : t ∈ [22] := by simpa using Array.mem_of_getElem? ht
        have hall : ([22].all fun u => !Tryd.prog.wantsStandIn u) = true := by kernel_rfl
        exact (show Tryd.prog.wantsStandIn t = false by simpa using List.all_eq_true.1 hall t hm)⟩)
    (by kernel_rfl)
end Go.Proofs.YtdlbmbijobcljaaDoor
