/- Merged by a program of this session's own (wip/print/merge.py): X25, X117, X118, X66, X67, X119, X68, X16, X24, X83, PBase, X61, X58, X55, PVec. No law stands here; conditions: none. -/
import Derived.Test.YtdlbmbijobcljaaDoorMA
import Derived.Test.YtdlbmbijobcljaaDoorMK
import Derived.Test.YtdlbmbijobcljaaDoorMB
namespace Go.Proofs.YtdlbmbijobcljaaDoor.X
open Go.RowKit Go.Proofs.YtdlbmbijobcljaaDoorW.PrintWords Go.Proofs.YtdlbmbijobcljaaDoorW.PrintLast Go.Proofs.YtdlbmbijobcljaaDoorW.PrintMore
attribute [local go_sem] max2_int min2_int max_two min_two max_three min_three max_four min_four   -- for this text's walks alone
set_option linter.unusedVariables false
set_option linter.unusedSimpArgs false
/-! ### earshotref02_All: function 25 -/
def earshotref02_All.l0 : Nat → List Int → Int → Int → Int → Option (Bool)
 | 0, _, _, _, _ => none
 | k + 1, x0, x1, x2, x7 => if x7 < (x0.length : Int) then (if 0 ≤ x7 then (if (rd x0 x7) < x1 then (some false) else (if (rd x0 x7) > x2 then (some false) else (earshotref02_All.l0 k x0 x1 x2 (wrap64 (x7 + 1))))) else (none)) else (some true)
def earshotref02_All.f (k : Nat) (l0 : List Int) (a1 : Int) (a2 : Int) : Option (Bool) := earshotref02_All.l0 k l0 a1 a2 0
theorem earshotref02_All.mono_l : ∀ k, (∀ y0 y1 y2 y3, LeO (earshotref02_All.l0 k y0 y1 y2 y3) (earshotref02_All.l0 (k + 1) y0 y1 y2 y3))
 | 0 => fun _ _ _ _ r h => by simp [earshotref02_All.l0] at h
 | k + 1 => by
  have ih0 := earshotref02_All.mono_l k
  ·intro y0 y1 y2 y3
   unfold earshotref02_All.l0
   repeat' first
   | (with_reducible exact ih0 _ _ _ _)
   | (with_reducible exact LeO.refl _)
   | (with_reducible exact LeO.none _)
   | (with_reducible refine LeO.ite ?_ ?_)
   | (with_reducible refine LeO.bind ?_ (fun _ => ?_))
   | exact ih0 _ _ _ _
   | exact LeO.none _
   | refine LeO.ite ?_ ?_
   | refine LeO.bind ?_ (fun _ => ?_)
theorem earshotref02_All.mono : ∀ a0 a1 a2 k, LeO (earshotref02_All.f k a0 a1 a2) (earshotref02_All.f (k + 1) a0 a1 a2) := by
 intro a0 a1 a2 k
 have ih0 := earshotref02_All.mono_l k
 unfold earshotref02_All.f
 repeat' first
   | (with_reducible exact ih0 _ _ _ _)
   | (with_reducible exact LeO.refl _)
   | (with_reducible exact LeO.none _)
   | (with_reducible refine LeO.ite ?_ ?_)
   | (with_reducible refine LeO.bind ?_ (fun _ => ?_))
   | exact ih0 _ _ _ _
   | exact LeO.none _
   | refine LeO.ite ?_ ?_
   | refine LeO.bind ?_ (fun _ => ?_)
set_option maxHeartbeats 8000000 in
set_option maxRecDepth 100000 in
theorem earshotref02_All.calls (k : Nat) (A0 : Option Addr) (c0 : Nat) (l0 : List Int) (a1 : Int) (a2 : Int) (r : Bool) (w : World) (hr0 : Kd.C (Kd.int .i64) w A0 l0.length l0) (hc0 : l0.length ≤ c0) (h : earshotref02_All.f k l0 a1 a2 = some r) :
  Calls Tryd.prog 25 #[.slice A0 l0.length c0, .int .i64 a1, .int .i64 a2] w fun e w' => e = .returned (.bool r) ∧ Drawn0 w w' := by
 have HR0 := Aside0.mk hr0
 have HC0 := Aside0.mk hc0
 clear hr0 hc0
 have H : (earshotref02_All.l0 k l0 a1 a2 0) = some r := h
 clear h
 have H' := Aside0.mk H
 clear H
 go_enter Tryd.func25, Tryd.ntmps25
 go_wp2
 go_loopg [7] k (fun kq v7 w' => ∃ (x7_1 : Int), v7 = .int .i64 x7_1 ∧ Aside0 (earshotref02_All.l0 kq l0 a1 a2 x7_1 = some r) ∧ Aside0 (kq ≤ k) ∧ Drawn0 w w')
 case atStart => exact ⟨(0), (by first | rfl | (simp; done) | (simp only [i64_w]; done) | (simp [*]; done)), H', ⟨Nat.le_refl _⟩, by repeat (first | exact Drawn0.refl _ | apply Drawn0.step)⟩
 case round =>
  clear H'
  try clear c2
  try clear p2
  obtain ⟨x7_1, rfl, HA, HK1, ⟨m1, rfl⟩⟩ := hrel
  cases gk with
  | zero => exact absurd HA.out (by simp [earshotref02_All.l0])
  | succ k1 =>
   have H := HA.out
   clear HA
   simp only [earshotref02_All.l0] at H
   by_cases c4 : x7_1 < (l0.length : Int)
   ·rw [if_pos c4] at H
    have c4b0 := decide_eq_true c4
    clear c4
    by_cases c5 : 0 ≤ x7_1
    ·rw [if_pos c5] at H
     have c5b0 := decide_eq_true c5
     clear c5
     by_cases c6 : (rd l0 x7_1) < a1
     ·rw [if_pos c6] at H
      have c6b0 := decide_eq_true c6
      clear c6
      obtain rfl := Option.some.inj H
      have p101 : 0 ≤ (x7_1 : Int) := of_decide_eq_true tA
      have q101 : x7_1 < (l0.length : Int) := of_decide_eq_true tA
      obtain ⟨ad101, e101, hx101_0⟩ := Kd.at_int HR0.out x7_1 p101 q101
      cases e101
      replace p101 := eq_true p101
      replace q101 := eq_true q101
      go_wp2
      go_ret
      exact ⟨by first | rfl | (simp; done) | (simp [*]; done), by repeat (first | exact Drawn0.refl _ | apply Drawn0.step)⟩
     ·rw [if_neg c6] at H
      have c6b0 := decide_eq_false c6
      clear c6
      by_cases c7 : (rd l0 x7_1) > a2
      ·rw [if_pos c7] at H
       have c7b0 : decide (a2 < (rd l0 x7_1)) = true := decide_eq_true c7
       clear c7
       obtain rfl := Option.some.inj H
       have p101 : 0 ≤ (x7_1 : Int) := of_decide_eq_true tA
       have q101 : x7_1 < (l0.length : Int) := of_decide_eq_true tA
       obtain ⟨ad101, e101, hx101_0⟩ := Kd.at_int HR0.out x7_1 p101 q101
       cases e101
       replace p101 := eq_true p101
       replace q101 := eq_true q101
       have p102 : 0 ≤ (x7_1 : Int) := of_decide_eq_true tA
       have q102 : x7_1 < (l0.length : Int) := of_decide_eq_true tA
       obtain ⟨ad102, e102, hx102_0⟩ := Kd.at_int HR0.out x7_1 p102 q102
       obtain rfl : ad101 = ad102 := (by injection e102)
       replace p102 := eq_true p102
       replace q102 := eq_true q102
       go_wp2
       go_ret
       exact ⟨by first | rfl | (simp; done) | (simp [*]; done), by repeat (first | exact Drawn0.refl _ | apply Drawn0.step)⟩
      ·rw [if_neg c7] at H
       have c7b0 : decide (a2 < (rd l0 x7_1)) = false := decide_eq_false c7
       clear c7
       have H' := Aside0.mk H
       clear H
       have p101 : 0 ≤ (x7_1 : Int) := of_decide_eq_true tA
       have q101 : x7_1 < (l0.length : Int) := of_decide_eq_true tA
       obtain ⟨ad101, e101, hx101_0⟩ := Kd.at_int HR0.out x7_1 p101 q101
       cases e101
       replace p101 := eq_true p101
       replace q101 := eq_true q101
       have p102 : 0 ≤ (x7_1 : Int) := of_decide_eq_true tA
       have q102 : x7_1 < (l0.length : Int) := of_decide_eq_true tA
       obtain ⟨ad102, e102, hx102_0⟩ := Kd.at_int HR0.out x7_1 p102 q102
       obtain rfl : ad101 = ad102 := (by injection e102)
       replace p102 := eq_true p102
       replace q102 := eq_true q102
       go_wp2
       go_roundg k1
       case measure => have := HK1.out; omega
       case rel => exact ⟨(wrap64 (x7_1 + 1)), (by first | rfl | (simp; done) | (simp only [i64_w]; done) | (simp [*]; done)), H', ⟨by have := HK1.out; omega⟩, by repeat (first | exact Drawn0.refl _ | apply Drawn0.step)⟩
    ·rw [if_neg c5] at H
     exact absurd H (by simp)
   ·rw [if_neg c4] at H
    have c4b0 := decide_eq_false c4
    clear c4
    obtain rfl := Option.some.inj H
    go_wp2
    go_ret
    exact ⟨by first | rfl | (simp; done) | (simp [*]; done), by repeat (first | exact Drawn0.refl _ | apply Drawn0.step)⟩

/-! ### feature_edged: function 117 -/
def feature_edged.l0 : Nat → List Int → Int → List Int → Int → Int → Option (Bool)
 | 0, _, _, _, _, _ => none
 | k + 1, x0, x1, x7, x8, x9 => if x9 < x8 then (if 0 ≤ x9 then (if x9 < (x7.length : Int) then (if (rd x7 x9) < 0 then (some false) else (if (rd x7 x9) > x1 then (some false) else (if x9 > 0 then (if 0 ≤ (wrap64 (x9 - 1)) then (if (wrap64 (x9 - 1)) < (x0.length : Int) then (if (rd x7 x9) ≤ (rd x0 (wrap64 (x9 - 1))) then (some false) else (feature_edged.l0 k x0 x1 x7 x8 (wrap64 (x9 + 1)))) else (none)) else (none)) else (feature_edged.l0 k x0 x1 x7 x8 (wrap64 (x9 + 1)))))) else (none)) else (none)) else (some (decide ((x0.length : Int) ≥ 2)))
def feature_edged.f (k : Nat) (l0 : List Int) (a1 : Int) : Option (Bool) := feature_edged.l0 k l0 a1 l0 (l0.length : Int) 0
theorem feature_edged.mono_l : ∀ k, (∀ y0 y1 y2 y3 y4, LeO (feature_edged.l0 k y0 y1 y2 y3 y4) (feature_edged.l0 (k + 1) y0 y1 y2 y3 y4))
 | 0 => fun _ _ _ _ _ r h => by simp [feature_edged.l0] at h
 | k + 1 => by
  have ih0 := feature_edged.mono_l k
  ·intro y0 y1 y2 y3 y4
   unfold feature_edged.l0
   repeat' first
   | (with_reducible exact ih0 _ _ _ _ _)
   | (with_reducible exact LeO.refl _)
   | (with_reducible exact LeO.none _)
   | (with_reducible refine LeO.ite ?_ ?_)
   | (with_reducible refine LeO.bind ?_ (fun _ => ?_))
   | exact ih0 _ _ _ _ _
   | exact LeO.none _
   | refine LeO.ite ?_ ?_
   | refine LeO.bind ?_ (fun _ => ?_)
theorem feature_edged.mono : ∀ a0 a1 k, LeO (feature_edged.f k a0 a1) (feature_edged.f (k + 1) a0 a1) := by
 intro a0 a1 k
 have ih0 := feature_edged.mono_l k
 unfold feature_edged.f
 repeat' first
   | (with_reducible exact ih0 _ _ _ _ _)
   | (with_reducible exact LeO.refl _)
   | (with_reducible exact LeO.none _)
   | (with_reducible refine LeO.ite ?_ ?_)
   | (with_reducible refine LeO.bind ?_ (fun _ => ?_))
   | exact ih0 _ _ _ _ _
   | exact LeO.none _
   | refine LeO.ite ?_ ?_
   | refine LeO.bind ?_ (fun _ => ?_)
set_option maxHeartbeats 8000000 in
set_option maxRecDepth 100000 in
theorem feature_edged.calls (k : Nat) (A0 : Option Addr) (c0 : Nat) (l0 : List Int) (a1 : Int) (r : Bool) (w : World) (hr0 : Kd.C (Kd.int .i64) w A0 l0.length l0) (hc0 : l0.length ≤ c0) (h : feature_edged.f k l0 a1 = some r) :
  Calls Tryd.prog 117 #[.slice A0 l0.length c0, .int .i64 a1] w fun e w' => e = .returned (.bool r) ∧ Drawn0 w w' := by
 have HR0 := Aside0.mk hr0
 have HC0 := Aside0.mk hc0
 clear hr0 hc0
 have H : (feature_edged.l0 k l0 a1 l0 (l0.length : Int) 0) = some r := h
 clear h
 have H' := Aside0.mk H
 clear H
 go_enter Tryd.func117, Tryd.ntmps117
 go_wp2
 go_loopg [9] k (fun kq v9 w' => ∃ (x9_1 : Int), v9 = .int .i64 x9_1 ∧ Aside0 (feature_edged.l0 kq l0 a1 l0 (l0.length : Int) x9_1 = some r) ∧ Aside0 (kq ≤ k) ∧ Drawn0 w w')
 case atStart => exact ⟨(0), (by first | rfl | (simp; done) | (simp only [i64_w]; done) | (simp [*]; done)), H', ⟨Nat.le_refl _⟩, by repeat (first | exact Drawn0.refl _ | apply Drawn0.step)⟩
 case round =>
  clear H'
  try clear c1
  try clear p2
  obtain ⟨x9_1, rfl, HA, HK1, ⟨m1, rfl⟩⟩ := hrel
  cases gk with
  | zero => exact absurd HA.out (by simp [feature_edged.l0])
  | succ k1 =>
   have H := HA.out
   clear HA
   simp only [feature_edged.l0] at H
   by_cases c3 : x9_1 < (l0.length : Int)
   ·rw [if_pos c3] at H
    have c3b0 := decide_eq_true c3
    clear c3
    by_cases c4 : 0 ≤ x9_1
    ·rw [if_pos c4] at H
     have c4b0 := decide_eq_true c4
     clear c4
     by_cases c5 : x9_1 < (l0.length : Int)
     ·rw [if_pos c5] at H
      have c5b0 := decide_eq_true c5
      clear c5
      by_cases c6 : (rd l0 x9_1) < 0
      ·rw [if_pos c6] at H
       have c6b0 := decide_eq_true c6
       clear c6
       obtain rfl := Option.some.inj H
       have p101 : 0 ≤ (x9_1 : Int) := of_decide_eq_true tA
       have q101 : x9_1 < (l0.length : Int) := of_decide_eq_true tA
       obtain ⟨ad101, e101, hx101_0⟩ := Kd.at_int HR0.out x9_1 p101 q101
       cases e101
       replace p101 := eq_true p101
       replace q101 := eq_true q101
       go_wp2
       go_ret
       exact ⟨by first | rfl | (simp; done) | (simp [*]; done), by repeat (first | exact Drawn0.refl _ | apply Drawn0.step)⟩
      ·rw [if_neg c6] at H
       have c6b0 := decide_eq_false c6
       clear c6
       by_cases c7 : (rd l0 x9_1) > a1
       ·rw [if_pos c7] at H
        have c7b0 : decide (a1 < (rd l0 x9_1)) = true := decide_eq_true c7
        clear c7
        obtain rfl := Option.some.inj H
        have p101 : 0 ≤ (x9_1 : Int) := of_decide_eq_true tA
        have q101 : x9_1 < (l0.length : Int) := of_decide_eq_true tA
        obtain ⟨ad101, e101, hx101_0⟩ := Kd.at_int HR0.out x9_1 p101 q101
        cases e101
        replace p101 := eq_true p101
        replace q101 := eq_true q101
        go_wp2
        go_ret
        exact ⟨by first | rfl | (simp; done) | (simp [*]; done), by repeat (first | exact Drawn0.refl _ | apply Drawn0.step)⟩
       ·rw [if_neg c7] at H
        have c7b0 : decide (a1 < (rd l0 x9_1)) = false := decide_eq_false c7
        clear c7
        by_cases c8 : x9_1 > 0
        ·rw [if_pos c8] at H
         have c8b0 : decide (0 < x9_1) = true := decide_eq_true c8
         clear c8
         obtain ⟨ji9, hji9⟩ : ∃ j_ : Int, (wrap64 (x9_1 - 1)) = j_ := ⟨_, rfl⟩
         first | rw [hji9] at H | simp only [hji9] at H
         have hji9w : (IntKind.i64.wrap (x9_1 - 1)) = ji9 := (i64_w _).trans hji9
         by_cases c10 : 0 ≤ (ji9)
         ·rw [if_pos c10] at H
          have c10b0 := decide_eq_true c10
          clear c10
          by_cases c11 : (ji9) < (l0.length : Int)
          ·rw [if_pos c11] at H
           have c11b0 := decide_eq_true c11
           clear c11
           by_cases c12 : (rd l0 x9_1) ≤ (rd l0 (ji9))
           ·rw [if_pos c12] at H
            have c12b0 := decide_eq_true c12
            clear c12
            obtain rfl := Option.some.inj H
            have p101 : 0 ≤ (x9_1 : Int) := of_decide_eq_true tA
            have q101 : x9_1 < (l0.length : Int) := of_decide_eq_true tA
            obtain ⟨ad101, e101, hx101_0⟩ := Kd.at_int HR0.out x9_1 p101 q101
            cases e101
            replace p101 := eq_true p101
            replace q101 := eq_true q101
            have p102 : 0 ≤ ((ji9) : Int) := of_decide_eq_true tA
            have q102 : (ji9) < (l0.length : Int) := of_decide_eq_true tA
            obtain ⟨ad102, e102, hx102_0⟩ := Kd.at_int HR0.out (ji9) p102 q102
            obtain rfl : ad101 = ad102 := (by injection e102)
            replace p102 := eq_true p102
            replace q102 := eq_true q102
            go_wp2
            go_ret
            exact ⟨by first | rfl | (simp; done) | (simp only [← hji9] <;> (first | rfl | simp)) | (simp [*]; done), by repeat (first | exact Drawn0.refl _ | apply Drawn0.step)⟩
           ·rw [if_neg c12] at H
            have c12b0 := decide_eq_false c12
            clear c12
            have H' := Aside0.mk H
            clear H
            have p101 : 0 ≤ (x9_1 : Int) := of_decide_eq_true tA
            have q101 : x9_1 < (l0.length : Int) := of_decide_eq_true tA
            obtain ⟨ad101, e101, hx101_0⟩ := Kd.at_int HR0.out x9_1 p101 q101
            cases e101
            replace p101 := eq_true p101
            replace q101 := eq_true q101
            have p102 : 0 ≤ ((ji9) : Int) := of_decide_eq_true tA
            have q102 : (ji9) < (l0.length : Int) := of_decide_eq_true tA
            obtain ⟨ad102, e102, hx102_0⟩ := Kd.at_int HR0.out (ji9) p102 q102
            obtain rfl : ad101 = ad102 := (by injection e102)
            replace p102 := eq_true p102
            replace q102 := eq_true q102
            go_wp2
            go_roundg k1
            case measure => have := HK1.out; omega
            case rel => exact ⟨(wrap64 (x9_1 + 1)), (by first | rfl | (simp; done) | (simp only [i64_w]; done) | (simp [*]; done)), H', ⟨by have := HK1.out; omega⟩, by repeat (first | exact Drawn0.refl _ | apply Drawn0.step)⟩
          ·rw [if_neg c11] at H
           exact absurd H (by simp)
         ·rw [if_neg c10] at H
          exact absurd H (by simp)
        ·rw [if_neg c8] at H
         have c8b0 : decide (0 < x9_1) = false := decide_eq_false c8
         clear c8
         have H' := Aside0.mk H
         clear H
         have p101 : 0 ≤ (x9_1 : Int) := of_decide_eq_true tA
         have q101 : x9_1 < (l0.length : Int) := of_decide_eq_true tA
         obtain ⟨ad101, e101, hx101_0⟩ := Kd.at_int HR0.out x9_1 p101 q101
         cases e101
         replace p101 := eq_true p101
         replace q101 := eq_true q101
         go_wp2
         go_roundg k1
         case measure => have := HK1.out; omega
         case rel => exact ⟨(wrap64 (x9_1 + 1)), (by first | rfl | (simp; done) | (simp only [i64_w]; done) | (simp [*]; done)), H', ⟨by have := HK1.out; omega⟩, by repeat (first | exact Drawn0.refl _ | apply Drawn0.step)⟩
     ·rw [if_neg c5] at H
      exact absurd H (by simp)
    ·rw [if_neg c4] at H
     exact absurd H (by simp)
   ·rw [if_neg c3] at H
    have c3b0 := decide_eq_false c3
    clear c3
    obtain rfl := Option.some.inj H
    go_wp2
    go_ret
    exact ⟨by first | rfl | (simp; done) | (simp [*]; done), by repeat (first | exact Drawn0.refl _ | apply Drawn0.step)⟩

/-! ### feature_bands: function 118 -/
mutual
def feature_bands.l0 : Nat → List Int → List Int → List Int → Int → Int → Option (List Int)
 | 0, _, _, _, _, _ => none
 | k + 1, x0, x1, x5, x14, x15 => if x15 < x14 then (if 0 ≤ x15 then (if x15 < (x1.length : Int) then (if 0 ≤ (wrap64 (x15 + 1)) then (if (wrap64 (x15 + 1)) < (x1.length : Int) then (if 0 ≤ (rd x1 x15) then (if (rd x1 x15) ≤ (rd x1 (wrap64 (x15 + 1))) then (if (rd x1 (wrap64 (x15 + 1))) ≤ (x0.length : Int) then (feature_bands.l1 k x0 x1 x5 x15 x14 x15 ((x0.take ((rd x1 (wrap64 (x15 + 1))) : Int).toNat).drop ((rd x1 x15) : Int).toNat) (((x0.take ((rd x1 (wrap64 (x15 + 1))) : Int).toNat).drop ((rd x1 x15) : Int).toNat).length : Int) 0) else (none)) else (none)) else (none)) else (none)) else (none)) else (none)) else (none)) else (some x5)
def feature_bands.l1 : Nat → List Int → List Int → List Int → Int → Int → Int → List Int → Int → Int → Option (List Int)
 | 0, _, _, _, _, _, _, _, _, _ => none
 | k + 1, x0, x1, x5, x6, x14, x15, x28, x29, x30 => if x30 < x29 then (if 0 ≤ x30 then (if x30 < (x28.length : Int) then (if 0 ≤ x6 then (if x6 < (x5.length : Int) then (feature_bands.l1 k x0 x1 (x5.set (x6 : Int).toNat (wrap64 ((rd x5 x6) + (wrap64 ((rd x28 x30) * (rd x28 x30)))))) x6 x14 x15 x28 x29 (wrap64 (x30 + 1))) else (none)) else (none)) else (none)) else (none)) else (feature_bands.l0 k x0 x1 x5 x14 (wrap64 (x15 + 1)))
end
def feature_bands.f (k : Nat) (l0 : List Int) (l1 : List Int) : Option (List Int) := if 0 ≤ (wrap64 ((l1.length : Int) - 1)) then (if (wrap64 ((l1.length : Int) - 1) : Int).toNat ≤ 35184372088832 then ((some (List.replicate (wrap64 ((l1.length : Int) - 1) : Int).toNat 0 : List Int)).bind fun y101 => (feature_bands.l0 k l0 l1 y101 (y101.length : Int) 0)) else (none)) else (none)
theorem feature_bands.mono_l : ∀ k, (∀ y0 y1 y2 y3 y4, LeO (feature_bands.l0 k y0 y1 y2 y3 y4) (feature_bands.l0 (k + 1) y0 y1 y2 y3 y4)) ∧ (∀ y0 y1 y2 y3 y4 y5 y6 y7 y8, LeO (feature_bands.l1 k y0 y1 y2 y3 y4 y5 y6 y7 y8) (feature_bands.l1 (k + 1) y0 y1 y2 y3 y4 y5 y6 y7 y8))
 | 0 => ⟨fun _ _ _ _ _ r h => by simp [feature_bands.l0] at h, fun _ _ _ _ _ _ _ _ _ r h => by simp [feature_bands.l1] at h⟩
 | k + 1 => by
  obtain ⟨ih0, ih1⟩ := feature_bands.mono_l k
  refine ⟨?_, ?_⟩
  ·intro y0 y1 y2 y3 y4
   unfold feature_bands.l0
   repeat' first
   | (with_reducible exact ih0 _ _ _ _ _)
   | (with_reducible exact ih1 _ _ _ _ _ _ _ _ _)
   | (with_reducible exact LeO.refl _)
   | (with_reducible exact LeO.none _)
   | (with_reducible refine LeO.ite ?_ ?_)
   | (with_reducible refine LeO.bind ?_ (fun _ => ?_))
   | exact ih0 _ _ _ _ _
   | exact ih1 _ _ _ _ _ _ _ _ _
   | exact LeO.none _
   | refine LeO.ite ?_ ?_
   | refine LeO.bind ?_ (fun _ => ?_)
  ·intro y0 y1 y2 y3 y4 y5 y6 y7 y8
   unfold feature_bands.l1
   repeat' first
   | (with_reducible exact ih0 _ _ _ _ _)
   | (with_reducible exact ih1 _ _ _ _ _ _ _ _ _)
   | (with_reducible exact LeO.refl _)
   | (with_reducible exact LeO.none _)
   | (with_reducible refine LeO.ite ?_ ?_)
   | (with_reducible refine LeO.bind ?_ (fun _ => ?_))
   | exact ih0 _ _ _ _ _
   | exact ih1 _ _ _ _ _ _ _ _ _
   | exact LeO.none _
   | refine LeO.ite ?_ ?_
   | refine LeO.bind ?_ (fun _ => ?_)
theorem feature_bands.mono : ∀ a0 a1 k, LeO (feature_bands.f k a0 a1) (feature_bands.f (k + 1) a0 a1) := by
 intro a0 a1 k
 obtain ⟨ih0, ih1⟩ := feature_bands.mono_l k
 unfold feature_bands.f
 repeat' first
   | (with_reducible exact ih0 _ _ _ _ _)
   | (with_reducible exact ih1 _ _ _ _ _ _ _ _ _)
   | (with_reducible exact LeO.refl _)
   | (with_reducible exact LeO.none _)
   | (with_reducible refine LeO.ite ?_ ?_)
   | (with_reducible refine LeO.bind ?_ (fun _ => ?_))
   | exact ih0 _ _ _ _ _
   | exact ih1 _ _ _ _ _ _ _ _ _
   | exact LeO.none _
   | refine LeO.ite ?_ ?_
   | refine LeO.bind ?_ (fun _ => ?_)
set_option maxHeartbeats 8000000 in
set_option maxRecDepth 100000 in
theorem feature_bands.calls (k : Nat) (A0 : Option Addr) (c0 : Nat) (l0 : List Int) (A1 : Option Addr) (c1 : Nat) (l1 : List Int) (r : List Int) (w : World) (hr0 : Kd.C (Kd.int .i64) w A0 l0.length l0) (hc0 : l0.length ≤ c0) (hr1 : Kd.C (Kd.int .i64) w A1 l1.length l1) (hc1 : l1.length ≤ c1) (h : feature_bands.f k l0 l1 = some r) :
  Calls Tryd.prog 118 #[.slice A0 l0.length c0, .slice A1 l1.length c1] w fun e w' => ∃ v0_ : Value, e = .returned (v0_) ∧ Kd.R (Kd.int .i64) 3 w' w.heap.size (fun _ => True) v0_ r ∧ Below w.heap.size w w' := by
 have HR0 := Aside0.mk hr0
 have HC0 := Aside0.mk hc0
 clear hr0 hc0
 have HR1 := Aside0.mk hr1
 have HC1 := Aside0.mk hc1
 clear hr1 hc1
 have HB := Aside0.mk (Below.refl w.heap.size w)
 have H : (if 0 ≤ (wrap64 ((l1.length : Int) - 1)) then (if (wrap64 ((l1.length : Int) - 1) : Int).toNat ≤ 35184372088832 then ((some (List.replicate (wrap64 ((l1.length : Int) - 1) : Int).toNat 0 : List Int)).bind fun y101 => (feature_bands.l0 k l0 l1 y101 (y101.length : Int) 0)) else (none)) else (none)) = some r := h
 clear h
 obtain ⟨ji3, hji3⟩ : ∃ j_ : Int, (wrap64 ((l1.length : Int) - 1)) = j_ := ⟨_, rfl⟩
 first | rw [hji3] at H | simp only [hji3] at H
 have hji3w : (IntKind.i64.wrap ((l1.length : Int) - 1)) = ji3 := (i64_w _).trans hji3
 by_cases c4 : 0 ≤ (ji3)
 ·rw [if_pos c4] at H
  have c4b0 := eq_true c4
  have c4b1 := decide_eq_true c4
  clear c4
  by_cases c5 : (ji3 : Int).toNat ≤ 35184372088832
  ·rw [if_pos c5] at H
   have c5b0 := eq_true c5
   have c5b1 := decide_eq_true c5
   clear c5
   obtain ⟨y101, hy101⟩ : ∃ y_ : List Int, y_ = (List.replicate (ji3 : Int).toNat 0) := ⟨_, rfl⟩
   replace H : (feature_bands.l0 k l0 l1 y101 (y101.length : Int) 0) = some r := by first | (rw [hy101]; with_reducible exact H) | (have H2_ := (Option.bind_some _ _).symm.trans H; rw [hy101]; with_reducible exact H2_) | (have H2_ := (Option.bind_some _ _).symm.trans H; with_reducible exact H2_) | with_reducible exact H | (rw [hy101]; exact H) | exact H
   have Ny101 := Aside0.mk hy101
   clear hy101
   have H' := Aside0.mk H
   clear H
   go_enter Tryd.func118, Tryd.ntmps118
   go_wp2_with (first | ((with_reducible refine gate_dst (N := 12) rfl ?_); refine Kd.R_make (Kd.int .i64) _ 3 rfl (N := 12) rfl 22 _ _ rfl ji3 rfl rfl Tryd.underlying22 (.int .i64 0) 8 info3 rfl (by decide) (by omega) 0 (ok := fun _ => True) (okp := fun _ => True) rfl (fun _ hk => hk) trivial (of_decide_eq_true tA) (Nat.le_trans (Nat.mul_le_mul_right _ (of_decide_eq_true tA : ji3.toNat ≤ 35184372088832)) (by omega)) (Below.refl _ _) (Nat.le_refl _) ?_; intro v102 w6 ho7 hb hg_ hnew_; clear hg_ hnew_; (first | rw [← Ny101.out] at ho7 | (simp only [Int.reduceToNat] at ho7; rw [← Ny101.out] at ho7)); have n0_ := Aside0.mk (Kd.R_lower ho7 (below_size tB)); have n1_ := Aside0.mk (below_step tB hb); clear HB; have HO103 := n0_; have HB := n1_; clear n0_ n1_; clear hb ho7; obtain ⟨Ao8, co8, eo8⟩ := Kd.R_slice HO103.out; subst eo8))
   repeat (go_quiet (first | ((with_reducible refine gate_dst (N := 12) rfl ?_); refine Kd.R_make (Kd.int .i64) _ 3 rfl (N := 12) rfl 22 _ _ rfl ji3 rfl rfl Tryd.underlying22 (.int .i64 0) 8 info3 rfl (by decide) (by omega) 0 (ok := fun _ => True) (okp := fun _ => True) rfl (fun _ hk => hk) trivial (of_decide_eq_true tA) (Nat.le_trans (Nat.mul_le_mul_right _ (of_decide_eq_true tA : ji3.toNat ≤ 35184372088832)) (by omega)) (Below.refl _ _) (Nat.le_refl _) ?_; intro v102 w6 ho7 hb hg_ hnew_; clear hg_ hnew_; (first | rw [← Ny101.out] at ho7 | (simp only [Int.reduceToNat] at ho7; rw [← Ny101.out] at ho7)); have n0_ := Aside0.mk (Kd.R_lower ho7 (below_size tB)); have n1_ := Aside0.mk (below_step tB hb); clear HB; have HO103 := n0_; have HB := n1_; clear n0_ n1_; clear hb ho7; obtain ⟨Ao8, co8, eo8⟩ := Kd.R_slice HO103.out; subst eo8)); try go_wp2_with (first | ((with_reducible refine gate_dst (N := 12) rfl ?_); refine Kd.R_make (Kd.int .i64) _ 3 rfl (N := 12) rfl 22 _ _ rfl ji3 rfl rfl Tryd.underlying22 (.int .i64 0) 8 info3 rfl (by decide) (by omega) 0 (ok := fun _ => True) (okp := fun _ => True) rfl (fun _ hk => hk) trivial (of_decide_eq_true tA) (Nat.le_trans (Nat.mul_le_mul_right _ (of_decide_eq_true tA : ji3.toNat ≤ 35184372088832)) (by omega)) (Below.refl _ _) (Nat.le_refl _) ?_; intro v102 w6 ho7 hb hg_ hnew_; clear hg_ hnew_; (first | rw [← Ny101.out] at ho7 | (simp only [Int.reduceToNat] at ho7; rw [← Ny101.out] at ho7)); have n0_ := Aside0.mk (Kd.R_lower ho7 (below_size tB)); have n1_ := Aside0.mk (below_step tB hb); clear HB; have HO103 := n0_; have HB := n1_; clear n0_ n1_; clear hb ho7; obtain ⟨Ao8, co8, eo8⟩ := Kd.R_slice HO103.out; subst eo8)))
   go_loopg [15] k (fun kq v15 w' => ∃ (x5_1 : List Int) (x15_1 : Int), v15 = .int .i64 x15_1 ∧ Aside0 (feature_bands.l0 kq l0 l1 x5_1 (y101.length : Int) x15_1 = some r) ∧ Aside0 (kq ≤ k) ∧ Aside0 (Kd.R (Kd.int .i64) 3 w' w.heap.size (fun _ => True) (.slice Ao8 y101.length co8) x5_1) ∧ Aside0 (Below w.heap.size w w'))
   case atStart => exact ⟨(y101), (0), (by first | rfl | (simp; done) | (simp only [i64_w]; done) | (simp [*]; done)), H', ⟨Nat.le_refl _⟩, ⟨tR HO103.out⟩, ⟨tB⟩⟩
   case round =>
    clear H'
    try clear c1
    try clear p2
    try clear c4
    try clear c4b0
    try clear c4b1
    try clear c5
    try clear c5b0
    try clear c5b1
    try clear p6
    obtain ⟨x5_1, x15_1, rfl, HA, HK1, HO_5, HB⟩ := hrel
    have hl5_1 := (Kd.R_reads' HO_5.out).1
    rw [hl5_1] at HO_5
    (try simp only [hl5_1])
    cases gk with
    | zero => exact absurd HA.out (by simp [feature_bands.l0])
    | succ k1 =>
     have H := HA.out
     clear HA
     simp only [feature_bands.l0] at H
     by_cases c9 : x15_1 < (y101.length : Int)
     ·rw [if_pos c9] at H
      have c9b0 := decide_eq_true c9
      (try simp only [hl5_1] at c9b0)
      clear c9
      by_cases c10 : 0 ≤ x15_1
      ·rw [if_pos c10] at H
       have c10b0 := decide_eq_true c10
       clear c10
       by_cases c11 : x15_1 < (l1.length : Int)
       ·rw [if_pos c11] at H
        have c11b0 := decide_eq_true c11
        (try simp only [hl5_1] at c11b0)
        clear c11
        obtain ⟨ji12, hji12⟩ : ∃ j_ : Int, (wrap64 (x15_1 + 1)) = j_ := ⟨_, rfl⟩
        first | rw [hji12] at H | simp only [hji12] at H
        have hji12w : (IntKind.i64.wrap (x15_1 + 1)) = ji12 := (i64_w _).trans hji12
        by_cases c13 : 0 ≤ (ji12)
        ·rw [if_pos c13] at H
         have c13b0 := decide_eq_true c13
         clear c13
         by_cases c14 : (ji12) < (l1.length : Int)
         ·rw [if_pos c14] at H
          have c14b0 := decide_eq_true c14
          (try simp only [hl5_1] at c14b0)
          clear c14
          by_cases c15 : 0 ≤ (rd l1 x15_1)
          ·rw [if_pos c15] at H
           have c15b0 := eq_true c15
           have c15b1 := decide_eq_true c15
           clear c15
           by_cases c16 : (rd l1 x15_1) ≤ (rd l1 (ji12))
           ·rw [if_pos c16] at H
            have c16b0 := eq_true c16
            have c16b1 := decide_eq_true c16
            clear c16
            by_cases c17 : (rd l1 (ji12)) ≤ (l0.length : Int)
            ·rw [if_pos c17] at H
             have c17b0 := eq_true c17
             have c17b1 := decide_eq_true c17
             clear c17
             have H' := Aside0.mk H
             clear H
             have p104 : 0 ≤ (x15_1 : Int) := of_decide_eq_true tA
             have q104 : x15_1 < (l1.length : Int) := of_decide_eq_true tA
             obtain ⟨ad104, e104, hx104_0⟩ := Kd.at_int HR1.out x15_1 p104 q104
             cases e104
             replace hx104_0 := (HB.out.cell (World.block_lt_of_cell? w _ hx104_0)).trans hx104_0
             replace p104 := eq_true p104
             replace q104 := eq_true q104
             have p105 : 0 ≤ ((ji12) : Int) := of_decide_eq_true tA
             have q105 : (ji12) < (l1.length : Int) := of_decide_eq_true tA
             obtain ⟨ad105, e105, hx105_0⟩ := Kd.at_int HR1.out (ji12) p105 q105
             obtain rfl : ad104 = ad105 := (by injection e105)
             replace hx105_0 := (HB.out.cell (World.block_lt_of_cell? w _ hx105_0)).trans hx105_0
             replace p105 := eq_true p105
             replace q105 := eq_true q105
             obtain ⟨i018, hi018, _, hsz18, _⟩ := info_parts info3
             obtain ⟨A18, hcut18, hA18, hC18⟩ := print_mid_of (P := Tryd.prog) (Value.int .i64) 0 22 3 .i64 .i64 Tryd.underlying22 hi018 hsz18 A0 c0 l0 (rd l1 x15_1) (rd l1 (ji12)) (of_decide_eq_true tA) (by first | omega | exact of_decide_eq_true tA) (of_decide_eq_true tA) HC0.out
             have HR106 := Aside0.mk (Kd.C_of_reads (h1 := fun _ => rfl) (hA18 _ (Kd.reads_of_C HR0.out)))
             have HC106 := Aside0.mk hC18
             clear hA18 hC18 hi018 hsz18
             obtain ⟨zs, hzs⟩ : ∃ y_ : List Int, y_ = ((l0.take ((rd l1 (ji12)) : Int).toNat).drop ((rd l1 x15_1) : Int).toNat) := ⟨_, rfl⟩
             rw [← hzs] at hcut18
             have z_ := HR106.out
             rw [← hzs] at z_
             clear HR106
             have HR106 := Aside0.mk z_
             clear z_
             have z_ := HC106.out
             rw [← hzs] at z_
             clear HC106
             have HC106 := Aside0.mk z_
             clear z_
             have z_ := H'.out
             rw [← hzs] at z_
             clear H'
             have H' := Aside0.mk z_
             clear z_
             clear hzs
             go_wp2
             repeat (go_quiet (fail); try go_wp2)
             go_loopg [30] k1 (fun kq v30 w' => ∃ (x5_2 : List Int) (x30_2 : Int), v30 = .int .i64 x30_2 ∧ Aside0 (feature_bands.l1 kq l0 l1 x5_2 x15_1 (y101.length : Int) x15_1 zs (zs.length : Int) x30_2 = some r) ∧ Aside0 (kq ≤ k1) ∧ Aside0 (Kd.R (Kd.int .i64) 3 w' w.heap.size (fun _ => True) (.slice Ao8 x5_1.length co8) x5_2) ∧ Aside0 (Below w.heap.size w w'))
             case atStart => exact ⟨(x5_1), (0), (by first | rfl | (simp; done) | (simp only [i64_w]; done) | (simp [*]; done)), H', ⟨Nat.le_refl _⟩, ⟨by (try simp only [hl5_1]); exact tR HO_5.out⟩, ⟨tB⟩⟩
             case round =>
              clear H'
              try clear c1
              try clear p1
              try clear q1
              try clear hx1
              try clear p2
              try clear c4
              try clear c4b0
              try clear c4b1
              try clear c5
              try clear c5b0
              try clear c5b1
              try clear p6
              try clear c9
              try clear c9b0
              try clear c10
              try clear c10b0
              try clear p10
              try clear q10
              try clear hx10
              try clear c11
              try clear c11b0
              try clear c13
              try clear c13b0
              try clear c14
              try clear c14b0
              try clear c15
              try clear c15b0
              try clear c15b1
              try clear c16
              try clear c16b0
              try clear c16b1
              try clear c17
              try clear c17b0
              try clear c17b1
              try clear hx104_0
              try clear hx105_0
              try clear p104
              try clear p105
              try clear p2
              try clear p6
              try clear q104
              try clear q105
              obtain ⟨x5_2, x30_2, rfl, HA, HK2, HO_5, HB⟩ := hrel
              have hl5_2 := (Kd.R_reads' HO_5.out).1
              rw [hl5_2] at HO_5
              (try simp only [hl5_2])
              cases gk with
              | zero => exact absurd HA.out (by simp [feature_bands.l1])
              | succ k2 =>
               have H := HA.out
               clear HA
               simp only [feature_bands.l1] at H
               by_cases c19 : x30_2 < (zs.length : Int)
               ·rw [if_pos c19] at H
                have c19b0 := decide_eq_true c19
                (try simp only [hl5_1, hl5_2] at c19b0)
                clear c19
                by_cases c20 : 0 ≤ x30_2
                ·rw [if_pos c20] at H
                 have c20b0 := decide_eq_true c20
                 clear c20
                 by_cases c21 : x30_2 < (zs.length : Int)
                 ·rw [if_pos c21] at H
                  have c21b0 := decide_eq_true c21
                  (try simp only [hl5_1, hl5_2] at c21b0)
                  clear c21
                  by_cases c22 : 0 ≤ x15_1
                  ·rw [if_pos c22] at H
                   have c22b0 := decide_eq_true c22
                   clear c22
                   by_cases c23 : x15_1 < (x5_2.length : Int)
                   ·rw [if_pos c23] at H
                    have c23b0 := decide_eq_true c23
                    (try simp only [hl5_1, hl5_2] at c23b0)
                    clear c23
                    obtain ⟨y109, hy109⟩ : ∃ y_ : List Int, y_ = (x5_2.set (x15_1 : Int).toNat (wrap64 ((rd x5_2 x15_1) + (wrap64 ((rd zs x30_2) * (rd zs x30_2)))))) := ⟨_, rfl⟩
                    replace H : (feature_bands.l1 k2 l0 l1 y109 x15_1 (y101.length : Int) x15_1 zs (zs.length : Int) (wrap64 (x30_2 + 1))) = some r := by first | (rw [hy109]; with_reducible exact H) | (have H2_ := (Option.bind_some _ _).symm.trans H; rw [hy109]; with_reducible exact H2_) | (have H2_ := (Option.bind_some _ _).symm.trans H; with_reducible exact H2_) | with_reducible exact H | (rw [hy109]; exact H) | exact H
                    have Ny109 := Aside0.mk hy109
                    clear hy109
                    have H' := Aside0.mk H
                    clear H
                    have p107 : 0 ≤ (x30_2 : Int) := of_decide_eq_true tA
                    have q107 : x30_2 < (zs.length : Int) := of_decide_eq_true tA
                    obtain ⟨ad107, e107, hx107_0⟩ := Kd.at_int HR106.out x30_2 p107 q107
                    cases e107
                    replace hx107_0 := (HB.out.cell (World.block_lt_of_cell? w _ hx107_0)).trans hx107_0
                    replace p107 := eq_true p107
                    replace q107 := eq_true q107
                    have p108 : 0 ≤ (x15_1 : Int) := of_decide_eq_true tA
                    have q108 : x15_1 < (x5_2.length : Int) := of_decide_eq_true tA
                    obtain ⟨ad108, e108, hx108_0⟩ := Kd.at_int (Kd.R_reads' HO_5.out).2.2 x15_1 p108 q108
                    cases e108
                    replace p108 := eq_true p108
                    replace q108 := eq_true q108
                    have p24 : 0 ≤ (x15_1 : Int) := of_decide_eq_true tA
                    have q24 : (x15_1 : Int) < ((x5_2.length : Int) : Int) := of_decide_eq_true tA
                    obtain ⟨go24, co24, eo24, gb24, gl24, cl24, HG24⟩ := Kd.R_form HO_5.out (by omega)
                    (first | cases eo24 | (injection eo24 with ea_ en_ ec_; (first | subst ea_ | (injection ea_ with ea_; subst ea_)); subst ec_; clear en_))
                    have GB24 := Aside0.mk gb24
                    have GG24 := Aside0.mk HG24
                    clear gb24 gl24 HG24
                    (first | simp only [add_plain] at hx108_0 | skip)
                    obtain ⟨hx24_0, hf24_0⟩ := Kd.R_celln 0 HO_5.out (x15_1 : Int) p24 q24
                    replace p24 := eq_true p24
                    replace q24 := eq_true q24
                    have HP25 := Kd.R_putg HO_5.out (x15_1 : Int) (wrap64 ((rd x5_2 x15_1) + (wrap64 ((rd zs x30_2) * (rd zs x30_2)))))
                    go_wp2_with (first | ((with_reducible refine gate_store (t := 3) (p := 42) rfl ?_); (try (rw [drewN_self wr]; generalize hq_ : World.drewN wr _ = wr; (try have hx24_0 := cell_at hq_ hx24_0); (try have hf24_0 := frozen_at hq_ hf24_0); have n0_ := Aside0.mk (Kd.R_at hq_ HO_5.out); have n1_ := Aside0.mk (below_at hq_ HB.out); clear hq_ HO_5 HB; have HO_5 := n0_; have HB := n1_; clear n0_ n1_; (try (have HP25 := Kd.R_putg HO_5.out (x15_1 : Int) (wrap64 ((rd x5_2 x15_1) + (wrap64 ((rd zs x30_2) * (rd zs x30_2))))))))); refine store_event (t := 3) (p := 42) (v := ?vo_w26) (w1 := (wr.setCell ⟨go24, (x15_1 : Int).toNat, none⟩ (.int .i64 (wrap64 ((rd x5_2 x15_1) + (wrap64 ((rd zs x30_2) * (rd zs x30_2)))))))) ?hg ?ho ?hn ?hr ?_; (case ho => rfl); (case hg => rfl); (case hn => rfl); (case hr => first | (go_simp; done) | (go_simp; rfl)); intro w26 hw; have hg : wr.grownBy w26 (some go24) := (by rw [hw]; exact HP25.2); have hp_ : Kd.R (Kd.int .i64) 3 w26 w.heap.size (fun _ => True) (.slice (some ⟨go24, 0, none⟩) x5_2.length co8) y109 := (by rw [hw, Ny109.out]; exact HP25.1); clear HP25; have n0_ := Aside0.mk (hp_); have n1_ := Aside0.mk ((by rw [hw]; exact below_set (HB.out) GB24.out : Below w.heap.size w w26)); clear HO_5; clear HB; have HO_5 := n0_; have HB := n1_; clear n0_ n1_; clear hg hw hp_))
                    repeat (go_quiet (first | ((with_reducible refine gate_store (t := 3) (p := 42) rfl ?_); (try (rw [drewN_self wr]; generalize hq_ : World.drewN wr _ = wr; (try have hx24_0 := cell_at hq_ hx24_0); (try have hf24_0 := frozen_at hq_ hf24_0); have n0_ := Aside0.mk (Kd.R_at hq_ HO_5.out); have n1_ := Aside0.mk (below_at hq_ HB.out); clear hq_ HO_5 HB; have HO_5 := n0_; have HB := n1_; clear n0_ n1_; (try (have HP25 := Kd.R_putg HO_5.out (x15_1 : Int) (wrap64 ((rd x5_2 x15_1) + (wrap64 ((rd zs x30_2) * (rd zs x30_2))))))))); refine store_event (t := 3) (p := 42) (v := ?vo_w26) (w1 := (wr.setCell ⟨go24, (x15_1 : Int).toNat, none⟩ (.int .i64 (wrap64 ((rd x5_2 x15_1) + (wrap64 ((rd zs x30_2) * (rd zs x30_2)))))))) ?hg ?ho ?hn ?hr ?_; (case ho => rfl); (case hg => rfl); (case hn => rfl); (case hr => first | (go_simp; done) | (go_simp; rfl)); intro w26 hw; have hg : wr.grownBy w26 (some go24) := (by rw [hw]; exact HP25.2); have hp_ : Kd.R (Kd.int .i64) 3 w26 w.heap.size (fun _ => True) (.slice (some ⟨go24, 0, none⟩) x5_2.length co8) y109 := (by rw [hw, Ny109.out]; exact HP25.1); clear HP25; have n0_ := Aside0.mk (hp_); have n1_ := Aside0.mk ((by rw [hw]; exact below_set (HB.out) GB24.out : Below w.heap.size w w26)); clear HO_5; clear HB; have HO_5 := n0_; have HB := n1_; clear n0_ n1_; clear hg hw hp_)); try go_wp2_with (first | ((with_reducible refine gate_store (t := 3) (p := 42) rfl ?_); (try (rw [drewN_self wr]; generalize hq_ : World.drewN wr _ = wr; (try have hx24_0 := cell_at hq_ hx24_0); (try have hf24_0 := frozen_at hq_ hf24_0); have n0_ := Aside0.mk (Kd.R_at hq_ HO_5.out); have n1_ := Aside0.mk (below_at hq_ HB.out); clear hq_ HO_5 HB; have HO_5 := n0_; have HB := n1_; clear n0_ n1_; (try (have HP25 := Kd.R_putg HO_5.out (x15_1 : Int) (wrap64 ((rd x5_2 x15_1) + (wrap64 ((rd zs x30_2) * (rd zs x30_2))))))))); refine store_event (t := 3) (p := 42) (v := ?vo_w26) (w1 := (wr.setCell ⟨go24, (x15_1 : Int).toNat, none⟩ (.int .i64 (wrap64 ((rd x5_2 x15_1) + (wrap64 ((rd zs x30_2) * (rd zs x30_2)))))))) ?hg ?ho ?hn ?hr ?_; (case ho => rfl); (case hg => rfl); (case hn => rfl); (case hr => first | (go_simp; done) | (go_simp; rfl)); intro w26 hw; have hg : wr.grownBy w26 (some go24) := (by rw [hw]; exact HP25.2); have hp_ : Kd.R (Kd.int .i64) 3 w26 w.heap.size (fun _ => True) (.slice (some ⟨go24, 0, none⟩) x5_2.length co8) y109 := (by rw [hw, Ny109.out]; exact HP25.1); clear HP25; have n0_ := Aside0.mk (hp_); have n1_ := Aside0.mk ((by rw [hw]; exact below_set (HB.out) GB24.out : Below w.heap.size w w26)); clear HO_5; clear HB; have HO_5 := n0_; have HB := n1_; clear n0_ n1_; clear hg hw hp_)))
                    (try simp only [← hl5_2])
                    go_roundg k2
                    case measure => have := HK1.out; have := HK2.out; omega
                    case rel => exact ⟨(y109), (wrap64 (x30_2 + 1)), (by first | rfl | (simp; done) | (simp only [i64_w]; done) | (simp [*]; done)), H', ⟨by have := HK1.out; have := HK2.out; omega⟩, ⟨by (try simp only [hl5_1]); (try simp only [hl5_2]); exact tR HO_5.out⟩, ⟨tB⟩⟩
                   ·rw [if_neg c23] at H
                    exact absurd H (by simp)
                  ·rw [if_neg c22] at H
                   exact absurd H (by simp)
                 ·rw [if_neg c21] at H
                  exact absurd H (by simp)
                ·rw [if_neg c20] at H
                 exact absurd H (by simp)
               ·rw [if_neg c19] at H
                have c19b0 := decide_eq_false c19
                (try simp only [hl5_1, hl5_2] at c19b0)
                clear c19
                have H' := Aside0.mk H
                clear H
                go_wp2
                repeat (go_quiet (fail); try go_wp2)
                (try simp only [← hl5_1, ← hl5_2])
                go_roundg k2
                case measure => have := HK1.out; have := HK2.out; omega
                case rel => exact ⟨(x5_2), (wrap64 (x15_1 + 1)), (by first | rfl | (simp; done) | (simp only [i64_w]; done) | (simp [*]; done)), H', ⟨by have := HK1.out; have := HK2.out; omega⟩, ⟨by (try simp only [hl5_1]); (try simp only [hl5_2]); exact tR HO_5.out⟩, ⟨tB⟩⟩
            ·rw [if_neg c17] at H
             exact absurd H (by simp)
           ·rw [if_neg c16] at H
            exact absurd H (by simp)
          ·rw [if_neg c15] at H
           exact absurd H (by simp)
         ·rw [if_neg c14] at H
          exact absurd H (by simp)
        ·rw [if_neg c13] at H
         exact absurd H (by simp)
       ·rw [if_neg c11] at H
        exact absurd H (by simp)
      ·rw [if_neg c10] at H
       exact absurd H (by simp)
     ·rw [if_neg c9] at H
      have c9b0 := decide_eq_false c9
      (try simp only [hl5_1] at c9b0)
      clear c9
      obtain rfl := Option.some.inj H
      go_wp2
      repeat (go_quiet (fail); try go_wp2)
      go_ret
      exact ⟨_, by first | rfl | (simp [errW_none, errW_some] <;> rfl) | (simp only [← hji3]; first | rfl | (simp [errW_none, errW_some] <;> rfl)) | (simp [*, errW_none, errW_some] <;> rfl), tR HO_5.out, tB⟩
  ·rw [if_neg c5] at H
   exact absurd H (by simp)
 ·rw [if_neg c4] at H
  exact absurd H (by simp)

/-! ### feature_Bands: function 66 -/
def feature_Bands.f (k : Nat) (l0 : List Int) (l1 : List Int) : Option (List Int × Int) := if (l0.length : Int) > 64 then (some (([] : List Int), 2)) else ((feature_within.f l0 16777216).bind fun t101 => (if t101 = true then ((feature_edged.f k l1 (l0.length : Int)).bind fun t102 => (if t102 = true then ((feature_bands.f k l0 l1).bind fun t103 => (some (t103, 0))) else (some (([] : List Int), 2)))) else (some (([] : List Int), 2))))
theorem feature_Bands.mono : ∀ a0 a1 k, LeO (feature_Bands.f k a0 a1) (feature_Bands.f (k + 1) a0 a1) := by
 intro a0 a1 k
 unfold feature_Bands.f
 repeat' first
   | (with_reducible exact feature_bands.mono _ _ _)
   | (with_reducible exact feature_edged.mono _ _ _)
   | (with_reducible exact LeO.refl _)
   | (with_reducible exact LeO.none _)
   | (with_reducible refine LeO.ite ?_ ?_)
   | (with_reducible refine LeO.bind ?_ (fun _ => ?_))
   | exact feature_bands.mono _ _ _
   | exact feature_edged.mono _ _ _
   | exact LeO.none _
   | refine LeO.ite ?_ ?_
   | refine LeO.bind ?_ (fun _ => ?_)
set_option maxHeartbeats 8000000 in
set_option maxRecDepth 100000 in
theorem feature_Bands.calls (k : Nat) (A0 : Option Addr) (c0 : Nat) (l0 : List Int) (A1 : Option Addr) (c1 : Nat) (l1 : List Int) (r1 : List Int) (r2 : Int) (w : World) (hr0 : Kd.C (Kd.int .i64) w A0 l0.length l0) (hc0 : l0.length ≤ c0) (hr1 : Kd.C (Kd.int .i64) w A1 l1.length l1) (hc1 : l1.length ≤ c1) (h : feature_Bands.f k l0 l1 = some (r1, r2)) :
  Calls Tryd.prog 66 #[.slice A0 l0.length c0, .slice A1 l1.length c1] w fun e w' => ∃ v0_ : Value, e = .returned (.tuple #[v0_, .int .i64 r2]) ∧ Kd.R (Kd.int .i64) 3 w' w.heap.size (fun _ => True) v0_ r1 ∧ Below w.heap.size w w' := by
 have HR0 := Aside0.mk hr0
 have HC0 := Aside0.mk hc0
 clear hr0 hc0
 have HR1 := Aside0.mk hr1
 have HC1 := Aside0.mk hc1
 clear hr1 hc1
 have HB := Aside0.mk (Below.refl w.heap.size w)
 have H : (if (l0.length : Int) > 64 then (some (([] : List Int), 2)) else ((feature_within.f l0 16777216).bind fun t101 => (if t101 = true then ((feature_edged.f k l1 (l0.length : Int)).bind fun t102 => (if t102 = true then ((feature_bands.f k l0 l1).bind fun t103 => (some (t103, 0))) else (some (([] : List Int), 2)))) else (some (([] : List Int), 2))))) = some (r1, r2) := h
 clear h
 by_cases c3 : (l0.length : Int) > 64
 ·rw [if_pos c3] at H
  have c3b0 : decide (64 < (l0.length : Int)) = true := decide_eq_true c3
  have c3b1 : decide (64 < l0.length) = true := decide_eq_true (by omega)
  clear c3
  simp only [Option.some.injEq, Prod.mk.injEq] at H
  obtain ⟨rfl, rfl⟩ := H
  go_enter Tryd.func66, Tryd.ntmps66
  go_wp2
  go_ret2
  exact ⟨_, by first | rfl | (simp [errW_none, errW_some] <;> rfl) | (simp [*, errW_none, errW_some] <;> rfl), by first | exact Kd.R_nil _ _ _ _ _ | exact Kd.N_nil _ _ _ _ _ | exact Kd.V_nil _ _ _ _ _ | exact Kd.Q_nil _ _ _ _ _ | exact Kd.S_nil _ _ _ _ _, tB⟩
 ·rw [if_neg c3] at H
  have c3b0 : decide (64 < (l0.length : Int)) = false := decide_eq_false c3
  have c3b1 : decide (64 < l0.length) = false := decide_eq_false (by omega)
  clear c3
  replace H := Option.bind_eq_some_iff.mp H
  obtain ⟨t101, A40, H⟩ := H
  try dsimp only at H
  have A4 := Aside0.mk A40
  clear A40
  by_cases c5 : t101 = true
  ·subst c5
   have H1 : ((feature_edged.f k l1 (l0.length : Int)).bind fun t102 => (if t102 = true then ((feature_bands.f k l0 l1).bind fun t103 => (some (t103, 0))) else (some (([] : List Int), 2)))) = some (r1, r2) := by rw [if_pos rfl] at H; exact H
   clear H
   have H := H1
   clear H1
   replace H := Option.bind_eq_some_iff.mp H
   obtain ⟨t102, A60, H⟩ := H
   try dsimp only at H
   have A6 := Aside0.mk A60
   clear A60
   by_cases c7 : t102 = true
   ·subst c7
    have H1 : ((feature_bands.f k l0 l1).bind fun t103 => (some (t103, 0))) = some (r1, r2) := by rw [if_pos rfl] at H; exact H
    clear H
    have H := H1
    clear H1
    replace H := Option.bind_eq_some_iff.mp H
    obtain ⟨t103, A80, H⟩ := H
    try dsimp only at H
    have A8 := Aside0.mk A80
    clear A80
    simp only [Option.some.injEq, Prod.mk.injEq] at H
    obtain ⟨rfl, rfl⟩ := H
    go_enter Tryd.func66, Tryd.ntmps66
    go_wp2_with (first | (go_at_call 80; (with_reducible refine (feature_within.calls _ _ l0 16777216 true _ ?side1 ?side2 A4.out).mono ?_); (case side1 => exact tC HR0.out); (case side2 => exact HC0.out); rintro e w9 ⟨rfl, hb⟩; have n0_ := Aside0.mk (below_step tB hb); clear HB; have HB := n0_; clear n0_; (try clear hb); (try clear hb2); (try clear hk); (try clear hi)) | (go_at_call 117; (with_reducible refine (feature_edged.calls k _ _ l1 (l0.length : Int) true _ ?side1 ?side2 A6.out).mono ?_); (case side1 => exact tC (Kd.C_below HR1.out HB.out)); (case side2 => exact HC1.out); rintro e w' ⟨rfl, ⟨nd, rfl⟩⟩) | ((with_reducible refine gate_callee (f := 118) rfl ?_); refine goesL_ (some 23) rfl rfl Tryd.func118 (by kernel_rfl) rfl #[.slice A0 l0.length c0, .slice A1 l1.length c1] rfl tL ?_; (with_reducible refine (feature_bands.calls k _ _ l0 _ _ l1 t103 _ ?side1 ?side2 ?side3 ?side4 A8.out).mono ?_); (case side1 => exact tC (Kd.C_below HR0.out tB)); (case side2 => exact HC0.out); (case side3 => exact tC (Kd.C_below HR1.out tB)); (case side4 => exact HC1.out); rintro e w10 ⟨v104, rfl, ho0, hb⟩; refine ⟨_, rfl, ?_⟩; have n0_ := Aside0.mk (Kd.R_lower ho0 (below_size tB)); have n1_ := Aside0.mk (below_step tB hb); clear HB; have HO105 := n0_; have HB := n1_; clear n0_ n1_; (try clear hb); (try clear hb2); (try clear hk); (try clear hi); (try clear ho0)))
    go_ret2
    exact ⟨_, by first | rfl | (simp [errW_none, errW_some] <;> rfl) | (simp [*, errW_none, errW_some] <;> rfl), tR HO105.out, tB⟩
   ·replace c7 := Bool.eq_false_iff.mpr c7
    subst c7
    have H1 : (some (([] : List Int), 2)) = some (r1, r2) := by rw [if_neg (show ¬ (false = true) by decide)] at H; exact H
    clear H
    have H := H1
    clear H1
    simp only [Option.some.injEq, Prod.mk.injEq] at H
    obtain ⟨rfl, rfl⟩ := H
    go_enter Tryd.func66, Tryd.ntmps66
    go_wp2_with (first | (go_at_call 80; (with_reducible refine (feature_within.calls _ _ l0 16777216 true _ ?side1 ?side2 A4.out).mono ?_); (case side1 => exact tC HR0.out); (case side2 => exact HC0.out); rintro e w11 ⟨rfl, hb⟩; have n0_ := Aside0.mk (below_step tB hb); clear HB; have HB := n0_; clear n0_; (try clear hb); (try clear hb2); (try clear hk); (try clear hi)) | (go_at_call 117; (with_reducible refine (feature_edged.calls k _ _ l1 (l0.length : Int) false _ ?side1 ?side2 A6.out).mono ?_); (case side1 => exact tC (Kd.C_below HR1.out HB.out)); (case side2 => exact HC1.out); rintro e w' ⟨rfl, ⟨nd, rfl⟩⟩))
    go_ret2
    exact ⟨_, by first | rfl | (simp [errW_none, errW_some] <;> rfl) | (simp [*, errW_none, errW_some] <;> rfl), by first | exact Kd.R_nil _ _ _ _ _ | exact Kd.N_nil _ _ _ _ _ | exact Kd.V_nil _ _ _ _ _ | exact Kd.Q_nil _ _ _ _ _ | exact Kd.S_nil _ _ _ _ _, tB⟩
  ·replace c5 := Bool.eq_false_iff.mpr c5
   subst c5
   have H1 : (some (([] : List Int), 2)) = some (r1, r2) := by rw [if_neg (show ¬ (false = true) by decide)] at H; exact H
   clear H
   have H := H1
   clear H1
   simp only [Option.some.injEq, Prod.mk.injEq] at H
   obtain ⟨rfl, rfl⟩ := H
   go_enter Tryd.func66, Tryd.ntmps66
   go_wp2_with (first | (go_at_call 80; (with_reducible refine (feature_within.calls _ _ l0 16777216 false _ ?side1 ?side2 A4.out).mono ?_); (case side1 => exact tC HR0.out); (case side2 => exact HC0.out); rintro e w12 ⟨rfl, hb⟩; have n0_ := Aside0.mk (below_step tB hb); clear HB; have HB := n0_; clear n0_; (try clear hb); (try clear hb2); (try clear hk); (try clear hi)))
   go_ret2
   exact ⟨_, by first | rfl | (simp [errW_none, errW_some] <;> rfl) | (simp [*, errW_none, errW_some] <;> rfl), by first | exact Kd.R_nil _ _ _ _ _ | exact Kd.N_nil _ _ _ _ _ | exact Kd.V_nil _ _ _ _ _ | exact Kd.Q_nil _ _ _ _ _ | exact Kd.S_nil _ _ _ _ _, tB⟩

/-! ### earshotref03_Edges: function 67 -/
def earshotref03_Edges.l0 : Nat → List Int → Int → Int → Option (Bool)
 | 0, _, _, _ => none
 | k + 1, x0, x1, x5 => if x5 < (x0.length : Int) then (if 0 ≤ x5 then (if (rd x0 x5) < 0 then (some false) else (if (rd x0 x5) > x1 then (some false) else (if x5 > 0 then (if 0 ≤ (wrap64 (x5 - 1)) then (if (wrap64 (x5 - 1)) < (x0.length : Int) then (if (rd x0 x5) ≤ (rd x0 (wrap64 (x5 - 1))) then (some false) else (earshotref03_Edges.l0 k x0 x1 (wrap64 (x5 + 1)))) else (none)) else (none)) else (earshotref03_Edges.l0 k x0 x1 (wrap64 (x5 + 1)))))) else (none)) else (some true)
def earshotref03_Edges.f (k : Nat) (l0 : List Int) (a1 : Int) : Option (Bool) := if (l0.length : Int) < 2 then (some false) else (earshotref03_Edges.l0 k l0 a1 0)
theorem earshotref03_Edges.mono_l : ∀ k, (∀ y0 y1 y2, LeO (earshotref03_Edges.l0 k y0 y1 y2) (earshotref03_Edges.l0 (k + 1) y0 y1 y2))
 | 0 => fun _ _ _ r h => by simp [earshotref03_Edges.l0] at h
 | k + 1 => by
  have ih0 := earshotref03_Edges.mono_l k
  ·intro y0 y1 y2
   unfold earshotref03_Edges.l0
   repeat' first
   | (with_reducible exact ih0 _ _ _)
   | (with_reducible exact LeO.refl _)
   | (with_reducible exact LeO.none _)
   | (with_reducible refine LeO.ite ?_ ?_)
   | (with_reducible refine LeO.bind ?_ (fun _ => ?_))
   | exact ih0 _ _ _
   | exact LeO.none _
   | refine LeO.ite ?_ ?_
   | refine LeO.bind ?_ (fun _ => ?_)
theorem earshotref03_Edges.mono : ∀ a0 a1 k, LeO (earshotref03_Edges.f k a0 a1) (earshotref03_Edges.f (k + 1) a0 a1) := by
 intro a0 a1 k
 have ih0 := earshotref03_Edges.mono_l k
 unfold earshotref03_Edges.f
 repeat' first
   | (with_reducible exact ih0 _ _ _)
   | (with_reducible exact LeO.refl _)
   | (with_reducible exact LeO.none _)
   | (with_reducible refine LeO.ite ?_ ?_)
   | (with_reducible refine LeO.bind ?_ (fun _ => ?_))
   | exact ih0 _ _ _
   | exact LeO.none _
   | refine LeO.ite ?_ ?_
   | refine LeO.bind ?_ (fun _ => ?_)
set_option maxHeartbeats 8000000 in
set_option maxRecDepth 100000 in
theorem earshotref03_Edges.calls (k : Nat) (A0 : Option Addr) (c0 : Nat) (l0 : List Int) (a1 : Int) (r : Bool) (w : World) (hr0 : Kd.C (Kd.int .i64) w A0 l0.length l0) (hc0 : l0.length ≤ c0) (h : earshotref03_Edges.f k l0 a1 = some r) :
  Calls Tryd.prog 67 #[.slice A0 l0.length c0, .int .i64 a1] w fun e w' => e = .returned (.bool r) ∧ Drawn0 w w' := by
 have HR0 := Aside0.mk hr0
 have HC0 := Aside0.mk hc0
 clear hr0 hc0
 have H : (if (l0.length : Int) < 2 then (some false) else (earshotref03_Edges.l0 k l0 a1 0)) = some r := h
 clear h
 by_cases c3 : (l0.length : Int) < 2
 ·rw [if_pos c3] at H
  have c3b0 := decide_eq_true c3
  have c3b1 : decide (l0.length < 2) = true := decide_eq_true (by omega)
  clear c3
  obtain rfl := Option.some.inj H
  go_enter Tryd.func67, Tryd.ntmps67
  go_wp2
  repeat (go_quiet (fail); try go_wp2)
  go_ret
  exact ⟨by first | rfl | (simp; done) | (simp [*]; done), by repeat (first | exact Drawn0.refl _ | apply Drawn0.step)⟩
 ·rw [if_neg c3] at H
  have c3b0 := decide_eq_false c3
  have c3b1 : decide (l0.length < 2) = false := decide_eq_false (by omega)
  clear c3
  have H' := Aside0.mk H
  clear H
  go_enter Tryd.func67, Tryd.ntmps67
  go_wp2
  repeat (go_quiet (fail); try go_wp2)
  go_loopg [5] k (fun kq v5 w' => ∃ (x5_1 : Int), v5 = .int .i64 x5_1 ∧ Aside0 (earshotref03_Edges.l0 kq l0 a1 x5_1 = some r) ∧ Aside0 (kq ≤ k) ∧ Drawn0 w w')
  case atStart => exact ⟨(0), (by first | rfl | (simp; done) | (simp only [i64_w]; done) | (simp [*]; done)), H', ⟨Nat.le_refl _⟩, by repeat (first | exact Drawn0.refl _ | apply Drawn0.step)⟩
  case round =>
   clear H'
   try clear p2
   try clear c3
   try clear c3b0
   try clear c3b1
   obtain ⟨x5_1, rfl, HA, HK1, ⟨m1, rfl⟩⟩ := hrel
   cases gk with
   | zero => exact absurd HA.out (by simp [earshotref03_Edges.l0])
   | succ k1 =>
    have H := HA.out
    clear HA
    simp only [earshotref03_Edges.l0] at H
    by_cases c4 : x5_1 < (l0.length : Int)
    ·rw [if_pos c4] at H
     have c4b0 := decide_eq_true c4
     clear c4
     by_cases c5 : 0 ≤ x5_1
     ·rw [if_pos c5] at H
      have c5b0 := decide_eq_true c5
      clear c5
      by_cases c6 : (rd l0 x5_1) < 0
      ·rw [if_pos c6] at H
       have c6b0 := decide_eq_true c6
       clear c6
       obtain rfl := Option.some.inj H
       have p101 : 0 ≤ (x5_1 : Int) := of_decide_eq_true tA
       have q101 : x5_1 < (l0.length : Int) := of_decide_eq_true tA
       obtain ⟨ad101, e101, hx101_0⟩ := Kd.at_int HR0.out x5_1 p101 q101
       cases e101
       replace p101 := eq_true p101
       replace q101 := eq_true q101
       go_wp2
       repeat (go_quiet (fail); try go_wp2)
       go_ret
       exact ⟨by first | rfl | (simp; done) | (simp [*]; done), by repeat (first | exact Drawn0.refl _ | apply Drawn0.step)⟩
      ·rw [if_neg c6] at H
       have c6b0 := decide_eq_false c6
       clear c6
       by_cases c7 : (rd l0 x5_1) > a1
       ·rw [if_pos c7] at H
        have c7b0 : decide (a1 < (rd l0 x5_1)) = true := decide_eq_true c7
        clear c7
        obtain rfl := Option.some.inj H
        have p101 : 0 ≤ (x5_1 : Int) := of_decide_eq_true tA
        have q101 : x5_1 < (l0.length : Int) := of_decide_eq_true tA
        obtain ⟨ad101, e101, hx101_0⟩ := Kd.at_int HR0.out x5_1 p101 q101
        cases e101
        replace p101 := eq_true p101
        replace q101 := eq_true q101
        have p102 : 0 ≤ (x5_1 : Int) := of_decide_eq_true tA
        have q102 : x5_1 < (l0.length : Int) := of_decide_eq_true tA
        obtain ⟨ad102, e102, hx102_0⟩ := Kd.at_int HR0.out x5_1 p102 q102
        obtain rfl : ad101 = ad102 := (by injection e102)
        replace p102 := eq_true p102
        replace q102 := eq_true q102
        go_wp2
        repeat (go_quiet (fail); try go_wp2)
        go_ret
        exact ⟨by first | rfl | (simp; done) | (simp [*]; done), by repeat (first | exact Drawn0.refl _ | apply Drawn0.step)⟩
       ·rw [if_neg c7] at H
        have c7b0 : decide (a1 < (rd l0 x5_1)) = false := decide_eq_false c7
        clear c7
        by_cases c8 : x5_1 > 0
        ·rw [if_pos c8] at H
         have c8b0 : decide (0 < x5_1) = true := decide_eq_true c8
         clear c8
         obtain ⟨ji9, hji9⟩ : ∃ j_ : Int, (wrap64 (x5_1 - 1)) = j_ := ⟨_, rfl⟩
         first | rw [hji9] at H | simp only [hji9] at H
         have hji9w : (IntKind.i64.wrap (x5_1 - 1)) = ji9 := (i64_w _).trans hji9
         by_cases c10 : 0 ≤ (ji9)
         ·rw [if_pos c10] at H
          have c10b0 := decide_eq_true c10
          clear c10
          by_cases c11 : (ji9) < (l0.length : Int)
          ·rw [if_pos c11] at H
           have c11b0 := decide_eq_true c11
           clear c11
           by_cases c12 : (rd l0 x5_1) ≤ (rd l0 (ji9))
           ·rw [if_pos c12] at H
            have c12b0 := decide_eq_true c12
            clear c12
            obtain rfl := Option.some.inj H
            have p101 : 0 ≤ (x5_1 : Int) := of_decide_eq_true tA
            have q101 : x5_1 < (l0.length : Int) := of_decide_eq_true tA
            obtain ⟨ad101, e101, hx101_0⟩ := Kd.at_int HR0.out x5_1 p101 q101
            cases e101
            replace p101 := eq_true p101
            replace q101 := eq_true q101
            have p102 : 0 ≤ (x5_1 : Int) := of_decide_eq_true tA
            have q102 : x5_1 < (l0.length : Int) := of_decide_eq_true tA
            obtain ⟨ad102, e102, hx102_0⟩ := Kd.at_int HR0.out x5_1 p102 q102
            obtain rfl : ad101 = ad102 := (by injection e102)
            replace p102 := eq_true p102
            replace q102 := eq_true q102
            have p103 : 0 ≤ (x5_1 : Int) := of_decide_eq_true tA
            have q103 : x5_1 < (l0.length : Int) := of_decide_eq_true tA
            obtain ⟨ad103, e103, hx103_0⟩ := Kd.at_int HR0.out x5_1 p103 q103
            obtain rfl : ad101 = ad103 := (by injection e103)
            replace p103 := eq_true p103
            replace q103 := eq_true q103
            have p104 : 0 ≤ ((ji9) : Int) := of_decide_eq_true tA
            have q104 : (ji9) < (l0.length : Int) := of_decide_eq_true tA
            obtain ⟨ad104, e104, hx104_0⟩ := Kd.at_int HR0.out (ji9) p104 q104
            obtain rfl : ad101 = ad104 := (by injection e104)
            replace p104 := eq_true p104
            replace q104 := eq_true q104
            go_wp2
            repeat (go_quiet (fail); try go_wp2)
            go_ret
            exact ⟨by first | rfl | (simp; done) | (simp only [← hji9] <;> (first | rfl | simp)) | (simp [*]; done), by repeat (first | exact Drawn0.refl _ | apply Drawn0.step)⟩
           ·rw [if_neg c12] at H
            have c12b0 := decide_eq_false c12
            clear c12
            have H' := Aside0.mk H
            clear H
            have p101 : 0 ≤ (x5_1 : Int) := of_decide_eq_true tA
            have q101 : x5_1 < (l0.length : Int) := of_decide_eq_true tA
            obtain ⟨ad101, e101, hx101_0⟩ := Kd.at_int HR0.out x5_1 p101 q101
            cases e101
            replace p101 := eq_true p101
            replace q101 := eq_true q101
            have p102 : 0 ≤ (x5_1 : Int) := of_decide_eq_true tA
            have q102 : x5_1 < (l0.length : Int) := of_decide_eq_true tA
            obtain ⟨ad102, e102, hx102_0⟩ := Kd.at_int HR0.out x5_1 p102 q102
            obtain rfl : ad101 = ad102 := (by injection e102)
            replace p102 := eq_true p102
            replace q102 := eq_true q102
            have p103 : 0 ≤ (x5_1 : Int) := of_decide_eq_true tA
            have q103 : x5_1 < (l0.length : Int) := of_decide_eq_true tA
            obtain ⟨ad103, e103, hx103_0⟩ := Kd.at_int HR0.out x5_1 p103 q103
            obtain rfl : ad101 = ad103 := (by injection e103)
            replace p103 := eq_true p103
            replace q103 := eq_true q103
            have p104 : 0 ≤ ((ji9) : Int) := of_decide_eq_true tA
            have q104 : (ji9) < (l0.length : Int) := of_decide_eq_true tA
            obtain ⟨ad104, e104, hx104_0⟩ := Kd.at_int HR0.out (ji9) p104 q104
            obtain rfl : ad101 = ad104 := (by injection e104)
            replace p104 := eq_true p104
            replace q104 := eq_true q104
            go_wp2
            repeat (go_quiet (fail); try go_wp2)
            go_roundg k1
            case measure => have := HK1.out; omega
            case rel => exact ⟨(wrap64 (x5_1 + 1)), (by first | rfl | (simp; done) | (simp only [i64_w]; done) | (simp [*]; done)), H', ⟨by have := HK1.out; omega⟩, by repeat (first | exact Drawn0.refl _ | apply Drawn0.step)⟩
          ·rw [if_neg c11] at H
           exact absurd H (by simp)
         ·rw [if_neg c10] at H
          exact absurd H (by simp)
        ·rw [if_neg c8] at H
         have c8b0 : decide (0 < x5_1) = false := decide_eq_false c8
         clear c8
         have H' := Aside0.mk H
         clear H
         have p101 : 0 ≤ (x5_1 : Int) := of_decide_eq_true tA
         have q101 : x5_1 < (l0.length : Int) := of_decide_eq_true tA
         obtain ⟨ad101, e101, hx101_0⟩ := Kd.at_int HR0.out x5_1 p101 q101
         cases e101
         replace p101 := eq_true p101
         replace q101 := eq_true q101
         have p102 : 0 ≤ (x5_1 : Int) := of_decide_eq_true tA
         have q102 : x5_1 < (l0.length : Int) := of_decide_eq_true tA
         obtain ⟨ad102, e102, hx102_0⟩ := Kd.at_int HR0.out x5_1 p102 q102
         obtain rfl : ad101 = ad102 := (by injection e102)
         replace p102 := eq_true p102
         replace q102 := eq_true q102
         go_wp2
         repeat (go_quiet (fail); try go_wp2)
         go_roundg k1
         case measure => have := HK1.out; omega
         case rel => exact ⟨(wrap64 (x5_1 + 1)), (by first | rfl | (simp; done) | (simp only [i64_w]; done) | (simp [*]; done)), H', ⟨by have := HK1.out; omega⟩, by repeat (first | exact Drawn0.refl _ | apply Drawn0.step)⟩
     ·rw [if_neg c5] at H
      exact absurd H (by simp)
    ·rw [if_neg c4] at H
     have c4b0 := decide_eq_false c4
     clear c4
     obtain rfl := Option.some.inj H
     go_wp2
     repeat (go_quiet (fail); try go_wp2)
     go_ret
     exact ⟨by first | rfl | (simp; done) | (simp [*]; done), by repeat (first | exact Drawn0.refl _ | apply Drawn0.step)⟩

/-! ### earshotref02_Energy: function 119 -/
def earshotref02_Energy.l0 : Nat → List Int → Int → Int → Option (Int)
 | 0, _, _, _ => none
 | k + 1, x0, x3, x4 => if x4 < (x0.length : Int) then (if 0 ≤ x4 then (earshotref02_Energy.l0 k x0 (wrap64 (x3 + (wrap64 ((rd x0 x4) * (rd x0 x4))))) (wrap64 (x4 + 1))) else (none)) else (some x3)
def earshotref02_Energy.f (k : Nat) (l0 : List Int) : Option (Int) := earshotref02_Energy.l0 k l0 0 0
theorem earshotref02_Energy.mono_l : ∀ k, (∀ y0 y1 y2, LeO (earshotref02_Energy.l0 k y0 y1 y2) (earshotref02_Energy.l0 (k + 1) y0 y1 y2))
 | 0 => fun _ _ _ r h => by simp [earshotref02_Energy.l0] at h
 | k + 1 => by
  have ih0 := earshotref02_Energy.mono_l k
  ·intro y0 y1 y2
   unfold earshotref02_Energy.l0
   repeat' first
   | (with_reducible exact ih0 _ _ _)
   | (with_reducible exact LeO.refl _)
   | (with_reducible exact LeO.none _)
   | (with_reducible refine LeO.ite ?_ ?_)
   | (with_reducible refine LeO.bind ?_ (fun _ => ?_))
   | exact ih0 _ _ _
   | exact LeO.none _
   | refine LeO.ite ?_ ?_
   | refine LeO.bind ?_ (fun _ => ?_)
theorem earshotref02_Energy.mono : ∀ a0 k, LeO (earshotref02_Energy.f k a0) (earshotref02_Energy.f (k + 1) a0) := by
 intro a0 k
 have ih0 := earshotref02_Energy.mono_l k
 unfold earshotref02_Energy.f
 repeat' first
   | (with_reducible exact ih0 _ _ _)
   | (with_reducible exact LeO.refl _)
   | (with_reducible exact LeO.none _)
   | (with_reducible refine LeO.ite ?_ ?_)
   | (with_reducible refine LeO.bind ?_ (fun _ => ?_))
   | exact ih0 _ _ _
   | exact LeO.none _
   | refine LeO.ite ?_ ?_
   | refine LeO.bind ?_ (fun _ => ?_)
set_option maxHeartbeats 8000000 in
set_option maxRecDepth 100000 in
theorem earshotref02_Energy.calls (k : Nat) (A0 : Option Addr) (c0 : Nat) (l0 : List Int) (r : Int) (w : World) (hr0 : Kd.C (Kd.int .i64) w A0 l0.length l0) (hc0 : l0.length ≤ c0) (h : earshotref02_Energy.f k l0 = some r) :
  Calls Tryd.prog 119 #[.slice A0 l0.length c0] w fun e w' => e = .returned (.int .i64 r) ∧ Drawn0 w w' := by
 have HR0 := Aside0.mk hr0
 have HC0 := Aside0.mk hc0
 clear hr0 hc0
 have H : (earshotref02_Energy.l0 k l0 0 0) = some r := h
 clear h
 have H' := Aside0.mk H
 clear H
 go_enter Tryd.func119, Tryd.ntmps119
 go_wp2
 repeat (go_quiet (fail); try go_wp2)
 go_loopg [3, 4] k (fun kq v3 v4 w' => ∃ (x3_1 : Int) (x4_1 : Int), v3 = .int .i64 x3_1 ∧ v4 = .int .i64 x4_1 ∧ Aside0 (earshotref02_Energy.l0 kq l0 x3_1 x4_1 = some r) ∧ Aside0 (kq ≤ k) ∧ Drawn0 w w')
 case atStart => exact ⟨(0), (0), (by first | rfl | (simp; done) | (simp only [i64_w]; done) | (simp [*]; done)), (by first | rfl | (simp; done) | (simp only [i64_w]; done) | (simp [*]; done)), H', ⟨Nat.le_refl _⟩, by repeat (first | exact Drawn0.refl _ | apply Drawn0.step)⟩
 case round =>
  clear H'
  try clear c1
  obtain ⟨x3_1, x4_1, rfl, rfl, HA, HK1, ⟨m1, rfl⟩⟩ := hrel
  cases gk with
  | zero => exact absurd HA.out (by simp [earshotref02_Energy.l0])
  | succ k1 =>
   have H := HA.out
   clear HA
   simp only [earshotref02_Energy.l0] at H
   by_cases c2 : x4_1 < (l0.length : Int)
   ·rw [if_pos c2] at H
    have c2b0 := decide_eq_true c2
    clear c2
    by_cases c3 : 0 ≤ x4_1
    ·rw [if_pos c3] at H
     have c3b0 := decide_eq_true c3
     clear c3
     have H' := Aside0.mk H
     clear H
     have p101 : 0 ≤ (x4_1 : Int) := of_decide_eq_true tA
     have q101 : x4_1 < (l0.length : Int) := of_decide_eq_true tA
     obtain ⟨ad101, e101, hx101_0⟩ := Kd.at_int HR0.out x4_1 p101 q101
     cases e101
     replace p101 := eq_true p101
     replace q101 := eq_true q101
     have p102 : 0 ≤ (x4_1 : Int) := of_decide_eq_true tA
     have q102 : x4_1 < (l0.length : Int) := of_decide_eq_true tA
     obtain ⟨ad102, e102, hx102_0⟩ := Kd.at_int HR0.out x4_1 p102 q102
     obtain rfl : ad101 = ad102 := (by injection e102)
     replace p102 := eq_true p102
     replace q102 := eq_true q102
     go_wp2
     repeat (go_quiet (fail); try go_wp2)
     go_roundg k1
     case measure => have := HK1.out; omega
     case rel => exact ⟨(wrap64 (x3_1 + (wrap64 ((rd l0 x4_1) * (rd l0 x4_1))))), (wrap64 (x4_1 + 1)), (by first | rfl | (simp; done) | (simp only [i64_w]; done) | (simp [*]; done)), (by first | rfl | (simp; done) | (simp only [i64_w]; done) | (simp [*]; done)), H', ⟨by have := HK1.out; omega⟩, by repeat (first | exact Drawn0.refl _ | apply Drawn0.step)⟩
    ·rw [if_neg c3] at H
     exact absurd H (by simp)
   ·rw [if_neg c2] at H
    have c2b0 := decide_eq_false c2
    clear c2
    obtain rfl := Option.some.inj H
    go_wp2
    repeat (go_quiet (fail); try go_wp2)
    go_ret
    exact ⟨by first | rfl | (simp; done) | (simp [*]; done), by repeat (first | exact Drawn0.refl _ | apply Drawn0.step)⟩

/-! ### earshotref03_Bands: function 68 -/
def earshotref03_Bands.l0 : Nat → List Int → List Int → List Int → Int → Option (List Int)
 | 0, _, _, _, _ => none
 | k + 1, x0, x1, x5, x6 => if (wrap64 (x6 + 1)) < (x1.length : Int) then (if 0 ≤ x6 then (if x6 < (x1.length : Int) then (if 0 ≤ (wrap64 (x6 + 1)) then (if 0 ≤ (rd x1 x6) then (if (rd x1 x6) ≤ (rd x1 (wrap64 (x6 + 1))) then (if (rd x1 (wrap64 (x6 + 1))) ≤ (x0.length : Int) then ((earshotref02_Energy.f k ((x0.take ((rd x1 (wrap64 (x6 + 1))) : Int).toNat).drop ((rd x1 x6) : Int).toNat)).bind fun t104 => (if x5.length < 17592186044416 then (earshotref03_Bands.l0 k x0 x1 (x5 ++ [t104]) (wrap64 (x6 + 1))) else (none))) else (none)) else (none)) else (none)) else (none)) else (none)) else (none)) else (some x5)
def earshotref03_Bands.f (k : Nat) (l0 : List Int) (l1 : List Int) : Option (List Int) := earshotref03_Bands.l0 k l0 l1 ([] : List Int) 0
theorem earshotref03_Bands.mono_l : ∀ k, (∀ y0 y1 y2 y3, LeO (earshotref03_Bands.l0 k y0 y1 y2 y3) (earshotref03_Bands.l0 (k + 1) y0 y1 y2 y3))
 | 0 => fun _ _ _ _ r h => by simp [earshotref03_Bands.l0] at h
 | k + 1 => by
  have ih0 := earshotref03_Bands.mono_l k
  ·intro y0 y1 y2 y3
   unfold earshotref03_Bands.l0
   repeat' first
   | (with_reducible exact ih0 _ _ _ _)
   | (with_reducible exact earshotref02_Energy.mono _ _)
   | (with_reducible exact LeO.refl _)
   | (with_reducible exact LeO.none _)
   | (with_reducible refine LeO.ite ?_ ?_)
   | (with_reducible refine LeO.bind ?_ (fun _ => ?_))
   | exact ih0 _ _ _ _
   | exact earshotref02_Energy.mono _ _
   | exact LeO.none _
   | refine LeO.ite ?_ ?_
   | refine LeO.bind ?_ (fun _ => ?_)
theorem earshotref03_Bands.mono : ∀ a0 a1 k, LeO (earshotref03_Bands.f k a0 a1) (earshotref03_Bands.f (k + 1) a0 a1) := by
 intro a0 a1 k
 have ih0 := earshotref03_Bands.mono_l k
 unfold earshotref03_Bands.f
 repeat' first
   | (with_reducible exact ih0 _ _ _ _)
   | (with_reducible exact earshotref02_Energy.mono _ _)
   | (with_reducible exact LeO.refl _)
   | (with_reducible exact LeO.none _)
   | (with_reducible refine LeO.ite ?_ ?_)
   | (with_reducible refine LeO.bind ?_ (fun _ => ?_))
   | exact ih0 _ _ _ _
   | exact earshotref02_Energy.mono _ _
   | exact LeO.none _
   | refine LeO.ite ?_ ?_
   | refine LeO.bind ?_ (fun _ => ?_)
def earshotref03_Bands.T5 : Bool × List (List Nat × List Nat) := (true, [([], []), ([], []), ([], []), ([], []), ([2, 3], [2, 3]), ([4], [4]), ([], []), ([], []), ([7], [7]), ([6, 8], [6, 8]), ([9], [9]), ([1, 5, 10], [1, 5, 10]), ([11], [11]), ([12], [12]), ([0, 13, 12], [0, 13]), ([14, 14, 0, 1, 2, 3, 4, 5, 6, 7, 8, 9, 10, 11, 12, 13, 14], [0, 14])])
def earshotref03_Bands.B5 : List Nat := [0, 0, 0, 0, 12, 28, 0, 0, 128, 448, 960, 2046, 4094, 8190, 16383, 32767]
theorem earshotref03_Bands.tab5 : rtab .any (opsOf Tryd.f68 5) = earshotref03_Bands.T5 := by kernel_rfl
theorem earshotref03_Bands.bits5 : waitsOk earshotref03_Bands.T5.2 earshotref03_Bands.B5 = true := by kernel_rfl
set_option maxHeartbeats 8000000 in
set_option maxRecDepth 100000 in
theorem earshotref03_Bands.calls (k : Nat) (A0 : Option Addr) (c0 : Nat) (l0 : List Int) (A1 : Option Addr) (c1 : Nat) (l1 : List Int) (r : List Int) (w : World) (hr0 : Kd.C (Kd.int .i64) w A0 l0.length l0) (hc0 : l0.length ≤ c0) (hr1 : Kd.C (Kd.int .i64) w A1 l1.length l1) (hc1 : l1.length ≤ c1) (h : earshotref03_Bands.f k l0 l1 = some r) :
  Calls Tryd.prog 68 #[.slice A0 l0.length c0, .slice A1 l1.length c1] w fun e w' => ∃ v0_ : Value, e = .returned (v0_) ∧ Kd.R (Kd.int .i64) 3 w' w.heap.size (fun _ => True) v0_ r ∧ Below w.heap.size w w' := by
 have HR0 := Aside0.mk hr0
 have HC0 := Aside0.mk hc0
 clear hr0 hc0
 have HR1 := Aside0.mk hr1
 have HC1 := Aside0.mk hc1
 clear hr1 hc1
 have HB := Aside0.mk (Below.refl w.heap.size w)
 have H : (earshotref03_Bands.l0 k l0 l1 ([] : List Int) 0) = some r := h
 clear h
 have H' := Aside0.mk H
 clear H
 go_enter Tryd.func68, Tryd.ntmps68
 go_wp2
 go_loopg [5, 6] k (fun kq v5 v6 w' => ∃ (x5_1 : List Int) (x6_1 : Int), v6 = .int .i64 x6_1 ∧ Aside0 (earshotref03_Bands.l0 kq l0 l1 x5_1 x6_1 = some r) ∧ Aside0 (kq ≤ k) ∧ Aside0 (Kd.R (Kd.int .i64) 3 w' w.heap.size (fun _ => True) v5 x5_1) ∧ Aside0 (Below w.heap.size w w'))
 case atStart => exact ⟨(([] : List Int)), (0), (by first | rfl | (simp; done) | (simp only [i64_w]; done) | (simp [*]; done)), H', ⟨Nat.le_refl _⟩, ⟨by first | exact Kd.R_nil _ _ _ _ _ | exact Kd.N_nil _ _ _ _ _ | exact Kd.V_nil _ _ _ _ _ | exact Kd.Q_nil _ _ _ _ _ | exact Kd.S_nil _ _ _ _ _⟩, ⟨tB⟩⟩
 case round =>
  clear H'
  try clear c1
  try clear p2
  obtain ⟨x5_1, x6_1, rfl, HA, HK1, HO_5, HB⟩ := hrel
  cases gk with
  | zero => exact absurd HA.out (by simp [earshotref03_Bands.l0])
  | succ k1 =>
   have H := HA.out
   clear HA
   simp only [earshotref03_Bands.l0] at H
   by_cases c3 : (wrap64 (x6_1 + 1)) < (l1.length : Int)
   ·rw [if_pos c3] at H
    have c3b0 := decide_eq_true c3
    clear c3
    by_cases c4 : 0 ≤ x6_1
    ·rw [if_pos c4] at H
     have c4b0 := decide_eq_true c4
     clear c4
     by_cases c5 : x6_1 < (l1.length : Int)
     ·rw [if_pos c5] at H
      have c5b0 := decide_eq_true c5
      clear c5
      obtain ⟨ji6, hji6⟩ : ∃ j_ : Int, (wrap64 (x6_1 + 1)) = j_ := ⟨_, rfl⟩
      first | rw [hji6] at H | simp only [hji6] at H
      (try rw [hji6] at c3b0)
      have hji6w : (IntKind.i64.wrap (x6_1 + 1)) = ji6 := (i64_w _).trans hji6
      by_cases c7 : 0 ≤ (ji6)
      ·rw [if_pos c7] at H
       have c7b0 := decide_eq_true c7
       clear c7
       by_cases c8 : 0 ≤ (rd l1 x6_1)
       ·rw [if_pos c8] at H
        have c8b0 := eq_true c8
        have c8b1 := decide_eq_true c8
        clear c8
        by_cases c9 : (rd l1 x6_1) ≤ (rd l1 (ji6))
        ·rw [if_pos c9] at H
         have c9b0 := eq_true c9
         have c9b1 := decide_eq_true c9
         clear c9
         by_cases c10 : (rd l1 (ji6)) ≤ (l0.length : Int)
         ·rw [if_pos c10] at H
          have c10b0 := eq_true c10
          have c10b1 := decide_eq_true c10
          clear c10
          replace H := Option.bind_eq_some_iff.mp H
          obtain ⟨t104, A110, H⟩ := H
          try dsimp only at H
          have A11 := Aside0.mk A110
          clear A110
          by_cases c12 : x5_1.length < 17592186044416
          ·rw [if_pos c12] at H
           have LMc12 := Aside0.mk c12
           clear c12
           obtain ⟨y105, hy105⟩ : ∃ y_ : List Int, y_ = (x5_1 ++ [t104]) := ⟨_, rfl⟩
           replace H : (earshotref03_Bands.l0 k1 l0 l1 y105 ji6) = some r := by first | (rw [hy105]; with_reducible exact H) | (have H2_ := (Option.bind_some _ _).symm.trans H; rw [hy105]; with_reducible exact H2_) | (have H2_ := (Option.bind_some _ _).symm.trans H; with_reducible exact H2_) | with_reducible exact H | (rw [hy105]; exact H) | exact H
           have Ny105 := Aside0.mk hy105
           clear hy105
           have H' := Aside0.mk H
           clear H
           try go_wp2
           have n0_ := Aside0.mk (Kd.R_drew HO_5.out)
           have n1_ := Aside0.mk (below_drew1 HB.out)
           clear HO_5
           clear HB
           have HO_5 := n0_
           have HB := n1_
           clear n0_ n1_
           have p101 : 0 ≤ (x6_1 : Int) := of_decide_eq_true tA
           have q101 : x6_1 < (l1.length : Int) := of_decide_eq_true tA
           obtain ⟨ad101, e101, hx101_0⟩ := Kd.at_int HR1.out x6_1 p101 q101
           have hw101_0 := hx101_0
           cases e101
           replace hx101_0 := (HB.out.cell (World.block_lt_of_cell? w _ hx101_0)).trans hx101_0
           replace p101 := eq_true p101
           replace q101 := eq_true q101
           have p102 : 0 ≤ ((ji6) : Int) := of_decide_eq_true tA
           have q102 : (ji6) < (l1.length : Int) := of_decide_eq_true tA
           obtain ⟨ad102, e102, hx102_0⟩ := Kd.at_int HR1.out (ji6) p102 q102
           have hw102_0 := hx102_0
           obtain rfl : ad101 = ad102 := (by injection e102)
           replace hx102_0 := (HB.out.cell (World.block_lt_of_cell? w _ hx102_0)).trans hx102_0
           replace p102 := eq_true p102
           replace q102 := eq_true q102
           obtain ⟨i014, hi014, _, hsz14, _⟩ := info_parts info3
           obtain ⟨A14, hcut14, hA14, hC14⟩ := print_mid_of (P := Tryd.prog) (Value.int .i64) 0 22 3 .i64 .i64 Tryd.underlying22 hi014 hsz14 A0 c0 l0 (rd l1 x6_1) (rd l1 (ji6)) (of_decide_eq_true tA) (by first | omega | exact of_decide_eq_true tA) (of_decide_eq_true tA) HC0.out
           have HR103 := Aside0.mk (Kd.C_of_reads (h1 := fun _ => rfl) (hA14 _ (Kd.reads_of_C HR0.out)))
           have HC103 := Aside0.mk hC14
           clear hA14 hC14 hi014 hsz14
           refine start_ (n := 16) (S := fun w' => w'.cell? (ad101.add (x6_1).toNat) = some (.int .i64 (rd l1 x6_1)) ∧ w'.cell? (ad101.add ((ji6)).toNat) = some (.int .i64 (rd l1 (ji6)))) (ds := []) #[false, false, false, false, false, false, false, false, false, false, false, false, false, false, false, false] (by kernel_rfl) rfl rfl ⟨((HB.out.cell (World.block_lt_of_cell? w _ hw101_0)).trans hw101_0), ((HB.out.cell (World.block_lt_of_cell? w _ hw102_0)).trans hw102_0)⟩ (fun hHeld => ?_); refine with_tabW earshotref03_Bands.tab5 earshotref03_Bands.bits5 (fun HT_ HW_ => ?_)
           generalize wr.drew = w13 at HO_5 HB HR103 hx101_0 hx102_0 hHeld ⊢
           refine pI 0 (some 14) (bm 1 16) HT_.out ?_
           refine pI 1 (some 15) (bm 2 16) HT_.out ?_
           refine pI 2 (some 16) (bm 3 16) HT_.out ?_
           refine pI 3 (some 17) (bm 4 16) HT_.out ?_
           refine pI 4 (some 18) (bm 5 16) HT_.out ?_
           refine pure_ (i := 6) (N := some 20) (v := ?_) (a' := ?_) #[true, true, true, true, true, false, true, false, false, false, false, false, false, false, false, false] rfl rfl (any_of HT_.out (by kernel_rfl)) (fun _ _ _ h => h) (Or.inl ⟨by rfl, ?_⟩) ?_ ?_
           rotate_left
           ·intro w'
            go_simp
            with_reducible rfl
           rotate_left
           ·simp only [Act.put, List.setIfInBounds_toArray, List.set_cons_zero, List.set_cons_succ, i64_w, i32_w]
            rfl
           refine pure_ (i := 7) (N := some 21) (v := ?_) (a' := ?_) #[true, true, true, true, true, false, true, true, false, false, false, false, false, false, false, false] rfl rfl (any_of HT_.out (by kernel_rfl)) (fun _ _ _ h => h) (Or.inl ⟨by rfl, ?_⟩) ?_ ?_
           rotate_left
           ·intro w'
            go_simp
            with_reducible rfl
           rotate_left
           ·simp only [Act.put, List.setIfInBounds_toArray, List.set_cons_zero, List.set_cons_succ, i64_w, i32_w]
            rfl
           refine pure_ (i := 8) (N := some 22) (v := ?_) (a' := ?_) #[true, true, true, true, true, false, true, true, true, false, false, false, false, false, false, false] rfl rfl (any_of HT_.out (by kernel_rfl)) (fun _ _ _ h => h) (Or.inl ⟨by rfl, ?_⟩) ?_ ?_
           rotate_left
           ·intro w'
            go_simp
            with_reducible rfl
           rotate_left
           ·simp only [Act.put, List.setIfInBounds_toArray, List.set_cons_zero, List.set_cons_succ, i64_w, i32_w]
            rfl
           refine pure_ (i := 9) (N := some 23) (v := ?_) (a' := ?_) #[true, true, true, true, true, false, true, true, true, true, false, false, false, false, false, false] rfl rfl (any_of HT_.out (by kernel_rfl)) (fun _ _ _ h => h) (Or.inl ⟨by rfl, ?_⟩) ?_ ?_
           rotate_left
           ·intro w'
            go_simp
            with_reducible rfl
           rotate_left
           ·simp only [Act.put, List.setIfInBounds_toArray, List.set_cons_zero, List.set_cons_succ, i64_w, i32_w]
            rfl
           refine tk2 5 (some 19) (bm 10 16) HT_.out HW_.out hHeld ?_
           refine tk2 10 (some 24) (bm 11 16) HT_.out HW_.out hHeld ?_
           refine pI 11 (some 25) (bm 12 16) HT_.out ?_
           refine one_ (i := 12) (N := some 26) #[true, true, true, true, true, true, true, true, true, true, true, true, true, false, false, false] rfl rfl (one_of HT_.out (by kernel_rfl)) (by decide) (fun K hK => ?_)
           refine goes_ Tryd.func119 (by kernel_rfl) rfl #[.slice _ ((l0.take ((rd l1 (ji6)) : Int).toNat).drop ((rd l1 x6_1) : Int).toNat).length (c0 - (rd l1 x6_1).toNat)] (by rfl) rfl rfl (by (try simp only [List.map_toArray, List.map_cons, List.map_nil]); first | done | (rw [show ((l0.take ((rd l1 (ji6)) : Int).toNat).drop ((rd l1 x6_1) : Int).toNat).length = ((rd l1 (ji6)).toNat - (rd l1 x6_1).toNat) from (by rw [List.length_drop, List.length_take]; have h_ : ((rd l1 (ji6)) : Int) ≤ (l0.length : Int) := of_decide_eq_true tA; omega)] <;> rfl) | (simp only [hji6]; rfl) | rfl | (simp only [List.length_drop, List.length_take]; rfl)) ?_
           with_reducible refine (earshotref02_Energy.calls k1 _ _ ((l0.take ((rd l1 (ji6)) : Int).toNat).drop ((rd l1 x6_1) : Int).toNat) t104 _ ?side1 ?side2 A11.out).mono ?_
           (case side1 => exact tC (Kd.C_below HR103.out HB.out))
           (case side2 => exact HC103.out)
           rintro e w' ⟨rfl, ⟨nd, rfl⟩⟩
           refine ⟨_, rfl, ?_⟩
           refine hK.out _ _ ⟨((HB.out.cell (World.block_lt_of_cell? w _ hw101_0)).trans hw101_0), ((HB.out.cell (World.block_lt_of_cell? w _ hw102_0)).trans hw102_0)⟩ (fun hHeld => ?_)
           clear hK K
           refine norm_ (a' := ?_) ?_ ?_
           rotate_left
           ·show Act.put _ (some 26) _ = _
            simp only [Act.put, List.setIfInBounds_toArray, List.set_cons_zero, List.set_cons_succ, i64_w, i32_w]
            rfl
           refine one_ (i := 13) (N := some 27) #[true, true, true, true, true, true, true, true, true, true, true, true, true, true, false, false] rfl rfl (one_of HT_.out (by kernel_rfl)) (by decide) (fun K hK => ?_)
           refine value_ (w1 := ?_) (v := ?_) (by rfl) rfl ?_ ?_
           rotate_left 2
           ·go_simp
            constructor
            ·rfl
            ·rfl
           refine hK.out _ _ ⟨(World.cell?_alloc_lt _ _ _ (World.block_lt_of_cell? _ _ (((HB.out.cell (World.block_lt_of_cell? w _ hw101_0)).trans hw101_0)))).trans (((HB.out.cell (World.block_lt_of_cell? w _ hw101_0)).trans hw101_0)), (World.cell?_alloc_lt _ _ _ (World.block_lt_of_cell? _ _ (((HB.out.cell (World.block_lt_of_cell? w _ hw102_0)).trans hw102_0)))).trans (((HB.out.cell (World.block_lt_of_cell? w _ hw102_0)).trans hw102_0))⟩ (fun hHeld => ?_)
           clear hK K
           refine norm_ (a' := ?_) ?_ ?_
           rotate_left
           ·show Act.put _ (some 27) _ = _
            simp only [Act.put, List.setIfInBounds_toArray, List.set_cons_zero, List.set_cons_succ, i64_w, i32_w]
            rfl
           refine one_ (i := 14) (N := some 28) #[true, true, true, true, true, true, true, true, true, true, true, true, true, true, true, false] rfl rfl (one_of HT_.out (by kernel_rfl)) (by decide) (fun K hK => ?_)
           refine Kd.R_append_step (Kd.int .i64) (w0 := w) w.heap.size (by rfl) (.tmp 14) (.tmp 27) 22 3 (.int .i64 0) 8 rfl Tryd.underlying22 info3 rfl (by decide) (by omega) u5 x5_1 t104 [.int .i64 t104] (fun _ => True) (fun _ => False) rfl rfl ?aP (fun _ hk => hk.elim) ?aF ?aO ?aB ?aS ?aL ?_
           (case aP => exact rfl)
           (case aB => exact tB)
           (case aF => exact (fun _ _ => trivial))
           (case aO => exact (tR HO_5.out))
           (case aS => exact (below_size tB))
           (case aL => have := LMc12.out; omega)
           intro v106 w15 ho hb hg hat
           rw [← Ny105.out] at ho
           have n0_ := Aside0.mk (hb)
           have n1_ := Aside0.mk (ho)
           clear HB
           clear HO_5
           have HB := n0_
           have HO107 := n1_
           clear n0_ n1_
           clear ho hb hg hat
           refine hK.out _ _ ⟨((HB.out.cell (World.block_lt_of_cell? w _ hw101_0)).trans hw101_0), ((HB.out.cell (World.block_lt_of_cell? w _ hw102_0)).trans hw102_0)⟩ (fun hHeld => ?_)
           clear hK K
           refine norm_ (a' := ?_) ?_ ?_
           rotate_left
           ·show Act.put _ (some 28) _ = _
            simp only [Act.put, List.setIfInBounds_toArray, List.set_cons_zero, List.set_cons_succ, i64_w, i32_w]
            rfl
           refine pI 15 (some 5) (bm 16 16) HT_.out ?_
           refine done_ (done_of HT_.out (by kernel_rfl)) ?_
           try go_wp2
           go_roundg k1
           case measure => have := HK1.out; omega
           case rel => exact ⟨(y105), (ji6), (by first | rfl | (simp; done) | (simp only [← hji6] <;> (first | rfl | simp)) | (simp [*]; done)), H', ⟨by have := HK1.out; omega⟩, ⟨tR HO107.out⟩, ⟨tB⟩⟩
          ·rw [if_neg c12] at H
           exact absurd H (by simp)
         ·rw [if_neg c10] at H
          exact absurd H (by simp)
        ·rw [if_neg c9] at H
         exact absurd H (by simp)
       ·rw [if_neg c8] at H
        exact absurd H (by simp)
      ·rw [if_neg c7] at H
       exact absurd H (by simp)
     ·rw [if_neg c5] at H
      exact absurd H (by simp)
    ·rw [if_neg c4] at H
     exact absurd H (by simp)
   ·rw [if_neg c3] at H
    have c3b0 := decide_eq_false c3
    clear c3
    obtain rfl := Option.some.inj H
    go_wp2
    go_ret
    exact ⟨_, by first | rfl | (simp [errW_none, errW_some] <;> rfl) | (simp [*, errW_none, errW_some] <;> rfl), tR HO_5.out, tB⟩

/-! ### earshotlaw03_FeatureBands: function 16 -/
mutual
def earshotlaw03_FeatureBands.j0 : Nat → List Int → List Int → Bool → Option (Bool)
 | 0, _, _, _ => none
 | k + 1, x0, x1, x18 => if x18 = true then ((earshotlaw03_known.f k).bind fun t101 => (some t101)) else ((feature_Bands.f k x0 x1).bind fun bt102 => (if (x0.length : Int) > 64 then (earshotlaw03_FeatureBands.j1 k x0 x1 bt102.1 bt102.2 true) else ((earshotref02_All.f k x0 (-16777216) 16777216).bind fun t106 => (if t106 = true then ((earshotref03_Edges.f k x1 (x0.length : Int)).bind fun t107 => (earshotlaw03_FeatureBands.j1 k x0 x1 bt102.1 bt102.2 (!t107))) else (earshotlaw03_FeatureBands.j1 k x0 x1 bt102.1 bt102.2 true)))))
def earshotlaw03_FeatureBands.j1 : Nat → List Int → List Int → List Int → Int → Bool → Option (Bool)
 | 0, _, _, _, _, _ => none
 | k + 1, x0, x1, x5, x6, x40 => if x40 = true then (if x6 = 2 then (if (x5.length : Int) = 0 then ((earshotlaw03_known.f k).bind fun t108 => (some t108)) else (some false)) else (some false)) else (if x6 = 0 then ((earshotref03_Bands.f k x0 x1).bind fun t109 => ((earshotref02_Same.f k x5 t109).bind fun t112 => (earshotlaw03_FeatureBands.j2 k x0 x1 x5 (!t112)))) else (earshotlaw03_FeatureBands.j2 k x0 x1 x5 true))
def earshotlaw03_FeatureBands.j2 : Nat → List Int → List Int → List Int → Bool → Option (Bool)
 | 0, _, _, _, _ => none
 | k + 1, x0, x1, x5, x60 => if x60 = true then (some false) else (if 0 < (x1.length : Int) then (if 0 ≤ (wrap64 ((x1.length : Int) - 1)) then (if (wrap64 ((x1.length : Int) - 1)) < (x1.length : Int) then ((feature_Bands.f k x0 (([rd x1 0, rd x1 (wrap64 ((x1.length : Int) - 1))] : List Int))).bind fun bt118 => (earshotlaw03_FeatureBands.l0 k x5 bt118.1 bt118.2 0 0)) else (none)) else (none)) else (none))
def earshotlaw03_FeatureBands.l0 : Nat → List Int → List Int → Int → Int → Int → Option (Bool)
 | 0, _, _, _, _, _ => none
 | k + 1, x5, x7, x8, x9, x10 => if x10 < (x5.length : Int) then (if 0 ≤ x10 then (earshotlaw03_FeatureBands.l0 k x5 x7 x8 (wrap64 (x9 + (rd x5 x10))) (wrap64 (x10 + 1))) else (none)) else (if x8 = 0 then (if (x7.length : Int) = 1 then (if 0 < (x7.length : Int) then (if (rd x7 0) = x9 then ((earshotlaw03_known.f k).bind fun t124 => (some t124)) else (some false)) else (none)) else (some false)) else (some false))
end
def earshotlaw03_FeatureBands.f (k : Nat) (l0 : List Int) (l1 : List Int) : Option (Bool) := if (l0.length : Int) > 70 then (earshotlaw03_FeatureBands.j0 k l0 l1 true) else (earshotlaw03_FeatureBands.j0 k l0 l1 (decide ((l1.length : Int) > 70)))
theorem earshotlaw03_FeatureBands.mono_l : ∀ k, (∀ y0 y1 y2, LeO (earshotlaw03_FeatureBands.j0 k y0 y1 y2) (earshotlaw03_FeatureBands.j0 (k + 1) y0 y1 y2)) ∧ (∀ y0 y1 y2 y3 y4, LeO (earshotlaw03_FeatureBands.j1 k y0 y1 y2 y3 y4) (earshotlaw03_FeatureBands.j1 (k + 1) y0 y1 y2 y3 y4)) ∧ (∀ y0 y1 y2 y3, LeO (earshotlaw03_FeatureBands.j2 k y0 y1 y2 y3) (earshotlaw03_FeatureBands.j2 (k + 1) y0 y1 y2 y3)) ∧ (∀ y0 y1 y2 y3 y4, LeO (earshotlaw03_FeatureBands.l0 k y0 y1 y2 y3 y4) (earshotlaw03_FeatureBands.l0 (k + 1) y0 y1 y2 y3 y4))
 | 0 => ⟨fun _ _ _ r h => by simp [earshotlaw03_FeatureBands.j0] at h, fun _ _ _ _ _ r h => by simp [earshotlaw03_FeatureBands.j1] at h, fun _ _ _ _ r h => by simp [earshotlaw03_FeatureBands.j2] at h, fun _ _ _ _ _ r h => by simp [earshotlaw03_FeatureBands.l0] at h⟩
 | k + 1 => by
  obtain ⟨ih0, ih1, ih2, ih3⟩ := earshotlaw03_FeatureBands.mono_l k
  refine ⟨?_, ?_, ?_, ?_⟩
  ·intro y0 y1 y2
   unfold earshotlaw03_FeatureBands.j0
   repeat' first
   | (with_reducible exact ih0 _ _ _)
   | (with_reducible exact ih1 _ _ _ _ _)
   | (with_reducible exact ih2 _ _ _ _)
   | (with_reducible exact ih3 _ _ _ _ _)
   | (with_reducible exact earshotlaw03_known.mono _)
   | (with_reducible exact earshotref02_All.mono _ _ _ _)
   | (with_reducible exact earshotref02_Same.mono _ _ _)
   | (with_reducible exact earshotref03_Bands.mono _ _ _)
   | (with_reducible exact earshotref03_Edges.mono _ _ _)
   | (with_reducible exact feature_Bands.mono _ _ _)
   | (with_reducible exact LeO.refl _)
   | (with_reducible exact LeO.none _)
   | (with_reducible refine LeO.ite ?_ ?_)
   | (with_reducible refine LeO.bind ?_ (fun _ => ?_))
   | exact ih0 _ _ _
   | exact ih1 _ _ _ _ _
   | exact ih2 _ _ _ _
   | exact ih3 _ _ _ _ _
   | exact earshotlaw03_known.mono _
   | exact earshotref02_All.mono _ _ _ _
   | exact earshotref02_Same.mono _ _ _
   | exact earshotref03_Bands.mono _ _ _
   | exact earshotref03_Edges.mono _ _ _
   | exact feature_Bands.mono _ _ _
   | exact LeO.none _
   | refine LeO.ite ?_ ?_
   | refine LeO.bind ?_ (fun _ => ?_)
  ·intro y0 y1 y2 y3 y4
   unfold earshotlaw03_FeatureBands.j1
   repeat' first
   | (with_reducible exact ih0 _ _ _)
   | (with_reducible exact ih1 _ _ _ _ _)
   | (with_reducible exact ih2 _ _ _ _)
   | (with_reducible exact ih3 _ _ _ _ _)
   | (with_reducible exact earshotlaw03_known.mono _)
   | (with_reducible exact earshotref02_All.mono _ _ _ _)
   | (with_reducible exact earshotref02_Same.mono _ _ _)
   | (with_reducible exact earshotref03_Bands.mono _ _ _)
   | (with_reducible exact earshotref03_Edges.mono _ _ _)
   | (with_reducible exact feature_Bands.mono _ _ _)
   | (with_reducible exact LeO.refl _)
   | (with_reducible exact LeO.none _)
   | (with_reducible refine LeO.ite ?_ ?_)
   | (with_reducible refine LeO.bind ?_ (fun _ => ?_))
   | exact ih0 _ _ _
   | exact ih1 _ _ _ _ _
   | exact ih2 _ _ _ _
   | exact ih3 _ _ _ _ _
   | exact earshotlaw03_known.mono _
   | exact earshotref02_All.mono _ _ _ _
   | exact earshotref02_Same.mono _ _ _
   | exact earshotref03_Bands.mono _ _ _
   | exact earshotref03_Edges.mono _ _ _
   | exact feature_Bands.mono _ _ _
   | exact LeO.none _
   | refine LeO.ite ?_ ?_
   | refine LeO.bind ?_ (fun _ => ?_)
  ·intro y0 y1 y2 y3
   unfold earshotlaw03_FeatureBands.j2
   repeat' first
   | (with_reducible exact ih0 _ _ _)
   | (with_reducible exact ih1 _ _ _ _ _)
   | (with_reducible exact ih2 _ _ _ _)
   | (with_reducible exact ih3 _ _ _ _ _)
   | (with_reducible exact earshotlaw03_known.mono _)
   | (with_reducible exact earshotref02_All.mono _ _ _ _)
   | (with_reducible exact earshotref02_Same.mono _ _ _)
   | (with_reducible exact earshotref03_Bands.mono _ _ _)
   | (with_reducible exact earshotref03_Edges.mono _ _ _)
   | (with_reducible exact feature_Bands.mono _ _ _)
   | (with_reducible exact LeO.refl _)
   | (with_reducible exact LeO.none _)
   | (with_reducible refine LeO.ite ?_ ?_)
   | (with_reducible refine LeO.bind ?_ (fun _ => ?_))
   | exact ih0 _ _ _
   | exact ih1 _ _ _ _ _
   | exact ih2 _ _ _ _
   | exact ih3 _ _ _ _ _
   | exact earshotlaw03_known.mono _
   | exact earshotref02_All.mono _ _ _ _
   | exact earshotref02_Same.mono _ _ _
   | exact earshotref03_Bands.mono _ _ _
   | exact earshotref03_Edges.mono _ _ _
   | exact feature_Bands.mono _ _ _
   | exact LeO.none _
   | refine LeO.ite ?_ ?_
   | refine LeO.bind ?_ (fun _ => ?_)
  ·intro y0 y1 y2 y3 y4
   unfold earshotlaw03_FeatureBands.l0
   repeat' first
   | (with_reducible exact ih0 _ _ _)
   | (with_reducible exact ih1 _ _ _ _ _)
   | (with_reducible exact ih2 _ _ _ _)
   | (with_reducible exact ih3 _ _ _ _ _)
   | (with_reducible exact earshotlaw03_known.mono _)
   | (with_reducible exact earshotref02_All.mono _ _ _ _)
   | (with_reducible exact earshotref02_Same.mono _ _ _)
   | (with_reducible exact earshotref03_Bands.mono _ _ _)
   | (with_reducible exact earshotref03_Edges.mono _ _ _)
   | (with_reducible exact feature_Bands.mono _ _ _)
   | (with_reducible exact LeO.refl _)
   | (with_reducible exact LeO.none _)
   | (with_reducible refine LeO.ite ?_ ?_)
   | (with_reducible refine LeO.bind ?_ (fun _ => ?_))
   | exact ih0 _ _ _
   | exact ih1 _ _ _ _ _
   | exact ih2 _ _ _ _
   | exact ih3 _ _ _ _ _
   | exact earshotlaw03_known.mono _
   | exact earshotref02_All.mono _ _ _ _
   | exact earshotref02_Same.mono _ _ _
   | exact earshotref03_Bands.mono _ _ _
   | exact earshotref03_Edges.mono _ _ _
   | exact feature_Bands.mono _ _ _
   | exact LeO.none _
   | refine LeO.ite ?_ ?_
   | refine LeO.bind ?_ (fun _ => ?_)
theorem earshotlaw03_FeatureBands.mono : ∀ a0 a1 k, LeO (earshotlaw03_FeatureBands.f k a0 a1) (earshotlaw03_FeatureBands.f (k + 1) a0 a1) := by
 intro a0 a1 k
 obtain ⟨ih0, ih1, ih2, ih3⟩ := earshotlaw03_FeatureBands.mono_l k
 unfold earshotlaw03_FeatureBands.f
 repeat' first
   | (with_reducible exact ih0 _ _ _)
   | (with_reducible exact ih1 _ _ _ _ _)
   | (with_reducible exact ih2 _ _ _ _)
   | (with_reducible exact ih3 _ _ _ _ _)
   | (with_reducible exact earshotlaw03_known.mono _)
   | (with_reducible exact earshotref02_All.mono _ _ _ _)
   | (with_reducible exact earshotref02_Same.mono _ _ _)
   | (with_reducible exact earshotref03_Bands.mono _ _ _)
   | (with_reducible exact earshotref03_Edges.mono _ _ _)
   | (with_reducible exact feature_Bands.mono _ _ _)
   | (with_reducible exact LeO.refl _)
   | (with_reducible exact LeO.none _)
   | (with_reducible refine LeO.ite ?_ ?_)
   | (with_reducible refine LeO.bind ?_ (fun _ => ?_))
   | exact ih0 _ _ _
   | exact ih1 _ _ _ _ _
   | exact ih2 _ _ _ _
   | exact ih3 _ _ _ _ _
   | exact earshotlaw03_known.mono _
   | exact earshotref02_All.mono _ _ _ _
   | exact earshotref02_Same.mono _ _ _
   | exact earshotref03_Bands.mono _ _ _
   | exact earshotref03_Edges.mono _ _ _
   | exact feature_Bands.mono _ _ _
   | exact LeO.none _
   | refine LeO.ite ?_ ?_
   | refine LeO.bind ?_ (fun _ => ?_)
def earshotlaw03_FeatureBands.T8 : Bool × List (List Nat × List Nat) := (true, [([], []), ([], []), ([1], [1]), ([2], [2]), ([], []), ([], []), ([5], [5]), ([6], [6]), ([4, 7], [4, 7]), ([8], [8]), ([3, 9], [3, 9]), ([0, 10], [0, 10]), ([11], [11]), ([12], [12]), ([12], [12]), ([13, 11, 0, 1, 2, 3, 4, 5, 6, 7, 8, 9, 10, 11, 12, 13], [13]), ([14, 15, 0, 1, 2, 3, 4, 5, 6, 7, 8, 9, 10, 11, 12, 13, 14, 15], [14])])
def earshotlaw03_FeatureBands.B8 : List Nat := [0, 0, 2, 6, 0, 0, 32, 96, 240, 496, 1022, 2047, 4095, 8191, 8191, 16383, 65535]
theorem earshotlaw03_FeatureBands.tab8 : rtab .any (opsOf Tryd.f16 8) = earshotlaw03_FeatureBands.T8 := by kernel_rfl
theorem earshotlaw03_FeatureBands.bits8 : waitsOk earshotlaw03_FeatureBands.T8.2 earshotlaw03_FeatureBands.B8 = true := by kernel_rfl
set_option maxHeartbeats 8000000 in
set_option maxRecDepth 100000 in
theorem earshotlaw03_FeatureBands.calls (k : Nat) (A0 : Option Addr) (c0 : Nat) (l0 : List Int) (A1 : Option Addr) (c1 : Nat) (l1 : List Int) (r : Bool) (w : World) (ht : Kd.C (Kd.int .i64) w (some ⟨0, 0, none⟩) 65 tabL) (hr0 : Kd.C (Kd.int .i64) w A0 l0.length l0) (hc0 : l0.length ≤ c0) (hr1 : Kd.C (Kd.int .i64) w A1 l1.length l1) (hc1 : l1.length ≤ c1) (h : earshotlaw03_FeatureBands.f k l0 l1 = some r) :
  Calls Tryd.prog 16 #[.slice A0 l0.length c0, .slice A1 l1.length c1] w fun e w' => e = .returned (.bool r) ∧ Below w.heap.size w w' := by
 have HRT := Aside0.mk ht
 clear ht
 have HR0 := Aside0.mk hr0
 have HC0 := Aside0.mk hc0
 clear hr0 hc0
 have HR1 := Aside0.mk hr1
 have HC1 := Aside0.mk hc1
 clear hr1 hc1
 have HB := Aside0.mk (Below.refl w.heap.size w)
 have H : (if (l0.length : Int) > 70 then (earshotlaw03_FeatureBands.j0 k l0 l1 true) else (earshotlaw03_FeatureBands.j0 k l0 l1 (decide ((l1.length : Int) > 70)))) = some r := h
 clear h
 have HC3 := Aside0.mk H
 clear H
 go_enter Tryd.func16, Tryd.ntmps16
 go_upto_region 1 with (fail)
 go_cut [18] (fun v18 wc => ∃ (kq : Nat) (x18_2 : Bool), v18 = .bool x18_2 ∧ Aside0 (earshotlaw03_FeatureBands.j0 kq l0 l1 x18_2 = some r) ∧ Aside0 (kq ≤ k) ∧ Aside0 (Below w.heap.size w wc))
 case first =>
  have H := HC3.out
  clear HC3
  by_cases c4 : (l0.length : Int) > 70
  ·rw [if_pos c4] at H
   have c4b0 : decide (70 < (l0.length : Int)) = true := decide_eq_true c4
   have c4b1 : decide (70 < l0.length) = true := decide_eq_true (by omega)
   clear c4
   (first | rw [c4b0] | (simp only [i64_w, i32_w]; rw [c4b0]) | skip)
   have H' := Aside0.mk H
   clear H
   go_wp2
   go_meet
   case rel => exact ⟨_, (true), (by first | rfl | (simp; done) | (simp only [i64_w]; done) | (simp [*]; done)), H', ⟨by first | omega | exact Nat.le_refl _⟩, ⟨tB⟩⟩
  ·rw [if_neg c4] at H
   have c4b0 : decide (70 < (l0.length : Int)) = false := decide_eq_false c4
   have c4b1 : decide (70 < l0.length) = false := decide_eq_false (by omega)
   clear c4
   (first | rw [c4b0] | (simp only [i64_w, i32_w]; rw [c4b0]) | skip)
   have H' := Aside0.mk H
   clear H
   go_wp2
   go_meet
   case rel => exact ⟨_, (decide ((l1.length : Int) > 70)), (by first | rfl | (simp; done) | (simp only [i64_w]; done) | (simp [*]; done)), H', ⟨by first | omega | exact Nat.le_refl _⟩, ⟨tB⟩⟩
 case rest =>
  clear HC3
  try clear c1
  try clear p2
  try clear c4
  try clear c4b0
  try clear c4b1
  obtain ⟨kq, x18_2, rfl, HA, HJ2, HB⟩ := hcut
  cases kq with
  | zero => exact absurd HA.out (by simp [earshotlaw03_FeatureBands.j0])
  | succ kj2 =>
   have H := HA.out
   clear HA
   simp only [earshotlaw03_FeatureBands.j0] at H
   by_cases c5 : x18_2 = true
   ·subst c5
    have H1 : ((earshotlaw03_known.f kj2).bind fun t101 => (some t101)) = some r := by rw [if_pos rfl] at H; exact H
    clear H
    have H := H1
    clear H1
    replace H := Option.bind_eq_some_iff.mp H
    obtain ⟨t101, A60, H⟩ := H
    try dsimp only at H
    have A6 := Aside0.mk A60
    clear A60
    obtain rfl := Option.some.inj H
    go_wp2_with (first | ((with_reducible refine gate_callee (f := 22) rfl ?_); refine goesL_ (some 19) rfl rfl Tryd.func22 (by kernel_rfl) rfl #[] rfl tL ?_; (with_reducible refine (earshotlaw03_known.calls kj2  t101 _ ?side1 A6.out).mono ?_); (case side1 => exact tC (Kd.C_below HRT.out HB.out)); rintro e w7 ⟨rfl, hb⟩; refine ⟨_, rfl, ?_⟩; have n0_ := Aside0.mk (below_step tB hb); clear HB; have HB := n0_; clear n0_; (try clear hb); (try clear hb2); (try clear hk); (try clear hi)))
    go_ret
    exact ⟨by first | rfl | (simp [errW_none, errW_some] <;> rfl) | (simp [*, errW_none, errW_some] <;> rfl), tB⟩
   ·replace c5 := Bool.eq_false_iff.mpr c5
    subst c5
    have H1 : ((feature_Bands.f kj2 l0 l1).bind fun bt102 => (if (l0.length : Int) > 64 then (earshotlaw03_FeatureBands.j1 kj2 l0 l1 bt102.1 bt102.2 true) else ((earshotref02_All.f kj2 l0 (-16777216) 16777216).bind fun t106 => (if t106 = true then ((earshotref03_Edges.f kj2 l1 (l0.length : Int)).bind fun t107 => (earshotlaw03_FeatureBands.j1 kj2 l0 l1 bt102.1 bt102.2 (!t107))) else (earshotlaw03_FeatureBands.j1 kj2 l0 l1 bt102.1 bt102.2 true))))) = some r := by rw [if_neg (show ¬ (false = true) by decide)] at H; exact H
    clear H
    have H := H1
    clear H1
    replace H := Option.bind_eq_some_iff.mp H
    obtain ⟨⟨t102, t103⟩, A80, H⟩ := H
    try dsimp only at H
    have A8 := Aside0.mk A80
    clear A80
    have HC9 := Aside0.mk H
    clear H
    go_upto_region 4 with (first | ((with_reducible refine gate_callee (f := 66) rfl ?_); refine goesL_ (some 23) rfl rfl Tryd.func66 (by kernel_rfl) rfl #[.slice A0 l0.length c0, .slice A1 l1.length c1] rfl tL ?_; (with_reducible refine (feature_Bands.calls kj2 _ _ l0 _ _ l1 t102 t103 _ ?side1 ?side2 ?side3 ?side4 A8.out).mono ?_); (case side1 => exact tC (Kd.C_below HR0.out HB.out)); (case side2 => exact HC0.out); (case side3 => exact tC (Kd.C_below HR1.out HB.out)); (case side4 => exact HC1.out); rintro e w10 ⟨v104, rfl, ho0, hb⟩; refine ⟨_, rfl, ?_⟩; have n0_ := Aside0.mk (Kd.R_lower ho0 (below_size tB)); have n1_ := Aside0.mk (below_step tB hb); clear HB; have HO105 := n0_; have HB := n1_; clear n0_ n1_; (try clear hb); (try clear hb2); (try clear hk); (try clear hi); (try clear ho0)))
    (try simp only [Act.put, List.setIfInBounds_toArray, List.set_cons_zero, List.set_cons_succ])
    go_cut [40] (fun v40 wc => ∃ (kq : Nat) (x40_8 : Bool), v40 = .bool x40_8 ∧ Aside0 (earshotlaw03_FeatureBands.j1 kq l0 l1 t102 t103 x40_8 = some r) ∧ Aside0 (kq ≤ kj2) ∧ Aside0 (Kd.R (Kd.int .i64) 3 wc w.heap.size (fun _ => True) v104 t102) ∧ Aside0 (Below w.heap.size w wc))
    case first =>
     have H := HC9.out
     clear HC9
     by_cases c11 : (l0.length : Int) > 64
     ·rw [if_pos c11] at H
      have c11b0 : decide (64 < (l0.length : Int)) = true := decide_eq_true c11
      have c11b1 : decide (64 < l0.length) = true := decide_eq_true (by omega)
      clear c11
      (first | rw [c11b0] | (simp only [i64_w, i32_w]; rw [c11b0]) | skip)
      have H' := Aside0.mk H
      clear H
      go_wp2
      go_meet
      case rel => exact ⟨_, (true), (by first | rfl | (simp; done) | (simp only [i64_w]; done) | (simp [*]; done)), H', ⟨by have := HJ2.out; first | omega | exact Nat.le_refl _⟩, ⟨tR HO105.out⟩, ⟨tB⟩⟩
     ·rw [if_neg c11] at H
      have c11b0 : decide (64 < (l0.length : Int)) = false := decide_eq_false c11
      have c11b1 : decide (64 < l0.length) = false := decide_eq_false (by omega)
      clear c11
      (first | rw [c11b0] | (simp only [i64_w, i32_w]; rw [c11b0]) | skip)
      replace H := Option.bind_eq_some_iff.mp H
      obtain ⟨t106, A120, H⟩ := H
      try dsimp only at H
      have A12 := Aside0.mk A120
      clear A120
      by_cases c13 : t106 = true
      ·subst c13
       have H1 : ((earshotref03_Edges.f kj2 l1 (l0.length : Int)).bind fun t107 => (earshotlaw03_FeatureBands.j1 kj2 l0 l1 t102 t103 (!t107))) = some r := by rw [if_pos rfl] at H; exact H
       clear H
       have H := H1
       clear H1
       replace H := Option.bind_eq_some_iff.mp H
       obtain ⟨t107, A140, H⟩ := H
       try dsimp only at H
       have A14 := Aside0.mk A140
       clear A140
       have H' := Aside0.mk H
       clear H
       go_wp2_with (first | (go_at_call 25; (with_reducible refine (earshotref02_All.calls kj2 _ _ l0 (-16777216) 16777216 true _ ?side1 ?side2 A12.out).mono ?_); (case side1 => exact tC (Kd.C_below HR0.out HB.out)); (case side2 => exact HC0.out); rintro e w' ⟨rfl, ⟨nd, rfl⟩⟩) | (go_at_call 67; (with_reducible refine (earshotref03_Edges.calls kj2 _ _ l1 (l0.length : Int) t107 _ ?side1 ?side2 A14.out).mono ?_); (case side1 => exact tC (Kd.C_below HR1.out tB)); (case side2 => exact HC1.out); rintro e w' ⟨rfl, ⟨nd, rfl⟩⟩))
       go_meet
       case rel => exact ⟨_, (!t107), (by first | rfl | (simp; done) | (simp only [i64_w]; done) | (simp [*]; done)), H', ⟨by have := HJ2.out; first | omega | exact Nat.le_refl _⟩, ⟨tR HO105.out⟩, ⟨tB⟩⟩
      ·replace c13 := Bool.eq_false_iff.mpr c13
       subst c13
       have H1 : (earshotlaw03_FeatureBands.j1 kj2 l0 l1 t102 t103 true) = some r := by rw [if_neg (show ¬ (false = true) by decide)] at H; exact H
       clear H
       have H := H1
       clear H1
       have H' := Aside0.mk H
       clear H
       go_wp2_with (first | (go_at_call 25; (with_reducible refine (earshotref02_All.calls kj2 _ _ l0 (-16777216) 16777216 false _ ?side1 ?side2 A12.out).mono ?_); (case side1 => exact tC (Kd.C_below HR0.out HB.out)); (case side2 => exact HC0.out); rintro e w' ⟨rfl, ⟨nd, rfl⟩⟩))
       go_meet
       case rel => exact ⟨_, (true), (by first | rfl | (simp; done) | (simp only [i64_w]; done) | (simp [*]; done)), H', ⟨by have := HJ2.out; first | omega | exact Nat.le_refl _⟩, ⟨tR HO105.out⟩, ⟨tB⟩⟩
    case rest =>
     clear HC9
     try clear c1
     try clear c2
     try clear p2
     try clear c4
     try clear c4b0
     try clear c4b1
     try clear c5
     try clear c6
     try clear c11
     try clear c11b0
     try clear c11b1
     try clear c13
     try clear p2
     obtain ⟨kq, x40_8, rfl, HA, HJ8, HO_5, HB⟩ := hcut
     cases kq with
     | zero => exact absurd HA.out (by simp [earshotlaw03_FeatureBands.j1])
     | succ kj8 =>
      have H := HA.out
      clear HA
      simp only [earshotlaw03_FeatureBands.j1] at H
      by_cases c15 : x40_8 = true
      ·subst c15
       have H1 : (if t103 = 2 then (if (t102.length : Int) = 0 then ((earshotlaw03_known.f kj8).bind fun t108 => (some t108)) else (some false)) else (some false)) = some r := by rw [if_pos rfl] at H; exact H
       clear H
       have H := H1
       clear H1
       by_cases c16 : t103 = 2
       ·rw [if_pos c16] at H
        have c16b0 : (t103 == 2) = true := beq_iff_eq.mpr c16
        have c16b1 : (t103 != 2) = false := bne_eq_false_iff_eq.mpr c16
        clear c16
        by_cases c17 : (t102.length : Int) = 0
        ·rw [if_pos c17] at H
         have c17b0 : ((t102.length : Int) == 0) = true := beq_iff_eq.mpr c17
         have c17b1 : ((t102.length : Int) != 0) = false := bne_eq_false_iff_eq.mpr c17
         clear c17
         replace H := Option.bind_eq_some_iff.mp H
         obtain ⟨t108, A180, H⟩ := H
         try dsimp only at H
         have A18 := Aside0.mk A180
         clear A180
         obtain rfl := Option.some.inj H
         obtain ⟨Ao19, co19, eo19⟩ := Kd.R_slice HO_5.out
         subst eo19
         go_wp2_with (first | (go_at_call 22; (with_reducible refine (earshotlaw03_known.calls kj8  t108 _ ?side1 A18.out).mono ?_); (case side1 => exact tC (Kd.C_below HRT.out HB.out)); rintro e w20 ⟨rfl, hb⟩; have n0_ := Aside0.mk (Kd.R_below (tR HO_5.out) hb); have n1_ := Aside0.mk (below_step tB hb); clear HO_5; clear HB; have HO_5 := n0_; have HB := n1_; clear n0_ n1_; (try clear hb); (try clear hb2); (try clear hk); (try clear hi)))
         go_ret
         exact ⟨by first | rfl | (simp [errW_none, errW_some] <;> rfl) | (simp [*, errW_none, errW_some] <;> rfl), tB⟩
        ·rw [if_neg c17] at H
         have c17b0 : ((t102.length : Int) == 0) = false := beq_eq_false_iff_ne.mpr c17
         have c17b1 : ((t102.length : Int) != 0) = true := bne_iff_ne.mpr c17
         have c17b2 : ¬ (t102 = []) := fun h_ => c17 (by rw [h_]; rfl)
         obtain rfl := Option.some.inj H
         obtain ⟨Ao21, co21, eo21⟩ := Kd.R_slice HO_5.out
         subst eo21
         go_wp2
         go_ret
         exact ⟨by first | rfl | (simp [errW_none, errW_some] <;> rfl) | (simp [*, errW_none, errW_some] <;> rfl), tB⟩
       ·rw [if_neg c16] at H
        have c16b0 : (t103 == 2) = false := beq_eq_false_iff_ne.mpr c16
        have c16b1 : (t103 != 2) = true := bne_iff_ne.mpr c16
        obtain rfl := Option.some.inj H
        go_wp2
        go_ret
        exact ⟨by first | rfl | (simp [errW_none, errW_some] <;> rfl) | (simp [*, errW_none, errW_some] <;> rfl), tB⟩
      ·replace c15 := Bool.eq_false_iff.mpr c15
       subst c15
       have H1 : (if t103 = 0 then ((earshotref03_Bands.f kj8 l0 l1).bind fun t109 => ((earshotref02_Same.f kj8 t102 t109).bind fun t112 => (earshotlaw03_FeatureBands.j2 kj8 l0 l1 t102 (!t112)))) else (earshotlaw03_FeatureBands.j2 kj8 l0 l1 t102 true)) = some r := by rw [if_neg (show ¬ (false = true) by decide)] at H; exact H
       clear H
       have H := H1
       clear H1
       have HC22 := Aside0.mk H
       clear H
       go_upto_region 6 with (fail)
       go_cut [60] (fun v60 wc => ∃ (kq : Nat) (x60_21 : Bool), v60 = .bool x60_21 ∧ Aside0 (earshotlaw03_FeatureBands.j2 kq l0 l1 t102 x60_21 = some r) ∧ Aside0 (kq ≤ kj8) ∧ Aside0 (Kd.R (Kd.int .i64) 3 wc w.heap.size (fun _ => True) v104 t102) ∧ Aside0 (Below w.heap.size w wc))
       case first =>
        have H := HC22.out
        clear HC22
        by_cases c23 : t103 = 0
        ·rw [if_pos c23] at H
         have c23b0 : (t103 == 0) = true := beq_iff_eq.mpr c23
         have c23b1 : (t103 != 0) = false := bne_eq_false_iff_eq.mpr c23
         clear c23
         (first | rw [c23b0] | (simp only [i64_w, i32_w]; rw [c23b0]) | skip)
         replace H := Option.bind_eq_some_iff.mp H
         obtain ⟨t109, A240, H⟩ := H
         try dsimp only at H
         have A24 := Aside0.mk A240
         clear A240
         replace H := Option.bind_eq_some_iff.mp H
         obtain ⟨t112, A250, H⟩ := H
         try dsimp only at H
         have A25 := Aside0.mk A250
         clear A250
         have H' := Aside0.mk H
         clear H
         go_wp2_with (first | (go_at_call 68; (with_reducible refine (earshotref03_Bands.calls kj8 _ _ l0 _ _ l1 t109 _ ?side1 ?side2 ?side3 ?side4 A24.out).mono ?_); (case side1 => exact tC (Kd.C_below HR0.out HB.out)); (case side2 => exact HC0.out); (case side3 => exact tC (Kd.C_below HR1.out HB.out)); (case side4 => exact HC1.out); rintro e w26 ⟨v110, rfl, ho0, hb⟩; have n0_ := Aside0.mk (Kd.R_elder' (tR HO_5.out) (Kd.R_base ho0) hb); have n1_ := Aside0.mk (Kd.R_lower (Kd.R_new' ho0 (Kd.R_lt (tR HO_5.out))) (below_size tB)); have n2_ := Aside0.mk (below_step tB hb); clear HO_5; clear HB; have HO_5 := n0_; have HO111 := n1_; have HB := n2_; clear n0_ n1_ n2_; (try clear hb); (try clear hb2); (try clear hk); (try clear hi); (try clear ho0); obtain ⟨Ao27, co27, eo27⟩ := Kd.R_slice HO_5.out; subst eo27; obtain ⟨Ao28, co28, eo28⟩ := Kd.R_slice HO111.out; subst eo28) | (go_at_call 26; (with_reducible refine (earshotref02_Same.calls kj8 _ _ t102 _ _ t109 t112 _ ?side1 ?side2 ?side3 ?side4 A25.out).mono ?_); (case side1 => exact tC (Kd.R_reads' HO_5.out).2.2); (case side2 => exact (Kd.R_reads' HO_5.out).2.1); (case side3 => exact tC (Kd.R_reads' HO111.out).2.2); (case side4 => exact (Kd.R_reads' HO111.out).2.1); rintro e w' ⟨rfl, ⟨nd, rfl⟩⟩))
         go_meet
         case rel => exact ⟨_, (!t112), (by first | rfl | (simp; done) | (simp only [i64_w]; done) | (simp [*]; done)), H', ⟨by have := HJ2.out; have := HJ8.out; first | omega | exact Nat.le_refl _⟩, ⟨by (with_reducible repeat (first | apply Kd.R_alloc | apply Kd.R_drewN | apply Kd.R_drew)); exact Kd.R_mono HO_5.out (fun _ hk => trivial)⟩, ⟨tB⟩⟩
        ·rw [if_neg c23] at H
         have c23b0 : (t103 == 0) = false := beq_eq_false_iff_ne.mpr c23
         have c23b1 : (t103 != 0) = true := bne_iff_ne.mpr c23
         (first | rw [c23b0] | (simp only [i64_w, i32_w]; rw [c23b0]) | skip)
         have H' := Aside0.mk H
         clear H
         go_wp2
         go_meet
         case rel => exact ⟨_, (true), (by first | rfl | (simp; done) | (simp only [i64_w]; done) | (simp [*]; done)), H', ⟨by have := HJ2.out; have := HJ8.out; first | omega | exact Nat.le_refl _⟩, ⟨tR HO_5.out⟩, ⟨tB⟩⟩
       case rest =>
        clear HC22
        try clear c1
        try clear c2
        try clear p2
        try clear c4
        try clear c4b0
        try clear c4b1
        try clear c5
        try clear c6
        try clear c11
        try clear c11b0
        try clear c11b1
        try clear c13
        try clear c15
        try clear c16
        try clear c16b0
        try clear c16b1
        try clear c17
        try clear c17b0
        try clear c17b1
        try clear c17b2
        try clear c22
        try clear c23
        try clear c23b0
        try clear c23b1
        try clear p2
        obtain ⟨kq, x60_21, rfl, HA, HJ21, HO_5, HB⟩ := hcut
        cases kq with
        | zero => exact absurd HA.out (by simp [earshotlaw03_FeatureBands.j2])
        | succ kj21 =>
         have H := HA.out
         clear HA
         simp only [earshotlaw03_FeatureBands.j2] at H
         by_cases c29 : x60_21 = true
         ·subst c29
          have H1 : (some false) = some r := by rw [if_pos rfl] at H; exact H
          clear H
          have H := H1
          clear H1
          obtain rfl := Option.some.inj H
          go_wp2
          go_ret
          exact ⟨by first | rfl | (simp [errW_none, errW_some] <;> rfl) | (simp [*, errW_none, errW_some] <;> rfl), tB⟩
         ·replace c29 := Bool.eq_false_iff.mpr c29
          subst c29
          have H1 : (if 0 < (l1.length : Int) then (if 0 ≤ (wrap64 ((l1.length : Int) - 1)) then (if (wrap64 ((l1.length : Int) - 1)) < (l1.length : Int) then ((feature_Bands.f kj21 l0 (([rd l1 0, rd l1 (wrap64 ((l1.length : Int) - 1))] : List Int))).bind fun bt118 => (earshotlaw03_FeatureBands.l0 kj21 t102 bt118.1 bt118.2 0 0)) else (none)) else (none)) else (none)) = some r := by rw [if_neg (show ¬ (false = true) by decide)] at H; exact H
          clear H
          have H := H1
          clear H1
          by_cases c30 : 0 < (l1.length : Int)
          ·rw [if_pos c30] at H
           have c30b0 := decide_eq_true c30
           have c30b1 : decide (0 < l1.length) = true := decide_eq_true (by omega)
           clear c30
           obtain ⟨ji31, hji31⟩ : ∃ j_ : Int, (wrap64 ((l1.length : Int) - 1)) = j_ := ⟨_, rfl⟩
           first | rw [hji31] at H | simp only [hji31] at H
           have hji31w : (IntKind.i64.wrap ((l1.length : Int) - 1)) = ji31 := (i64_w _).trans hji31
           by_cases c32 : 0 ≤ (ji31)
           ·rw [if_pos c32] at H
            have c32b0 := decide_eq_true c32
            clear c32
            by_cases c33 : (ji31) < (l1.length : Int)
            ·rw [if_pos c33] at H
             have c33b0 := decide_eq_true c33
             clear c33
             obtain ⟨y115, hy115⟩ : ∃ y_ : List Int, y_ = (([rd l1 0, rd l1 (ji31)] : List Int)) := ⟨_, rfl⟩
             replace H : ((feature_Bands.f kj21 l0 y115).bind fun bt118 => (earshotlaw03_FeatureBands.l0 kj21 t102 bt118.1 bt118.2 0 0)) = some r := by first | (rw [hy115]; with_reducible exact H) | (have H2_ := (Option.bind_some _ _).symm.trans H; rw [hy115]; with_reducible exact H2_) | (have H2_ := (Option.bind_some _ _).symm.trans H; with_reducible exact H2_) | with_reducible exact H | (rw [hy115]; exact H) | exact H
             have Ny115 := Aside0.mk hy115
             clear hy115
             replace H := Option.bind_eq_some_iff.mp H
             obtain ⟨⟨t118, t119⟩, A340, H⟩ := H
             try dsimp only at H
             have A34 := Aside0.mk A340
             clear A340
             have H' := Aside0.mk H
             clear H
             try go_wp2
             have n0_ := Aside0.mk (Kd.R_drew HO_5.out)
             have n1_ := Aside0.mk (below_drew1 HB.out)
             clear HO_5
             clear HB
             have HO_5 := n0_
             have HB := n1_
             clear n0_ n1_
             have p113 : 0 ≤ (0 : Int) := (by omega)
             have q113 : 0 < (l1.length : Int) := of_decide_eq_true tA
             obtain ⟨ad113, e113, hx113_0⟩ := Kd.at_int HR1.out 0 p113 q113
             have hw113_0 := hx113_0
             (try rw [show ((0 : Int)).toNat = 0 from rfl] at hw113_0)
             (try rw [show 0 * 1 = 0 from rfl] at hw113_0)
             (try rw [Addr.add_zero'] at hw113_0)
             cases e113
             have qi113 : (0 < l1.length) = True := eq_true (by omega)
             (try rw [show ((0 : Int)).toNat = 0 from rfl] at hx113_0)
             (try rw [Addr.add_zero'] at hx113_0)
             replace hx113_0 := (HB.out.cell (World.block_lt_of_cell? w _ hx113_0)).trans hx113_0
             replace p113 := eq_true p113
             replace q113 := eq_true q113
             have p114 : 0 ≤ ((ji31) : Int) := of_decide_eq_true tA
             have q114 : (ji31) < (l1.length : Int) := of_decide_eq_true tA
             obtain ⟨ad114, e114, hx114_0⟩ := Kd.at_int HR1.out (ji31) p114 q114
             have hw114_0 := hx114_0
             obtain rfl : ad113 = ad114 := (by injection e114)
             replace hx114_0 := (HB.out.cell (World.block_lt_of_cell? w _ hx114_0)).trans hx114_0
             replace p114 := eq_true p114
             replace q114 := eq_true q114
             refine start_ (n := 17) (S := fun w' => w'.cell? ad113 = some (.int .i64 (rd l1 0)) ∧ w'.cell? (ad113.add ((ji31)).toNat) = some (.int .i64 (rd l1 (ji31)))) (ds := []) #[false, false, false, false, false, false, false, false, false, false, false, false, false, false, false, false, false] (by kernel_rfl) rfl rfl ⟨((HB.out.cell (World.block_lt_of_cell? w _ hw113_0)).trans hw113_0), ((HB.out.cell (World.block_lt_of_cell? w _ hw114_0)).trans hw114_0)⟩ (fun hHeld => ?_); refine with_tabW earshotlaw03_FeatureBands.tab8 earshotlaw03_FeatureBands.bits8 (fun HT_ HW_ => ?_)
             generalize wc.drew = w35 at HO_5 HB hx113_0 hx114_0 hHeld ⊢
             refine pI 0 (some 62) (bm 1 17) HT_.out ?_
             refine pI 1 (some 63) (bm 2 17) HT_.out ?_
             refine pI 2 (some 64) (bm 3 17) HT_.out ?_
             refine pure_ (i := 4) (N := some 66) (v := ?_) (a' := ?_) #[true, true, true, false, true, false, false, false, false, false, false, false, false, false, false, false, false] rfl rfl (any_of HT_.out (by kernel_rfl)) (fun _ _ _ h => h) (Or.inl ⟨by rfl, ?_⟩) ?_ ?_
             rotate_left
             ·intro w'
              go_simp
              with_reducible rfl
             rotate_left
             ·simp only [Act.put, List.setIfInBounds_toArray, List.set_cons_zero, List.set_cons_succ, i64_w, i32_w]
              rfl
             refine pure_ (i := 5) (N := some 67) (v := ?_) (a' := ?_) #[true, true, true, false, true, true, false, false, false, false, false, false, false, false, false, false, false] rfl rfl (any_of HT_.out (by kernel_rfl)) (fun _ _ _ h => h) (Or.inl ⟨by rfl, ?_⟩) ?_ ?_
             rotate_left
             ·intro w'
              go_simp
              with_reducible rfl
             rotate_left
             ·simp only [Act.put, List.setIfInBounds_toArray, List.set_cons_zero, List.set_cons_succ, i64_w, i32_w]
              rfl
             refine pure_ (i := 6) (N := some 68) (v := ?_) (a' := ?_) #[true, true, true, false, true, true, true, false, false, false, false, false, false, false, false, false, false] rfl rfl (any_of HT_.out (by kernel_rfl)) (fun _ _ _ h => h) (Or.inl ⟨by rfl, ?_⟩) ?_ ?_
             rotate_left
             ·intro w'
              go_simp
              with_reducible rfl
             rotate_left
             ·simp only [Act.put, List.setIfInBounds_toArray, List.set_cons_zero, List.set_cons_succ, i64_w, i32_w]
              rfl
             refine pure_ (i := 7) (N := some 69) (v := ?_) (a' := ?_) #[true, true, true, false, true, true, true, true, false, false, false, false, false, false, false, false, false] rfl rfl (any_of HT_.out (by kernel_rfl)) (fun _ _ _ h => h) (Or.inl ⟨by rfl, ?_⟩) ?_ ?_
             rotate_left
             ·intro w'
              go_simp
              with_reducible rfl
             rotate_left
             ·simp only [Act.put, List.setIfInBounds_toArray, List.set_cons_zero, List.set_cons_succ, i64_w, i32_w]
              rfl
             refine pure_ (i := 8) (N := some 70) (v := ?_) (a' := ?_) #[true, true, true, false, true, true, true, true, true, false, false, false, false, false, false, false, false] rfl rfl (any_of HT_.out (by kernel_rfl)) (fun _ _ _ h => h) (Or.inl ⟨by rfl, ?_⟩) ?_ ?_
             rotate_left
             ·intro w'
              go_simp
              with_reducible rfl
             rotate_left
             ·simp only [Act.put, List.setIfInBounds_toArray, List.set_cons_zero, List.set_cons_succ, i64_w, i32_w]
              rfl
             refine tk2 3 (some 65) (bm 9 17) HT_.out HW_.out hHeld ?_
             refine tk2 9 (some 71) (bm 10 17) HT_.out HW_.out hHeld ?_
             refine one_ (i := 10) (N := some 72) #[true, true, true, true, true, true, true, true, true, true, true, false, false, false, false, false, false] rfl rfl (one_of HT_.out (by kernel_rfl)) (by decide) (fun K hK => ?_)
             refine Kd.R_lit_step (Kd.int .i64) _ 3 ?hg (N := 72) ?hd (xs := ([rd l1 0, rd l1 (ji31)] : List Int)) (inner := [.int .i64 (rd l1 0), .int .i64 (rd l1 (ji31))]) (ok := fun _ => True) (okp := fun _ => True) ?hr ?hp (fun _ hk => hk) trivial (Below.refl _ _) (Nat.le_refl _) (by simp) ?_; (case hd => rfl); (case hg => rfl); (case hr => first | (go_simp; done) | (go_simp; rfl)); (case hp => exact (Reps.one (show Kd.M (Kd.int .i64) _ _ _ (rd l1 0) [.int .i64 (rd l1 0)] from rfl) (Reps.one (show Kd.M (Kd.int .i64) _ _ _ (rd l1 (ji31)) [.int .i64 (rd l1 (ji31))] from rfl) (Reps.none _ _))))
             intro v116 w36 ho37 hb hg_ hnew_
             clear hg_ hnew_
             (first | rw [← Ny115.out] at ho37 | (simp only [Int.reduceToNat] at ho37; rw [← Ny115.out] at ho37))
             have n0_ := Aside0.mk (Kd.R_elder' (tR HO_5.out) (Kd.R_base ho37) hb)
             have n1_ := Aside0.mk (Kd.R_lower (Kd.R_new' ho37 (Kd.R_lt (tR HO_5.out))) (below_size tB))
             have n2_ := Aside0.mk (below_step tB hb)
             clear HO_5
             clear HB
             have HO_5 := n0_
             have HO117 := n1_
             have HB := n2_
             clear n0_ n1_ n2_
             clear hb ho37
             obtain ⟨Ao38, co38, eo38⟩ := Kd.R_slice HO117.out
             (first | subst eo38 | (injection eo38 with f1_ f2_ f3_; have f4_ := f1_.symm; have f5_ := f3_.symm; clear f1_ f2_ f3_; subst f4_; subst f5_))
             refine hK.out _ _ ⟨((HB.out.cell (World.block_lt_of_cell? w _ hw113_0)).trans hw113_0), ((HB.out.cell (World.block_lt_of_cell? w _ hw114_0)).trans hw114_0)⟩ (fun hHeld => ?_)
             clear hK K
             refine norm_ (a' := ?_) ?_ ?_
             rotate_left
             ·show Act.put _ (some 72) _ = _
              simp only [Act.put, List.setIfInBounds_toArray, List.set_cons_zero, List.set_cons_succ, i64_w, i32_w]
              rfl
             refine one_ (i := 11) (N := some 73) #[true, true, true, true, true, true, true, true, true, true, true, true, false, false, false, false, false] rfl rfl (one_of HT_.out (by kernel_rfl)) (by decide) (fun K hK => ?_)
             refine goes_ Tryd.func66 (by kernel_rfl) rfl #[.slice _ l0.length c0, .slice Ao38 y115.length co38] (by rfl) rfl rfl tL ?_
             with_reducible refine (feature_Bands.calls kj21 _ _ l0 _ _ y115 t118 t119 _ ?side1 ?side2 ?side3 ?side4 A34.out).mono ?_
             (case side1 => exact tC (Kd.C_below HR0.out HB.out))
             (case side2 => exact HC0.out)
             (case side3 => exact tC (Kd.R_reads' HO117.out).2.2)
             (case side4 => exact (Kd.R_reads' HO117.out).2.1)
             rintro e w39 ⟨v120, rfl, ho0, hb⟩
             refine ⟨_, rfl, ?_⟩
             have n0_ := Aside0.mk (Kd.R_elder' (tR HO_5.out) (Kd.R_base ho0) hb)
             have n1_ := Aside0.mk (Kd.R_elder' (tR HO117.out) (Kd.R_base ho0) hb)
             have n2_ := Aside0.mk (Kd.R_lower (Kd.R_new' (Kd.R_new' ho0 (Kd.R_lt (tR HO_5.out))) (Kd.R_lt (tR HO117.out))) (below_size tB))
             have n3_ := Aside0.mk (below_step tB hb)
             clear HO_5
             clear HO117
             clear HB
             have HO_5 := n0_
             have HO117 := n1_
             have HO121 := n2_
             have HB := n3_
             clear n0_ n1_ n2_ n3_
             (try clear hb)
             (try clear hb2)
             (try clear hk)
             (try clear hi)
             (try clear ho0)
             refine hK.out _ _ ⟨((HB.out.cell (World.block_lt_of_cell? w _ hw113_0)).trans hw113_0), ((HB.out.cell (World.block_lt_of_cell? w _ hw114_0)).trans hw114_0)⟩ (fun hHeld => ?_)
             clear hK K
             refine norm_ (a' := ?_) ?_ ?_
             rotate_left
             ·show Act.put _ (some 73) _ = _
              simp only [Act.put, List.setIfInBounds_toArray, List.set_cons_zero, List.set_cons_succ, i64_w, i32_w]
              rfl
             refine pI 12 (some 61) (bm 13 17) HT_.out ?_
             refine pI 13 (some 74) (bm 14 17) HT_.out ?_
             refine pI 14 (some 75) (bm 15 17) HT_.out ?_
             refine pI 15 (some 7) (bm 16 17) HT_.out ?_
             refine pI 16 (some 8) (bm 17 17) HT_.out ?_
             refine done_ (done_of HT_.out (by kernel_rfl)) ?_
             try go_wp2
             go_loopg [9, 10] kj21 (fun kq v9 v10 w' => ∃ (x9_4 : Int) (x10_4 : Int), v9 = .int .i64 x9_4 ∧ v10 = .int .i64 x10_4 ∧ Aside0 (earshotlaw03_FeatureBands.l0 kq t102 t118 t119 x9_4 x10_4 = some r) ∧ Aside0 (kq ≤ kj21) ∧ Aside0 (Kd.R (Kd.int .i64) 3 w' w.heap.size (fun k_ => some k_ ≠ (v120 : Value).ownBlock) v104 t102) ∧ Aside0 (Kd.R (Kd.int .i64) 3 w' w.heap.size (fun k_ => some k_ ≠ (v104 : Value).ownBlock) v120 t118) ∧ Aside0 (Below w.heap.size w w'))
             case atStart => exact ⟨(0), (0), (by first | rfl | (simp; done) | (simp only [i64_w]; done) | (simp [*]; done)), (by first | rfl | (simp; done) | (simp only [i64_w]; done) | (simp [*]; done)), H', ⟨Nat.le_refl _⟩, ⟨by (with_reducible repeat (first | apply Kd.R_alloc | apply Kd.R_drewN | apply Kd.R_drew)); exact Kd.R_mono HO_5.out (fun _ hk => hk.2)⟩, ⟨by (with_reducible repeat (first | apply Kd.R_alloc | apply Kd.R_drewN | apply Kd.R_drew)); exact Kd.R_mono HO121.out (fun _ hk => hk.1.2)⟩, ⟨tB⟩⟩
             case round =>
              clear H'
              try clear c1
              try clear p1
              try clear q1
              try clear hx1
              try clear qi1
              try clear c2
              try clear p2
              try clear c3
              try clear c4
              try clear c4b0
              try clear c4b1
              try clear c5
              try clear c6
              try clear p6
              try clear c11
              try clear c11b0
              try clear c11b1
              try clear p11
              try clear q11
              try clear hx11
              try clear qi11
              try clear c13
              try clear c15
              try clear c16
              try clear c16b0
              try clear c16b1
              try clear c17
              try clear c17b0
              try clear c17b1
              try clear c17b2
              try clear c22
              try clear c23
              try clear c23b0
              try clear c23b1
              try clear c29
              try clear c30
              try clear c30b0
              try clear c30b1
              try clear c32
              try clear c32b0
              try clear c33
              try clear c33b0
              try clear hx113_0
              try clear hx114_0
              try clear p113
              try clear p114
              try clear p2
              try clear q113
              try clear q114
              obtain ⟨x9_4, x10_4, rfl, rfl, HA, HK4, HO_5, HO_7, HB⟩ := hrel
              cases gk with
              | zero => exact absurd HA.out (by simp [earshotlaw03_FeatureBands.l0])
              | succ k4 =>
               have H := HA.out
               clear HA
               simp only [earshotlaw03_FeatureBands.l0] at H
               by_cases c40 : x10_4 < (t102.length : Int)
               ·rw [if_pos c40] at H
                have c40b0 := decide_eq_true c40
                clear c40
                by_cases c41 : 0 ≤ x10_4
                ·rw [if_pos c41] at H
                 have c41b0 := decide_eq_true c41
                 clear c41
                 have H' := Aside0.mk H
                 clear H
                 obtain ⟨Ao42, co42, eo42⟩ := Kd.R_slice HO_5.out
                 subst eo42
                 have p122 : 0 ≤ (x10_4 : Int) := of_decide_eq_true tA
                 have q122 : x10_4 < (t102.length : Int) := of_decide_eq_true tA
                 obtain ⟨ad122, e122, hx122_0⟩ := Kd.at_int (Kd.R_reads' HO_5.out).2.2 x10_4 p122 q122
                 cases e122
                 replace p122 := eq_true p122
                 replace q122 := eq_true q122
                 go_wp2
                 go_roundg k4
                 case measure => have := HJ2.out; have := HJ8.out; have := HJ21.out; have := HK4.out; omega
                 case rel => exact ⟨(wrap64 (x9_4 + (rd t102 x10_4))), (wrap64 (x10_4 + 1)), (by first | rfl | (simp; done) | (simp only [i64_w]; done) | (simp [*]; done)), (by first | rfl | (simp; done) | (simp only [i64_w]; done) | (simp [*]; done)), H', ⟨by have := HJ2.out; have := HJ8.out; have := HJ21.out; have := HK4.out; omega⟩, ⟨tR HO_5.out⟩, ⟨tR HO_7.out⟩, ⟨tB⟩⟩
                ·rw [if_neg c41] at H
                 exact absurd H (by simp)
               ·rw [if_neg c40] at H
                have c40b0 := decide_eq_false c40
                clear c40
                by_cases c43 : t119 = 0
                ·rw [if_pos c43] at H
                 have c43b0 : (t119 == 0) = true := beq_iff_eq.mpr c43
                 have c43b1 : (t119 != 0) = false := bne_eq_false_iff_eq.mpr c43
                 clear c43
                 by_cases c44 : (t118.length : Int) = 1
                 ·rw [if_pos c44] at H
                  have c44b0 : ((t118.length : Int) == 1) = true := beq_iff_eq.mpr c44
                  have c44b1 : ((t118.length : Int) != 1) = false := bne_eq_false_iff_eq.mpr c44
                  clear c44
                  by_cases c45 : 0 < (t118.length : Int)
                  ·rw [if_pos c45] at H
                   have c45b0 := decide_eq_true c45
                   have c45b1 : decide (0 < t118.length) = true := decide_eq_true (by omega)
                   clear c45
                   by_cases c46 : (rd t118 0) = x9_4
                   ·rw [if_pos c46] at H
                    have c46b0 : ((rd t118 0) == x9_4) = true := beq_iff_eq.mpr c46
                    have c46b1 : ((rd t118 0) != x9_4) = false := bne_eq_false_iff_eq.mpr c46
                    clear c46
                    replace H := Option.bind_eq_some_iff.mp H
                    obtain ⟨t124, A470, H⟩ := H
                    try dsimp only at H
                    have A47 := Aside0.mk A470
                    clear A470
                    obtain rfl := Option.some.inj H
                    obtain ⟨Ao48, co48, eo48⟩ := Kd.R_slice HO_5.out
                    subst eo48
                    obtain ⟨Ao49, co49, eo49⟩ := Kd.R_slice HO_7.out
                    subst eo49
                    have p123 : 0 ≤ (0 : Int) := (by omega)
                    have q123 : 0 < (t118.length : Int) := of_decide_eq_true tA
                    obtain ⟨ad123, e123, hx123_0⟩ := Kd.at_int (Kd.R_reads' HO_7.out).2.2 0 p123 q123
                    cases e123
                    have qi123 : (0 < t118.length) = True := eq_true (by omega)
                    (try rw [show ((0 : Int)).toNat = 0 from rfl] at hx123_0)
                    (try rw [Addr.add_zero'] at hx123_0)
                    replace p123 := eq_true p123
                    replace q123 := eq_true q123
                    go_wp2_with (first | (go_at_call 22; (with_reducible refine (earshotlaw03_known.calls k4  t124 _ ?side1 A47.out).mono ?_); (case side1 => exact tC (Kd.C_below HRT.out HB.out)); rintro e w50 ⟨rfl, hb⟩; have n0_ := Aside0.mk (Kd.R_below (tR HO_5.out) hb); have n1_ := Aside0.mk (Kd.R_below (tR HO_7.out) hb); have n2_ := Aside0.mk (below_step tB hb); clear HO_5; clear HO_7; clear HB; have HO_5 := n0_; have HO_7 := n1_; have HB := n2_; clear n0_ n1_ n2_; (try clear hb); (try clear hb2); (try clear hk); (try clear hi)))
                    go_ret
                    exact ⟨by first | rfl | (simp [errW_none, errW_some] <;> rfl) | (simp only [← hji31]; first | rfl | (simp [errW_none, errW_some] <;> rfl)) | (simp [*, errW_none, errW_some] <;> rfl), tB⟩
                   ·rw [if_neg c46] at H
                    have c46b0 : ((rd t118 0) == x9_4) = false := beq_eq_false_iff_ne.mpr c46
                    have c46b1 : ((rd t118 0) != x9_4) = true := bne_iff_ne.mpr c46
                    obtain rfl := Option.some.inj H
                    obtain ⟨Ao51, co51, eo51⟩ := Kd.R_slice HO_5.out
                    subst eo51
                    obtain ⟨Ao52, co52, eo52⟩ := Kd.R_slice HO_7.out
                    subst eo52
                    have p123 : 0 ≤ (0 : Int) := (by omega)
                    have q123 : 0 < (t118.length : Int) := of_decide_eq_true tA
                    obtain ⟨ad123, e123, hx123_0⟩ := Kd.at_int (Kd.R_reads' HO_7.out).2.2 0 p123 q123
                    cases e123
                    have qi123 : (0 < t118.length) = True := eq_true (by omega)
                    (try rw [show ((0 : Int)).toNat = 0 from rfl] at hx123_0)
                    (try rw [Addr.add_zero'] at hx123_0)
                    replace p123 := eq_true p123
                    replace q123 := eq_true q123
                    go_wp2
                    go_ret
                    exact ⟨by first | rfl | (simp [errW_none, errW_some] <;> rfl) | (simp only [← hji31]; first | rfl | (simp [errW_none, errW_some] <;> rfl)) | (simp [*, errW_none, errW_some] <;> rfl), tB⟩
                  ·rw [if_neg c45] at H
                   exact absurd H (by simp)
                 ·rw [if_neg c44] at H
                  have c44b0 : ((t118.length : Int) == 1) = false := beq_eq_false_iff_ne.mpr c44
                  have c44b1 : ((t118.length : Int) != 1) = true := bne_iff_ne.mpr c44
                  obtain rfl := Option.some.inj H
                  obtain ⟨Ao53, co53, eo53⟩ := Kd.R_slice HO_5.out
                  subst eo53
                  obtain ⟨Ao54, co54, eo54⟩ := Kd.R_slice HO_7.out
                  subst eo54
                  go_wp2
                  go_ret
                  exact ⟨by first | rfl | (simp [errW_none, errW_some] <;> rfl) | (simp only [← hji31]; first | rfl | (simp [errW_none, errW_some] <;> rfl)) | (simp [*, errW_none, errW_some] <;> rfl), tB⟩
                ·rw [if_neg c43] at H
                 have c43b0 : (t119 == 0) = false := beq_eq_false_iff_ne.mpr c43
                 have c43b1 : (t119 != 0) = true := bne_iff_ne.mpr c43
                 obtain rfl := Option.some.inj H
                 obtain ⟨Ao55, co55, eo55⟩ := Kd.R_slice HO_5.out
                 subst eo55
                 go_wp2
                 go_ret
                 exact ⟨by first | rfl | (simp [errW_none, errW_some] <;> rfl) | (simp only [← hji31]; first | rfl | (simp [errW_none, errW_some] <;> rfl)) | (simp [*, errW_none, errW_some] <;> rfl), tB⟩
            ·rw [if_neg c33] at H
             exact absurd H (by simp)
           ·rw [if_neg c32] at H
            exact absurd H (by simp)
          ·rw [if_neg c30] at H
           exact absurd H (by simp)

/-- THE ONE PURE STATEMENT of earshotlaw03_FeatureBands: yours. -/
def earshotlaw03_FeatureBands.Pure : Prop := ∀ (l0 : List Int) (l1 : List Int), l0.length ≤ maxLen → l0.length * 8 ≤ 140737488351232 → (∀ x ∈ l0, (Lit.int .i64 x).wf = true) → l1.length ≤ maxLen → l1.length * 8 ≤ 140737488351232 → (∀ x ∈ l1, (Lit.int .i64 x).wf = true) → ∃ k, earshotlaw03_FeatureBands.f k l0 l1 = some true
theorem earshotlaw03_FeatureBands.walk (P : earshotlaw03_FeatureBands.Pure) (a0 : Option Addr) (len0 cap0 : Nat) (z0 : List Int) (a1 : Option Addr) (len1 cap1 : Nat) (z1 : List Int) (w : World) (ht : Kd.C (Kd.int .i64) w (some ⟨0, 0, none⟩) 65 tabL) (w0 : (a0 = none ∧ len0 = 0 ∧ cap0 = 0 ∧ z0 = []) ∨ ∃ x, a0 = some x ∧ len0 ≤ cap0 ∧ cap0 ≤ maxLen ∧ z0.length = cap0 ∧ (∀ i, i < z0.length → w.cell? (x.add i) = some (.int .i64 (z0.getD i 0))) ∧ ∀ n ∈ z0, (Lit.int .i64 n).wf = true) (y0 : len0 * 8 ≤ 140737488351232) (w1 : (a1 = none ∧ len1 = 0 ∧ cap1 = 0 ∧ z1 = []) ∨ ∃ x, a1 = some x ∧ len1 ≤ cap1 ∧ cap1 ≤ maxLen ∧ z1.length = cap1 ∧ (∀ i, i < z1.length → w.cell? (x.add i) = some (.int .i64 (z1.getD i 0))) ∧ ∀ n ∈ z1, (Lit.int .i64 n).wf = true) (y1 : len1 * 8 ≤ 140737488351232) :
  Calls Tryd.prog 16 #[.slice a0 len0 cap0, .slice a1 len1 cap1] w fun e w' => e = .returned (.bool true) ∧ Below w.heap.size w w' := by
 obtain ⟨l0, rfl, hr0, hm0, hw0, hc0⟩ := ReadsInt.ofRowC w0
 obtain ⟨l1, rfl, hr1, hm1, hw1, hc1⟩ := ReadsInt.ofRowC w1
 obtain ⟨k, h⟩ := P l0 l1 hm0 y0 hw0 hm1 y1 hw1
 refine (earshotlaw03_FeatureBands.calls k _ _ l0 _ _ l1 true w ht (Kd.C_of_reads (d := (0 : Int)) (h1 := fun _ => rfl) hr0) hc0 (Kd.C_of_reads (d := (0 : Int)) (h1 := fun _ => rfl) hr1) hc1 h).mono ?_
 rintro e w' ⟨rfl, hd⟩
 exact ⟨rfl, hd⟩

/-! ### earshotref03_Length: function 24 -/
def earshotref03_Length.f (a0 : Int) : Option (Bool) := if a0 = 1 then (some true) else (if a0 = 2 then (some true) else (if a0 = 4 then (some true) else (if a0 = 8 then (some true) else (if a0 = 16 then (some true) else (if a0 = 32 then (some true) else (some (a0 == 64)))))))
set_option maxHeartbeats 8000000 in
set_option maxRecDepth 100000 in
theorem earshotref03_Length.calls (a0 : Int) (r : Bool) (w : World) (h : earshotref03_Length.f a0 = some r) :
  Calls Tryd.prog 24 #[.int .i64 a0] w fun e w' => e = .returned (.bool r) ∧ Drawn0 w w' := by
 have H : (if a0 = 1 then (some true) else (if a0 = 2 then (some true) else (if a0 = 4 then (some true) else (if a0 = 8 then (some true) else (if a0 = 16 then (some true) else (if a0 = 32 then (some true) else (some (a0 == 64)))))))) = some r := h
 clear h
 by_cases c2 : a0 = 1
 ·rw [if_pos c2] at H
  have c2b0 : (a0 == 1) = true := beq_iff_eq.mpr c2
  have c2b1 : (a0 != 1) = false := bne_eq_false_iff_eq.mpr c2
  clear c2
  obtain rfl := Option.some.inj H
  go_enter Tryd.func24, Tryd.ntmps24
  go_wp2
  go_ret
  exact ⟨by first | rfl | (simp; done) | (simp [*]; done), by repeat (first | exact Drawn0.refl _ | apply Drawn0.step)⟩
 ·rw [if_neg c2] at H
  have c2b0 : (a0 == 1) = false := beq_eq_false_iff_ne.mpr c2
  have c2b1 : (a0 != 1) = true := bne_iff_ne.mpr c2
  by_cases c3 : a0 = 2
  ·rw [if_pos c3] at H
   have c3b0 : (a0 == 2) = true := beq_iff_eq.mpr c3
   have c3b1 : (a0 != 2) = false := bne_eq_false_iff_eq.mpr c3
   clear c3
   obtain rfl := Option.some.inj H
   go_enter Tryd.func24, Tryd.ntmps24
   go_wp2
   go_ret
   exact ⟨by first | rfl | (simp; done) | (simp [*]; done), by repeat (first | exact Drawn0.refl _ | apply Drawn0.step)⟩
  ·rw [if_neg c3] at H
   have c3b0 : (a0 == 2) = false := beq_eq_false_iff_ne.mpr c3
   have c3b1 : (a0 != 2) = true := bne_iff_ne.mpr c3
   by_cases c4 : a0 = 4
   ·rw [if_pos c4] at H
    have c4b0 : (a0 == 4) = true := beq_iff_eq.mpr c4
    have c4b1 : (a0 != 4) = false := bne_eq_false_iff_eq.mpr c4
    clear c4
    obtain rfl := Option.some.inj H
    go_enter Tryd.func24, Tryd.ntmps24
    go_wp2
    go_ret
    exact ⟨by first | rfl | (simp; done) | (simp [*]; done), by repeat (first | exact Drawn0.refl _ | apply Drawn0.step)⟩
   ·rw [if_neg c4] at H
    have c4b0 : (a0 == 4) = false := beq_eq_false_iff_ne.mpr c4
    have c4b1 : (a0 != 4) = true := bne_iff_ne.mpr c4
    by_cases c5 : a0 = 8
    ·rw [if_pos c5] at H
     have c5b0 : (a0 == 8) = true := beq_iff_eq.mpr c5
     have c5b1 : (a0 != 8) = false := bne_eq_false_iff_eq.mpr c5
     clear c5
     obtain rfl := Option.some.inj H
     go_enter Tryd.func24, Tryd.ntmps24
     go_wp2
     go_ret
     exact ⟨by first | rfl | (simp; done) | (simp [*]; done), by repeat (first | exact Drawn0.refl _ | apply Drawn0.step)⟩
    ·rw [if_neg c5] at H
     have c5b0 : (a0 == 8) = false := beq_eq_false_iff_ne.mpr c5
     have c5b1 : (a0 != 8) = true := bne_iff_ne.mpr c5
     by_cases c6 : a0 = 16
     ·rw [if_pos c6] at H
      have c6b0 : (a0 == 16) = true := beq_iff_eq.mpr c6
      have c6b1 : (a0 != 16) = false := bne_eq_false_iff_eq.mpr c6
      clear c6
      obtain rfl := Option.some.inj H
      go_enter Tryd.func24, Tryd.ntmps24
      go_wp2
      go_ret
      exact ⟨by first | rfl | (simp; done) | (simp [*]; done), by repeat (first | exact Drawn0.refl _ | apply Drawn0.step)⟩
     ·rw [if_neg c6] at H
      have c6b0 : (a0 == 16) = false := beq_eq_false_iff_ne.mpr c6
      have c6b1 : (a0 != 16) = true := bne_iff_ne.mpr c6
      by_cases c7 : a0 = 32
      ·rw [if_pos c7] at H
       have c7b0 : (a0 == 32) = true := beq_iff_eq.mpr c7
       have c7b1 : (a0 != 32) = false := bne_eq_false_iff_eq.mpr c7
       clear c7
       obtain rfl := Option.some.inj H
       go_enter Tryd.func24, Tryd.ntmps24
       go_wp2
       go_ret
       exact ⟨by first | rfl | (simp; done) | (simp [*]; done), by repeat (first | exact Drawn0.refl _ | apply Drawn0.step)⟩
      ·rw [if_neg c7] at H
       have c7b0 : (a0 == 32) = false := beq_eq_false_iff_ne.mpr c7
       have c7b1 : (a0 != 32) = true := bne_iff_ne.mpr c7
       obtain rfl := Option.some.inj H
       go_enter Tryd.func24, Tryd.ntmps24
       go_wp2
       go_ret
       exact ⟨by first | rfl | (simp; done) | (simp [*]; done), by repeat (first | exact Drawn0.refl _ | apply Drawn0.step)⟩

/-! ### earshotref02_Round: function 83 -/
def earshotref02_Round.f : Nat → Int → Int → Option (Int)
 | 0, _, _ => none
 | k + 1, a0, a1 => if a0 < 0 then ((earshotref02_Round.f k (wrap64 (-a0)) a1).bind fun t101 => (some (wrap64 (-t101)))) else (if (wrap64 (2 * a1)) = 0 then (none) else (some (wrap64 (Int.tdiv (wrap64 ((wrap64 (2 * a0)) + a1)) (wrap64 (2 * a1))))))
theorem earshotref02_Round.mono_l : ∀ k, (∀ y0 y1, LeO (earshotref02_Round.f k y0 y1) (earshotref02_Round.f (k + 1) y0 y1))
 | 0 => fun _ _ r h => by simp [earshotref02_Round.f] at h
 | k + 1 => by
  have ih0 := earshotref02_Round.mono_l k
  ·intro y0 y1
   unfold earshotref02_Round.f
   repeat' first
   | (with_reducible exact ih0 _ _)
   | (with_reducible exact LeO.refl _)
   | (with_reducible exact LeO.none _)
   | (with_reducible refine LeO.ite ?_ ?_)
   | (with_reducible refine LeO.bind ?_ (fun _ => ?_))
   | exact ih0 _ _
   | exact LeO.none _
   | refine LeO.ite ?_ ?_
   | refine LeO.bind ?_ (fun _ => ?_)
theorem earshotref02_Round.mono : ∀ a0 a1 k, LeO (earshotref02_Round.f k a0 a1) (earshotref02_Round.f (k + 1) a0 a1) := by
 intro a0 a1 k
 have ih0 := earshotref02_Round.mono_l k
 exact ih0 a0 a1
set_option maxHeartbeats 8000000 in
set_option maxRecDepth 100000 in
theorem earshotref02_Round.calls (k : Nat) : ∀ (a0 : Int) (a1 : Int) (r : Int) (w : World) (h : earshotref02_Round.f k a0 a1 = some r),
  Calls Tryd.prog 83 #[.int .i64 a0, .int .i64 a1] w fun e w' => e = .returned (.int .i64 r) ∧ Drawn0 w w' := by
 induction k using Nat.strongRecOn with
 | _ k ih =>
 intro a0 a1 r w h
 cases k with
 | zero => exact absurd h (by simp [earshotref02_Round.f])
 | succ k =>
 simp only [earshotref02_Round.f] at h
 have H : (if a0 < 0 then ((earshotref02_Round.f k (wrap64 (-a0)) a1).bind fun t101 => (some (wrap64 (-t101)))) else (if (wrap64 (2 * a1)) = 0 then (none) else (some (wrap64 (Int.tdiv (wrap64 ((wrap64 (2 * a0)) + a1)) (wrap64 (2 * a1))))))) = some r := h
 clear h
 by_cases c3 : a0 < 0
 ·rw [if_pos c3] at H
  have c3b0 := decide_eq_true c3
  clear c3
  replace H := Option.bind_eq_some_iff.mp H
  obtain ⟨t101, A40, H⟩ := H
  try dsimp only at H
  have A4 := Aside0.mk A40
  clear A40
  obtain rfl := Option.some.inj H
  go_enter Tryd.func83, Tryd.ntmps83
  go_wp2_with (first | ((with_reducible refine gate_callee (f := 83) rfl ?_); refine goesL_ (some 10) rfl rfl Tryd.func83 (by kernel_rfl) rfl #[.int .i64 (wrap64 (-a0)), .int .i64 a1] rfl tL ?_; (with_reducible refine (ih k (by omega) (wrap64 (-a0)) a1 t101 _ A4.out).mono ?_); rintro e w' ⟨rfl, ⟨nd, rfl⟩⟩; refine ⟨_, rfl, ?_⟩))
  go_ret
  exact ⟨by first | rfl | (simp; done) | (simp [*]; done), by repeat (first | exact Drawn0.refl _ | apply Drawn0.step)⟩
 ·rw [if_neg c3] at H
  have c3b0 := decide_eq_false c3
  clear c3
  by_cases c5 : (wrap64 (2 * a1)) = 0
  ·rw [if_pos c5] at H
   exact absurd H (by simp)
  ·rw [if_neg c5] at H
   have c5b0 : ((wrap64 (2 * a1)) == 0) = false := beq_eq_false_iff_ne.mpr c5
   have c5b1 : ((wrap64 (2 * a1)) != 0) = true := bne_iff_ne.mpr c5
   obtain rfl := Option.some.inj H
   go_enter Tryd.func83, Tryd.ntmps83
   go_wp2
   go_ret
   exact ⟨by first | rfl | (simp; done) | (simp [*]; done), by repeat (first | exact Drawn0.refl _ | apply Drawn0.step)⟩

end Go.Proofs.YtdlbmbijobcljaaDoor.X

namespace Go.Proofs.YtdlbmbijobcljaaDoor.Pure
open Go.RowKit Go.Proofs.YtdlbmbijobcljaaDoor.X Go.Proofs.YtdlbmbijobcljaaDoorW.PrintWords Go.Proofs.YtdlbmbijobcljaaDoorW.PrintLast
set_option linter.unusedVariables false
set_option linter.unusedSimpArgs false
theorem w64 {n : Int} (h0 : -9223372036854775808 ≤ n) (h1 : n ≤ 9223372036854775807) : wrap64 n = n := by unfold wrap64; omega
/-- The nearest integer of x/d, halves away from zero. -/
def rnd (x d : Int) : Int := if x < 0 then -((2 * (-x) + d) / (2 * d)) else (2 * x + d) / (2 * d)
theorem rnd_abs_le (x d b : Int) (hd : 0 < d) (h0 : -(b * d) ≤ x) (h1 : x ≤ b * d) : -b ≤ rnd x d ∧ rnd x d ≤ b := by
  have key : ∀ y : Int, 0 ≤ y → y ≤ b * d → 0 ≤ (2 * y + d) / (2 * d) ∧ (2 * y + d) / (2 * d) ≤ b := by
    intro y hy hyb
    refine ⟨Int.ediv_nonneg (by omega) (by omega), ?_⟩
    have : (2 * y + d) / (2 * d) < b + 1 := by
      apply Int.ediv_lt_of_lt_mul (by omega)
      have : (b + 1) * (2 * d) = 2 * (b * d) + 2 * d := by rw [Int.add_mul, Int.mul_left_comm]; omega
      omega
    omega
  unfold rnd
  split
  · have := key (-x) (by omega) (by omega)
    omega
  · have := key x (by omega) (by omega)
    omega
theorem round_pos (x d : Int) (hx : 0 ≤ x) (hx1 : x ≤ 4611686018427387903) (hd : 0 < d) (hd1 : d ≤ 1099511627776) (hs : 2 * x + d ≤ 9223372036854775807) (k : Nat) : earshotref02_Round.f (k + 1) x d = some ((2 * x + d) / (2 * d)) := by
  unfold earshotref02_Round.f
  rw [if_neg (by omega), w64 (n := 2 * d) (by omega) (by omega), if_neg (by omega), w64 (n := 2 * x) (by omega) (by omega), w64 (n := 2 * x + d) (by omega) (by omega), Int.tdiv_eq_ediv_of_nonneg (by omega)]
  have h0 : 0 ≤ (2 * x + d) / (2 * d) := Int.ediv_nonneg (by omega) (by omega)
  have h1 : (2 * x + d) / (2 * d) ≤ 2 * x + d := Int.ediv_le_self _ (by omega)
  rw [w64 (by omega) (by omega)]
theorem round_ev (x d : Int) (hx0 : -4611686018427387903 ≤ x) (hx1 : x ≤ 4611686018427387903) (hd : 0 < d) (hd1 : d ≤ 1099511627776) (hs0 : -(2 * x) + d ≤ 9223372036854775807) (hs : 2 * x + d ≤ 9223372036854775807) : Ev (fun k => earshotref02_Round.f k x d) (rnd x d) := by
  refine ⟨2, fun k hk => ?_⟩
  obtain ⟨m, rfl⟩ : ∃ m, k = m + 2 := ⟨k - 2, by omega⟩
  by_cases h : x < 0
  · have h2 : 0 ≤ (2 * (-x) + d) / (2 * d) := Int.ediv_nonneg (by omega) (by omega)
    have h3 : (2 * (-x) + d) / (2 * d) ≤ 2 * (-x) + d := Int.ediv_le_self _ (by omega)
    show earshotref02_Round.f (m + 1 + 1) x d = _
    rw [earshotref02_Round.f, if_pos h, w64 (by omega) (by omega), round_pos (-x) d (by omega) (by omega) hd hd1 (by omega), Option.bind_some, w64 (by omega) (by omega)]
    unfold rnd
    rw [if_pos h]
  · show earshotref02_Round.f (m + 1 + 1) x d = _
    rw [round_pos x d (by omega) hx1 hd hd1 hs]
    unfold rnd
    rw [if_neg h]
theorem far_pos (x d : Int) (hx : 0 ≤ x) (hx1 : x ≤ 4611686018427387903) (hd : 0 < d) (hd1 : d ≤ 1099511627776) (k : Nat) : feature_far.f (k + 1) x d = some ((2 * x + d) / (2 * d)) := by
  rw [feature_far.f, if_neg (by omega), if_neg (by omega), Int.tdiv_eq_ediv_of_nonneg hx, Int.tmod_eq_emod_of_nonneg hx]
  have h0 := Int.emod_nonneg x (by omega : d ≠ 0)
  have h1 := Int.emod_lt_of_pos x hd
  have h2 := Int.mul_ediv_add_emod x d
  have h3 : 0 ≤ x / d := Int.ediv_nonneg hx (by omega)
  have h4 : x / d ≤ x := Int.ediv_le_self _ hx
  rw [w64 (n := d - x % d) (by omega) (by omega)]
  have e : 2 * x + d = (2 * (x % d) + d) + (x / d) * (2 * d) := by
    have : (x / d) * (2 * d) = 2 * (d * (x / d)) := by rw [Int.mul_left_comm, Int.mul_comm (x / d) d]
    omega
  have e2 : (2 * x + d) / (2 * d) = (2 * (x % d) + d) / (2 * d) + x / d := by rw [e, Int.add_mul_ediv_right _ _ (by omega : 2 * d ≠ 0)]
  by_cases hc : x % d ≥ d - x % d
  · rw [if_pos hc, w64 (n := x / d) (by omega) (by omega), w64 (n := x / d + 1) (by omega) (by omega), e2]
    have : (2 * (x % d) + d) / (2 * d) = 1 := by
      have a1 : 1 ≤ (2 * (x % d) + d) / (2 * d) := by rw [Int.le_ediv_iff_mul_le (by omega)]; omega
      have a2 : (2 * (x % d) + d) / (2 * d) < 2 := Int.ediv_lt_of_lt_mul (by omega) (by omega)
      omega
    rw [this, Int.add_comm]
  · rw [if_neg hc, w64 (n := x / d) (by omega) (by omega), e2, (Int.ediv_eq_zero_of_lt (by omega) (by omega) : (2 * (x % d) + d) / (2 * d) = 0), Int.zero_add]
theorem far_ev (x d : Int) (hx0 : -4611686018427387903 ≤ x) (hx1 : x ≤ 4611686018427387903) (hd : 0 < d) (hd1 : d ≤ 1099511627776) : Ev (fun k => feature_far.f k x d) (rnd x d) := by
  refine ⟨2, fun k hk => ?_⟩
  obtain ⟨m, rfl⟩ : ∃ m, k = m + 2 := ⟨k - 2, by omega⟩
  by_cases h : x < 0
  · have h2 : 0 ≤ (2 * (-x) + d) / (2 * d) := Int.ediv_nonneg (by omega) (by omega)
    have h3 : (2 * (-x) + d) / (2 * d) ≤ (-x) := by
      have : (2 * (-x) + d) / (2 * d) < (-x) + 1 := by
        apply Int.ediv_lt_of_lt_mul (by omega)
        have e : (-x + 1) * (2 * d) = 2 * ((-x) * d) + 2 * d := by rw [Int.add_mul, Int.mul_left_comm]; omega
        have : (-x) * 1 ≤ (-x) * d := Int.mul_le_mul_of_nonneg_left (by omega) (by omega)
        omega
      omega
    show feature_far.f (m + 1 + 1) x d = _
    rw [feature_far.f, if_pos h, w64 (by omega) (by omega), far_pos (-x) d (by omega) (by omega) hd hd1, Option.bind_some, w64 (by omega) (by omega)]
    unfold rnd
    rw [if_pos h]
  · show feature_far.f (m + 1 + 1) x d = _
    rw [far_pos x d (by omega) hx1 hd hd1]
    unfold rnd
    rw [if_neg h]
/-- Is it a length of a transform? -/
def isLen (n : Nat) : Bool := n == 1 || n == 2 || n == 4 || n == 8 || n == 16 || n == 32 || n == 64
theorem possible_small : ∀ n : Nat, n < 200 → feature_possible.f (n : Int) = some (isLen n) := by decide +kernel
theorem length_small : ∀ n : Nat, n < 200 → earshotref03_Length.f (n : Int) = some (isLen n) := by decide +kernel
theorem possible_at (n : Nat) : feature_possible.f (n : Int) = some (isLen n) := by
  by_cases h : n < 200
  · exact possible_small n h
  · unfold feature_possible.f
    rw [if_pos (by omega), if_neg (by omega)]
    have : isLen n = false := by simp only [isLen, Bool.or_eq_false_iff, beq_eq_false_iff_ne]; omega
    rw [this]
theorem length_at (n : Nat) : earshotref03_Length.f (n : Int) = some (isLen n) := by
  by_cases h : n < 200
  · exact length_small n h
  · unfold earshotref03_Length.f
    rw [if_neg (by omega), if_neg (by omega), if_neg (by omega), if_neg (by omega), if_neg (by omega), if_neg (by omega)]
    have : isLen n = false := by simp only [isLen, Bool.or_eq_false_iff, beq_eq_false_iff_ne]; omega
    have e : ((n : Int) == 64) = false := by simp only [beq_eq_false_iff_ne]; omega
    rw [this, e]
theorem isLen_dvd (n : Nat) (h : isLen n = true) : 0 < n ∧ n ≤ 64 ∧ (n : Int) * ((64 : Int) / n) = 64 ∧ 1 ≤ (64 : Int) / n ∧ (64 : Int) / n ≤ 64 := by
  simp only [isLen, Bool.or_eq_true, beq_iff_eq] at h
  rcases h with ((((((h | h) | h) | h) | h) | h) | h) <;> subst h <;> decide
/-- All within bounds. -/
def allIn (l : List Int) (a b : Int) : Bool := l.all fun x => decide (a ≤ x) && decide (x ≤ b)
theorem rd_nat (l : List Int) (j : Nat) : rd l (j : Int) = l.getD j 0 := by unfold rd; rw [Int.toNat_natCast]
theorem all_ev (l : List Int) (a b : Int) (hl : l.length ≤ 4611686018427387904) : Ev (fun k => earshotref02_All.f k l a b) (allIn l a b) := by
  have key : ∀ r j : Nat, j + r = l.length → Ev (fun k => earshotref02_All.l0 k l a b (j : Int)) (allIn (l.drop j) a b) := by
    intro r
    induction r with
    | zero =>
      intro j hj
      refine ⟨1, fun k hk => ?_⟩
      obtain ⟨m, rfl⟩ : ∃ m, k = m + 1 := ⟨k - 1, by omega⟩
      simp only [earshotref02_All.l0]
      rw [if_neg (by omega), List.drop_of_length_le (by omega)]
      rfl
    | succ r ih =>
      intro j hj
      have hjl : j < l.length := by omega
      have e : l.drop j = l[j] :: l.drop (j + 1) := List.drop_eq_getElem_cons hjl
      have er : rd l (j : Int) = l[j] := by rw [rd_nat, List.getD_eq_getElem?_getD, List.getElem?_eq_getElem hjl]; rfl
      obtain ⟨K, hK⟩ := ih (j + 1) (by omega)
      refine ⟨K + 1, fun k hk => ?_⟩
      obtain ⟨m, rfl⟩ : ∃ m, k = m + 1 := ⟨k - 1, by omega⟩
      simp only [earshotref02_All.l0]
      rw [if_pos (by omega), if_pos (by omega), er, e]
      by_cases h1 : l[j] < a
      · rw [if_pos h1]
        simp only [allIn, List.all_cons, (by simpa using h1 : decide (a ≤ l[j]) = false), Bool.false_and]
      · rw [if_neg h1]
        by_cases h2 : l[j] > b
        · rw [if_pos h2]
          simp only [allIn, List.all_cons, (by simpa using h2 : decide (l[j] ≤ b) = false), Bool.and_false, Bool.false_and]
        · rw [if_neg h2, w64 (by omega) (by omega)]
          have : earshotref02_All.l0 m l a b ((j + 1 : Nat) : Int) = some (allIn (l.drop (j + 1)) a b) := hK m (by omega)
          rw [show (j : Int) + 1 = ((j + 1 : Nat) : Int) by omega, this]
          simp only [allIn, List.all_cons, (by simp; omega : decide (a ≤ l[j]) = true), (by simp; omega : decide (l[j] ≤ b) = true), Bool.true_and]
  exact key l.length 0 (by omega)
theorem within_at (l : List Int) (b : Int) (h0 : 0 ≤ b) (h1 : b ≤ 9223372036854775807) : feature_within.f l b = some (allIn l (-b) b) := by
  unfold feature_within.f allIn
  congr 1
  rw [List.not_any_eq_all_not]
  congr 1
  funext x
  unfold beyond
  rw [w64 (by omega) (by omega)]
  by_cases h1 : x < -b <;> by_cases h2 : b < x <;> simp [h1, h2] <;> omega
theorem same_ev (l m : List Int) (hlm : l = m) (hl : l.length ≤ 4611686018427387904) : Ev (fun k => earshotref02_Same.f k l m) true := by
  subst hlm
  have key : ∀ r j : Nat, j + r = l.length → Ev (fun k => earshotref02_Same.l0 k l l (j : Int)) true := by
    intro r
    induction r with
    | zero =>
      intro j hj
      refine ⟨1, fun k hk => ?_⟩
      obtain ⟨m, rfl⟩ : ∃ m, k = m + 1 := ⟨k - 1, by omega⟩
      simp only [earshotref02_Same.l0]
      rw [if_neg (by omega)]
    | succ r ih =>
      intro j hj
      obtain ⟨K, hK⟩ := ih (j + 1) (by omega)
      refine ⟨K + 1, fun k hk => ?_⟩
      obtain ⟨m, rfl⟩ : ∃ m, k = m + 1 := ⟨k - 1, by omega⟩
      simp only [earshotref02_Same.l0]
      rw [if_pos (by omega), if_pos (by omega), if_pos (by omega), if_pos trivial, w64 (by omega) (by omega), show (j : Int) + 1 = ((j + 1 : Nat) : Int) by omega]
      exact hK m (by omega)
  refine Ev.congr (fun k => ?_) (key l.length 0 (by omega))
  unfold earshotref02_Same.f
  rw [if_pos rfl]
  rfl
theorem cosv_range (j : Int) : -16384 ≤ cosv j ∧ cosv j ≤ 16384 := by
  unfold cosv
  have a := tab_range (j % 256); have b := tab_range (128 - j % 256); have c := tab_range (j % 256 - 128); have d := tab_range (256 - j % 256)
  split
  · omega
  · split
    · omega
    · split <;> omega
end Go.Proofs.YtdlbmbijobcljaaDoor.Pure

namespace Go.Proofs.YtdlbmbijobcljaaDoor.X
open Go.RowKit Go.Proofs.YtdlbmbijobcljaaDoorW.PrintWords Go.Proofs.YtdlbmbijobcljaaDoorW.PrintLast Go.Proofs.YtdlbmbijobcljaaDoorW.PrintMore
attribute [local go_sem] max2_int min2_int max_two min_two max_three min_three max_four min_four   -- for this text's walks alone
set_option linter.unusedVariables false
set_option linter.unusedSimpArgs false
/-! ### earshotref03_Vectors: function 61 -/
def earshotref03_Vectors.l0 : Nat → List (List Int) → Int → Option (Bool)
 | 0, _, _ => none
 | k + 1, x0, x3 => if x3 < (x0.length : Int) then (if 0 ≤ x3 then (if ((rd_L2 x0 x3).length : Int) < 1 then (some false) else (if ((rd_L2 x0 x3).length : Int) > 64 then (some false) else (if 0 < (x0.length : Int) then (if ((rd_L2 x0 x3).length : Int) = ((rd_L2 x0 0).length : Int) then ((earshotref02_All.f k (rd_L2 x0 x3) (-1048576) 1048576).bind fun t106 => (if t106 = true then (earshotref03_Vectors.l0 k x0 (wrap64 (x3 + 1))) else (some false))) else (some false)) else (none)))) else (none)) else (some true)
def earshotref03_Vectors.f (k : Nat) (l0 : List (List Int)) : Option (Bool) := earshotref03_Vectors.l0 k l0 0
theorem earshotref03_Vectors.mono_l : ∀ k, (∀ y0 y1, LeO (earshotref03_Vectors.l0 k y0 y1) (earshotref03_Vectors.l0 (k + 1) y0 y1))
 | 0 => fun _ _ r h => by simp [earshotref03_Vectors.l0] at h
 | k + 1 => by
  have ih0 := earshotref03_Vectors.mono_l k
  ·intro y0 y1
   unfold earshotref03_Vectors.l0
   repeat' first
   | (with_reducible exact ih0 _ _)
   | (with_reducible exact earshotref02_All.mono _ _ _ _)
   | (with_reducible exact LeO.refl _)
   | (with_reducible exact LeO.none _)
   | (with_reducible refine LeO.ite ?_ ?_)
   | (with_reducible refine LeO.bind ?_ (fun _ => ?_))
   | exact ih0 _ _
   | exact earshotref02_All.mono _ _ _ _
   | exact LeO.none _
   | refine LeO.ite ?_ ?_
   | refine LeO.bind ?_ (fun _ => ?_)
theorem earshotref03_Vectors.mono : ∀ a0 k, LeO (earshotref03_Vectors.f k a0) (earshotref03_Vectors.f (k + 1) a0) := by
 intro a0 k
 have ih0 := earshotref03_Vectors.mono_l k
 unfold earshotref03_Vectors.f
 repeat' first
   | (with_reducible exact ih0 _ _)
   | (with_reducible exact earshotref02_All.mono _ _ _ _)
   | (with_reducible exact LeO.refl _)
   | (with_reducible exact LeO.none _)
   | (with_reducible refine LeO.ite ?_ ?_)
   | (with_reducible refine LeO.bind ?_ (fun _ => ?_))
   | exact ih0 _ _
   | exact earshotref02_All.mono _ _ _ _
   | exact LeO.none _
   | refine LeO.ite ?_ ?_
   | refine LeO.bind ?_ (fun _ => ?_)
def earshotref03_Vectors.T4 : Bool × List (List Nat × List Nat) := (true, [([], []), ([], []), ([0, 1], [0, 1]), ([2], [2]), ([3], [3]), ([4], [4]), ([5], [5]), ([6], [6]), ([6], [6]), ([7, 8, 6], [6, 7, 8]), ([9, 6], [6, 9]), ([10, 6], [6, 10]), ([11, 6], [6, 11]), ([6, 12], [6, 12]), ([13, 6], [13]), ([14], [14]), ([14], [14]), ([15, 16, 14], [14, 15, 16]), ([17, 14], [14, 17]), ([18, 14], [14, 18]), ([14], [14]), ([20, 14], [14, 20]), ([21, 14], [14, 21]), ([22, 14], [14, 22]), ([19, 23, 14], [14, 19, 23]), ([14, 24], [14, 24]), ([25, 14], [25]), ([26], [26]), ([26], [26]), ([27, 28, 26], [26, 27, 28]), ([29, 26], [26, 29]), ([30, 26, 26], [26, 30]), ([31, 26], [26, 31]), ([26, 32], [26, 32])])
def earshotref03_Vectors.B4 : List Nat := [0, 0, 3, 7, 15, 31, 63, 127, 127, 511, 1023, 2047, 4095, 8191, 16383, 32767, 32767, 131071, 262143, 524287, 32767, 1081343, 3178495, 7372799, 16777215, 33554431, 67108863, 134217727, 134217727, 536870911, 1073741823, 2147483647, 4294967295, 8589934591]
theorem earshotref03_Vectors.tab4 : rtab .any (opsOf Tryd.f61 4) = earshotref03_Vectors.T4 := by kernel_rfl
theorem earshotref03_Vectors.bits4 : waitsOk earshotref03_Vectors.T4.2 earshotref03_Vectors.B4 = true := by kernel_rfl
set_option maxHeartbeats 8000000 in
set_option maxRecDepth 100000 in
theorem earshotref03_Vectors.calls (k : Nat) (A0 : Option Addr) (c0 : Nat) (l0 : List (List Int)) (r : Bool) (w : World) (hr0 : Kd.C (Kd.slice 3 (Kd.int .i64)) w A0 l0.length l0) (hc0 : l0.length ≤ c0) (h : earshotref03_Vectors.f k l0 = some r) :
  Calls Tryd.prog 61 #[.slice A0 l0.length c0] w fun e w' => e = .returned (.bool r) ∧ Below w.heap.size w w' := by
 have HR0 := Aside0.mk hr0
 have HC0 := Aside0.mk hc0
 clear hr0 hc0
 have HB := Aside0.mk (Below.refl w.heap.size w)
 have H : (earshotref03_Vectors.l0 k l0 0) = some r := h
 clear h
 have H' := Aside0.mk H
 clear H
 go_enter Tryd.func61, Tryd.ntmps61
 go_wp2
 go_loopg [3] k (fun kq v3 w' => ∃ (x3_1 : Int), v3 = .int .i64 x3_1 ∧ Aside0 (earshotref03_Vectors.l0 kq l0 x3_1 = some r) ∧ Aside0 (kq ≤ k) ∧ Aside0 (Below w.heap.size w w'))
 case atStart => exact ⟨(0), (by first | rfl | (simp; done) | (simp only [i64_w]; done) | (simp [*]; done)), H', ⟨Nat.le_refl _⟩, ⟨tB⟩⟩
 case round =>
  clear H'
  obtain ⟨x3_1, rfl, HA, HK1, HB⟩ := hrel
  cases gk with
  | zero => exact absurd HA.out (by simp [earshotref03_Vectors.l0])
  | succ k1 =>
   have H := HA.out
   clear HA
   simp only [earshotref03_Vectors.l0] at H
   by_cases c2 : x3_1 < (l0.length : Int)
   ·rw [if_pos c2] at H
    have c2b0 := decide_eq_true c2
    clear c2
    by_cases c3 : 0 ≤ x3_1
    ·rw [if_pos c3] at H
     have c3b0 := decide_eq_true c3
     clear c3
     by_cases c4 : ((rd_L2 l0 x3_1).length : Int) < 1
     ·rw [if_pos c4] at H
      have c4b0 := decide_eq_true c4
      have c4b1 : decide ((rd_L2 l0 x3_1).length < 1) = true := decide_eq_true (by omega)
      clear c4
      obtain rfl := Option.some.inj H
      try go_wp2
      have n0_ := Aside0.mk (below_drew1 HB.out)
      clear HB
      have HB := n0_
      clear n0_
      have p101 : 0 ≤ (x3_1 : Int) := of_decide_eq_true tA
      have q101 : x3_1 < (l0.length : Int) := of_decide_eq_true tA
      obtain ⟨ad101, A101_0, c101_0, e101, hx101_0, hl101_0, hi101_0⟩ := at_L2 HR0.out x3_1 p101 q101
      have hw101_0 := hx101_0
      cases e101
      replace hx101_0 := (HB.out.cell (World.block_lt_of_cell? w _ hx101_0)).trans hx101_0
      have HR101_0 := Aside0.mk hi101_0
      have HC101_0 := Aside0.mk hl101_0
      clear hi101_0 hl101_0
      replace p101 := eq_true p101
      replace q101 := eq_true q101
      refine start_ (n := 34) (S := fun w' => w'.cell? (ad101.add (x3_1).toNat) = some (.slice A101_0 (rd_L2 l0 x3_1).length c101_0)) (ds := []) #[false, false, false, false, false, false, false, false, false, false, false, false, false, false, false, false, false, false, false, false, false, false, false, false, false, false, false, false, false, false, false, false, false, false] (by kernel_rfl) rfl rfl (((HB.out.cell (World.block_lt_of_cell? w _ hw101_0)).trans hw101_0)) (fun hHeld => ?_); refine with_tabW earshotref03_Vectors.tab4 earshotref03_Vectors.bits4 (fun HT_ HW_ => ?_)
      generalize wr.drew = w5 at HB HR101_0 hx101_0 hHeld ⊢
      refine pI 0 (some 10) (bm 1 34) HT_.out ?_
      refine pI 1 (some 11) (bm 2 34) HT_.out ?_
      refine pI 2 (some 12) (bm 3 34) HT_.out ?_
      refine tk1 3 (some 13) (bm 4 34) HT_.out HW_.out hHeld ?_
      refine pI 4 (some 14) (bm 5 34) HT_.out ?_
      refine pI 5 (some 15) (bm 6 34) HT_.out ?_
      refine pI 6 (some 16) (bm 7 34) HT_.out ?_
      refine pO 7 (some 17) (bm 8 34) HT_.out ?_
      refine pO 8 (some 18) (bm 9 34) HT_.out ?_
      refine pO 9 (some 19) (bm 10 34) HT_.out ?_
      refine pO 10 (some 20) (bm 11 34) HT_.out ?_
      refine pO 11 (some 21) (bm 12 34) HT_.out ?_
      refine pO 12 (some 22) (bm 13 34) HT_.out ?_
      refine pI 13 (some 23) (bm 14 34) HT_.out ?_
      refine pI 14 (some 24) (bm 15 34) HT_.out ?_
      refine pO 15 (some 25) (bm 16 34) HT_.out ?_
      refine pO 16 (some 26) (bm 17 34) HT_.out ?_
      refine pO 17 (some 27) (bm 18 34) HT_.out ?_
      refine pO 18 (some 28) (bm 19 34) HT_.out ?_
      refine pO 19 (some 29) (bm 20 34) HT_.out ?_
      refine pO 20 (some 30) (bm 21 34) HT_.out ?_
      refine pO 21 (some 31) (bm 22 34) HT_.out ?_
      refine pO 22 (some 32) (bm 23 34) HT_.out ?_
      refine pO 23 (some 33) (bm 24 34) HT_.out ?_
      refine pO 24 (some 34) (bm 25 34) HT_.out ?_
      refine pI 25 (some 35) (bm 26 34) HT_.out ?_
      refine pI 26 (some 36) (bm 27 34) HT_.out ?_
      refine pO 27 (some 37) (bm 28 34) HT_.out ?_
      refine pO 28 (some 38) (bm 29 34) HT_.out ?_
      refine pO 29 (some 39) (bm 30 34) HT_.out ?_
      refine pO 30 (some 40) (bm 31 34) HT_.out ?_
      refine pO 31 (some 41) (bm 32 34) HT_.out ?_
      refine pO 32 (some 42) (bm 33 34) HT_.out ?_
      refine pI 33 (some 43) (bm 34 34) HT_.out ?_
      refine done_ (done_of HT_.out (by kernel_rfl)) ?_
      try go_wp2
      go_ret
      exact ⟨by first | rfl | (simp [errW_none, errW_some] <;> rfl) | (simp [*, errW_none, errW_some] <;> rfl), tB⟩
     ·rw [if_neg c4] at H
      have c4b0 := decide_eq_false c4
      have c4b1 : decide ((rd_L2 l0 x3_1).length < 1) = false := decide_eq_false (by omega)
      clear c4
      by_cases c6 : ((rd_L2 l0 x3_1).length : Int) > 64
      ·rw [if_pos c6] at H
       have c6b0 : decide (64 < ((rd_L2 l0 x3_1).length : Int)) = true := decide_eq_true c6
       have c6b1 : decide (64 < (rd_L2 l0 x3_1).length) = true := decide_eq_true (by omega)
       clear c6
       obtain rfl := Option.some.inj H
       try go_wp2
       have n0_ := Aside0.mk (below_drew1 HB.out)
       clear HB
       have HB := n0_
       clear n0_
       have p101 : 0 ≤ (x3_1 : Int) := of_decide_eq_true tA
       have q101 : x3_1 < (l0.length : Int) := of_decide_eq_true tA
       obtain ⟨ad101, A101_0, c101_0, e101, hx101_0, hl101_0, hi101_0⟩ := at_L2 HR0.out x3_1 p101 q101
       have hw101_0 := hx101_0
       cases e101
       replace hx101_0 := (HB.out.cell (World.block_lt_of_cell? w _ hx101_0)).trans hx101_0
       have HR101_0 := Aside0.mk hi101_0
       have HC101_0 := Aside0.mk hl101_0
       clear hi101_0 hl101_0
       replace p101 := eq_true p101
       replace q101 := eq_true q101
       have p102 : 0 ≤ (x3_1 : Int) := of_decide_eq_true tA
       have q102 : x3_1 < (l0.length : Int) := of_decide_eq_true tA
       obtain ⟨ad102, A102_0, c102_0, e102, hx102_0, hl102_0, hi102_0⟩ := at_L2 HR0.out x3_1 p102 q102
       have hw102_0 := hx102_0
       obtain rfl : ad101 = ad102 := (by injection e102)
       replace hx102_0 := (HB.out.cell (World.block_lt_of_cell? w _ hx102_0)).trans hx102_0
       have HR102_0 := Aside0.mk hi102_0
       have HC102_0 := Aside0.mk hl102_0
       clear hi102_0 hl102_0
       replace p102 := eq_true p102
       replace q102 := eq_true q102
       have ea_ := Option.some.inj (hx101_0.symm.trans hx102_0)
       injection ea_ with ea_ en_ ec_
       subst ea_
       subst ec_
       clear en_
       refine start_ (n := 34) (S := fun w' => w'.cell? (ad101.add (x3_1).toNat) = some (.slice A101_0 (rd_L2 l0 x3_1).length c101_0) ∧ w'.cell? (ad101.add (x3_1).toNat) = some (.slice A101_0 (rd_L2 l0 x3_1).length c101_0)) (ds := []) #[false, false, false, false, false, false, false, false, false, false, false, false, false, false, false, false, false, false, false, false, false, false, false, false, false, false, false, false, false, false, false, false, false, false] (by kernel_rfl) rfl rfl ⟨((HB.out.cell (World.block_lt_of_cell? w _ hw101_0)).trans hw101_0), ((HB.out.cell (World.block_lt_of_cell? w _ hw102_0)).trans hw102_0)⟩ (fun hHeld => ?_); refine with_tabW earshotref03_Vectors.tab4 earshotref03_Vectors.bits4 (fun HT_ HW_ => ?_)
       generalize wr.drew = w7 at HB HR101_0 HR102_0 hx101_0 hx102_0 hHeld ⊢
       refine pI 0 (some 10) (bm 1 34) HT_.out ?_
       refine pI 1 (some 11) (bm 2 34) HT_.out ?_
       refine pI 2 (some 12) (bm 3 34) HT_.out ?_
       refine tk2 3 (some 13) (bm 4 34) HT_.out HW_.out hHeld ?_
       refine pI 4 (some 14) (bm 5 34) HT_.out ?_
       refine pI 5 (some 15) (bm 6 34) HT_.out ?_
       refine pI 6 (some 16) (bm 7 34) HT_.out ?_
       refine pI 7 (some 17) (bm 8 34) HT_.out ?_
       refine pI 8 (some 18) (bm 9 34) HT_.out ?_
       refine pI 9 (some 19) (bm 10 34) HT_.out ?_
       refine tk2 10 (some 20) (bm 11 34) HT_.out HW_.out hHeld ?_
       refine pI 11 (some 21) (bm 12 34) HT_.out ?_
       refine pI 12 (some 22) (bm 13 34) HT_.out ?_
       refine pI 13 (some 23) (bm 14 34) HT_.out ?_
       refine pI 14 (some 24) (bm 15 34) HT_.out ?_
       refine pO 15 (some 25) (bm 16 34) HT_.out ?_
       refine pO 16 (some 26) (bm 17 34) HT_.out ?_
       refine pO 17 (some 27) (bm 18 34) HT_.out ?_
       refine pO 18 (some 28) (bm 19 34) HT_.out ?_
       refine pO 19 (some 29) (bm 20 34) HT_.out ?_
       refine pO 20 (some 30) (bm 21 34) HT_.out ?_
       refine pO 21 (some 31) (bm 22 34) HT_.out ?_
       refine pO 22 (some 32) (bm 23 34) HT_.out ?_
       refine pO 23 (some 33) (bm 24 34) HT_.out ?_
       refine pO 24 (some 34) (bm 25 34) HT_.out ?_
       refine pI 25 (some 35) (bm 26 34) HT_.out ?_
       refine pI 26 (some 36) (bm 27 34) HT_.out ?_
       refine pO 27 (some 37) (bm 28 34) HT_.out ?_
       refine pO 28 (some 38) (bm 29 34) HT_.out ?_
       refine pO 29 (some 39) (bm 30 34) HT_.out ?_
       refine pO 30 (some 40) (bm 31 34) HT_.out ?_
       refine pO 31 (some 41) (bm 32 34) HT_.out ?_
       refine pO 32 (some 42) (bm 33 34) HT_.out ?_
       refine pI 33 (some 43) (bm 34 34) HT_.out ?_
       refine done_ (done_of HT_.out (by kernel_rfl)) ?_
       try go_wp2
       go_ret
       exact ⟨by first | rfl | (simp [errW_none, errW_some] <;> rfl) | (simp [*, errW_none, errW_some] <;> rfl), tB⟩
      ·rw [if_neg c6] at H
       have c6b0 : decide (64 < ((rd_L2 l0 x3_1).length : Int)) = false := decide_eq_false c6
       have c6b1 : decide (64 < (rd_L2 l0 x3_1).length) = false := decide_eq_false (by omega)
       clear c6
       by_cases c8 : 0 < (l0.length : Int)
       ·rw [if_pos c8] at H
        have c8b0 := decide_eq_true c8
        have c8b1 : decide (0 < l0.length) = true := decide_eq_true (by omega)
        clear c8
        by_cases c9 : ((rd_L2 l0 x3_1).length : Int) = ((rd_L2 l0 0).length : Int)
        ·rw [if_pos c9] at H
         have c9b0 : (((rd_L2 l0 x3_1).length : Int) == ((rd_L2 l0 0).length : Int)) = true := beq_iff_eq.mpr c9
         have c9b1 : (((rd_L2 l0 x3_1).length : Int) != ((rd_L2 l0 0).length : Int)) = false := bne_eq_false_iff_eq.mpr c9
         have c9b2 : ((rd_L2 l0 x3_1).length == (rd_L2 l0 0).length) = true := by first | simpa using c9 | (simp at c9 ⊢; omega)
         clear c9
         replace H := Option.bind_eq_some_iff.mp H
         obtain ⟨t106, A100, H⟩ := H
         try dsimp only at H
         have A10 := Aside0.mk A100
         clear A100
         by_cases c11 : t106 = true
         ·subst c11
          have H1 : (earshotref03_Vectors.l0 k1 l0 (wrap64 (x3_1 + 1))) = some r := by rw [if_pos rfl] at H; exact H
          clear H
          have H := H1
          clear H1
          have H' := Aside0.mk H
          clear H
          try go_wp2
          have n0_ := Aside0.mk (below_drew1 HB.out)
          clear HB
          have HB := n0_
          clear n0_
          have p101 : 0 ≤ (x3_1 : Int) := of_decide_eq_true tA
          have q101 : x3_1 < (l0.length : Int) := of_decide_eq_true tA
          obtain ⟨ad101, A101_0, c101_0, e101, hx101_0, hl101_0, hi101_0⟩ := at_L2 HR0.out x3_1 p101 q101
          have hw101_0 := hx101_0
          cases e101
          replace hx101_0 := (HB.out.cell (World.block_lt_of_cell? w _ hx101_0)).trans hx101_0
          have HR101_0 := Aside0.mk hi101_0
          have HC101_0 := Aside0.mk hl101_0
          clear hi101_0 hl101_0
          replace p101 := eq_true p101
          replace q101 := eq_true q101
          have p102 : 0 ≤ (x3_1 : Int) := of_decide_eq_true tA
          have q102 : x3_1 < (l0.length : Int) := of_decide_eq_true tA
          obtain ⟨ad102, A102_0, c102_0, e102, hx102_0, hl102_0, hi102_0⟩ := at_L2 HR0.out x3_1 p102 q102
          have hw102_0 := hx102_0
          obtain rfl : ad101 = ad102 := (by injection e102)
          replace hx102_0 := (HB.out.cell (World.block_lt_of_cell? w _ hx102_0)).trans hx102_0
          have HR102_0 := Aside0.mk hi102_0
          have HC102_0 := Aside0.mk hl102_0
          clear hi102_0 hl102_0
          replace p102 := eq_true p102
          replace q102 := eq_true q102
          have ea_ := Option.some.inj (hx101_0.symm.trans hx102_0)
          injection ea_ with ea_ en_ ec_
          subst ea_
          subst ec_
          clear en_
          have p103 : 0 ≤ (x3_1 : Int) := of_decide_eq_true tA
          have q103 : x3_1 < (l0.length : Int) := of_decide_eq_true tA
          obtain ⟨ad103, A103_0, c103_0, e103, hx103_0, hl103_0, hi103_0⟩ := at_L2 HR0.out x3_1 p103 q103
          have hw103_0 := hx103_0
          obtain rfl : ad101 = ad103 := (by injection e103)
          replace hx103_0 := (HB.out.cell (World.block_lt_of_cell? w _ hx103_0)).trans hx103_0
          have HR103_0 := Aside0.mk hi103_0
          have HC103_0 := Aside0.mk hl103_0
          clear hi103_0 hl103_0
          replace p103 := eq_true p103
          replace q103 := eq_true q103
          have ea_ := Option.some.inj (hx101_0.symm.trans hx103_0)
          injection ea_ with ea_ en_ ec_
          subst ea_
          subst ec_
          clear en_
          have p104 : 0 ≤ (0 : Int) := (by omega)
          have q104 : 0 < (l0.length : Int) := of_decide_eq_true tA
          obtain ⟨ad104, A104_0, c104_0, e104, hx104_0, hl104_0, hi104_0⟩ := at_L2 HR0.out 0 p104 q104
          have hw104_0 := hx104_0
          (try rw [show ((0 : Int)).toNat = 0 from rfl] at hw104_0)
          (try rw [show 0 * 1 = 0 from rfl] at hw104_0)
          (try rw [Addr.add_zero'] at hw104_0)
          obtain rfl : ad101 = ad104 := (by injection e104)
          have qi104 : (0 < l0.length) = True := eq_true (by omega)
          (try rw [show ((0 : Int)).toNat = 0 from rfl] at hx104_0)
          (try rw [Addr.add_zero'] at hx104_0)
          replace hx104_0 := (HB.out.cell (World.block_lt_of_cell? w _ hx104_0)).trans hx104_0
          have HR104_0 := Aside0.mk hi104_0
          have HC104_0 := Aside0.mk hl104_0
          clear hi104_0 hl104_0
          replace p104 := eq_true p104
          replace q104 := eq_true q104
          have p105 : 0 ≤ (x3_1 : Int) := of_decide_eq_true tA
          have q105 : x3_1 < (l0.length : Int) := of_decide_eq_true tA
          obtain ⟨ad105, A105_0, c105_0, e105, hx105_0, hl105_0, hi105_0⟩ := at_L2 HR0.out x3_1 p105 q105
          have hw105_0 := hx105_0
          obtain rfl : ad101 = ad105 := (by injection e105)
          replace hx105_0 := (HB.out.cell (World.block_lt_of_cell? w _ hx105_0)).trans hx105_0
          have HR105_0 := Aside0.mk hi105_0
          have HC105_0 := Aside0.mk hl105_0
          clear hi105_0 hl105_0
          replace p105 := eq_true p105
          replace q105 := eq_true q105
          have ea_ := Option.some.inj (hx101_0.symm.trans hx105_0)
          injection ea_ with ea_ en_ ec_
          subst ea_
          subst ec_
          clear en_
          refine start_ (n := 34) (S := fun w' => w'.cell? (ad101.add (x3_1).toNat) = some (.slice A101_0 (rd_L2 l0 x3_1).length c101_0) ∧ w'.cell? (ad101.add (x3_1).toNat) = some (.slice A101_0 (rd_L2 l0 x3_1).length c101_0) ∧ w'.cell? (ad101.add (x3_1).toNat) = some (.slice A101_0 (rd_L2 l0 x3_1).length c101_0) ∧ w'.cell? ad101 = some (.slice A104_0 (rd_L2 l0 0).length c104_0) ∧ w'.cell? (ad101.add (x3_1).toNat) = some (.slice A101_0 (rd_L2 l0 x3_1).length c101_0)) (ds := []) #[false, false, false, false, false, false, false, false, false, false, false, false, false, false, false, false, false, false, false, false, false, false, false, false, false, false, false, false, false, false, false, false, false, false] (by kernel_rfl) rfl rfl ⟨((HB.out.cell (World.block_lt_of_cell? w _ hw101_0)).trans hw101_0), ((HB.out.cell (World.block_lt_of_cell? w _ hw102_0)).trans hw102_0), ((HB.out.cell (World.block_lt_of_cell? w _ hw103_0)).trans hw103_0), ((HB.out.cell (World.block_lt_of_cell? w _ hw104_0)).trans hw104_0), ((HB.out.cell (World.block_lt_of_cell? w _ hw105_0)).trans hw105_0)⟩ (fun hHeld => ?_); refine with_tabW earshotref03_Vectors.tab4 earshotref03_Vectors.bits4 (fun HT_ HW_ => ?_)
          generalize wr.drew = w12 at HB HR101_0 HR102_0 HR103_0 HR104_0 HR105_0 hx101_0 hx102_0 hx103_0 hx104_0 hx105_0 hHeld ⊢
          refine pI 0 (some 10) (bm 1 34) HT_.out ?_
          refine pI 1 (some 11) (bm 2 34) HT_.out ?_
          refine pI 2 (some 12) (bm 3 34) HT_.out ?_
          refine tk5 3 (some 13) (bm 4 34) HT_.out HW_.out hHeld ?_
          refine pI 4 (some 14) (bm 5 34) HT_.out ?_
          refine pI 5 (some 15) (bm 6 34) HT_.out ?_
          refine pI 6 (some 16) (bm 7 34) HT_.out ?_
          refine pI 7 (some 17) (bm 8 34) HT_.out ?_
          refine pI 8 (some 18) (bm 9 34) HT_.out ?_
          refine pI 9 (some 19) (bm 10 34) HT_.out ?_
          refine tk5 10 (some 20) (bm 11 34) HT_.out HW_.out hHeld ?_
          refine pI 11 (some 21) (bm 12 34) HT_.out ?_
          refine pI 12 (some 22) (bm 13 34) HT_.out ?_
          refine pI 13 (some 23) (bm 14 34) HT_.out ?_
          refine pI 14 (some 24) (bm 15 34) HT_.out ?_
          refine pI 15 (some 25) (bm 16 34) HT_.out ?_
          refine pI 16 (some 26) (bm 17 34) HT_.out ?_
          refine pI 17 (some 27) (bm 18 34) HT_.out ?_
          refine pure_ (i := 20) (N := some 30) (v := ?_) (a' := ?_) #[true, true, true, true, true, true, true, true, true, true, true, true, true, true, true, true, true, true, false, false, true, false, false, false, false, false, false, false, false, false, false, false, false, false] rfl rfl (any_of HT_.out (by kernel_rfl)) (fun _ _ _ h => h) (Or.inl ⟨by rfl, ?_⟩) ?_ ?_
          rotate_left
          ·intro w'
           go_simp
           with_reducible rfl
          rotate_left
          ·simp only [Act.put, List.setIfInBounds_toArray, List.set_cons_zero, List.set_cons_succ, i64_w, i32_w]
           rfl
          refine pure_ (i := 21) (N := some 31) (v := ?_) (a' := ?_) #[true, true, true, true, true, true, true, true, true, true, true, true, true, true, true, true, true, true, false, false, true, true, false, false, false, false, false, false, false, false, false, false, false, false] rfl rfl (any_of HT_.out (by kernel_rfl)) (fun _ _ _ h => h) (Or.inl ⟨by rfl, ?_⟩) ?_ ?_
          rotate_left
          ·intro w'
           go_simp
           with_reducible rfl
          rotate_left
          ·simp only [Act.put, List.setIfInBounds_toArray, List.set_cons_zero, List.set_cons_succ, i64_w, i32_w]
           rfl
          refine take_ (i := 18) (N := some 28) (v := ?_) (a' := ?_) #[true, true, true, true, true, true, true, true, true, true, true, true, true, true, true, true, true, true, true, false, true, true, false, false, false, false, false, false, false, false, false, false, false, false] rfl rfl (take_ofW HT_.out HW_.out (by kernel_rfl)) (fun _ _ _ h => h) (Or.inl ⟨by rfl, ?_⟩) hHeld ?_ ?_
          rotate_left
          ·rintro w' ⟨s0, s1, s2, s3, s4⟩
           go_simp
           with_reducible rfl
          rotate_left
          ·simp only [Act.put, List.setIfInBounds_toArray, List.set_cons_zero, List.set_cons_succ, i64_w, i32_w]
           rfl
          refine pI 19 (some 29) (bm 22 34) HT_.out ?_
          refine tk5 22 (some 32) (bm 23 34) HT_.out HW_.out hHeld ?_
          refine pI 23 (some 33) (bm 24 34) HT_.out ?_
          refine pI 24 (some 34) (bm 25 34) HT_.out ?_
          refine pI 25 (some 35) (bm 26 34) HT_.out ?_
          refine pI 26 (some 36) (bm 27 34) HT_.out ?_
          refine pI 27 (some 37) (bm 28 34) HT_.out ?_
          refine pI 28 (some 38) (bm 29 34) HT_.out ?_
          refine pI 29 (some 39) (bm 30 34) HT_.out ?_
          refine tk5 30 (some 40) (bm 31 34) HT_.out HW_.out hHeld ?_
          refine one_ (i := 31) (N := some 41) #[true, true, true, true, true, true, true, true, true, true, true, true, true, true, true, true, true, true, true, true, true, true, true, true, true, true, true, true, true, true, true, true, false, false] rfl rfl (one_of HT_.out (by kernel_rfl)) (by decide) (fun K hK => ?_)
          refine goes_ Tryd.func25 (by kernel_rfl) rfl #[.slice A101_0 (rd_L2 l0 x3_1).length c101_0, .int .i64 (-1048576), .int .i64 1048576] (by rfl) rfl rfl tL ?_
          with_reducible refine (earshotref02_All.calls k1 _ _ (rd_L2 l0 x3_1) (-1048576) 1048576 true _ ?side1 ?side2 A10.out).mono ?_
          (case side1 => exact tC (Kd.C_below HR105_0.out HB.out))
          (case side2 => exact HC105_0.out)
          rintro e w' ⟨rfl, ⟨nd, rfl⟩⟩
          refine ⟨_, rfl, ?_⟩
          refine hK.out _ _ ⟨((HB.out.cell (World.block_lt_of_cell? w _ hw101_0)).trans hw101_0), ((HB.out.cell (World.block_lt_of_cell? w _ hw102_0)).trans hw102_0), ((HB.out.cell (World.block_lt_of_cell? w _ hw103_0)).trans hw103_0), ((HB.out.cell (World.block_lt_of_cell? w _ hw104_0)).trans hw104_0), ((HB.out.cell (World.block_lt_of_cell? w _ hw105_0)).trans hw105_0)⟩ (fun hHeld => ?_)
          clear hK K
          refine norm_ (a' := ?_) ?_ ?_
          rotate_left
          ·show Act.put _ (some 41) _ = _
           simp only [Act.put, List.setIfInBounds_toArray, List.set_cons_zero, List.set_cons_succ, i64_w, i32_w]
           rfl
          refine pI 32 (some 42) (bm 33 34) HT_.out ?_
          refine pI 33 (some 43) (bm 34 34) HT_.out ?_
          refine done_ (done_of HT_.out (by kernel_rfl)) ?_
          try go_wp2
          go_roundg k1
          case measure => have := HK1.out; omega
          case rel => exact ⟨(wrap64 (x3_1 + 1)), (by first | rfl | (simp; done) | (simp only [i64_w]; done) | (simp [*]; done)), H', ⟨by have := HK1.out; omega⟩, ⟨tB⟩⟩
         ·replace c11 := Bool.eq_false_iff.mpr c11
          subst c11
          have H1 : (some false) = some r := by rw [if_neg (show ¬ (false = true) by decide)] at H; exact H
          clear H
          have H := H1
          clear H1
          obtain rfl := Option.some.inj H
          try go_wp2
          have n0_ := Aside0.mk (below_drew1 HB.out)
          clear HB
          have HB := n0_
          clear n0_
          have p101 : 0 ≤ (x3_1 : Int) := of_decide_eq_true tA
          have q101 : x3_1 < (l0.length : Int) := of_decide_eq_true tA
          obtain ⟨ad101, A101_0, c101_0, e101, hx101_0, hl101_0, hi101_0⟩ := at_L2 HR0.out x3_1 p101 q101
          have hw101_0 := hx101_0
          cases e101
          replace hx101_0 := (HB.out.cell (World.block_lt_of_cell? w _ hx101_0)).trans hx101_0
          have HR101_0 := Aside0.mk hi101_0
          have HC101_0 := Aside0.mk hl101_0
          clear hi101_0 hl101_0
          replace p101 := eq_true p101
          replace q101 := eq_true q101
          have p102 : 0 ≤ (x3_1 : Int) := of_decide_eq_true tA
          have q102 : x3_1 < (l0.length : Int) := of_decide_eq_true tA
          obtain ⟨ad102, A102_0, c102_0, e102, hx102_0, hl102_0, hi102_0⟩ := at_L2 HR0.out x3_1 p102 q102
          have hw102_0 := hx102_0
          obtain rfl : ad101 = ad102 := (by injection e102)
          replace hx102_0 := (HB.out.cell (World.block_lt_of_cell? w _ hx102_0)).trans hx102_0
          have HR102_0 := Aside0.mk hi102_0
          have HC102_0 := Aside0.mk hl102_0
          clear hi102_0 hl102_0
          replace p102 := eq_true p102
          replace q102 := eq_true q102
          have ea_ := Option.some.inj (hx101_0.symm.trans hx102_0)
          injection ea_ with ea_ en_ ec_
          subst ea_
          subst ec_
          clear en_
          have p103 : 0 ≤ (x3_1 : Int) := of_decide_eq_true tA
          have q103 : x3_1 < (l0.length : Int) := of_decide_eq_true tA
          obtain ⟨ad103, A103_0, c103_0, e103, hx103_0, hl103_0, hi103_0⟩ := at_L2 HR0.out x3_1 p103 q103
          have hw103_0 := hx103_0
          obtain rfl : ad101 = ad103 := (by injection e103)
          replace hx103_0 := (HB.out.cell (World.block_lt_of_cell? w _ hx103_0)).trans hx103_0
          have HR103_0 := Aside0.mk hi103_0
          have HC103_0 := Aside0.mk hl103_0
          clear hi103_0 hl103_0
          replace p103 := eq_true p103
          replace q103 := eq_true q103
          have ea_ := Option.some.inj (hx101_0.symm.trans hx103_0)
          injection ea_ with ea_ en_ ec_
          subst ea_
          subst ec_
          clear en_
          have p104 : 0 ≤ (0 : Int) := (by omega)
          have q104 : 0 < (l0.length : Int) := of_decide_eq_true tA
          obtain ⟨ad104, A104_0, c104_0, e104, hx104_0, hl104_0, hi104_0⟩ := at_L2 HR0.out 0 p104 q104
          have hw104_0 := hx104_0
          (try rw [show ((0 : Int)).toNat = 0 from rfl] at hw104_0)
          (try rw [show 0 * 1 = 0 from rfl] at hw104_0)
          (try rw [Addr.add_zero'] at hw104_0)
          obtain rfl : ad101 = ad104 := (by injection e104)
          have qi104 : (0 < l0.length) = True := eq_true (by omega)
          (try rw [show ((0 : Int)).toNat = 0 from rfl] at hx104_0)
          (try rw [Addr.add_zero'] at hx104_0)
          replace hx104_0 := (HB.out.cell (World.block_lt_of_cell? w _ hx104_0)).trans hx104_0
          have HR104_0 := Aside0.mk hi104_0
          have HC104_0 := Aside0.mk hl104_0
          clear hi104_0 hl104_0
          replace p104 := eq_true p104
          replace q104 := eq_true q104
          have p105 : 0 ≤ (x3_1 : Int) := of_decide_eq_true tA
          have q105 : x3_1 < (l0.length : Int) := of_decide_eq_true tA
          obtain ⟨ad105, A105_0, c105_0, e105, hx105_0, hl105_0, hi105_0⟩ := at_L2 HR0.out x3_1 p105 q105
          have hw105_0 := hx105_0
          obtain rfl : ad101 = ad105 := (by injection e105)
          replace hx105_0 := (HB.out.cell (World.block_lt_of_cell? w _ hx105_0)).trans hx105_0
          have HR105_0 := Aside0.mk hi105_0
          have HC105_0 := Aside0.mk hl105_0
          clear hi105_0 hl105_0
          replace p105 := eq_true p105
          replace q105 := eq_true q105
          have ea_ := Option.some.inj (hx101_0.symm.trans hx105_0)
          injection ea_ with ea_ en_ ec_
          subst ea_
          subst ec_
          clear en_
          refine start_ (n := 34) (S := fun w' => w'.cell? (ad101.add (x3_1).toNat) = some (.slice A101_0 (rd_L2 l0 x3_1).length c101_0) ∧ w'.cell? (ad101.add (x3_1).toNat) = some (.slice A101_0 (rd_L2 l0 x3_1).length c101_0) ∧ w'.cell? (ad101.add (x3_1).toNat) = some (.slice A101_0 (rd_L2 l0 x3_1).length c101_0) ∧ w'.cell? ad101 = some (.slice A104_0 (rd_L2 l0 0).length c104_0) ∧ w'.cell? (ad101.add (x3_1).toNat) = some (.slice A101_0 (rd_L2 l0 x3_1).length c101_0)) (ds := []) #[false, false, false, false, false, false, false, false, false, false, false, false, false, false, false, false, false, false, false, false, false, false, false, false, false, false, false, false, false, false, false, false, false, false] (by kernel_rfl) rfl rfl ⟨((HB.out.cell (World.block_lt_of_cell? w _ hw101_0)).trans hw101_0), ((HB.out.cell (World.block_lt_of_cell? w _ hw102_0)).trans hw102_0), ((HB.out.cell (World.block_lt_of_cell? w _ hw103_0)).trans hw103_0), ((HB.out.cell (World.block_lt_of_cell? w _ hw104_0)).trans hw104_0), ((HB.out.cell (World.block_lt_of_cell? w _ hw105_0)).trans hw105_0)⟩ (fun hHeld => ?_); refine with_tabW earshotref03_Vectors.tab4 earshotref03_Vectors.bits4 (fun HT_ HW_ => ?_)
          generalize wr.drew = w13 at HB HR101_0 HR102_0 HR103_0 HR104_0 HR105_0 hx101_0 hx102_0 hx103_0 hx104_0 hx105_0 hHeld ⊢
          refine pI 0 (some 10) (bm 1 34) HT_.out ?_
          refine pI 1 (some 11) (bm 2 34) HT_.out ?_
          refine pI 2 (some 12) (bm 3 34) HT_.out ?_
          refine tk5 3 (some 13) (bm 4 34) HT_.out HW_.out hHeld ?_
          refine pI 4 (some 14) (bm 5 34) HT_.out ?_
          refine pI 5 (some 15) (bm 6 34) HT_.out ?_
          refine pI 6 (some 16) (bm 7 34) HT_.out ?_
          refine pI 7 (some 17) (bm 8 34) HT_.out ?_
          refine pI 8 (some 18) (bm 9 34) HT_.out ?_
          refine pI 9 (some 19) (bm 10 34) HT_.out ?_
          refine tk5 10 (some 20) (bm 11 34) HT_.out HW_.out hHeld ?_
          refine pI 11 (some 21) (bm 12 34) HT_.out ?_
          refine pI 12 (some 22) (bm 13 34) HT_.out ?_
          refine pI 13 (some 23) (bm 14 34) HT_.out ?_
          refine pI 14 (some 24) (bm 15 34) HT_.out ?_
          refine pI 15 (some 25) (bm 16 34) HT_.out ?_
          refine pI 16 (some 26) (bm 17 34) HT_.out ?_
          refine pI 17 (some 27) (bm 18 34) HT_.out ?_
          refine pure_ (i := 20) (N := some 30) (v := ?_) (a' := ?_) #[true, true, true, true, true, true, true, true, true, true, true, true, true, true, true, true, true, true, false, false, true, false, false, false, false, false, false, false, false, false, false, false, false, false] rfl rfl (any_of HT_.out (by kernel_rfl)) (fun _ _ _ h => h) (Or.inl ⟨by rfl, ?_⟩) ?_ ?_
          rotate_left
          ·intro w'
           go_simp
           with_reducible rfl
          rotate_left
          ·simp only [Act.put, List.setIfInBounds_toArray, List.set_cons_zero, List.set_cons_succ, i64_w, i32_w]
           rfl
          refine pure_ (i := 21) (N := some 31) (v := ?_) (a' := ?_) #[true, true, true, true, true, true, true, true, true, true, true, true, true, true, true, true, true, true, false, false, true, true, false, false, false, false, false, false, false, false, false, false, false, false] rfl rfl (any_of HT_.out (by kernel_rfl)) (fun _ _ _ h => h) (Or.inl ⟨by rfl, ?_⟩) ?_ ?_
          rotate_left
          ·intro w'
           go_simp
           with_reducible rfl
          rotate_left
          ·simp only [Act.put, List.setIfInBounds_toArray, List.set_cons_zero, List.set_cons_succ, i64_w, i32_w]
           rfl
          refine take_ (i := 18) (N := some 28) (v := ?_) (a' := ?_) #[true, true, true, true, true, true, true, true, true, true, true, true, true, true, true, true, true, true, true, false, true, true, false, false, false, false, false, false, false, false, false, false, false, false] rfl rfl (take_ofW HT_.out HW_.out (by kernel_rfl)) (fun _ _ _ h => h) (Or.inl ⟨by rfl, ?_⟩) hHeld ?_ ?_
          rotate_left
          ·rintro w' ⟨s0, s1, s2, s3, s4⟩
           go_simp
           with_reducible rfl
          rotate_left
          ·simp only [Act.put, List.setIfInBounds_toArray, List.set_cons_zero, List.set_cons_succ, i64_w, i32_w]
           rfl
          refine pI 19 (some 29) (bm 22 34) HT_.out ?_
          refine tk5 22 (some 32) (bm 23 34) HT_.out HW_.out hHeld ?_
          refine pI 23 (some 33) (bm 24 34) HT_.out ?_
          refine pI 24 (some 34) (bm 25 34) HT_.out ?_
          refine pI 25 (some 35) (bm 26 34) HT_.out ?_
          refine pI 26 (some 36) (bm 27 34) HT_.out ?_
          refine pI 27 (some 37) (bm 28 34) HT_.out ?_
          refine pI 28 (some 38) (bm 29 34) HT_.out ?_
          refine pI 29 (some 39) (bm 30 34) HT_.out ?_
          refine tk5 30 (some 40) (bm 31 34) HT_.out HW_.out hHeld ?_
          refine one_ (i := 31) (N := some 41) #[true, true, true, true, true, true, true, true, true, true, true, true, true, true, true, true, true, true, true, true, true, true, true, true, true, true, true, true, true, true, true, true, false, false] rfl rfl (one_of HT_.out (by kernel_rfl)) (by decide) (fun K hK => ?_)
          refine goes_ Tryd.func25 (by kernel_rfl) rfl #[.slice A101_0 (rd_L2 l0 x3_1).length c101_0, .int .i64 (-1048576), .int .i64 1048576] (by rfl) rfl rfl tL ?_
          with_reducible refine (earshotref02_All.calls k1 _ _ (rd_L2 l0 x3_1) (-1048576) 1048576 false _ ?side1 ?side2 A10.out).mono ?_
          (case side1 => exact tC (Kd.C_below HR105_0.out HB.out))
          (case side2 => exact HC105_0.out)
          rintro e w' ⟨rfl, ⟨nd, rfl⟩⟩
          refine ⟨_, rfl, ?_⟩
          refine hK.out _ _ ⟨((HB.out.cell (World.block_lt_of_cell? w _ hw101_0)).trans hw101_0), ((HB.out.cell (World.block_lt_of_cell? w _ hw102_0)).trans hw102_0), ((HB.out.cell (World.block_lt_of_cell? w _ hw103_0)).trans hw103_0), ((HB.out.cell (World.block_lt_of_cell? w _ hw104_0)).trans hw104_0), ((HB.out.cell (World.block_lt_of_cell? w _ hw105_0)).trans hw105_0)⟩ (fun hHeld => ?_)
          clear hK K
          refine norm_ (a' := ?_) ?_ ?_
          rotate_left
          ·show Act.put _ (some 41) _ = _
           simp only [Act.put, List.setIfInBounds_toArray, List.set_cons_zero, List.set_cons_succ, i64_w, i32_w]
           rfl
          refine pI 32 (some 42) (bm 33 34) HT_.out ?_
          refine pI 33 (some 43) (bm 34 34) HT_.out ?_
          refine done_ (done_of HT_.out (by kernel_rfl)) ?_
          try go_wp2
          go_ret
          exact ⟨by first | rfl | (simp [errW_none, errW_some] <;> rfl) | (simp [*, errW_none, errW_some] <;> rfl), tB⟩
        ·rw [if_neg c9] at H
         have c9b0 : (((rd_L2 l0 x3_1).length : Int) == ((rd_L2 l0 0).length : Int)) = false := beq_eq_false_iff_ne.mpr c9
         have c9b1 : (((rd_L2 l0 x3_1).length : Int) != ((rd_L2 l0 0).length : Int)) = true := bne_iff_ne.mpr c9
         have c9b2 : ((rd_L2 l0 x3_1).length == (rd_L2 l0 0).length) = false := by first | simpa using c9 | (simp at c9 ⊢; omega)
         obtain rfl := Option.some.inj H
         try go_wp2
         have n0_ := Aside0.mk (below_drew1 HB.out)
         clear HB
         have HB := n0_
         clear n0_
         have p101 : 0 ≤ (x3_1 : Int) := of_decide_eq_true tA
         have q101 : x3_1 < (l0.length : Int) := of_decide_eq_true tA
         obtain ⟨ad101, A101_0, c101_0, e101, hx101_0, hl101_0, hi101_0⟩ := at_L2 HR0.out x3_1 p101 q101
         have hw101_0 := hx101_0
         cases e101
         replace hx101_0 := (HB.out.cell (World.block_lt_of_cell? w _ hx101_0)).trans hx101_0
         have HR101_0 := Aside0.mk hi101_0
         have HC101_0 := Aside0.mk hl101_0
         clear hi101_0 hl101_0
         replace p101 := eq_true p101
         replace q101 := eq_true q101
         have p102 : 0 ≤ (x3_1 : Int) := of_decide_eq_true tA
         have q102 : x3_1 < (l0.length : Int) := of_decide_eq_true tA
         obtain ⟨ad102, A102_0, c102_0, e102, hx102_0, hl102_0, hi102_0⟩ := at_L2 HR0.out x3_1 p102 q102
         have hw102_0 := hx102_0
         obtain rfl : ad101 = ad102 := (by injection e102)
         replace hx102_0 := (HB.out.cell (World.block_lt_of_cell? w _ hx102_0)).trans hx102_0
         have HR102_0 := Aside0.mk hi102_0
         have HC102_0 := Aside0.mk hl102_0
         clear hi102_0 hl102_0
         replace p102 := eq_true p102
         replace q102 := eq_true q102
         have ea_ := Option.some.inj (hx101_0.symm.trans hx102_0)
         injection ea_ with ea_ en_ ec_
         subst ea_
         subst ec_
         clear en_
         have p103 : 0 ≤ (x3_1 : Int) := of_decide_eq_true tA
         have q103 : x3_1 < (l0.length : Int) := of_decide_eq_true tA
         obtain ⟨ad103, A103_0, c103_0, e103, hx103_0, hl103_0, hi103_0⟩ := at_L2 HR0.out x3_1 p103 q103
         have hw103_0 := hx103_0
         obtain rfl : ad101 = ad103 := (by injection e103)
         replace hx103_0 := (HB.out.cell (World.block_lt_of_cell? w _ hx103_0)).trans hx103_0
         have HR103_0 := Aside0.mk hi103_0
         have HC103_0 := Aside0.mk hl103_0
         clear hi103_0 hl103_0
         replace p103 := eq_true p103
         replace q103 := eq_true q103
         have ea_ := Option.some.inj (hx101_0.symm.trans hx103_0)
         injection ea_ with ea_ en_ ec_
         subst ea_
         subst ec_
         clear en_
         have p104 : 0 ≤ (0 : Int) := (by omega)
         have q104 : 0 < (l0.length : Int) := of_decide_eq_true tA
         obtain ⟨ad104, A104_0, c104_0, e104, hx104_0, hl104_0, hi104_0⟩ := at_L2 HR0.out 0 p104 q104
         have hw104_0 := hx104_0
         (try rw [show ((0 : Int)).toNat = 0 from rfl] at hw104_0)
         (try rw [show 0 * 1 = 0 from rfl] at hw104_0)
         (try rw [Addr.add_zero'] at hw104_0)
         obtain rfl : ad101 = ad104 := (by injection e104)
         have qi104 : (0 < l0.length) = True := eq_true (by omega)
         (try rw [show ((0 : Int)).toNat = 0 from rfl] at hx104_0)
         (try rw [Addr.add_zero'] at hx104_0)
         replace hx104_0 := (HB.out.cell (World.block_lt_of_cell? w _ hx104_0)).trans hx104_0
         have HR104_0 := Aside0.mk hi104_0
         have HC104_0 := Aside0.mk hl104_0
         clear hi104_0 hl104_0
         replace p104 := eq_true p104
         replace q104 := eq_true q104
         refine start_ (n := 34) (S := fun w' => w'.cell? (ad101.add (x3_1).toNat) = some (.slice A101_0 (rd_L2 l0 x3_1).length c101_0) ∧ w'.cell? (ad101.add (x3_1).toNat) = some (.slice A101_0 (rd_L2 l0 x3_1).length c101_0) ∧ w'.cell? (ad101.add (x3_1).toNat) = some (.slice A101_0 (rd_L2 l0 x3_1).length c101_0) ∧ w'.cell? ad101 = some (.slice A104_0 (rd_L2 l0 0).length c104_0)) (ds := []) #[false, false, false, false, false, false, false, false, false, false, false, false, false, false, false, false, false, false, false, false, false, false, false, false, false, false, false, false, false, false, false, false, false, false] (by kernel_rfl) rfl rfl ⟨((HB.out.cell (World.block_lt_of_cell? w _ hw101_0)).trans hw101_0), ((HB.out.cell (World.block_lt_of_cell? w _ hw102_0)).trans hw102_0), ((HB.out.cell (World.block_lt_of_cell? w _ hw103_0)).trans hw103_0), ((HB.out.cell (World.block_lt_of_cell? w _ hw104_0)).trans hw104_0)⟩ (fun hHeld => ?_); refine with_tabW earshotref03_Vectors.tab4 earshotref03_Vectors.bits4 (fun HT_ HW_ => ?_)
         generalize wr.drew = w14 at HB HR101_0 HR102_0 HR103_0 HR104_0 hx101_0 hx102_0 hx103_0 hx104_0 hHeld ⊢
         refine pI 0 (some 10) (bm 1 34) HT_.out ?_
         refine pI 1 (some 11) (bm 2 34) HT_.out ?_
         refine pI 2 (some 12) (bm 3 34) HT_.out ?_
         refine tk4 3 (some 13) (bm 4 34) HT_.out HW_.out hHeld ?_
         refine pI 4 (some 14) (bm 5 34) HT_.out ?_
         refine pI 5 (some 15) (bm 6 34) HT_.out ?_
         refine pI 6 (some 16) (bm 7 34) HT_.out ?_
         refine pI 7 (some 17) (bm 8 34) HT_.out ?_
         refine pI 8 (some 18) (bm 9 34) HT_.out ?_
         refine pI 9 (some 19) (bm 10 34) HT_.out ?_
         refine tk4 10 (some 20) (bm 11 34) HT_.out HW_.out hHeld ?_
         refine pI 11 (some 21) (bm 12 34) HT_.out ?_
         refine pI 12 (some 22) (bm 13 34) HT_.out ?_
         refine pI 13 (some 23) (bm 14 34) HT_.out ?_
         refine pI 14 (some 24) (bm 15 34) HT_.out ?_
         refine pI 15 (some 25) (bm 16 34) HT_.out ?_
         refine pI 16 (some 26) (bm 17 34) HT_.out ?_
         refine pI 17 (some 27) (bm 18 34) HT_.out ?_
         refine pure_ (i := 20) (N := some 30) (v := ?_) (a' := ?_) #[true, true, true, true, true, true, true, true, true, true, true, true, true, true, true, true, true, true, false, false, true, false, false, false, false, false, false, false, false, false, false, false, false, false] rfl rfl (any_of HT_.out (by kernel_rfl)) (fun _ _ _ h => h) (Or.inl ⟨by rfl, ?_⟩) ?_ ?_
         rotate_left
         ·intro w'
          go_simp
          with_reducible rfl
         rotate_left
         ·simp only [Act.put, List.setIfInBounds_toArray, List.set_cons_zero, List.set_cons_succ, i64_w, i32_w]
          rfl
         refine pure_ (i := 21) (N := some 31) (v := ?_) (a' := ?_) #[true, true, true, true, true, true, true, true, true, true, true, true, true, true, true, true, true, true, false, false, true, true, false, false, false, false, false, false, false, false, false, false, false, false] rfl rfl (any_of HT_.out (by kernel_rfl)) (fun _ _ _ h => h) (Or.inl ⟨by rfl, ?_⟩) ?_ ?_
         rotate_left
         ·intro w'
          go_simp
          with_reducible rfl
         rotate_left
         ·simp only [Act.put, List.setIfInBounds_toArray, List.set_cons_zero, List.set_cons_succ, i64_w, i32_w]
          rfl
         refine take_ (i := 18) (N := some 28) (v := ?_) (a' := ?_) #[true, true, true, true, true, true, true, true, true, true, true, true, true, true, true, true, true, true, true, false, true, true, false, false, false, false, false, false, false, false, false, false, false, false] rfl rfl (take_ofW HT_.out HW_.out (by kernel_rfl)) (fun _ _ _ h => h) (Or.inl ⟨by rfl, ?_⟩) hHeld ?_ ?_
         rotate_left
         ·rintro w' ⟨s0, s1, s2, s3⟩
          go_simp
          with_reducible rfl
         rotate_left
         ·simp only [Act.put, List.setIfInBounds_toArray, List.set_cons_zero, List.set_cons_succ, i64_w, i32_w]
          rfl
         refine pI 19 (some 29) (bm 22 34) HT_.out ?_
         refine tk4 22 (some 32) (bm 23 34) HT_.out HW_.out hHeld ?_
         refine pI 23 (some 33) (bm 24 34) HT_.out ?_
         refine pI 24 (some 34) (bm 25 34) HT_.out ?_
         refine pI 25 (some 35) (bm 26 34) HT_.out ?_
         refine pI 26 (some 36) (bm 27 34) HT_.out ?_
         refine pO 27 (some 37) (bm 28 34) HT_.out ?_
         refine pO 28 (some 38) (bm 29 34) HT_.out ?_
         refine pO 29 (some 39) (bm 30 34) HT_.out ?_
         refine pO 30 (some 40) (bm 31 34) HT_.out ?_
         refine pO 31 (some 41) (bm 32 34) HT_.out ?_
         refine pO 32 (some 42) (bm 33 34) HT_.out ?_
         refine pI 33 (some 43) (bm 34 34) HT_.out ?_
         refine done_ (done_of HT_.out (by kernel_rfl)) ?_
         try go_wp2
         go_ret
         exact ⟨by first | rfl | (simp [errW_none, errW_some] <;> rfl) | (simp [*, errW_none, errW_some] <;> rfl), tB⟩
       ·rw [if_neg c8] at H
        exact absurd H (by simp)
    ·rw [if_neg c3] at H
     exact absurd H (by simp)
   ·rw [if_neg c2] at H
    have c2b0 := decide_eq_false c2
    clear c2
    obtain rfl := Option.some.inj H
    go_wp2
    go_ret
    exact ⟨by first | rfl | (simp [errW_none, errW_some] <;> rfl) | (simp [*, errW_none, errW_some] <;> rfl), tB⟩

/-! ### earshotref03_Wrong: function 58 -/
def earshotref03_Wrong.f (k : Nat) (l0 : List (List Int)) : Option (Int) := if (l0.length : Int) > 10000 then (some 5) else ((earshotref03_Vectors.f k l0).bind fun t101 => (if t101 = true then (some 0) else (some 2)))
theorem earshotref03_Wrong.mono : ∀ a0 k, LeO (earshotref03_Wrong.f k a0) (earshotref03_Wrong.f (k + 1) a0) := by
 intro a0 k
 unfold earshotref03_Wrong.f
 repeat' first
   | (with_reducible exact earshotref03_Vectors.mono _ _)
   | (with_reducible exact LeO.refl _)
   | (with_reducible exact LeO.none _)
   | (with_reducible refine LeO.ite ?_ ?_)
   | (with_reducible refine LeO.bind ?_ (fun _ => ?_))
   | exact earshotref03_Vectors.mono _ _
   | exact LeO.none _
   | refine LeO.ite ?_ ?_
   | refine LeO.bind ?_ (fun _ => ?_)
set_option maxHeartbeats 8000000 in
set_option maxRecDepth 100000 in
theorem earshotref03_Wrong.calls (k : Nat) (A0 : Option Addr) (c0 : Nat) (l0 : List (List Int)) (r : Int) (w : World) (hr0 : Kd.C (Kd.slice 3 (Kd.int .i64)) w A0 l0.length l0) (hc0 : l0.length ≤ c0) (h : earshotref03_Wrong.f k l0 = some r) :
  Calls Tryd.prog 58 #[.slice A0 l0.length c0] w fun e w' => e = .returned (.int .i64 r) ∧ Below w.heap.size w w' := by
 have HR0 := Aside0.mk hr0
 have HC0 := Aside0.mk hc0
 clear hr0 hc0
 have HB := Aside0.mk (Below.refl w.heap.size w)
 have H : (if (l0.length : Int) > 10000 then (some 5) else ((earshotref03_Vectors.f k l0).bind fun t101 => (if t101 = true then (some 0) else (some 2)))) = some r := h
 clear h
 by_cases c2 : (l0.length : Int) > 10000
 ·rw [if_pos c2] at H
  have c2b0 : decide (10000 < (l0.length : Int)) = true := decide_eq_true c2
  have c2b1 : decide (10000 < l0.length) = true := decide_eq_true (by omega)
  clear c2
  obtain rfl := Option.some.inj H
  go_enter Tryd.func58, Tryd.ntmps58
  go_wp2
  go_ret
  exact ⟨by first | rfl | (simp [errW_none, errW_some] <;> rfl) | (simp [*, errW_none, errW_some] <;> rfl), tB⟩
 ·rw [if_neg c2] at H
  have c2b0 : decide (10000 < (l0.length : Int)) = false := decide_eq_false c2
  have c2b1 : decide (10000 < l0.length) = false := decide_eq_false (by omega)
  clear c2
  replace H := Option.bind_eq_some_iff.mp H
  obtain ⟨t101, A30, H⟩ := H
  try dsimp only at H
  have A3 := Aside0.mk A30
  clear A30
  by_cases c4 : t101 = true
  ·subst c4
   have H1 : (some 0) = some r := by rw [if_pos rfl] at H; exact H
   clear H
   have H := H1
   clear H1
   obtain rfl := Option.some.inj H
   go_enter Tryd.func58, Tryd.ntmps58
   go_wp2_with (first | ((with_reducible refine gate_callee (f := 61) rfl ?_); refine goesL_ (some 7) rfl rfl Tryd.func61 (by kernel_rfl) rfl #[.slice A0 l0.length c0] rfl tL ?_; (with_reducible refine (earshotref03_Vectors.calls k _ _ l0 true _ ?side1 ?side2 A3.out).mono ?_); (case side1 => exact tC HR0.out); (case side2 => exact HC0.out); rintro e w5 ⟨rfl, hb⟩; refine ⟨_, rfl, ?_⟩; have n0_ := Aside0.mk (below_step tB hb); clear HB; have HB := n0_; clear n0_; (try clear hb); (try clear hb2); (try clear hk); (try clear hi)))
   go_ret
   exact ⟨by first | rfl | (simp [errW_none, errW_some] <;> rfl) | (simp [*, errW_none, errW_some] <;> rfl), tB⟩
  ·replace c4 := Bool.eq_false_iff.mpr c4
   subst c4
   have H1 : (some 2) = some r := by rw [if_neg (show ¬ (false = true) by decide)] at H; exact H
   clear H
   have H := H1
   clear H1
   obtain rfl := Option.some.inj H
   go_enter Tryd.func58, Tryd.ntmps58
   go_wp2_with (first | ((with_reducible refine gate_callee (f := 61) rfl ?_); refine goesL_ (some 7) rfl rfl Tryd.func61 (by kernel_rfl) rfl #[.slice A0 l0.length c0] rfl tL ?_; (with_reducible refine (earshotref03_Vectors.calls k _ _ l0 false _ ?side1 ?side2 A3.out).mono ?_); (case side1 => exact tC HR0.out); (case side2 => exact HC0.out); rintro e w6 ⟨rfl, hb⟩; refine ⟨_, rfl, ?_⟩; have n0_ := Aside0.mk (below_step tB hb); clear HB; have HB := n0_; clear n0_; (try clear hb); (try clear hb2); (try clear hk); (try clear hi)))
   go_ret
   exact ⟨by first | rfl | (simp [errW_none, errW_some] <;> rfl) | (simp [*, errW_none, errW_some] <;> rfl), tB⟩

/-! ### earshotlaw03_few: function 55 -/
mutual
def earshotlaw03_few.l0 : Nat → List (List Int) → Int → Int → Option (Bool)
 | 0, _, _, _ => none
 | k + 1, x0, x1, x5 => if x5 < (x0.length : Int) then (earshotlaw03_few.j1 k x0 x1 x5 (decide (x5 ≤ x1))) else (earshotlaw03_few.j1 k x0 x1 x5 false)
def earshotlaw03_few.j1 : Nat → List (List Int) → Int → Int → Bool → Option (Bool)
 | 0, _, _, _, _ => none
 | k + 1, x0, x1, x5, x14 => if x14 = true then (if 0 ≤ x5 then (if x5 < (x0.length : Int) then (if ((rd_L2 x0 x5).length : Int) > 70 then (some false) else (earshotlaw03_few.l0 k x0 x1 (wrap64 (x5 + 1)))) else (none)) else (none)) else (if (x0.length : Int) ≤ x1 then (some true) else (if (x0.length : Int) > 10000 then (some (decide ((x0.length : Int) < 20000))) else (some false)))
end
def earshotlaw03_few.f (k : Nat) (l0 : List (List Int)) (a1 : Int) : Option (Bool) := earshotlaw03_few.l0 k l0 a1 0
theorem earshotlaw03_few.mono_l : ∀ k, (∀ y0 y1 y2, LeO (earshotlaw03_few.l0 k y0 y1 y2) (earshotlaw03_few.l0 (k + 1) y0 y1 y2)) ∧ (∀ y0 y1 y2 y3, LeO (earshotlaw03_few.j1 k y0 y1 y2 y3) (earshotlaw03_few.j1 (k + 1) y0 y1 y2 y3))
 | 0 => ⟨fun _ _ _ r h => by simp [earshotlaw03_few.l0] at h, fun _ _ _ _ r h => by simp [earshotlaw03_few.j1] at h⟩
 | k + 1 => by
  obtain ⟨ih0, ih1⟩ := earshotlaw03_few.mono_l k
  refine ⟨?_, ?_⟩
  ·intro y0 y1 y2
   unfold earshotlaw03_few.l0
   repeat' first
   | (with_reducible exact ih0 _ _ _)
   | (with_reducible exact ih1 _ _ _ _)
   | (with_reducible exact LeO.refl _)
   | (with_reducible exact LeO.none _)
   | (with_reducible refine LeO.ite ?_ ?_)
   | (with_reducible refine LeO.bind ?_ (fun _ => ?_))
   | exact ih0 _ _ _
   | exact ih1 _ _ _ _
   | exact LeO.none _
   | refine LeO.ite ?_ ?_
   | refine LeO.bind ?_ (fun _ => ?_)
  ·intro y0 y1 y2 y3
   unfold earshotlaw03_few.j1
   repeat' first
   | (with_reducible exact ih0 _ _ _)
   | (with_reducible exact ih1 _ _ _ _)
   | (with_reducible exact LeO.refl _)
   | (with_reducible exact LeO.none _)
   | (with_reducible refine LeO.ite ?_ ?_)
   | (with_reducible refine LeO.bind ?_ (fun _ => ?_))
   | exact ih0 _ _ _
   | exact ih1 _ _ _ _
   | exact LeO.none _
   | refine LeO.ite ?_ ?_
   | refine LeO.bind ?_ (fun _ => ?_)
theorem earshotlaw03_few.mono : ∀ a0 a1 k, LeO (earshotlaw03_few.f k a0 a1) (earshotlaw03_few.f (k + 1) a0 a1) := by
 intro a0 a1 k
 obtain ⟨ih0, ih1⟩ := earshotlaw03_few.mono_l k
 unfold earshotlaw03_few.f
 repeat' first
   | (with_reducible exact ih0 _ _ _)
   | (with_reducible exact ih1 _ _ _ _)
   | (with_reducible exact LeO.refl _)
   | (with_reducible exact LeO.none _)
   | (with_reducible refine LeO.ite ?_ ?_)
   | (with_reducible refine LeO.bind ?_ (fun _ => ?_))
   | exact ih0 _ _ _
   | exact ih1 _ _ _ _
   | exact LeO.none _
   | refine LeO.ite ?_ ?_
   | refine LeO.bind ?_ (fun _ => ?_)
set_option maxHeartbeats 8000000 in
set_option maxRecDepth 100000 in
theorem earshotlaw03_few.calls (k : Nat) (A0 : Option Addr) (c0 : Nat) (l0 : List (List Int)) (a1 : Int) (r : Bool) (w : World) (hr0 : Kd.C (Kd.slice 3 (Kd.int .i64)) w A0 l0.length l0) (hc0 : l0.length ≤ c0) (h : earshotlaw03_few.f k l0 a1 = some r) :
  Calls Tryd.prog 55 #[.slice A0 l0.length c0, .int .i64 a1] w fun e w' => e = .returned (.bool r) ∧ Drawn0 w w' := by
 have HR0 := Aside0.mk hr0
 have HC0 := Aside0.mk hc0
 clear hr0 hc0
 have H : (earshotlaw03_few.l0 k l0 a1 0) = some r := h
 clear h
 have H' := Aside0.mk H
 clear H
 go_enter Tryd.func55, Tryd.ntmps55
 go_wp2
 go_loopg [5] k (fun kq v5 w' => ∃ (x5_1 : Int), v5 = .int .i64 x5_1 ∧ Aside0 (earshotlaw03_few.l0 kq l0 a1 x5_1 = some r) ∧ Aside0 (kq ≤ k) ∧ Drawn0 w w')
 case atStart => exact ⟨(0), (by first | rfl | (simp; done) | (simp only [i64_w]; done) | (simp [*]; done)), H', ⟨Nat.le_refl _⟩, by repeat (first | exact Drawn0.refl _ | apply Drawn0.step)⟩
 case round =>
  clear H'
  try clear p2
  obtain ⟨x5_1, rfl, HA, HK1, ⟨m1, rfl⟩⟩ := hrel
  cases gk with
  | zero => exact absurd HA.out (by simp [earshotlaw03_few.l0])
  | succ k1 =>
   have H := HA.out
   clear HA
   simp only [earshotlaw03_few.l0] at H
   have HC3 := Aside0.mk H
   clear H
   go_upto_region 2 with (fail)
   go_cut [14] (fun v14 wc => ∃ (kq : Nat) (x14_2 : Bool), v14 = .bool x14_2 ∧ Aside0 (earshotlaw03_few.j1 kq l0 a1 x5_1 x14_2 = some r) ∧ Aside0 (kq ≤ k1) ∧ Drawn0 w wc)
   case first =>
    have H := HC3.out
    clear HC3
    by_cases c4 : x5_1 < (l0.length : Int)
    ·rw [if_pos c4] at H
     have c4b0 := decide_eq_true c4
     clear c4
     (first | rw [c4b0] | (simp only [i64_w, i32_w]; rw [c4b0]) | skip)
     have H' := Aside0.mk H
     clear H
     go_wp2
     go_meet
     case rel => exact ⟨_, (decide (x5_1 ≤ a1)), (by first | rfl | (simp; done) | (simp only [i64_w]; done) | (simp [*]; done)), H', ⟨by have := HK1.out; first | omega | exact Nat.le_refl _⟩, by repeat (first | exact Drawn0.refl _ | apply Drawn0.step)⟩
    ·rw [if_neg c4] at H
     have c4b0 := decide_eq_false c4
     clear c4
     (first | rw [c4b0] | (simp only [i64_w, i32_w]; rw [c4b0]) | skip)
     have H' := Aside0.mk H
     clear H
     go_wp2
     go_meet
     case rel => exact ⟨_, (false), (by first | rfl | (simp; done) | (simp only [i64_w]; done) | (simp [*]; done)), H', ⟨by have := HK1.out; first | omega | exact Nat.le_refl _⟩, by repeat (first | exact Drawn0.refl _ | apply Drawn0.step)⟩
   case rest =>
    clear HC3
    try clear p2
    try clear c4
    try clear c4b0
    try clear p2
    obtain ⟨kq, x14_2, rfl, HA, HJ2, ⟨mc2, rfl⟩⟩ := hcut
    cases kq with
    | zero => exact absurd HA.out (by simp [earshotlaw03_few.j1])
    | succ kj2 =>
     have H := HA.out
     clear HA
     simp only [earshotlaw03_few.j1] at H
     by_cases c5 : x14_2 = true
     ·subst c5
      have H1 : (if 0 ≤ x5_1 then (if x5_1 < (l0.length : Int) then (if ((rd_L2 l0 x5_1).length : Int) > 70 then (some false) else (earshotlaw03_few.l0 kj2 l0 a1 (wrap64 (x5_1 + 1)))) else (none)) else (none)) = some r := by rw [if_pos rfl] at H; exact H
      clear H
      have H := H1
      clear H1
      by_cases c6 : 0 ≤ x5_1
      ·rw [if_pos c6] at H
       have c6b0 := decide_eq_true c6
       clear c6
       by_cases c7 : x5_1 < (l0.length : Int)
       ·rw [if_pos c7] at H
        have c7b0 := decide_eq_true c7
        clear c7
        by_cases c8 : ((rd_L2 l0 x5_1).length : Int) > 70
        ·rw [if_pos c8] at H
         have c8b0 : decide (70 < ((rd_L2 l0 x5_1).length : Int)) = true := decide_eq_true c8
         have c8b1 : decide (70 < (rd_L2 l0 x5_1).length) = true := decide_eq_true (by omega)
         clear c8
         obtain rfl := Option.some.inj H
         have p101 : 0 ≤ (x5_1 : Int) := of_decide_eq_true tA
         have q101 : x5_1 < (l0.length : Int) := of_decide_eq_true tA
         obtain ⟨ad101, A101_0, c101_0, e101, hx101_0, hl101_0, hi101_0⟩ := at_L2 HR0.out x5_1 p101 q101
         cases e101
         have HR101_0 := Aside0.mk hi101_0
         have HC101_0 := Aside0.mk hl101_0
         clear hi101_0 hl101_0
         replace p101 := eq_true p101
         replace q101 := eq_true q101
         go_wp2
         go_ret
         exact ⟨by first | rfl | (simp; done) | (simp [*]; done), by repeat (first | exact Drawn0.refl _ | apply Drawn0.step)⟩
        ·rw [if_neg c8] at H
         have c8b0 : decide (70 < ((rd_L2 l0 x5_1).length : Int)) = false := decide_eq_false c8
         have c8b1 : decide (70 < (rd_L2 l0 x5_1).length) = false := decide_eq_false (by omega)
         clear c8
         have H' := Aside0.mk H
         clear H
         have p101 : 0 ≤ (x5_1 : Int) := of_decide_eq_true tA
         have q101 : x5_1 < (l0.length : Int) := of_decide_eq_true tA
         obtain ⟨ad101, A101_0, c101_0, e101, hx101_0, hl101_0, hi101_0⟩ := at_L2 HR0.out x5_1 p101 q101
         cases e101
         have HR101_0 := Aside0.mk hi101_0
         have HC101_0 := Aside0.mk hl101_0
         clear hi101_0 hl101_0
         replace p101 := eq_true p101
         replace q101 := eq_true q101
         go_wp2
         go_roundg kj2
         case measure => have := HK1.out; have := HJ2.out; omega
         case rel => exact ⟨(wrap64 (x5_1 + 1)), (by first | rfl | (simp; done) | (simp only [i64_w]; done) | (simp [*]; done)), H', ⟨by have := HK1.out; have := HJ2.out; omega⟩, by repeat (first | exact Drawn0.refl _ | apply Drawn0.step)⟩
       ·rw [if_neg c7] at H
        exact absurd H (by simp)
      ·rw [if_neg c6] at H
       exact absurd H (by simp)
     ·replace c5 := Bool.eq_false_iff.mpr c5
      subst c5
      have H1 : (if (l0.length : Int) ≤ a1 then (some true) else (if (l0.length : Int) > 10000 then (some (decide ((l0.length : Int) < 20000))) else (some false))) = some r := by rw [if_neg (show ¬ (false = true) by decide)] at H; exact H
      clear H
      have H := H1
      clear H1
      by_cases c9 : (l0.length : Int) ≤ a1
      ·rw [if_pos c9] at H
       have c9b0 := decide_eq_true c9
       clear c9
       obtain rfl := Option.some.inj H
       go_wp2
       go_ret
       exact ⟨by first | rfl | (simp; done) | (simp [*]; done), by repeat (first | exact Drawn0.refl _ | apply Drawn0.step)⟩
      ·rw [if_neg c9] at H
       have c9b0 := decide_eq_false c9
       clear c9
       by_cases c10 : (l0.length : Int) > 10000
       ·rw [if_pos c10] at H
        have c10b0 : decide (10000 < (l0.length : Int)) = true := decide_eq_true c10
        have c10b1 : decide (10000 < l0.length) = true := decide_eq_true (by omega)
        clear c10
        obtain rfl := Option.some.inj H
        go_wp2
        go_ret
        exact ⟨by first | rfl | (simp; done) | (simp [*]; done), by repeat (first | exact Drawn0.refl _ | apply Drawn0.step)⟩
       ·rw [if_neg c10] at H
        have c10b0 : decide (10000 < (l0.length : Int)) = false := decide_eq_false c10
        have c10b1 : decide (10000 < l0.length) = false := decide_eq_false (by omega)
        clear c10
        obtain rfl := Option.some.inj H
        go_wp2
        go_ret
        exact ⟨by first | rfl | (simp; done) | (simp [*]; done), by repeat (first | exact Drawn0.refl _ | apply Drawn0.step)⟩

end Go.Proofs.YtdlbmbijobcljaaDoor.X

namespace Go.Proofs.YtdlbmbijobcljaaDoor.Pure
open Go.RowKit Go.Proofs.YtdlbmbijobcljaaDoor.X Go.Proofs.YtdlbmbijobcljaaDoorW.PrintWords Go.Proofs.YtdlbmbijobcljaaDoorW.PrintLast Go.Proofs.YtdlbmbijobcljaaDoorW.PrintMore
set_option linter.unusedVariables false
set_option linter.unusedSimpArgs false
/-- A loop that counts up: from its end back to any index. -/
theorem up {α : Type} (G : Nat → Nat → Option α) (R : Nat → α) (n : Nat) (hend : Ev (G n) (R n)) (hstep : ∀ j, j < n → Ev (G (j + 1)) (R (j + 1)) → Ev (G j) (R j)) : ∀ j, j ≤ n → Ev (G j) (R j) := by
  have key : ∀ d j, j + d = n → Ev (G j) (R j) := by
    intro d
    induction d with
    | zero => intro j h; rw [show j = n by omega]; exact hend
    | succ d ih => intro j h; exact hstep j (by omega) (ih (j + 1) (by omega))
  intro j hj
  exact key (n - j) j (by omega)
theorem rd2_nat (v : List (List Int)) (j : Nat) : rd_L2 v (j : Int) = v.getD j [] := by unfold rd_L2; rw [Int.toNat_natCast]
theorem rd2_zero (v : List (List Int)) : rd_L2 v 0 = v.getD 0 [] := rfl
theorem rd2_lt (v : List (List Int)) (j : Nat) (h : j < v.length) : rd_L2 v (j : Int) = v[j] := by rw [rd2_nat, List.getD_eq_getElem?_getD, List.getElem?_eq_getElem h]; rfl
theorem drop_cons {α : Type} (v : List α) (j : Nat) (h : j < v.length) : v.drop j = v[j] :: v.drop (j + 1) := List.drop_eq_getElem_cons h
/-- One vector of c components. -/
def vecOne (c : Nat) (x : List Int) : Bool := x.length == c && decide (1 ≤ x.length) && decide (x.length ≤ 64) && allIn x (-1048576) 1048576
def vecsOK (v : List (List Int)) : Bool := v.all (vecOne (v.getD 0 []).length)
def errB (b : Bool) : Int := cond b 0 2
/-- The error of a list of vectors. -/
def wrongOf (v : List (List Int)) : Int := if v.length > 10000 then 5 else errB (vecsOK v)
theorem vectors_ev (v : List (List Int)) (hv : v.length ≤ 9223372036854775807) : Ev (fun k => feature_vectors.f k v) (wrongOf v) := by
  unfold wrongOf
  by_cases h0 : v.length > 10000
  · rw [if_pos h0]
    refine Ev.congr (fun k => ?_) (Ev.now _)
    unfold feature_vectors.f
    rw [if_pos (by omega)]
  · rw [if_neg h0]
    have h1 := up (fun j k => feature_vectors.l0 k v v (v.length : Int) (j : Int)) (fun j => errB ((v.drop j).all (vecOne (v.getD 0 []).length))) v.length (by
        refine Ev.step (f := fun _ => some 0) (fun k => ?_) (by rw [List.drop_length]; exact Ev.now _)
        simp only [feature_vectors.l0]
        rw [if_neg (by omega)]) (by
        rintro j hj ⟨K, ih⟩
        refine ⟨K + 1, fun k hk => ?_⟩
        obtain ⟨m, rfl⟩ : ∃ m, k = m + 1 := ⟨k - 1, by omega⟩
        have ih := ih m (by omega)
        simp only [feature_vectors.l0]
        rw [if_pos (by omega), if_pos (by omega), if_pos (by omega), if_pos (by omega), rd2_lt v j hj, rd2_zero, within_at _ _ (by omega) (by omega), w64 (n := (j : Int) + 1) (by omega) (by omega), drop_cons v j hj]
        simp only [List.all_cons, vecOne, Option.bind_some]
        by_cases a1 : v[j].length = (v.getD 0 []).length
        · rw [if_pos (by omega)]
          by_cases a2 : v[j].length < 1
          · rw [if_pos (by omega), (decide_eq_false (by omega) : decide (1 ≤ v[j].length) = false)]; simp [errB]
          · rw [if_neg (by omega)]
            by_cases a3 : v[j].length > 64
            · rw [if_pos (by omega), (decide_eq_false (by omega) : decide (v[j].length ≤ 64) = false)]; simp [errB]
            · rw [if_neg (by omega)]
              cases a4 : allIn v[j] (-1048576) 1048576 with
              | false => simp [errB]
              | true =>
                rw [if_pos rfl]
                refine Eq.trans ih ?_
                have b1 : (v[j].length == (v.getD 0 []).length) = true := by simpa using a1
                have b2 : decide (1 ≤ v[j].length) = true := decide_eq_true (by omega)
                have b3 : decide (v[j].length ≤ 64) = true := decide_eq_true (by omega)
                rw [b1, b2, b3]
                simp only [Bool.true_and]
        · rw [if_neg (by omega)]
          have b1 : (v[j].length == (v.getD 0 []).length) = false := by simpa using a1
          rw [b1]
          simp [errB]) 0 (by omega)
    refine Ev.congr (fun k => ?_) h1
    unfold feature_vectors.f
    rw [if_neg (by omega)]
    rfl
theorem Vectors_ev (v : List (List Int)) (hv : v.length ≤ 9223372036854775807) : Ev (fun k => earshotref03_Vectors.f k v) (vecsOK v) := by
  have h1 := up (fun j k => earshotref03_Vectors.l0 k v (j : Int)) (fun j => (v.drop j).all (vecOne (v.getD 0 []).length)) v.length (by
        refine Ev.step (f := fun _ => some true) (fun k => ?_) (by rw [List.drop_length]; exact Ev.now _)
        simp only [earshotref03_Vectors.l0]
        rw [if_neg (by omega)]) (by
        rintro j hj ⟨K, ih⟩
        rw [drop_cons v j hj]
        simp only [List.all_cons, vecOne]
        by_cases a2 : v[j].length < 1
        · refine ⟨1, fun k hk => ?_⟩
          obtain ⟨m, rfl⟩ : ∃ m, k = m + 1 := ⟨k - 1, by omega⟩
          simp only [earshotref03_Vectors.l0]
          rw [rd2_lt v j hj, if_pos (by omega), if_pos (by omega), if_pos (by omega)]
          rw [(decide_eq_false (by omega) : decide (1 ≤ v[j].length) = false)]
          simp
        · by_cases a3 : v[j].length > 64
          · refine ⟨1, fun k hk => ?_⟩
            obtain ⟨m, rfl⟩ : ∃ m, k = m + 1 := ⟨k - 1, by omega⟩
            simp only [earshotref03_Vectors.l0]
            rw [rd2_lt v j hj, if_pos (by omega), if_pos (by omega), if_neg (by omega), if_pos (by omega)]
            rw [(decide_eq_false (by omega) : decide (v[j].length ≤ 64) = false)]
            simp
          · obtain ⟨K2, ha⟩ := all_ev v[j] (-1048576) 1048576 (by omega)
            refine ⟨K + K2 + 1, fun k hk => ?_⟩
            obtain ⟨m, rfl⟩ : ∃ m, k = m + 1 := ⟨k - 1, by omega⟩
            have ih := ih m (by omega)
            have ha := ha m (by omega)
            dsimp only at ha
            simp only [earshotref03_Vectors.l0]
            rw [rd2_lt v j hj, rd2_zero, if_pos (by omega), if_pos (by omega), if_neg (by omega), if_neg (by omega), if_pos (by omega), ha, w64 (n := (j : Int) + 1) (by omega) (by omega)]
            simp only [Option.bind_some]
            by_cases a1 : v[j].length = (v.getD 0 []).length
            · rw [if_pos (by omega)]
              cases a4 : allIn v[j] (-1048576) 1048576 with
              | false => simp
              | true =>
                rw [if_pos rfl]
                refine Eq.trans ih ?_
                have b1 : (v[j].length == (v.getD 0 []).length) = true := by simpa using a1
                have b2 : decide (1 ≤ v[j].length) = true := decide_eq_true (by omega)
                have b3 : decide (v[j].length ≤ 64) = true := decide_eq_true (by omega)
                rw [b1, b2, b3]
                simp only [Bool.true_and]
            · rw [if_neg (by omega)]
              have b1 : (v[j].length == (v.getD 0 []).length) = false := by simpa using a1
              rw [b1]
              simp) 0 (by omega)
  exact h1
theorem Wrong_ev (v : List (List Int)) (hv : v.length ≤ 9223372036854775807) : Ev (fun k => earshotref03_Wrong.f k v) (wrongOf v) := by
  unfold wrongOf
  by_cases h0 : v.length > 10000
  · rw [if_pos h0]
    refine Ev.congr (fun k => ?_) (Ev.now _)
    unfold earshotref03_Wrong.f
    rw [if_pos (by omega)]
  · rw [if_neg h0]
    obtain ⟨K, h1⟩ := Vectors_ev v hv
    refine ⟨K, fun k hk => ?_⟩
    have h1 := h1 k hk
    dsimp only at h1 ⊢
    unfold earshotref03_Wrong.f
    rw [if_neg (by omega), h1, Option.bind_some]
    cases vecsOK v <;> rfl
/-- Few vectors, or too many. -/
def fewOf (v : List (List Int)) (m : Nat) : Bool := (v.take (m + 1)).all (fun x => decide (x.length ≤ 70)) && (decide (v.length ≤ m) || (decide (v.length > 10000) && decide (v.length < 20000)))
theorem few_ev (v : List (List Int)) (m : Nat) (hm : m ≤ 100) (hv : v.length ≤ 9223372036854775807) : Ev (fun k => earshotlaw03_few.f k v (m : Int)) (fewOf v m) := by
  have stop : ∀ j : Int, Ev (fun k => earshotlaw03_few.j1 k v (m : Int) j false) (decide (v.length ≤ m) || (decide (v.length > 10000) && decide (v.length < 20000))) := by
    intro j
    refine Ev.step (f := fun k => some (decide (v.length ≤ m) || (decide (v.length > 10000) && decide (v.length < 20000)))) (fun k => ?_) (Ev.now _)
    simp only [earshotlaw03_few.j1]
    rw [if_neg (by simp)]
    by_cases a1 : v.length ≤ m
    · rw [if_pos (by omega), decide_eq_true a1]; rfl
    · rw [if_neg (by omega), decide_eq_false a1]
      by_cases a2 : v.length > 10000
      · rw [if_pos (by omega), decide_eq_true a2]
        simp only [Bool.false_or, Bool.true_and]
        congr 2
        exact propext ⟨fun h => by omega, fun h => by omega⟩
      · rw [if_neg (by omega), decide_eq_false a2]; rfl
  have h1 := up (fun j k => earshotlaw03_few.l0 k v (m : Int) (j : Int)) (fun j => ((v.take (m + 1)).drop j).all (fun x => decide (x.length ≤ 70)) && (decide (v.length ≤ m) || (decide (v.length > 10000) && decide (v.length < 20000)))) (v.take (m + 1)).length (by
        rw [List.drop_length]
        simp only [List.all_nil, Bool.true_and]
        rw [List.length_take]
        refine Ev.step (fun k => ?_) (stop ((min (m + 1) v.length : Nat) : Int))
        simp only [earshotlaw03_few.l0]
        by_cases a1 : v.length ≤ m + 1
        · rw [if_neg (by omega)]
        · rw [if_pos (by omega), decide_eq_false (by omega)]) (by
        rintro j hj ⟨K, ih⟩
        have hj2 := hj
        rw [List.length_take] at hj2
        rw [drop_cons _ j hj, List.all_cons]
        have e : (v.take (m + 1))[j] = v[j]'(by omega) := by rw [List.getElem_take]
        rw [e]
        refine ⟨K + 2, fun k hk => ?_⟩
        obtain ⟨q, rfl⟩ : ∃ q, k = q + 1 + 1 := ⟨k - 2, by omega⟩
        have ih := ih q (by omega)
        simp only [earshotlaw03_few.l0]
        rw [if_pos (by omega), decide_eq_true (by omega)]
        simp only [earshotlaw03_few.j1]
        rw [if_pos trivial, if_pos (by omega), if_pos (by omega), rd2_lt v j (by omega), w64 (n := (j : Int) + 1) (by omega) (by omega)]
        by_cases a1 : v[j].length > 70
        · rw [if_pos (by omega), decide_eq_false (by omega)]; simp
        · rw [if_neg (by omega), decide_eq_true (by omega)]
          refine Eq.trans ih ?_
          simp only [Bool.true_and]) 0 (by omega)
  exact h1
theorem same_dec (l m : List Int) (hl : l.length ≤ 4611686018427387904) : Ev (fun k => earshotref02_Same.f k l m) (decide (l = m)) := by
  by_cases hlen : l.length = m.length
  · have h1 := up (fun j k => earshotref02_Same.l0 k l m (j : Int)) (fun j => decide (l.drop j = m.drop j)) l.length (by
        refine Ev.step (f := fun _ => some true) (fun k => ?_) (by rw [List.drop_length, hlen, List.drop_length]; simpa using Ev.now true)
        simp only [earshotref02_Same.l0]
        rw [if_neg (by omega)]) (by
        rintro j hj ⟨K, ih⟩
        refine ⟨K + 1, fun k hk => ?_⟩
        obtain ⟨q, rfl⟩ : ∃ q, k = q + 1 := ⟨k - 1, by omega⟩
        have ih := ih q (by omega)
        simp only [earshotref02_Same.l0]
        have hjm : j < m.length := by omega
        rw [if_pos (by omega), if_pos (by omega), if_pos (by omega), w64 (n := (j : Int) + 1) (by omega) (by omega), drop_cons l j hj, drop_cons m j hjm, rd_nat, rd_nat, List.getD_eq_getElem?_getD, List.getElem?_eq_getElem hj, List.getD_eq_getElem?_getD, List.getElem?_eq_getElem hjm]
        simp only [Option.getD_some]
        by_cases e : l[j] = m[j]
        · rw [if_pos e]
          refine Eq.trans ih ?_
          rw [e]
          simp only [List.cons.injEq, true_and]
        · rw [if_neg e]
          simp only [List.cons.injEq, e, false_and, decide_false]) 0 (by omega)
    refine Ev.congr (fun k => ?_) h1
    unfold earshotref02_Same.f
    rw [if_pos (by omega)]
    rfl
  · rw [decide_eq_false (by rintro rfl; exact hlen rfl)]
    refine Ev.congr (fun k => ?_) (Ev.now _)
    unfold earshotref02_Same.f
    rw [if_neg (by omega)]
theorem sameLists_dec (l m : List (List Int)) (hl : l.length ≤ 4611686018427387904) (hr : ∀ x ∈ l, x.length ≤ 4611686018427387904) : Ev (fun k => earshotref02_SameLists.f k l m) (decide (l = m)) := by
  by_cases hlen : l.length = m.length
  · have h1 := up (fun j k => earshotref02_SameLists.l0 k l m (j : Int)) (fun j => decide (l.drop j = m.drop j)) l.length (by
        refine Ev.step (f := fun _ => some true) (fun k => ?_) (by rw [List.drop_length, hlen, List.drop_length]; simpa using Ev.now true)
        simp only [earshotref02_SameLists.l0]
        rw [if_neg (by omega)]) (by
        rintro j hj ⟨K, ih⟩
        have hjm : j < m.length := by omega
        obtain ⟨K2, hs⟩ := same_dec l[j] m[j] (hr _ (List.getElem_mem hj))
        refine ⟨K + K2 + 1, fun k hk => ?_⟩
        obtain ⟨q, rfl⟩ : ∃ q, k = q + 1 := ⟨k - 1, by omega⟩
        have ih := ih q (by omega)
        have hs := hs q (by omega)
        dsimp only at hs
        simp only [earshotref02_SameLists.l0]
        rw [if_pos (by omega), if_pos (by omega), if_pos (by omega), w64 (n := (j : Int) + 1) (by omega) (by omega), drop_cons l j hj, drop_cons m j hjm, rd2_lt l j hj, rd2_lt m j hjm, hs, Option.bind_some]
        by_cases e : l[j] = m[j]
        · rw [if_pos (by simpa using e)]
          refine Eq.trans ih ?_
          rw [e]
          simp only [List.cons.injEq, true_and]
        · rw [if_neg (by simpa using e)]
          simp only [List.cons.injEq, e, false_and, decide_false]) 0 (by omega)
    refine Ev.congr (fun k => ?_) h1
    unfold earshotref02_SameLists.f
    rw [if_pos (by omega)]
    rfl
  · rw [decide_eq_false (by rintro rfl; exact hlen rfl)]
    refine Ev.congr (fun k => ?_) (Ev.now _)
    unfold earshotref02_SameLists.f
    rw [if_neg (by omega)]
end Go.Proofs.YtdlbmbijobcljaaDoor.Pure
