/- Merged by a program of this session's own (wip/print/merge.py): X55, X25, X61, X58, X62, X73, X70, X72, X74, X18, X24. No law stands here; conditions: none. -/
import Derived.Test.YtdlbmbijobcljaaDoorMA
import Derived.Test.YtdlbmbijobcljaaDoorMB
import Derived.Test.YtdlbmbijobcljaaDoorMK
namespace Go.Proofs.YtdlbmbijobcljaaDoor.X
open Go.RowKit Go.Proofs.YtdlbmbijobcljaaDoorW.PrintWords Go.Proofs.YtdlbmbijobcljaaDoorW.PrintLast Go.Proofs.YtdlbmbijobcljaaDoorW.PrintMore
attribute [local go_sem] max2_int min2_int max_two min_two max_three min_three max_four min_four   -- for this text's walks alone
set_option linter.unusedVariables false
set_option linter.unusedSimpArgs false
/-! ### earshotlaw03_few: function 55 -/
mutual
def earshotlaw03_few.l0 : Nat → List (List Int) → Int → Int → Option (Bool)
 | 0, _, _, _ => none
 | k + 1, x0, x1, x5 => if x5 < (x0.length : Int) then (earshotlaw03_few.j1 k x0 x1 x5 (decide (x5 ≤ x1))) else (earshotlaw03_few.j1 k x0 x1 x5 false)
def earshotlaw03_few.j1 : Nat → List (List Int) → Int → Int → Bool → Option (Bool)
 | 0, _, _, _, _ => none
 | k + 1, x0, x1, x5, x14 => if x14 = true then (if 0 ≤ x5 then (if x5 < (x0.length : Int) then (if ((rd_L2 x0 x5).length : Int) > 70 then (some false) else (earshotlaw03_few.l0 k x0 x1 (wrap64 (x5 + 1)))) else (none)) else (none)) else (if (x0.length : Int) ≤ x1 then (some true) else (if (x0.length : Int) > 10000 then (some (decide ((x0.length : Int) < 20000))) else (some false)))
end
def earshotlaw03_few.f (k : Nat) (l0 : List (List Int)) (a1 : Int) : Option (Bool) := earshotlaw03_few.l0 k l0 a1 0
theorem earshotlaw03_few.mono_l : ∀ k, (∀ y0 y1 y2, LeO (earshotlaw03_few.l0 k y0 y1 y2) (earshotlaw03_few.l0 (k + 1) y0 y1 y2)) ∧ (∀ y0 y1 y2 y3, LeO (earshotlaw03_few.j1 k y0 y1 y2 y3) (earshotlaw03_few.j1 (k + 1) y0 y1 y2 y3))
 | 0 => ⟨fun _ _ _ r h => by simp [earshotlaw03_few.l0] at h, fun _ _ _ _ r h => by simp [earshotlaw03_few.j1] at h⟩
 | k + 1 => by
  obtain ⟨ih0, ih1⟩ := earshotlaw03_few.mono_l k
  refine ⟨?_, ?_⟩
  ·intro y0 y1 y2
   unfold earshotlaw03_few.l0
   repeat' first
   | (with_reducible exact ih0 _ _ _)
   | (with_reducible exact ih1 _ _ _ _)
   | (with_reducible exact LeO.refl _)
   | (with_reducible exact LeO.none _)
   | (with_reducible refine LeO.ite ?_ ?_)
   | (with_reducible refine LeO.bind ?_ (fun _ => ?_))
   | exact ih0 _ _ _
   | exact ih1 _ _ _ _
   | exact LeO.none _
   | refine LeO.ite ?_ ?_
   | refine LeO.bind ?_ (fun _ => ?_)
  ·intro y0 y1 y2 y3
   unfold earshotlaw03_few.j1
   repeat' first
   | (with_reducible exact ih0 _ _ _)
   | (with_reducible exact ih1 _ _ _ _)
   | (with_reducible exact LeO.refl _)
   | (with_reducible exact LeO.none _)
   | (with_reducible refine LeO.ite ?_ ?_)
   | (with_reducible refine LeO.bind ?_ (fun _ => ?_))
   | exact ih0 _ _ _
   | exact ih1 _ _ _ _
   | exact LeO.none _
   | refine LeO.ite ?_ ?_
   | refine LeO.bind ?_ (fun _ => ?_)
theorem earshotlaw03_few.mono : ∀ a0 a1 k, LeO (earshotlaw03_few.f k a0 a1) (earshotlaw03_few.f (k + 1) a0 a1) := by
 intro a0 a1 k
 obtain ⟨ih0, ih1⟩ := earshotlaw03_few.mono_l k
 unfold earshotlaw03_few.f
 repeat' first
   | (with_reducible exact ih0 _ _ _)
   | (with_reducible exact ih1 _ _ _ _)
   | (with_reducible exact LeO.refl _)
   | (with_reducible exact LeO.none _)
   | (with_reducible refine LeO.ite ?_ ?_)
   | (with_reducible refine LeO.bind ?_ (fun _ => ?_))
   | exact ih0 _ _ _
   | exact ih1 _ _ _ _
   | exact LeO.none _
   | refine LeO.ite ?_ ?_
   | refine LeO.bind ?_ (fun _ => ?_)
set_option maxHeartbeats 8000000 in
set_option maxRecDepth 100000 in
theorem earshotlaw03_few.calls (k : Nat) (A0 : Option Addr) (c0 : Nat) (l0 : List (List Int)) (a1 : Int) (r : Bool) (w : World) (hr0 : Kd.C (Kd.slice 3 (Kd.int .i64)) w A0 l0.length l0) (hc0 : l0.length ≤ c0) (h : earshotlaw03_few.f k l0 a1 = some r) :
  Calls Tryd.prog 55 #[.slice A0 l0.length c0, .int .i64 a1] w fun e w' => e = .returned (.bool r) ∧ Drawn0 w w' := by
 have HR0 := Aside0.mk hr0
 have HC0 := Aside0.mk hc0
 clear hr0 hc0
 have H : (earshotlaw03_few.l0 k l0 a1 0) = some r := h
 clear h
 have H' := Aside0.mk H
 clear H
 go_enter Tryd.func55, Tryd.ntmps55
 go_wp2
 go_loopg [5] k (fun kq v5 w' => ∃ (x5_1 : Int), v5 = .int .i64 x5_1 ∧ Aside0 (earshotlaw03_few.l0 kq l0 a1 x5_1 = some r) ∧ Aside0 (kq ≤ k) ∧ Drawn0 w w')
 case atStart => exact ⟨(0), (by first | rfl | (simp; done) | (simp only [i64_w]; done) | (simp [*]; done)), H', ⟨Nat.le_refl _⟩, by repeat (first | exact Drawn0.refl _ | apply Drawn0.step)⟩
 case round =>
  clear H'
  try clear p2
  obtain ⟨x5_1, rfl, HA, HK1, ⟨m1, rfl⟩⟩ := hrel
  cases gk with
  | zero => exact absurd HA.out (by simp [earshotlaw03_few.l0])
  | succ k1 =>
   have H := HA.out
   clear HA
   simp only [earshotlaw03_few.l0] at H
   have HC3 := Aside0.mk H
   clear H
   go_upto_region 2 with (fail)
   go_cut [14] (fun v14 wc => ∃ (kq : Nat) (x14_2 : Bool), v14 = .bool x14_2 ∧ Aside0 (earshotlaw03_few.j1 kq l0 a1 x5_1 x14_2 = some r) ∧ Aside0 (kq ≤ k1) ∧ Drawn0 w wc)
   case first =>
    have H := HC3.out
    clear HC3
    by_cases c4 : x5_1 < (l0.length : Int)
    ·rw [if_pos c4] at H
     have c4b0 := decide_eq_true c4
     clear c4
     (first | rw [c4b0] | (simp only [i64_w, i32_w]; rw [c4b0]) | skip)
     have H' := Aside0.mk H
     clear H
     go_wp2
     go_meet
     case rel => exact ⟨_, (decide (x5_1 ≤ a1)), (by first | rfl | (simp; done) | (simp only [i64_w]; done) | (simp [*]; done)), H', ⟨by have := HK1.out; first | omega | exact Nat.le_refl _⟩, by repeat (first | exact Drawn0.refl _ | apply Drawn0.step)⟩
    ·rw [if_neg c4] at H
     have c4b0 := decide_eq_false c4
     clear c4
     (first | rw [c4b0] | (simp only [i64_w, i32_w]; rw [c4b0]) | skip)
     have H' := Aside0.mk H
     clear H
     go_wp2
     go_meet
     case rel => exact ⟨_, (false), (by first | rfl | (simp; done) | (simp only [i64_w]; done) | (simp [*]; done)), H', ⟨by have := HK1.out; first | omega | exact Nat.le_refl _⟩, by repeat (first | exact Drawn0.refl _ | apply Drawn0.step)⟩
   case rest =>
    clear HC3
    try clear p2
    try clear c4
    try clear c4b0
    try clear p2
    obtain ⟨kq, x14_2, rfl, HA, HJ2, ⟨mc2, rfl⟩⟩ := hcut
    cases kq with
    | zero => exact absurd HA.out (by simp [earshotlaw03_few.j1])
    | succ kj2 =>
     have H := HA.out
     clear HA
     simp only [earshotlaw03_few.j1] at H
     by_cases c5 : x14_2 = true
     ·subst c5
      have H1 : (if 0 ≤ x5_1 then (if x5_1 < (l0.length : Int) then (if ((rd_L2 l0 x5_1).length : Int) > 70 then (some false) else (earshotlaw03_few.l0 kj2 l0 a1 (wrap64 (x5_1 + 1)))) else (none)) else (none)) = some r := by rw [if_pos rfl] at H; exact H
      clear H
      have H := H1
      clear H1
      by_cases c6 : 0 ≤ x5_1
      ·rw [if_pos c6] at H
       have c6b0 := decide_eq_true c6
       clear c6
       by_cases c7 : x5_1 < (l0.length : Int)
       ·rw [if_pos c7] at H
        have c7b0 := decide_eq_true c7
        clear c7
        by_cases c8 : ((rd_L2 l0 x5_1).length : Int) > 70
        ·rw [if_pos c8] at H
         have c8b0 : decide (70 < ((rd_L2 l0 x5_1).length : Int)) = true := decide_eq_true c8
         have c8b1 : decide (70 < (rd_L2 l0 x5_1).length) = true := decide_eq_true (by omega)
         clear c8
         obtain rfl := Option.some.inj H
         have p101 : 0 ≤ (x5_1 : Int) := of_decide_eq_true tA
         have q101 : x5_1 < (l0.length : Int) := of_decide_eq_true tA
         obtain ⟨ad101, A101_0, c101_0, e101, hx101_0, hl101_0, hi101_0⟩ := at_L2 HR0.out x5_1 p101 q101
         cases e101
         have HR101_0 := Aside0.mk hi101_0
         have HC101_0 := Aside0.mk hl101_0
         clear hi101_0 hl101_0
         replace p101 := eq_true p101
         replace q101 := eq_true q101
         go_wp2
         go_ret
         exact ⟨by first | rfl | (simp; done) | (simp [*]; done), by repeat (first | exact Drawn0.refl _ | apply Drawn0.step)⟩
        ·rw [if_neg c8] at H
         have c8b0 : decide (70 < ((rd_L2 l0 x5_1).length : Int)) = false := decide_eq_false c8
         have c8b1 : decide (70 < (rd_L2 l0 x5_1).length) = false := decide_eq_false (by omega)
         clear c8
         have H' := Aside0.mk H
         clear H
         have p101 : 0 ≤ (x5_1 : Int) := of_decide_eq_true tA
         have q101 : x5_1 < (l0.length : Int) := of_decide_eq_true tA
         obtain ⟨ad101, A101_0, c101_0, e101, hx101_0, hl101_0, hi101_0⟩ := at_L2 HR0.out x5_1 p101 q101
         cases e101
         have HR101_0 := Aside0.mk hi101_0
         have HC101_0 := Aside0.mk hl101_0
         clear hi101_0 hl101_0
         replace p101 := eq_true p101
         replace q101 := eq_true q101
         go_wp2
         go_roundg kj2
         case measure => have := HK1.out; have := HJ2.out; omega
         case rel => exact ⟨(wrap64 (x5_1 + 1)), (by first | rfl | (simp; done) | (simp only [i64_w]; done) | (simp [*]; done)), H', ⟨by have := HK1.out; have := HJ2.out; omega⟩, by repeat (first | exact Drawn0.refl _ | apply Drawn0.step)⟩
       ·rw [if_neg c7] at H
        exact absurd H (by simp)
      ·rw [if_neg c6] at H
       exact absurd H (by simp)
     ·replace c5 := Bool.eq_false_iff.mpr c5
      subst c5
      have H1 : (if (l0.length : Int) ≤ a1 then (some true) else (if (l0.length : Int) > 10000 then (some (decide ((l0.length : Int) < 20000))) else (some false))) = some r := by rw [if_neg (show ¬ (false = true) by decide)] at H; exact H
      clear H
      have H := H1
      clear H1
      by_cases c9 : (l0.length : Int) ≤ a1
      ·rw [if_pos c9] at H
       have c9b0 := decide_eq_true c9
       clear c9
       obtain rfl := Option.some.inj H
       go_wp2
       go_ret
       exact ⟨by first | rfl | (simp; done) | (simp [*]; done), by repeat (first | exact Drawn0.refl _ | apply Drawn0.step)⟩
      ·rw [if_neg c9] at H
       have c9b0 := decide_eq_false c9
       clear c9
       by_cases c10 : (l0.length : Int) > 10000
       ·rw [if_pos c10] at H
        have c10b0 : decide (10000 < (l0.length : Int)) = true := decide_eq_true c10
        have c10b1 : decide (10000 < l0.length) = true := decide_eq_true (by omega)
        clear c10
        obtain rfl := Option.some.inj H
        go_wp2
        go_ret
        exact ⟨by first | rfl | (simp; done) | (simp [*]; done), by repeat (first | exact Drawn0.refl _ | apply Drawn0.step)⟩
       ·rw [if_neg c10] at H
        have c10b0 : decide (10000 < (l0.length : Int)) = false := decide_eq_false c10
        have c10b1 : decide (10000 < l0.length) = false := decide_eq_false (by omega)
        clear c10
        obtain rfl := Option.some.inj H
        go_wp2
        go_ret
        exact ⟨by first | rfl | (simp; done) | (simp [*]; done), by repeat (first | exact Drawn0.refl _ | apply Drawn0.step)⟩

/-! ### earshotref02_All: function 25 -/
def earshotref02_All.l0 : Nat → List Int → Int → Int → Int → Option (Bool)
 | 0, _, _, _, _ => none
 | k + 1, x0, x1, x2, x7 => if x7 < (x0.length : Int) then (if 0 ≤ x7 then (if (rd x0 x7) < x1 then (some false) else (if (rd x0 x7) > x2 then (some false) else (earshotref02_All.l0 k x0 x1 x2 (wrap64 (x7 + 1))))) else (none)) else (some true)
def earshotref02_All.f (k : Nat) (l0 : List Int) (a1 : Int) (a2 : Int) : Option (Bool) := earshotref02_All.l0 k l0 a1 a2 0
theorem earshotref02_All.mono_l : ∀ k, (∀ y0 y1 y2 y3, LeO (earshotref02_All.l0 k y0 y1 y2 y3) (earshotref02_All.l0 (k + 1) y0 y1 y2 y3))
 | 0 => fun _ _ _ _ r h => by simp [earshotref02_All.l0] at h
 | k + 1 => by
  have ih0 := earshotref02_All.mono_l k
  ·intro y0 y1 y2 y3
   unfold earshotref02_All.l0
   repeat' first
   | (with_reducible exact ih0 _ _ _ _)
   | (with_reducible exact LeO.refl _)
   | (with_reducible exact LeO.none _)
   | (with_reducible refine LeO.ite ?_ ?_)
   | (with_reducible refine LeO.bind ?_ (fun _ => ?_))
   | exact ih0 _ _ _ _
   | exact LeO.none _
   | refine LeO.ite ?_ ?_
   | refine LeO.bind ?_ (fun _ => ?_)
theorem earshotref02_All.mono : ∀ a0 a1 a2 k, LeO (earshotref02_All.f k a0 a1 a2) (earshotref02_All.f (k + 1) a0 a1 a2) := by
 intro a0 a1 a2 k
 have ih0 := earshotref02_All.mono_l k
 unfold earshotref02_All.f
 repeat' first
   | (with_reducible exact ih0 _ _ _ _)
   | (with_reducible exact LeO.refl _)
   | (with_reducible exact LeO.none _)
   | (with_reducible refine LeO.ite ?_ ?_)
   | (with_reducible refine LeO.bind ?_ (fun _ => ?_))
   | exact ih0 _ _ _ _
   | exact LeO.none _
   | refine LeO.ite ?_ ?_
   | refine LeO.bind ?_ (fun _ => ?_)
set_option maxHeartbeats 8000000 in
set_option maxRecDepth 100000 in
theorem earshotref02_All.calls (k : Nat) (A0 : Option Addr) (c0 : Nat) (l0 : List Int) (a1 : Int) (a2 : Int) (r : Bool) (w : World) (hr0 : Kd.C (Kd.int .i64) w A0 l0.length l0) (hc0 : l0.length ≤ c0) (h : earshotref02_All.f k l0 a1 a2 = some r) :
  Calls Tryd.prog 25 #[.slice A0 l0.length c0, .int .i64 a1, .int .i64 a2] w fun e w' => e = .returned (.bool r) ∧ Drawn0 w w' := by
 have HR0 := Aside0.mk hr0
 have HC0 := Aside0.mk hc0
 clear hr0 hc0
 have H : (earshotref02_All.l0 k l0 a1 a2 0) = some r := h
 clear h
 have H' := Aside0.mk H
 clear H
 go_enter Tryd.func25, Tryd.ntmps25
 go_wp2
 go_loopg [7] k (fun kq v7 w' => ∃ (x7_1 : Int), v7 = .int .i64 x7_1 ∧ Aside0 (earshotref02_All.l0 kq l0 a1 a2 x7_1 = some r) ∧ Aside0 (kq ≤ k) ∧ Drawn0 w w')
 case atStart => exact ⟨(0), (by first | rfl | (simp; done) | (simp only [i64_w]; done) | (simp [*]; done)), H', ⟨Nat.le_refl _⟩, by repeat (first | exact Drawn0.refl _ | apply Drawn0.step)⟩
 case round =>
  clear H'
  try clear c2
  try clear p2
  obtain ⟨x7_1, rfl, HA, HK1, ⟨m1, rfl⟩⟩ := hrel
  cases gk with
  | zero => exact absurd HA.out (by simp [earshotref02_All.l0])
  | succ k1 =>
   have H := HA.out
   clear HA
   simp only [earshotref02_All.l0] at H
   by_cases c4 : x7_1 < (l0.length : Int)
   ·rw [if_pos c4] at H
    have c4b0 := decide_eq_true c4
    clear c4
    by_cases c5 : 0 ≤ x7_1
    ·rw [if_pos c5] at H
     have c5b0 := decide_eq_true c5
     clear c5
     by_cases c6 : (rd l0 x7_1) < a1
     ·rw [if_pos c6] at H
      have c6b0 := decide_eq_true c6
      clear c6
      obtain rfl := Option.some.inj H
      have p101 : 0 ≤ (x7_1 : Int) := of_decide_eq_true tA
      have q101 : x7_1 < (l0.length : Int) := of_decide_eq_true tA
      obtain ⟨ad101, e101, hx101_0⟩ := Kd.at_int HR0.out x7_1 p101 q101
      cases e101
      replace p101 := eq_true p101
      replace q101 := eq_true q101
      go_wp2
      go_ret
      exact ⟨by first | rfl | (simp; done) | (simp [*]; done), by repeat (first | exact Drawn0.refl _ | apply Drawn0.step)⟩
     ·rw [if_neg c6] at H
      have c6b0 := decide_eq_false c6
      clear c6
      by_cases c7 : (rd l0 x7_1) > a2
      ·rw [if_pos c7] at H
       have c7b0 : decide (a2 < (rd l0 x7_1)) = true := decide_eq_true c7
       clear c7
       obtain rfl := Option.some.inj H
       have p101 : 0 ≤ (x7_1 : Int) := of_decide_eq_true tA
       have q101 : x7_1 < (l0.length : Int) := of_decide_eq_true tA
       obtain ⟨ad101, e101, hx101_0⟩ := Kd.at_int HR0.out x7_1 p101 q101
       cases e101
       replace p101 := eq_true p101
       replace q101 := eq_true q101
       have p102 : 0 ≤ (x7_1 : Int) := of_decide_eq_true tA
       have q102 : x7_1 < (l0.length : Int) := of_decide_eq_true tA
       obtain ⟨ad102, e102, hx102_0⟩ := Kd.at_int HR0.out x7_1 p102 q102
       obtain rfl : ad101 = ad102 := (by injection e102)
       replace p102 := eq_true p102
       replace q102 := eq_true q102
       go_wp2
       go_ret
       exact ⟨by first | rfl | (simp; done) | (simp [*]; done), by repeat (first | exact Drawn0.refl _ | apply Drawn0.step)⟩
      ·rw [if_neg c7] at H
       have c7b0 : decide (a2 < (rd l0 x7_1)) = false := decide_eq_false c7
       clear c7
       have H' := Aside0.mk H
       clear H
       have p101 : 0 ≤ (x7_1 : Int) := of_decide_eq_true tA
       have q101 : x7_1 < (l0.length : Int) := of_decide_eq_true tA
       obtain ⟨ad101, e101, hx101_0⟩ := Kd.at_int HR0.out x7_1 p101 q101
       cases e101
       replace p101 := eq_true p101
       replace q101 := eq_true q101
       have p102 : 0 ≤ (x7_1 : Int) := of_decide_eq_true tA
       have q102 : x7_1 < (l0.length : Int) := of_decide_eq_true tA
       obtain ⟨ad102, e102, hx102_0⟩ := Kd.at_int HR0.out x7_1 p102 q102
       obtain rfl : ad101 = ad102 := (by injection e102)
       replace p102 := eq_true p102
       replace q102 := eq_true q102
       go_wp2
       go_roundg k1
       case measure => have := HK1.out; omega
       case rel => exact ⟨(wrap64 (x7_1 + 1)), (by first | rfl | (simp; done) | (simp only [i64_w]; done) | (simp [*]; done)), H', ⟨by have := HK1.out; omega⟩, by repeat (first | exact Drawn0.refl _ | apply Drawn0.step)⟩
    ·rw [if_neg c5] at H
     exact absurd H (by simp)
   ·rw [if_neg c4] at H
    have c4b0 := decide_eq_false c4
    clear c4
    obtain rfl := Option.some.inj H
    go_wp2
    go_ret
    exact ⟨by first | rfl | (simp; done) | (simp [*]; done), by repeat (first | exact Drawn0.refl _ | apply Drawn0.step)⟩

/-! ### earshotref03_Vectors: function 61 -/
def earshotref03_Vectors.l0 : Nat → List (List Int) → Int → Option (Bool)
 | 0, _, _ => none
 | k + 1, x0, x3 => if x3 < (x0.length : Int) then (if 0 ≤ x3 then (if ((rd_L2 x0 x3).length : Int) < 1 then (some false) else (if ((rd_L2 x0 x3).length : Int) > 64 then (some false) else (if 0 < (x0.length : Int) then (if ((rd_L2 x0 x3).length : Int) = ((rd_L2 x0 0).length : Int) then ((earshotref02_All.f k (rd_L2 x0 x3) (-1048576) 1048576).bind fun t106 => (if t106 = true then (earshotref03_Vectors.l0 k x0 (wrap64 (x3 + 1))) else (some false))) else (some false)) else (none)))) else (none)) else (some true)
def earshotref03_Vectors.f (k : Nat) (l0 : List (List Int)) : Option (Bool) := earshotref03_Vectors.l0 k l0 0
theorem earshotref03_Vectors.mono_l : ∀ k, (∀ y0 y1, LeO (earshotref03_Vectors.l0 k y0 y1) (earshotref03_Vectors.l0 (k + 1) y0 y1))
 | 0 => fun _ _ r h => by simp [earshotref03_Vectors.l0] at h
 | k + 1 => by
  have ih0 := earshotref03_Vectors.mono_l k
  ·intro y0 y1
   unfold earshotref03_Vectors.l0
   repeat' first
   | (with_reducible exact ih0 _ _)
   | (with_reducible exact earshotref02_All.mono _ _ _ _)
   | (with_reducible exact LeO.refl _)
   | (with_reducible exact LeO.none _)
   | (with_reducible refine LeO.ite ?_ ?_)
   | (with_reducible refine LeO.bind ?_ (fun _ => ?_))
   | exact ih0 _ _
   | exact earshotref02_All.mono _ _ _ _
   | exact LeO.none _
   | refine LeO.ite ?_ ?_
   | refine LeO.bind ?_ (fun _ => ?_)
theorem earshotref03_Vectors.mono : ∀ a0 k, LeO (earshotref03_Vectors.f k a0) (earshotref03_Vectors.f (k + 1) a0) := by
 intro a0 k
 have ih0 := earshotref03_Vectors.mono_l k
 unfold earshotref03_Vectors.f
 repeat' first
   | (with_reducible exact ih0 _ _)
   | (with_reducible exact earshotref02_All.mono _ _ _ _)
   | (with_reducible exact LeO.refl _)
   | (with_reducible exact LeO.none _)
   | (with_reducible refine LeO.ite ?_ ?_)
   | (with_reducible refine LeO.bind ?_ (fun _ => ?_))
   | exact ih0 _ _
   | exact earshotref02_All.mono _ _ _ _
   | exact LeO.none _
   | refine LeO.ite ?_ ?_
   | refine LeO.bind ?_ (fun _ => ?_)
def earshotref03_Vectors.T4 : Bool × List (List Nat × List Nat) := (true, [([], []), ([], []), ([0, 1], [0, 1]), ([2], [2]), ([3], [3]), ([4], [4]), ([5], [5]), ([6], [6]), ([6], [6]), ([7, 8, 6], [6, 7, 8]), ([9, 6], [6, 9]), ([10, 6], [6, 10]), ([11, 6], [6, 11]), ([6, 12], [6, 12]), ([13, 6], [13]), ([14], [14]), ([14], [14]), ([15, 16, 14], [14, 15, 16]), ([17, 14], [14, 17]), ([18, 14], [14, 18]), ([14], [14]), ([20, 14], [14, 20]), ([21, 14], [14, 21]), ([22, 14], [14, 22]), ([19, 23, 14], [14, 19, 23]), ([14, 24], [14, 24]), ([25, 14], [25]), ([26], [26]), ([26], [26]), ([27, 28, 26], [26, 27, 28]), ([29, 26], [26, 29]), ([30, 26, 26], [26, 30]), ([31, 26], [26, 31]), ([26, 32], [26, 32])])
def earshotref03_Vectors.B4 : List Nat := [0, 0, 3, 7, 15, 31, 63, 127, 127, 511, 1023, 2047, 4095, 8191, 16383, 32767, 32767, 131071, 262143, 524287, 32767, 1081343, 3178495, 7372799, 16777215, 33554431, 67108863, 134217727, 134217727, 536870911, 1073741823, 2147483647, 4294967295, 8589934591]
theorem earshotref03_Vectors.tab4 : rtab .any (opsOf Tryd.f61 4) = earshotref03_Vectors.T4 := by kernel_rfl
theorem earshotref03_Vectors.bits4 : waitsOk earshotref03_Vectors.T4.2 earshotref03_Vectors.B4 = true := by kernel_rfl
set_option maxHeartbeats 8000000 in
set_option maxRecDepth 100000 in
theorem earshotref03_Vectors.calls (k : Nat) (A0 : Option Addr) (c0 : Nat) (l0 : List (List Int)) (r : Bool) (w : World) (hr0 : Kd.C (Kd.slice 3 (Kd.int .i64)) w A0 l0.length l0) (hc0 : l0.length ≤ c0) (h : earshotref03_Vectors.f k l0 = some r) :
  Calls Tryd.prog 61 #[.slice A0 l0.length c0] w fun e w' => e = .returned (.bool r) ∧ Below w.heap.size w w' := by
 have HR0 := Aside0.mk hr0
 have HC0 := Aside0.mk hc0
 clear hr0 hc0
 have HB := Aside0.mk (Below.refl w.heap.size w)
 have H : (earshotref03_Vectors.l0 k l0 0) = some r := h
 clear h
 have H' := Aside0.mk H
 clear H
 go_enter Tryd.func61, Tryd.ntmps61
 go_wp2
 go_loopg [3] k (fun kq v3 w' => ∃ (x3_1 : Int), v3 = .int .i64 x3_1 ∧ Aside0 (earshotref03_Vectors.l0 kq l0 x3_1 = some r) ∧ Aside0 (kq ≤ k) ∧ Aside0 (Below w.heap.size w w'))
 case atStart => exact ⟨(0), (by first | rfl | (simp; done) | (simp only [i64_w]; done) | (simp [*]; done)), H', ⟨Nat.le_refl _⟩, ⟨tB⟩⟩
 case round =>
  clear H'
  obtain ⟨x3_1, rfl, HA, HK1, HB⟩ := hrel
  cases gk with
  | zero => exact absurd HA.out (by simp [earshotref03_Vectors.l0])
  | succ k1 =>
   have H := HA.out
   clear HA
   simp only [earshotref03_Vectors.l0] at H
   by_cases c2 : x3_1 < (l0.length : Int)
   ·rw [if_pos c2] at H
    have c2b0 := decide_eq_true c2
    clear c2
    by_cases c3 : 0 ≤ x3_1
    ·rw [if_pos c3] at H
     have c3b0 := decide_eq_true c3
     clear c3
     by_cases c4 : ((rd_L2 l0 x3_1).length : Int) < 1
     ·rw [if_pos c4] at H
      have c4b0 := decide_eq_true c4
      have c4b1 : decide ((rd_L2 l0 x3_1).length < 1) = true := decide_eq_true (by omega)
      clear c4
      obtain rfl := Option.some.inj H
      try go_wp2
      have n0_ := Aside0.mk (below_drew1 HB.out)
      clear HB
      have HB := n0_
      clear n0_
      have p101 : 0 ≤ (x3_1 : Int) := of_decide_eq_true tA
      have q101 : x3_1 < (l0.length : Int) := of_decide_eq_true tA
      obtain ⟨ad101, A101_0, c101_0, e101, hx101_0, hl101_0, hi101_0⟩ := at_L2 HR0.out x3_1 p101 q101
      have hw101_0 := hx101_0
      cases e101
      replace hx101_0 := (HB.out.cell (World.block_lt_of_cell? w _ hx101_0)).trans hx101_0
      have HR101_0 := Aside0.mk hi101_0
      have HC101_0 := Aside0.mk hl101_0
      clear hi101_0 hl101_0
      replace p101 := eq_true p101
      replace q101 := eq_true q101
      refine start_ (n := 34) (S := fun w' => w'.cell? (ad101.add (x3_1).toNat) = some (.slice A101_0 (rd_L2 l0 x3_1).length c101_0)) (ds := []) #[false, false, false, false, false, false, false, false, false, false, false, false, false, false, false, false, false, false, false, false, false, false, false, false, false, false, false, false, false, false, false, false, false, false] (by kernel_rfl) rfl rfl (((HB.out.cell (World.block_lt_of_cell? w _ hw101_0)).trans hw101_0)) (fun hHeld => ?_); refine with_tabW earshotref03_Vectors.tab4 earshotref03_Vectors.bits4 (fun HT_ HW_ => ?_)
      generalize wr.drew = w5 at HB HR101_0 hx101_0 hHeld ⊢
      refine pI 0 (some 10) (bm 1 34) HT_.out ?_
      refine pI 1 (some 11) (bm 2 34) HT_.out ?_
      refine pI 2 (some 12) (bm 3 34) HT_.out ?_
      refine tk1 3 (some 13) (bm 4 34) HT_.out HW_.out hHeld ?_
      refine pI 4 (some 14) (bm 5 34) HT_.out ?_
      refine pI 5 (some 15) (bm 6 34) HT_.out ?_
      refine pI 6 (some 16) (bm 7 34) HT_.out ?_
      refine pO 7 (some 17) (bm 8 34) HT_.out ?_
      refine pO 8 (some 18) (bm 9 34) HT_.out ?_
      refine pO 9 (some 19) (bm 10 34) HT_.out ?_
      refine pO 10 (some 20) (bm 11 34) HT_.out ?_
      refine pO 11 (some 21) (bm 12 34) HT_.out ?_
      refine pO 12 (some 22) (bm 13 34) HT_.out ?_
      refine pI 13 (some 23) (bm 14 34) HT_.out ?_
      refine pI 14 (some 24) (bm 15 34) HT_.out ?_
      refine pO 15 (some 25) (bm 16 34) HT_.out ?_
      refine pO 16 (some 26) (bm 17 34) HT_.out ?_
      refine pO 17 (some 27) (bm 18 34) HT_.out ?_
      refine pO 18 (some 28) (bm 19 34) HT_.out ?_
      refine pO 19 (some 29) (bm 20 34) HT_.out ?_
      refine pO 20 (some 30) (bm 21 34) HT_.out ?_
      refine pO 21 (some 31) (bm 22 34) HT_.out ?_
      refine pO 22 (some 32) (bm 23 34) HT_.out ?_
      refine pO 23 (some 33) (bm 24 34) HT_.out ?_
      refine pO 24 (some 34) (bm 25 34) HT_.out ?_
      refine pI 25 (some 35) (bm 26 34) HT_.out ?_
      refine pI 26 (some 36) (bm 27 34) HT_.out ?_
      refine pO 27 (some 37) (bm 28 34) HT_.out ?_
      refine pO 28 (some 38) (bm 29 34) HT_.out ?_
      refine pO 29 (some 39) (bm 30 34) HT_.out ?_
      refine pO 30 (some 40) (bm 31 34) HT_.out ?_
      refine pO 31 (some 41) (bm 32 34) HT_.out ?_
      refine pO 32 (some 42) (bm 33 34) HT_.out ?_
      refine pI 33 (some 43) (bm 34 34) HT_.out ?_
      refine done_ (done_of HT_.out (by kernel_rfl)) ?_
      try go_wp2
      go_ret
      exact ⟨by first | rfl | (simp [errW_none, errW_some] <;> rfl) | (simp [*, errW_none, errW_some] <;> rfl), tB⟩
     ·rw [if_neg c4] at H
      have c4b0 := decide_eq_false c4
      have c4b1 : decide ((rd_L2 l0 x3_1).length < 1) = false := decide_eq_false (by omega)
      clear c4
      by_cases c6 : ((rd_L2 l0 x3_1).length : Int) > 64
      ·rw [if_pos c6] at H
       have c6b0 : decide (64 < ((rd_L2 l0 x3_1).length : Int)) = true := decide_eq_true c6
       have c6b1 : decide (64 < (rd_L2 l0 x3_1).length) = true := decide_eq_true (by omega)
       clear c6
       obtain rfl := Option.some.inj H
       try go_wp2
       have n0_ := Aside0.mk (below_drew1 HB.out)
       clear HB
       have HB := n0_
       clear n0_
       have p101 : 0 ≤ (x3_1 : Int) := of_decide_eq_true tA
       have q101 : x3_1 < (l0.length : Int) := of_decide_eq_true tA
       obtain ⟨ad101, A101_0, c101_0, e101, hx101_0, hl101_0, hi101_0⟩ := at_L2 HR0.out x3_1 p101 q101
       have hw101_0 := hx101_0
       cases e101
       replace hx101_0 := (HB.out.cell (World.block_lt_of_cell? w _ hx101_0)).trans hx101_0
       have HR101_0 := Aside0.mk hi101_0
       have HC101_0 := Aside0.mk hl101_0
       clear hi101_0 hl101_0
       replace p101 := eq_true p101
       replace q101 := eq_true q101
       have p102 : 0 ≤ (x3_1 : Int) := of_decide_eq_true tA
       have q102 : x3_1 < (l0.length : Int) := of_decide_eq_true tA
       obtain ⟨ad102, A102_0, c102_0, e102, hx102_0, hl102_0, hi102_0⟩ := at_L2 HR0.out x3_1 p102 q102
       have hw102_0 := hx102_0
       obtain rfl : ad101 = ad102 := (by injection e102)
       replace hx102_0 := (HB.out.cell (World.block_lt_of_cell? w _ hx102_0)).trans hx102_0
       have HR102_0 := Aside0.mk hi102_0
       have HC102_0 := Aside0.mk hl102_0
       clear hi102_0 hl102_0
       replace p102 := eq_true p102
       replace q102 := eq_true q102
       have ea_ := Option.some.inj (hx101_0.symm.trans hx102_0)
       injection ea_ with ea_ en_ ec_
       subst ea_
       subst ec_
       clear en_
       refine start_ (n := 34) (S := fun w' => w'.cell? (ad101.add (x3_1).toNat) = some (.slice A101_0 (rd_L2 l0 x3_1).length c101_0) ∧ w'.cell? (ad101.add (x3_1).toNat) = some (.slice A101_0 (rd_L2 l0 x3_1).length c101_0)) (ds := []) #[false, false, false, false, false, false, false, false, false, false, false, false, false, false, false, false, false, false, false, false, false, false, false, false, false, false, false, false, false, false, false, false, false, false] (by kernel_rfl) rfl rfl ⟨((HB.out.cell (World.block_lt_of_cell? w _ hw101_0)).trans hw101_0), ((HB.out.cell (World.block_lt_of_cell? w _ hw102_0)).trans hw102_0)⟩ (fun hHeld => ?_); refine with_tabW earshotref03_Vectors.tab4 earshotref03_Vectors.bits4 (fun HT_ HW_ => ?_)
       generalize wr.drew = w7 at HB HR101_0 HR102_0 hx101_0 hx102_0 hHeld ⊢
       refine pI 0 (some 10) (bm 1 34) HT_.out ?_
       refine pI 1 (some 11) (bm 2 34) HT_.out ?_
       refine pI 2 (some 12) (bm 3 34) HT_.out ?_
       refine tk2 3 (some 13) (bm 4 34) HT_.out HW_.out hHeld ?_
       refine pI 4 (some 14) (bm 5 34) HT_.out ?_
       refine pI 5 (some 15) (bm 6 34) HT_.out ?_
       refine pI 6 (some 16) (bm 7 34) HT_.out ?_
       refine pI 7 (some 17) (bm 8 34) HT_.out ?_
       refine pI 8 (some 18) (bm 9 34) HT_.out ?_
       refine pI 9 (some 19) (bm 10 34) HT_.out ?_
       refine tk2 10 (some 20) (bm 11 34) HT_.out HW_.out hHeld ?_
       refine pI 11 (some 21) (bm 12 34) HT_.out ?_
       refine pI 12 (some 22) (bm 13 34) HT_.out ?_
       refine pI 13 (some 23) (bm 14 34) HT_.out ?_
       refine pI 14 (some 24) (bm 15 34) HT_.out ?_
       refine pO 15 (some 25) (bm 16 34) HT_.out ?_
       refine pO 16 (some 26) (bm 17 34) HT_.out ?_
       refine pO 17 (some 27) (bm 18 34) HT_.out ?_
       refine pO 18 (some 28) (bm 19 34) HT_.out ?_
       refine pO 19 (some 29) (bm 20 34) HT_.out ?_
       refine pO 20 (some 30) (bm 21 34) HT_.out ?_
       refine pO 21 (some 31) (bm 22 34) HT_.out ?_
       refine pO 22 (some 32) (bm 23 34) HT_.out ?_
       refine pO 23 (some 33) (bm 24 34) HT_.out ?_
       refine pO 24 (some 34) (bm 25 34) HT_.out ?_
       refine pI 25 (some 35) (bm 26 34) HT_.out ?_
       refine pI 26 (some 36) (bm 27 34) HT_.out ?_
       refine pO 27 (some 37) (bm 28 34) HT_.out ?_
       refine pO 28 (some 38) (bm 29 34) HT_.out ?_
       refine pO 29 (some 39) (bm 30 34) HT_.out ?_
       refine pO 30 (some 40) (bm 31 34) HT_.out ?_
       refine pO 31 (some 41) (bm 32 34) HT_.out ?_
       refine pO 32 (some 42) (bm 33 34) HT_.out ?_
       refine pI 33 (some 43) (bm 34 34) HT_.out ?_
       refine done_ (done_of HT_.out (by kernel_rfl)) ?_
       try go_wp2
       go_ret
       exact ⟨by first | rfl | (simp [errW_none, errW_some] <;> rfl) | (simp [*, errW_none, errW_some] <;> rfl), tB⟩
      ·rw [if_neg c6] at H
       have c6b0 : decide (64 < ((rd_L2 l0 x3_1).length : Int)) = false := decide_eq_false c6
       have c6b1 : decide (64 < (rd_L2 l0 x3_1).length) = false := decide_eq_false (by omega)
       clear c6
       by_cases c8 : 0 < (l0.length : Int)
       ·rw [if_pos c8] at H
        have c8b0 := decide_eq_true c8
        have c8b1 : decide (0 < l0.length) = true := decide_eq_true (by omega)
        clear c8
        by_cases c9 : ((rd_L2 l0 x3_1).length : Int) = ((rd_L2 l0 0).length : Int)
        ·rw [if_pos c9] at H
         have c9b0 : (((rd_L2 l0 x3_1).length : Int) == ((rd_L2 l0 0).length : Int)) = true := beq_iff_eq.mpr c9
         have c9b1 : (((rd_L2 l0 x3_1).length : Int) != ((rd_L2 l0 0).length : Int)) = false := bne_eq_false_iff_eq.mpr c9
         have c9b2 : ((rd_L2 l0 x3_1).length == (rd_L2 l0 0).length) = true := by first | simpa using c9 | (simp at c9 ⊢; omega)
         clear c9
         replace H := Option.bind_eq_some_iff.mp H
         obtain ⟨t106, A100, H⟩ := H
         try dsimp only at H
         have A10 := Aside0.mk A100
         clear A100
         by_cases c11 : t106 = true
         ·subst c11
          have H1 : (earshotref03_Vectors.l0 k1 l0 (wrap64 (x3_1 + 1))) = some r := by rw [if_pos rfl] at H; exact H
          clear H
          have H := H1
          clear H1
          have H' := Aside0.mk H
          clear H
          try go_wp2
          have n0_ := Aside0.mk (below_drew1 HB.out)
          clear HB
          have HB := n0_
          clear n0_
          have p101 : 0 ≤ (x3_1 : Int) := of_decide_eq_true tA
          have q101 : x3_1 < (l0.length : Int) := of_decide_eq_true tA
          obtain ⟨ad101, A101_0, c101_0, e101, hx101_0, hl101_0, hi101_0⟩ := at_L2 HR0.out x3_1 p101 q101
          have hw101_0 := hx101_0
          cases e101
          replace hx101_0 := (HB.out.cell (World.block_lt_of_cell? w _ hx101_0)).trans hx101_0
          have HR101_0 := Aside0.mk hi101_0
          have HC101_0 := Aside0.mk hl101_0
          clear hi101_0 hl101_0
          replace p101 := eq_true p101
          replace q101 := eq_true q101
          have p102 : 0 ≤ (x3_1 : Int) := of_decide_eq_true tA
          have q102 : x3_1 < (l0.length : Int) := of_decide_eq_true tA
          obtain ⟨ad102, A102_0, c102_0, e102, hx102_0, hl102_0, hi102_0⟩ := at_L2 HR0.out x3_1 p102 q102
          have hw102_0 := hx102_0
          obtain rfl : ad101 = ad102 := (by injection e102)
          replace hx102_0 := (HB.out.cell (World.block_lt_of_cell? w _ hx102_0)).trans hx102_0
          have HR102_0 := Aside0.mk hi102_0
          have HC102_0 := Aside0.mk hl102_0
          clear hi102_0 hl102_0
          replace p102 := eq_true p102
          replace q102 := eq_true q102
          have ea_ := Option.some.inj (hx101_0.symm.trans hx102_0)
          injection ea_ with ea_ en_ ec_
          subst ea_
          subst ec_
          clear en_
          have p103 : 0 ≤ (x3_1 : Int) := of_decide_eq_true tA
          have q103 : x3_1 < (l0.length : Int) := of_decide_eq_true tA
          obtain ⟨ad103, A103_0, c103_0, e103, hx103_0, hl103_0, hi103_0⟩ := at_L2 HR0.out x3_1 p103 q103
          have hw103_0 := hx103_0
          obtain rfl : ad101 = ad103 := (by injection e103)
          replace hx103_0 := (HB.out.cell (World.block_lt_of_cell? w _ hx103_0)).trans hx103_0
          have HR103_0 := Aside0.mk hi103_0
          have HC103_0 := Aside0.mk hl103_0
          clear hi103_0 hl103_0
          replace p103 := eq_true p103
          replace q103 := eq_true q103
          have ea_ := Option.some.inj (hx101_0.symm.trans hx103_0)
          injection ea_ with ea_ en_ ec_
          subst ea_
          subst ec_
          clear en_
          have p104 : 0 ≤ (0 : Int) := (by omega)
          have q104 : 0 < (l0.length : Int) := of_decide_eq_true tA
          obtain ⟨ad104, A104_0, c104_0, e104, hx104_0, hl104_0, hi104_0⟩ := at_L2 HR0.out 0 p104 q104
          have hw104_0 := hx104_0
          (try rw [show ((0 : Int)).toNat = 0 from rfl] at hw104_0)
          (try rw [show 0 * 1 = 0 from rfl] at hw104_0)
          (try rw [Addr.add_zero'] at hw104_0)
          obtain rfl : ad101 = ad104 := (by injection e104)
          have qi104 : (0 < l0.length) = True := eq_true (by omega)
          (try rw [show ((0 : Int)).toNat = 0 from rfl] at hx104_0)
          (try rw [Addr.add_zero'] at hx104_0)
          replace hx104_0 := (HB.out.cell (World.block_lt_of_cell? w _ hx104_0)).trans hx104_0
          have HR104_0 := Aside0.mk hi104_0
          have HC104_0 := Aside0.mk hl104_0
          clear hi104_0 hl104_0
          replace p104 := eq_true p104
          replace q104 := eq_true q104
          have p105 : 0 ≤ (x3_1 : Int) := of_decide_eq_true tA
          have q105 : x3_1 < (l0.length : Int) := of_decide_eq_true tA
          obtain ⟨ad105, A105_0, c105_0, e105, hx105_0, hl105_0, hi105_0⟩ := at_L2 HR0.out x3_1 p105 q105
          have hw105_0 := hx105_0
          obtain rfl : ad101 = ad105 := (by injection e105)
          replace hx105_0 := (HB.out.cell (World.block_lt_of_cell? w _ hx105_0)).trans hx105_0
          have HR105_0 := Aside0.mk hi105_0
          have HC105_0 := Aside0.mk hl105_0
          clear hi105_0 hl105_0
          replace p105 := eq_true p105
          replace q105 := eq_true q105
          have ea_ := Option.some.inj (hx101_0.symm.trans hx105_0)
          injection ea_ with ea_ en_ ec_
          subst ea_
          subst ec_
          clear en_
          refine start_ (n := 34) (S := fun w' => w'.cell? (ad101.add (x3_1).toNat) = some (.slice A101_0 (rd_L2 l0 x3_1).length c101_0) ∧ w'.cell? (ad101.add (x3_1).toNat) = some (.slice A101_0 (rd_L2 l0 x3_1).length c101_0) ∧ w'.cell? (ad101.add (x3_1).toNat) = some (.slice A101_0 (rd_L2 l0 x3_1).length c101_0) ∧ w'.cell? ad101 = some (.slice A104_0 (rd_L2 l0 0).length c104_0) ∧ w'.cell? (ad101.add (x3_1).toNat) = some (.slice A101_0 (rd_L2 l0 x3_1).length c101_0)) (ds := []) #[false, false, false, false, false, false, false, false, false, false, false, false, false, false, false, false, false, false, false, false, false, false, false, false, false, false, false, false, false, false, false, false, false, false] (by kernel_rfl) rfl rfl ⟨((HB.out.cell (World.block_lt_of_cell? w _ hw101_0)).trans hw101_0), ((HB.out.cell (World.block_lt_of_cell? w _ hw102_0)).trans hw102_0), ((HB.out.cell (World.block_lt_of_cell? w _ hw103_0)).trans hw103_0), ((HB.out.cell (World.block_lt_of_cell? w _ hw104_0)).trans hw104_0), ((HB.out.cell (World.block_lt_of_cell? w _ hw105_0)).trans hw105_0)⟩ (fun hHeld => ?_); refine with_tabW earshotref03_Vectors.tab4 earshotref03_Vectors.bits4 (fun HT_ HW_ => ?_)
          generalize wr.drew = w12 at HB HR101_0 HR102_0 HR103_0 HR104_0 HR105_0 hx101_0 hx102_0 hx103_0 hx104_0 hx105_0 hHeld ⊢
          refine pI 0 (some 10) (bm 1 34) HT_.out ?_
          refine pI 1 (some 11) (bm 2 34) HT_.out ?_
          refine pI 2 (some 12) (bm 3 34) HT_.out ?_
          refine tk5 3 (some 13) (bm 4 34) HT_.out HW_.out hHeld ?_
          refine pI 4 (some 14) (bm 5 34) HT_.out ?_
          refine pI 5 (some 15) (bm 6 34) HT_.out ?_
          refine pI 6 (some 16) (bm 7 34) HT_.out ?_
          refine pI 7 (some 17) (bm 8 34) HT_.out ?_
          refine pI 8 (some 18) (bm 9 34) HT_.out ?_
          refine pI 9 (some 19) (bm 10 34) HT_.out ?_
          refine tk5 10 (some 20) (bm 11 34) HT_.out HW_.out hHeld ?_
          refine pI 11 (some 21) (bm 12 34) HT_.out ?_
          refine pI 12 (some 22) (bm 13 34) HT_.out ?_
          refine pI 13 (some 23) (bm 14 34) HT_.out ?_
          refine pI 14 (some 24) (bm 15 34) HT_.out ?_
          refine pI 15 (some 25) (bm 16 34) HT_.out ?_
          refine pI 16 (some 26) (bm 17 34) HT_.out ?_
          refine pI 17 (some 27) (bm 18 34) HT_.out ?_
          refine pure_ (i := 20) (N := some 30) (v := ?_) (a' := ?_) #[true, true, true, true, true, true, true, true, true, true, true, true, true, true, true, true, true, true, false, false, true, false, false, false, false, false, false, false, false, false, false, false, false, false] rfl rfl (any_of HT_.out (by kernel_rfl)) (fun _ _ _ h => h) (Or.inl ⟨by rfl, ?_⟩) ?_ ?_
          rotate_left
          ·intro w'
           go_simp
           with_reducible rfl
          rotate_left
          ·simp only [Act.put, List.setIfInBounds_toArray, List.set_cons_zero, List.set_cons_succ, i64_w, i32_w]
           rfl
          refine pure_ (i := 21) (N := some 31) (v := ?_) (a' := ?_) #[true, true, true, true, true, true, true, true, true, true, true, true, true, true, true, true, true, true, false, false, true, true, false, false, false, false, false, false, false, false, false, false, false, false] rfl rfl (any_of HT_.out (by kernel_rfl)) (fun _ _ _ h => h) (Or.inl ⟨by rfl, ?_⟩) ?_ ?_
          rotate_left
          ·intro w'
           go_simp
           with_reducible rfl
          rotate_left
          ·simp only [Act.put, List.setIfInBounds_toArray, List.set_cons_zero, List.set_cons_succ, i64_w, i32_w]
           rfl
          refine take_ (i := 18) (N := some 28) (v := ?_) (a' := ?_) #[true, true, true, true, true, true, true, true, true, true, true, true, true, true, true, true, true, true, true, false, true, true, false, false, false, false, false, false, false, false, false, false, false, false] rfl rfl (take_ofW HT_.out HW_.out (by kernel_rfl)) (fun _ _ _ h => h) (Or.inl ⟨by rfl, ?_⟩) hHeld ?_ ?_
          rotate_left
          ·rintro w' ⟨s0, s1, s2, s3, s4⟩
           go_simp
           with_reducible rfl
          rotate_left
          ·simp only [Act.put, List.setIfInBounds_toArray, List.set_cons_zero, List.set_cons_succ, i64_w, i32_w]
           rfl
          refine pI 19 (some 29) (bm 22 34) HT_.out ?_
          refine tk5 22 (some 32) (bm 23 34) HT_.out HW_.out hHeld ?_
          refine pI 23 (some 33) (bm 24 34) HT_.out ?_
          refine pI 24 (some 34) (bm 25 34) HT_.out ?_
          refine pI 25 (some 35) (bm 26 34) HT_.out ?_
          refine pI 26 (some 36) (bm 27 34) HT_.out ?_
          refine pI 27 (some 37) (bm 28 34) HT_.out ?_
          refine pI 28 (some 38) (bm 29 34) HT_.out ?_
          refine pI 29 (some 39) (bm 30 34) HT_.out ?_
          refine tk5 30 (some 40) (bm 31 34) HT_.out HW_.out hHeld ?_
          refine one_ (i := 31) (N := some 41) #[true, true, true, true, true, true, true, true, true, true, true, true, true, true, true, true, true, true, true, true, true, true, true, true, true, true, true, true, true, true, true, true, false, false] rfl rfl (one_of HT_.out (by kernel_rfl)) (by decide) (fun K hK => ?_)
          refine goes_ Tryd.func25 (by kernel_rfl) rfl #[.slice A101_0 (rd_L2 l0 x3_1).length c101_0, .int .i64 (-1048576), .int .i64 1048576] (by rfl) rfl rfl tL ?_
          with_reducible refine (earshotref02_All.calls k1 _ _ (rd_L2 l0 x3_1) (-1048576) 1048576 true _ ?side1 ?side2 A10.out).mono ?_
          (case side1 => exact tC (Kd.C_below HR105_0.out HB.out))
          (case side2 => exact HC105_0.out)
          rintro e w' ⟨rfl, ⟨nd, rfl⟩⟩
          refine ⟨_, rfl, ?_⟩
          refine hK.out _ _ ⟨((HB.out.cell (World.block_lt_of_cell? w _ hw101_0)).trans hw101_0), ((HB.out.cell (World.block_lt_of_cell? w _ hw102_0)).trans hw102_0), ((HB.out.cell (World.block_lt_of_cell? w _ hw103_0)).trans hw103_0), ((HB.out.cell (World.block_lt_of_cell? w _ hw104_0)).trans hw104_0), ((HB.out.cell (World.block_lt_of_cell? w _ hw105_0)).trans hw105_0)⟩ (fun hHeld => ?_)
          clear hK K
          refine norm_ (a' := ?_) ?_ ?_
          rotate_left
          ·show Act.put _ (some 41) _ = _
           simp only [Act.put, List.setIfInBounds_toArray, List.set_cons_zero, List.set_cons_succ, i64_w, i32_w]
           rfl
          refine pI 32 (some 42) (bm 33 34) HT_.out ?_
          refine pI 33 (some 43) (bm 34 34) HT_.out ?_
          refine done_ (done_of HT_.out (by kernel_rfl)) ?_
          try go_wp2
          go_roundg k1
          case measure => have := HK1.out; omega
          case rel => exact ⟨(wrap64 (x3_1 + 1)), (by first | rfl | (simp; done) | (simp only [i64_w]; done) | (simp [*]; done)), H', ⟨by have := HK1.out; omega⟩, ⟨tB⟩⟩
         ·replace c11 := Bool.eq_false_iff.mpr c11
          subst c11
          have H1 : (some false) = some r := by rw [if_neg (show ¬ (false = true) by decide)] at H; exact H
          clear H
          have H := H1
          clear H1
          obtain rfl := Option.some.inj H
          try go_wp2
          have n0_ := Aside0.mk (below_drew1 HB.out)
          clear HB
          have HB := n0_
          clear n0_
          have p101 : 0 ≤ (x3_1 : Int) := of_decide_eq_true tA
          have q101 : x3_1 < (l0.length : Int) := of_decide_eq_true tA
          obtain ⟨ad101, A101_0, c101_0, e101, hx101_0, hl101_0, hi101_0⟩ := at_L2 HR0.out x3_1 p101 q101
          have hw101_0 := hx101_0
          cases e101
          replace hx101_0 := (HB.out.cell (World.block_lt_of_cell? w _ hx101_0)).trans hx101_0
          have HR101_0 := Aside0.mk hi101_0
          have HC101_0 := Aside0.mk hl101_0
          clear hi101_0 hl101_0
          replace p101 := eq_true p101
          replace q101 := eq_true q101
          have p102 : 0 ≤ (x3_1 : Int) := of_decide_eq_true tA
          have q102 : x3_1 < (l0.length : Int) := of_decide_eq_true tA
          obtain ⟨ad102, A102_0, c102_0, e102, hx102_0, hl102_0, hi102_0⟩ := at_L2 HR0.out x3_1 p102 q102
          have hw102_0 := hx102_0
          obtain rfl : ad101 = ad102 := (by injection e102)
          replace hx102_0 := (HB.out.cell (World.block_lt_of_cell? w _ hx102_0)).trans hx102_0
          have HR102_0 := Aside0.mk hi102_0
          have HC102_0 := Aside0.mk hl102_0
          clear hi102_0 hl102_0
          replace p102 := eq_true p102
          replace q102 := eq_true q102
          have ea_ := Option.some.inj (hx101_0.symm.trans hx102_0)
          injection ea_ with ea_ en_ ec_
          subst ea_
          subst ec_
          clear en_
          have p103 : 0 ≤ (x3_1 : Int) := of_decide_eq_true tA
          have q103 : x3_1 < (l0.length : Int) := of_decide_eq_true tA
          obtain ⟨ad103, A103_0, c103_0, e103, hx103_0, hl103_0, hi103_0⟩ := at_L2 HR0.out x3_1 p103 q103
          have hw103_0 := hx103_0
          obtain rfl : ad101 = ad103 := (by injection e103)
          replace hx103_0 := (HB.out.cell (World.block_lt_of_cell? w _ hx103_0)).trans hx103_0
          have HR103_0 := Aside0.mk hi103_0
          have HC103_0 := Aside0.mk hl103_0
          clear hi103_0 hl103_0
          replace p103 := eq_true p103
          replace q103 := eq_true q103
          have ea_ := Option.some.inj (hx101_0.symm.trans hx103_0)
          injection ea_ with ea_ en_ ec_
          subst ea_
          subst ec_
          clear en_
          have p104 : 0 ≤ (0 : Int) := (by omega)
          have q104 : 0 < (l0.length : Int) := of_decide_eq_true tA
          obtain ⟨ad104, A104_0, c104_0, e104, hx104_0, hl104_0, hi104_0⟩ := at_L2 HR0.out 0 p104 q104
          have hw104_0 := hx104_0
          (try rw [show ((0 : Int)).toNat = 0 from rfl] at hw104_0)
          (try rw [show 0 * 1 = 0 from rfl] at hw104_0)
          (try rw [Addr.add_zero'] at hw104_0)
          obtain rfl : ad101 = ad104 := (by injection e104)
          have qi104 : (0 < l0.length) = True := eq_true (by omega)
          (try rw [show ((0 : Int)).toNat = 0 from rfl] at hx104_0)
          (try rw [Addr.add_zero'] at hx104_0)
          replace hx104_0 := (HB.out.cell (World.block_lt_of_cell? w _ hx104_0)).trans hx104_0
          have HR104_0 := Aside0.mk hi104_0
          have HC104_0 := Aside0.mk hl104_0
          clear hi104_0 hl104_0
          replace p104 := eq_true p104
          replace q104 := eq_true q104
          have p105 : 0 ≤ (x3_1 : Int) := of_decide_eq_true tA
          have q105 : x3_1 < (l0.length : Int) := of_decide_eq_true tA
          obtain ⟨ad105, A105_0, c105_0, e105, hx105_0, hl105_0, hi105_0⟩ := at_L2 HR0.out x3_1 p105 q105
          have hw105_0 := hx105_0
          obtain rfl : ad101 = ad105 := (by injection e105)
          replace hx105_0 := (HB.out.cell (World.block_lt_of_cell? w _ hx105_0)).trans hx105_0
          have HR105_0 := Aside0.mk hi105_0
          have HC105_0 := Aside0.mk hl105_0
          clear hi105_0 hl105_0
          replace p105 := eq_true p105
          replace q105 := eq_true q105
          have ea_ := Option.some.inj (hx101_0.symm.trans hx105_0)
          injection ea_ with ea_ en_ ec_
          subst ea_
          subst ec_
          clear en_
          refine start_ (n := 34) (S := fun w' => w'.cell? (ad101.add (x3_1).toNat) = some (.slice A101_0 (rd_L2 l0 x3_1).length c101_0) ∧ w'.cell? (ad101.add (x3_1).toNat) = some (.slice A101_0 (rd_L2 l0 x3_1).length c101_0) ∧ w'.cell? (ad101.add (x3_1).toNat) = some (.slice A101_0 (rd_L2 l0 x3_1).length c101_0) ∧ w'.cell? ad101 = some (.slice A104_0 (rd_L2 l0 0).length c104_0) ∧ w'.cell? (ad101.add (x3_1).toNat) = some (.slice A101_0 (rd_L2 l0 x3_1).length c101_0)) (ds := []) #[false, false, false, false, false, false, false, false, false, false, false, false, false, false, false, false, false, false, false, false, false, false, false, false, false, false, false, false, false, false, false, false, false, false] (by kernel_rfl) rfl rfl ⟨((HB.out.cell (World.block_lt_of_cell? w _ hw101_0)).trans hw101_0), ((HB.out.cell (World.block_lt_of_cell? w _ hw102_0)).trans hw102_0), ((HB.out.cell (World.block_lt_of_cell? w _ hw103_0)).trans hw103_0), ((HB.out.cell (World.block_lt_of_cell? w _ hw104_0)).trans hw104_0), ((HB.out.cell (World.block_lt_of_cell? w _ hw105_0)).trans hw105_0)⟩ (fun hHeld => ?_); refine with_tabW earshotref03_Vectors.tab4 earshotref03_Vectors.bits4 (fun HT_ HW_ => ?_)
          generalize wr.drew = w13 at HB HR101_0 HR102_0 HR103_0 HR104_0 HR105_0 hx101_0 hx102_0 hx103_0 hx104_0 hx105_0 hHeld ⊢
          refine pI 0 (some 10) (bm 1 34) HT_.out ?_
          refine pI 1 (some 11) (bm 2 34) HT_.out ?_
          refine pI 2 (some 12) (bm 3 34) HT_.out ?_
          refine tk5 3 (some 13) (bm 4 34) HT_.out HW_.out hHeld ?_
          refine pI 4 (some 14) (bm 5 34) HT_.out ?_
          refine pI 5 (some 15) (bm 6 34) HT_.out ?_
          refine pI 6 (some 16) (bm 7 34) HT_.out ?_
          refine pI 7 (some 17) (bm 8 34) HT_.out ?_
          refine pI 8 (some 18) (bm 9 34) HT_.out ?_
          refine pI 9 (some 19) (bm 10 34) HT_.out ?_
          refine tk5 10 (some 20) (bm 11 34) HT_.out HW_.out hHeld ?_
          refine pI 11 (some 21) (bm 12 34) HT_.out ?_
          refine pI 12 (some 22) (bm 13 34) HT_.out ?_
          refine pI 13 (some 23) (bm 14 34) HT_.out ?_
          refine pI 14 (some 24) (bm 15 34) HT_.out ?_
          refine pI 15 (some 25) (bm 16 34) HT_.out ?_
          refine pI 16 (some 26) (bm 17 34) HT_.out ?_
          refine pI 17 (some 27) (bm 18 34) HT_.out ?_
          refine pure_ (i := 20) (N := some 30) (v := ?_) (a' := ?_) #[true, true, true, true, true, true, true, true, true, true, true, true, true, true, true, true, true, true, false, false, true, false, false, false, false, false, false, false, false, false, false, false, false, false] rfl rfl (any_of HT_.out (by kernel_rfl)) (fun _ _ _ h => h) (Or.inl ⟨by rfl, ?_⟩) ?_ ?_
          rotate_left
          ·intro w'
           go_simp
           with_reducible rfl
          rotate_left
          ·simp only [Act.put, List.setIfInBounds_toArray, List.set_cons_zero, List.set_cons_succ, i64_w, i32_w]
           rfl
          refine pure_ (i := 21) (N := some 31) (v := ?_) (a' := ?_) #[true, true, true, true, true, true, true, true, true, true, true, true, true, true, true, true, true, true, false, false, true, true, false, false, false, false, false, false, false, false, false, false, false, false] rfl rfl (any_of HT_.out (by kernel_rfl)) (fun _ _ _ h => h) (Or.inl ⟨by rfl, ?_⟩) ?_ ?_
          rotate_left
          ·intro w'
           go_simp
           with_reducible rfl
          rotate_left
          ·simp only [Act.put, List.setIfInBounds_toArray, List.set_cons_zero, List.set_cons_succ, i64_w, i32_w]
           rfl
          refine take_ (i := 18) (N := some 28) (v := ?_) (a' := ?_) #[true, true, true, true, true, true, true, true, true, true, true, true, true, true, true, true, true, true, true, false, true, true, false, false, false, false, false, false, false, false, false, false, false, false] rfl rfl (take_ofW HT_.out HW_.out (by kernel_rfl)) (fun _ _ _ h => h) (Or.inl ⟨by rfl, ?_⟩) hHeld ?_ ?_
          rotate_left
          ·rintro w' ⟨s0, s1, s2, s3, s4⟩
           go_simp
           with_reducible rfl
          rotate_left
          ·simp only [Act.put, List.setIfInBounds_toArray, List.set_cons_zero, List.set_cons_succ, i64_w, i32_w]
           rfl
          refine pI 19 (some 29) (bm 22 34) HT_.out ?_
          refine tk5 22 (some 32) (bm 23 34) HT_.out HW_.out hHeld ?_
          refine pI 23 (some 33) (bm 24 34) HT_.out ?_
          refine pI 24 (some 34) (bm 25 34) HT_.out ?_
          refine pI 25 (some 35) (bm 26 34) HT_.out ?_
          refine pI 26 (some 36) (bm 27 34) HT_.out ?_
          refine pI 27 (some 37) (bm 28 34) HT_.out ?_
          refine pI 28 (some 38) (bm 29 34) HT_.out ?_
          refine pI 29 (some 39) (bm 30 34) HT_.out ?_
          refine tk5 30 (some 40) (bm 31 34) HT_.out HW_.out hHeld ?_
          refine one_ (i := 31) (N := some 41) #[true, true, true, true, true, true, true, true, true, true, true, true, true, true, true, true, true, true, true, true, true, true, true, true, true, true, true, true, true, true, true, true, false, false] rfl rfl (one_of HT_.out (by kernel_rfl)) (by decide) (fun K hK => ?_)
          refine goes_ Tryd.func25 (by kernel_rfl) rfl #[.slice A101_0 (rd_L2 l0 x3_1).length c101_0, .int .i64 (-1048576), .int .i64 1048576] (by rfl) rfl rfl tL ?_
          with_reducible refine (earshotref02_All.calls k1 _ _ (rd_L2 l0 x3_1) (-1048576) 1048576 false _ ?side1 ?side2 A10.out).mono ?_
          (case side1 => exact tC (Kd.C_below HR105_0.out HB.out))
          (case side2 => exact HC105_0.out)
          rintro e w' ⟨rfl, ⟨nd, rfl⟩⟩
          refine ⟨_, rfl, ?_⟩
          refine hK.out _ _ ⟨((HB.out.cell (World.block_lt_of_cell? w _ hw101_0)).trans hw101_0), ((HB.out.cell (World.block_lt_of_cell? w _ hw102_0)).trans hw102_0), ((HB.out.cell (World.block_lt_of_cell? w _ hw103_0)).trans hw103_0), ((HB.out.cell (World.block_lt_of_cell? w _ hw104_0)).trans hw104_0), ((HB.out.cell (World.block_lt_of_cell? w _ hw105_0)).trans hw105_0)⟩ (fun hHeld => ?_)
          clear hK K
          refine norm_ (a' := ?_) ?_ ?_
          rotate_left
          ·show Act.put _ (some 41) _ = _
           simp only [Act.put, List.setIfInBounds_toArray, List.set_cons_zero, List.set_cons_succ, i64_w, i32_w]
           rfl
          refine pI 32 (some 42) (bm 33 34) HT_.out ?_
          refine pI 33 (some 43) (bm 34 34) HT_.out ?_
          refine done_ (done_of HT_.out (by kernel_rfl)) ?_
          try go_wp2
          go_ret
          exact ⟨by first | rfl | (simp [errW_none, errW_some] <;> rfl) | (simp [*, errW_none, errW_some] <;> rfl), tB⟩
        ·rw [if_neg c9] at H
         have c9b0 : (((rd_L2 l0 x3_1).length : Int) == ((rd_L2 l0 0).length : Int)) = false := beq_eq_false_iff_ne.mpr c9
         have c9b1 : (((rd_L2 l0 x3_1).length : Int) != ((rd_L2 l0 0).length : Int)) = true := bne_iff_ne.mpr c9
         have c9b2 : ((rd_L2 l0 x3_1).length == (rd_L2 l0 0).length) = false := by first | simpa using c9 | (simp at c9 ⊢; omega)
         obtain rfl := Option.some.inj H
         try go_wp2
         have n0_ := Aside0.mk (below_drew1 HB.out)
         clear HB
         have HB := n0_
         clear n0_
         have p101 : 0 ≤ (x3_1 : Int) := of_decide_eq_true tA
         have q101 : x3_1 < (l0.length : Int) := of_decide_eq_true tA
         obtain ⟨ad101, A101_0, c101_0, e101, hx101_0, hl101_0, hi101_0⟩ := at_L2 HR0.out x3_1 p101 q101
         have hw101_0 := hx101_0
         cases e101
         replace hx101_0 := (HB.out.cell (World.block_lt_of_cell? w _ hx101_0)).trans hx101_0
         have HR101_0 := Aside0.mk hi101_0
         have HC101_0 := Aside0.mk hl101_0
         clear hi101_0 hl101_0
         replace p101 := eq_true p101
         replace q101 := eq_true q101
         have p102 : 0 ≤ (x3_1 : Int) := of_decide_eq_true tA
         have q102 : x3_1 < (l0.length : Int) := of_decide_eq_true tA
         obtain ⟨ad102, A102_0, c102_0, e102, hx102_0, hl102_0, hi102_0⟩ := at_L2 HR0.out x3_1 p102 q102
         have hw102_0 := hx102_0
         obtain rfl : ad101 = ad102 := (by injection e102)
         replace hx102_0 := (HB.out.cell (World.block_lt_of_cell? w _ hx102_0)).trans hx102_0
         have HR102_0 := Aside0.mk hi102_0
         have HC102_0 := Aside0.mk hl102_0
         clear hi102_0 hl102_0
         replace p102 := eq_true p102
         replace q102 := eq_true q102
         have ea_ := Option.some.inj (hx101_0.symm.trans hx102_0)
         injection ea_ with ea_ en_ ec_
         subst ea_
         subst ec_
         clear en_
         have p103 : 0 ≤ (x3_1 : Int) := of_decide_eq_true tA
         have q103 : x3_1 < (l0.length : Int) := of_decide_eq_true tA
         obtain ⟨ad103, A103_0, c103_0, e103, hx103_0, hl103_0, hi103_0⟩ := at_L2 HR0.out x3_1 p103 q103
         have hw103_0 := hx103_0
         obtain rfl : ad101 = ad103 := (by injection e103)
         replace hx103_0 := (HB.out.cell (World.block_lt_of_cell? w _ hx103_0)).trans hx103_0
         have HR103_0 := Aside0.mk hi103_0
         have HC103_0 := Aside0.mk hl103_0
         clear hi103_0 hl103_0
         replace p103 := eq_true p103
         replace q103 := eq_true q103
         have ea_ := Option.some.inj (hx101_0.symm.trans hx103_0)
         injection ea_ with ea_ en_ ec_
         subst ea_
         subst ec_
         clear en_
         have p104 : 0 ≤ (0 : Int) := (by omega)
         have q104 : 0 < (l0.length : Int) := of_decide_eq_true tA
         obtain ⟨ad104, A104_0, c104_0, e104, hx104_0, hl104_0, hi104_0⟩ := at_L2 HR0.out 0 p104 q104
         have hw104_0 := hx104_0
         (try rw [show ((0 : Int)).toNat = 0 from rfl] at hw104_0)
         (try rw [show 0 * 1 = 0 from rfl] at hw104_0)
         (try rw [Addr.add_zero'] at hw104_0)
         obtain rfl : ad101 = ad104 := (by injection e104)
         have qi104 : (0 < l0.length) = True := eq_true (by omega)
         (try rw [show ((0 : Int)).toNat = 0 from rfl] at hx104_0)
         (try rw [Addr.add_zero'] at hx104_0)
         replace hx104_0 := (HB.out.cell (World.block_lt_of_cell? w _ hx104_0)).trans hx104_0
         have HR104_0 := Aside0.mk hi104_0
         have HC104_0 := Aside0.mk hl104_0
         clear hi104_0 hl104_0
         replace p104 := eq_true p104
         replace q104 := eq_true q104
         refine start_ (n := 34) (S := fun w' => w'.cell? (ad101.add (x3_1).toNat) = some (.slice A101_0 (rd_L2 l0 x3_1).length c101_0) ∧ w'.cell? (ad101.add (x3_1).toNat) = some (.slice A101_0 (rd_L2 l0 x3_1).length c101_0) ∧ w'.cell? (ad101.add (x3_1).toNat) = some (.slice A101_0 (rd_L2 l0 x3_1).length c101_0) ∧ w'.cell? ad101 = some (.slice A104_0 (rd_L2 l0 0).length c104_0)) (ds := []) #[false, false, false, false, false, false, false, false, false, false, false, false, false, false, false, false, false, false, false, false, false, false, false, false, false, false, false, false, false, false, false, false, false, false] (by kernel_rfl) rfl rfl ⟨((HB.out.cell (World.block_lt_of_cell? w _ hw101_0)).trans hw101_0), ((HB.out.cell (World.block_lt_of_cell? w _ hw102_0)).trans hw102_0), ((HB.out.cell (World.block_lt_of_cell? w _ hw103_0)).trans hw103_0), ((HB.out.cell (World.block_lt_of_cell? w _ hw104_0)).trans hw104_0)⟩ (fun hHeld => ?_); refine with_tabW earshotref03_Vectors.tab4 earshotref03_Vectors.bits4 (fun HT_ HW_ => ?_)
         generalize wr.drew = w14 at HB HR101_0 HR102_0 HR103_0 HR104_0 hx101_0 hx102_0 hx103_0 hx104_0 hHeld ⊢
         refine pI 0 (some 10) (bm 1 34) HT_.out ?_
         refine pI 1 (some 11) (bm 2 34) HT_.out ?_
         refine pI 2 (some 12) (bm 3 34) HT_.out ?_
         refine tk4 3 (some 13) (bm 4 34) HT_.out HW_.out hHeld ?_
         refine pI 4 (some 14) (bm 5 34) HT_.out ?_
         refine pI 5 (some 15) (bm 6 34) HT_.out ?_
         refine pI 6 (some 16) (bm 7 34) HT_.out ?_
         refine pI 7 (some 17) (bm 8 34) HT_.out ?_
         refine pI 8 (some 18) (bm 9 34) HT_.out ?_
         refine pI 9 (some 19) (bm 10 34) HT_.out ?_
         refine tk4 10 (some 20) (bm 11 34) HT_.out HW_.out hHeld ?_
         refine pI 11 (some 21) (bm 12 34) HT_.out ?_
         refine pI 12 (some 22) (bm 13 34) HT_.out ?_
         refine pI 13 (some 23) (bm 14 34) HT_.out ?_
         refine pI 14 (some 24) (bm 15 34) HT_.out ?_
         refine pI 15 (some 25) (bm 16 34) HT_.out ?_
         refine pI 16 (some 26) (bm 17 34) HT_.out ?_
         refine pI 17 (some 27) (bm 18 34) HT_.out ?_
         refine pure_ (i := 20) (N := some 30) (v := ?_) (a' := ?_) #[true, true, true, true, true, true, true, true, true, true, true, true, true, true, true, true, true, true, false, false, true, false, false, false, false, false, false, false, false, false, false, false, false, false] rfl rfl (any_of HT_.out (by kernel_rfl)) (fun _ _ _ h => h) (Or.inl ⟨by rfl, ?_⟩) ?_ ?_
         rotate_left
         ·intro w'
          go_simp
          with_reducible rfl
         rotate_left
         ·simp only [Act.put, List.setIfInBounds_toArray, List.set_cons_zero, List.set_cons_succ, i64_w, i32_w]
          rfl
         refine pure_ (i := 21) (N := some 31) (v := ?_) (a' := ?_) #[true, true, true, true, true, true, true, true, true, true, true, true, true, true, true, true, true, true, false, false, true, true, false, false, false, false, false, false, false, false, false, false, false, false] rfl rfl (any_of HT_.out (by kernel_rfl)) (fun _ _ _ h => h) (Or.inl ⟨by rfl, ?_⟩) ?_ ?_
         rotate_left
         ·intro w'
          go_simp
          with_reducible rfl
         rotate_left
         ·simp only [Act.put, List.setIfInBounds_toArray, List.set_cons_zero, List.set_cons_succ, i64_w, i32_w]
          rfl
         refine take_ (i := 18) (N := some 28) (v := ?_) (a' := ?_) #[true, true, true, true, true, true, true, true, true, true, true, true, true, true, true, true, true, true, true, false, true, true, false, false, false, false, false, false, false, false, false, false, false, false] rfl rfl (take_ofW HT_.out HW_.out (by kernel_rfl)) (fun _ _ _ h => h) (Or.inl ⟨by rfl, ?_⟩) hHeld ?_ ?_
         rotate_left
         ·rintro w' ⟨s0, s1, s2, s3⟩
          go_simp
          with_reducible rfl
         rotate_left
         ·simp only [Act.put, List.setIfInBounds_toArray, List.set_cons_zero, List.set_cons_succ, i64_w, i32_w]
          rfl
         refine pI 19 (some 29) (bm 22 34) HT_.out ?_
         refine tk4 22 (some 32) (bm 23 34) HT_.out HW_.out hHeld ?_
         refine pI 23 (some 33) (bm 24 34) HT_.out ?_
         refine pI 24 (some 34) (bm 25 34) HT_.out ?_
         refine pI 25 (some 35) (bm 26 34) HT_.out ?_
         refine pI 26 (some 36) (bm 27 34) HT_.out ?_
         refine pO 27 (some 37) (bm 28 34) HT_.out ?_
         refine pO 28 (some 38) (bm 29 34) HT_.out ?_
         refine pO 29 (some 39) (bm 30 34) HT_.out ?_
         refine pO 30 (some 40) (bm 31 34) HT_.out ?_
         refine pO 31 (some 41) (bm 32 34) HT_.out ?_
         refine pO 32 (some 42) (bm 33 34) HT_.out ?_
         refine pI 33 (some 43) (bm 34 34) HT_.out ?_
         refine done_ (done_of HT_.out (by kernel_rfl)) ?_
         try go_wp2
         go_ret
         exact ⟨by first | rfl | (simp [errW_none, errW_some] <;> rfl) | (simp [*, errW_none, errW_some] <;> rfl), tB⟩
       ·rw [if_neg c8] at H
        exact absurd H (by simp)
    ·rw [if_neg c3] at H
     exact absurd H (by simp)
   ·rw [if_neg c2] at H
    have c2b0 := decide_eq_false c2
    clear c2
    obtain rfl := Option.some.inj H
    go_wp2
    go_ret
    exact ⟨by first | rfl | (simp [errW_none, errW_some] <;> rfl) | (simp [*, errW_none, errW_some] <;> rfl), tB⟩

/-! ### earshotref03_Wrong: function 58 -/
def earshotref03_Wrong.f (k : Nat) (l0 : List (List Int)) : Option (Int) := if (l0.length : Int) > 10000 then (some 5) else ((earshotref03_Vectors.f k l0).bind fun t101 => (if t101 = true then (some 0) else (some 2)))
theorem earshotref03_Wrong.mono : ∀ a0 k, LeO (earshotref03_Wrong.f k a0) (earshotref03_Wrong.f (k + 1) a0) := by
 intro a0 k
 unfold earshotref03_Wrong.f
 repeat' first
   | (with_reducible exact earshotref03_Vectors.mono _ _)
   | (with_reducible exact LeO.refl _)
   | (with_reducible exact LeO.none _)
   | (with_reducible refine LeO.ite ?_ ?_)
   | (with_reducible refine LeO.bind ?_ (fun _ => ?_))
   | exact earshotref03_Vectors.mono _ _
   | exact LeO.none _
   | refine LeO.ite ?_ ?_
   | refine LeO.bind ?_ (fun _ => ?_)
set_option maxHeartbeats 8000000 in
set_option maxRecDepth 100000 in
theorem earshotref03_Wrong.calls (k : Nat) (A0 : Option Addr) (c0 : Nat) (l0 : List (List Int)) (r : Int) (w : World) (hr0 : Kd.C (Kd.slice 3 (Kd.int .i64)) w A0 l0.length l0) (hc0 : l0.length ≤ c0) (h : earshotref03_Wrong.f k l0 = some r) :
  Calls Tryd.prog 58 #[.slice A0 l0.length c0] w fun e w' => e = .returned (.int .i64 r) ∧ Below w.heap.size w w' := by
 have HR0 := Aside0.mk hr0
 have HC0 := Aside0.mk hc0
 clear hr0 hc0
 have HB := Aside0.mk (Below.refl w.heap.size w)
 have H : (if (l0.length : Int) > 10000 then (some 5) else ((earshotref03_Vectors.f k l0).bind fun t101 => (if t101 = true then (some 0) else (some 2)))) = some r := h
 clear h
 by_cases c2 : (l0.length : Int) > 10000
 ·rw [if_pos c2] at H
  have c2b0 : decide (10000 < (l0.length : Int)) = true := decide_eq_true c2
  have c2b1 : decide (10000 < l0.length) = true := decide_eq_true (by omega)
  clear c2
  obtain rfl := Option.some.inj H
  go_enter Tryd.func58, Tryd.ntmps58
  go_wp2
  go_ret
  exact ⟨by first | rfl | (simp [errW_none, errW_some] <;> rfl) | (simp [*, errW_none, errW_some] <;> rfl), tB⟩
 ·rw [if_neg c2] at H
  have c2b0 : decide (10000 < (l0.length : Int)) = false := decide_eq_false c2
  have c2b1 : decide (10000 < l0.length) = false := decide_eq_false (by omega)
  clear c2
  replace H := Option.bind_eq_some_iff.mp H
  obtain ⟨t101, A30, H⟩ := H
  try dsimp only at H
  have A3 := Aside0.mk A30
  clear A30
  by_cases c4 : t101 = true
  ·subst c4
   have H1 : (some 0) = some r := by rw [if_pos rfl] at H; exact H
   clear H
   have H := H1
   clear H1
   obtain rfl := Option.some.inj H
   go_enter Tryd.func58, Tryd.ntmps58
   go_wp2_with (first | ((with_reducible refine gate_callee (f := 61) rfl ?_); refine goesL_ (some 7) rfl rfl Tryd.func61 (by kernel_rfl) rfl #[.slice A0 l0.length c0] rfl tL ?_; (with_reducible refine (earshotref03_Vectors.calls k _ _ l0 true _ ?side1 ?side2 A3.out).mono ?_); (case side1 => exact tC HR0.out); (case side2 => exact HC0.out); rintro e w5 ⟨rfl, hb⟩; refine ⟨_, rfl, ?_⟩; have n0_ := Aside0.mk (below_step tB hb); clear HB; have HB := n0_; clear n0_; (try clear hb); (try clear hb2); (try clear hk); (try clear hi)))
   go_ret
   exact ⟨by first | rfl | (simp [errW_none, errW_some] <;> rfl) | (simp [*, errW_none, errW_some] <;> rfl), tB⟩
  ·replace c4 := Bool.eq_false_iff.mpr c4
   subst c4
   have H1 : (some 2) = some r := by rw [if_neg (show ¬ (false = true) by decide)] at H; exact H
   clear H
   have H := H1
   clear H1
   obtain rfl := Option.some.inj H
   go_enter Tryd.func58, Tryd.ntmps58
   go_wp2_with (first | ((with_reducible refine gate_callee (f := 61) rfl ?_); refine goesL_ (some 7) rfl rfl Tryd.func61 (by kernel_rfl) rfl #[.slice A0 l0.length c0] rfl tL ?_; (with_reducible refine (earshotref03_Vectors.calls k _ _ l0 false _ ?side1 ?side2 A3.out).mono ?_); (case side1 => exact tC HR0.out); (case side2 => exact HC0.out); rintro e w6 ⟨rfl, hb⟩; refine ⟨_, rfl, ?_⟩; have n0_ := Aside0.mk (below_step tB hb); clear HB; have HB := n0_; clear n0_; (try clear hb); (try clear hb2); (try clear hk); (try clear hi)))
   go_ret
   exact ⟨by first | rfl | (simp [errW_none, errW_some] <;> rfl) | (simp [*, errW_none, errW_some] <;> rfl), tB⟩

/-! ### feature_Cost: function 62 -/
def feature_Cost.l0 : Nat → List (List Int) → Int → List (List Int) → Int → Int → Option (Int × Int)
 | 0, _, _, _, _, _ => none
 | k + 1, x1, x7, x18, x19, x20 => if x20 < x19 then (if 0 ≤ x20 then (if x20 < (x18.length : Int) then ((feature_nearest.f k (rd_L2 x18 x20) x1).bind fun bt103 => (feature_Cost.l0 k x1 (wrap64 (x7 + bt103.2)) x18 x19 (wrap64 (x20 + 1)))) else (none)) else (none)) else (some (x7, 0))
def feature_Cost.f (k : Nat) (l0 : List (List Int)) (l1 : List (List Int)) : Option (Int × Int) := (feature_fits.f k l0 l1).bind fun t101 => (if t101 = 0 then (feature_Cost.l0 k l1 0 l0 (l0.length : Int) 0) else (some (0, t101)))
theorem feature_Cost.mono_l : ∀ k, (∀ y0 y1 y2 y3 y4, LeO (feature_Cost.l0 k y0 y1 y2 y3 y4) (feature_Cost.l0 (k + 1) y0 y1 y2 y3 y4))
 | 0 => fun _ _ _ _ _ r h => by simp [feature_Cost.l0] at h
 | k + 1 => by
  have ih0 := feature_Cost.mono_l k
  ·intro y0 y1 y2 y3 y4
   unfold feature_Cost.l0
   repeat' first
   | (with_reducible exact ih0 _ _ _ _ _)
   | (with_reducible exact feature_fits.mono _ _ _)
   | (with_reducible exact feature_nearest.mono _ _ _)
   | (with_reducible exact LeO.refl _)
   | (with_reducible exact LeO.none _)
   | (with_reducible refine LeO.ite ?_ ?_)
   | (with_reducible refine LeO.bind ?_ (fun _ => ?_))
   | exact ih0 _ _ _ _ _
   | exact feature_fits.mono _ _ _
   | exact feature_nearest.mono _ _ _
   | exact LeO.none _
   | refine LeO.ite ?_ ?_
   | refine LeO.bind ?_ (fun _ => ?_)
theorem feature_Cost.mono : ∀ a0 a1 k, LeO (feature_Cost.f k a0 a1) (feature_Cost.f (k + 1) a0 a1) := by
 intro a0 a1 k
 have ih0 := feature_Cost.mono_l k
 unfold feature_Cost.f
 repeat' first
   | (with_reducible exact ih0 _ _ _ _ _)
   | (with_reducible exact feature_fits.mono _ _ _)
   | (with_reducible exact feature_nearest.mono _ _ _)
   | (with_reducible exact LeO.refl _)
   | (with_reducible exact LeO.none _)
   | (with_reducible refine LeO.ite ?_ ?_)
   | (with_reducible refine LeO.bind ?_ (fun _ => ?_))
   | exact ih0 _ _ _ _ _
   | exact feature_fits.mono _ _ _
   | exact feature_nearest.mono _ _ _
   | exact LeO.none _
   | refine LeO.ite ?_ ?_
   | refine LeO.bind ?_ (fun _ => ?_)
set_option maxHeartbeats 8000000 in
set_option maxRecDepth 100000 in
theorem feature_Cost.calls (k : Nat) (A0 : Option Addr) (c0 : Nat) (l0 : List (List Int)) (A1 : Option Addr) (c1 : Nat) (l1 : List (List Int)) (r1 : Int) (r2 : Int) (w : World) (hr0 : Kd.C (Kd.slice 3 (Kd.int .i64)) w A0 l0.length l0) (hc0 : l0.length ≤ c0) (hr1 : Kd.C (Kd.slice 3 (Kd.int .i64)) w A1 l1.length l1) (hc1 : l1.length ≤ c1) (h : feature_Cost.f k l0 l1 = some (r1, r2)) :
  Calls Tryd.prog 62 #[.slice A0 l0.length c0, .slice A1 l1.length c1] w fun e w' => e = .returned (.tuple #[.int .i64 r1, .int .i64 r2]) ∧ Below w.heap.size w w' := by
 have HR0 := Aside0.mk hr0
 have HC0 := Aside0.mk hc0
 clear hr0 hc0
 have HR1 := Aside0.mk hr1
 have HC1 := Aside0.mk hc1
 clear hr1 hc1
 have HB := Aside0.mk (Below.refl w.heap.size w)
 have H : ((feature_fits.f k l0 l1).bind fun t101 => (if t101 = 0 then (feature_Cost.l0 k l1 0 l0 (l0.length : Int) 0) else (some (0, t101)))) = some (r1, r2) := h
 clear h
 replace H := Option.bind_eq_some_iff.mp H
 obtain ⟨t101, A30, H⟩ := H
 try dsimp only at H
 have A3 := Aside0.mk A30
 clear A30
 by_cases c4 : t101 = 0
 ·rw [if_pos c4] at H
  have c4b0 : (t101 == 0) = true := beq_iff_eq.mpr c4
  have c4b1 : (t101 != 0) = false := bne_eq_false_iff_eq.mpr c4
  clear c4
  have H' := Aside0.mk H
  clear H
  go_enter Tryd.func62, Tryd.ntmps62
  go_wp2_with (first | ((with_reducible refine gate_callee (f := 100) rfl ?_); refine goesL_ (some 14) rfl rfl Tryd.func100 (by kernel_rfl) rfl #[.slice A0 l0.length c0, .slice A1 l1.length c1] rfl tL ?_; (with_reducible refine (feature_fits.calls k _ _ l0 _ _ l1 t101 _ ?side1 ?side2 ?side3 ?side4 A3.out).mono ?_); (case side1 => exact tC HR0.out); (case side2 => exact HC0.out); (case side3 => exact tC HR1.out); (case side4 => exact HC1.out); rintro e w5 ⟨rfl, hb⟩; refine ⟨_, rfl, ?_⟩; have n0_ := Aside0.mk (below_step tB hb); clear HB; have HB := n0_; clear n0_; (try clear hb); (try clear hb2); (try clear hk); (try clear hi)))
  go_loopg [7, 20] k (fun kq v7 v20 w' => ∃ (x7_1 : Int) (x20_1 : Int), v7 = .int .i64 x7_1 ∧ v20 = .int .i64 x20_1 ∧ Aside0 (feature_Cost.l0 kq l1 x7_1 l0 (l0.length : Int) x20_1 = some (r1, r2)) ∧ Aside0 (kq ≤ k) ∧ Aside0 (Below w.heap.size w w'))
  case atStart => exact ⟨(0), (0), (by first | rfl | (simp; done) | (simp only [i64_w]; done) | (simp [*]; done)), (by first | rfl | (simp; done) | (simp only [i64_w]; done) | (simp [*]; done)), H', ⟨Nat.le_refl _⟩, ⟨tB⟩⟩
  case round =>
   clear H'
   try clear c1
   try clear p2
   try clear c4
   try clear c4b0
   try clear c4b1
   obtain ⟨x7_1, x20_1, rfl, rfl, HA, HK1, HB⟩ := hrel
   cases gk with
   | zero => exact absurd HA.out (by simp [feature_Cost.l0])
   | succ k1 =>
    have H := HA.out
    clear HA
    simp only [feature_Cost.l0] at H
    by_cases c6 : x20_1 < (l0.length : Int)
    ·rw [if_pos c6] at H
     have c6b0 := decide_eq_true c6
     clear c6
     by_cases c7 : 0 ≤ x20_1
     ·rw [if_pos c7] at H
      have c7b0 := decide_eq_true c7
      clear c7
      by_cases c8 : x20_1 < (l0.length : Int)
      ·rw [if_pos c8] at H
       have c8b0 := decide_eq_true c8
       clear c8
       replace H := Option.bind_eq_some_iff.mp H
       obtain ⟨⟨t103, t104⟩, A90, H⟩ := H
       try dsimp only at H
       have A9 := Aside0.mk A90
       clear A90
       have H' := Aside0.mk H
       clear H
       have p102 : 0 ≤ (x20_1 : Int) := of_decide_eq_true tA
       have q102 : x20_1 < (l0.length : Int) := of_decide_eq_true tA
       obtain ⟨ad102, A102_0, c102_0, e102, hx102_0, hl102_0, hi102_0⟩ := at_L2 HR0.out x20_1 p102 q102
       cases e102
       replace hx102_0 := (HB.out.cell (World.block_lt_of_cell? w _ hx102_0)).trans hx102_0
       have HR102_0 := Aside0.mk hi102_0
       have HC102_0 := Aside0.mk hl102_0
       clear hi102_0 hl102_0
       replace p102 := eq_true p102
       replace q102 := eq_true q102
       go_wp2_with (first | ((with_reducible refine gate_callee (f := 101) rfl ?_); refine goesL_ (some 27) rfl rfl Tryd.func101 (by kernel_rfl) rfl #[.slice A102_0 (rd_L2 l0 x20_1).length c102_0, .slice A1 l1.length c1] rfl tL ?_; (with_reducible refine (feature_nearest.calls k1 _ _ (rd_L2 l0 x20_1) _ _ l1 t103 t104 _ ?side1 ?side2 ?side3 ?side4 A9.out).mono ?_); (case side1 => exact tC (Kd.C_below HR102_0.out HB.out)); (case side2 => exact HC102_0.out); (case side3 => exact tC (Kd.C_below HR1.out HB.out)); (case side4 => exact HC1.out); rintro e w' ⟨rfl, ⟨nd, rfl⟩⟩; refine ⟨_, rfl, ?_⟩))
       go_roundg k1
       case measure => have := HK1.out; omega
       case rel => exact ⟨(wrap64 (x7_1 + t104)), (wrap64 (x20_1 + 1)), (by first | rfl | (simp; done) | (simp only [i64_w]; done) | (simp [*]; done)), (by first | rfl | (simp; done) | (simp only [i64_w]; done) | (simp [*]; done)), H', ⟨by have := HK1.out; omega⟩, ⟨tB⟩⟩
      ·rw [if_neg c8] at H
       exact absurd H (by simp)
     ·rw [if_neg c7] at H
      exact absurd H (by simp)
    ·rw [if_neg c6] at H
     have c6b0 := decide_eq_false c6
     clear c6
     simp only [Option.some.injEq, Prod.mk.injEq] at H
     obtain ⟨rfl, rfl⟩ := H
     go_wp2
     go_ret2
     exact ⟨by first | rfl | (simp [errW_none, errW_some] <;> rfl) | (simp [*, errW_none, errW_some] <;> rfl), tB⟩
 ·rw [if_neg c4] at H
  have c4b0 : (t101 == 0) = false := beq_eq_false_iff_ne.mpr c4
  have c4b1 : (t101 != 0) = true := bne_iff_ne.mpr c4
  simp only [Option.some.injEq, Prod.mk.injEq] at H
  obtain ⟨rfl, rfl⟩ := H
  go_enter Tryd.func62, Tryd.ntmps62
  go_wp2_with (first | ((with_reducible refine gate_callee (f := 100) rfl ?_); refine goesL_ (some 14) rfl rfl Tryd.func100 (by kernel_rfl) rfl #[.slice A0 l0.length c0, .slice A1 l1.length c1] rfl tL ?_; (with_reducible refine (feature_fits.calls k _ _ l0 _ _ l1 t101 _ ?side1 ?side2 ?side3 ?side4 A3.out).mono ?_); (case side1 => exact tC HR0.out); (case side2 => exact HC0.out); (case side3 => exact tC HR1.out); (case side4 => exact HC1.out); rintro e w10 ⟨rfl, hb⟩; refine ⟨_, rfl, ?_⟩; have n0_ := Aside0.mk (below_step tB hb); clear HB; have HB := n0_; clear n0_; (try clear hb); (try clear hb2); (try clear hk); (try clear hi)))
  go_ret2
  exact ⟨by first | rfl | (simp [errW_none, errW_some] <;> rfl) | (simp [*, errW_none, errW_some] <;> rfl), tB⟩

/-! ### feature_Seeds: function 73 -/
mutual
def feature_Seeds.j0 : Nat → List (List Int) → Int → Bool → Option ((List (List Int)) × Int)
 | 0, _, _, _ => none
 | k + 1, x0, x1, x29 => if x29 = true then (some (([] : List (List Int)), 2)) else (if 0 < (x0.length : Int) then ((slices_Clone_int_int.f (rd_L2 x0 0)).bind fun t103 => (feature_Seeds.l0 k x0 x1 (([t103] : List (List Int))))) else (none))
def feature_Seeds.l0 : Nat → List (List Int) → Int → List (List Int) → Option ((List (List Int)) × Int)
 | 0, _, _, _ => none
 | k + 1, x0, x1, x7 => if (x7.length : Int) < x1 then (feature_Seeds.l1 k x0 x1 x7 (-1) 0 x0 (x0.length : Int) 0) else (some (x7, 0))
def feature_Seeds.l1 : Nat → List (List Int) → Int → List (List Int) → Int → Int → List (List Int) → Int → Int → Option ((List (List Int)) × Int)
 | 0, _, _, _, _, _, _, _, _ => none
 | k + 1, x0, x1, x7, x8, x9, x39, x40, x41 => if x41 < x40 then (if 0 ≤ x41 then (if x41 < (x39.length : Int) then ((feature_nearest.f k (rd_L2 x39 x41) x7).bind fun bt110 => (if bt110.2 > x9 then (feature_Seeds.l1 k x0 x1 x7 x41 bt110.2 x39 x40 (wrap64 (x41 + 1))) else (feature_Seeds.l1 k x0 x1 x7 x8 x9 x39 x40 (wrap64 (x41 + 1))))) else (none)) else (none)) else (if x8 < 0 then (some (x7, 0)) else (if 0 ≤ x8 then (if x8 < (x0.length : Int) then ((slices_Clone_int_int.f (rd_L2 x0 x8)).bind fun t113 => (if x7.length < 5864062014805 then (feature_Seeds.l0 k x0 x1 (x7 ++ [t113])) else (none))) else (none)) else (none)))
end
def feature_Seeds.f (k : Nat) (l0 : List (List Int)) (a1 : Int) : Option ((List (List Int)) × Int) := (feature_vectors.f k l0).bind fun t101 => (if t101 = 0 then (if (l0.length : Int) = 0 then (feature_Seeds.j0 k l0 a1 true) else (if a1 < 1 then (feature_Seeds.j0 k l0 a1 true) else (feature_Seeds.j0 k l0 a1 (decide (a1 > 256))))) else (some (([] : List (List Int)), t101)))
theorem feature_Seeds.mono_l : ∀ k, (∀ y0 y1 y2, LeO (feature_Seeds.j0 k y0 y1 y2) (feature_Seeds.j0 (k + 1) y0 y1 y2)) ∧ (∀ y0 y1 y2, LeO (feature_Seeds.l0 k y0 y1 y2) (feature_Seeds.l0 (k + 1) y0 y1 y2)) ∧ (∀ y0 y1 y2 y3 y4 y5 y6 y7, LeO (feature_Seeds.l1 k y0 y1 y2 y3 y4 y5 y6 y7) (feature_Seeds.l1 (k + 1) y0 y1 y2 y3 y4 y5 y6 y7))
 | 0 => ⟨fun _ _ _ r h => by simp [feature_Seeds.j0] at h, fun _ _ _ r h => by simp [feature_Seeds.l0] at h, fun _ _ _ _ _ _ _ _ r h => by simp [feature_Seeds.l1] at h⟩
 | k + 1 => by
  obtain ⟨ih0, ih1, ih2⟩ := feature_Seeds.mono_l k
  refine ⟨?_, ?_, ?_⟩
  ·intro y0 y1 y2
   unfold feature_Seeds.j0
   repeat' first
   | (with_reducible exact ih0 _ _ _)
   | (with_reducible exact ih1 _ _ _)
   | (with_reducible exact ih2 _ _ _ _ _ _ _ _)
   | (with_reducible exact feature_nearest.mono _ _ _)
   | (with_reducible exact feature_vectors.mono _ _)
   | (with_reducible exact LeO.refl _)
   | (with_reducible exact LeO.none _)
   | (with_reducible refine LeO.ite ?_ ?_)
   | (with_reducible refine LeO.bind ?_ (fun _ => ?_))
   | exact ih0 _ _ _
   | exact ih1 _ _ _
   | exact ih2 _ _ _ _ _ _ _ _
   | exact feature_nearest.mono _ _ _
   | exact feature_vectors.mono _ _
   | exact LeO.none _
   | refine LeO.ite ?_ ?_
   | refine LeO.bind ?_ (fun _ => ?_)
  ·intro y0 y1 y2
   unfold feature_Seeds.l0
   repeat' first
   | (with_reducible exact ih0 _ _ _)
   | (with_reducible exact ih1 _ _ _)
   | (with_reducible exact ih2 _ _ _ _ _ _ _ _)
   | (with_reducible exact feature_nearest.mono _ _ _)
   | (with_reducible exact feature_vectors.mono _ _)
   | (with_reducible exact LeO.refl _)
   | (with_reducible exact LeO.none _)
   | (with_reducible refine LeO.ite ?_ ?_)
   | (with_reducible refine LeO.bind ?_ (fun _ => ?_))
   | exact ih0 _ _ _
   | exact ih1 _ _ _
   | exact ih2 _ _ _ _ _ _ _ _
   | exact feature_nearest.mono _ _ _
   | exact feature_vectors.mono _ _
   | exact LeO.none _
   | refine LeO.ite ?_ ?_
   | refine LeO.bind ?_ (fun _ => ?_)
  ·intro y0 y1 y2 y3 y4 y5 y6 y7
   unfold feature_Seeds.l1
   repeat' first
   | (with_reducible exact ih0 _ _ _)
   | (with_reducible exact ih1 _ _ _)
   | (with_reducible exact ih2 _ _ _ _ _ _ _ _)
   | (with_reducible exact feature_nearest.mono _ _ _)
   | (with_reducible exact feature_vectors.mono _ _)
   | (with_reducible exact LeO.refl _)
   | (with_reducible exact LeO.none _)
   | (with_reducible refine LeO.ite ?_ ?_)
   | (with_reducible refine LeO.bind ?_ (fun _ => ?_))
   | exact ih0 _ _ _
   | exact ih1 _ _ _
   | exact ih2 _ _ _ _ _ _ _ _
   | exact feature_nearest.mono _ _ _
   | exact feature_vectors.mono _ _
   | exact LeO.none _
   | refine LeO.ite ?_ ?_
   | refine LeO.bind ?_ (fun _ => ?_)
theorem feature_Seeds.mono : ∀ a0 a1 k, LeO (feature_Seeds.f k a0 a1) (feature_Seeds.f (k + 1) a0 a1) := by
 intro a0 a1 k
 obtain ⟨ih0, ih1, ih2⟩ := feature_Seeds.mono_l k
 unfold feature_Seeds.f
 repeat' first
   | (with_reducible exact ih0 _ _ _)
   | (with_reducible exact ih1 _ _ _)
   | (with_reducible exact ih2 _ _ _ _ _ _ _ _)
   | (with_reducible exact feature_nearest.mono _ _ _)
   | (with_reducible exact feature_vectors.mono _ _)
   | (with_reducible exact LeO.refl _)
   | (with_reducible exact LeO.none _)
   | (with_reducible refine LeO.ite ?_ ?_)
   | (with_reducible refine LeO.bind ?_ (fun _ => ?_))
   | exact ih0 _ _ _
   | exact ih1 _ _ _
   | exact ih2 _ _ _ _ _ _ _ _
   | exact feature_nearest.mono _ _ _
   | exact feature_vectors.mono _ _
   | exact LeO.none _
   | refine LeO.ite ?_ ?_
   | refine LeO.bind ?_ (fun _ => ?_)
set_option maxHeartbeats 8000000 in
set_option maxRecDepth 100000 in
theorem feature_Seeds.calls (k : Nat) (A0 : Option Addr) (c0 : Nat) (l0 : List (List Int)) (a1 : Int) (r1 : List (List Int)) (r2 : Int) (w : World) (hr0 : Kd.C (Kd.slice 3 (Kd.int .i64)) w A0 l0.length l0) (hc0 : l0.length ≤ c0) (h : feature_Seeds.f k l0 a1 = some (r1, r2)) :
  Calls Tryd.prog 73 #[.slice A0 l0.length c0, .int .i64 a1] w fun e w' => ∃ v0_ : Value, e = .returned (.tuple #[v0_, .int .i64 r2]) ∧ Kd.N (Kd.slice 3 (Kd.int .i64)) 22 w' w.heap.size (fun k_ => (w.heap.size ≤ k_)) v0_ r1 ∧ Below w.heap.size w w' := by
 have HR0 := Aside0.mk hr0
 have HC0 := Aside0.mk hc0
 clear hr0 hc0
 have HB := Aside0.mk (Below.refl w.heap.size w)
 have H : ((feature_vectors.f k l0).bind fun t101 => (if t101 = 0 then (if (l0.length : Int) = 0 then (feature_Seeds.j0 k l0 a1 true) else (if a1 < 1 then (feature_Seeds.j0 k l0 a1 true) else (feature_Seeds.j0 k l0 a1 (decide (a1 > 256))))) else (some (([] : List (List Int)), t101)))) = some (r1, r2) := h
 clear h
 replace H := Option.bind_eq_some_iff.mp H
 obtain ⟨t101, A30, H⟩ := H
 try dsimp only at H
 have A3 := Aside0.mk A30
 clear A30
 by_cases c4 : t101 = 0
 ·rw [if_pos c4] at H
  have c4b0 : (t101 == 0) = true := beq_iff_eq.mpr c4
  have c4b1 : (t101 != 0) = false := bne_eq_false_iff_eq.mpr c4
  clear c4
  have HC5 := Aside0.mk H
  clear H
  go_enter Tryd.func73, Tryd.ntmps73
  go_upto_region 4 with (first | ((with_reducible refine gate_callee (f := 113) rfl ?_); refine goesL_ (some 15) rfl rfl Tryd.func113 (by kernel_rfl) rfl #[.slice A0 l0.length c0] rfl tL ?_; (with_reducible refine (feature_vectors.calls k _ _ l0 t101 _ ?side1 ?side2 A3.out).mono ?_); (case side1 => exact tC HR0.out); (case side2 => exact HC0.out); rintro e w6 ⟨rfl, hb⟩; refine ⟨_, rfl, ?_⟩; have n0_ := Aside0.mk (below_step tB hb); clear HB; have HB := n0_; clear n0_; (try clear hb); (try clear hb2); (try clear hk); (try clear hi)))
  (try simp only [Act.put, List.setIfInBounds_toArray, List.set_cons_zero, List.set_cons_succ])
  go_cut [29] (fun v29 wc => ∃ (kq : Nat) (x29_4 : Bool), v29 = .bool x29_4 ∧ Aside0 (feature_Seeds.j0 kq l0 a1 x29_4 = some (r1, r2)) ∧ Aside0 (kq ≤ k) ∧ Aside0 (Below w.heap.size w wc))
  case first =>
   have H := HC5.out
   clear HC5
   by_cases c7 : (l0.length : Int) = 0
   ·rw [if_pos c7] at H
    have c7b0 : ((l0.length : Int) == 0) = true := beq_iff_eq.mpr c7
    have c7b1 : ((l0.length : Int) != 0) = false := bne_eq_false_iff_eq.mpr c7
    clear c7
    (first | rw [c7b0] | (simp only [i64_w, i32_w]; rw [c7b0]) | skip)
    have H' := Aside0.mk H
    clear H
    go_wp2
    go_meet
    case rel => exact ⟨_, (true), (by first | rfl | (simp; done) | (simp only [i64_w]; done) | (simp [*]; done)), H', ⟨by first | omega | exact Nat.le_refl _⟩, ⟨tB⟩⟩
   ·rw [if_neg c7] at H
    have c7b0 : ((l0.length : Int) == 0) = false := beq_eq_false_iff_ne.mpr c7
    have c7b1 : ((l0.length : Int) != 0) = true := bne_iff_ne.mpr c7
    have c7b2 : ¬ (l0 = []) := fun h_ => c7 (by rw [h_]; rfl)
    (first | rw [c7b0] | (simp only [i64_w, i32_w]; rw [c7b0]) | skip)
    by_cases c8 : a1 < 1
    ·rw [if_pos c8] at H
     have c8b0 := decide_eq_true c8
     clear c8
     have H' := Aside0.mk H
     clear H
     go_wp2
     go_meet
     case rel => exact ⟨_, (true), (by first | rfl | (simp; done) | (simp only [i64_w]; done) | (simp [*]; done)), H', ⟨by first | omega | exact Nat.le_refl _⟩, ⟨tB⟩⟩
    ·rw [if_neg c8] at H
     have c8b0 := decide_eq_false c8
     clear c8
     have H' := Aside0.mk H
     clear H
     go_wp2
     go_meet
     case rel => exact ⟨_, (decide (a1 > 256)), (by first | rfl | (simp; done) | (simp only [i64_w]; done) | (simp [*]; done)), H', ⟨by first | omega | exact Nat.le_refl _⟩, ⟨tB⟩⟩
  case rest =>
   clear HC5
   try clear c1
   try clear p2
   try clear c4
   try clear c4b0
   try clear c4b1
   try clear c7
   try clear c7b0
   try clear c7b1
   try clear c7b2
   try clear c8
   try clear c8b0
   obtain ⟨kq, x29_4, rfl, HA, HJ4, HB⟩ := hcut
   cases kq with
   | zero => exact absurd HA.out (by simp [feature_Seeds.j0])
   | succ kj4 =>
    have H := HA.out
    clear HA
    simp only [feature_Seeds.j0] at H
    by_cases c9 : x29_4 = true
    ·subst c9
     have H1 : (some (([] : List (List Int)), 2)) = some (r1, r2) := by rw [if_pos rfl] at H; exact H
     clear H
     have H := H1
     clear H1
     simp only [Option.some.injEq, Prod.mk.injEq] at H
     obtain ⟨rfl, rfl⟩ := H
     go_wp2
     go_ret2
     exact ⟨_, by first | rfl | (simp [errW_none, errW_some] <;> rfl) | (simp [*, errW_none, errW_some] <;> rfl), by first | exact Kd.S_nil _ _ _ _ _ | exact Kd.N_nil _ _ _ _ _ | exact Kd.V_nil _ _ _ _ _ | exact Kd.Q_nil _ _ _ _ _ | exact Kd.R_nil _ _ _ _ _, tB⟩
    ·replace c9 := Bool.eq_false_iff.mpr c9
     subst c9
     have H1 : (if 0 < (l0.length : Int) then ((slices_Clone_int_int.f (rd_L2 l0 0)).bind fun t103 => (feature_Seeds.l0 kj4 l0 a1 (([t103] : List (List Int))))) else (none)) = some (r1, r2) := by rw [if_neg (show ¬ (false = true) by decide)] at H; exact H
     clear H
     have H := H1
     clear H1
     by_cases c10 : 0 < (l0.length : Int)
     ·rw [if_pos c10] at H
      have c10b0 := decide_eq_true c10
      have c10b1 : decide (0 < l0.length) = true := decide_eq_true (by omega)
      clear c10
      replace H := Option.bind_eq_some_iff.mp H
      obtain ⟨t103, A110, H⟩ := H
      try dsimp only at H
      have A11 := Aside0.mk A110
      clear A110
      obtain ⟨y106, hy106⟩ : ∃ y_ : List (List Int), y_ = (([t103] : List (List Int))) := ⟨_, rfl⟩
      replace H : (feature_Seeds.l0 kj4 l0 a1 y106) = some (r1, r2) := by first | (rw [hy106]; with_reducible exact H) | (have H2_ := (Option.bind_some _ _).symm.trans H; rw [hy106]; with_reducible exact H2_) | (have H2_ := (Option.bind_some _ _).symm.trans H; with_reducible exact H2_) | with_reducible exact H | (rw [hy106]; exact H) | exact H
      have Ny106 := Aside0.mk hy106
      clear hy106
      have H' := Aside0.mk H
      clear H
      have p102 : 0 ≤ (0 : Int) := (by omega)
      have q102 : 0 < (l0.length : Int) := of_decide_eq_true tA
      obtain ⟨ad102, A102_0, c102_0, e102, hx102_0, hl102_0, hi102_0⟩ := at_L2 HR0.out 0 p102 q102
      cases e102
      have qi102 : (0 < l0.length) = True := eq_true (by omega)
      (try rw [show ((0 : Int)).toNat = 0 from rfl] at hx102_0)
      (try rw [Addr.add_zero'] at hx102_0)
      replace hx102_0 := (HB.out.cell (World.block_lt_of_cell? w _ hx102_0)).trans hx102_0
      have HR102_0 := Aside0.mk hi102_0
      have HC102_0 := Aside0.mk hl102_0
      clear hi102_0 hl102_0
      replace p102 := eq_true p102
      replace q102 := eq_true q102
      go_wp2_with (first | ((with_reducible refine gate_callee (f := 99) rfl ?_); refine goesL_ (some 33) rfl rfl Tryd.func99 (by kernel_rfl) rfl #[.slice A102_0 (rd_L2 l0 0).length c102_0] rfl tL ?_; (with_reducible refine (slices_Clone_int_int.calls _ _ (rd_L2 l0 0) t103 _ ?side1 ?side2 A11.out).mono ?_); (case side1 => exact tC (Kd.C_below HR102_0.out HB.out)); (case side2 => exact HC102_0.out); rintro e w12 ⟨v104, rfl, ho0, hb⟩; refine ⟨_, rfl, ?_⟩; have n0_ := Aside0.mk (Kd.R_lower (Kd.R_newM (M := fun k_ => (w.heap.size ≤ k_)) ho0 (below_size tB) (fun k_ h_ => h_)) (below_size tB)); have n1_ := Aside0.mk (below_step tB hb); clear HB; have HO105 := n0_; have HB := n1_; clear n0_ n1_; (try clear hb); (try clear hb2); (try clear hk); (try clear hi); (try clear ho0); obtain ⟨Ao13, co13, eo13⟩ := Kd.R_slice HO105.out; subst eo13) | ((with_reducible refine gate_dst (N := 34) rfl ?_); refine Kd.N_lit (Kd.slice 3 (Kd.int .i64)) _ 22 ?hg (N' := 34) ?hd (xs := ([t103] : List (List Int))) (inner := [.slice Ao13 t103.length co13]) (ok := (fun k_ => (w.heap.size ≤ k_))) (okp := (fun k_ => (w.heap.size ≤ k_))) ?hr ?hp (fun _ hk => hk) ((show ∀ k_, w12.heap.size ≤ k_ → (fun k_ => (w.heap.size ≤ k_)) k_ from fun k_ hk => (Nat.le_trans (below_size tB) hk)) _ (Nat.le_refl _)) (Below.refl _ _) (Nat.le_refl _) (by simp) ?_; (case hd => rfl); (case hg => rfl); (case hr => first | (go_simp; done) | (go_simp; rfl)); (case hp => exact (Reps.one (show Kd.FK (Kd.slice 3 (Kd.int .i64)) _ _ t103 [.slice Ao13 t103.length co13] from (Kd.FK_slice_mk (Kd.R_reads' (Kd.R_mono (ok' := (fun k_ => (w.heap.size ≤ k_))) (HO105.out) (fun k_ hk => hk.1))).2.1 (Kd.R_F (Kd.R_mono (ok' := (fun k_ => (w.heap.size ≤ k_))) (HO105.out) (fun k_ hk => hk.1))))) (Reps.none _ _))); intro v107 w14 ho15 hb hg_ hnew_; clear hg_ hnew_; (first | rw [← Ny106.out] at ho15 | (simp only [Int.reduceToNat] at ho15; rw [← Ny106.out] at ho15)); have n0_ := Aside0.mk (Kd.N_lower ho15 (below_size tB)); have n1_ := Aside0.mk (below_step tB hb); clear HB; clear HO105; have HO108 := n0_; have HB := n1_; clear n0_ n1_; clear hb ho15))
      go_loopg [7] kj4 (fun kq v7 w' => ∃ (x7_2 : List (List Int)), Aside0 (feature_Seeds.l0 kq l0 a1 x7_2 = some (r1, r2)) ∧ Aside0 (kq ≤ kj4) ∧ Aside0 (Kd.N (Kd.slice 3 (Kd.int .i64)) 22 w' w.heap.size (fun k_ => (w.heap.size ≤ k_)) v7 x7_2) ∧ Aside0 (Below w.heap.size w w'))
      case atStart => exact ⟨(y106), H', ⟨Nat.le_refl _⟩, ⟨tN HO108.out⟩, ⟨tB⟩⟩
      case round =>
       clear H'
       try clear c1
       try clear p1
       try clear q1
       try clear hx1
       try clear qi1
       try clear p2
       try clear c4
       try clear c4b0
       try clear c4b1
       try clear c7
       try clear c7b0
       try clear c7b1
       try clear c7b2
       try clear c8
       try clear c8b0
       try clear c9
       try clear c10
       try clear c10b0
       try clear c10b1
       try clear p10
       try clear q10
       try clear hx10
       try clear qi10
       try clear c11
       try clear hx102_0
       try clear p102
       try clear p2
       try clear q102
       obtain ⟨x7_2, HA, HK2, HO_7, HB⟩ := hrel
       cases gk with
       | zero => exact absurd HA.out (by simp [feature_Seeds.l0])
       | succ k2 =>
        have H := HA.out
        clear HA
        simp only [feature_Seeds.l0] at H
        by_cases c16 : (x7_2.length : Int) < a1
        ·rw [if_pos c16] at H
         have c16b0 := decide_eq_true c16
         clear c16
         have H' := Aside0.mk H
         clear H
         obtain ⟨Ao17, co17, eo17⟩ := Kd.N_slice HO_7.out
         subst eo17
         go_wp2
         go_loopg [8, 9, 41] k2 (fun kq v8 v9 v41 w' => ∃ (x8_3 : Int) (x9_3 : Int) (x41_3 : Int), v8 = .int .i64 x8_3 ∧ v9 = .int .i64 x9_3 ∧ v41 = .int .i64 x41_3 ∧ Aside0 (feature_Seeds.l1 kq l0 a1 x7_2 x8_3 x9_3 l0 (l0.length : Int) x41_3 = some (r1, r2)) ∧ Aside0 (kq ≤ k2) ∧ Aside0 (Kd.N (Kd.slice 3 (Kd.int .i64)) 22 w' w.heap.size (fun k_ => (w.heap.size ≤ k_)) (.slice Ao17 x7_2.length co17) x7_2) ∧ Aside0 (Below w.heap.size w w'))
         case atStart => exact ⟨((-1)), (0), (0), (by first | rfl | (simp; done) | (simp only [i64_w]; done) | (simp [*]; done)), (by first | rfl | (simp; done) | (simp only [i64_w]; done) | (simp [*]; done)), (by first | rfl | (simp; done) | (simp only [i64_w]; done) | (simp [*]; done)), H', ⟨Nat.le_refl _⟩, ⟨tN HO_7.out⟩, ⟨tB⟩⟩
         case round =>
          clear H'
          try clear c1
          try clear p1
          try clear q1
          try clear hx1
          try clear qi1
          try clear p2
          try clear c4
          try clear c4b0
          try clear c4b1
          try clear c7
          try clear c7b0
          try clear c7b1
          try clear c7b2
          try clear c8
          try clear c8b0
          try clear c9
          try clear c10
          try clear c10b0
          try clear c10b1
          try clear p10
          try clear q10
          try clear hx10
          try clear qi10
          try clear c11
          try clear c16
          try clear c16b0
          try clear hx102_0
          try clear p1
          try clear p10
          try clear p102
          try clear p2
          try clear q1
          try clear q10
          try clear q102
          obtain ⟨x8_3, x9_3, x41_3, rfl, rfl, rfl, HA, HK3, HO_7, HB⟩ := hrel
          cases gk with
          | zero => exact absurd HA.out (by simp [feature_Seeds.l1])
          | succ k3 =>
           have H := HA.out
           clear HA
           simp only [feature_Seeds.l1] at H
           by_cases c18 : x41_3 < (l0.length : Int)
           ·rw [if_pos c18] at H
            have c18b0 := decide_eq_true c18
            clear c18
            by_cases c19 : 0 ≤ x41_3
            ·rw [if_pos c19] at H
             have c19b0 := decide_eq_true c19
             clear c19
             by_cases c20 : x41_3 < (l0.length : Int)
             ·rw [if_pos c20] at H
              have c20b0 := decide_eq_true c20
              clear c20
              replace H := Option.bind_eq_some_iff.mp H
              obtain ⟨⟨t110, t111⟩, A210, H⟩ := H
              try dsimp only at H
              have A21 := Aside0.mk A210
              clear A210
              by_cases c22 : t111 > x9_3
              ·rw [if_pos c22] at H
               have c22b0 : decide (x9_3 < t111) = true := decide_eq_true c22
               clear c22
               have H' := Aside0.mk H
               clear H
               have p109 : 0 ≤ (x41_3 : Int) := of_decide_eq_true tA
               have q109 : x41_3 < (l0.length : Int) := of_decide_eq_true tA
               obtain ⟨ad109, A109_0, c109_0, e109, hx109_0, hl109_0, hi109_0⟩ := at_L2 HR0.out x41_3 p109 q109
               obtain rfl : ad102 = ad109 := (by injection e109)
               replace hx109_0 := (HB.out.cell (World.block_lt_of_cell? w _ hx109_0)).trans hx109_0
               have HR109_0 := Aside0.mk hi109_0
               have HC109_0 := Aside0.mk hl109_0
               clear hi109_0 hl109_0
               replace p109 := eq_true p109
               replace q109 := eq_true q109
               go_wp2_with (first | ((with_reducible refine gate_callee (f := 101) rfl ?_); refine goesL_ (some 49) rfl rfl Tryd.func101 (by kernel_rfl) rfl #[.slice A109_0 (rd_L2 l0 x41_3).length c109_0, .slice Ao17 x7_2.length co17] rfl tL ?_; (with_reducible refine (feature_nearest.calls k3 _ _ (rd_L2 l0 x41_3) _ _ x7_2 t110 t111 _ ?side1 ?side2 ?side3 ?side4 A21.out).mono ?_); (case side1 => exact tC (Kd.C_below HR109_0.out HB.out)); (case side2 => exact HC109_0.out); (case side3 => exact tC (Kd.N_reads' HO_7.out).2.2); (case side4 => exact (Kd.N_reads' HO_7.out).2.1); rintro e w' ⟨rfl, ⟨nd, rfl⟩⟩; refine ⟨_, rfl, ?_⟩))
               go_roundg k3
               case measure => have := HJ4.out; have := HK2.out; have := HK3.out; omega
               case rel => exact ⟨(x41_3), (t111), (wrap64 (x41_3 + 1)), (by first | rfl | (simp; done) | (simp only [i64_w]; done) | (simp [*]; done)), (by first | rfl | (simp; done) | (simp only [i64_w]; done) | (simp [*]; done)), (by first | rfl | (simp; done) | (simp only [i64_w]; done) | (simp [*]; done)), H', ⟨by have := HJ4.out; have := HK2.out; have := HK3.out; omega⟩, ⟨tN HO_7.out⟩, ⟨tB⟩⟩
              ·rw [if_neg c22] at H
               have c22b0 : decide (x9_3 < t111) = false := decide_eq_false c22
               clear c22
               have H' := Aside0.mk H
               clear H
               have p109 : 0 ≤ (x41_3 : Int) := of_decide_eq_true tA
               have q109 : x41_3 < (l0.length : Int) := of_decide_eq_true tA
               obtain ⟨ad109, A109_0, c109_0, e109, hx109_0, hl109_0, hi109_0⟩ := at_L2 HR0.out x41_3 p109 q109
               obtain rfl : ad102 = ad109 := (by injection e109)
               replace hx109_0 := (HB.out.cell (World.block_lt_of_cell? w _ hx109_0)).trans hx109_0
               have HR109_0 := Aside0.mk hi109_0
               have HC109_0 := Aside0.mk hl109_0
               clear hi109_0 hl109_0
               replace p109 := eq_true p109
               replace q109 := eq_true q109
               go_wp2_with (first | ((with_reducible refine gate_callee (f := 101) rfl ?_); refine goesL_ (some 49) rfl rfl Tryd.func101 (by kernel_rfl) rfl #[.slice A109_0 (rd_L2 l0 x41_3).length c109_0, .slice Ao17 x7_2.length co17] rfl tL ?_; (with_reducible refine (feature_nearest.calls k3 _ _ (rd_L2 l0 x41_3) _ _ x7_2 t110 t111 _ ?side1 ?side2 ?side3 ?side4 A21.out).mono ?_); (case side1 => exact tC (Kd.C_below HR109_0.out HB.out)); (case side2 => exact HC109_0.out); (case side3 => exact tC (Kd.N_reads' HO_7.out).2.2); (case side4 => exact (Kd.N_reads' HO_7.out).2.1); rintro e w' ⟨rfl, ⟨nd, rfl⟩⟩; refine ⟨_, rfl, ?_⟩))
               go_roundg k3
               case measure => have := HJ4.out; have := HK2.out; have := HK3.out; omega
               case rel => exact ⟨(x8_3), (x9_3), (wrap64 (x41_3 + 1)), (by first | rfl | (simp; done) | (simp only [i64_w]; done) | (simp [*]; done)), (by first | rfl | (simp; done) | (simp only [i64_w]; done) | (simp [*]; done)), (by first | rfl | (simp; done) | (simp only [i64_w]; done) | (simp [*]; done)), H', ⟨by have := HJ4.out; have := HK2.out; have := HK3.out; omega⟩, ⟨tN HO_7.out⟩, ⟨tB⟩⟩
             ·rw [if_neg c20] at H
              exact absurd H (by simp)
            ·rw [if_neg c19] at H
             exact absurd H (by simp)
           ·rw [if_neg c18] at H
            have c18b0 := decide_eq_false c18
            clear c18
            by_cases c23 : x8_3 < 0
            ·rw [if_pos c23] at H
             have c23b0 := decide_eq_true c23
             clear c23
             simp only [Option.some.injEq, Prod.mk.injEq] at H
             obtain ⟨rfl, rfl⟩ := H
             go_wp2
             go_ret2
             exact ⟨_, by first | rfl | (simp [errW_none, errW_some] <;> rfl) | (simp [*, errW_none, errW_some] <;> rfl), tN HO_7.out, tB⟩
            ·rw [if_neg c23] at H
             have c23b0 := decide_eq_false c23
             clear c23
             by_cases c24 : 0 ≤ x8_3
             ·rw [if_pos c24] at H
              have c24b0 := decide_eq_true c24
              clear c24
              by_cases c25 : x8_3 < (l0.length : Int)
              ·rw [if_pos c25] at H
               have c25b0 := decide_eq_true c25
               clear c25
               replace H := Option.bind_eq_some_iff.mp H
               obtain ⟨t113, A260, H⟩ := H
               try dsimp only at H
               have A26 := Aside0.mk A260
               clear A260
               by_cases c27 : x7_2.length < 5864062014805
               ·rw [if_pos c27] at H
                have LMc27 := Aside0.mk c27
                clear c27
                obtain ⟨y116, hy116⟩ : ∃ y_ : List (List Int), y_ = (x7_2 ++ [t113]) := ⟨_, rfl⟩
                replace H : (feature_Seeds.l0 k3 l0 a1 y116) = some (r1, r2) := by first | (rw [hy116]; with_reducible exact H) | (have H2_ := (Option.bind_some _ _).symm.trans H; rw [hy116]; with_reducible exact H2_) | (have H2_ := (Option.bind_some _ _).symm.trans H; with_reducible exact H2_) | with_reducible exact H | (rw [hy116]; exact H) | exact H
                have Ny116 := Aside0.mk hy116
                clear hy116
                have H' := Aside0.mk H
                clear H
                have p112 : 0 ≤ (x8_3 : Int) := of_decide_eq_true tA
                have q112 : x8_3 < (l0.length : Int) := of_decide_eq_true tA
                obtain ⟨ad112, A112_0, c112_0, e112, hx112_0, hl112_0, hi112_0⟩ := at_L2 HR0.out x8_3 p112 q112
                obtain rfl : ad102 = ad112 := (by injection e112)
                replace hx112_0 := (HB.out.cell (World.block_lt_of_cell? w _ hx112_0)).trans hx112_0
                have HR112_0 := Aside0.mk hi112_0
                have HC112_0 := Aside0.mk hl112_0
                clear hi112_0 hl112_0
                replace p112 := eq_true p112
                replace q112 := eq_true q112
                go_wp2_with (first | ((with_reducible refine gate_callee (f := 99) rfl ?_); refine goesL_ (some 65) rfl rfl Tryd.func99 (by kernel_rfl) rfl #[.slice A112_0 (rd_L2 l0 x8_3).length c112_0] rfl tL ?_; (with_reducible refine (slices_Clone_int_int.calls _ _ (rd_L2 l0 x8_3) t113 _ ?side1 ?side2 A26.out).mono ?_); (case side1 => exact tC (Kd.C_below HR112_0.out HB.out)); (case side2 => exact HC112_0.out); rintro e w28 ⟨v114, rfl, ho0, hb⟩; refine ⟨_, rfl, ?_⟩; have n0_ := Aside0.mk (Kd.N_elder' (tN HO_7.out) (Kd.R_base ho0) hb); have n1_ := Aside0.mk (Kd.R_lower (Kd.R_newM (M := fun k_ => (w.heap.size ≤ k_)) ho0 (below_size tB) (fun k_ h_ => h_)) (below_size tB)); have n2_ := Aside0.mk (below_step tB hb); clear HO_7; clear HB; have HO_7 := n0_; have HO115 := n1_; have HB := n2_; clear n0_ n1_ n2_; (try clear hb); (try clear hb2); (try clear hk); (try clear hi); (try clear ho0); obtain ⟨Ao30, co30, eo30⟩ := Kd.R_slice HO115.out; subst eo30) | ((with_reducible refine gate_builtin (b := .append) (xs := #[.tmp 60, .tmp 66]) rfl ?_); at_builtin; refine Kd.N_append (Kd.slice 3 (Kd.int .i64)) (w0 := w) w.heap.size rfl (.tmp 60) (.tmp 66) 42 22 (.slice none 0 0) 24 rfl Tryd.underlying42 info22 rfl (by decide) (by omega) (.slice Ao17 x7_2.length co17) x7_2 t113 [.slice Ao30 t113.length co30] (fun k_ => (w.heap.size ≤ k_)) (fun k_ => ((fun k_ => (w.heap.size ≤ k_))) k_ ∧ some k_ ≠ (.slice Ao17 x7_2.length co17 : Value).ownBlock) rfl rfl ?aP (fun _ hk => hk) ?aF ?aO ?aB ?aS ?aL ?_; (case aP => exact (Kd.FK_slice_mk (Kd.R_reads' (Kd.R_mono (ok' := (fun k_ => ((fun k_ => (w.heap.size ≤ k_))) k_ ∧ some k_ ≠ (.slice Ao17 x7_2.length co17 : Value).ownBlock)) (Kd.R_apart' (HO115.out) (Kd.N_typed HO_7.out) (by decide)) (fun k_ hk => ⟨hk.1.1, hk.2⟩))).2.1 (Kd.R_F (Kd.R_mono (ok' := (fun k_ => ((fun k_ => (w.heap.size ≤ k_))) k_ ∧ some k_ ≠ (.slice Ao17 x7_2.length co17 : Value).ownBlock)) (Kd.R_apart' (HO115.out) (Kd.N_typed HO_7.out) (by decide)) (fun k_ hk => ⟨hk.1.1, hk.2⟩))))); (case aB => exact tB); (case aF => exact (fun k_ hk => (Nat.le_trans (below_size tB) hk))); (case aO => exact (by (with_reducible repeat (first | apply Kd.N_alloc | apply Kd.N_drewN | apply Kd.N_drew)); exact Kd.N_mono HO_7.out (fun _ hk => hk.1))); (case aS => exact (below_size tB)); (case aL => have := LMc27.out; omega); intro v117 w29 ho hb hg hat; rw [← Ny116.out] at ho; have n0_ := Aside0.mk (hb); have n1_ := Aside0.mk (ho); clear HB; clear HO_7; clear HO115; have HB := n0_; have HO118 := n1_; clear n0_ n1_; clear ho hb hg hat))
                go_roundg k3
                case measure => have := HJ4.out; have := HK2.out; have := HK3.out; omega
                case rel => exact ⟨(y116), H', ⟨by have := HJ4.out; have := HK2.out; have := HK3.out; omega⟩, ⟨tN HO118.out⟩, ⟨tB⟩⟩
               ·rw [if_neg c27] at H
                exact absurd H (by simp)
              ·rw [if_neg c25] at H
               exact absurd H (by simp)
             ·rw [if_neg c24] at H
              exact absurd H (by simp)
        ·rw [if_neg c16] at H
         have c16b0 := decide_eq_false c16
         clear c16
         simp only [Option.some.injEq, Prod.mk.injEq] at H
         obtain ⟨rfl, rfl⟩ := H
         obtain ⟨Ao31, co31, eo31⟩ := Kd.N_slice HO_7.out
         subst eo31
         go_wp2
         go_ret2
         exact ⟨_, by first | rfl | (simp [errW_none, errW_some] <;> rfl) | (simp [*, errW_none, errW_some] <;> rfl), tN HO_7.out, tB⟩
     ·rw [if_neg c10] at H
      exact absurd H (by simp)
 ·rw [if_neg c4] at H
  have c4b0 : (t101 == 0) = false := beq_eq_false_iff_ne.mpr c4
  have c4b1 : (t101 != 0) = true := bne_iff_ne.mpr c4
  simp only [Option.some.injEq, Prod.mk.injEq] at H
  obtain ⟨rfl, rfl⟩ := H
  go_enter Tryd.func73, Tryd.ntmps73
  go_wp2_with (first | ((with_reducible refine gate_callee (f := 113) rfl ?_); refine goesL_ (some 15) rfl rfl Tryd.func113 (by kernel_rfl) rfl #[.slice A0 l0.length c0] rfl tL ?_; (with_reducible refine (feature_vectors.calls k _ _ l0 t101 _ ?side1 ?side2 A3.out).mono ?_); (case side1 => exact tC HR0.out); (case side2 => exact HC0.out); rintro e w32 ⟨rfl, hb⟩; refine ⟨_, rfl, ?_⟩; have n0_ := Aside0.mk (below_step tB hb); clear HB; have HB := n0_; clear n0_; (try clear hb); (try clear hb2); (try clear hk); (try clear hi)))
  go_ret2
  exact ⟨_, by first | rfl | (simp [errW_none, errW_some] <;> rfl) | (simp [*, errW_none, errW_some] <;> rfl), by first | exact Kd.S_nil _ _ _ _ _ | exact Kd.N_nil _ _ _ _ _ | exact Kd.V_nil _ _ _ _ _ | exact Kd.Q_nil _ _ _ _ _ | exact Kd.R_nil _ _ _ _ _, tB⟩

/-! ### earshotref03_Distance: function 70 -/
def earshotref03_Distance.l0 : Nat → List Int → List Int → Int → Int → Option (Int)
 | 0, _, _, _, _ => none
 | k + 1, x0, x1, x5, x6 => if x6 < (x0.length : Int) then (if 0 ≤ x6 then (if x6 < (x1.length : Int) then (earshotref03_Distance.l0 k x0 x1 (wrap64 (x5 + (wrap64 ((wrap64 ((rd x0 x6) - (rd x1 x6))) * (wrap64 ((rd x0 x6) - (rd x1 x6))))))) (wrap64 (x6 + 1))) else (none)) else (none)) else (some x5)
def earshotref03_Distance.f (k : Nat) (l0 : List Int) (l1 : List Int) : Option (Int) := earshotref03_Distance.l0 k l0 l1 0 0
theorem earshotref03_Distance.mono_l : ∀ k, (∀ y0 y1 y2 y3, LeO (earshotref03_Distance.l0 k y0 y1 y2 y3) (earshotref03_Distance.l0 (k + 1) y0 y1 y2 y3))
 | 0 => fun _ _ _ _ r h => by simp [earshotref03_Distance.l0] at h
 | k + 1 => by
  have ih0 := earshotref03_Distance.mono_l k
  ·intro y0 y1 y2 y3
   unfold earshotref03_Distance.l0
   repeat' first
   | (with_reducible exact ih0 _ _ _ _)
   | (with_reducible exact LeO.refl _)
   | (with_reducible exact LeO.none _)
   | (with_reducible refine LeO.ite ?_ ?_)
   | (with_reducible refine LeO.bind ?_ (fun _ => ?_))
   | exact ih0 _ _ _ _
   | exact LeO.none _
   | refine LeO.ite ?_ ?_
   | refine LeO.bind ?_ (fun _ => ?_)
theorem earshotref03_Distance.mono : ∀ a0 a1 k, LeO (earshotref03_Distance.f k a0 a1) (earshotref03_Distance.f (k + 1) a0 a1) := by
 intro a0 a1 k
 have ih0 := earshotref03_Distance.mono_l k
 unfold earshotref03_Distance.f
 repeat' first
   | (with_reducible exact ih0 _ _ _ _)
   | (with_reducible exact LeO.refl _)
   | (with_reducible exact LeO.none _)
   | (with_reducible refine LeO.ite ?_ ?_)
   | (with_reducible refine LeO.bind ?_ (fun _ => ?_))
   | exact ih0 _ _ _ _
   | exact LeO.none _
   | refine LeO.ite ?_ ?_
   | refine LeO.bind ?_ (fun _ => ?_)
set_option maxHeartbeats 8000000 in
set_option maxRecDepth 100000 in
theorem earshotref03_Distance.calls (k : Nat) (A0 : Option Addr) (c0 : Nat) (l0 : List Int) (A1 : Option Addr) (c1 : Nat) (l1 : List Int) (r : Int) (w : World) (hr0 : Kd.C (Kd.int .i64) w A0 l0.length l0) (hc0 : l0.length ≤ c0) (hr1 : Kd.C (Kd.int .i64) w A1 l1.length l1) (hc1 : l1.length ≤ c1) (h : earshotref03_Distance.f k l0 l1 = some r) :
  Calls Tryd.prog 70 #[.slice A0 l0.length c0, .slice A1 l1.length c1] w fun e w' => e = .returned (.int .i64 r) ∧ Drawn0 w w' := by
 have HR0 := Aside0.mk hr0
 have HC0 := Aside0.mk hc0
 clear hr0 hc0
 have HR1 := Aside0.mk hr1
 have HC1 := Aside0.mk hc1
 clear hr1 hc1
 have H : (earshotref03_Distance.l0 k l0 l1 0 0) = some r := h
 clear h
 have H' := Aside0.mk H
 clear H
 go_enter Tryd.func70, Tryd.ntmps70
 go_wp2
 repeat (go_quiet (fail); try go_wp2)
 go_loopg [5, 6] k (fun kq v5 v6 w' => ∃ (x5_1 : Int) (x6_1 : Int), v5 = .int .i64 x5_1 ∧ v6 = .int .i64 x6_1 ∧ Aside0 (earshotref03_Distance.l0 kq l0 l1 x5_1 x6_1 = some r) ∧ Aside0 (kq ≤ k) ∧ Drawn0 w w')
 case atStart => exact ⟨(0), (0), (by first | rfl | (simp; done) | (simp only [i64_w]; done) | (simp [*]; done)), (by first | rfl | (simp; done) | (simp only [i64_w]; done) | (simp [*]; done)), H', ⟨Nat.le_refl _⟩, by repeat (first | exact Drawn0.refl _ | apply Drawn0.step)⟩
 case round =>
  clear H'
  try clear c1
  try clear p2
  obtain ⟨x5_1, x6_1, rfl, rfl, HA, HK1, ⟨m1, rfl⟩⟩ := hrel
  cases gk with
  | zero => exact absurd HA.out (by simp [earshotref03_Distance.l0])
  | succ k1 =>
   have H := HA.out
   clear HA
   simp only [earshotref03_Distance.l0] at H
   by_cases c3 : x6_1 < (l0.length : Int)
   ·rw [if_pos c3] at H
    have c3b0 := decide_eq_true c3
    clear c3
    by_cases c4 : 0 ≤ x6_1
    ·rw [if_pos c4] at H
     have c4b0 := decide_eq_true c4
     clear c4
     by_cases c5 : x6_1 < (l1.length : Int)
     ·rw [if_pos c5] at H
      have c5b0 := decide_eq_true c5
      clear c5
      have H' := Aside0.mk H
      clear H
      have p101 : 0 ≤ (x6_1 : Int) := of_decide_eq_true tA
      have q101 : x6_1 < (l0.length : Int) := of_decide_eq_true tA
      obtain ⟨ad101, e101, hx101_0⟩ := Kd.at_int HR0.out x6_1 p101 q101
      cases e101
      replace p101 := eq_true p101
      replace q101 := eq_true q101
      have p102 : 0 ≤ (x6_1 : Int) := of_decide_eq_true tA
      have q102 : x6_1 < (l1.length : Int) := of_decide_eq_true tA
      obtain ⟨ad102, e102, hx102_0⟩ := Kd.at_int HR1.out x6_1 p102 q102
      cases e102
      replace p102 := eq_true p102
      replace q102 := eq_true q102
      have p103 : 0 ≤ (x6_1 : Int) := of_decide_eq_true tA
      have q103 : x6_1 < (l0.length : Int) := of_decide_eq_true tA
      obtain ⟨ad103, e103, hx103_0⟩ := Kd.at_int HR0.out x6_1 p103 q103
      obtain rfl : ad101 = ad103 := (by injection e103)
      replace p103 := eq_true p103
      replace q103 := eq_true q103
      have p104 : 0 ≤ (x6_1 : Int) := of_decide_eq_true tA
      have q104 : x6_1 < (l1.length : Int) := of_decide_eq_true tA
      obtain ⟨ad104, e104, hx104_0⟩ := Kd.at_int HR1.out x6_1 p104 q104
      obtain rfl : ad102 = ad104 := (by injection e104)
      replace p104 := eq_true p104
      replace q104 := eq_true q104
      go_wp2
      repeat (go_quiet (fail); try go_wp2)
      go_roundg k1
      case measure => have := HK1.out; omega
      case rel => exact ⟨(wrap64 (x5_1 + (wrap64 ((wrap64 ((rd l0 x6_1) - (rd l1 x6_1))) * (wrap64 ((rd l0 x6_1) - (rd l1 x6_1))))))), (wrap64 (x6_1 + 1)), (by first | rfl | (simp; done) | (simp only [i64_w]; done) | (simp [*]; done)), (by first | rfl | (simp; done) | (simp only [i64_w]; done) | (simp [*]; done)), H', ⟨by have := HK1.out; omega⟩, by repeat (first | exact Drawn0.refl _ | apply Drawn0.step)⟩
     ·rw [if_neg c5] at H
      exact absurd H (by simp)
    ·rw [if_neg c4] at H
     exact absurd H (by simp)
   ·rw [if_neg c3] at H
    have c3b0 := decide_eq_false c3
    clear c3
    obtain rfl := Option.some.inj H
    go_wp2
    repeat (go_quiet (fail); try go_wp2)
    go_ret
    exact ⟨by first | rfl | (simp; done) | (simp [*]; done), by repeat (first | exact Drawn0.refl _ | apply Drawn0.step)⟩

/-! ### earshotref03_Nearest: function 72 -/
def earshotref03_Nearest.l0 : Nat → List Int → List (List Int) → Int → Int → Option (Int)
 | 0, _, _, _, _ => none
 | k + 1, x0, x1, x5, x6 => if x6 < (x1.length : Int) then (if 0 ≤ x6 then ((earshotref03_Distance.f k x0 (rd_L2 x1 x6)).bind fun t102 => (if 0 ≤ x5 then (if x5 < (x1.length : Int) then ((earshotref03_Distance.f k x0 (rd_L2 x1 x5)).bind fun t104 => (if t102 < t104 then (earshotref03_Nearest.l0 k x0 x1 x6 (wrap64 (x6 + 1))) else (earshotref03_Nearest.l0 k x0 x1 x5 (wrap64 (x6 + 1))))) else (none)) else (none))) else (none)) else (some x5)
def earshotref03_Nearest.f (k : Nat) (l0 : List Int) (l1 : List (List Int)) : Option (Int) := earshotref03_Nearest.l0 k l0 l1 0 1
theorem earshotref03_Nearest.mono_l : ∀ k, (∀ y0 y1 y2 y3, LeO (earshotref03_Nearest.l0 k y0 y1 y2 y3) (earshotref03_Nearest.l0 (k + 1) y0 y1 y2 y3))
 | 0 => fun _ _ _ _ r h => by simp [earshotref03_Nearest.l0] at h
 | k + 1 => by
  have ih0 := earshotref03_Nearest.mono_l k
  ·intro y0 y1 y2 y3
   unfold earshotref03_Nearest.l0
   repeat' first
   | (with_reducible exact ih0 _ _ _ _)
   | (with_reducible exact earshotref03_Distance.mono _ _ _)
   | (with_reducible exact LeO.refl _)
   | (with_reducible exact LeO.none _)
   | (with_reducible refine LeO.ite ?_ ?_)
   | (with_reducible refine LeO.bind ?_ (fun _ => ?_))
   | exact ih0 _ _ _ _
   | exact earshotref03_Distance.mono _ _ _
   | exact LeO.none _
   | refine LeO.ite ?_ ?_
   | refine LeO.bind ?_ (fun _ => ?_)
theorem earshotref03_Nearest.mono : ∀ a0 a1 k, LeO (earshotref03_Nearest.f k a0 a1) (earshotref03_Nearest.f (k + 1) a0 a1) := by
 intro a0 a1 k
 have ih0 := earshotref03_Nearest.mono_l k
 unfold earshotref03_Nearest.f
 repeat' first
   | (with_reducible exact ih0 _ _ _ _)
   | (with_reducible exact earshotref03_Distance.mono _ _ _)
   | (with_reducible exact LeO.refl _)
   | (with_reducible exact LeO.none _)
   | (with_reducible refine LeO.ite ?_ ?_)
   | (with_reducible refine LeO.bind ?_ (fun _ => ?_))
   | exact ih0 _ _ _ _
   | exact earshotref03_Distance.mono _ _ _
   | exact LeO.none _
   | refine LeO.ite ?_ ?_
   | refine LeO.bind ?_ (fun _ => ?_)
set_option maxHeartbeats 8000000 in
set_option maxRecDepth 100000 in
theorem earshotref03_Nearest.calls (k : Nat) (A0 : Option Addr) (c0 : Nat) (l0 : List Int) (A1 : Option Addr) (c1 : Nat) (l1 : List (List Int)) (r : Int) (w : World) (hr0 : Kd.C (Kd.int .i64) w A0 l0.length l0) (hc0 : l0.length ≤ c0) (hr1 : Kd.C (Kd.slice 3 (Kd.int .i64)) w A1 l1.length l1) (hc1 : l1.length ≤ c1) (h : earshotref03_Nearest.f k l0 l1 = some r) :
  Calls Tryd.prog 72 #[.slice A0 l0.length c0, .slice A1 l1.length c1] w fun e w' => e = .returned (.int .i64 r) ∧ Drawn0 w w' := by
 have HR0 := Aside0.mk hr0
 have HC0 := Aside0.mk hc0
 clear hr0 hc0
 have HR1 := Aside0.mk hr1
 have HC1 := Aside0.mk hc1
 clear hr1 hc1
 have H : (earshotref03_Nearest.l0 k l0 l1 0 1) = some r := h
 clear h
 have H' := Aside0.mk H
 clear H
 go_enter Tryd.func72, Tryd.ntmps72
 go_wp2
 repeat (go_quiet (fail); try go_wp2)
 go_loopg [5, 6] k (fun kq v5 v6 w' => ∃ (x5_1 : Int) (x6_1 : Int), v5 = .int .i64 x5_1 ∧ v6 = .int .i64 x6_1 ∧ Aside0 (earshotref03_Nearest.l0 kq l0 l1 x5_1 x6_1 = some r) ∧ Aside0 (kq ≤ k) ∧ Drawn0 w w')
 case atStart => exact ⟨(0), (1), (by first | rfl | (simp; done) | (simp only [i64_w]; done) | (simp [*]; done)), (by first | rfl | (simp; done) | (simp only [i64_w]; done) | (simp [*]; done)), H', ⟨Nat.le_refl _⟩, by repeat (first | exact Drawn0.refl _ | apply Drawn0.step)⟩
 case round =>
  clear H'
  try clear c1
  try clear p2
  obtain ⟨x5_1, x6_1, rfl, rfl, HA, HK1, ⟨m1, rfl⟩⟩ := hrel
  cases gk with
  | zero => exact absurd HA.out (by simp [earshotref03_Nearest.l0])
  | succ k1 =>
   have H := HA.out
   clear HA
   simp only [earshotref03_Nearest.l0] at H
   by_cases c3 : x6_1 < (l1.length : Int)
   ·rw [if_pos c3] at H
    have c3b0 := decide_eq_true c3
    clear c3
    by_cases c4 : 0 ≤ x6_1
    ·rw [if_pos c4] at H
     have c4b0 := decide_eq_true c4
     clear c4
     replace H := Option.bind_eq_some_iff.mp H
     obtain ⟨t102, A50, H⟩ := H
     try dsimp only at H
     have A5 := Aside0.mk A50
     clear A50
     by_cases c6 : 0 ≤ x5_1
     ·rw [if_pos c6] at H
      have c6b0 := decide_eq_true c6
      clear c6
      by_cases c7 : x5_1 < (l1.length : Int)
      ·rw [if_pos c7] at H
       have c7b0 := decide_eq_true c7
       clear c7
       replace H := Option.bind_eq_some_iff.mp H
       obtain ⟨t104, A80, H⟩ := H
       try dsimp only at H
       have A8 := Aside0.mk A80
       clear A80
       by_cases c9 : t102 < t104
       ·rw [if_pos c9] at H
        have c9b0 := decide_eq_true c9
        clear c9
        have H' := Aside0.mk H
        clear H
        have p101 : 0 ≤ (x6_1 : Int) := of_decide_eq_true tA
        have q101 : x6_1 < (l1.length : Int) := of_decide_eq_true tA
        obtain ⟨ad101, A101_0, c101_0, e101, hx101_0, hl101_0, hi101_0⟩ := at_L2 HR1.out x6_1 p101 q101
        cases e101
        have HR101_0 := Aside0.mk hi101_0
        have HC101_0 := Aside0.mk hl101_0
        clear hi101_0 hl101_0
        replace p101 := eq_true p101
        replace q101 := eq_true q101
        go_wp2_with (first | (go_at_call 70; (with_reducible refine (earshotref03_Distance.calls k1 _ _ l0 _ _ (rd_L2 l1 x6_1) t102 _ ?side1 ?side2 ?side3 ?side4 A5.out).mono ?_); (case side1 => exact tC HR0.out); (case side2 => exact HC0.out); (case side3 => exact tC HR101_0.out); (case side4 => exact HC101_0.out); rintro e w' ⟨rfl, ⟨nd, rfl⟩⟩; (try first | exact ⟨rfl, _, World.drewN_drewN _ _ _⟩ | exact ⟨rfl, _, Eq.trans (World.drewN_drewN _ _ _) (congrArg (World.drewN _) (Nat.add_assoc _ _ _))⟩); have p103 : 0 ≤ (x5_1 : Int) := of_decide_eq_true tA; have q103 : x5_1 < (l1.length : Int) := of_decide_eq_true tA; obtain ⟨ad103, A103_0, c103_0, e103, hx103_0, hl103_0, hi103_0⟩ := at_L2 HR1.out x5_1 p103 q103; obtain rfl : ad101 = ad103 := (by injection e103); have HR103_0 := Aside0.mk hi103_0; have HC103_0 := Aside0.mk hl103_0; clear hi103_0 hl103_0; replace p103 := eq_true p103; replace q103 := eq_true q103) | (go_at_call 70; (with_reducible refine (earshotref03_Distance.calls k1 _ _ l0 _ _ (rd_L2 l1 x5_1) t104 _ ?side1 ?side2 ?side3 ?side4 A8.out).mono ?_); (case side1 => exact tC HR0.out); (case side2 => exact HC0.out); (case side3 => exact tC HR103_0.out); (case side4 => exact HC103_0.out); rintro e w' ⟨rfl, ⟨nd, rfl⟩⟩; (try first | exact ⟨rfl, _, World.drewN_drewN _ _ _⟩ | exact ⟨rfl, _, Eq.trans (World.drewN_drewN _ _ _) (congrArg (World.drewN _) (Nat.add_assoc _ _ _))⟩)))
        repeat (go_quiet (first | (go_at_call 70; (with_reducible refine (earshotref03_Distance.calls k1 _ _ l0 _ _ (rd_L2 l1 x6_1) t102 _ ?side1 ?side2 ?side3 ?side4 A5.out).mono ?_); (case side1 => exact tC HR0.out); (case side2 => exact HC0.out); (case side3 => exact tC HR101_0.out); (case side4 => exact HC101_0.out); rintro e w' ⟨rfl, ⟨nd, rfl⟩⟩; (try first | exact ⟨rfl, _, World.drewN_drewN _ _ _⟩ | exact ⟨rfl, _, Eq.trans (World.drewN_drewN _ _ _) (congrArg (World.drewN _) (Nat.add_assoc _ _ _))⟩); have p103 : 0 ≤ (x5_1 : Int) := of_decide_eq_true tA; have q103 : x5_1 < (l1.length : Int) := of_decide_eq_true tA; obtain ⟨ad103, A103_0, c103_0, e103, hx103_0, hl103_0, hi103_0⟩ := at_L2 HR1.out x5_1 p103 q103; obtain rfl : ad101 = ad103 := (by injection e103); have HR103_0 := Aside0.mk hi103_0; have HC103_0 := Aside0.mk hl103_0; clear hi103_0 hl103_0; replace p103 := eq_true p103; replace q103 := eq_true q103) | (go_at_call 70; (with_reducible refine (earshotref03_Distance.calls k1 _ _ l0 _ _ (rd_L2 l1 x5_1) t104 _ ?side1 ?side2 ?side3 ?side4 A8.out).mono ?_); (case side1 => exact tC HR0.out); (case side2 => exact HC0.out); (case side3 => exact tC HR103_0.out); (case side4 => exact HC103_0.out); rintro e w' ⟨rfl, ⟨nd, rfl⟩⟩; (try first | exact ⟨rfl, _, World.drewN_drewN _ _ _⟩ | exact ⟨rfl, _, Eq.trans (World.drewN_drewN _ _ _) (congrArg (World.drewN _) (Nat.add_assoc _ _ _))⟩))); try go_wp2_with (first | (go_at_call 70; (with_reducible refine (earshotref03_Distance.calls k1 _ _ l0 _ _ (rd_L2 l1 x6_1) t102 _ ?side1 ?side2 ?side3 ?side4 A5.out).mono ?_); (case side1 => exact tC HR0.out); (case side2 => exact HC0.out); (case side3 => exact tC HR101_0.out); (case side4 => exact HC101_0.out); rintro e w' ⟨rfl, ⟨nd, rfl⟩⟩; (try first | exact ⟨rfl, _, World.drewN_drewN _ _ _⟩ | exact ⟨rfl, _, Eq.trans (World.drewN_drewN _ _ _) (congrArg (World.drewN _) (Nat.add_assoc _ _ _))⟩); have p103 : 0 ≤ (x5_1 : Int) := of_decide_eq_true tA; have q103 : x5_1 < (l1.length : Int) := of_decide_eq_true tA; obtain ⟨ad103, A103_0, c103_0, e103, hx103_0, hl103_0, hi103_0⟩ := at_L2 HR1.out x5_1 p103 q103; obtain rfl : ad101 = ad103 := (by injection e103); have HR103_0 := Aside0.mk hi103_0; have HC103_0 := Aside0.mk hl103_0; clear hi103_0 hl103_0; replace p103 := eq_true p103; replace q103 := eq_true q103) | (go_at_call 70; (with_reducible refine (earshotref03_Distance.calls k1 _ _ l0 _ _ (rd_L2 l1 x5_1) t104 _ ?side1 ?side2 ?side3 ?side4 A8.out).mono ?_); (case side1 => exact tC HR0.out); (case side2 => exact HC0.out); (case side3 => exact tC HR103_0.out); (case side4 => exact HC103_0.out); rintro e w' ⟨rfl, ⟨nd, rfl⟩⟩; (try first | exact ⟨rfl, _, World.drewN_drewN _ _ _⟩ | exact ⟨rfl, _, Eq.trans (World.drewN_drewN _ _ _) (congrArg (World.drewN _) (Nat.add_assoc _ _ _))⟩))))
        go_roundg k1
        case measure => have := HK1.out; omega
        case rel => exact ⟨(x6_1), (wrap64 (x6_1 + 1)), (by first | rfl | (simp; done) | (simp only [i64_w]; done) | (simp [*]; done)), (by first | rfl | (simp; done) | (simp only [i64_w]; done) | (simp [*]; done)), H', ⟨by have := HK1.out; omega⟩, by repeat (first | exact Drawn0.refl _ | apply Drawn0.step)⟩
       ·rw [if_neg c9] at H
        have c9b0 := decide_eq_false c9
        clear c9
        have H' := Aside0.mk H
        clear H
        have p101 : 0 ≤ (x6_1 : Int) := of_decide_eq_true tA
        have q101 : x6_1 < (l1.length : Int) := of_decide_eq_true tA
        obtain ⟨ad101, A101_0, c101_0, e101, hx101_0, hl101_0, hi101_0⟩ := at_L2 HR1.out x6_1 p101 q101
        cases e101
        have HR101_0 := Aside0.mk hi101_0
        have HC101_0 := Aside0.mk hl101_0
        clear hi101_0 hl101_0
        replace p101 := eq_true p101
        replace q101 := eq_true q101
        go_wp2_with (first | (go_at_call 70; (with_reducible refine (earshotref03_Distance.calls k1 _ _ l0 _ _ (rd_L2 l1 x6_1) t102 _ ?side1 ?side2 ?side3 ?side4 A5.out).mono ?_); (case side1 => exact tC HR0.out); (case side2 => exact HC0.out); (case side3 => exact tC HR101_0.out); (case side4 => exact HC101_0.out); rintro e w' ⟨rfl, ⟨nd, rfl⟩⟩; (try first | exact ⟨rfl, _, World.drewN_drewN _ _ _⟩ | exact ⟨rfl, _, Eq.trans (World.drewN_drewN _ _ _) (congrArg (World.drewN _) (Nat.add_assoc _ _ _))⟩); have p103 : 0 ≤ (x5_1 : Int) := of_decide_eq_true tA; have q103 : x5_1 < (l1.length : Int) := of_decide_eq_true tA; obtain ⟨ad103, A103_0, c103_0, e103, hx103_0, hl103_0, hi103_0⟩ := at_L2 HR1.out x5_1 p103 q103; obtain rfl : ad101 = ad103 := (by injection e103); have HR103_0 := Aside0.mk hi103_0; have HC103_0 := Aside0.mk hl103_0; clear hi103_0 hl103_0; replace p103 := eq_true p103; replace q103 := eq_true q103) | (go_at_call 70; (with_reducible refine (earshotref03_Distance.calls k1 _ _ l0 _ _ (rd_L2 l1 x5_1) t104 _ ?side1 ?side2 ?side3 ?side4 A8.out).mono ?_); (case side1 => exact tC HR0.out); (case side2 => exact HC0.out); (case side3 => exact tC HR103_0.out); (case side4 => exact HC103_0.out); rintro e w' ⟨rfl, ⟨nd, rfl⟩⟩; (try first | exact ⟨rfl, _, World.drewN_drewN _ _ _⟩ | exact ⟨rfl, _, Eq.trans (World.drewN_drewN _ _ _) (congrArg (World.drewN _) (Nat.add_assoc _ _ _))⟩)))
        repeat (go_quiet (first | (go_at_call 70; (with_reducible refine (earshotref03_Distance.calls k1 _ _ l0 _ _ (rd_L2 l1 x6_1) t102 _ ?side1 ?side2 ?side3 ?side4 A5.out).mono ?_); (case side1 => exact tC HR0.out); (case side2 => exact HC0.out); (case side3 => exact tC HR101_0.out); (case side4 => exact HC101_0.out); rintro e w' ⟨rfl, ⟨nd, rfl⟩⟩; (try first | exact ⟨rfl, _, World.drewN_drewN _ _ _⟩ | exact ⟨rfl, _, Eq.trans (World.drewN_drewN _ _ _) (congrArg (World.drewN _) (Nat.add_assoc _ _ _))⟩); have p103 : 0 ≤ (x5_1 : Int) := of_decide_eq_true tA; have q103 : x5_1 < (l1.length : Int) := of_decide_eq_true tA; obtain ⟨ad103, A103_0, c103_0, e103, hx103_0, hl103_0, hi103_0⟩ := at_L2 HR1.out x5_1 p103 q103; obtain rfl : ad101 = ad103 := (by injection e103); have HR103_0 := Aside0.mk hi103_0; have HC103_0 := Aside0.mk hl103_0; clear hi103_0 hl103_0; replace p103 := eq_true p103; replace q103 := eq_true q103) | (go_at_call 70; (with_reducible refine (earshotref03_Distance.calls k1 _ _ l0 _ _ (rd_L2 l1 x5_1) t104 _ ?side1 ?side2 ?side3 ?side4 A8.out).mono ?_); (case side1 => exact tC HR0.out); (case side2 => exact HC0.out); (case side3 => exact tC HR103_0.out); (case side4 => exact HC103_0.out); rintro e w' ⟨rfl, ⟨nd, rfl⟩⟩; (try first | exact ⟨rfl, _, World.drewN_drewN _ _ _⟩ | exact ⟨rfl, _, Eq.trans (World.drewN_drewN _ _ _) (congrArg (World.drewN _) (Nat.add_assoc _ _ _))⟩))); try go_wp2_with (first | (go_at_call 70; (with_reducible refine (earshotref03_Distance.calls k1 _ _ l0 _ _ (rd_L2 l1 x6_1) t102 _ ?side1 ?side2 ?side3 ?side4 A5.out).mono ?_); (case side1 => exact tC HR0.out); (case side2 => exact HC0.out); (case side3 => exact tC HR101_0.out); (case side4 => exact HC101_0.out); rintro e w' ⟨rfl, ⟨nd, rfl⟩⟩; (try first | exact ⟨rfl, _, World.drewN_drewN _ _ _⟩ | exact ⟨rfl, _, Eq.trans (World.drewN_drewN _ _ _) (congrArg (World.drewN _) (Nat.add_assoc _ _ _))⟩); have p103 : 0 ≤ (x5_1 : Int) := of_decide_eq_true tA; have q103 : x5_1 < (l1.length : Int) := of_decide_eq_true tA; obtain ⟨ad103, A103_0, c103_0, e103, hx103_0, hl103_0, hi103_0⟩ := at_L2 HR1.out x5_1 p103 q103; obtain rfl : ad101 = ad103 := (by injection e103); have HR103_0 := Aside0.mk hi103_0; have HC103_0 := Aside0.mk hl103_0; clear hi103_0 hl103_0; replace p103 := eq_true p103; replace q103 := eq_true q103) | (go_at_call 70; (with_reducible refine (earshotref03_Distance.calls k1 _ _ l0 _ _ (rd_L2 l1 x5_1) t104 _ ?side1 ?side2 ?side3 ?side4 A8.out).mono ?_); (case side1 => exact tC HR0.out); (case side2 => exact HC0.out); (case side3 => exact tC HR103_0.out); (case side4 => exact HC103_0.out); rintro e w' ⟨rfl, ⟨nd, rfl⟩⟩; (try first | exact ⟨rfl, _, World.drewN_drewN _ _ _⟩ | exact ⟨rfl, _, Eq.trans (World.drewN_drewN _ _ _) (congrArg (World.drewN _) (Nat.add_assoc _ _ _))⟩))))
        go_roundg k1
        case measure => have := HK1.out; omega
        case rel => exact ⟨(x5_1), (wrap64 (x6_1 + 1)), (by first | rfl | (simp; done) | (simp only [i64_w]; done) | (simp [*]; done)), (by first | rfl | (simp; done) | (simp only [i64_w]; done) | (simp [*]; done)), H', ⟨by have := HK1.out; omega⟩, by repeat (first | exact Drawn0.refl _ | apply Drawn0.step)⟩
      ·rw [if_neg c7] at H
       exact absurd H (by simp)
     ·rw [if_neg c6] at H
      exact absurd H (by simp)
    ·rw [if_neg c4] at H
     exact absurd H (by simp)
   ·rw [if_neg c3] at H
    have c3b0 := decide_eq_false c3
    clear c3
    obtain rfl := Option.some.inj H
    go_wp2
    repeat (go_quiet (fail); try go_wp2)
    go_ret
    exact ⟨by first | rfl | (simp; done) | (simp [*]; done), by repeat (first | exact Drawn0.refl _ | apply Drawn0.step)⟩

/-! ### earshotref03_Seeds: function 74 -/
mutual
def earshotref03_Seeds.l0 : Nat → List (List Int) → Int → List (List Int) → Option ((List (List Int)))
 | 0, _, _, _ => none
 | k + 1, x0, x1, x5 => if (x5.length : Int) < x1 then (earshotref03_Seeds.l1 k x0 x1 x5 0 0 0) else (some x5)
def earshotref03_Seeds.l1 : Nat → List (List Int) → Int → List (List Int) → Int → Int → Int → Option ((List (List Int)))
 | 0, _, _, _, _, _, _ => none
 | k + 1, x0, x1, x5, x6, x7, x8 => if x8 < (x0.length : Int) then (if 0 ≤ x8 then ((earshotref03_Nearest.f k (rd_L2 x0 x8) x5).bind fun t117 => (if 0 ≤ t117 then (if t117 < (x5.length : Int) then ((earshotref03_Distance.f k (rd_L2 x0 x8) (rd_L2 x5 t117)).bind fun t119 => (if t119 > x7 then (earshotref03_Seeds.l1 k x0 x1 x5 x8 t119 (wrap64 (x8 + 1))) else (earshotref03_Seeds.l1 k x0 x1 x5 x6 x7 (wrap64 (x8 + 1))))) else (none)) else (none))) else (none)) else (if x7 = 0 then (some x5) else (if 0 ≤ x6 then (if x6 < (x0.length : Int) then (if ([] : List Int).length + (rd_L2 x0 x6).length < 17592186044416 then (if x5.length < 5864062014805 then (earshotref03_Seeds.l0 k x0 x1 (x5 ++ [(([] : List Int) ++ (rd_L2 x0 x6))])) else (none)) else (none)) else (none)) else (none)))
end
def earshotref03_Seeds.f (k : Nat) (l0 : List (List Int)) (a1 : Int) : Option ((List (List Int))) := if 0 < (l0.length : Int) then (if ([] : List Int).length + (rd_L2 l0 0).length < 17592186044416 then (earshotref03_Seeds.l0 k l0 a1 (([(([] : List Int) ++ (rd_L2 l0 0))] : List (List Int)))) else (none)) else (none)
theorem earshotref03_Seeds.mono_l : ∀ k, (∀ y0 y1 y2, LeO (earshotref03_Seeds.l0 k y0 y1 y2) (earshotref03_Seeds.l0 (k + 1) y0 y1 y2)) ∧ (∀ y0 y1 y2 y3 y4 y5, LeO (earshotref03_Seeds.l1 k y0 y1 y2 y3 y4 y5) (earshotref03_Seeds.l1 (k + 1) y0 y1 y2 y3 y4 y5))
 | 0 => ⟨fun _ _ _ r h => by simp [earshotref03_Seeds.l0] at h, fun _ _ _ _ _ _ r h => by simp [earshotref03_Seeds.l1] at h⟩
 | k + 1 => by
  obtain ⟨ih0, ih1⟩ := earshotref03_Seeds.mono_l k
  refine ⟨?_, ?_⟩
  ·intro y0 y1 y2
   unfold earshotref03_Seeds.l0
   repeat' first
   | (with_reducible exact ih0 _ _ _)
   | (with_reducible exact ih1 _ _ _ _ _ _)
   | (with_reducible exact earshotref03_Distance.mono _ _ _)
   | (with_reducible exact earshotref03_Nearest.mono _ _ _)
   | (with_reducible exact LeO.refl _)
   | (with_reducible exact LeO.none _)
   | (with_reducible refine LeO.ite ?_ ?_)
   | (with_reducible refine LeO.bind ?_ (fun _ => ?_))
   | exact ih0 _ _ _
   | exact ih1 _ _ _ _ _ _
   | exact earshotref03_Distance.mono _ _ _
   | exact earshotref03_Nearest.mono _ _ _
   | exact LeO.none _
   | refine LeO.ite ?_ ?_
   | refine LeO.bind ?_ (fun _ => ?_)
  ·intro y0 y1 y2 y3 y4 y5
   unfold earshotref03_Seeds.l1
   repeat' first
   | (with_reducible exact ih0 _ _ _)
   | (with_reducible exact ih1 _ _ _ _ _ _)
   | (with_reducible exact earshotref03_Distance.mono _ _ _)
   | (with_reducible exact earshotref03_Nearest.mono _ _ _)
   | (with_reducible exact LeO.refl _)
   | (with_reducible exact LeO.none _)
   | (with_reducible refine LeO.ite ?_ ?_)
   | (with_reducible refine LeO.bind ?_ (fun _ => ?_))
   | exact ih0 _ _ _
   | exact ih1 _ _ _ _ _ _
   | exact earshotref03_Distance.mono _ _ _
   | exact earshotref03_Nearest.mono _ _ _
   | exact LeO.none _
   | refine LeO.ite ?_ ?_
   | refine LeO.bind ?_ (fun _ => ?_)
theorem earshotref03_Seeds.mono : ∀ a0 a1 k, LeO (earshotref03_Seeds.f k a0 a1) (earshotref03_Seeds.f (k + 1) a0 a1) := by
 intro a0 a1 k
 obtain ⟨ih0, ih1⟩ := earshotref03_Seeds.mono_l k
 unfold earshotref03_Seeds.f
 repeat' first
   | (with_reducible exact ih0 _ _ _)
   | (with_reducible exact ih1 _ _ _ _ _ _)
   | (with_reducible exact earshotref03_Distance.mono _ _ _)
   | (with_reducible exact earshotref03_Nearest.mono _ _ _)
   | (with_reducible exact LeO.refl _)
   | (with_reducible exact LeO.none _)
   | (with_reducible refine LeO.ite ?_ ?_)
   | (with_reducible refine LeO.bind ?_ (fun _ => ?_))
   | exact ih0 _ _ _
   | exact ih1 _ _ _ _ _ _
   | exact earshotref03_Distance.mono _ _ _
   | exact earshotref03_Nearest.mono _ _ _
   | exact LeO.none _
   | refine LeO.ite ?_ ?_
   | refine LeO.bind ?_ (fun _ => ?_)
set_option maxHeartbeats 8000000 in
set_option maxRecDepth 100000 in
theorem earshotref03_Seeds.calls (k : Nat) (A0 : Option Addr) (c0 : Nat) (l0 : List (List Int)) (a1 : Int) (r : List (List Int)) (w : World) (hr0 : Kd.C (Kd.slice 3 (Kd.int .i64)) w A0 l0.length l0) (hc0 : l0.length ≤ c0) (h : earshotref03_Seeds.f k l0 a1 = some r) :
  Calls Tryd.prog 74 #[.slice A0 l0.length c0, .int .i64 a1] w fun e w' => ∃ v0_ : Value, e = .returned (v0_) ∧ Kd.N (Kd.slice 3 (Kd.int .i64)) 22 w' w.heap.size (fun k_ => (w.heap.size ≤ k_)) v0_ r ∧ Below w.heap.size w w' := by
 have HR0 := Aside0.mk hr0
 have HC0 := Aside0.mk hc0
 clear hr0 hc0
 have HB := Aside0.mk (Below.refl w.heap.size w)
 have H : (if 0 < (l0.length : Int) then (if ([] : List Int).length + (rd_L2 l0 0).length < 17592186044416 then (earshotref03_Seeds.l0 k l0 a1 (([(([] : List Int) ++ (rd_L2 l0 0))] : List (List Int)))) else (none)) else (none)) = some r := h
 clear h
 by_cases c3 : 0 < (l0.length : Int)
 ·rw [if_pos c3] at H
  have c3b0 := decide_eq_true c3
  have c3b1 : decide (0 < l0.length) = true := decide_eq_true (by omega)
  clear c3
  by_cases c4 : ([] : List Int).length + (rd_L2 l0 0).length < 17592186044416
  ·rw [if_pos c4] at H
   have LMc4 := Aside0.mk c4
   clear c4
   obtain ⟨y102, hy102⟩ : ∃ y_ : List Int, y_ = (([] : List Int) ++ (rd_L2 l0 0)) := ⟨_, rfl⟩
   replace H : (earshotref03_Seeds.l0 k l0 a1 (([y102] : List (List Int)))) = some r := by first | (rw [hy102]; with_reducible exact H) | (have H2_ := (Option.bind_some _ _).symm.trans H; rw [hy102]; with_reducible exact H2_) | (have H2_ := (Option.bind_some _ _).symm.trans H; with_reducible exact H2_) | with_reducible exact H | (rw [hy102]; exact H) | exact H
   have Ny102 := Aside0.mk hy102
   clear hy102
   obtain ⟨y105, hy105⟩ : ∃ y_ : List (List Int), y_ = (([y102] : List (List Int))) := ⟨_, rfl⟩
   replace H : (earshotref03_Seeds.l0 k l0 a1 y105) = some r := by first | (rw [hy105]; with_reducible exact H) | (have H2_ := (Option.bind_some _ _).symm.trans H; rw [hy105]; with_reducible exact H2_) | (have H2_ := (Option.bind_some _ _).symm.trans H; with_reducible exact H2_) | with_reducible exact H | (rw [hy105]; exact H) | exact H
   have Ny105 := Aside0.mk hy105
   clear hy105
   have H' := Aside0.mk H
   clear H
   have p101 : 0 ≤ (0 : Int) := (by omega)
   have q101 : 0 < (l0.length : Int) := of_decide_eq_true tA
   obtain ⟨ad101, A101_0, c101_0, e101, hx101_0, hl101_0, hi101_0⟩ := at_L2 HR0.out 0 p101 q101
   cases e101
   have qi101 : (0 < l0.length) = True := eq_true (by omega)
   (try rw [show ((0 : Int)).toNat = 0 from rfl] at hx101_0)
   (try rw [Addr.add_zero'] at hx101_0)
   have HR101_0 := Aside0.mk hi101_0
   have HC101_0 := Aside0.mk hl101_0
   clear hi101_0 hl101_0
   replace p101 := eq_true p101
   replace q101 := eq_true q101
   go_enter Tryd.func74, Tryd.ntmps74
   go_wp2_with (first | ((with_reducible refine gate_builtin (b := .append) (xs := #[.const (.slice none 0 0), .tmp 12]) rfl ?_); at_builtin; refine Kd.R_append_rows (Kd.int .i64) (w0 := w) w.heap.size rfl (.const (.slice none 0 0)) (.tmp 12) 22 3 (.int .i64 0) 8 rfl Tryd.underlying22 info3 rfl (by decide) (by omega) (.slice none 0 0) ([] : List Int) (rd_L2 l0 0) _ _ _ (fun k_ => (w.heap.size ≤ k_)) (fun _ => False) rfl rfl ?aO ?aR (fun _ _ h => h) (fun _ h => h.elim) ?aF ?aB ?aS ?aL ?_; (case aR => repeat (first | exact HR101_0.out | (with_reducible refine Kd.C_alloc ?_ _) | (with_reducible refine Kd.C_drewN ?_ _) | (with_reducible refine Kd.C_drew ?_))); (case aB => exact tB); (case aF => exact (fun k_ hk => (Nat.le_trans (below_size tB) hk))); (case aO => exact ((Kd.R_nil _ _ _ _ (fun k_ => (w.heap.size ≤ k_))))); (case aS => exact (below_size tB)); (case aL => have := LMc4.out; omega); intro v103 w5 ho hb hg hat; rw [← Ny102.out] at ho; have n0_ := Aside0.mk (hb); have n1_ := Aside0.mk (ho); clear HB; have HB := n0_; have HO104 := n1_; clear n0_ n1_; clear ho hb hg hat; obtain ⟨Ao6, co6, eo6⟩ := Kd.R_slice HO104.out; subst eo6) | ((with_reducible refine gate_dst (N := 14) rfl ?_); refine Kd.N_lit (Kd.slice 3 (Kd.int .i64)) _ 22 ?hg (N' := 14) ?hd (xs := ([y102] : List (List Int))) (inner := [.slice Ao6 y102.length co6]) (ok := (fun k_ => (w.heap.size ≤ k_))) (okp := (fun k_ => (w.heap.size ≤ k_))) ?hr ?hp (fun _ hk => hk) ((show ∀ k_, w5.heap.size ≤ k_ → (fun k_ => (w.heap.size ≤ k_)) k_ from fun k_ hk => (Nat.le_trans (below_size tB) hk)) _ (Nat.le_refl _)) (Below.refl _ _) (Nat.le_refl _) (by simp) ?_; (case hd => rfl); (case hg => rfl); (case hr => first | (go_simp; done) | (go_simp; rfl)); (case hp => exact (Reps.one (show Kd.FK (Kd.slice 3 (Kd.int .i64)) _ _ y102 [.slice Ao6 y102.length co6] from (Kd.FK_slice_mk (Kd.R_reads' (Kd.R_mono (ok' := (fun k_ => (w.heap.size ≤ k_))) (HO104.out) (fun k_ hk => hk))).2.1 (Kd.R_F (Kd.R_mono (ok' := (fun k_ => (w.heap.size ≤ k_))) (HO104.out) (fun k_ hk => hk))))) (Reps.none _ _))); intro v106 w7 ho8 hb hg_ hnew_; clear hg_ hnew_; (first | rw [← Ny105.out] at ho8 | (simp only [Int.reduceToNat] at ho8; rw [← Ny105.out] at ho8)); have n0_ := Aside0.mk (Kd.N_lower ho8 (below_size tB)); have n1_ := Aside0.mk (below_step tB hb); clear HB; clear HO104; have HO107 := n0_; have HB := n1_; clear n0_ n1_; clear hb ho8))
   repeat (go_quiet (first | ((with_reducible refine gate_builtin (b := .append) (xs := #[.const (.slice none 0 0), .tmp 12]) rfl ?_); at_builtin; refine Kd.R_append_rows (Kd.int .i64) (w0 := w) w.heap.size rfl (.const (.slice none 0 0)) (.tmp 12) 22 3 (.int .i64 0) 8 rfl Tryd.underlying22 info3 rfl (by decide) (by omega) (.slice none 0 0) ([] : List Int) (rd_L2 l0 0) _ _ _ (fun k_ => (w.heap.size ≤ k_)) (fun _ => False) rfl rfl ?aO ?aR (fun _ _ h => h) (fun _ h => h.elim) ?aF ?aB ?aS ?aL ?_; (case aR => repeat (first | exact HR101_0.out | (with_reducible refine Kd.C_alloc ?_ _) | (with_reducible refine Kd.C_drewN ?_ _) | (with_reducible refine Kd.C_drew ?_))); (case aB => exact tB); (case aF => exact (fun k_ hk => (Nat.le_trans (below_size tB) hk))); (case aO => exact ((Kd.R_nil _ _ _ _ (fun k_ => (w.heap.size ≤ k_))))); (case aS => exact (below_size tB)); (case aL => have := LMc4.out; omega); intro v103 w5 ho hb hg hat; rw [← Ny102.out] at ho; have n0_ := Aside0.mk (hb); have n1_ := Aside0.mk (ho); clear HB; have HB := n0_; have HO104 := n1_; clear n0_ n1_; clear ho hb hg hat; obtain ⟨Ao6, co6, eo6⟩ := Kd.R_slice HO104.out; subst eo6) | ((with_reducible refine gate_dst (N := 14) rfl ?_); refine Kd.N_lit (Kd.slice 3 (Kd.int .i64)) _ 22 ?hg (N' := 14) ?hd (xs := ([y102] : List (List Int))) (inner := [.slice Ao6 y102.length co6]) (ok := (fun k_ => (w.heap.size ≤ k_))) (okp := (fun k_ => (w.heap.size ≤ k_))) ?hr ?hp (fun _ hk => hk) ((show ∀ k_, w5.heap.size ≤ k_ → (fun k_ => (w.heap.size ≤ k_)) k_ from fun k_ hk => (Nat.le_trans (below_size tB) hk)) _ (Nat.le_refl _)) (Below.refl _ _) (Nat.le_refl _) (by simp) ?_; (case hd => rfl); (case hg => rfl); (case hr => first | (go_simp; done) | (go_simp; rfl)); (case hp => exact (Reps.one (show Kd.FK (Kd.slice 3 (Kd.int .i64)) _ _ y102 [.slice Ao6 y102.length co6] from (Kd.FK_slice_mk (Kd.R_reads' (Kd.R_mono (ok' := (fun k_ => (w.heap.size ≤ k_))) (HO104.out) (fun k_ hk => hk))).2.1 (Kd.R_F (Kd.R_mono (ok' := (fun k_ => (w.heap.size ≤ k_))) (HO104.out) (fun k_ hk => hk))))) (Reps.none _ _))); intro v106 w7 ho8 hb hg_ hnew_; clear hg_ hnew_; (first | rw [← Ny105.out] at ho8 | (simp only [Int.reduceToNat] at ho8; rw [← Ny105.out] at ho8)); have n0_ := Aside0.mk (Kd.N_lower ho8 (below_size tB)); have n1_ := Aside0.mk (below_step tB hb); clear HB; clear HO104; have HO107 := n0_; have HB := n1_; clear n0_ n1_; clear hb ho8)); try go_wp2_with (first | ((with_reducible refine gate_builtin (b := .append) (xs := #[.const (.slice none 0 0), .tmp 12]) rfl ?_); at_builtin; refine Kd.R_append_rows (Kd.int .i64) (w0 := w) w.heap.size rfl (.const (.slice none 0 0)) (.tmp 12) 22 3 (.int .i64 0) 8 rfl Tryd.underlying22 info3 rfl (by decide) (by omega) (.slice none 0 0) ([] : List Int) (rd_L2 l0 0) _ _ _ (fun k_ => (w.heap.size ≤ k_)) (fun _ => False) rfl rfl ?aO ?aR (fun _ _ h => h) (fun _ h => h.elim) ?aF ?aB ?aS ?aL ?_; (case aR => repeat (first | exact HR101_0.out | (with_reducible refine Kd.C_alloc ?_ _) | (with_reducible refine Kd.C_drewN ?_ _) | (with_reducible refine Kd.C_drew ?_))); (case aB => exact tB); (case aF => exact (fun k_ hk => (Nat.le_trans (below_size tB) hk))); (case aO => exact ((Kd.R_nil _ _ _ _ (fun k_ => (w.heap.size ≤ k_))))); (case aS => exact (below_size tB)); (case aL => have := LMc4.out; omega); intro v103 w5 ho hb hg hat; rw [← Ny102.out] at ho; have n0_ := Aside0.mk (hb); have n1_ := Aside0.mk (ho); clear HB; have HB := n0_; have HO104 := n1_; clear n0_ n1_; clear ho hb hg hat; obtain ⟨Ao6, co6, eo6⟩ := Kd.R_slice HO104.out; subst eo6) | ((with_reducible refine gate_dst (N := 14) rfl ?_); refine Kd.N_lit (Kd.slice 3 (Kd.int .i64)) _ 22 ?hg (N' := 14) ?hd (xs := ([y102] : List (List Int))) (inner := [.slice Ao6 y102.length co6]) (ok := (fun k_ => (w.heap.size ≤ k_))) (okp := (fun k_ => (w.heap.size ≤ k_))) ?hr ?hp (fun _ hk => hk) ((show ∀ k_, w5.heap.size ≤ k_ → (fun k_ => (w.heap.size ≤ k_)) k_ from fun k_ hk => (Nat.le_trans (below_size tB) hk)) _ (Nat.le_refl _)) (Below.refl _ _) (Nat.le_refl _) (by simp) ?_; (case hd => rfl); (case hg => rfl); (case hr => first | (go_simp; done) | (go_simp; rfl)); (case hp => exact (Reps.one (show Kd.FK (Kd.slice 3 (Kd.int .i64)) _ _ y102 [.slice Ao6 y102.length co6] from (Kd.FK_slice_mk (Kd.R_reads' (Kd.R_mono (ok' := (fun k_ => (w.heap.size ≤ k_))) (HO104.out) (fun k_ hk => hk))).2.1 (Kd.R_F (Kd.R_mono (ok' := (fun k_ => (w.heap.size ≤ k_))) (HO104.out) (fun k_ hk => hk))))) (Reps.none _ _))); intro v106 w7 ho8 hb hg_ hnew_; clear hg_ hnew_; (first | rw [← Ny105.out] at ho8 | (simp only [Int.reduceToNat] at ho8; rw [← Ny105.out] at ho8)); have n0_ := Aside0.mk (Kd.N_lower ho8 (below_size tB)); have n1_ := Aside0.mk (below_step tB hb); clear HB; clear HO104; have HO107 := n0_; have HB := n1_; clear n0_ n1_; clear hb ho8)))
   go_loopg [5] k (fun kq v5 w' => ∃ (x5_1 : List (List Int)), Aside0 (earshotref03_Seeds.l0 kq l0 a1 x5_1 = some r) ∧ Aside0 (kq ≤ k) ∧ Aside0 (Kd.N (Kd.slice 3 (Kd.int .i64)) 22 w' w.heap.size (fun k_ => (w.heap.size ≤ k_)) v5 x5_1) ∧ Aside0 (Below w.heap.size w w'))
   case atStart => exact ⟨(y105), H', ⟨Nat.le_refl _⟩, ⟨tN HO107.out⟩, ⟨tB⟩⟩
   case round =>
    clear H'
    try clear c1
    try clear p1
    try clear q1
    try clear hx1
    try clear qi1
    try clear p2
    try clear c3
    try clear c3b0
    try clear c3b1
    try clear c4
    try clear c7
    try clear hx101_0
    try clear p101
    try clear q101
    obtain ⟨x5_1, HA, HK1, HO_5, HB⟩ := hrel
    cases gk with
    | zero => exact absurd HA.out (by simp [earshotref03_Seeds.l0])
    | succ k1 =>
     have H := HA.out
     clear HA
     simp only [earshotref03_Seeds.l0] at H
     by_cases c9 : (x5_1.length : Int) < a1
     ·rw [if_pos c9] at H
      have c9b0 := decide_eq_true c9
      clear c9
      have H' := Aside0.mk H
      clear H
      obtain ⟨Ao10, co10, eo10⟩ := Kd.N_slice HO_5.out
      subst eo10
      go_wp2
      repeat (go_quiet (fail); try go_wp2)
      go_loopg [6, 7, 8] k1 (fun kq v6 v7 v8 w' => ∃ (x6_2 : Int) (x7_2 : Int) (x8_2 : Int), v6 = .int .i64 x6_2 ∧ v7 = .int .i64 x7_2 ∧ v8 = .int .i64 x8_2 ∧ Aside0 (earshotref03_Seeds.l1 kq l0 a1 x5_1 x6_2 x7_2 x8_2 = some r) ∧ Aside0 (kq ≤ k1) ∧ Aside0 (Kd.N (Kd.slice 3 (Kd.int .i64)) 22 w' w.heap.size (fun k_ => (w.heap.size ≤ k_)) (.slice Ao10 x5_1.length co10) x5_1) ∧ Aside0 (Below w.heap.size w w'))
      case atStart => exact ⟨(0), (0), (0), (by first | rfl | (simp; done) | (simp only [i64_w]; done) | (simp [*]; done)), (by first | rfl | (simp; done) | (simp only [i64_w]; done) | (simp [*]; done)), (by first | rfl | (simp; done) | (simp only [i64_w]; done) | (simp [*]; done)), H', ⟨Nat.le_refl _⟩, ⟨tN HO_5.out⟩, ⟨tB⟩⟩
      case round =>
       clear H'
       try clear c1
       try clear p1
       try clear q1
       try clear hx1
       try clear qi1
       try clear p2
       try clear c3
       try clear c3b0
       try clear c3b1
       try clear c4
       try clear c7
       try clear c9
       try clear c9b0
       try clear c10
       try clear p10
       try clear q10
       try clear hx10
       try clear qi10
       try clear hx101_0
       try clear p1
       try clear p101
       try clear p2
       try clear q1
       try clear q101
       obtain ⟨x6_2, x7_2, x8_2, rfl, rfl, rfl, HA, HK2, HO_5, HB⟩ := hrel
       cases gk with
       | zero => exact absurd HA.out (by simp [earshotref03_Seeds.l1])
       | succ k2 =>
        have H := HA.out
        clear HA
        simp only [earshotref03_Seeds.l1] at H
        by_cases c11 : x8_2 < (l0.length : Int)
        ·rw [if_pos c11] at H
         have c11b0 := decide_eq_true c11
         clear c11
         by_cases c12 : 0 ≤ x8_2
         ·rw [if_pos c12] at H
          have c12b0 := decide_eq_true c12
          clear c12
          replace H := Option.bind_eq_some_iff.mp H
          obtain ⟨t117, A130, H⟩ := H
          try dsimp only at H
          have A13 := Aside0.mk A130
          clear A130
          by_cases c14 : 0 ≤ t117
          ·rw [if_pos c14] at H
           have c14b0 := decide_eq_true c14
           clear c14
           by_cases c15 : t117 < (x5_1.length : Int)
           ·rw [if_pos c15] at H
            have c15b0 := decide_eq_true c15
            clear c15
            replace H := Option.bind_eq_some_iff.mp H
            obtain ⟨t119, A160, H⟩ := H
            try dsimp only at H
            have A16 := Aside0.mk A160
            clear A160
            by_cases c17 : t119 > x7_2
            ·rw [if_pos c17] at H
             have c17b0 : decide (x7_2 < t119) = true := decide_eq_true c17
             clear c17
             have H' := Aside0.mk H
             clear H
             have p115 : 0 ≤ (x8_2 : Int) := of_decide_eq_true tA
             have q115 : x8_2 < (l0.length : Int) := of_decide_eq_true tA
             obtain ⟨ad115, A115_0, c115_0, e115, hx115_0, hl115_0, hi115_0⟩ := at_L2 HR0.out x8_2 p115 q115
             obtain rfl : ad101 = ad115 := (by injection e115)
             replace hx115_0 := (HB.out.cell (World.block_lt_of_cell? w _ hx115_0)).trans hx115_0
             have HR115_0 := Aside0.mk hi115_0
             have HC115_0 := Aside0.mk hl115_0
             clear hi115_0 hl115_0
             replace p115 := eq_true p115
             replace q115 := eq_true q115
             have p116 : 0 ≤ (x8_2 : Int) := of_decide_eq_true tA
             have q116 : x8_2 < (l0.length : Int) := of_decide_eq_true tA
             obtain ⟨ad116, A116_0, c116_0, e116, hx116_0, hl116_0, hi116_0⟩ := at_L2 HR0.out x8_2 p116 q116
             obtain rfl : ad101 = ad116 := (by injection e116)
             replace hx116_0 := (HB.out.cell (World.block_lt_of_cell? w _ hx116_0)).trans hx116_0
             have HR116_0 := Aside0.mk hi116_0
             have HC116_0 := Aside0.mk hl116_0
             clear hi116_0 hl116_0
             replace p116 := eq_true p116
             replace q116 := eq_true q116
             have ea_ := Option.some.inj (hx115_0.symm.trans hx116_0)
             injection ea_ with ea_ en_ ec_
             subst ea_
             subst ec_
             clear en_
             go_wp2_with (first | (go_at_call 72; (with_reducible refine (earshotref03_Nearest.calls k2 _ _ (rd_L2 l0 x8_2) _ _ x5_1 t117 _ ?side1 ?side2 ?side3 ?side4 A13.out).mono ?_); (case side1 => exact tC (Kd.C_below HR116_0.out HB.out)); (case side2 => exact HC116_0.out); (case side3 => exact tC (Kd.N_reads' HO_5.out).2.2); (case side4 => exact (Kd.N_reads' HO_5.out).2.1); rintro e w' ⟨rfl, ⟨nd, rfl⟩⟩; (try first | exact ⟨rfl, _, World.drewN_drewN _ _ _⟩ | exact ⟨rfl, _, Eq.trans (World.drewN_drewN _ _ _) (congrArg (World.drewN _) (Nat.add_assoc _ _ _))⟩); have p118 : 0 ≤ (t117 : Int) := of_decide_eq_true tA; have q118 : t117 < (x5_1.length : Int) := of_decide_eq_true tA; obtain ⟨ad118, A118_0, c118_0, e118, hx118_0, hl118_0, hi118_0⟩ := at_L2 (Kd.N_reads' HO_5.out).2.2 t117 p118 q118; cases e118; obtain ⟨ce118, hce118, hMe118, hcc118⟩ := Kd.N_get HO_5.out [] t117 p118 (by first | exact q118 | exact of_decide_eq_true tA | (have e_ := (Kd.N_reads' HO_5.out).1; omega)); obtain ⟨ua118_0, uc118_0, rfl, ul118_0, ge118_0⟩ := Kd.FK_slice_open hMe118; have hv118_0 := hcc118 0 _ rfl; rw [Nat.add_zero, show ((Kd.slice 3 (Kd.int .i64))).sz = 1 from rfl, Nat.mul_one] at hv118_0; replace hv118_0 := Option.some.inj (hv118_0.symm.trans hx118_0); injection hv118_0 with hva_ hvn_ hvc_; rw [hva_] at ge118_0; rw [hvc_] at ul118_0; have HL118_0 := Aside0.mk (show Kd.V (Kd.int .i64) 3 _ w.heap.size _ _ (rd_L2 x5_1 t117) from Kd.V_mk ul118_0 ge118_0); clear hva_ hvn_ hvc_ ge118_0 ul118_0; clear hcc118 hce118; have HR118_0 := Aside0.mk hi118_0; have HC118_0 := Aside0.mk hl118_0; clear hi118_0 hl118_0; replace p118 := eq_true p118; replace q118 := eq_true q118) | (go_at_call 70; (with_reducible refine (earshotref03_Distance.calls k2 _ _ (rd_L2 l0 x8_2) _ _ (rd_L2 x5_1 t117) t119 _ ?side1 ?side2 ?side3 ?side4 A16.out).mono ?_); (case side1 => exact tC (Kd.C_below HR115_0.out tB)); (case side2 => exact HC115_0.out); (case side3 => repeat (first | exact (by repeat (first | (with_reducible exact HR118_0.out) | (with_reducible refine Kd.C_alloc ?_ _) | (with_reducible refine Kd.C_drewN ?_ _) | (with_reducible refine Kd.C_drew ?_) | exact HR118_0.out)) | (with_reducible refine Kd.C_alloc ?_ _) | (with_reducible refine Kd.C_drewN ?_ _) | (with_reducible refine Kd.C_drew ?_))); (case side4 => exact HC118_0.out); rintro e w' ⟨rfl, ⟨nd, rfl⟩⟩; (try first | exact ⟨rfl, _, World.drewN_drewN _ _ _⟩ | exact ⟨rfl, _, Eq.trans (World.drewN_drewN _ _ _) (congrArg (World.drewN _) (Nat.add_assoc _ _ _))⟩)))
             repeat (go_quiet (first | (go_at_call 72; (with_reducible refine (earshotref03_Nearest.calls k2 _ _ (rd_L2 l0 x8_2) _ _ x5_1 t117 _ ?side1 ?side2 ?side3 ?side4 A13.out).mono ?_); (case side1 => exact tC (Kd.C_below HR116_0.out HB.out)); (case side2 => exact HC116_0.out); (case side3 => exact tC (Kd.N_reads' HO_5.out).2.2); (case side4 => exact (Kd.N_reads' HO_5.out).2.1); rintro e w' ⟨rfl, ⟨nd, rfl⟩⟩; (try first | exact ⟨rfl, _, World.drewN_drewN _ _ _⟩ | exact ⟨rfl, _, Eq.trans (World.drewN_drewN _ _ _) (congrArg (World.drewN _) (Nat.add_assoc _ _ _))⟩); have p118 : 0 ≤ (t117 : Int) := of_decide_eq_true tA; have q118 : t117 < (x5_1.length : Int) := of_decide_eq_true tA; obtain ⟨ad118, A118_0, c118_0, e118, hx118_0, hl118_0, hi118_0⟩ := at_L2 (Kd.N_reads' HO_5.out).2.2 t117 p118 q118; cases e118; obtain ⟨ce118, hce118, hMe118, hcc118⟩ := Kd.N_get HO_5.out [] t117 p118 (by first | exact q118 | exact of_decide_eq_true tA | (have e_ := (Kd.N_reads' HO_5.out).1; omega)); obtain ⟨ua118_0, uc118_0, rfl, ul118_0, ge118_0⟩ := Kd.FK_slice_open hMe118; have hv118_0 := hcc118 0 _ rfl; rw [Nat.add_zero, show ((Kd.slice 3 (Kd.int .i64))).sz = 1 from rfl, Nat.mul_one] at hv118_0; replace hv118_0 := Option.some.inj (hv118_0.symm.trans hx118_0); injection hv118_0 with hva_ hvn_ hvc_; rw [hva_] at ge118_0; rw [hvc_] at ul118_0; have HL118_0 := Aside0.mk (show Kd.V (Kd.int .i64) 3 _ w.heap.size _ _ (rd_L2 x5_1 t117) from Kd.V_mk ul118_0 ge118_0); clear hva_ hvn_ hvc_ ge118_0 ul118_0; clear hcc118 hce118; have HR118_0 := Aside0.mk hi118_0; have HC118_0 := Aside0.mk hl118_0; clear hi118_0 hl118_0; replace p118 := eq_true p118; replace q118 := eq_true q118) | (go_at_call 70; (with_reducible refine (earshotref03_Distance.calls k2 _ _ (rd_L2 l0 x8_2) _ _ (rd_L2 x5_1 t117) t119 _ ?side1 ?side2 ?side3 ?side4 A16.out).mono ?_); (case side1 => exact tC (Kd.C_below HR115_0.out tB)); (case side2 => exact HC115_0.out); (case side3 => repeat (first | exact (by repeat (first | (with_reducible exact HR118_0.out) | (with_reducible refine Kd.C_alloc ?_ _) | (with_reducible refine Kd.C_drewN ?_ _) | (with_reducible refine Kd.C_drew ?_) | exact HR118_0.out)) | (with_reducible refine Kd.C_alloc ?_ _) | (with_reducible refine Kd.C_drewN ?_ _) | (with_reducible refine Kd.C_drew ?_))); (case side4 => exact HC118_0.out); rintro e w' ⟨rfl, ⟨nd, rfl⟩⟩; (try first | exact ⟨rfl, _, World.drewN_drewN _ _ _⟩ | exact ⟨rfl, _, Eq.trans (World.drewN_drewN _ _ _) (congrArg (World.drewN _) (Nat.add_assoc _ _ _))⟩))); try go_wp2_with (first | (go_at_call 72; (with_reducible refine (earshotref03_Nearest.calls k2 _ _ (rd_L2 l0 x8_2) _ _ x5_1 t117 _ ?side1 ?side2 ?side3 ?side4 A13.out).mono ?_); (case side1 => exact tC (Kd.C_below HR116_0.out HB.out)); (case side2 => exact HC116_0.out); (case side3 => exact tC (Kd.N_reads' HO_5.out).2.2); (case side4 => exact (Kd.N_reads' HO_5.out).2.1); rintro e w' ⟨rfl, ⟨nd, rfl⟩⟩; (try first | exact ⟨rfl, _, World.drewN_drewN _ _ _⟩ | exact ⟨rfl, _, Eq.trans (World.drewN_drewN _ _ _) (congrArg (World.drewN _) (Nat.add_assoc _ _ _))⟩); have p118 : 0 ≤ (t117 : Int) := of_decide_eq_true tA; have q118 : t117 < (x5_1.length : Int) := of_decide_eq_true tA; obtain ⟨ad118, A118_0, c118_0, e118, hx118_0, hl118_0, hi118_0⟩ := at_L2 (Kd.N_reads' HO_5.out).2.2 t117 p118 q118; cases e118; obtain ⟨ce118, hce118, hMe118, hcc118⟩ := Kd.N_get HO_5.out [] t117 p118 (by first | exact q118 | exact of_decide_eq_true tA | (have e_ := (Kd.N_reads' HO_5.out).1; omega)); obtain ⟨ua118_0, uc118_0, rfl, ul118_0, ge118_0⟩ := Kd.FK_slice_open hMe118; have hv118_0 := hcc118 0 _ rfl; rw [Nat.add_zero, show ((Kd.slice 3 (Kd.int .i64))).sz = 1 from rfl, Nat.mul_one] at hv118_0; replace hv118_0 := Option.some.inj (hv118_0.symm.trans hx118_0); injection hv118_0 with hva_ hvn_ hvc_; rw [hva_] at ge118_0; rw [hvc_] at ul118_0; have HL118_0 := Aside0.mk (show Kd.V (Kd.int .i64) 3 _ w.heap.size _ _ (rd_L2 x5_1 t117) from Kd.V_mk ul118_0 ge118_0); clear hva_ hvn_ hvc_ ge118_0 ul118_0; clear hcc118 hce118; have HR118_0 := Aside0.mk hi118_0; have HC118_0 := Aside0.mk hl118_0; clear hi118_0 hl118_0; replace p118 := eq_true p118; replace q118 := eq_true q118) | (go_at_call 70; (with_reducible refine (earshotref03_Distance.calls k2 _ _ (rd_L2 l0 x8_2) _ _ (rd_L2 x5_1 t117) t119 _ ?side1 ?side2 ?side3 ?side4 A16.out).mono ?_); (case side1 => exact tC (Kd.C_below HR115_0.out tB)); (case side2 => exact HC115_0.out); (case side3 => repeat (first | exact (by repeat (first | (with_reducible exact HR118_0.out) | (with_reducible refine Kd.C_alloc ?_ _) | (with_reducible refine Kd.C_drewN ?_ _) | (with_reducible refine Kd.C_drew ?_) | exact HR118_0.out)) | (with_reducible refine Kd.C_alloc ?_ _) | (with_reducible refine Kd.C_drewN ?_ _) | (with_reducible refine Kd.C_drew ?_))); (case side4 => exact HC118_0.out); rintro e w' ⟨rfl, ⟨nd, rfl⟩⟩; (try first | exact ⟨rfl, _, World.drewN_drewN _ _ _⟩ | exact ⟨rfl, _, Eq.trans (World.drewN_drewN _ _ _) (congrArg (World.drewN _) (Nat.add_assoc _ _ _))⟩))))
             go_roundg k2
             case measure => have := HK1.out; have := HK2.out; omega
             case rel => exact ⟨(x8_2), (t119), (wrap64 (x8_2 + 1)), (by first | rfl | (simp; done) | (simp only [i64_w]; done) | (simp [*]; done)), (by first | rfl | (simp; done) | (simp only [i64_w]; done) | (simp [*]; done)), (by first | rfl | (simp; done) | (simp only [i64_w]; done) | (simp [*]; done)), H', ⟨by have := HK1.out; have := HK2.out; omega⟩, ⟨tN HO_5.out⟩, ⟨tB⟩⟩
            ·rw [if_neg c17] at H
             have c17b0 : decide (x7_2 < t119) = false := decide_eq_false c17
             clear c17
             have H' := Aside0.mk H
             clear H
             have p115 : 0 ≤ (x8_2 : Int) := of_decide_eq_true tA
             have q115 : x8_2 < (l0.length : Int) := of_decide_eq_true tA
             obtain ⟨ad115, A115_0, c115_0, e115, hx115_0, hl115_0, hi115_0⟩ := at_L2 HR0.out x8_2 p115 q115
             obtain rfl : ad101 = ad115 := (by injection e115)
             replace hx115_0 := (HB.out.cell (World.block_lt_of_cell? w _ hx115_0)).trans hx115_0
             have HR115_0 := Aside0.mk hi115_0
             have HC115_0 := Aside0.mk hl115_0
             clear hi115_0 hl115_0
             replace p115 := eq_true p115
             replace q115 := eq_true q115
             have p116 : 0 ≤ (x8_2 : Int) := of_decide_eq_true tA
             have q116 : x8_2 < (l0.length : Int) := of_decide_eq_true tA
             obtain ⟨ad116, A116_0, c116_0, e116, hx116_0, hl116_0, hi116_0⟩ := at_L2 HR0.out x8_2 p116 q116
             obtain rfl : ad101 = ad116 := (by injection e116)
             replace hx116_0 := (HB.out.cell (World.block_lt_of_cell? w _ hx116_0)).trans hx116_0
             have HR116_0 := Aside0.mk hi116_0
             have HC116_0 := Aside0.mk hl116_0
             clear hi116_0 hl116_0
             replace p116 := eq_true p116
             replace q116 := eq_true q116
             have ea_ := Option.some.inj (hx115_0.symm.trans hx116_0)
             injection ea_ with ea_ en_ ec_
             subst ea_
             subst ec_
             clear en_
             go_wp2_with (first | (go_at_call 72; (with_reducible refine (earshotref03_Nearest.calls k2 _ _ (rd_L2 l0 x8_2) _ _ x5_1 t117 _ ?side1 ?side2 ?side3 ?side4 A13.out).mono ?_); (case side1 => exact tC (Kd.C_below HR116_0.out HB.out)); (case side2 => exact HC116_0.out); (case side3 => exact tC (Kd.N_reads' HO_5.out).2.2); (case side4 => exact (Kd.N_reads' HO_5.out).2.1); rintro e w' ⟨rfl, ⟨nd, rfl⟩⟩; (try first | exact ⟨rfl, _, World.drewN_drewN _ _ _⟩ | exact ⟨rfl, _, Eq.trans (World.drewN_drewN _ _ _) (congrArg (World.drewN _) (Nat.add_assoc _ _ _))⟩); have p118 : 0 ≤ (t117 : Int) := of_decide_eq_true tA; have q118 : t117 < (x5_1.length : Int) := of_decide_eq_true tA; obtain ⟨ad118, A118_0, c118_0, e118, hx118_0, hl118_0, hi118_0⟩ := at_L2 (Kd.N_reads' HO_5.out).2.2 t117 p118 q118; cases e118; obtain ⟨ce118, hce118, hMe118, hcc118⟩ := Kd.N_get HO_5.out [] t117 p118 (by first | exact q118 | exact of_decide_eq_true tA | (have e_ := (Kd.N_reads' HO_5.out).1; omega)); obtain ⟨ua118_0, uc118_0, rfl, ul118_0, ge118_0⟩ := Kd.FK_slice_open hMe118; have hv118_0 := hcc118 0 _ rfl; rw [Nat.add_zero, show ((Kd.slice 3 (Kd.int .i64))).sz = 1 from rfl, Nat.mul_one] at hv118_0; replace hv118_0 := Option.some.inj (hv118_0.symm.trans hx118_0); injection hv118_0 with hva_ hvn_ hvc_; rw [hva_] at ge118_0; rw [hvc_] at ul118_0; have HL118_0 := Aside0.mk (show Kd.V (Kd.int .i64) 3 _ w.heap.size _ _ (rd_L2 x5_1 t117) from Kd.V_mk ul118_0 ge118_0); clear hva_ hvn_ hvc_ ge118_0 ul118_0; clear hcc118 hce118; have HR118_0 := Aside0.mk hi118_0; have HC118_0 := Aside0.mk hl118_0; clear hi118_0 hl118_0; replace p118 := eq_true p118; replace q118 := eq_true q118) | (go_at_call 70; (with_reducible refine (earshotref03_Distance.calls k2 _ _ (rd_L2 l0 x8_2) _ _ (rd_L2 x5_1 t117) t119 _ ?side1 ?side2 ?side3 ?side4 A16.out).mono ?_); (case side1 => exact tC (Kd.C_below HR115_0.out tB)); (case side2 => exact HC115_0.out); (case side3 => repeat (first | exact (by repeat (first | (with_reducible exact HR118_0.out) | (with_reducible refine Kd.C_alloc ?_ _) | (with_reducible refine Kd.C_drewN ?_ _) | (with_reducible refine Kd.C_drew ?_) | exact HR118_0.out)) | (with_reducible refine Kd.C_alloc ?_ _) | (with_reducible refine Kd.C_drewN ?_ _) | (with_reducible refine Kd.C_drew ?_))); (case side4 => exact HC118_0.out); rintro e w' ⟨rfl, ⟨nd, rfl⟩⟩; (try first | exact ⟨rfl, _, World.drewN_drewN _ _ _⟩ | exact ⟨rfl, _, Eq.trans (World.drewN_drewN _ _ _) (congrArg (World.drewN _) (Nat.add_assoc _ _ _))⟩)))
             repeat (go_quiet (first | (go_at_call 72; (with_reducible refine (earshotref03_Nearest.calls k2 _ _ (rd_L2 l0 x8_2) _ _ x5_1 t117 _ ?side1 ?side2 ?side3 ?side4 A13.out).mono ?_); (case side1 => exact tC (Kd.C_below HR116_0.out HB.out)); (case side2 => exact HC116_0.out); (case side3 => exact tC (Kd.N_reads' HO_5.out).2.2); (case side4 => exact (Kd.N_reads' HO_5.out).2.1); rintro e w' ⟨rfl, ⟨nd, rfl⟩⟩; (try first | exact ⟨rfl, _, World.drewN_drewN _ _ _⟩ | exact ⟨rfl, _, Eq.trans (World.drewN_drewN _ _ _) (congrArg (World.drewN _) (Nat.add_assoc _ _ _))⟩); have p118 : 0 ≤ (t117 : Int) := of_decide_eq_true tA; have q118 : t117 < (x5_1.length : Int) := of_decide_eq_true tA; obtain ⟨ad118, A118_0, c118_0, e118, hx118_0, hl118_0, hi118_0⟩ := at_L2 (Kd.N_reads' HO_5.out).2.2 t117 p118 q118; cases e118; obtain ⟨ce118, hce118, hMe118, hcc118⟩ := Kd.N_get HO_5.out [] t117 p118 (by first | exact q118 | exact of_decide_eq_true tA | (have e_ := (Kd.N_reads' HO_5.out).1; omega)); obtain ⟨ua118_0, uc118_0, rfl, ul118_0, ge118_0⟩ := Kd.FK_slice_open hMe118; have hv118_0 := hcc118 0 _ rfl; rw [Nat.add_zero, show ((Kd.slice 3 (Kd.int .i64))).sz = 1 from rfl, Nat.mul_one] at hv118_0; replace hv118_0 := Option.some.inj (hv118_0.symm.trans hx118_0); injection hv118_0 with hva_ hvn_ hvc_; rw [hva_] at ge118_0; rw [hvc_] at ul118_0; have HL118_0 := Aside0.mk (show Kd.V (Kd.int .i64) 3 _ w.heap.size _ _ (rd_L2 x5_1 t117) from Kd.V_mk ul118_0 ge118_0); clear hva_ hvn_ hvc_ ge118_0 ul118_0; clear hcc118 hce118; have HR118_0 := Aside0.mk hi118_0; have HC118_0 := Aside0.mk hl118_0; clear hi118_0 hl118_0; replace p118 := eq_true p118; replace q118 := eq_true q118) | (go_at_call 70; (with_reducible refine (earshotref03_Distance.calls k2 _ _ (rd_L2 l0 x8_2) _ _ (rd_L2 x5_1 t117) t119 _ ?side1 ?side2 ?side3 ?side4 A16.out).mono ?_); (case side1 => exact tC (Kd.C_below HR115_0.out tB)); (case side2 => exact HC115_0.out); (case side3 => repeat (first | exact (by repeat (first | (with_reducible exact HR118_0.out) | (with_reducible refine Kd.C_alloc ?_ _) | (with_reducible refine Kd.C_drewN ?_ _) | (with_reducible refine Kd.C_drew ?_) | exact HR118_0.out)) | (with_reducible refine Kd.C_alloc ?_ _) | (with_reducible refine Kd.C_drewN ?_ _) | (with_reducible refine Kd.C_drew ?_))); (case side4 => exact HC118_0.out); rintro e w' ⟨rfl, ⟨nd, rfl⟩⟩; (try first | exact ⟨rfl, _, World.drewN_drewN _ _ _⟩ | exact ⟨rfl, _, Eq.trans (World.drewN_drewN _ _ _) (congrArg (World.drewN _) (Nat.add_assoc _ _ _))⟩))); try go_wp2_with (first | (go_at_call 72; (with_reducible refine (earshotref03_Nearest.calls k2 _ _ (rd_L2 l0 x8_2) _ _ x5_1 t117 _ ?side1 ?side2 ?side3 ?side4 A13.out).mono ?_); (case side1 => exact tC (Kd.C_below HR116_0.out HB.out)); (case side2 => exact HC116_0.out); (case side3 => exact tC (Kd.N_reads' HO_5.out).2.2); (case side4 => exact (Kd.N_reads' HO_5.out).2.1); rintro e w' ⟨rfl, ⟨nd, rfl⟩⟩; (try first | exact ⟨rfl, _, World.drewN_drewN _ _ _⟩ | exact ⟨rfl, _, Eq.trans (World.drewN_drewN _ _ _) (congrArg (World.drewN _) (Nat.add_assoc _ _ _))⟩); have p118 : 0 ≤ (t117 : Int) := of_decide_eq_true tA; have q118 : t117 < (x5_1.length : Int) := of_decide_eq_true tA; obtain ⟨ad118, A118_0, c118_0, e118, hx118_0, hl118_0, hi118_0⟩ := at_L2 (Kd.N_reads' HO_5.out).2.2 t117 p118 q118; cases e118; obtain ⟨ce118, hce118, hMe118, hcc118⟩ := Kd.N_get HO_5.out [] t117 p118 (by first | exact q118 | exact of_decide_eq_true tA | (have e_ := (Kd.N_reads' HO_5.out).1; omega)); obtain ⟨ua118_0, uc118_0, rfl, ul118_0, ge118_0⟩ := Kd.FK_slice_open hMe118; have hv118_0 := hcc118 0 _ rfl; rw [Nat.add_zero, show ((Kd.slice 3 (Kd.int .i64))).sz = 1 from rfl, Nat.mul_one] at hv118_0; replace hv118_0 := Option.some.inj (hv118_0.symm.trans hx118_0); injection hv118_0 with hva_ hvn_ hvc_; rw [hva_] at ge118_0; rw [hvc_] at ul118_0; have HL118_0 := Aside0.mk (show Kd.V (Kd.int .i64) 3 _ w.heap.size _ _ (rd_L2 x5_1 t117) from Kd.V_mk ul118_0 ge118_0); clear hva_ hvn_ hvc_ ge118_0 ul118_0; clear hcc118 hce118; have HR118_0 := Aside0.mk hi118_0; have HC118_0 := Aside0.mk hl118_0; clear hi118_0 hl118_0; replace p118 := eq_true p118; replace q118 := eq_true q118) | (go_at_call 70; (with_reducible refine (earshotref03_Distance.calls k2 _ _ (rd_L2 l0 x8_2) _ _ (rd_L2 x5_1 t117) t119 _ ?side1 ?side2 ?side3 ?side4 A16.out).mono ?_); (case side1 => exact tC (Kd.C_below HR115_0.out tB)); (case side2 => exact HC115_0.out); (case side3 => repeat (first | exact (by repeat (first | (with_reducible exact HR118_0.out) | (with_reducible refine Kd.C_alloc ?_ _) | (with_reducible refine Kd.C_drewN ?_ _) | (with_reducible refine Kd.C_drew ?_) | exact HR118_0.out)) | (with_reducible refine Kd.C_alloc ?_ _) | (with_reducible refine Kd.C_drewN ?_ _) | (with_reducible refine Kd.C_drew ?_))); (case side4 => exact HC118_0.out); rintro e w' ⟨rfl, ⟨nd, rfl⟩⟩; (try first | exact ⟨rfl, _, World.drewN_drewN _ _ _⟩ | exact ⟨rfl, _, Eq.trans (World.drewN_drewN _ _ _) (congrArg (World.drewN _) (Nat.add_assoc _ _ _))⟩))))
             go_roundg k2
             case measure => have := HK1.out; have := HK2.out; omega
             case rel => exact ⟨(x6_2), (x7_2), (wrap64 (x8_2 + 1)), (by first | rfl | (simp; done) | (simp only [i64_w]; done) | (simp [*]; done)), (by first | rfl | (simp; done) | (simp only [i64_w]; done) | (simp [*]; done)), (by first | rfl | (simp; done) | (simp only [i64_w]; done) | (simp [*]; done)), H', ⟨by have := HK1.out; have := HK2.out; omega⟩, ⟨tN HO_5.out⟩, ⟨tB⟩⟩
           ·rw [if_neg c15] at H
            exact absurd H (by simp)
          ·rw [if_neg c14] at H
           exact absurd H (by simp)
         ·rw [if_neg c12] at H
          exact absurd H (by simp)
        ·rw [if_neg c11] at H
         have c11b0 := decide_eq_false c11
         clear c11
         by_cases c18 : x7_2 = 0
         ·rw [if_pos c18] at H
          have c18b0 : (x7_2 == 0) = true := beq_iff_eq.mpr c18
          have c18b1 : (x7_2 != 0) = false := bne_eq_false_iff_eq.mpr c18
          clear c18
          obtain rfl := Option.some.inj H
          go_wp2
          repeat (go_quiet (fail); try go_wp2)
          go_ret
          exact ⟨_, by first | rfl | (simp [errW_none, errW_some] <;> rfl) | (simp [*, errW_none, errW_some] <;> rfl), tN HO_5.out, tB⟩
         ·rw [if_neg c18] at H
          have c18b0 : (x7_2 == 0) = false := beq_eq_false_iff_ne.mpr c18
          have c18b1 : (x7_2 != 0) = true := bne_iff_ne.mpr c18
          by_cases c19 : 0 ≤ x6_2
          ·rw [if_pos c19] at H
           have c19b0 := decide_eq_true c19
           clear c19
           by_cases c20 : x6_2 < (l0.length : Int)
           ·rw [if_pos c20] at H
            have c20b0 := decide_eq_true c20
            clear c20
            by_cases c21 : ([] : List Int).length + (rd_L2 l0 x6_2).length < 17592186044416
            ·rw [if_pos c21] at H
             have LMc21 := Aside0.mk c21
             clear c21
             obtain ⟨y109, hy109⟩ : ∃ y_ : List Int, y_ = (([] : List Int) ++ (rd_L2 l0 x6_2)) := ⟨_, rfl⟩
             replace H : (if x5_1.length < 5864062014805 then (earshotref03_Seeds.l0 k2 l0 a1 (x5_1 ++ [y109])) else (none)) = some r := by first | (rw [hy109]; with_reducible exact H) | (have H2_ := (Option.bind_some _ _).symm.trans H; rw [hy109]; with_reducible exact H2_) | (have H2_ := (Option.bind_some _ _).symm.trans H; with_reducible exact H2_) | with_reducible exact H | (rw [hy109]; exact H) | exact H
             have Ny109 := Aside0.mk hy109
             clear hy109
             by_cases c22 : x5_1.length < 5864062014805
             ·rw [if_pos c22] at H
              have LMc22 := Aside0.mk c22
              clear c22
              obtain ⟨y112, hy112⟩ : ∃ y_ : List (List Int), y_ = (x5_1 ++ [y109]) := ⟨_, rfl⟩
              replace H : (earshotref03_Seeds.l0 k2 l0 a1 y112) = some r := by first | (rw [hy112]; with_reducible exact H) | (have H2_ := (Option.bind_some _ _).symm.trans H; rw [hy112]; with_reducible exact H2_) | (have H2_ := (Option.bind_some _ _).symm.trans H; with_reducible exact H2_) | with_reducible exact H | (rw [hy112]; exact H) | exact H
              have Ny112 := Aside0.mk hy112
              clear hy112
              have H' := Aside0.mk H
              clear H
              have p108 : 0 ≤ (x6_2 : Int) := of_decide_eq_true tA
              have q108 : x6_2 < (l0.length : Int) := of_decide_eq_true tA
              obtain ⟨ad108, A108_0, c108_0, e108, hx108_0, hl108_0, hi108_0⟩ := at_L2 HR0.out x6_2 p108 q108
              obtain rfl : ad101 = ad108 := (by injection e108)
              replace hx108_0 := (HB.out.cell (World.block_lt_of_cell? w _ hx108_0)).trans hx108_0
              have HR108_0 := Aside0.mk hi108_0
              have HC108_0 := Aside0.mk hl108_0
              clear hi108_0 hl108_0
              replace p108 := eq_true p108
              replace q108 := eq_true q108
              go_wp2_with (first | ((with_reducible refine gate_builtin (b := .append) (xs := #[.const (.slice none 0 0), .tmp 51]) rfl ?_); at_builtin; refine Kd.R_append_rows (Kd.int .i64) (w0 := w) w.heap.size rfl (.const (.slice none 0 0)) (.tmp 51) 22 3 (.int .i64 0) 8 rfl Tryd.underlying22 info3 rfl (by decide) (by omega) (.slice none 0 0) ([] : List Int) (rd_L2 l0 x6_2) _ _ _ (fun k_ => (w.heap.size ≤ k_)) (fun _ => False) rfl rfl ?aO ?aR (fun _ _ h => h) (fun _ h => h.elim) ?aF ?aB ?aS ?aL ?_; (case aR => repeat (first | exact (Kd.C_below HR108_0.out HB.out) | (with_reducible refine Kd.C_alloc ?_ _) | (with_reducible refine Kd.C_drewN ?_ _) | (with_reducible refine Kd.C_drew ?_))); (case aB => exact tB); (case aF => exact (fun k_ hk => (Nat.le_trans (below_size tB) hk))); (case aO => exact ((Kd.R_nil _ _ _ _ (fun k_ => (w.heap.size ≤ k_))))); (case aS => exact (below_size tB)); (case aL => have := LMc21.out; omega); intro v110 w23 ho hb hg hat; rw [← Ny109.out] at ho; have n0_ := Aside0.mk (Kd.N_afterv (Kd.N_apart_nil (tN HO_5.out)) hg hat); have n1_ := Aside0.mk (hb); have n2_ := Aside0.mk (ho); clear HO_5; clear HB; have HO_5 := n0_; have HB := n1_; have HO111 := n2_; clear n0_ n1_ n2_; clear ho hb hg hat; obtain ⟨Ao25, co25, eo25⟩ := Kd.R_slice HO111.out; subst eo25) | ((with_reducible refine gate_builtin (b := .append) (xs := #[.tmp 47, .tmp 53]) rfl ?_); at_builtin; refine Kd.N_append (Kd.slice 3 (Kd.int .i64)) (w0 := w) w.heap.size rfl (.tmp 47) (.tmp 53) 42 22 (.slice none 0 0) 24 rfl Tryd.underlying42 info22 rfl (by decide) (by omega) (.slice Ao10 x5_1.length co10) x5_1 y109 [.slice Ao25 y109.length co25] (fun k_ => (w.heap.size ≤ k_)) (fun k_ => ((fun k_ => (w.heap.size ≤ k_))) k_ ∧ some k_ ≠ (.slice Ao10 x5_1.length co10 : Value).ownBlock) rfl rfl ?aP (fun _ hk => hk) ?aF ?aO ?aB ?aS ?aL ?_; (case aP => exact (Kd.FK_slice_mk (Kd.R_reads' (Kd.R_mono (ok' := (fun k_ => ((fun k_ => (w.heap.size ≤ k_))) k_ ∧ some k_ ≠ (.slice Ao10 x5_1.length co10 : Value).ownBlock)) (Kd.R_apart' (HO111.out) (Kd.N_typed HO_5.out) (by decide)) (fun k_ hk => ⟨hk.1, hk.2⟩))).2.1 (Kd.R_F (Kd.R_mono (ok' := (fun k_ => ((fun k_ => (w.heap.size ≤ k_))) k_ ∧ some k_ ≠ (.slice Ao10 x5_1.length co10 : Value).ownBlock)) (Kd.R_apart' (HO111.out) (Kd.N_typed HO_5.out) (by decide)) (fun k_ hk => ⟨hk.1, hk.2⟩))))); (case aB => exact tB); (case aF => exact (fun k_ hk => (Nat.le_trans (below_size tB) hk))); (case aO => exact (by (with_reducible repeat (first | apply Kd.N_alloc | apply Kd.N_drewN | apply Kd.N_drew)); exact Kd.N_mono HO_5.out (fun _ hk => hk.1))); (case aS => exact (below_size tB)); (case aL => have := LMc22.out; omega); intro v113 w24 ho hb hg hat; rw [← Ny112.out] at ho; have n0_ := Aside0.mk (hb); have n1_ := Aside0.mk (ho); clear HB; clear HO_5; clear HO111; have HB := n0_; have HO114 := n1_; clear n0_ n1_; clear ho hb hg hat))
              repeat (go_quiet (first | ((with_reducible refine gate_builtin (b := .append) (xs := #[.const (.slice none 0 0), .tmp 51]) rfl ?_); at_builtin; refine Kd.R_append_rows (Kd.int .i64) (w0 := w) w.heap.size rfl (.const (.slice none 0 0)) (.tmp 51) 22 3 (.int .i64 0) 8 rfl Tryd.underlying22 info3 rfl (by decide) (by omega) (.slice none 0 0) ([] : List Int) (rd_L2 l0 x6_2) _ _ _ (fun k_ => (w.heap.size ≤ k_)) (fun _ => False) rfl rfl ?aO ?aR (fun _ _ h => h) (fun _ h => h.elim) ?aF ?aB ?aS ?aL ?_; (case aR => repeat (first | exact (Kd.C_below HR108_0.out HB.out) | (with_reducible refine Kd.C_alloc ?_ _) | (with_reducible refine Kd.C_drewN ?_ _) | (with_reducible refine Kd.C_drew ?_))); (case aB => exact tB); (case aF => exact (fun k_ hk => (Nat.le_trans (below_size tB) hk))); (case aO => exact ((Kd.R_nil _ _ _ _ (fun k_ => (w.heap.size ≤ k_))))); (case aS => exact (below_size tB)); (case aL => have := LMc21.out; omega); intro v110 w23 ho hb hg hat; rw [← Ny109.out] at ho; have n0_ := Aside0.mk (Kd.N_afterv (Kd.N_apart_nil (tN HO_5.out)) hg hat); have n1_ := Aside0.mk (hb); have n2_ := Aside0.mk (ho); clear HO_5; clear HB; have HO_5 := n0_; have HB := n1_; have HO111 := n2_; clear n0_ n1_ n2_; clear ho hb hg hat; obtain ⟨Ao25, co25, eo25⟩ := Kd.R_slice HO111.out; subst eo25) | ((with_reducible refine gate_builtin (b := .append) (xs := #[.tmp 47, .tmp 53]) rfl ?_); at_builtin; refine Kd.N_append (Kd.slice 3 (Kd.int .i64)) (w0 := w) w.heap.size rfl (.tmp 47) (.tmp 53) 42 22 (.slice none 0 0) 24 rfl Tryd.underlying42 info22 rfl (by decide) (by omega) (.slice Ao10 x5_1.length co10) x5_1 y109 [.slice Ao25 y109.length co25] (fun k_ => (w.heap.size ≤ k_)) (fun k_ => ((fun k_ => (w.heap.size ≤ k_))) k_ ∧ some k_ ≠ (.slice Ao10 x5_1.length co10 : Value).ownBlock) rfl rfl ?aP (fun _ hk => hk) ?aF ?aO ?aB ?aS ?aL ?_; (case aP => exact (Kd.FK_slice_mk (Kd.R_reads' (Kd.R_mono (ok' := (fun k_ => ((fun k_ => (w.heap.size ≤ k_))) k_ ∧ some k_ ≠ (.slice Ao10 x5_1.length co10 : Value).ownBlock)) (Kd.R_apart' (HO111.out) (Kd.N_typed HO_5.out) (by decide)) (fun k_ hk => ⟨hk.1, hk.2⟩))).2.1 (Kd.R_F (Kd.R_mono (ok' := (fun k_ => ((fun k_ => (w.heap.size ≤ k_))) k_ ∧ some k_ ≠ (.slice Ao10 x5_1.length co10 : Value).ownBlock)) (Kd.R_apart' (HO111.out) (Kd.N_typed HO_5.out) (by decide)) (fun k_ hk => ⟨hk.1, hk.2⟩))))); (case aB => exact tB); (case aF => exact (fun k_ hk => (Nat.le_trans (below_size tB) hk))); (case aO => exact (by (with_reducible repeat (first | apply Kd.N_alloc | apply Kd.N_drewN | apply Kd.N_drew)); exact Kd.N_mono HO_5.out (fun _ hk => hk.1))); (case aS => exact (below_size tB)); (case aL => have := LMc22.out; omega); intro v113 w24 ho hb hg hat; rw [← Ny112.out] at ho; have n0_ := Aside0.mk (hb); have n1_ := Aside0.mk (ho); clear HB; clear HO_5; clear HO111; have HB := n0_; have HO114 := n1_; clear n0_ n1_; clear ho hb hg hat)); try go_wp2_with (first | ((with_reducible refine gate_builtin (b := .append) (xs := #[.const (.slice none 0 0), .tmp 51]) rfl ?_); at_builtin; refine Kd.R_append_rows (Kd.int .i64) (w0 := w) w.heap.size rfl (.const (.slice none 0 0)) (.tmp 51) 22 3 (.int .i64 0) 8 rfl Tryd.underlying22 info3 rfl (by decide) (by omega) (.slice none 0 0) ([] : List Int) (rd_L2 l0 x6_2) _ _ _ (fun k_ => (w.heap.size ≤ k_)) (fun _ => False) rfl rfl ?aO ?aR (fun _ _ h => h) (fun _ h => h.elim) ?aF ?aB ?aS ?aL ?_; (case aR => repeat (first | exact (Kd.C_below HR108_0.out HB.out) | (with_reducible refine Kd.C_alloc ?_ _) | (with_reducible refine Kd.C_drewN ?_ _) | (with_reducible refine Kd.C_drew ?_))); (case aB => exact tB); (case aF => exact (fun k_ hk => (Nat.le_trans (below_size tB) hk))); (case aO => exact ((Kd.R_nil _ _ _ _ (fun k_ => (w.heap.size ≤ k_))))); (case aS => exact (below_size tB)); (case aL => have := LMc21.out; omega); intro v110 w23 ho hb hg hat; rw [← Ny109.out] at ho; have n0_ := Aside0.mk (Kd.N_afterv (Kd.N_apart_nil (tN HO_5.out)) hg hat); have n1_ := Aside0.mk (hb); have n2_ := Aside0.mk (ho); clear HO_5; clear HB; have HO_5 := n0_; have HB := n1_; have HO111 := n2_; clear n0_ n1_ n2_; clear ho hb hg hat; obtain ⟨Ao25, co25, eo25⟩ := Kd.R_slice HO111.out; subst eo25) | ((with_reducible refine gate_builtin (b := .append) (xs := #[.tmp 47, .tmp 53]) rfl ?_); at_builtin; refine Kd.N_append (Kd.slice 3 (Kd.int .i64)) (w0 := w) w.heap.size rfl (.tmp 47) (.tmp 53) 42 22 (.slice none 0 0) 24 rfl Tryd.underlying42 info22 rfl (by decide) (by omega) (.slice Ao10 x5_1.length co10) x5_1 y109 [.slice Ao25 y109.length co25] (fun k_ => (w.heap.size ≤ k_)) (fun k_ => ((fun k_ => (w.heap.size ≤ k_))) k_ ∧ some k_ ≠ (.slice Ao10 x5_1.length co10 : Value).ownBlock) rfl rfl ?aP (fun _ hk => hk) ?aF ?aO ?aB ?aS ?aL ?_; (case aP => exact (Kd.FK_slice_mk (Kd.R_reads' (Kd.R_mono (ok' := (fun k_ => ((fun k_ => (w.heap.size ≤ k_))) k_ ∧ some k_ ≠ (.slice Ao10 x5_1.length co10 : Value).ownBlock)) (Kd.R_apart' (HO111.out) (Kd.N_typed HO_5.out) (by decide)) (fun k_ hk => ⟨hk.1, hk.2⟩))).2.1 (Kd.R_F (Kd.R_mono (ok' := (fun k_ => ((fun k_ => (w.heap.size ≤ k_))) k_ ∧ some k_ ≠ (.slice Ao10 x5_1.length co10 : Value).ownBlock)) (Kd.R_apart' (HO111.out) (Kd.N_typed HO_5.out) (by decide)) (fun k_ hk => ⟨hk.1, hk.2⟩))))); (case aB => exact tB); (case aF => exact (fun k_ hk => (Nat.le_trans (below_size tB) hk))); (case aO => exact (by (with_reducible repeat (first | apply Kd.N_alloc | apply Kd.N_drewN | apply Kd.N_drew)); exact Kd.N_mono HO_5.out (fun _ hk => hk.1))); (case aS => exact (below_size tB)); (case aL => have := LMc22.out; omega); intro v113 w24 ho hb hg hat; rw [← Ny112.out] at ho; have n0_ := Aside0.mk (hb); have n1_ := Aside0.mk (ho); clear HB; clear HO_5; clear HO111; have HB := n0_; have HO114 := n1_; clear n0_ n1_; clear ho hb hg hat)))
              go_roundg k2
              case measure => have := HK1.out; have := HK2.out; omega
              case rel => exact ⟨(y112), H', ⟨by have := HK1.out; have := HK2.out; omega⟩, ⟨tN HO114.out⟩, ⟨tB⟩⟩
             ·rw [if_neg c22] at H
              exact absurd H (by simp)
            ·rw [if_neg c21] at H
             exact absurd H (by simp)
           ·rw [if_neg c20] at H
            exact absurd H (by simp)
          ·rw [if_neg c19] at H
           exact absurd H (by simp)
     ·rw [if_neg c9] at H
      have c9b0 := decide_eq_false c9
      clear c9
      obtain rfl := Option.some.inj H
      obtain ⟨Ao26, co26, eo26⟩ := Kd.N_slice HO_5.out
      subst eo26
      go_wp2
      repeat (go_quiet (fail); try go_wp2)
      go_ret
      exact ⟨_, by first | rfl | (simp [errW_none, errW_some] <;> rfl) | (simp [*, errW_none, errW_some] <;> rfl), tN HO_5.out, tB⟩
  ·rw [if_neg c4] at H
   exact absurd H (by simp)
 ·rw [if_neg c3] at H
  exact absurd H (by simp)

/-! ### earshotlaw03_FeatureSeeds: function 18 -/
mutual
def earshotlaw03_FeatureSeeds.j0 : Nat → List (List Int) → Int → List (List Int) → Int → Int → Bool → Option (Bool)
 | 0, _, _, _, _, _, _ => none
 | k + 1, x0, x1, x5, x6, x7, x38 => if x38 = true then (earshotlaw03_FeatureSeeds.j1 k x0 x1 x5 x6 2) else (earshotlaw03_FeatureSeeds.j1 k x0 x1 x5 x6 x7)
def earshotlaw03_FeatureSeeds.j1 : Nat → List (List Int) → Int → List (List Int) → Int → Int → Option (Bool)
 | 0, _, _, _, _, _ => none
 | k + 1, x0, x1, x5, x6, x7 => if x7 = 0 then (if x6 = 0 then ((earshotref03_Seeds.f k x0 x1).bind fun t109 => ((earshotref02_SameLists.f k x5 t109).bind fun t112 => (earshotlaw03_FeatureSeeds.j2 k x0 x1 x5 (!t112)))) else (earshotlaw03_FeatureSeeds.j2 k x0 x1 x5 true)) else (if x6 = x7 then (if (x5.length : Int) = 0 then ((earshotlaw03_known.f k).bind fun t108 => (some t108)) else (some false)) else (some false))
def earshotlaw03_FeatureSeeds.j2 : Nat → List (List Int) → Int → List (List Int) → Bool → Option (Bool)
 | 0, _, _, _, _ => none
 | k + 1, x0, x1, x5, x61 => if x61 = true then (some false) else (earshotlaw03_FeatureSeeds.l0 k x0 x1 x5 0)
def earshotlaw03_FeatureSeeds.l0 : Nat → List (List Int) → Int → List (List Int) → Int → Option (Bool)
 | 0, _, _, _, _ => none
 | k + 1, x0, x1, x5, x8 => if x8 < (x5.length : Int) then (earshotlaw03_FeatureSeeds.l1 k x0 x1 x5 x8 0) else (if (x5.length : Int) = x1 then ((earshotlaw03_known.f k).bind fun t116 => (some t116)) else ((feature_Cost.f k x0 x5).bind fun bt117 => (if bt117.2 = 0 then (if bt117.1 = 0 then ((earshotlaw03_known.f k).bind fun t119 => (some t119)) else (some false)) else (some false))))
def earshotlaw03_FeatureSeeds.l1 : Nat → List (List Int) → Int → List (List Int) → Int → Int → Option (Bool)
 | 0, _, _, _, _, _ => none
 | k + 1, x0, x1, x5, x8, x9 => if x9 < x8 then (if 0 ≤ x8 then (if x8 < (x5.length : Int) then (if 0 ≤ x9 then (if x9 < (x5.length : Int) then ((earshotref02_Same.f k (rd_L2 x5 x8) (rd_L2 x5 x9)).bind fun t115 => (if t115 = true then (some false) else (earshotlaw03_FeatureSeeds.l1 k x0 x1 x5 x8 (wrap64 (x9 + 1))))) else (none)) else (none)) else (none)) else (none)) else (earshotlaw03_FeatureSeeds.l0 k x0 x1 x5 (wrap64 (x8 + 1)))
end
def earshotlaw03_FeatureSeeds.f (k : Nat) (l0 : List (List Int)) (a1 : Int) : Option (Bool) := (earshotlaw03_few.f k l0 30).bind fun t101 => (if t101 = true then ((feature_Seeds.f k l0 a1).bind fun bt103 => ((earshotref03_Wrong.f k l0).bind fun t107 => (if t107 = 0 then (if a1 < 1 then (earshotlaw03_FeatureSeeds.j0 k l0 a1 bt103.1 bt103.2 t107 true) else (if a1 > 256 then (earshotlaw03_FeatureSeeds.j0 k l0 a1 bt103.1 bt103.2 t107 true) else (earshotlaw03_FeatureSeeds.j0 k l0 a1 bt103.1 bt103.2 t107 ((l0.length : Int) == 0)))) else (earshotlaw03_FeatureSeeds.j0 k l0 a1 bt103.1 bt103.2 t107 false)))) else ((earshotlaw03_known.f k).bind fun t102 => (some t102)))
theorem earshotlaw03_FeatureSeeds.mono_l : ∀ k, (∀ y0 y1 y2 y3 y4 y5, LeO (earshotlaw03_FeatureSeeds.j0 k y0 y1 y2 y3 y4 y5) (earshotlaw03_FeatureSeeds.j0 (k + 1) y0 y1 y2 y3 y4 y5)) ∧ (∀ y0 y1 y2 y3 y4, LeO (earshotlaw03_FeatureSeeds.j1 k y0 y1 y2 y3 y4) (earshotlaw03_FeatureSeeds.j1 (k + 1) y0 y1 y2 y3 y4)) ∧ (∀ y0 y1 y2 y3, LeO (earshotlaw03_FeatureSeeds.j2 k y0 y1 y2 y3) (earshotlaw03_FeatureSeeds.j2 (k + 1) y0 y1 y2 y3)) ∧ (∀ y0 y1 y2 y3, LeO (earshotlaw03_FeatureSeeds.l0 k y0 y1 y2 y3) (earshotlaw03_FeatureSeeds.l0 (k + 1) y0 y1 y2 y3)) ∧ (∀ y0 y1 y2 y3 y4, LeO (earshotlaw03_FeatureSeeds.l1 k y0 y1 y2 y3 y4) (earshotlaw03_FeatureSeeds.l1 (k + 1) y0 y1 y2 y3 y4))
 | 0 => ⟨fun _ _ _ _ _ _ r h => by simp [earshotlaw03_FeatureSeeds.j0] at h, fun _ _ _ _ _ r h => by simp [earshotlaw03_FeatureSeeds.j1] at h, fun _ _ _ _ r h => by simp [earshotlaw03_FeatureSeeds.j2] at h, fun _ _ _ _ r h => by simp [earshotlaw03_FeatureSeeds.l0] at h, fun _ _ _ _ _ r h => by simp [earshotlaw03_FeatureSeeds.l1] at h⟩
 | k + 1 => by
  obtain ⟨ih0, ih1, ih2, ih3, ih4⟩ := earshotlaw03_FeatureSeeds.mono_l k
  refine ⟨?_, ?_, ?_, ?_, ?_⟩
  ·intro y0 y1 y2 y3 y4 y5
   unfold earshotlaw03_FeatureSeeds.j0
   repeat' first
   | (with_reducible exact ih0 _ _ _ _ _ _)
   | (with_reducible exact ih1 _ _ _ _ _)
   | (with_reducible exact ih2 _ _ _ _)
   | (with_reducible exact ih3 _ _ _ _)
   | (with_reducible exact ih4 _ _ _ _ _)
   | (with_reducible exact earshotlaw03_few.mono _ _ _)
   | (with_reducible exact earshotlaw03_known.mono _)
   | (with_reducible exact earshotref02_Same.mono _ _ _)
   | (with_reducible exact earshotref02_SameLists.mono _ _ _)
   | (with_reducible exact earshotref03_Seeds.mono _ _ _)
   | (with_reducible exact earshotref03_Wrong.mono _ _)
   | (with_reducible exact feature_Cost.mono _ _ _)
   | (with_reducible exact feature_Seeds.mono _ _ _)
   | (with_reducible exact LeO.refl _)
   | (with_reducible exact LeO.none _)
   | (with_reducible refine LeO.ite ?_ ?_)
   | (with_reducible refine LeO.bind ?_ (fun _ => ?_))
   | exact ih0 _ _ _ _ _ _
   | exact ih1 _ _ _ _ _
   | exact ih2 _ _ _ _
   | exact ih3 _ _ _ _
   | exact ih4 _ _ _ _ _
   | exact earshotlaw03_few.mono _ _ _
   | exact earshotlaw03_known.mono _
   | exact earshotref02_Same.mono _ _ _
   | exact earshotref02_SameLists.mono _ _ _
   | exact earshotref03_Seeds.mono _ _ _
   | exact earshotref03_Wrong.mono _ _
   | exact feature_Cost.mono _ _ _
   | exact feature_Seeds.mono _ _ _
   | exact LeO.none _
   | refine LeO.ite ?_ ?_
   | refine LeO.bind ?_ (fun _ => ?_)
  ·intro y0 y1 y2 y3 y4
   unfold earshotlaw03_FeatureSeeds.j1
   repeat' first
   | (with_reducible exact ih0 _ _ _ _ _ _)
   | (with_reducible exact ih1 _ _ _ _ _)
   | (with_reducible exact ih2 _ _ _ _)
   | (with_reducible exact ih3 _ _ _ _)
   | (with_reducible exact ih4 _ _ _ _ _)
   | (with_reducible exact earshotlaw03_few.mono _ _ _)
   | (with_reducible exact earshotlaw03_known.mono _)
   | (with_reducible exact earshotref02_Same.mono _ _ _)
   | (with_reducible exact earshotref02_SameLists.mono _ _ _)
   | (with_reducible exact earshotref03_Seeds.mono _ _ _)
   | (with_reducible exact earshotref03_Wrong.mono _ _)
   | (with_reducible exact feature_Cost.mono _ _ _)
   | (with_reducible exact feature_Seeds.mono _ _ _)
   | (with_reducible exact LeO.refl _)
   | (with_reducible exact LeO.none _)
   | (with_reducible refine LeO.ite ?_ ?_)
   | (with_reducible refine LeO.bind ?_ (fun _ => ?_))
   | exact ih0 _ _ _ _ _ _
   | exact ih1 _ _ _ _ _
   | exact ih2 _ _ _ _
   | exact ih3 _ _ _ _
   | exact ih4 _ _ _ _ _
   | exact earshotlaw03_few.mono _ _ _
   | exact earshotlaw03_known.mono _
   | exact earshotref02_Same.mono _ _ _
   | exact earshotref02_SameLists.mono _ _ _
   | exact earshotref03_Seeds.mono _ _ _
   | exact earshotref03_Wrong.mono _ _
   | exact feature_Cost.mono _ _ _
   | exact feature_Seeds.mono _ _ _
   | exact LeO.none _
   | refine LeO.ite ?_ ?_
   | refine LeO.bind ?_ (fun _ => ?_)
  ·intro y0 y1 y2 y3
   unfold earshotlaw03_FeatureSeeds.j2
   repeat' first
   | (with_reducible exact ih0 _ _ _ _ _ _)
   | (with_reducible exact ih1 _ _ _ _ _)
   | (with_reducible exact ih2 _ _ _ _)
   | (with_reducible exact ih3 _ _ _ _)
   | (with_reducible exact ih4 _ _ _ _ _)
   | (with_reducible exact earshotlaw03_few.mono _ _ _)
   | (with_reducible exact earshotlaw03_known.mono _)
   | (with_reducible exact earshotref02_Same.mono _ _ _)
   | (with_reducible exact earshotref02_SameLists.mono _ _ _)
   | (with_reducible exact earshotref03_Seeds.mono _ _ _)
   | (with_reducible exact earshotref03_Wrong.mono _ _)
   | (with_reducible exact feature_Cost.mono _ _ _)
   | (with_reducible exact feature_Seeds.mono _ _ _)
   | (with_reducible exact LeO.refl _)
   | (with_reducible exact LeO.none _)
   | (with_reducible refine LeO.ite ?_ ?_)
   | (with_reducible refine LeO.bind ?_ (fun _ => ?_))
   | exact ih0 _ _ _ _ _ _
   | exact ih1 _ _ _ _ _
   | exact ih2 _ _ _ _
   | exact ih3 _ _ _ _
   | exact ih4 _ _ _ _ _
   | exact earshotlaw03_few.mono _ _ _
   | exact earshotlaw03_known.mono _
   | exact earshotref02_Same.mono _ _ _
   | exact earshotref02_SameLists.mono _ _ _
   | exact earshotref03_Seeds.mono _ _ _
   | exact earshotref03_Wrong.mono _ _
   | exact feature_Cost.mono _ _ _
   | exact feature_Seeds.mono _ _ _
   | exact LeO.none _
   | refine LeO.ite ?_ ?_
   | refine LeO.bind ?_ (fun _ => ?_)
  ·intro y0 y1 y2 y3
   unfold earshotlaw03_FeatureSeeds.l0
   repeat' first
   | (with_reducible exact ih0 _ _ _ _ _ _)
   | (with_reducible exact ih1 _ _ _ _ _)
   | (with_reducible exact ih2 _ _ _ _)
   | (with_reducible exact ih3 _ _ _ _)
   | (with_reducible exact ih4 _ _ _ _ _)
   | (with_reducible exact earshotlaw03_few.mono _ _ _)
   | (with_reducible exact earshotlaw03_known.mono _)
   | (with_reducible exact earshotref02_Same.mono _ _ _)
   | (with_reducible exact earshotref02_SameLists.mono _ _ _)
   | (with_reducible exact earshotref03_Seeds.mono _ _ _)
   | (with_reducible exact earshotref03_Wrong.mono _ _)
   | (with_reducible exact feature_Cost.mono _ _ _)
   | (with_reducible exact feature_Seeds.mono _ _ _)
   | (with_reducible exact LeO.refl _)
   | (with_reducible exact LeO.none _)
   | (with_reducible refine LeO.ite ?_ ?_)
   | (with_reducible refine LeO.bind ?_ (fun _ => ?_))
   | exact ih0 _ _ _ _ _ _
   | exact ih1 _ _ _ _ _
   | exact ih2 _ _ _ _
   | exact ih3 _ _ _ _
   | exact ih4 _ _ _ _ _
   | exact earshotlaw03_few.mono _ _ _
   | exact earshotlaw03_known.mono _
   | exact earshotref02_Same.mono _ _ _
   | exact earshotref02_SameLists.mono _ _ _
   | exact earshotref03_Seeds.mono _ _ _
   | exact earshotref03_Wrong.mono _ _
   | exact feature_Cost.mono _ _ _
   | exact feature_Seeds.mono _ _ _
   | exact LeO.none _
   | refine LeO.ite ?_ ?_
   | refine LeO.bind ?_ (fun _ => ?_)
  ·intro y0 y1 y2 y3 y4
   unfold earshotlaw03_FeatureSeeds.l1
   repeat' first
   | (with_reducible exact ih0 _ _ _ _ _ _)
   | (with_reducible exact ih1 _ _ _ _ _)
   | (with_reducible exact ih2 _ _ _ _)
   | (with_reducible exact ih3 _ _ _ _)
   | (with_reducible exact ih4 _ _ _ _ _)
   | (with_reducible exact earshotlaw03_few.mono _ _ _)
   | (with_reducible exact earshotlaw03_known.mono _)
   | (with_reducible exact earshotref02_Same.mono _ _ _)
   | (with_reducible exact earshotref02_SameLists.mono _ _ _)
   | (with_reducible exact earshotref03_Seeds.mono _ _ _)
   | (with_reducible exact earshotref03_Wrong.mono _ _)
   | (with_reducible exact feature_Cost.mono _ _ _)
   | (with_reducible exact feature_Seeds.mono _ _ _)
   | (with_reducible exact LeO.refl _)
   | (with_reducible exact LeO.none _)
   | (with_reducible refine LeO.ite ?_ ?_)
   | (with_reducible refine LeO.bind ?_ (fun _ => ?_))
   | exact ih0 _ _ _ _ _ _
   | exact ih1 _ _ _ _ _
   | exact ih2 _ _ _ _
   | exact ih3 _ _ _ _
   | exact ih4 _ _ _ _ _
   | exact earshotlaw03_few.mono _ _ _
   | exact earshotlaw03_known.mono _
   | exact earshotref02_Same.mono _ _ _
   | exact earshotref02_SameLists.mono _ _ _
   | exact earshotref03_Seeds.mono _ _ _
   | exact earshotref03_Wrong.mono _ _
   | exact feature_Cost.mono _ _ _
   | exact feature_Seeds.mono _ _ _
   | exact LeO.none _
   | refine LeO.ite ?_ ?_
   | refine LeO.bind ?_ (fun _ => ?_)
theorem earshotlaw03_FeatureSeeds.mono : ∀ a0 a1 k, LeO (earshotlaw03_FeatureSeeds.f k a0 a1) (earshotlaw03_FeatureSeeds.f (k + 1) a0 a1) := by
 intro a0 a1 k
 obtain ⟨ih0, ih1, ih2, ih3, ih4⟩ := earshotlaw03_FeatureSeeds.mono_l k
 unfold earshotlaw03_FeatureSeeds.f
 repeat' first
   | (with_reducible exact ih0 _ _ _ _ _ _)
   | (with_reducible exact ih1 _ _ _ _ _)
   | (with_reducible exact ih2 _ _ _ _)
   | (with_reducible exact ih3 _ _ _ _)
   | (with_reducible exact ih4 _ _ _ _ _)
   | (with_reducible exact earshotlaw03_few.mono _ _ _)
   | (with_reducible exact earshotlaw03_known.mono _)
   | (with_reducible exact earshotref02_Same.mono _ _ _)
   | (with_reducible exact earshotref02_SameLists.mono _ _ _)
   | (with_reducible exact earshotref03_Seeds.mono _ _ _)
   | (with_reducible exact earshotref03_Wrong.mono _ _)
   | (with_reducible exact feature_Cost.mono _ _ _)
   | (with_reducible exact feature_Seeds.mono _ _ _)
   | (with_reducible exact LeO.refl _)
   | (with_reducible exact LeO.none _)
   | (with_reducible refine LeO.ite ?_ ?_)
   | (with_reducible refine LeO.bind ?_ (fun _ => ?_))
   | exact ih0 _ _ _ _ _ _
   | exact ih1 _ _ _ _ _
   | exact ih2 _ _ _ _
   | exact ih3 _ _ _ _
   | exact ih4 _ _ _ _ _
   | exact earshotlaw03_few.mono _ _ _
   | exact earshotlaw03_known.mono _
   | exact earshotref02_Same.mono _ _ _
   | exact earshotref02_SameLists.mono _ _ _
   | exact earshotref03_Seeds.mono _ _ _
   | exact earshotref03_Wrong.mono _ _
   | exact feature_Cost.mono _ _ _
   | exact feature_Seeds.mono _ _ _
   | exact LeO.none _
   | refine LeO.ite ?_ ?_
   | refine LeO.bind ?_ (fun _ => ?_)
set_option maxHeartbeats 8000000 in
set_option maxRecDepth 100000 in
theorem earshotlaw03_FeatureSeeds.calls (k : Nat) (A0 : Option Addr) (c0 : Nat) (l0 : List (List Int)) (a1 : Int) (r : Bool) (w : World) (ht : Kd.C (Kd.int .i64) w (some ⟨0, 0, none⟩) 65 tabL) (hr0 : Kd.C (Kd.slice 3 (Kd.int .i64)) w A0 l0.length l0) (hc0 : l0.length ≤ c0) (h : earshotlaw03_FeatureSeeds.f k l0 a1 = some r) :
  Calls Tryd.prog 18 #[.slice A0 l0.length c0, .int .i64 a1] w fun e w' => e = .returned (.bool r) ∧ Below w.heap.size w w' := by
 have HRT := Aside0.mk ht
 clear ht
 have HR0 := Aside0.mk hr0
 have HC0 := Aside0.mk hc0
 clear hr0 hc0
 have HB := Aside0.mk (Below.refl w.heap.size w)
 have H : ((earshotlaw03_few.f k l0 30).bind fun t101 => (if t101 = true then ((feature_Seeds.f k l0 a1).bind fun bt103 => ((earshotref03_Wrong.f k l0).bind fun t107 => (if t107 = 0 then (if a1 < 1 then (earshotlaw03_FeatureSeeds.j0 k l0 a1 bt103.1 bt103.2 t107 true) else (if a1 > 256 then (earshotlaw03_FeatureSeeds.j0 k l0 a1 bt103.1 bt103.2 t107 true) else (earshotlaw03_FeatureSeeds.j0 k l0 a1 bt103.1 bt103.2 t107 ((l0.length : Int) == 0)))) else (earshotlaw03_FeatureSeeds.j0 k l0 a1 bt103.1 bt103.2 t107 false)))) else ((earshotlaw03_known.f k).bind fun t102 => (some t102)))) = some r := h
 clear h
 replace H := Option.bind_eq_some_iff.mp H
 obtain ⟨t101, A30, H⟩ := H
 try dsimp only at H
 have A3 := Aside0.mk A30
 clear A30
 by_cases c4 : t101 = true
 ·subst c4
  have H1 : ((feature_Seeds.f k l0 a1).bind fun bt103 => ((earshotref03_Wrong.f k l0).bind fun t107 => (if t107 = 0 then (if a1 < 1 then (earshotlaw03_FeatureSeeds.j0 k l0 a1 bt103.1 bt103.2 t107 true) else (if a1 > 256 then (earshotlaw03_FeatureSeeds.j0 k l0 a1 bt103.1 bt103.2 t107 true) else (earshotlaw03_FeatureSeeds.j0 k l0 a1 bt103.1 bt103.2 t107 ((l0.length : Int) == 0)))) else (earshotlaw03_FeatureSeeds.j0 k l0 a1 bt103.1 bt103.2 t107 false)))) = some r := by rw [if_pos rfl] at H; exact H
  clear H
  have H := H1
  clear H1
  replace H := Option.bind_eq_some_iff.mp H
  obtain ⟨⟨t103, t106⟩, A50, H⟩ := H
  try dsimp only at H
  have A5 := Aside0.mk A50
  clear A50
  replace H := Option.bind_eq_some_iff.mp H
  obtain ⟨t107, A60, H⟩ := H
  try dsimp only at H
  have A6 := Aside0.mk A60
  clear A60
  have HC7 := Aside0.mk H
  clear H
  go_enter Tryd.func18, Tryd.ntmps18
  go_upto_region 5 with (first | (go_at_call 55; (with_reducible refine (earshotlaw03_few.calls k _ _ l0 30 true _ ?side1 ?side2 A3.out).mono ?_); (case side1 => exact tC HR0.out); (case side2 => exact HC0.out); rintro e w' ⟨rfl, ⟨nd, rfl⟩⟩; (try first | exact ⟨rfl, _, World.drewN_drewN _ _ _⟩ | exact ⟨rfl, _, Eq.trans (World.drewN_drewN _ _ _) (congrArg (World.drewN _) (Nat.add_assoc _ _ _))⟩)) | (go_at_call 73; (with_reducible refine (feature_Seeds.calls k _ _ l0 a1 t103 t106 _ ?side1 ?side2 A5.out).mono ?_); (case side1 => exact tC HR0.out); (case side2 => exact HC0.out); rintro e w8 ⟨v104, rfl, ho0, hb⟩; have n0_ := Aside0.mk (Kd.N_lower (Kd.N_mono (ok' := fun k_ => True) ho0 (fun k_ hk_ => trivial)) (below_size tB)); have n1_ := Aside0.mk (below_step tB hb); clear HB; have HO105 := n0_; have HB := n1_; clear n0_ n1_; (try clear hb); (try clear hb2); (try clear hk); (try clear hi); (try clear ho0)) | (go_at_call 58; (with_reducible refine (earshotref03_Wrong.calls k _ _ l0 t107 _ ?side1 ?side2 A6.out).mono ?_); (case side1 => exact tC (Kd.C_below HR0.out HB.out)); (case side2 => exact HC0.out); rintro e w9 ⟨rfl, hb⟩; have n0_ := Aside0.mk (Kd.N_below (tN HO105.out) hb); have n1_ := Aside0.mk (below_step tB hb); clear HO105; clear HB; have HO105 := n0_; have HB := n1_; clear n0_ n1_; (try clear hb); (try clear hb2); (try clear hk); (try clear hi)))
  repeat (go_quiet (first | (go_at_call 55; (with_reducible refine (earshotlaw03_few.calls k _ _ l0 30 true _ ?side1 ?side2 A3.out).mono ?_); (case side1 => exact tC HR0.out); (case side2 => exact HC0.out); rintro e w' ⟨rfl, ⟨nd, rfl⟩⟩; (try first | exact ⟨rfl, _, World.drewN_drewN _ _ _⟩ | exact ⟨rfl, _, Eq.trans (World.drewN_drewN _ _ _) (congrArg (World.drewN _) (Nat.add_assoc _ _ _))⟩)) | (go_at_call 73; (with_reducible refine (feature_Seeds.calls k _ _ l0 a1 t103 t106 _ ?side1 ?side2 A5.out).mono ?_); (case side1 => exact tC HR0.out); (case side2 => exact HC0.out); rintro e w8 ⟨v104, rfl, ho0, hb⟩; have n0_ := Aside0.mk (Kd.N_lower (Kd.N_mono (ok' := fun k_ => True) ho0 (fun k_ hk_ => trivial)) (below_size tB)); have n1_ := Aside0.mk (below_step tB hb); clear HB; have HO105 := n0_; have HB := n1_; clear n0_ n1_; (try clear hb); (try clear hb2); (try clear hk); (try clear hi); (try clear ho0)) | (go_at_call 58; (with_reducible refine (earshotref03_Wrong.calls k _ _ l0 t107 _ ?side1 ?side2 A6.out).mono ?_); (case side1 => exact tC (Kd.C_below HR0.out HB.out)); (case side2 => exact HC0.out); rintro e w9 ⟨rfl, hb⟩; have n0_ := Aside0.mk (Kd.N_below (tN HO105.out) hb); have n1_ := Aside0.mk (below_step tB hb); clear HO105; clear HB; have HO105 := n0_; have HB := n1_; clear n0_ n1_; (try clear hb); (try clear hb2); (try clear hk); (try clear hi))); go_upto_region 5 with (first | (go_at_call 55; (with_reducible refine (earshotlaw03_few.calls k _ _ l0 30 true _ ?side1 ?side2 A3.out).mono ?_); (case side1 => exact tC HR0.out); (case side2 => exact HC0.out); rintro e w' ⟨rfl, ⟨nd, rfl⟩⟩; (try first | exact ⟨rfl, _, World.drewN_drewN _ _ _⟩ | exact ⟨rfl, _, Eq.trans (World.drewN_drewN _ _ _) (congrArg (World.drewN _) (Nat.add_assoc _ _ _))⟩)) | (go_at_call 73; (with_reducible refine (feature_Seeds.calls k _ _ l0 a1 t103 t106 _ ?side1 ?side2 A5.out).mono ?_); (case side1 => exact tC HR0.out); (case side2 => exact HC0.out); rintro e w8 ⟨v104, rfl, ho0, hb⟩; have n0_ := Aside0.mk (Kd.N_lower (Kd.N_mono (ok' := fun k_ => True) ho0 (fun k_ hk_ => trivial)) (below_size tB)); have n1_ := Aside0.mk (below_step tB hb); clear HB; have HO105 := n0_; have HB := n1_; clear n0_ n1_; (try clear hb); (try clear hb2); (try clear hk); (try clear hi); (try clear ho0)) | (go_at_call 58; (with_reducible refine (earshotref03_Wrong.calls k _ _ l0 t107 _ ?side1 ?side2 A6.out).mono ?_); (case side1 => exact tC (Kd.C_below HR0.out HB.out)); (case side2 => exact HC0.out); rintro e w9 ⟨rfl, hb⟩; have n0_ := Aside0.mk (Kd.N_below (tN HO105.out) hb); have n1_ := Aside0.mk (below_step tB hb); clear HO105; clear HB; have HO105 := n0_; have HB := n1_; clear n0_ n1_; (try clear hb); (try clear hb2); (try clear hk); (try clear hi))))
  (try simp only [Act.put, List.setIfInBounds_toArray, List.set_cons_zero, List.set_cons_succ])
  go_cut [38] (fun v38 wc => ∃ (kq : Nat) (x38_6 : Bool), v38 = .bool x38_6 ∧ Aside0 (earshotlaw03_FeatureSeeds.j0 kq l0 a1 t103 t106 t107 x38_6 = some r) ∧ Aside0 (kq ≤ k) ∧ Aside0 (Kd.N (Kd.slice 3 (Kd.int .i64)) 22 wc w.heap.size (fun _ => True) v104 t103) ∧ Aside0 (Below w.heap.size w wc))
  case first =>
   have H := HC7.out
   clear HC7
   by_cases c10 : t107 = 0
   ·rw [if_pos c10] at H
    have c10b0 : (t107 == 0) = true := beq_iff_eq.mpr c10
    have c10b1 : (t107 != 0) = false := bne_eq_false_iff_eq.mpr c10
    clear c10
    (first | rw [c10b0] | (simp only [i64_w, i32_w]; rw [c10b0]) | skip)
    by_cases c11 : a1 < 1
    ·rw [if_pos c11] at H
     have c11b0 := decide_eq_true c11
     clear c11
     have H' := Aside0.mk H
     clear H
     go_wp2
     repeat (go_quiet (fail); try go_wp2)
     go_meet
     case rel => exact ⟨_, (true), (by first | rfl | (simp; done) | (simp only [i64_w]; done) | (simp [*]; done)), H', ⟨by first | omega | exact Nat.le_refl _⟩, ⟨tN HO105.out⟩, ⟨tB⟩⟩
    ·rw [if_neg c11] at H
     have c11b0 := decide_eq_false c11
     clear c11
     by_cases c12 : a1 > 256
     ·rw [if_pos c12] at H
      have c12b0 : decide (256 < a1) = true := decide_eq_true c12
      clear c12
      have H' := Aside0.mk H
      clear H
      go_wp2
      repeat (go_quiet (fail); try go_wp2)
      go_meet
      case rel => exact ⟨_, (true), (by first | rfl | (simp; done) | (simp only [i64_w]; done) | (simp [*]; done)), H', ⟨by first | omega | exact Nat.le_refl _⟩, ⟨tN HO105.out⟩, ⟨tB⟩⟩
     ·rw [if_neg c12] at H
      have c12b0 : decide (256 < a1) = false := decide_eq_false c12
      clear c12
      have H' := Aside0.mk H
      clear H
      go_wp2
      repeat (go_quiet (fail); try go_wp2)
      go_meet
      case rel => exact ⟨_, (((l0.length : Int) == 0)), (by first | rfl | (simp; done) | (simp only [i64_w]; done) | (simp [*]; done)), H', ⟨by first | omega | exact Nat.le_refl _⟩, ⟨tN HO105.out⟩, ⟨tB⟩⟩
   ·rw [if_neg c10] at H
    have c10b0 : (t107 == 0) = false := beq_eq_false_iff_ne.mpr c10
    have c10b1 : (t107 != 0) = true := bne_iff_ne.mpr c10
    (first | rw [c10b0] | (simp only [i64_w, i32_w]; rw [c10b0]) | skip)
    have H' := Aside0.mk H
    clear H
    go_wp2
    repeat (go_quiet (fail); try go_wp2)
    go_meet
    case rel => exact ⟨_, (false), (by first | rfl | (simp; done) | (simp only [i64_w]; done) | (simp [*]; done)), H', ⟨by first | omega | exact Nat.le_refl _⟩, ⟨tN HO105.out⟩, ⟨tB⟩⟩
  case rest =>
   clear HC7
   try clear c1
   try clear p2
   try clear c4
   try clear c10
   try clear c10b0
   try clear c10b1
   try clear c11
   try clear c11b0
   try clear c12
   try clear c12b0
   obtain ⟨kq, x38_6, rfl, HA, HJ6, HO_5, HB⟩ := hcut
   cases kq with
   | zero => exact absurd HA.out (by simp [earshotlaw03_FeatureSeeds.j0])
   | succ kj6 =>
    have H := HA.out
    clear HA
    simp only [earshotlaw03_FeatureSeeds.j0] at H
    have HC13 := Aside0.mk H
    clear H
    go_upto_if 38 with (fail)
    repeat (go_quiet (fail); go_upto_if 38 with (fail))
    go_cut [7] (fun v7 wc => ∃ (kq : Nat) (x7_12 : Int), v7 = .int .i64 x7_12 ∧ Aside0 (earshotlaw03_FeatureSeeds.j1 kq l0 a1 t103 t106 x7_12 = some r) ∧ Aside0 (kq ≤ kj6) ∧ Aside0 (Kd.N (Kd.slice 3 (Kd.int .i64)) 22 wc w.heap.size (fun _ => True) v104 t103) ∧ Aside0 (Below w.heap.size w wc))
    case first =>
     have H := HC13.out
     clear HC13
     by_cases c14 : x38_6 = true
     ·subst c14
      have H1 : (earshotlaw03_FeatureSeeds.j1 kj6 l0 a1 t103 t106 2) = some r := by rw [if_pos rfl] at H; exact H
      clear H
      have H := H1
      clear H1
      have H' := Aside0.mk H
      clear H
      go_wp2
      repeat (go_quiet (fail); try go_wp2)
      go_meet
      case rel => exact ⟨_, (2), (by first | rfl | (simp; done) | (simp only [i64_w]; done) | (simp [*]; done)), H', ⟨by have := HJ6.out; first | omega | exact Nat.le_refl _⟩, ⟨tN HO_5.out⟩, ⟨tB⟩⟩
     ·replace c14 := Bool.eq_false_iff.mpr c14
      subst c14
      have H1 : (earshotlaw03_FeatureSeeds.j1 kj6 l0 a1 t103 t106 t107) = some r := by rw [if_neg (show ¬ (false = true) by decide)] at H; exact H
      clear H
      have H := H1
      clear H1
      have H' := Aside0.mk H
      clear H
      go_wp2
      repeat (go_quiet (fail); try go_wp2)
      go_meet
      case rel => exact ⟨_, (t107), (by first | rfl | (simp; done) | (simp only [i64_w]; done) | (simp [*]; done)), H', ⟨by have := HJ6.out; first | omega | exact Nat.le_refl _⟩, ⟨tN HO_5.out⟩, ⟨tB⟩⟩
    case rest =>
     clear HC13
     try clear c1
     try clear p2
     try clear c4
     try clear c10
     try clear c10b0
     try clear c10b1
     try clear c11
     try clear c11b0
     try clear c12
     try clear c12b0
     try clear c14
     try clear p2
     obtain ⟨kq, x7_12, rfl, HA, HJ12, HO_5, HB⟩ := hcut
     cases kq with
     | zero => exact absurd HA.out (by simp [earshotlaw03_FeatureSeeds.j1])
     | succ kj12 =>
      have H := HA.out
      clear HA
      simp only [earshotlaw03_FeatureSeeds.j1] at H
      by_cases c15 : x7_12 = 0
      ·rw [if_pos c15] at H
       have c15b0 : (x7_12 == 0) = true := beq_iff_eq.mpr c15
       have c15b1 : (x7_12 != 0) = false := bne_eq_false_iff_eq.mpr c15
       clear c15
       have HC16 := Aside0.mk H
       clear H
       go_upto_region 9 with (fail)
       repeat (go_quiet (fail); go_upto_region 9 with (fail))
       go_cut [61] (fun v61 wc => ∃ (kq : Nat) (x61_15 : Bool), v61 = .bool x61_15 ∧ Aside0 (earshotlaw03_FeatureSeeds.j2 kq l0 a1 t103 x61_15 = some r) ∧ Aside0 (kq ≤ kj12) ∧ Aside0 (Kd.N (Kd.slice 3 (Kd.int .i64)) 22 wc w.heap.size (fun _ => True) v104 t103) ∧ Aside0 (Below w.heap.size w wc))
       case first =>
        have H := HC16.out
        clear HC16
        by_cases c17 : t106 = 0
        ·rw [if_pos c17] at H
         have c17b0 : (t106 == 0) = true := beq_iff_eq.mpr c17
         have c17b1 : (t106 != 0) = false := bne_eq_false_iff_eq.mpr c17
         clear c17
         (first | rw [c17b0] | (simp only [i64_w, i32_w]; rw [c17b0]) | skip)
         replace H := Option.bind_eq_some_iff.mp H
         obtain ⟨t109, A180, H⟩ := H
         try dsimp only at H
         have A18 := Aside0.mk A180
         clear A180
         replace H := Option.bind_eq_some_iff.mp H
         obtain ⟨t112, A190, H⟩ := H
         try dsimp only at H
         have A19 := Aside0.mk A190
         clear A190
         have H' := Aside0.mk H
         clear H
         go_wp2_with (first | (go_at_call 74; (with_reducible refine (earshotref03_Seeds.calls kj12 _ _ l0 a1 t109 _ ?side1 ?side2 A18.out).mono ?_); (case side1 => exact tC (Kd.C_below HR0.out HB.out)); (case side2 => exact HC0.out); rintro e w20 ⟨v110, rfl, ho0, hb⟩; have n0_ := Aside0.mk (Kd.N_elder' (tN HO_5.out) (Kd.N_base ho0) hb); have n1_ := Aside0.mk (Kd.N_lower (Kd.N_mono (ok' := fun k_ => some k_ ≠ (v104 : Value).ownBlock) ho0 (fun k_ hk_ => (Kd.fresh' (Kd.N_lt (tN HO_5.out)) k_ hk_))) (below_size tB)); have n2_ := Aside0.mk (below_step tB hb); clear HO_5; clear HB; have HO_5 := n0_; have HO111 := n1_; have HB := n2_; clear n0_ n1_ n2_; (try clear hb); (try clear hb2); (try clear hk); (try clear hi); (try clear ho0); obtain ⟨Ao21, co21, eo21⟩ := Kd.N_slice HO_5.out; subst eo21; obtain ⟨Ao22, co22, eo22⟩ := Kd.N_slice HO111.out; subst eo22) | (go_at_call 46; (with_reducible refine (earshotref02_SameLists.calls kj12 _ _ t103 _ _ t109 t112 _ ?side1 ?side2 ?side3 ?side4 A19.out).mono ?_); (case side1 => exact tC (Kd.N_reads' HO_5.out).2.2); (case side2 => exact (Kd.N_reads' HO_5.out).2.1); (case side3 => exact tC (Kd.N_reads' HO111.out).2.2); (case side4 => exact (Kd.N_reads' HO111.out).2.1); rintro e w' ⟨rfl, ⟨nd, rfl⟩⟩; (try first | exact ⟨rfl, _, World.drewN_drewN _ _ _⟩ | exact ⟨rfl, _, Eq.trans (World.drewN_drewN _ _ _) (congrArg (World.drewN _) (Nat.add_assoc _ _ _))⟩)))
         repeat (go_quiet (first | (go_at_call 74; (with_reducible refine (earshotref03_Seeds.calls kj12 _ _ l0 a1 t109 _ ?side1 ?side2 A18.out).mono ?_); (case side1 => exact tC (Kd.C_below HR0.out HB.out)); (case side2 => exact HC0.out); rintro e w20 ⟨v110, rfl, ho0, hb⟩; have n0_ := Aside0.mk (Kd.N_elder' (tN HO_5.out) (Kd.N_base ho0) hb); have n1_ := Aside0.mk (Kd.N_lower (Kd.N_mono (ok' := fun k_ => some k_ ≠ (v104 : Value).ownBlock) ho0 (fun k_ hk_ => (Kd.fresh' (Kd.N_lt (tN HO_5.out)) k_ hk_))) (below_size tB)); have n2_ := Aside0.mk (below_step tB hb); clear HO_5; clear HB; have HO_5 := n0_; have HO111 := n1_; have HB := n2_; clear n0_ n1_ n2_; (try clear hb); (try clear hb2); (try clear hk); (try clear hi); (try clear ho0); obtain ⟨Ao21, co21, eo21⟩ := Kd.N_slice HO_5.out; subst eo21; obtain ⟨Ao22, co22, eo22⟩ := Kd.N_slice HO111.out; subst eo22) | (go_at_call 46; (with_reducible refine (earshotref02_SameLists.calls kj12 _ _ t103 _ _ t109 t112 _ ?side1 ?side2 ?side3 ?side4 A19.out).mono ?_); (case side1 => exact tC (Kd.N_reads' HO_5.out).2.2); (case side2 => exact (Kd.N_reads' HO_5.out).2.1); (case side3 => exact tC (Kd.N_reads' HO111.out).2.2); (case side4 => exact (Kd.N_reads' HO111.out).2.1); rintro e w' ⟨rfl, ⟨nd, rfl⟩⟩; (try first | exact ⟨rfl, _, World.drewN_drewN _ _ _⟩ | exact ⟨rfl, _, Eq.trans (World.drewN_drewN _ _ _) (congrArg (World.drewN _) (Nat.add_assoc _ _ _))⟩))); try go_wp2_with (first | (go_at_call 74; (with_reducible refine (earshotref03_Seeds.calls kj12 _ _ l0 a1 t109 _ ?side1 ?side2 A18.out).mono ?_); (case side1 => exact tC (Kd.C_below HR0.out HB.out)); (case side2 => exact HC0.out); rintro e w20 ⟨v110, rfl, ho0, hb⟩; have n0_ := Aside0.mk (Kd.N_elder' (tN HO_5.out) (Kd.N_base ho0) hb); have n1_ := Aside0.mk (Kd.N_lower (Kd.N_mono (ok' := fun k_ => some k_ ≠ (v104 : Value).ownBlock) ho0 (fun k_ hk_ => (Kd.fresh' (Kd.N_lt (tN HO_5.out)) k_ hk_))) (below_size tB)); have n2_ := Aside0.mk (below_step tB hb); clear HO_5; clear HB; have HO_5 := n0_; have HO111 := n1_; have HB := n2_; clear n0_ n1_ n2_; (try clear hb); (try clear hb2); (try clear hk); (try clear hi); (try clear ho0); obtain ⟨Ao21, co21, eo21⟩ := Kd.N_slice HO_5.out; subst eo21; obtain ⟨Ao22, co22, eo22⟩ := Kd.N_slice HO111.out; subst eo22) | (go_at_call 46; (with_reducible refine (earshotref02_SameLists.calls kj12 _ _ t103 _ _ t109 t112 _ ?side1 ?side2 ?side3 ?side4 A19.out).mono ?_); (case side1 => exact tC (Kd.N_reads' HO_5.out).2.2); (case side2 => exact (Kd.N_reads' HO_5.out).2.1); (case side3 => exact tC (Kd.N_reads' HO111.out).2.2); (case side4 => exact (Kd.N_reads' HO111.out).2.1); rintro e w' ⟨rfl, ⟨nd, rfl⟩⟩; (try first | exact ⟨rfl, _, World.drewN_drewN _ _ _⟩ | exact ⟨rfl, _, Eq.trans (World.drewN_drewN _ _ _) (congrArg (World.drewN _) (Nat.add_assoc _ _ _))⟩))))
         go_meet
         case rel => exact ⟨_, (!t112), (by first | rfl | (simp; done) | (simp only [i64_w]; done) | (simp [*]; done)), H', ⟨by have := HJ6.out; have := HJ12.out; first | omega | exact Nat.le_refl _⟩, ⟨by (with_reducible repeat (first | apply Kd.N_alloc | apply Kd.N_drewN | apply Kd.N_drew)); exact Kd.N_mono HO_5.out (fun _ hk => trivial)⟩, ⟨tB⟩⟩
        ·rw [if_neg c17] at H
         have c17b0 : (t106 == 0) = false := beq_eq_false_iff_ne.mpr c17
         have c17b1 : (t106 != 0) = true := bne_iff_ne.mpr c17
         (first | rw [c17b0] | (simp only [i64_w, i32_w]; rw [c17b0]) | skip)
         have H' := Aside0.mk H
         clear H
         go_wp2
         repeat (go_quiet (fail); try go_wp2)
         go_meet
         case rel => exact ⟨_, (true), (by first | rfl | (simp; done) | (simp only [i64_w]; done) | (simp [*]; done)), H', ⟨by have := HJ6.out; have := HJ12.out; first | omega | exact Nat.le_refl _⟩, ⟨tN HO_5.out⟩, ⟨tB⟩⟩
       case rest =>
        clear HC16
        try clear c1
        try clear p2
        try clear c4
        try clear c10
        try clear c10b0
        try clear c10b1
        try clear c11
        try clear c11b0
        try clear c12
        try clear c12b0
        try clear c14
        try clear c15
        try clear c15b0
        try clear c15b1
        try clear c17
        try clear c17b0
        try clear c17b1
        try clear c18
        try clear p2
        obtain ⟨kq, x61_15, rfl, HA, HJ15, HO_5, HB⟩ := hcut
        cases kq with
        | zero => exact absurd HA.out (by simp [earshotlaw03_FeatureSeeds.j2])
        | succ kj15 =>
         have H := HA.out
         clear HA
         simp only [earshotlaw03_FeatureSeeds.j2] at H
         by_cases c23 : x61_15 = true
         ·subst c23
          have H1 : (some false) = some r := by rw [if_pos rfl] at H; exact H
          clear H
          have H := H1
          clear H1
          obtain rfl := Option.some.inj H
          go_wp2
          repeat (go_quiet (fail); try go_wp2)
          go_ret
          exact ⟨by first | rfl | (simp [errW_none, errW_some] <;> rfl) | (simp [*, errW_none, errW_some] <;> rfl), tB⟩
         ·replace c23 := Bool.eq_false_iff.mpr c23
          subst c23
          have H1 : (earshotlaw03_FeatureSeeds.l0 kj15 l0 a1 t103 0) = some r := by rw [if_neg (show ¬ (false = true) by decide)] at H; exact H
          clear H
          have H := H1
          clear H1
          have H' := Aside0.mk H
          clear H
          go_wp2
          repeat (go_quiet (fail); try go_wp2)
          go_loopg [8] kj15 (fun kq v8 w' => ∃ (x8_4 : Int), v8 = .int .i64 x8_4 ∧ Aside0 (earshotlaw03_FeatureSeeds.l0 kq l0 a1 t103 x8_4 = some r) ∧ Aside0 (kq ≤ kj15) ∧ Aside0 (Kd.N (Kd.slice 3 (Kd.int .i64)) 22 w' w.heap.size (fun _ => True) v104 t103) ∧ Aside0 (Below w.heap.size w w'))
          case atStart => exact ⟨(0), (by first | rfl | (simp; done) | (simp only [i64_w]; done) | (simp [*]; done)), H', ⟨Nat.le_refl _⟩, ⟨tN HO_5.out⟩, ⟨tB⟩⟩
          case round =>
           clear H'
           try clear c1
           try clear c2
           try clear p2
           try clear c4
           try clear c10
           try clear c10b0
           try clear c10b1
           try clear c11
           try clear c11b0
           try clear c12
           try clear c12b0
           try clear c14
           try clear c15
           try clear c15b0
           try clear c15b1
           try clear c17
           try clear c17b0
           try clear c17b1
           try clear c18
           try clear c23
           try clear p2
           obtain ⟨x8_4, rfl, HA, HK4, HO_5, HB⟩ := hrel
           cases gk with
           | zero => exact absurd HA.out (by simp [earshotlaw03_FeatureSeeds.l0])
           | succ k4 =>
            have H := HA.out
            clear HA
            simp only [earshotlaw03_FeatureSeeds.l0] at H
            by_cases c24 : x8_4 < (t103.length : Int)
            ·rw [if_pos c24] at H
             have c24b0 := decide_eq_true c24
             clear c24
             have H' := Aside0.mk H
             clear H
             obtain ⟨Ao25, co25, eo25⟩ := Kd.N_slice HO_5.out
             subst eo25
             go_wp2
             repeat (go_quiet (fail); try go_wp2)
             go_loopg [9] k4 (fun kq v9 w' => ∃ (x9_5 : Int), v9 = .int .i64 x9_5 ∧ Aside0 (earshotlaw03_FeatureSeeds.l1 kq l0 a1 t103 x8_4 x9_5 = some r) ∧ Aside0 (kq ≤ k4) ∧ Aside0 (Kd.N (Kd.slice 3 (Kd.int .i64)) 22 w' w.heap.size (fun _ => True) (.slice Ao25 t103.length co25) t103) ∧ Aside0 (Below w.heap.size w w'))
             case atStart => exact ⟨(0), (by first | rfl | (simp; done) | (simp only [i64_w]; done) | (simp [*]; done)), H', ⟨Nat.le_refl _⟩, ⟨tN HO_5.out⟩, ⟨tB⟩⟩
             case round =>
              clear H'
              try clear c1
              try clear c2
              try clear p2
              try clear c4
              try clear c10
              try clear c10b0
              try clear c10b1
              try clear c11
              try clear c11b0
              try clear c12
              try clear c12b0
              try clear c14
              try clear c15
              try clear c15b0
              try clear c15b1
              try clear c17
              try clear c17b0
              try clear c17b1
              try clear c18
              try clear c23
              try clear c24
              try clear c24b0
              try clear p2
              obtain ⟨x9_5, rfl, HA, HK5, HO_5, HB⟩ := hrel
              cases gk with
              | zero => exact absurd HA.out (by simp [earshotlaw03_FeatureSeeds.l1])
              | succ k5 =>
               have H := HA.out
               clear HA
               simp only [earshotlaw03_FeatureSeeds.l1] at H
               by_cases c26 : x9_5 < x8_4
               ·rw [if_pos c26] at H
                have c26b0 := decide_eq_true c26
                clear c26
                by_cases c27 : 0 ≤ x8_4
                ·rw [if_pos c27] at H
                 have c27b0 := decide_eq_true c27
                 clear c27
                 by_cases c28 : x8_4 < (t103.length : Int)
                 ·rw [if_pos c28] at H
                  have c28b0 := decide_eq_true c28
                  clear c28
                  by_cases c29 : 0 ≤ x9_5
                  ·rw [if_pos c29] at H
                   have c29b0 := decide_eq_true c29
                   clear c29
                   by_cases c30 : x9_5 < (t103.length : Int)
                   ·rw [if_pos c30] at H
                    have c30b0 := decide_eq_true c30
                    clear c30
                    replace H := Option.bind_eq_some_iff.mp H
                    obtain ⟨t115, A310, H⟩ := H
                    try dsimp only at H
                    have A31 := Aside0.mk A310
                    clear A310
                    by_cases c32 : t115 = true
                    ·subst c32
                     have H1 : (some false) = some r := by rw [if_pos rfl] at H; exact H
                     clear H
                     have H := H1
                     clear H1
                     obtain rfl := Option.some.inj H
                     have p113 : 0 ≤ (x8_4 : Int) := of_decide_eq_true tA
                     have q113 : x8_4 < (t103.length : Int) := of_decide_eq_true tA
                     obtain ⟨ad113, A113_0, c113_0, e113, hx113_0, hl113_0, hi113_0⟩ := at_L2 (Kd.N_reads' HO_5.out).2.2 x8_4 p113 q113
                     cases e113
                     obtain ⟨ce113, hce113, hMe113, hcc113⟩ := Kd.N_get HO_5.out [] x8_4 p113 (by first | exact q113 | exact of_decide_eq_true tA | (have e_ := (Kd.N_reads' HO_5.out).1; omega))
                     obtain ⟨ua113_0, uc113_0, rfl, ul113_0, ge113_0⟩ := Kd.FK_slice_open hMe113
                     have hv113_0 := hcc113 0 _ rfl
                     rw [Nat.add_zero, show ((Kd.slice 3 (Kd.int .i64))).sz = 1 from rfl, Nat.mul_one] at hv113_0
                     replace hv113_0 := Option.some.inj (hv113_0.symm.trans hx113_0)
                     injection hv113_0 with hva_ hvn_ hvc_
                     rw [hva_] at ge113_0
                     rw [hvc_] at ul113_0
                     have HL113_0 := Aside0.mk (show Kd.V (Kd.int .i64) 3 _ w.heap.size _ _ (rd_L2 t103 x8_4) from Kd.V_mk ul113_0 ge113_0)
                     clear hva_ hvn_ hvc_ ge113_0 ul113_0
                     clear hcc113 hce113
                     have HR113_0 := Aside0.mk hi113_0
                     have HC113_0 := Aside0.mk hl113_0
                     clear hi113_0 hl113_0
                     replace p113 := eq_true p113
                     replace q113 := eq_true q113
                     have p114 : 0 ≤ (x9_5 : Int) := of_decide_eq_true tA
                     have q114 : x9_5 < (t103.length : Int) := of_decide_eq_true tA
                     obtain ⟨ad114, A114_0, c114_0, e114, hx114_0, hl114_0, hi114_0⟩ := at_L2 (Kd.N_reads' HO_5.out).2.2 x9_5 p114 q114
                     obtain rfl : ad113 = ad114 := (by injection e114)
                     obtain ⟨ce114, hce114, hMe114, hcc114⟩ := Kd.N_get HO_5.out [] x9_5 p114 (by first | exact q114 | exact of_decide_eq_true tA | (have e_ := (Kd.N_reads' HO_5.out).1; omega))
                     obtain ⟨ua114_0, uc114_0, rfl, ul114_0, ge114_0⟩ := Kd.FK_slice_open hMe114
                     have hv114_0 := hcc114 0 _ rfl
                     rw [Nat.add_zero, show ((Kd.slice 3 (Kd.int .i64))).sz = 1 from rfl, Nat.mul_one] at hv114_0
                     replace hv114_0 := Option.some.inj (hv114_0.symm.trans hx114_0)
                     injection hv114_0 with hva_ hvn_ hvc_
                     rw [hva_] at ge114_0
                     rw [hvc_] at ul114_0
                     have HL114_0 := Aside0.mk (show Kd.V (Kd.int .i64) 3 _ w.heap.size _ _ (rd_L2 t103 x9_5) from Kd.V_mk ul114_0 ge114_0)
                     clear hva_ hvn_ hvc_ ge114_0 ul114_0
                     clear hcc114 hce114
                     have HR114_0 := Aside0.mk hi114_0
                     have HC114_0 := Aside0.mk hl114_0
                     clear hi114_0 hl114_0
                     replace p114 := eq_true p114
                     replace q114 := eq_true q114
                     go_wp2_with (first | (go_at_call 26; (with_reducible refine (earshotref02_Same.calls k5 _ _ (rd_L2 t103 x8_4) _ _ (rd_L2 t103 x9_5) true _ ?side1 ?side2 ?side3 ?side4 A31.out).mono ?_); (case side1 => repeat (first | exact (by repeat (first | (with_reducible exact HR113_0.out) | (with_reducible refine Kd.C_alloc ?_ _) | (with_reducible refine Kd.C_drewN ?_ _) | (with_reducible refine Kd.C_drew ?_) | exact HR113_0.out)) | (with_reducible refine Kd.C_alloc ?_ _) | (with_reducible refine Kd.C_drewN ?_ _) | (with_reducible refine Kd.C_drew ?_))); (case side2 => exact HC113_0.out); (case side3 => repeat (first | exact (by repeat (first | (with_reducible exact HR114_0.out) | (with_reducible refine Kd.C_alloc ?_ _) | (with_reducible refine Kd.C_drewN ?_ _) | (with_reducible refine Kd.C_drew ?_) | exact HR114_0.out)) | (with_reducible refine Kd.C_alloc ?_ _) | (with_reducible refine Kd.C_drewN ?_ _) | (with_reducible refine Kd.C_drew ?_))); (case side4 => exact HC114_0.out); rintro e w' ⟨rfl, ⟨nd, rfl⟩⟩; (try first | exact ⟨rfl, _, World.drewN_drewN _ _ _⟩ | exact ⟨rfl, _, Eq.trans (World.drewN_drewN _ _ _) (congrArg (World.drewN _) (Nat.add_assoc _ _ _))⟩)))
                     repeat (go_quiet (first | (go_at_call 26; (with_reducible refine (earshotref02_Same.calls k5 _ _ (rd_L2 t103 x8_4) _ _ (rd_L2 t103 x9_5) true _ ?side1 ?side2 ?side3 ?side4 A31.out).mono ?_); (case side1 => repeat (first | exact (by repeat (first | (with_reducible exact HR113_0.out) | (with_reducible refine Kd.C_alloc ?_ _) | (with_reducible refine Kd.C_drewN ?_ _) | (with_reducible refine Kd.C_drew ?_) | exact HR113_0.out)) | (with_reducible refine Kd.C_alloc ?_ _) | (with_reducible refine Kd.C_drewN ?_ _) | (with_reducible refine Kd.C_drew ?_))); (case side2 => exact HC113_0.out); (case side3 => repeat (first | exact (by repeat (first | (with_reducible exact HR114_0.out) | (with_reducible refine Kd.C_alloc ?_ _) | (with_reducible refine Kd.C_drewN ?_ _) | (with_reducible refine Kd.C_drew ?_) | exact HR114_0.out)) | (with_reducible refine Kd.C_alloc ?_ _) | (with_reducible refine Kd.C_drewN ?_ _) | (with_reducible refine Kd.C_drew ?_))); (case side4 => exact HC114_0.out); rintro e w' ⟨rfl, ⟨nd, rfl⟩⟩; (try first | exact ⟨rfl, _, World.drewN_drewN _ _ _⟩ | exact ⟨rfl, _, Eq.trans (World.drewN_drewN _ _ _) (congrArg (World.drewN _) (Nat.add_assoc _ _ _))⟩))); try go_wp2_with (first | (go_at_call 26; (with_reducible refine (earshotref02_Same.calls k5 _ _ (rd_L2 t103 x8_4) _ _ (rd_L2 t103 x9_5) true _ ?side1 ?side2 ?side3 ?side4 A31.out).mono ?_); (case side1 => repeat (first | exact (by repeat (first | (with_reducible exact HR113_0.out) | (with_reducible refine Kd.C_alloc ?_ _) | (with_reducible refine Kd.C_drewN ?_ _) | (with_reducible refine Kd.C_drew ?_) | exact HR113_0.out)) | (with_reducible refine Kd.C_alloc ?_ _) | (with_reducible refine Kd.C_drewN ?_ _) | (with_reducible refine Kd.C_drew ?_))); (case side2 => exact HC113_0.out); (case side3 => repeat (first | exact (by repeat (first | (with_reducible exact HR114_0.out) | (with_reducible refine Kd.C_alloc ?_ _) | (with_reducible refine Kd.C_drewN ?_ _) | (with_reducible refine Kd.C_drew ?_) | exact HR114_0.out)) | (with_reducible refine Kd.C_alloc ?_ _) | (with_reducible refine Kd.C_drewN ?_ _) | (with_reducible refine Kd.C_drew ?_))); (case side4 => exact HC114_0.out); rintro e w' ⟨rfl, ⟨nd, rfl⟩⟩; (try first | exact ⟨rfl, _, World.drewN_drewN _ _ _⟩ | exact ⟨rfl, _, Eq.trans (World.drewN_drewN _ _ _) (congrArg (World.drewN _) (Nat.add_assoc _ _ _))⟩))))
                     go_ret
                     exact ⟨by first | rfl | (simp [errW_none, errW_some] <;> rfl) | (simp [*, errW_none, errW_some] <;> rfl), tB⟩
                    ·replace c32 := Bool.eq_false_iff.mpr c32
                     subst c32
                     have H1 : (earshotlaw03_FeatureSeeds.l1 k5 l0 a1 t103 x8_4 (wrap64 (x9_5 + 1))) = some r := by rw [if_neg (show ¬ (false = true) by decide)] at H; exact H
                     clear H
                     have H := H1
                     clear H1
                     have H' := Aside0.mk H
                     clear H
                     have p113 : 0 ≤ (x8_4 : Int) := of_decide_eq_true tA
                     have q113 : x8_4 < (t103.length : Int) := of_decide_eq_true tA
                     obtain ⟨ad113, A113_0, c113_0, e113, hx113_0, hl113_0, hi113_0⟩ := at_L2 (Kd.N_reads' HO_5.out).2.2 x8_4 p113 q113
                     cases e113
                     obtain ⟨ce113, hce113, hMe113, hcc113⟩ := Kd.N_get HO_5.out [] x8_4 p113 (by first | exact q113 | exact of_decide_eq_true tA | (have e_ := (Kd.N_reads' HO_5.out).1; omega))
                     obtain ⟨ua113_0, uc113_0, rfl, ul113_0, ge113_0⟩ := Kd.FK_slice_open hMe113
                     have hv113_0 := hcc113 0 _ rfl
                     rw [Nat.add_zero, show ((Kd.slice 3 (Kd.int .i64))).sz = 1 from rfl, Nat.mul_one] at hv113_0
                     replace hv113_0 := Option.some.inj (hv113_0.symm.trans hx113_0)
                     injection hv113_0 with hva_ hvn_ hvc_
                     rw [hva_] at ge113_0
                     rw [hvc_] at ul113_0
                     have HL113_0 := Aside0.mk (show Kd.V (Kd.int .i64) 3 _ w.heap.size _ _ (rd_L2 t103 x8_4) from Kd.V_mk ul113_0 ge113_0)
                     clear hva_ hvn_ hvc_ ge113_0 ul113_0
                     clear hcc113 hce113
                     have HR113_0 := Aside0.mk hi113_0
                     have HC113_0 := Aside0.mk hl113_0
                     clear hi113_0 hl113_0
                     replace p113 := eq_true p113
                     replace q113 := eq_true q113
                     have p114 : 0 ≤ (x9_5 : Int) := of_decide_eq_true tA
                     have q114 : x9_5 < (t103.length : Int) := of_decide_eq_true tA
                     obtain ⟨ad114, A114_0, c114_0, e114, hx114_0, hl114_0, hi114_0⟩ := at_L2 (Kd.N_reads' HO_5.out).2.2 x9_5 p114 q114
                     obtain rfl : ad113 = ad114 := (by injection e114)
                     obtain ⟨ce114, hce114, hMe114, hcc114⟩ := Kd.N_get HO_5.out [] x9_5 p114 (by first | exact q114 | exact of_decide_eq_true tA | (have e_ := (Kd.N_reads' HO_5.out).1; omega))
                     obtain ⟨ua114_0, uc114_0, rfl, ul114_0, ge114_0⟩ := Kd.FK_slice_open hMe114
                     have hv114_0 := hcc114 0 _ rfl
                     rw [Nat.add_zero, show ((Kd.slice 3 (Kd.int .i64))).sz = 1 from rfl, Nat.mul_one] at hv114_0
                     replace hv114_0 := Option.some.inj (hv114_0.symm.trans hx114_0)
                     injection hv114_0 with hva_ hvn_ hvc_
                     rw [hva_] at ge114_0
                     rw [hvc_] at ul114_0
                     have HL114_0 := Aside0.mk (show Kd.V (Kd.int .i64) 3 _ w.heap.size _ _ (rd_L2 t103 x9_5) from Kd.V_mk ul114_0 ge114_0)
                     clear hva_ hvn_ hvc_ ge114_0 ul114_0
                     clear hcc114 hce114
                     have HR114_0 := Aside0.mk hi114_0
                     have HC114_0 := Aside0.mk hl114_0
                     clear hi114_0 hl114_0
                     replace p114 := eq_true p114
                     replace q114 := eq_true q114
                     go_wp2_with (first | (go_at_call 26; (with_reducible refine (earshotref02_Same.calls k5 _ _ (rd_L2 t103 x8_4) _ _ (rd_L2 t103 x9_5) false _ ?side1 ?side2 ?side3 ?side4 A31.out).mono ?_); (case side1 => repeat (first | exact (by repeat (first | (with_reducible exact HR113_0.out) | (with_reducible refine Kd.C_alloc ?_ _) | (with_reducible refine Kd.C_drewN ?_ _) | (with_reducible refine Kd.C_drew ?_) | exact HR113_0.out)) | (with_reducible refine Kd.C_alloc ?_ _) | (with_reducible refine Kd.C_drewN ?_ _) | (with_reducible refine Kd.C_drew ?_))); (case side2 => exact HC113_0.out); (case side3 => repeat (first | exact (by repeat (first | (with_reducible exact HR114_0.out) | (with_reducible refine Kd.C_alloc ?_ _) | (with_reducible refine Kd.C_drewN ?_ _) | (with_reducible refine Kd.C_drew ?_) | exact HR114_0.out)) | (with_reducible refine Kd.C_alloc ?_ _) | (with_reducible refine Kd.C_drewN ?_ _) | (with_reducible refine Kd.C_drew ?_))); (case side4 => exact HC114_0.out); rintro e w' ⟨rfl, ⟨nd, rfl⟩⟩; (try first | exact ⟨rfl, _, World.drewN_drewN _ _ _⟩ | exact ⟨rfl, _, Eq.trans (World.drewN_drewN _ _ _) (congrArg (World.drewN _) (Nat.add_assoc _ _ _))⟩)))
                     repeat (go_quiet (first | (go_at_call 26; (with_reducible refine (earshotref02_Same.calls k5 _ _ (rd_L2 t103 x8_4) _ _ (rd_L2 t103 x9_5) false _ ?side1 ?side2 ?side3 ?side4 A31.out).mono ?_); (case side1 => repeat (first | exact (by repeat (first | (with_reducible exact HR113_0.out) | (with_reducible refine Kd.C_alloc ?_ _) | (with_reducible refine Kd.C_drewN ?_ _) | (with_reducible refine Kd.C_drew ?_) | exact HR113_0.out)) | (with_reducible refine Kd.C_alloc ?_ _) | (with_reducible refine Kd.C_drewN ?_ _) | (with_reducible refine Kd.C_drew ?_))); (case side2 => exact HC113_0.out); (case side3 => repeat (first | exact (by repeat (first | (with_reducible exact HR114_0.out) | (with_reducible refine Kd.C_alloc ?_ _) | (with_reducible refine Kd.C_drewN ?_ _) | (with_reducible refine Kd.C_drew ?_) | exact HR114_0.out)) | (with_reducible refine Kd.C_alloc ?_ _) | (with_reducible refine Kd.C_drewN ?_ _) | (with_reducible refine Kd.C_drew ?_))); (case side4 => exact HC114_0.out); rintro e w' ⟨rfl, ⟨nd, rfl⟩⟩; (try first | exact ⟨rfl, _, World.drewN_drewN _ _ _⟩ | exact ⟨rfl, _, Eq.trans (World.drewN_drewN _ _ _) (congrArg (World.drewN _) (Nat.add_assoc _ _ _))⟩))); try go_wp2_with (first | (go_at_call 26; (with_reducible refine (earshotref02_Same.calls k5 _ _ (rd_L2 t103 x8_4) _ _ (rd_L2 t103 x9_5) false _ ?side1 ?side2 ?side3 ?side4 A31.out).mono ?_); (case side1 => repeat (first | exact (by repeat (first | (with_reducible exact HR113_0.out) | (with_reducible refine Kd.C_alloc ?_ _) | (with_reducible refine Kd.C_drewN ?_ _) | (with_reducible refine Kd.C_drew ?_) | exact HR113_0.out)) | (with_reducible refine Kd.C_alloc ?_ _) | (with_reducible refine Kd.C_drewN ?_ _) | (with_reducible refine Kd.C_drew ?_))); (case side2 => exact HC113_0.out); (case side3 => repeat (first | exact (by repeat (first | (with_reducible exact HR114_0.out) | (with_reducible refine Kd.C_alloc ?_ _) | (with_reducible refine Kd.C_drewN ?_ _) | (with_reducible refine Kd.C_drew ?_) | exact HR114_0.out)) | (with_reducible refine Kd.C_alloc ?_ _) | (with_reducible refine Kd.C_drewN ?_ _) | (with_reducible refine Kd.C_drew ?_))); (case side4 => exact HC114_0.out); rintro e w' ⟨rfl, ⟨nd, rfl⟩⟩; (try first | exact ⟨rfl, _, World.drewN_drewN _ _ _⟩ | exact ⟨rfl, _, Eq.trans (World.drewN_drewN _ _ _) (congrArg (World.drewN _) (Nat.add_assoc _ _ _))⟩))))
                     go_roundg k5
                     case measure => have := HJ6.out; have := HJ12.out; have := HJ15.out; have := HK4.out; have := HK5.out; omega
                     case rel => exact ⟨(wrap64 (x9_5 + 1)), (by first | rfl | (simp; done) | (simp only [i64_w]; done) | (simp [*]; done)), H', ⟨by have := HJ6.out; have := HJ12.out; have := HJ15.out; have := HK4.out; have := HK5.out; omega⟩, ⟨tN HO_5.out⟩, ⟨tB⟩⟩
                   ·rw [if_neg c30] at H
                    exact absurd H (by simp)
                  ·rw [if_neg c29] at H
                   exact absurd H (by simp)
                 ·rw [if_neg c28] at H
                  exact absurd H (by simp)
                ·rw [if_neg c27] at H
                 exact absurd H (by simp)
               ·rw [if_neg c26] at H
                have c26b0 := decide_eq_false c26
                clear c26
                have H' := Aside0.mk H
                clear H
                go_wp2
                repeat (go_quiet (fail); try go_wp2)
                go_roundg k5
                case measure => have := HJ6.out; have := HJ12.out; have := HJ15.out; have := HK4.out; have := HK5.out; omega
                case rel => exact ⟨(wrap64 (x8_4 + 1)), (by first | rfl | (simp; done) | (simp only [i64_w]; done) | (simp [*]; done)), H', ⟨by have := HJ6.out; have := HJ12.out; have := HJ15.out; have := HK4.out; have := HK5.out; omega⟩, ⟨tN HO_5.out⟩, ⟨tB⟩⟩
            ·rw [if_neg c24] at H
             have c24b0 := decide_eq_false c24
             clear c24
             by_cases c33 : (t103.length : Int) = a1
             ·rw [if_pos c33] at H
              have c33b0 : ((t103.length : Int) == a1) = true := beq_iff_eq.mpr c33
              have c33b1 : ((t103.length : Int) != a1) = false := bne_eq_false_iff_eq.mpr c33
              clear c33
              replace H := Option.bind_eq_some_iff.mp H
              obtain ⟨t116, A340, H⟩ := H
              try dsimp only at H
              have A34 := Aside0.mk A340
              clear A340
              obtain rfl := Option.some.inj H
              obtain ⟨Ao35, co35, eo35⟩ := Kd.N_slice HO_5.out
              subst eo35
              go_wp2_with (first | (go_at_call 22; (with_reducible refine (earshotlaw03_known.calls k4  t116 _ ?side1 A34.out).mono ?_); (case side1 => exact tC (Kd.C_below HRT.out HB.out)); rintro e w36 ⟨rfl, hb⟩; have n0_ := Aside0.mk (Kd.N_below (tN HO_5.out) hb); have n1_ := Aside0.mk (below_step tB hb); clear HO_5; clear HB; have HO_5 := n0_; have HB := n1_; clear n0_ n1_; (try clear hb); (try clear hb2); (try clear hk); (try clear hi)))
              repeat (go_quiet (first | (go_at_call 22; (with_reducible refine (earshotlaw03_known.calls k4  t116 _ ?side1 A34.out).mono ?_); (case side1 => exact tC (Kd.C_below HRT.out HB.out)); rintro e w36 ⟨rfl, hb⟩; have n0_ := Aside0.mk (Kd.N_below (tN HO_5.out) hb); have n1_ := Aside0.mk (below_step tB hb); clear HO_5; clear HB; have HO_5 := n0_; have HB := n1_; clear n0_ n1_; (try clear hb); (try clear hb2); (try clear hk); (try clear hi))); try go_wp2_with (first | (go_at_call 22; (with_reducible refine (earshotlaw03_known.calls k4  t116 _ ?side1 A34.out).mono ?_); (case side1 => exact tC (Kd.C_below HRT.out HB.out)); rintro e w36 ⟨rfl, hb⟩; have n0_ := Aside0.mk (Kd.N_below (tN HO_5.out) hb); have n1_ := Aside0.mk (below_step tB hb); clear HO_5; clear HB; have HO_5 := n0_; have HB := n1_; clear n0_ n1_; (try clear hb); (try clear hb2); (try clear hk); (try clear hi))))
              go_ret
              exact ⟨by first | rfl | (simp [errW_none, errW_some] <;> rfl) | (simp [*, errW_none, errW_some] <;> rfl), tB⟩
             ·rw [if_neg c33] at H
              have c33b0 : ((t103.length : Int) == a1) = false := beq_eq_false_iff_ne.mpr c33
              have c33b1 : ((t103.length : Int) != a1) = true := bne_iff_ne.mpr c33
              replace H := Option.bind_eq_some_iff.mp H
              obtain ⟨⟨t117, t118⟩, A370, H⟩ := H
              try dsimp only at H
              have A37 := Aside0.mk A370
              clear A370
              by_cases c38 : t118 = 0
              ·rw [if_pos c38] at H
               have c38b0 : (t118 == 0) = true := beq_iff_eq.mpr c38
               have c38b1 : (t118 != 0) = false := bne_eq_false_iff_eq.mpr c38
               clear c38
               by_cases c39 : t117 = 0
               ·rw [if_pos c39] at H
                have c39b0 : (t117 == 0) = true := beq_iff_eq.mpr c39
                have c39b1 : (t117 != 0) = false := bne_eq_false_iff_eq.mpr c39
                clear c39
                replace H := Option.bind_eq_some_iff.mp H
                obtain ⟨t119, A400, H⟩ := H
                try dsimp only at H
                have A40 := Aside0.mk A400
                clear A400
                obtain rfl := Option.some.inj H
                obtain ⟨Ao41, co41, eo41⟩ := Kd.N_slice HO_5.out
                subst eo41
                go_wp2_with (first | (go_at_call 62; (with_reducible refine (feature_Cost.calls k4 _ _ l0 _ _ t103 t117 t118 _ ?side1 ?side2 ?side3 ?side4 A37.out).mono ?_); (case side1 => exact tC (Kd.C_below HR0.out HB.out)); (case side2 => exact HC0.out); (case side3 => exact tC (Kd.N_reads' HO_5.out).2.2); (case side4 => exact (Kd.N_reads' HO_5.out).2.1); rintro e w42 ⟨rfl, hb⟩; have n0_ := Aside0.mk (Kd.N_below (tN HO_5.out) hb); have n1_ := Aside0.mk (below_step tB hb); clear HO_5; clear HB; have HO_5 := n0_; have HB := n1_; clear n0_ n1_; (try clear hb); (try clear hb2); (try clear hk); (try clear hi)) | (go_at_call 22; (with_reducible refine (earshotlaw03_known.calls k4  t119 _ ?side1 A40.out).mono ?_); (case side1 => exact tC (Kd.C_below HRT.out HB.out)); rintro e w43 ⟨rfl, hb⟩; have n0_ := Aside0.mk (Kd.N_below (tN HO_5.out) hb); have n1_ := Aside0.mk (below_step tB hb); clear HO_5; clear HB; have HO_5 := n0_; have HB := n1_; clear n0_ n1_; (try clear hb); (try clear hb2); (try clear hk); (try clear hi)))
                repeat (go_quiet (first | (go_at_call 62; (with_reducible refine (feature_Cost.calls k4 _ _ l0 _ _ t103 t117 t118 _ ?side1 ?side2 ?side3 ?side4 A37.out).mono ?_); (case side1 => exact tC (Kd.C_below HR0.out HB.out)); (case side2 => exact HC0.out); (case side3 => exact tC (Kd.N_reads' HO_5.out).2.2); (case side4 => exact (Kd.N_reads' HO_5.out).2.1); rintro e w42 ⟨rfl, hb⟩; have n0_ := Aside0.mk (Kd.N_below (tN HO_5.out) hb); have n1_ := Aside0.mk (below_step tB hb); clear HO_5; clear HB; have HO_5 := n0_; have HB := n1_; clear n0_ n1_; (try clear hb); (try clear hb2); (try clear hk); (try clear hi)) | (go_at_call 22; (with_reducible refine (earshotlaw03_known.calls k4  t119 _ ?side1 A40.out).mono ?_); (case side1 => exact tC (Kd.C_below HRT.out HB.out)); rintro e w43 ⟨rfl, hb⟩; have n0_ := Aside0.mk (Kd.N_below (tN HO_5.out) hb); have n1_ := Aside0.mk (below_step tB hb); clear HO_5; clear HB; have HO_5 := n0_; have HB := n1_; clear n0_ n1_; (try clear hb); (try clear hb2); (try clear hk); (try clear hi))); try go_wp2_with (first | (go_at_call 62; (with_reducible refine (feature_Cost.calls k4 _ _ l0 _ _ t103 t117 t118 _ ?side1 ?side2 ?side3 ?side4 A37.out).mono ?_); (case side1 => exact tC (Kd.C_below HR0.out HB.out)); (case side2 => exact HC0.out); (case side3 => exact tC (Kd.N_reads' HO_5.out).2.2); (case side4 => exact (Kd.N_reads' HO_5.out).2.1); rintro e w42 ⟨rfl, hb⟩; have n0_ := Aside0.mk (Kd.N_below (tN HO_5.out) hb); have n1_ := Aside0.mk (below_step tB hb); clear HO_5; clear HB; have HO_5 := n0_; have HB := n1_; clear n0_ n1_; (try clear hb); (try clear hb2); (try clear hk); (try clear hi)) | (go_at_call 22; (with_reducible refine (earshotlaw03_known.calls k4  t119 _ ?side1 A40.out).mono ?_); (case side1 => exact tC (Kd.C_below HRT.out HB.out)); rintro e w43 ⟨rfl, hb⟩; have n0_ := Aside0.mk (Kd.N_below (tN HO_5.out) hb); have n1_ := Aside0.mk (below_step tB hb); clear HO_5; clear HB; have HO_5 := n0_; have HB := n1_; clear n0_ n1_; (try clear hb); (try clear hb2); (try clear hk); (try clear hi))))
                go_ret
                exact ⟨by first | rfl | (simp [errW_none, errW_some] <;> rfl) | (simp [*, errW_none, errW_some] <;> rfl), tB⟩
               ·rw [if_neg c39] at H
                have c39b0 : (t117 == 0) = false := beq_eq_false_iff_ne.mpr c39
                have c39b1 : (t117 != 0) = true := bne_iff_ne.mpr c39
                obtain rfl := Option.some.inj H
                obtain ⟨Ao44, co44, eo44⟩ := Kd.N_slice HO_5.out
                subst eo44
                go_wp2_with (first | (go_at_call 62; (with_reducible refine (feature_Cost.calls k4 _ _ l0 _ _ t103 t117 t118 _ ?side1 ?side2 ?side3 ?side4 A37.out).mono ?_); (case side1 => exact tC (Kd.C_below HR0.out HB.out)); (case side2 => exact HC0.out); (case side3 => exact tC (Kd.N_reads' HO_5.out).2.2); (case side4 => exact (Kd.N_reads' HO_5.out).2.1); rintro e w45 ⟨rfl, hb⟩; have n0_ := Aside0.mk (Kd.N_below (tN HO_5.out) hb); have n1_ := Aside0.mk (below_step tB hb); clear HO_5; clear HB; have HO_5 := n0_; have HB := n1_; clear n0_ n1_; (try clear hb); (try clear hb2); (try clear hk); (try clear hi)))
                repeat (go_quiet (first | (go_at_call 62; (with_reducible refine (feature_Cost.calls k4 _ _ l0 _ _ t103 t117 t118 _ ?side1 ?side2 ?side3 ?side4 A37.out).mono ?_); (case side1 => exact tC (Kd.C_below HR0.out HB.out)); (case side2 => exact HC0.out); (case side3 => exact tC (Kd.N_reads' HO_5.out).2.2); (case side4 => exact (Kd.N_reads' HO_5.out).2.1); rintro e w45 ⟨rfl, hb⟩; have n0_ := Aside0.mk (Kd.N_below (tN HO_5.out) hb); have n1_ := Aside0.mk (below_step tB hb); clear HO_5; clear HB; have HO_5 := n0_; have HB := n1_; clear n0_ n1_; (try clear hb); (try clear hb2); (try clear hk); (try clear hi))); try go_wp2_with (first | (go_at_call 62; (with_reducible refine (feature_Cost.calls k4 _ _ l0 _ _ t103 t117 t118 _ ?side1 ?side2 ?side3 ?side4 A37.out).mono ?_); (case side1 => exact tC (Kd.C_below HR0.out HB.out)); (case side2 => exact HC0.out); (case side3 => exact tC (Kd.N_reads' HO_5.out).2.2); (case side4 => exact (Kd.N_reads' HO_5.out).2.1); rintro e w45 ⟨rfl, hb⟩; have n0_ := Aside0.mk (Kd.N_below (tN HO_5.out) hb); have n1_ := Aside0.mk (below_step tB hb); clear HO_5; clear HB; have HO_5 := n0_; have HB := n1_; clear n0_ n1_; (try clear hb); (try clear hb2); (try clear hk); (try clear hi))))
                go_ret
                exact ⟨by first | rfl | (simp [errW_none, errW_some] <;> rfl) | (simp [*, errW_none, errW_some] <;> rfl), tB⟩
              ·rw [if_neg c38] at H
               have c38b0 : (t118 == 0) = false := beq_eq_false_iff_ne.mpr c38
               have c38b1 : (t118 != 0) = true := bne_iff_ne.mpr c38
               obtain rfl := Option.some.inj H
               obtain ⟨Ao46, co46, eo46⟩ := Kd.N_slice HO_5.out
               subst eo46
               go_wp2_with (first | (go_at_call 62; (with_reducible refine (feature_Cost.calls k4 _ _ l0 _ _ t103 t117 t118 _ ?side1 ?side2 ?side3 ?side4 A37.out).mono ?_); (case side1 => exact tC (Kd.C_below HR0.out HB.out)); (case side2 => exact HC0.out); (case side3 => exact tC (Kd.N_reads' HO_5.out).2.2); (case side4 => exact (Kd.N_reads' HO_5.out).2.1); rintro e w47 ⟨rfl, hb⟩; have n0_ := Aside0.mk (Kd.N_below (tN HO_5.out) hb); have n1_ := Aside0.mk (below_step tB hb); clear HO_5; clear HB; have HO_5 := n0_; have HB := n1_; clear n0_ n1_; (try clear hb); (try clear hb2); (try clear hk); (try clear hi)))
               repeat (go_quiet (first | (go_at_call 62; (with_reducible refine (feature_Cost.calls k4 _ _ l0 _ _ t103 t117 t118 _ ?side1 ?side2 ?side3 ?side4 A37.out).mono ?_); (case side1 => exact tC (Kd.C_below HR0.out HB.out)); (case side2 => exact HC0.out); (case side3 => exact tC (Kd.N_reads' HO_5.out).2.2); (case side4 => exact (Kd.N_reads' HO_5.out).2.1); rintro e w47 ⟨rfl, hb⟩; have n0_ := Aside0.mk (Kd.N_below (tN HO_5.out) hb); have n1_ := Aside0.mk (below_step tB hb); clear HO_5; clear HB; have HO_5 := n0_; have HB := n1_; clear n0_ n1_; (try clear hb); (try clear hb2); (try clear hk); (try clear hi))); try go_wp2_with (first | (go_at_call 62; (with_reducible refine (feature_Cost.calls k4 _ _ l0 _ _ t103 t117 t118 _ ?side1 ?side2 ?side3 ?side4 A37.out).mono ?_); (case side1 => exact tC (Kd.C_below HR0.out HB.out)); (case side2 => exact HC0.out); (case side3 => exact tC (Kd.N_reads' HO_5.out).2.2); (case side4 => exact (Kd.N_reads' HO_5.out).2.1); rintro e w47 ⟨rfl, hb⟩; have n0_ := Aside0.mk (Kd.N_below (tN HO_5.out) hb); have n1_ := Aside0.mk (below_step tB hb); clear HO_5; clear HB; have HO_5 := n0_; have HB := n1_; clear n0_ n1_; (try clear hb); (try clear hb2); (try clear hk); (try clear hi))))
               go_ret
               exact ⟨by first | rfl | (simp [errW_none, errW_some] <;> rfl) | (simp [*, errW_none, errW_some] <;> rfl), tB⟩
      ·rw [if_neg c15] at H
       have c15b0 : (x7_12 == 0) = false := beq_eq_false_iff_ne.mpr c15
       have c15b1 : (x7_12 != 0) = true := bne_iff_ne.mpr c15
       by_cases c48 : t106 = x7_12
       ·rw [if_pos c48] at H
        have c48b0 : (t106 == x7_12) = true := beq_iff_eq.mpr c48
        have c48b1 : (t106 != x7_12) = false := bne_eq_false_iff_eq.mpr c48
        clear c48
        by_cases c49 : (t103.length : Int) = 0
        ·rw [if_pos c49] at H
         have c49b0 : ((t103.length : Int) == 0) = true := beq_iff_eq.mpr c49
         have c49b1 : ((t103.length : Int) != 0) = false := bne_eq_false_iff_eq.mpr c49
         clear c49
         replace H := Option.bind_eq_some_iff.mp H
         obtain ⟨t108, A500, H⟩ := H
         try dsimp only at H
         have A50 := Aside0.mk A500
         clear A500
         obtain rfl := Option.some.inj H
         obtain ⟨Ao51, co51, eo51⟩ := Kd.N_slice HO_5.out
         subst eo51
         go_wp2_with (first | (go_at_call 22; (with_reducible refine (earshotlaw03_known.calls kj12  t108 _ ?side1 A50.out).mono ?_); (case side1 => exact tC (Kd.C_below HRT.out HB.out)); rintro e w52 ⟨rfl, hb⟩; have n0_ := Aside0.mk (Kd.N_below (tN HO_5.out) hb); have n1_ := Aside0.mk (below_step tB hb); clear HO_5; clear HB; have HO_5 := n0_; have HB := n1_; clear n0_ n1_; (try clear hb); (try clear hb2); (try clear hk); (try clear hi)))
         repeat (go_quiet (first | (go_at_call 22; (with_reducible refine (earshotlaw03_known.calls kj12  t108 _ ?side1 A50.out).mono ?_); (case side1 => exact tC (Kd.C_below HRT.out HB.out)); rintro e w52 ⟨rfl, hb⟩; have n0_ := Aside0.mk (Kd.N_below (tN HO_5.out) hb); have n1_ := Aside0.mk (below_step tB hb); clear HO_5; clear HB; have HO_5 := n0_; have HB := n1_; clear n0_ n1_; (try clear hb); (try clear hb2); (try clear hk); (try clear hi))); try go_wp2_with (first | (go_at_call 22; (with_reducible refine (earshotlaw03_known.calls kj12  t108 _ ?side1 A50.out).mono ?_); (case side1 => exact tC (Kd.C_below HRT.out HB.out)); rintro e w52 ⟨rfl, hb⟩; have n0_ := Aside0.mk (Kd.N_below (tN HO_5.out) hb); have n1_ := Aside0.mk (below_step tB hb); clear HO_5; clear HB; have HO_5 := n0_; have HB := n1_; clear n0_ n1_; (try clear hb); (try clear hb2); (try clear hk); (try clear hi))))
         go_ret
         exact ⟨by first | rfl | (simp [errW_none, errW_some] <;> rfl) | (simp [*, errW_none, errW_some] <;> rfl), tB⟩
        ·rw [if_neg c49] at H
         have c49b0 : ((t103.length : Int) == 0) = false := beq_eq_false_iff_ne.mpr c49
         have c49b1 : ((t103.length : Int) != 0) = true := bne_iff_ne.mpr c49
         have c49b2 : ¬ (t103 = []) := fun h_ => c49 (by rw [h_]; rfl)
         obtain rfl := Option.some.inj H
         obtain ⟨Ao53, co53, eo53⟩ := Kd.N_slice HO_5.out
         subst eo53
         go_wp2
         repeat (go_quiet (fail); try go_wp2)
         go_ret
         exact ⟨by first | rfl | (simp [errW_none, errW_some] <;> rfl) | (simp [*, errW_none, errW_some] <;> rfl), tB⟩
       ·rw [if_neg c48] at H
        have c48b0 : (t106 == x7_12) = false := beq_eq_false_iff_ne.mpr c48
        have c48b1 : (t106 != x7_12) = true := bne_iff_ne.mpr c48
        obtain rfl := Option.some.inj H
        go_wp2
        repeat (go_quiet (fail); try go_wp2)
        go_ret
        exact ⟨by first | rfl | (simp [errW_none, errW_some] <;> rfl) | (simp [*, errW_none, errW_some] <;> rfl), tB⟩
 ·replace c4 := Bool.eq_false_iff.mpr c4
  subst c4
  have H1 : ((earshotlaw03_known.f k).bind fun t102 => (some t102)) = some r := by rw [if_neg (show ¬ (false = true) by decide)] at H; exact H
  clear H
  have H := H1
  clear H1
  replace H := Option.bind_eq_some_iff.mp H
  obtain ⟨t102, A540, H⟩ := H
  try dsimp only at H
  have A54 := Aside0.mk A540
  clear A540
  obtain rfl := Option.some.inj H
  go_enter Tryd.func18, Tryd.ntmps18
  go_wp2_with (first | (go_at_call 55; (with_reducible refine (earshotlaw03_few.calls k _ _ l0 30 false _ ?side1 ?side2 A3.out).mono ?_); (case side1 => exact tC HR0.out); (case side2 => exact HC0.out); rintro e w' ⟨rfl, ⟨nd, rfl⟩⟩; (try first | exact ⟨rfl, _, World.drewN_drewN _ _ _⟩ | exact ⟨rfl, _, Eq.trans (World.drewN_drewN _ _ _) (congrArg (World.drewN _) (Nat.add_assoc _ _ _))⟩)) | (go_at_call 22; (with_reducible refine (earshotlaw03_known.calls k  t102 _ ?side1 A54.out).mono ?_); (case side1 => exact tC HRT.out); rintro e w55 ⟨rfl, hb⟩; have n0_ := Aside0.mk (below_step tB hb); clear HB; have HB := n0_; clear n0_; (try clear hb); (try clear hb2); (try clear hk); (try clear hi)))
  repeat (go_quiet (first | (go_at_call 55; (with_reducible refine (earshotlaw03_few.calls k _ _ l0 30 false _ ?side1 ?side2 A3.out).mono ?_); (case side1 => exact tC HR0.out); (case side2 => exact HC0.out); rintro e w' ⟨rfl, ⟨nd, rfl⟩⟩; (try first | exact ⟨rfl, _, World.drewN_drewN _ _ _⟩ | exact ⟨rfl, _, Eq.trans (World.drewN_drewN _ _ _) (congrArg (World.drewN _) (Nat.add_assoc _ _ _))⟩)) | (go_at_call 22; (with_reducible refine (earshotlaw03_known.calls k  t102 _ ?side1 A54.out).mono ?_); (case side1 => exact tC HRT.out); rintro e w55 ⟨rfl, hb⟩; have n0_ := Aside0.mk (below_step tB hb); clear HB; have HB := n0_; clear n0_; (try clear hb); (try clear hb2); (try clear hk); (try clear hi))); try go_wp2_with (first | (go_at_call 55; (with_reducible refine (earshotlaw03_few.calls k _ _ l0 30 false _ ?side1 ?side2 A3.out).mono ?_); (case side1 => exact tC HR0.out); (case side2 => exact HC0.out); rintro e w' ⟨rfl, ⟨nd, rfl⟩⟩; (try first | exact ⟨rfl, _, World.drewN_drewN _ _ _⟩ | exact ⟨rfl, _, Eq.trans (World.drewN_drewN _ _ _) (congrArg (World.drewN _) (Nat.add_assoc _ _ _))⟩)) | (go_at_call 22; (with_reducible refine (earshotlaw03_known.calls k  t102 _ ?side1 A54.out).mono ?_); (case side1 => exact tC HRT.out); rintro e w55 ⟨rfl, hb⟩; have n0_ := Aside0.mk (below_step tB hb); clear HB; have HB := n0_; clear n0_; (try clear hb); (try clear hb2); (try clear hk); (try clear hi))))
  go_ret
  exact ⟨by first | rfl | (simp [errW_none, errW_some] <;> rfl) | (simp [*, errW_none, errW_some] <;> rfl), tB⟩

/-! ### earshotref03_Length: function 24 -/
def earshotref03_Length.f (a0 : Int) : Option (Bool) := if a0 = 1 then (some true) else (if a0 = 2 then (some true) else (if a0 = 4 then (some true) else (if a0 = 8 then (some true) else (if a0 = 16 then (some true) else (if a0 = 32 then (some true) else (some (a0 == 64)))))))
set_option maxHeartbeats 8000000 in
set_option maxRecDepth 100000 in
theorem earshotref03_Length.calls (a0 : Int) (r : Bool) (w : World) (h : earshotref03_Length.f a0 = some r) :
  Calls Tryd.prog 24 #[.int .i64 a0] w fun e w' => e = .returned (.bool r) ∧ Drawn0 w w' := by
 have H : (if a0 = 1 then (some true) else (if a0 = 2 then (some true) else (if a0 = 4 then (some true) else (if a0 = 8 then (some true) else (if a0 = 16 then (some true) else (if a0 = 32 then (some true) else (some (a0 == 64)))))))) = some r := h
 clear h
 by_cases c2 : a0 = 1
 ·rw [if_pos c2] at H
  have c2b0 : (a0 == 1) = true := beq_iff_eq.mpr c2
  have c2b1 : (a0 != 1) = false := bne_eq_false_iff_eq.mpr c2
  clear c2
  obtain rfl := Option.some.inj H
  go_enter Tryd.func24, Tryd.ntmps24
  go_wp2
  go_ret
  exact ⟨by first | rfl | (simp; done) | (simp [*]; done), by repeat (first | exact Drawn0.refl _ | apply Drawn0.step)⟩
 ·rw [if_neg c2] at H
  have c2b0 : (a0 == 1) = false := beq_eq_false_iff_ne.mpr c2
  have c2b1 : (a0 != 1) = true := bne_iff_ne.mpr c2
  by_cases c3 : a0 = 2
  ·rw [if_pos c3] at H
   have c3b0 : (a0 == 2) = true := beq_iff_eq.mpr c3
   have c3b1 : (a0 != 2) = false := bne_eq_false_iff_eq.mpr c3
   clear c3
   obtain rfl := Option.some.inj H
   go_enter Tryd.func24, Tryd.ntmps24
   go_wp2
   go_ret
   exact ⟨by first | rfl | (simp; done) | (simp [*]; done), by repeat (first | exact Drawn0.refl _ | apply Drawn0.step)⟩
  ·rw [if_neg c3] at H
   have c3b0 : (a0 == 2) = false := beq_eq_false_iff_ne.mpr c3
   have c3b1 : (a0 != 2) = true := bne_iff_ne.mpr c3
   by_cases c4 : a0 = 4
   ·rw [if_pos c4] at H
    have c4b0 : (a0 == 4) = true := beq_iff_eq.mpr c4
    have c4b1 : (a0 != 4) = false := bne_eq_false_iff_eq.mpr c4
    clear c4
    obtain rfl := Option.some.inj H
    go_enter Tryd.func24, Tryd.ntmps24
    go_wp2
    go_ret
    exact ⟨by first | rfl | (simp; done) | (simp [*]; done), by repeat (first | exact Drawn0.refl _ | apply Drawn0.step)⟩
   ·rw [if_neg c4] at H
    have c4b0 : (a0 == 4) = false := beq_eq_false_iff_ne.mpr c4
    have c4b1 : (a0 != 4) = true := bne_iff_ne.mpr c4
    by_cases c5 : a0 = 8
    ·rw [if_pos c5] at H
     have c5b0 : (a0 == 8) = true := beq_iff_eq.mpr c5
     have c5b1 : (a0 != 8) = false := bne_eq_false_iff_eq.mpr c5
     clear c5
     obtain rfl := Option.some.inj H
     go_enter Tryd.func24, Tryd.ntmps24
     go_wp2
     go_ret
     exact ⟨by first | rfl | (simp; done) | (simp [*]; done), by repeat (first | exact Drawn0.refl _ | apply Drawn0.step)⟩
    ·rw [if_neg c5] at H
     have c5b0 : (a0 == 8) = false := beq_eq_false_iff_ne.mpr c5
     have c5b1 : (a0 != 8) = true := bne_iff_ne.mpr c5
     by_cases c6 : a0 = 16
     ·rw [if_pos c6] at H
      have c6b0 : (a0 == 16) = true := beq_iff_eq.mpr c6
      have c6b1 : (a0 != 16) = false := bne_eq_false_iff_eq.mpr c6
      clear c6
      obtain rfl := Option.some.inj H
      go_enter Tryd.func24, Tryd.ntmps24
      go_wp2
      go_ret
      exact ⟨by first | rfl | (simp; done) | (simp [*]; done), by repeat (first | exact Drawn0.refl _ | apply Drawn0.step)⟩
     ·rw [if_neg c6] at H
      have c6b0 : (a0 == 16) = false := beq_eq_false_iff_ne.mpr c6
      have c6b1 : (a0 != 16) = true := bne_iff_ne.mpr c6
      by_cases c7 : a0 = 32
      ·rw [if_pos c7] at H
       have c7b0 : (a0 == 32) = true := beq_iff_eq.mpr c7
       have c7b1 : (a0 != 32) = false := bne_eq_false_iff_eq.mpr c7
       clear c7
       obtain rfl := Option.some.inj H
       go_enter Tryd.func24, Tryd.ntmps24
       go_wp2
       go_ret
       exact ⟨by first | rfl | (simp; done) | (simp [*]; done), by repeat (first | exact Drawn0.refl _ | apply Drawn0.step)⟩
      ·rw [if_neg c7] at H
       have c7b0 : (a0 == 32) = false := beq_eq_false_iff_ne.mpr c7
       have c7b1 : (a0 != 32) = true := bne_iff_ne.mpr c7
       obtain rfl := Option.some.inj H
       go_enter Tryd.func24, Tryd.ntmps24
       go_wp2
       go_ret
       exact ⟨by first | rfl | (simp; done) | (simp [*]; done), by repeat (first | exact Drawn0.refl _ | apply Drawn0.step)⟩

end Go.Proofs.YtdlbmbijobcljaaDoor.X
